/- Comparisons of quotients. No condition. -/
import Derived.Test.YtgeficpcnlgnhaaC1
set_option linter.unusedVariables false
set_option linter.unusedSimpArgs false
set_option maxRecDepth 100000
namespace Go.Proofs.YtgeficpcnlgnhaaG
open Go Go.AM Go.Proofs

theorem isNaN_ok (n : Int) : PureFn Try.prog 65 [int n] (boolD (!decide (n = n))) := pureFn_by Try.func65 k65 rfl rfl rfl
theorem isNaNu_ok (n : Int) : PureFn Try.prog 66 [u64 n] (boolD (!decide (n = n))) := pureFn_by Try.func66 k66 rfl rfl rfl
def cmpF (a b : Int) : Int := if a < b then -1 else if b < a then 1 else 0
theorem cmp_ok (a b : Int) : PureFn Try.prog 51 [int a, int b] (int (cmpF a b)) := by
  unfold cmpF
  refine pureFn_by Try.func51 k51 rfl rfl ?_
  conv => whnf
  refine ⟨_, isNaN_ok _, ?_⟩
  conv => whnf
  refine ⟨_, isNaN_ok _, ?_⟩
  rw [show (!decide (a = a)) = false by simp, show (!decide (b = b)) = false by simp]
  conv => whnf
  cases h1 : decide (a < b)
  · conv => whnf
    have h1' := of_decide_eq_false h1
    cases h2 : decide (b < a)
    · have h2' := of_decide_eq_false h2
      conv => whnf
      simp only [h1', h2', if_false]; rfl
    · have h2' := of_decide_eq_true h2
      conv => whnf
      simp only [h1', h2', if_false, if_true]; rfl
  · have h1' := of_decide_eq_true h1
    conv => whnf
    simp only [h1', if_true]; rfl
theorem cmpu_ok (a b : Int) : PureFn Try.prog 54 [u64 a, u64 b] (int (cmpF a b)) := by
  unfold cmpF
  refine pureFn_by Try.func54 k54 rfl rfl ?_
  conv => whnf
  refine ⟨_, isNaNu_ok _, ?_⟩
  conv => whnf
  refine ⟨_, isNaNu_ok _, ?_⟩
  rw [show (!decide (a = a)) = false by simp, show (!decide (b = b)) = false by simp]
  conv => whnf
  cases h1 : decide (a < b)
  · conv => whnf
    have h1' := of_decide_eq_false h1
    cases h2 : decide (b < a)
    · have h2' := of_decide_eq_false h2
      conv => whnf
      simp only [h1', h2', if_false]; rfl
    · have h2' := of_decide_eq_true h2
      conv => whnf
      simp only [h1', h2', if_false, if_true]; rfl
  · have h1' := of_decide_eq_true h1
    conv => whnf
    simp only [h1', if_true]; rfl

def orF (a b : Int) : Int := if a = 0 then b else a
theorem or_ok (a b : Int) : PureFn Try.prog 53 [.list [[int a], [int b]]] (int (orF a b)) := by
  refine pureFn_by Try.func53 k53 rfl rfl ?_
  conv => whnf
  refine loopB (fun (k : Fin 3) => ⟨mkT [(3, .d (int 0)), (6, .d (.list [[int a], [int b]])), (7, .d (int 2)), (8, .d (int k))], mkB []⟩) (fun k => (1 ≤ k.val → a = 0) ∧ (2 ≤ k.val → b = 0)) (fun k => 3 - k.val) 0 rfl ⟨fun h => by simp at h, fun h => by simp at h⟩ ?_
  rintro ⟨k, hk⟩ ⟨ha, hb⟩
  match k, hk with
  | 0, _ =>
    conv => whnf
    refine ⟨by simp, _, rfl, ?_⟩
    conv => whnf
    cases h : decide (a = 0)
    · rw [show orF a b = a from if_neg (of_decide_eq_false h)]; rfl
    · conv => whnf
      exact ⟨1, rfl, ⟨fun _ => of_decide_eq_true h, fun h => by simp at h⟩, by simp⟩
  | 1, _ =>
    have ha := ha (Nat.le_refl _)
    conv => whnf
    refine ⟨by simp, _, rfl, ?_⟩
    conv => whnf
    cases h : decide (b = 0)
    · rw [show orF a b = b from if_pos ha]; rfl
    · conv => whnf
      exact ⟨2, rfl, ⟨fun _ => ha, fun _ => of_decide_eq_true h⟩, by simp⟩
  | 2, _ =>
    have ha := ha (by simp)
    have hb := hb (Nat.le_refl _)
    rw [show orF a b = 0 from (if_pos ha).trans hb]; rfl

def mulB (x y : Int) : Int × Int := 
  let x0 := bitsA .and .u64 x 4294967295
  let x1 := x.fdiv (2 ^ 32)
  let y0 := bitsA .and .u64 y 4294967295
  let y1 := y.fdiv (2 ^ 32)
  let w0 := wu (x0 * y0)
  let t := wu (wu (x1 * y0) + w0.fdiv (2 ^ 32))
  let w1 := wu (bitsA .and .u64 t 4294967295 + wu (x0 * y1))
  (wu (wu (wu (x1 * y1) + t.fdiv (2 ^ 32)) + w1.fdiv (2 ^ 32)), wu (x * y))
theorem mul_ok (x y : Int) : PureFn Try.prog 52 [u64 x, u64 y] (.tup [u64 (mulB x y).1, u64 (mulB x y).2]) := by
  refine pureFn_by Try.func52 k52 rfl rfl ?_
  conv => whnf
  refine ⟨by decide, ?_⟩
  conv => whnf
  refine ⟨by decide, ?_⟩
  conv => whnf
  refine ⟨by decide, ?_⟩
  conv => whnf
  refine ⟨by decide, ?_⟩
  conv => whnf
  refine ⟨by decide, ?_⟩
  rfl

def absU (n : Int) : Int := wu (max n (wr (0 - n)))
def compareF (r s : Int × Int) : Int :=
  match decide (r.1 < 0), decide (s.1 < 0) with
  | false, false => orF (cmpF (mulB (absU r.1) (wu s.2)).1 (mulB (absU s.1) (wu r.2)).1) (cmpF (mulB (absU r.1) (wu s.2)).2 (mulB (absU s.1) (wu r.2)).2)
  | true, true => wr (0 - orF (cmpF (mulB (absU r.1) (wu s.2)).1 (mulB (absU s.1) (wu r.2)).1) (cmpF (mulB (absU r.1) (wu s.2)).2 (mulB (absU s.1) (wu r.2)).2))
  | _, _ => cmpF r.1 s.1
theorem compare_ok (r s : Int × Int) : PureFn Try.prog 35 [ratD r, ratD s] (int (compareF r s)) := by
  refine pureFn_by Try.func35 k35 rfl rfl ?_
  conv => whnf
  cases h1 : decide (r.1 < 0) <;> cases h2 : decide (s.1 < 0)
  · conv => whnf
    refine ⟨_, mul_ok _ _, ?_⟩
    conv => whnf
    refine ⟨_, mul_ok _ _, ?_⟩
    conv => whnf
    refine ⟨_, cmpu_ok _ _, ?_⟩
    conv => whnf
    refine ⟨_, cmpu_ok _ _, ?_⟩
    conv => whnf
    refine ⟨_, or_ok _ _, ?_⟩
    rw [show compareF r s = orF (cmpF (mulB (absU r.1) (wu s.2)).1 (mulB (absU s.1) (wu r.2)).1) (cmpF (mulB (absU r.1) (wu s.2)).2 (mulB (absU s.1) (wu r.2)).2) by simp only [compareF, h1, h2]]
    conv => whnf
    rw [h1]
    rfl
  · conv => whnf
    refine ⟨_, cmp_ok _ _, ?_⟩
    rw [show compareF r s = cmpF r.1 s.1 by simp only [compareF, h1, h2]]
    rfl
  · conv => whnf
    refine ⟨_, cmp_ok _ _, ?_⟩
    rw [show compareF r s = cmpF r.1 s.1 by simp only [compareF, h1, h2]]
    rfl
  · conv => whnf
    refine ⟨_, mul_ok _ _, ?_⟩
    conv => whnf
    refine ⟨_, mul_ok _ _, ?_⟩
    conv => whnf
    refine ⟨_, cmpu_ok _ _, ?_⟩
    conv => whnf
    refine ⟨_, cmpu_ok _ _, ?_⟩
    conv => whnf
    refine ⟨_, or_ok _ _, ?_⟩
    rw [show compareF r s = wr (0 - orF (cmpF (mulB (absU r.1) (wu s.2)).1 (mulB (absU s.1) (wu r.2)).1) (cmpF (mulB (absU r.1) (wu s.2)).2 (mulB (absU s.1) (wu r.2)).2)) by simp only [compareF, h1, h2]]
    conv => whnf
    rw [h1]
    rfl

end Go.Proofs.YtgeficpcnlgnhaaG
