/- What forming's small functions return. No condition. -/
import Derived.Test.YtgeficpcnlgnhaaAm16
import Derived.Test.YtgeficpcnlgnhaaG1
set_option linter.unusedVariables false
set_option linter.unusedSimpArgs false
set_option maxRecDepth 100000
namespace Go.Proofs.YtgeficpcnlgnhaaG
open Go Go.AM Go.Proofs
@[reducible] def int (n : Int) : D := .v (.int .i64 n)
@[reducible] def u64 (n : Int) : D := .v (.int .u64 n)
@[reducible] def boolD (b : Bool) : D := .v (.bool b)
/-- A quotient: numerator and denominator. -/
@[reducible] def ratD (r : Int × Int) : D := .agg [int r.1, int r.2]
@[reducible] def wr (n : Int) : Int := IntKind.wrap .i64 n
@[reducible] def wu (n : Int) : Int := IntKind.wrap .u64 n

def withinF (n lo hi : Int) : Bool := decide (lo ≤ n) && decide (n ≤ hi)
theorem within_ok (n lo hi : Int) : PureFn Try.prog 26 [int n, int lo, int hi] (boolD (withinF n lo hi)) := by
  unfold withinF
  refine pureFn_by Try.func26 k26 rfl rfl ?_
  conv => whnf
  cases h1 : decide (lo ≤ n)
  · rfl
  · rfl
def isPlaceF (n : Int) : Bool := withinF n 0 1000000
theorem isPlace_ok (n : Int) : PureFn Try.prog 43 [int n] (boolD (isPlaceF n)) := by
  refine pureFn_by Try.func43 k43 rfl rfl ?_
  conv => whnf
  exact ⟨_, within_ok _ _ _, rfl⟩

theorem natAbs_tmod_lt {a b : Int} (h : b ≠ 0) : (a.tmod b).natAbs < b.natAbs := by
  rw [Int.natAbs_tmod]
  exact Nat.mod_lt _ (by omega)

/-- The last rest that is not 0. -/
def dv (a b : Int) : Int := if b = 0 then a else dv b (a.tmod b)
  termination_by b.natAbs
  decreasing_by exact natAbs_tmod_lt ‹_›
def divisorF (a b : Int) : Int := max (dv a b) (wr (0 - dv a b))
theorem divisor_ok (a b : Int) : PureFn Try.prog 44 [int a, int b] (int (divisorF a b)) := by
  unfold divisorF
  refine pureFn_by Try.func44 k44 rfl rfl ?_
  conv => whnf
  refine loopB (fun (p : Int × Int) => ⟨mkT [(0, .d (int p.1)), (1, .d (int p.2))], mkB []⟩) (fun p => dv p.1 p.2 = dv a b) (fun p => p.2.natAbs) (a, b) rfl rfl ?_
  rintro ⟨x, y⟩ hxy
  simp only at hxy
  conv => whnf
  cases h : decide (y = 0)
  · conv => whnf
    have h0 : y ≠ 0 := of_decide_eq_false h
    refine ⟨h0, ?_⟩
    conv => whnf
    refine ⟨(y, x.tmod y), rfl, ?_, natAbs_tmod_lt h0⟩
    rw [← hxy]; conv => rhs; rw [dv]
    simp [h0]
  · conv => whnf
    have h0 : y = 0 := of_decide_eq_true h
    subst h0
    rw [dv] at hxy; simp at hxy
    subst hxy
    rfl

theorem whole_ok (n : Int) : PureFn Try.prog 36 [int n] (ratD (n, 1)) := pureFn_by Try.func36 k36 rfl rfl rfl
theorem of_ok (r : Int × Int) : PureFn Try.prog 28 [ratD r] (ratD r) := pureFn_by Try.func28 k28 rfl rfl rfl
def lowestF (r : Int × Int) : Int × Int := (wr (r.1.tdiv (divisorF r.1 r.2)), wr (r.2.tdiv (divisorF r.1 r.2)))
theorem lowest_ok (r : Int × Int) (h : divisorF r.1 r.2 ≠ 0) : PureFn Try.prog 46 [ratD r] (ratD (lowestF r)) := by
  refine pureFn_by Try.func46 k46 rfl rfl ?_
  conv => whnf
  refine ⟨_, divisor_ok _ _, ?_⟩
  conv => whnf
  refine ⟨h, ?_⟩
  conv => whnf
  exact ⟨h, rfl⟩
theorem told_ok (r : Int × Int) (h : divisorF r.1 r.2 ≠ 0) : PureFn Try.prog 29 [ratD r] (ratD (lowestF r)) := by
  refine pureFn_by Try.func29 k29 rfl rfl ?_
  conv => whnf
  exact ⟨_, lowest_ok r h, rfl⟩
def minusF (r s : Int × Int) : Int × Int := lowestF (wr (wr (r.1 * s.2) - wr (s.1 * r.2)), wr (r.2 * s.2))
theorem minus_ok (r s : Int × Int) (h : divisorF (wr (wr (r.1 * s.2) - wr (s.1 * r.2))) (wr (r.2 * s.2)) ≠ 0) : PureFn Try.prog 57 [ratD r, ratD s] (ratD (minusF r s)) := by
  refine pureFn_by Try.func57 k57 rfl rfl ?_
  conv => whnf
  exact ⟨_, lowest_ok (wr (wr (r.1 * s.2) - wr (s.1 * r.2)), wr (r.2 * s.2)) h, rfl⟩
def plusF (r : Int × Int) (n : Int) : Int × Int := (wr (r.1 + wr (n * r.2)), r.2)
theorem plus_ok (r : Int × Int) (n : Int) : PureFn Try.prog 55 [ratD r, int n] (ratD (plusF r n)) := pureFn_by Try.func55 k55 rfl rfl rfl
def mayF (r : Int × Int) : Bool := withinF r.2 1 1000000 && decide (divisorF r.1 r.2 = 1)
theorem may_ok (r : Int × Int) : PureFn Try.prog 25 [ratD r] (boolD (mayF r)) := by
  unfold mayF
  refine pureFn_by Try.func25 k25 rfl rfl ?_
  conv => whnf
  refine ⟨_, within_ok _ _ _, ?_⟩
  conv => whnf
  cases h : withinF r.2 1 1000000
  · rfl
  · conv => whnf
    exact ⟨_, divisor_ok _ _, rfl⟩
end Go.Proofs.YtgeficpcnlgnhaaG
