/- Whether a bottle holds. No condition. -/
import Derived.Test.YtbkjfjlmhlmdbaaT5
set_option linter.unusedVariables false
set_option linter.unusedSimpArgs false
set_option maxRecDepth 100000
set_option maxHeartbeats 4000000
namespace Go.Proofs.YtbkjfjlmhlmdbaaG
open Go Go.AM Go.Proofs

@[reducible] def spansD (t : List (Int × Int)) : D := .list (t.map i2)
theorem asked1_ok (t : Int × Int) : PureFn Try.prog 46 [spD t] (boolD (!spanF t 1 2000)) := by
  refine pureFn_by Try.func46 k46 rfl rfl ?_
  conv => whnf
  refine ⟨_, span_ok t 1 2000, ?_⟩
  conv => whnf
  kernel_rfl
theorem idxs_ok (ts : List (Int × Int)) (hl : ts.length < 1000000000) : PureFn Try.prog 57 [spansD ts, .clo 46 [] []] (int (idxF (fun t => !spanF t 1 2000) ts)) := by
  refine pureFn_by Try.func57 k57 rfl rfl ?_
  conv => whnf
  refine loopB (fun (i : Int) => ⟨mkT [(0, .d (spansD ts)), (1, .d (.clo 46 [] [])), (7, .d (int (ts.map i2).length)), (8, .d (int i))], mkB []⟩)
    (fun i => ∃ k : Nat, i = k ∧ k ≤ ts.length ∧ ∀ j, j < k → ∀ y, ts[j]? = some y → (!spanF y 1 2000) = false) (fun i => (ts.length - i).toNat) 0 (by kernel_rfl) ⟨0, rfl, by omega, fun j hj => by omega⟩ ?_
  rintro _ ⟨i, rfl, hi, hb⟩
  conv => whnf
  rw [List.length_map]
  cases c1 : decide ((i : Int) < (ts.length : Int))
  · have hi' : i = ts.length := by have := of_decide_eq_false c1; omega
    subst hi'
    rw [idx_miss (p := fun t => !spanF t 1 2000) hb]
    conv => whnf
    kernel_rfl
  · have hi' : i < ts.length := by have := of_decide_eq_true c1; omega
    obtain ⟨x, hx⟩ := get_lt hi'
    conv => whnf
    refine ⟨by omega, _, gm hx, ?_⟩
    conv => whnf
    refine ⟨_, asked1_ok x, ?_⟩
    cases c2 : !spanF x 1 2000
    · conv => whnf
      refine ⟨IntKind.wrap .i64 ((i : Int) + 1), by kernel_rfl, ⟨i + 1, nx (by omega), by omega, fun j hj y hy => ?_⟩, by rw [nx (by omega)]; omega⟩
      by_cases e : j = i
      · subst e; rw [hx] at hy; cases hy; exact c2
      · exact hb j (by omega) y hy
    · conv => whnf
      rw [idx_hit (p := fun t => !spanF t 1 2000) hx c2 hb]
      kernel_rfl
theorem anys_ok (ts : List (Int × Int)) (hl : ts.length < 1000000000) : PureFn Try.prog 45 [spansD ts, .clo 46 [] []] (boolD (ts.any fun t => !spanF t 1 2000)) := by
  rw [← idx_any]
  refine pureFn_by Try.func45 k45 rfl rfl ?_
  conv => whnf
  refine ⟨_, idxs_ok ts hl, ?_⟩
  conv => whnf
  kernel_rfl

def holdB (b : Bottle) (l : Load) (p : Ring × (Int × Int)) : Bool := decide ((stressF p.1 p.2 l).2 ≤ limitF b)
def breakB (b : Bottle) (l : Load) (p : Ring × (Int × Int)) : Bool := decide (limitF b < (stressF p.1 p.2 l).1)
def holdsF (b : Bottle) (ts : List (Int × Int)) (l : Load) : Bool × Bool := ((b.rings.zip ts).all (holdB b l), (b.rings.zip ts).any (breakB b l))

theorem take_next {α : Type} {xs : List α} {i : Nat} {x : α} (h : xs[i]? = some x) : xs.take (i + 1) = xs.take i ++ [x] := by
  obtain ⟨hi, rfl⟩ := List.getElem?_eq_some_iff.1 h
  simp

theorem holds_ok (b : Bottle) (hb : VB b) (ts : List (Int × Int)) (hts : ts.length = b.rings.length) (ht : ∀ t ∈ ts, VT t) (l : Load) (hl : VL l) :
    PureFn Try.prog 31 [bottleD b, spansD ts, loadD l] (.tup [boolD (holdsF b ts l).1, boolD (holdsF b ts l).2]) := by
  have hn := hb.n2
  refine pureFn_by Try.func31 k31 rfl rfl ?_
  conv => whnf
  refine ⟨_, limit_ok b hb.f1 hb.t1 hb.t2, ?_⟩
  conv => whnf
  refine ⟨_, rings_ok b, ?_⟩
  conv => whnf
  intro lp
  conv => whnf
  refine loopB (fun (x : Int × Bool × Bool) => ⟨mkT [(0, .d (.v (.func (.yield lp) #[] #[]))), (6, .d (ringsD b.rings)), (7, .d (int (b.rings.map ringL).length)), (8, .d (int x.1))], mkB [(3, .var [.d (boolD x.2.1)]), (4, .var [.d (boolD x.2.2)]), (5, .var [.d (int (limitF b))]), (8, .fresh)]⟩)
    (fun x => ∃ i : Nat, x.1 = i ∧ i ≤ b.rings.length ∧ x.2.1 = ((b.rings.zip ts).take i).all (holdB b l) ∧ x.2.2 = ((b.rings.zip ts).take i).any (breakB b l)) (fun x => (b.rings.length - x.1).toNat) (0, true, false) (by kernel_rfl) ⟨0, rfl, by omega, rfl, rfl⟩ ?_
  rintro ⟨_, hs, bs⟩ ⟨i, rfl, hi, h1, h2⟩
  simp only at h1 h2
  have hz : (b.rings.zip ts).length = b.rings.length := by simp [hts]
  conv => whnf
  rw [List.length_map]
  cases c1 : decide ((i : Int) < (b.rings.length : Int))
  · have hi' : i = b.rings.length := by have := of_decide_eq_false c1; omega
    rw [List.take_of_length_le (by omega)] at h1 h2
    have e : holdsF b ts l = (hs, bs) := by rw [h1, h2]; rfl
    rw [e]
    conv => whnf
    kernel_rfl
  · have hi' : i < b.rings.length := by have := of_decide_eq_true c1; omega
    obtain ⟨r, hx⟩ := get_lt hi'
    obtain ⟨t, hxt⟩ := get_lt (show i < ts.length by omega)
    have hr := hb.rs r (List.mem_of_getElem? hx)
    have hvt := ht t (List.mem_of_getElem? hxt)
    have hzi : (b.rings.zip ts)[i]? = some (r, t) := by rw [List.getElem?_zip_eq_some]; exact ⟨hx, hxt⟩
    have n1 : ((b.rings.zip ts).take (i + 1)).all (holdB b l) = (hs && decide ((stressF r t l).2 ≤ limitF b)) := by
      rw [take_next hzi, List.all_append, ← h1]; simp [holdB]
    have n2 : ((b.rings.zip ts).take (i + 1)).any (breakB b l) = (bs || decide (limitF b < (stressF r t l).1)) := by
      rw [take_next hzi, List.any_append, ← h2]; simp [breakB]
    conv => whnf
    refine ⟨by omega, _, gm hx, ?_⟩
    conv => whnf
    refine ⟨rfl, ?_⟩
    conv => whnf
    refine ⟨by omega, _, gm hxt, ?_⟩
    conv => whnf
    refine ⟨_, stress_ok hr hvt hl, ?_⟩
    conv => whnf
    cases hs
    · conv => whnf
      cases bs
      · conv => whnf
        refine ⟨(IntKind.wrap .i64 ((i : Int) + 1), false, decide (limitF b < (stressF r t l).1)), by kernel_rfl, ⟨i + 1, nx (by omega), by omega, by rw [n1]; simp, by rw [n2]; simp⟩, by simp only; rw [nx (by omega)]; omega⟩
      · conv => whnf
        refine ⟨(IntKind.wrap .i64 ((i : Int) + 1), false, true), by kernel_rfl, ⟨i + 1, nx (by omega), by omega, by rw [n1]; simp, by rw [n2]; simp⟩, by simp only; rw [nx (by omega)]; omega⟩
    · conv => whnf
      cases bs
      · conv => whnf
        refine ⟨(IntKind.wrap .i64 ((i : Int) + 1), decide ((stressF r t l).2 ≤ limitF b), decide (limitF b < (stressF r t l).1)), by kernel_rfl, ⟨i + 1, nx (by omega), by omega, by rw [n1]; simp, by rw [n2]; simp⟩, by simp only; rw [nx (by omega)]; omega⟩
      · conv => whnf
        refine ⟨(IntKind.wrap .i64 ((i : Int) + 1), decide ((stressF r t l).2 ≤ limitF b), true), by kernel_rfl, ⟨i + 1, nx (by omega), by omega, by rw [n1]; simp, by rw [n2]; simp⟩, by simp only; rw [nx (by omega)]; omega⟩
end Go.Proofs.YtbkjfjlmhlmdbaaG
