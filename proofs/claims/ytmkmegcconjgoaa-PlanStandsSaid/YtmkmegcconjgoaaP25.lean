/- What is more than is looked at. No condition. -/
import Derived.Test.YtmkmegcconjgoaaP24
set_option linter.unusedVariables false
set_option linter.unusedSimpArgs false
set_option maxRecDepth 100000
set_option maxHeartbeats 4000000
namespace Go.Proofs.YtmkmegcconjgoaaG
open Go Go.AM Go.Proofs

structure Ask where
  plan : List (List Int)
  other : List (List Int)
  oven : Int
  prices : List Int
@[reducible] def askL (x : Ask) : List D := [planD x.plan, planD x.other, int x.oven, rowD x.prices]
@[reducible] def askD (x : Ask) : D := .agg (askL x)
def wideF (x : Ask) : Bool := farF x.plan || farF x.other || decide (30 < x.prices.length)
theorem wide_ok (x : Ask) : PureFn Try.prog 11 [askD x] (boolD (wideF x)) := by
  refine pureFn_by Try.func11 k11 rfl rfl ?_
  unfold wideF
  conv => whnf
  refine ⟨_, far_ok _, ?_⟩
  cases farF x.plan
  · conv => whnf
    refine ⟨_, far_ok _, ?_⟩
    cases farF x.other
    · conv => whnf
      rw [List.length_map, show decide (30 < (x.prices.length : Int)) = decide (30 < x.prices.length) from by simp; omega]
      kernel_rfl
    · conv => whnf
      kernel_rfl
  · conv => whnf
    kernel_rfl
def aheadF : List Int → List Int → Bool
  | x :: xs, y :: ys => if x = y then aheadF xs ys else decide (x < y)
  | _, _ => false
theorem ahead_ok (a b : List Int) (hl : a.length < 1000000000) : PureFn Try.prog 22 [rowD a, rowD b] (boolD (aheadF a b)) := by
  refine pureFn_by Try.func22 k22 rfl rfl ?_
  obtain ⟨R, hR⟩ : ∃ R, aheadF a b = R := ⟨_, rfl⟩
  rw [hR]
  conv => whnf
  refine loopB (fun (i : Int) => ⟨mkT [(0, .d (rowD a)), (1, .d (rowD b)), (5, .d (int i))], mkB []⟩)
    (fun i => ∃ k : Nat, i = k ∧ k ≤ a.length ∧ aheadF (a.drop k) (b.drop k) = R) (fun i => (a.length - i).toNat) 0 (by kernel_rfl) ⟨0, rfl, by omega, hR⟩ ?_
  rintro _ ⟨i, rfl, hi, hb⟩
  conv => whnf
  cases c2 : decide ((i : Int) < ((a.map i1).length : Int))
  · have hi' : i = a.length := by have := of_decide_eq_false c2; rw [List.length_map] at this; omega
    rw [hi', drop_end] at hb
    have hb : false = R := hb
    rw [← hb]
    conv => whnf
    kernel_rfl
  · have hi' : i < a.length := by have := of_decide_eq_true c2; rw [List.length_map] at this; omega
    obtain ⟨x, hx⟩ := get_lt hi'
    conv => whnf
    cases c3 : decide ((i : Int) < ((b.map i1).length : Int))
    · have hj' : b.length ≤ i := by have := of_decide_eq_false c3; rw [List.length_map] at this; omega
      rw [drop_at hx, List.drop_of_length_le hj'] at hb
      have hb : false = R := hb
      rw [← hb]
      conv => whnf
      kernel_rfl
    · have hj' : i < b.length := by have := of_decide_eq_true c3; rw [List.length_map] at this; omega
      obtain ⟨y, hy⟩ := get_lt hj'
      rw [drop_at hx, drop_at hy, aheadF] at hb
      conv => whnf
      refine ⟨by omega, _, gm hx, ?_⟩
      conv => whnf
      refine ⟨by omega, _, gm hy, ?_⟩
      conv => whnf
      cases c4 : decide (x = y)
      · rw [if_neg (of_decide_eq_false c4)] at hb
        rw [← hb]
        conv => whnf
        refine ⟨by omega, _, gm hx, ?_⟩
        conv => whnf
        refine ⟨by omega, _, gm hy, ?_⟩
        conv => whnf
        kernel_rfl
      · rw [if_pos (of_decide_eq_true c4)] at hb
        conv => whnf
        exact ⟨IntKind.wrap .i64 ((i : Int) + 1), by kernel_rfl, ⟨i + 1, nx (by omega), by omega, hb⟩, by rw [nx (by omega)]; omega⟩
end Go.Proofs.YtmkmegcconjgoaaG
