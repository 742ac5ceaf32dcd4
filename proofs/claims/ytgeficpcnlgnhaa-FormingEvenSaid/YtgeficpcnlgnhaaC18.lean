/- Stretches: both packages answer alike. No condition. -/
import Derived.Test.YtgeficpcnlgnhaaC17
set_option linter.unusedVariables false
set_option linter.unusedSimpArgs false
set_option maxRecDepth 100000
namespace Go.Proofs.YtgeficpcnlgnhaaG
open Go Go.AM Go.Proofs

theorem pureFn_nil1 {P : Program} {g : FuncId} {args : List D} (h : PureFn P g args (.v (.slice none 0 0))) : PureFn P g args (.list []) :=
  ⟨h.1, fun ok w vs hz hR => (h.2 ok w vs hz hR).mono (by
    rintro e w' ⟨v, rfl, hv, hf⟩
    refine ⟨v, rfl, ?_, hf⟩
    cases hv
    exact .empty none 0)⟩
theorem rStretches_nil (cycle home : Int) (l : List (Int × Int)) (s : Int × Int) (hs : s.2 < s.1) : PureFn Try.prog 34 [int cycle, int home, knotsD l, ratD s] (strsD []) := by
  refine pureFn_nil1 (pureFn_by Try.func34 k34 rfl rfl ?_)
  conv => whnf
  rw [show decide (s.2 < s.1) = true by simpa using hs]
  rfl

theorem rStretchesTop_ok (cycle home : Int) (l : List (Int × Int)) (s : Int × Int) : PureFn Try.prog 12 [int cycle, int home, knotsD l, ratD s] (stD (StretchesR cycle home l s)) := by
  unfold StretchesR
  cases h0 : decide (mErr cycle home l = 0)
  · rw [if_pos (of_decide_eq_false h0)]
    refine pureFn_nil (pureFn_by Try.func12 k12 rfl rfl ?_)
    conv => whnf
    refine ⟨_, checkMotion_ok _ _ _, ?_⟩
    conv => whnf
    rw [h0]
    conv => whnf
    rw [h0]
    rfl
  have h0' := of_decide_eq_true h0
  rw [if_neg (by simpa using h0')]
  cases hk : okSpan s
  · rw [if_neg (by simp)]
    refine pureFn_nil (pureFn_by Try.func12 k12 rfl rfl ?_)
    have hk' : s.1 < -1000000 ∨ 2000000 < s.1 ∨ s.2 < -1000000 ∨ 2000000 < s.2 := by
      have : ¬ okSpan s = true := by rw [hk]; simp
      simp only [okSpan, withinF, Bool.and_eq_true, decide_eq_true_eq] at this; omega
    conv => whnf
    refine ⟨_, checkMotion_ok _ _ _, ?_⟩
    conv => whnf
    rw [h0]
    conv => whnf
    cases a1 : decide (s.1 < -1000000)
    case true => rfl
    conv => whnf
    cases a2 : decide (2000000 < s.1)
    case true => rfl
    conv => whnf
    cases a3 : decide (s.2 < -1000000)
    case true => rfl
    conv => whnf
    cases a4 : decide (2000000 < s.2)
    case true => rfl
    have := of_decide_eq_false a1; have := of_decide_eq_false a2; have := of_decide_eq_false a3; have := of_decide_eq_false a4
    omega
  rw [if_pos rfl]
  have b : (-1000000 ≤ s.1 ∧ s.1 ≤ 2000000) ∧ (-1000000 ≤ s.2 ∧ s.2 ≤ 2000000) := by
    simp only [okSpan, withinF, Bool.and_eq_true, decide_eq_true_eq] at hk; omega
  refine pureFn_by Try.func12 k12 rfl rfl ?_
  conv => whnf
  refine ⟨_, checkMotion_ok _ _ _, ?_⟩
  conv => whnf
  rw [h0]
  conv => whnf
  rw [show decide (s.1 < -1000000) = false by simp; omega]
  conv => whnf
  rw [show decide (2000000 < s.1) = false by simp; omega]
  conv => whnf
  rw [show decide (s.2 < -1000000) = false by simp; omega]
  conv => whnf
  rw [show decide (2000000 < s.2) = false by simp; omega]
  conv => whnf
  rw [h0]
  conv => whnf
  by_cases hs : s.2 < s.1
  · rw [if_pos hs]
    exact ⟨_, rStretches_nil cycle home l s hs, rfl⟩
  · rw [if_neg hs]
    exact ⟨_, rStretches_ok (okm_of h0') s b.1 b.2 hs, rfl⟩
end Go.Proofs.YtgeficpcnlgnhaaG
