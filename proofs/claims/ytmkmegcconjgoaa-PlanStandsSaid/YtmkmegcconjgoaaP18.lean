/- Made and Pulls. No condition. -/
import Derived.Test.YtmkmegcconjgoaaP17
set_option linter.unusedVariables false
set_option linter.unusedSimpArgs false
set_option maxRecDepth 100000
set_option maxHeartbeats 4000000
namespace Go.Proofs.YtmkmegcconjgoaaG
open Go Go.AM Go.Proofs

def madeTop (s : Season) (p : List (List Int)) : D := .tup [if keptE s p = 0 then planD (madeF s p).1 else nilD, int (keptE s p)]
theorem Made_ok (s : Season) (hs : Sm s) (h3 : s.makers.length ≤ 3 ∨ 6 < s.makers.length) (p : List (List Int)) (hp : SmP p) : PureFn Try.prog 26 [seasonD s, planD p] (madeTop s p) := by
  have kp := kept_ok s hs p hp
  have kz := @kept_zero s hs p
  unfold madeTop
  obtain ⟨E, hE⟩ : ∃ E, keptE s p = E := ⟨_, rfl⟩
  rw [hE] at kp kz ⊢
  refine pureFn_by Try.func26 k26 rfl rfl ?_
  conv => whnf
  refine ⟨_, kp, ?_⟩
  conv => whnf
  cases c1 : decide (E = 0)
  · have h1 := of_decide_eq_false c1
    rw [if_neg h1]
    conv => whnf
    kernel_rfl
  · have h1 := of_decide_eq_true c1
    obtain ⟨f, po, _⟩ := kz h1
    have hn := f.nm
    subst h1
    rw [if_pos rfl]
    conv => whnf
    refine ⟨_, made_ok s f (by omega) p po, ?_⟩
    conv => whnf
    kernel_rfl
end Go.Proofs.YtmkmegcconjgoaaG
