/- What the guards of the statements let in. No condition. -/
import Derived.Test.YtmkmegcconjgoaaP26
set_option linter.unusedVariables false
set_option linter.unusedSimpArgs false
set_option maxRecDepth 100000
set_option maxHeartbeats 4000000
namespace Go.Proofs.YtmkmegcconjgoaaG
open Go Go.AM Go.Proofs

theorem sm_of {s : Season} (h : greatF s = false) : Sm s ∧ (s.makers.length ≤ 3 ∨ 6 < s.makers.length) := by
  simp only [greatF, Bool.or_eq_false_iff, List.any_eq_false, decide_eq_true_eq, decide_eq_false_iff_not] at h
  obtain ⟨⟨⟨⟨h1, h2⟩, h3⟩, h4⟩, h5⟩ := h
  have h1 := of_decide_eq_false h1
  refine ⟨⟨by omega, by omega, by omega, by omega, by omega, by omega, fun m hm => ?_, fun r hr => ?_, fun r hr => ?_⟩, by omega⟩
  · have := h2 m hm; omega
  · have := h3 r hr; omega
  · have := h4 r hr; omega
theorem smp_of_wide {x : Ask} (h : wideF x = false) : SmP x.plan ∧ SmP x.other ∧ x.prices.length ≤ 30 := by
  simp only [wideF, Bool.or_eq_false_iff, decide_eq_false_iff_not] at h
  exact ⟨smp_of h.1.1, smp_of h.1.2, by omega⟩
end Go.Proofs.YtmkmegcconjgoaaG
