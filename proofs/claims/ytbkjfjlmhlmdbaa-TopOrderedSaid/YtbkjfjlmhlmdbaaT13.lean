/- TopOrdered returns true for all values of its arguments. No condition. -/
import Derived.Test.YtbkjfjlmhlmdbaaT12
set_option linter.unusedVariables false
set_option linter.unusedSimpArgs false
set_option maxRecDepth 100000
set_option maxHeartbeats 4000000
namespace Go.Proofs.YtbkjfjlmhlmdbaaG
open Go Go.AM Go.Proofs

theorem ordered_law (s : Season) (x : Ask) (b : Bottle) (l : Load) : PureFn Try.prog 3 [seasonD s, askD x, btlD b l] (boolD true) := by
  have gk := great_ok s
  have wk := wide_ok x
  have bk := bgreat_ok b
  cases g : greatF s
  · cases w : wideF x
    · cases q : decide (40 < b.rings.length)
      · have sg := sm_of g
        have hs := sg.1
        have pk := (smp_of_wide w).1
        have mt := Made_ok s hs sg.2 x.plan pk
        have lt := Lacks_ok s hs sg.2 x.plan pk
        have ll := Lightest_ok b l
        have kz := @kept_zero s hs x.plan
        by_cases hE : keptE s x.plan = 0
        · obtain ⟨h, po, _⟩ := kz hE
          by_cases h1 : ligE b l = 0
          · by_cases h2 : ligW b l = 0
            · unfold madeTop at mt
              unfold lacksTop at lt
              rw [g] at gk
              rw [w] at wk
              rw [q] at bk
              rw [hE, if_pos rfl] at mt lt
              rw [h1, h2] at ll
              refine pureFn_by Try.func3 k3 rfl rfl ?_
              conv => whnf
              refine ⟨_, gk, ?_⟩
              conv => whnf
              refine ⟨_, wk, ?_⟩
              conv => whnf
              refine ⟨_, bk, ?_⟩
              conv => whnf
              refine ⟨_, mt, ?_⟩
              conv => whnf
              refine ⟨_, lt, ?_⟩
              conv => whnf
              refine ⟨_, ll, ?_⟩
              conv => whnf
              refine ⟨_, planned_ok, ?_⟩
              conv => whnf
              kernel_rfl
            · exact ordered_main s x b l g w q h po hE h1 h2
          · unfold madeTop at mt
            unfold lacksTop at lt
            rw [g] at gk
            rw [w] at wk
            rw [q] at bk
            rw [hE, if_pos rfl] at mt lt
            refine pureFn_by Try.func3 k3 rfl rfl ?_
            conv => whnf
            refine ⟨_, gk, ?_⟩
            conv => whnf
            refine ⟨_, wk, ?_⟩
            conv => whnf
            refine ⟨_, bk, ?_⟩
            conv => whnf
            refine ⟨_, mt, ?_⟩
            conv => whnf
            refine ⟨_, lt, ?_⟩
            conv => whnf
            refine ⟨_, ll, ?_⟩
            conv => whnf
            rw [decide_eq_false h1]
            conv => whnf
            refine ⟨_, planned_ok, ?_⟩
            conv => whnf
            kernel_rfl
        · unfold madeTop at mt
          unfold lacksTop at lt
          rw [g] at gk
          rw [w] at wk
          rw [q] at bk
          obtain ⟨E, hE2⟩ : ∃ E, keptE s x.plan = E := ⟨_, rfl⟩
          rw [hE2] at mt lt hE
          rw [if_neg hE] at mt lt
          refine pureFn_by Try.func3 k3 rfl rfl ?_
          conv => whnf
          refine ⟨_, gk, ?_⟩
          conv => whnf
          refine ⟨_, wk, ?_⟩
          conv => whnf
          refine ⟨_, bk, ?_⟩
          conv => whnf
          refine ⟨_, mt, ?_⟩
          conv => whnf
          refine ⟨_, lt, ?_⟩
          conv => whnf
          refine ⟨_, ll, ?_⟩
          conv => whnf
          rw [decide_eq_false hE]
          conv => whnf
          refine ⟨_, planned_ok, ?_⟩
          conv => whnf
          kernel_rfl
      · rw [g] at gk
        rw [w] at wk
        rw [q] at bk
        refine pureFn_by Try.func3 k3 rfl rfl ?_
        conv => whnf
        refine ⟨_, gk, ?_⟩
        conv => whnf
        refine ⟨_, wk, ?_⟩
        conv => whnf
        refine ⟨_, bk, ?_⟩
        conv => whnf
        refine ⟨_, planned_ok, ?_⟩
        conv => whnf
        kernel_rfl
    · rw [g] at gk
      rw [w] at wk
      refine pureFn_by Try.func3 k3 rfl rfl ?_
      conv => whnf
      refine ⟨_, gk, ?_⟩
      conv => whnf
      refine ⟨_, wk, ?_⟩
      conv => whnf
      refine ⟨_, planned_ok, ?_⟩
      conv => whnf
      kernel_rfl
  · rw [g] at gk
    refine pureFn_by Try.func3 k3 rfl rfl ?_
    conv => whnf
    refine ⟨_, gk, ?_⟩
    conv => whnf
    refine ⟨_, planned_ok, ?_⟩
    conv => whnf
    kernel_rfl
end Go.Proofs.YtbkjfjlmhlmdbaaG
