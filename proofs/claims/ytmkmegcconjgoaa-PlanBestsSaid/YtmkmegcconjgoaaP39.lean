/- PlanChecks: what its code computes. No condition. -/
import Derived.Test.YtmkmegcconjgoaaP38
set_option linter.unusedVariables false
set_option linter.unusedSimpArgs false
set_option maxRecDepth 100000
set_option maxHeartbeats 4000000
namespace Go.Proofs.YtmkmegcconjgoaaG
open Go Go.AM Go.Proofs

theorem same_nil : PureFn Try.prog 21 [nilD, nilD] (boolD true) := by
  have := sameLists_ok [] [] (by decide) (fun r hr => by cases hr)
  rw [decide_eq_true rfl] at this
  exact pureFn_args (args := [planD [], planD []]) rfl (fun j hj hj' ok w v hv => match j, hj with
    | 0, _ => rel_nil hv
    | 1, _ => rel_nil hv) this
theorem checks_law (s : Season) (x : Ask) : PureFn Try.prog 4 [seasonD s, askD x] (boolD true) := by
  have gk := great_ok s
  cases g : greatF s
  · have wk := wide_ok x
    cases w : wideF x
    · have sg := sm_of g
      have hs := sg.1
      have pk := (smp_of_wide w).1
      have k1 := Shifts_ok s hs x.oven
      have k2 := Shifts_ok' s hs x.oven
      have k3 := Keeps_ok s hs x.plan pk
      have k40 := Keeps_ok' s hs x.plan pk
      have k5 := check_ok s hs
      have k6 := check_ok' s hs
      rw [g] at gk
      rw [w] at wk
      obtain ⟨C, eC⟩ : ∃ C, checkE s = C := ⟨_, rfl⟩
      obtain ⟨⟨kb, ke⟩, eK⟩ : ∃ K, keepsR s x.plan = K := ⟨_, rfl⟩
      rw [eC] at k5 k6
      rw [eK] at k3 k40
      have fin : ∀ (dl : D) (E : Int), PureFn Try.prog 21 [dl, dl] (boolD true) → PureFn Try.prog 15 [seasonD s, int x.oven] (.tup [dl, int E]) → PureFn Try.prog 16 [seasonD s, int x.oven] (.tup [dl, int E]) → PureFn Try.prog 4 [seasonD s, askD x] (boolD true) := fun dl E sl k1 k2 => by
        refine pureFn_by Try.func4 k4 rfl rfl ?_
        conv => whnf
        refine ⟨_, gk, ?_⟩
        conv => whnf
        refine ⟨_, wk, ?_⟩
        conv => whnf
        refine ⟨_, k1, ?_⟩
        conv => whnf
        refine ⟨_, k2, ?_⟩
        conv => whnf
        refine ⟨_, k3, ?_⟩
        conv => whnf
        refine ⟨_, k40, ?_⟩
        conv => whnf
        refine ⟨_, k5, ?_⟩
        conv => whnf
        refine ⟨_, k6, ?_⟩
        conv => whnf
        rw [dself]
        conv => whnf
        rw [dself]
        conv => whnf
        refine ⟨_, sl, ?_⟩
        cases kb
        · conv => whnf
          rw [dself]
          conv => whnf
          refine ⟨_, lives_ok, ?_⟩
          conv => whnf
          kernel_rfl
        · conv => whnf
          rw [dself]
          conv => whnf
          refine ⟨_, lives_ok, ?_⟩
          conv => whnf
          kernel_rfl
      by_cases hE : shiftsE s x.oven = 0
      · rw [hE, if_pos rfl] at k1 k2
        have h0 : checkE s = 0 := by
          unfold shiftsE at hE
          split at hE
          · rename_i h1; exact absurd hE h1
          · rename_i h1; exact Decidable.not_not.1 h1
        have h := fr_of hs h0
        have hsl := shiftsF_len h x.oven
        have sl := sameLists_ok (shiftsF s x.oven) (shiftsF s x.oven) (by omega) (fun r hr => by
          have h1 := (shifts_mem.1 hr).1
          have h2 := Nat.le_trans (makersF_len s x.oven) h.nm
          omega)
        rw [decide_eq_true rfl] at sl
        exact fin _ _ sl k1 k2
      · rw [if_neg hE] at k1 k2
        exact fin _ _ same_nil k1 k2
    · rw [g] at gk
      rw [w] at wk
      refine pureFn_by Try.func4 k4 rfl rfl ?_
      conv => whnf
      refine ⟨_, gk, ?_⟩
      conv => whnf
      refine ⟨_, wk, ?_⟩
      conv => whnf
      refine ⟨_, lives_ok, ?_⟩
      conv => whnf
      kernel_rfl
  · rw [g] at gk
    refine pureFn_by Try.func4 k4 rfl rfl ?_
    conv => whnf
    refine ⟨_, gk, ?_⟩
    conv => whnf
    refine ⟨_, lives_ok, ?_⟩
    conv => whnf
    kernel_rfl
end Go.Proofs.YtmkmegcconjgoaaG
