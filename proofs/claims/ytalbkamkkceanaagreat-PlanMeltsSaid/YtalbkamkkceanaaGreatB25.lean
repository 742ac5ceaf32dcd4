/- What the glass of a plan costs is told by the specification. No condition. -/
import Derived.Test.YtalbkamkkceanaaGreatB24
set_option linter.unusedVariables false
set_option linter.unusedSimpArgs false
set_option maxRecDepth 100000
set_option maxHeartbeats 4000000
namespace Go.Proofs.YtalbkamkkceanaaGreatG
open Go Go.AM Go.Proofs

theorem int_self (n : Int) : decide (n = n) = true := decide_eq_true rfl
theorem melts_law (s : Season) (x : Ask) (l : List Bat) : PureFn Tryz.prog 3 [seasonD s, askD x, batsD l] (boolD true) := by
  have gk := great_ok s
  have wk := wide_ok x
  have mk := melted_ok l
  cases g : greatF s
  · rw [g] at gk
    cases w : wideF x
    · rw [w] at wk
      cases m : meltedF l
      · rw [m] at mk
        obtain ⟨hs, h3⟩ := sm_of g
        obtain ⟨hp, ho, _⟩ := smp_of_wide w
        obtain ⟨hl, hb⟩ := meltedF_false m
        have p1 := melt_ok s hs x.plan hp l hl hb
        have p2 := meltR_ok s hs x.plan hp l hl hb
        have fin : ∀ n e : Int, meltTop s x.plan l = .tup [int n, int e] → PureFn Tryz.prog 3 [seasonD s, askD x, batsD l] (boolD true) := fun n e he => by
          rw [he] at p1 p2
          refine pureFn_by Tryz.func3 k3 rfl rfl ?_
          conv => whnf
          refine ⟨_, gk, ?_⟩
          conv => whnf
          refine ⟨_, wk, ?_⟩
          conv => whnf
          refine ⟨_, mk, ?_⟩
          conv => whnf
          refine ⟨_, p1, ?_⟩
          conv => whnf
          refine ⟨_, p2, ?_⟩
          conv => whnf
          rw [int_self]
          conv => whnf
          rw [int_self]
          conv => whnf
          refine ⟨_, lives_ok, ?_⟩
          conv => whnf
          kernel_rfl
        unfold meltTop at fin
        by_cases hE : meltE s x.plan l = 0
        · rw [if_pos hE] at fin
          exact fin _ _ rfl
        · rw [if_neg hE] at fin
          exact fin _ _ rfl
      · rw [m] at mk
        refine pureFn_by Tryz.func3 k3 rfl rfl ?_
        conv => whnf
        refine ⟨_, gk, ?_⟩
        conv => whnf
        refine ⟨_, wk, ?_⟩
        conv => whnf
        refine ⟨_, mk, ?_⟩
        conv => whnf
        refine ⟨_, lives_ok, ?_⟩
        conv => whnf
        kernel_rfl
    · rw [w] at wk
      refine pureFn_by Tryz.func3 k3 rfl rfl ?_
      conv => whnf
      refine ⟨_, gk, ?_⟩
      conv => whnf
      refine ⟨_, wk, ?_⟩
      conv => whnf
      refine ⟨_, lives_ok, ?_⟩
      conv => whnf
      kernel_rfl
  · rw [g] at gk
    refine pureFn_by Tryz.func3 k3 rfl rfl ?_
    conv => whnf
    refine ⟨_, gk, ?_⟩
    conv => whnf
    refine ⟨_, lives_ok, ?_⟩
    conv => whnf
    kernel_rfl
end Go.Proofs.YtalbkamkkceanaaGreatG
