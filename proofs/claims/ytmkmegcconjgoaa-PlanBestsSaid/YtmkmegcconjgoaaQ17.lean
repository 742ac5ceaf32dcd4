/- The best plan of any season is that of the specification. No condition. -/
import Derived.Test.YtmkmegcconjgoaaQ16
set_option linter.unusedVariables false
set_option linter.unusedSimpArgs false
set_option maxRecDepth 100000
set_option maxHeartbeats 4000000
namespace Go.Proofs.YtmkmegcconjgoaaG
open Go Go.AM Go.Proofs

def manyF (s : Season) : Bool := if checkE s ≠ 0 then false else decide (3000 < plansN s.days.toNat (eachL (allsF s) 1) 1) && decide (plansN s.days.toNat (eachL (allsF s) 1) 1 ≤ 200000)
theorem many_ok (s : Season) (hs : Sm s) (h3 : s.makers.length ≤ 3 ∨ 6 < s.makers.length) : PureFn Try.prog 30 [seasonD s] (boolD (manyF s)) := by
  have ck := check_ok' s hs
  unfold manyF
  by_cases hE : checkE s = 0
  · rw [if_neg (by omega)]
    have hf := check_fr hs hE
    have hnm := hf.nm
    have pl := plans_ok s hf (by omega)
    rw [hE] at ck
    obtain ⟨N, hN⟩ : ∃ N, plansN s.days.toNat (eachL (allsF s) 1) 1 = N := ⟨_, rfl⟩
    rw [hN] at pl ⊢
    refine pureFn_by Try.func30 k30 rfl rfl ?_
    conv => whnf
    refine ⟨_, ck, ?_⟩
    conv => whnf
    refine ⟨_, pl, ?_⟩
    conv => whnf
    cases c1 : decide (3000 < N)
    · conv => whnf
      kernel_rfl
    · conv => whnf
      kernel_rfl
  · rw [if_pos hE]
    obtain ⟨E, hE2⟩ : ∃ E, checkE s = E := ⟨_, rfl⟩
    rw [hE2] at ck hE
    have h0 : decide (E = 0) = false := decide_eq_false hE
    refine pureFn_by Try.func30 k30 rfl rfl ?_
    conv => whnf
    refine ⟨_, ck, ?_⟩
    conv => whnf
    rw [h0]
    conv => whnf
    kernel_rfl
theorem int_selfQ (n : Int) : decide (n = n) = true := decide_eq_true rfl
theorem bests_law (s : Season) : PureFn Try.prog 8 [seasonD s] (boolD true) := by
  have gk := great_ok s
  cases g : greatF s
  · rw [g] at gk
    obtain ⟨hs, h3⟩ := sm_of g
    have mk := many_ok s hs h3
    cases m : manyF s
    · rw [m] at mk
      have p1 := bestT_ok s hs h3
      have p2 := bestR_ok s hs h3
      have fin : ∀ (d0 : D) (n : Int) (f : Bool) (e : Int), bestPlan s = .tup [d0, int n, boolD f, int e] → PureFn Try.prog 21 [d0, d0] (boolD true) → PureFn Try.prog 8 [seasonD s] (boolD true) := fun d0 n f e he hsame => by
        rw [he] at p1 p2
        refine pureFn_by Try.func8 k8 rfl rfl ?_
        conv => whnf
        refine ⟨_, gk, ?_⟩
        conv => whnf
        refine ⟨_, mk, ?_⟩
        conv => whnf
        refine ⟨_, p1, ?_⟩
        conv => whnf
        refine ⟨_, p2, ?_⟩
        conv => whnf
        rw [int_selfQ]
        conv => whnf
        rw [int_selfQ]
        cases f
        · conv => whnf
          refine ⟨_, hsame, ?_⟩
          conv => whnf
          refine ⟨_, lives_ok, ?_⟩
          conv => whnf
          kernel_rfl
        · conv => whnf
          refine ⟨_, hsame, ?_⟩
          conv => whnf
          refine ⟨_, lives_ok, ?_⟩
          conv => whnf
          kernel_rfl
      by_cases hE : checkE s = 0
      · have hf := check_fr hs hE
        have hpok := bestP_ok hf
        have hnm := hf.nm
        have hdy := hf.days
        unfold bestPlan at fin
        rw [if_neg (by omega)] at fin
        by_cases c1 : noneF s = true
        · rw [if_pos c1] at fin
          exact fin _ _ _ _ rfl same_nil
        · rw [if_neg c1] at fin
          by_cases c2 : fewF s (allsF s) = false
          · rw [if_pos c2] at fin
            exact fin _ _ _ _ rfl same_nil
          · rw [if_neg c2] at fin
            cases hb : bestP s with
            | none =>
              rw [hb] at fin
              exact fin _ _ _ _ rfl same_nil
            | some p =>
              rw [hb] at fin
              have po := hpok p hb
              have hsl := sameLists_ok p p (by have := po.len; omega) (fun r hr => by have := (po.rows r hr).1; omega)
              rw [decide_eq_true rfl] at hsl
              exact fin _ _ _ _ rfl hsl
      · unfold bestPlan at fin
        rw [if_pos hE] at fin
        exact fin _ _ _ _ rfl same_nil
    · rw [m] at mk
      refine pureFn_by Try.func8 k8 rfl rfl ?_
      conv => whnf
      refine ⟨_, gk, ?_⟩
      conv => whnf
      refine ⟨_, mk, ?_⟩
      conv => whnf
      refine ⟨_, lives_ok, ?_⟩
      conv => whnf
      kernel_rfl
  · rw [g] at gk
    refine pureFn_by Try.func8 k8 rfl rfl ?_
    conv => whnf
    refine ⟨_, gk, ?_⟩
    conv => whnf
    refine ⟨_, lives_ok, ?_⟩
    conv => whnf
    kernel_rfl
end Go.Proofs.YtmkmegcconjgoaaG
