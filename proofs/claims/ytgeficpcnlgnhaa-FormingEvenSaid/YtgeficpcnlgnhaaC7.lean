/- The specification's errors of a motion, and its position. No condition. -/
import Derived.Test.YtgeficpcnlgnhaaC6
set_option linter.unusedVariables false
set_option linter.unusedSimpArgs false
set_option maxRecDepth 100000
namespace Go.Proofs.YtgeficpcnlgnhaaG
open Go Go.AM Go.Proofs

theorem badAt_iff (cycle : Int) (l : List (Int × Int)) (i : Nat) : badAt cycle l i = true ↔
    (l.getD i (0, 0)).2 < 0 ∨ 1000000 < (l.getD i (0, 0)).2 ∨ cycle ≤ (l.getD i (0, 0)).1 ∨ ((i : Int) = 0 ∧ (l.getD i (0, 0)).1 ≠ 0) ∨ (0 < (i : Int) ∧ (l.getD i (0, 0)).1 ≤ (l.getD (i - 1) (0, 0)).1) := by
  simp only [badAt, isPlaceF, withinF, Bool.or_eq_true, Bool.and_eq_true, Bool.not_eq_true', Bool.and_eq_false_iff, decide_eq_true_eq, decide_eq_false_iff_not]
  omega

theorem checkMotion_ok (cycle home : Int) (l : List (Int × Int)) : PureFn Try.prog 30 [int cycle, int home, knotsD l] (int (mErr cycle home l)) := by
  have head : (cycle < 1 ∨ 3600 < cycle ∨ home < 0 ∨ 1000000 < home) → mErr cycle home l = 1 := fun h => by
    unfold mErr
    rw [if_neg]
    simp only [isPlaceF, withinF, Bool.and_eq_true, decide_eq_true_eq]; omega
  refine pureFn_by Try.func30 k30 rfl rfl ?_
  conv => whnf
  cases h1 : decide (cycle < 1)
  case true => rw [head (by have := of_decide_eq_true h1; omega)]; rfl
  conv => whnf
  cases h2 : decide (3600 < cycle)
  case true => rw [head (by have := of_decide_eq_true h2; omega)]; rfl
  conv => whnf
  cases h3 : decide (home < 0)
  case true => rw [head (by have := of_decide_eq_true h3; omega)]; rfl
  conv => whnf
  cases h4 : decide (1000000 < home)
  case true => rw [head (by have := of_decide_eq_true h4; omega)]; rfl
  have hh : (withinF cycle 1 3600 && isPlaceF home) = true := by
    have := of_decide_eq_false h1; have := of_decide_eq_false h2; have := of_decide_eq_false h3; have := of_decide_eq_false h4
    simp only [isPlaceF, withinF, Bool.and_eq_true, decide_eq_true_eq]; omega
  conv => whnf
  rw [List.length_map]
  cases h5 : decide ((16 : Int) < (l.length : Int))
  case true =>
    have h5' : 16 < l.length := by have := of_decide_eq_true h5; omega
    rw [show mErr cycle home l = 3 by unfold mErr; rw [if_pos hh, if_pos h5']]; rfl
  have h5' : ¬ 16 < l.length := by have := of_decide_eq_false h5; omega
  conv => whnf
  refine loopB (fun (x : Int) => ⟨mkT [(0, .d (int cycle)), (2, .d (knotsD l)), (7, .d (int x))], mkB []⟩)
    (fun x => ∃ i : Nat, x = i ∧ i ≤ l.length ∧ ∀ j, j < i → badAt cycle l j = false) (fun x => (l.length - x).toNat) 0 rfl ⟨0, rfl, by omega, fun j h => by omega⟩ ?_
  rintro x ⟨i, rfl, hil, hb⟩
  conv => whnf
  rw [List.length_map]
  cases c1 : decide ((i : Int) < (l.length : Int))
  · have c1' := of_decide_eq_false c1
    have hi : i = l.length := by omega
    have : mErr cycle home l = 0 := by
      unfold mErr
      rw [if_pos hh, if_neg h5', if_neg]
      rw [List.any_eq_true]
      rintro ⟨j, hj, hbj⟩
      rw [hb j (by have := List.mem_range.1 hj; omega)] at hbj
      cases hbj
    rw [this]; rfl
  · have c1' := of_decide_eq_true c1
    have hi : i < l.length := by omega
    have bad : badAt cycle l i = true → mErr cycle home l = 1 := fun hbi => by
      unfold mErr
      rw [if_pos hh, if_neg h5', if_pos]
      exact List.any_eq_true.2 ⟨i, List.mem_range.2 hi, hbi⟩
    have hw := next_i (i := i) (n := l.length) hi (by omega)
    have next : badAt cycle l i = false → ∃ j : Nat, IntKind.wrap .i64 ((i : Int) + 1) = j ∧ j ≤ l.length ∧ ∀ k, k < j → badAt cycle l k = false := fun hbi =>
      ⟨i + 1, hw, hi, fun k hk => by
        by_cases e : k = i
        · rw [e]; exact hbi
        · exact hb k (by omega)⟩
    have dec : (l.length - IntKind.wrap .i64 ((i : Int) + 1) : Int).toNat < (l.length - (i : Int)).toNat := by rw [hw]; omega
    have get : (l.map knD)[(i : Int).toNat]? = some (knD (l.getD i (0, 0))) := by rw [Int.toNat_natCast]; exact kn_get hi
    have good : ¬ (badAt cycle l i = true) → badAt cycle l i = false := fun h => by simpa using h
    conv => whnf
    refine ⟨by omega, _, get, ?_⟩
    conv => whnf
    cases p1 : decide ((l.getD i (0, 0)).2 < 0)
    case true => rw [bad ((badAt_iff ..).2 (.inl (of_decide_eq_true p1)))]; rfl
    conv => whnf
    refine ⟨by omega, _, get, ?_⟩
    conv => whnf
    cases p2 : decide (1000000 < (l.getD i (0, 0)).2)
    case true => rw [bad ((badAt_iff ..).2 (.inr (.inl (of_decide_eq_true p2))))]; rfl
    conv => whnf
    refine ⟨by omega, _, get, ?_⟩
    conv => whnf
    cases p3 : decide (cycle ≤ (l.getD i (0, 0)).1)
    case true => rw [bad ((badAt_iff ..).2 (.inr (.inr (.inl (of_decide_eq_true p3)))))]; rfl
    conv => whnf
    have q1 := of_decide_eq_false p1
    have q2 := of_decide_eq_false p2
    have q3 := of_decide_eq_false p3
    cases p4 : decide ((i : Int) = 0)
    · have q4 := of_decide_eq_false p4
      conv => whnf
      rw [show decide (0 < (i : Int)) = true by simp; omega]
      conv => whnf
      refine ⟨by omega, _, get, ?_⟩
      conv => whnf
      have hpre : IntKind.wrap .i64 ((i : Int) - 1) = ((i - 1 : Nat) : Int) := by
        have := wr_in (n := (i : Int) - 1) (by unfold I64; omega)
        rw [show IntKind.wrap .i64 ((i : Int) - 1) = _ from this]; omega
      rw [hpre]
      refine ⟨by omega, _, (by rw [Int.toNat_natCast]; exact kn_get (show i - 1 < l.length by omega)), ?_⟩
      conv => whnf
      cases p5 : decide ((l.getD i (0, 0)).1 ≤ (l.getD (i - 1) (0, 0)).1)
      case true => rw [bad ((badAt_iff ..).2 (.inr (.inr (.inr (.inr ⟨by omega, of_decide_eq_true p5⟩)))))]; rfl
      conv => whnf
      have q5 := of_decide_eq_false p5
      exact ⟨_, rfl, next (good (by rw [badAt_iff]; omega)), dec⟩
    · have q4 := of_decide_eq_true p4
      conv => whnf
      refine ⟨by omega, _, get, ?_⟩
      conv => whnf
      cases p5 : decide ((l.getD i (0, 0)).1 = 0)
      case false => rw [bad ((badAt_iff ..).2 (.inr (.inr (.inr (.inl ⟨q4, of_decide_eq_false p5⟩)))))]; rfl
      conv => whnf
      have q5 := of_decide_eq_true p5
      rw [show decide (0 < (i : Int)) = false by simp; omega]
      conv => whnf
      exact ⟨_, rfl, next (good (by rw [badAt_iff]; omega)), dec⟩
end Go.Proofs.YtgeficpcnlgnhaaG
