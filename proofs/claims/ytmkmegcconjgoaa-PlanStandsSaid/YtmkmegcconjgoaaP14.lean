/- Whether a plan keeps a season; the errors of both. No condition. -/
import Derived.Test.YtmkmegcconjgoaaP13
set_option linter.unusedVariables false
set_option linter.unusedSimpArgs false
set_option maxRecDepth 100000
set_option maxHeartbeats 4000000
namespace Go.Proofs.YtmkmegcconjgoaaG
open Go Go.AM Go.Proofs

@[reducible] def nilD : D := .v (.slice none 0 0)
def fitD (s : Season) (p : List (List Int)) (k : Int) (d : Nat) : Bool := fitsF s k (makersF s k) (onF s p (makersF s k) (d : Int))
def keepK (s : Season) (p : List (List Int)) (k : Nat) : Bool := (List.range s.days.toNat).all (fitD s p (k : Int))
def keepsF (s : Season) (p : List (List Int)) : Bool := (List.range s.ovens.length).all (keepK s p)

theorem keeps_ok (s : Season) (h : Fr s) (p : List (List Int)) (hp : POk s p) : PureFn Try.prog 44 [seasonD s, planD p] (boolD (keepsF s p)) := by
  have hno := h.no
  have hdy := h.days
  refine pureFn_by Try.func44 k44 rfl rfl ?_
  unfold keepsF
  obtain ⟨B, hB⟩ : ∃ B, (List.range s.ovens.length).all (keepK s p) = B := ⟨_, rfl⟩
  rw [hB]
  conv => whnf
  refine loopB (fun (i : Int) => ⟨mkT [(1, .d (planD p)), (2, .d (.fptr (cellsS s))), (10, .d (int (s.ovens.map i2).length)), (11, .d (int i))], mkB []⟩)
    (fun i => ∃ k : Nat, i = k ∧ k ≤ s.ovens.length ∧ ((List.range s.ovens.length).drop k).all (keepK s p) = B) (fun i => (s.ovens.length - i).toNat) 0 (by kernel_rfl) ⟨0, rfl, by omega, hB⟩ ?_
  rintro _ ⟨i, rfl, hi, hb⟩
  conv => whnf
  rw [List.length_map]
  cases c1 : decide ((i : Int) < (s.ovens.length : Int))
  · have hi' : i = s.ovens.length := by have := of_decide_eq_false c1; omega
    rw [List.drop_of_length_le (by simp [hi'])] at hb
    rw [← hb]
    conv => whnf
    kernel_rfl
  · have hi' : i < s.ovens.length := by have := of_decide_eq_true c1; omega
    rw [drop_at (List.getElem?_range hi'), List.all_cons] at hb
    have mk := makers_ok s h.sm (i : Int)
    have hml := Nat.le_trans (makersF_len s (i : Int)) h.nm
    obtain ⟨ms, hms⟩ : ∃ ms, makersF s (i : Int) = ms := ⟨_, rfl⟩
    have hmm : ∀ m ∈ ms, 0 ≤ m ∧ m < s.makers.length := fun m hm => makersF_mem (hms ▸ hm)
    have hfd : ∀ d, fitD s p (i : Int) d = fitsF s (i : Int) ms (onF s p ms (d : Int)) := fun d => by unfold fitD; rw [hms]
    rw [hms] at mk hml
    obtain ⟨KB, hKB⟩ : ∃ KB, keepK s p i = KB := ⟨_, rfl⟩
    rw [hKB] at hb
    conv => whnf
    refine ⟨_, mk, ?_⟩
    conv => whnf
    refine loopB (fun (x : Int) => ⟨mkT [(1, .d (planD p)), (2, .d (.fptr (cellsS s))), (5, .d (int (i : Int))), (6, .d (rowD ms)), (10, .d (int s.ovens.length)), (11, .d (int (i : Int))), (18, .d (int s.days)), (19, .d (int x))], mkB []⟩)
      (fun x => ∃ k : Nat, x = k ∧ (k : Int) ≤ s.days ∧ ((List.range s.days.toNat).drop k).all (fitD s p (i : Int)) = KB) (fun x => (s.days - x).toNat) 0 (by kernel_rfl) ⟨0, rfl, by omega, hKB⟩ ?_
    rintro _ ⟨d, rfl, hd, hbd⟩
    conv => whnf
    cases c2 : decide ((d : Int) < s.days)
    · have hd' : s.days.toNat ≤ d := by have := of_decide_eq_false c2; omega
      rw [List.drop_of_length_le (by simpa using hd')] at hbd
      have hbd : KB = true := hbd.symm
      rw [hbd] at hb
      conv => whnf
      exact ⟨IntKind.wrap .i64 ((i : Int) + 1), by kernel_rfl, ⟨i + 1, nx (by omega), by omega, hb⟩, by rw [nx (by omega)]; omega⟩
    · have hd' := of_decide_eq_true c2
      rw [drop_at (List.getElem?_range (show d < s.days.toNat by omega)), List.all_cons, hfd d] at hbd
      have on := on_ok s h p hp ms hmm (by omega) (d : Int) hd'
      have ft := fits_ok s h (i : Int) ⟨by omega, by omega⟩ ms _ (onF_row h hp hmm (by omega) hd')
      conv => whnf
      refine ⟨_, on, ?_⟩
      conv => whnf
      refine ⟨_, ft, ?_⟩
      cases c3 : fitsF s (i : Int) ms (onF s p ms (d : Int))
      · rw [c3] at hbd
        have hbd : KB = false := hbd.symm
        rw [hbd] at hb
        rw [← hb]
        conv => whnf
        kernel_rfl
      · rw [c3] at hbd
        conv => whnf
        exact ⟨IntKind.wrap .i64 ((d : Int) + 1), by kernel_rfl, ⟨d + 1, nx (by omega), by omega, hbd⟩, by rw [nx (by omega)]; omega⟩

theorem fr_of {s : Season} (hs : Sm s) (h : checkE s = 0) : Fr s := by
  unfold checkE at h
  split at h
  · rename_i h1; exact absurd h h1
  · rename_i h1; exact frame_fr hs (Decidable.not_not.1 h1)

/-- What Keeps returns. -/
def keepsR (s : Season) (p : List (List Int)) : Bool × Int := if checkE s ≠ 0 then (false, checkE s) else if planE s p ≠ 0 then (false, planE s p) else (keepsF s p, 0)
theorem Keeps_ok (s : Season) (hs : Sm s) (p : List (List Int)) (hp : SmP p) : PureFn Try.prog 17 [seasonD s, planD p] (.tup [boolD (keepsR s p).1, int (keepsR s p).2]) := by
  have ch := check_ok s hs
  have pl := checkPlan_ok s hs p hp
  have hfr := fr_of hs
  unfold keepsR
  have hpk := @pok_of s p
  obtain ⟨A, hA⟩ : ∃ A, checkE s = A := ⟨_, rfl⟩
  obtain ⟨M, hM⟩ : ∃ M, planE s p = M := ⟨_, rfl⟩
  rw [hA] at ch hfr ⊢
  rw [hM] at pl hpk ⊢
  refine pureFn_by Try.func17 k17 rfl rfl ?_
  conv => whnf
  refine ⟨_, ch, ?_⟩
  conv => whnf
  cases c1 : decide (A = 0)
  · rw [if_pos (of_decide_eq_false c1)]
    conv => whnf
    kernel_rfl
  · have h1 := of_decide_eq_true c1
    rw [if_neg (by simp [h1])]
    conv => whnf
    refine ⟨_, pl, ?_⟩
    conv => whnf
    cases c2 : decide (M = 0)
    · rw [if_pos (of_decide_eq_false c2)]
      conv => whnf
      kernel_rfl
    · have h2 := of_decide_eq_true c2
      rw [if_neg (by simp [h2])]
      conv => whnf
      refine ⟨_, keeps_ok s (hfr h1) p (hpk h2), ?_⟩
      conv => whnf
      kernel_rfl

/-- The error of a plan that must keep the season. -/
def keptE (s : Season) (p : List (List Int)) : Int := if (keepsR s p).2 = 0 then (if (keepsR s p).1 = true then 0 else 8) else (keepsR s p).2
theorem kept_ok (s : Season) (hs : Sm s) (p : List (List Int)) (hp : SmP p) : PureFn Try.prog 36 [seasonD s, planD p] (int (keptE s p)) := by
  have kp := Keeps_ok s hs p hp
  unfold keptE
  obtain ⟨⟨b, e⟩, hr⟩ : ∃ r, keepsR s p = r := ⟨_, rfl⟩
  rw [hr] at kp ⊢
  refine pureFn_by Try.func36 k36 rfl rfl ?_
  conv => whnf
  refine ⟨_, kp, ?_⟩
  conv => whnf
  cases c1 : decide (e = 0)
  · rw [if_neg (of_decide_eq_false c1)]
    conv => whnf
    kernel_rfl
  · have h1 := of_decide_eq_true c1
    subst h1
    rw [if_pos rfl]
    cases b
    · conv => whnf
      kernel_rfl
    · conv => whnf
      kernel_rfl
theorem kept_zero {s : Season} (hs : Sm s) {p : List (List Int)} (h : keptE s p = 0) : Fr s ∧ POk s p ∧ keepsF s p = true := by
  unfold keptE at h
  split at h
  · rename_i h1
    split at h
    · rename_i h2
      unfold keepsR at h1 h2
      split at h1
      · rename_i h3; exact absurd h1 h3
      rename_i h3
      split at h1
      · rename_i h4; exact absurd h1 h4
      rename_i h4
      rw [if_neg h3, if_neg h4] at h2
      exact ⟨fr_of hs (Decidable.not_not.1 h3), pok_of (Decidable.not_not.1 h4), h2⟩
    · cases h
  · rename_i h1; exact absurd h h1

/-- What Shifts returns. -/
def shiftsE (s : Season) (k : Int) : Int := if checkE s ≠ 0 then checkE s else if withinF k 0 ((s.ovens.length : Int) - 1) = false then 7 else 0
theorem Shifts_ok (s : Season) (hs : Sm s) (k : Int) : PureFn Try.prog 15 [seasonD s, int k] (.tup [if shiftsE s k = 0 then planD (shiftsF s k) else nilD, int (shiftsE s k)]) := by
  have ch := check_ok s hs
  have hfr := fr_of hs
  have hov := hs.ovens
  have hwo : IntKind.wrap .i64 (((s.ovens.map i2).length : Int) - 1) = (s.ovens.length : Int) - 1 := by rw [List.length_map, wr_eq (by omega)]
  obtain ⟨A, hA⟩ : ∃ A, checkE s = A := ⟨_, rfl⟩
  obtain ⟨E, hE⟩ : ∃ E, shiftsE s k = E := ⟨_, rfl⟩
  have eE : E = if A ≠ 0 then A else if withinF k 0 ((s.ovens.length : Int) - 1) = false then 7 else 0 := by rw [← hE, shiftsE, hA]
  rw [hE]
  rw [hA] at ch hfr
  refine pureFn_by Try.func15 k15 rfl rfl ?_
  conv => whnf
  refine ⟨_, ch, ?_⟩
  conv => whnf
  cases c1 : decide (A = 0)
  · have h1 := of_decide_eq_false c1
    rw [if_pos h1] at eE
    rw [eE, if_neg h1]
    conv => whnf
    kernel_rfl
  · have h1 := of_decide_eq_true c1
    rw [if_neg (by simp [h1])] at eE
    conv => whnf
    refine ⟨_, within_ok _ _ _, ?_⟩
    rw [hwo]
    cases c2 : withinF k 0 ((s.ovens.length : Int) - 1)
    · rw [c2, if_pos rfl] at eE
      rw [eE, if_neg (by decide)]
      conv => whnf
      kernel_rfl
    · have h2 := within_iff.1 c2
      rw [c2, if_neg (by simp)] at eE
      rw [eE, if_pos rfl]
      conv => whnf
      refine ⟨_, all_ok s (hfr h1) k ⟨by omega, by omega⟩, ?_⟩
      conv => whnf
      kernel_rfl
end Go.Proofs.YtmkmegcconjgoaaG
