/- PlanShifts: what its code computes. No condition. -/
import Derived.Test.YtmkmegcconjgoaaP30
set_option linter.unusedVariables false
set_option linter.unusedSimpArgs false
set_option maxRecDepth 100000
set_option maxHeartbeats 4000000
namespace Go.Proofs.YtmkmegcconjgoaaG
open Go Go.AM Go.Proofs

theorem all_drop {n : Nat} {f : Nat → Bool} {i : Nat} (h : i < n) : ((List.range n).drop i).all f = (f i && ((List.range n).drop (i + 1)).all f) := by
  rw [drop_at (show (List.range n)[i]? = some i by simp [h]), List.all_cons]
theorem all_end {n : Nat} {f : Nat → Bool} {i : Nat} (h : n ≤ i) : ((List.range n).drop i).all f = true := by
  rw [List.drop_of_length_le (by simpa using h)]; rfl
theorem shiftsL_main (s : Season) (x : Ask) (g : greatF s = false) (w : wideF x = false) (h : Fr s) (po : POk s x.plan) (hc : checkE s = 0) (hr : keepsR s x.plan = (keepsF s x.plan, 0)) :
    PureFn Try.prog 5 [seasonD s, askD x] (boolD true) := by
  have gk := great_ok s
  have wk := wide_ok x
  have sg := sm_of g
  have hs := sg.1
  have pk := (smp_of_wide w).1
  have kk := Keeps_ok s hs x.plan pk
  rw [g] at gk
  rw [w] at wk
  rw [hr] at kk
  have hdy := h.days
  have hnm := h.nm
  have hno := h.no
  obtain ⟨K, hK⟩ : ∃ K, keepsF s x.plan = K := ⟨_, rfl⟩
  rw [hK] at kk
  have hK' : ((List.range s.ovens.length).drop 0).all (keepK s x.plan) = K := hK
  refine pureFn_by Try.func5 k5 rfl rfl ?_
  conv => whnf
  refine ⟨_, gk, ?_⟩
  conv => whnf
  refine ⟨_, wk, ?_⟩
  conv => whnf
  refine ⟨_, kk, ?_⟩
  conv => whnf
  refine loopB (fun (y : Int × Bool) => ⟨mkT [(2, .d (.fptr (cellsS s))), (3, .d (.fptr (askL x))), (5, .d (boolD K)), (7, .d (boolD y.2)), (8, .d (int y.1))], mkB []⟩)
    (fun y => ∃ k : Nat, y.1 = k ∧ k ≤ s.ovens.length ∧ (y.2 && ((List.range s.ovens.length).drop k).all (keepK s x.plan)) = K) (fun y => (s.ovens.length - y.1).toNat) (0, true) (by kernel_rfl) ⟨0, rfl, by omega, by rw [Bool.true_and]; exact hK'⟩ ?_
  rintro ⟨_, av⟩ ⟨o, rfl, ho, ha⟩
  simp only at ha
  conv => whnf
  cases c1 : decide ((o : Int) < ((s.ovens.map i2).length : Int))
  · have ho' : s.ovens.length ≤ o := by have := of_decide_eq_false c1; rw [List.length_map] at this; omega
    rw [all_end ho', Bool.and_true] at ha
    subst ha
    cases av
    · conv => whnf
      refine ⟨_, lives_ok, ?_⟩
      conv => whnf
      kernel_rfl
    · conv => whnf
      refine ⟨_, lives_ok, ?_⟩
      conv => whnf
      kernel_rfl
  · have ho' : o < s.ovens.length := by have := of_decide_eq_true c1; rw [List.length_map] at this; omega
    have sk := Shifts_ok s hs (o : Int)
    have e0 : shiftsE s (o : Int) = 0 := by unfold shiftsE; rw [if_neg (by simp [hc]), if_neg (by rw [within_iff.2 (by omega)]; simp)]
    rw [e0, if_pos rfl] at sk
    have hord := @shifts_ordered s (o : Int)
    have hfm : ∀ d : Nat, (d : Int) < s.days → fitD s x.plan (o : Int) d = (shiftsF s (o : Int)).any fun r => decide (r = onF s x.plan (makersF s (o : Int)) (d : Int)) := fun d hd => fit_mem h po hd
    have hsl := shiftsF_len h (o : Int)
    have hrl : ∀ r ∈ shiftsF s (o : Int), r.length ≤ 6 := fun r hr => by
      have h1 := (shifts_mem.1 hr).1
      have h2 := Nat.le_trans (makersF_len s (o : Int)) h.nm
      omega
    obtain ⟨L, hL⟩ : ∃ L, shiftsF s (o : Int) = L := ⟨_, rfl⟩
    rw [hL] at sk hord hfm hsl hrl
    rw [all_drop ho'] at ha
    conv => whnf
    refine ⟨_, sk, ?_⟩
    conv => whnf
    refine loopB (fun (i : Int) => ⟨mkT [(2, .d (.fptr (cellsS s))), (3, .d (.fptr (askL x))), (5, .d (boolD K)), (7, .d (boolD av)), (8, .d (int (o : Int))), (9, .d (planD L)), (11, .d (int i))], mkB []⟩)
      (fun i => ∃ k : Nat, i = k ∧ 1 ≤ k ∧ k ≤ L.length + 1) (fun i => (L.length + 1 - i).toNat) 1 (by kernel_rfl) ⟨1, rfl, by omega, by omega⟩ ?_
    rintro _ ⟨i, rfl, hi1, hi⟩
    conv => whnf
    cases c2 : decide ((i : Int) < ((L.map rowL).length : Int))
    · conv => whnf
      obtain ⟨Q, hQ⟩ : ∃ Q, ((List.range s.ovens.length).drop (o + 1)).all (keepK s x.plan) = Q := ⟨_, rfl⟩
      rw [hQ] at ha
      refine loopB (fun (y : Int × Bool) => ⟨mkT [(2, .d (.fptr (cellsS s))), (3, .d (.fptr (askL x))), (5, .d (boolD K)), (7, .d (boolD y.2)), (8, .d (int (o : Int))), (9, .d (planD L)), (12, .d (int y.1))], mkB []⟩)
        (fun y => ∃ k : Nat, y.1 = k ∧ (k : Int) ≤ s.days ∧ (y.2 && (((List.range s.days.toNat).drop k).all (fitD s x.plan (o : Int)) && Q)) = K) (fun y => (s.days - y.1).toNat) (0, av) (by kernel_rfl) ⟨0, rfl, by omega, ha⟩ ?_
      rintro ⟨_, bv⟩ ⟨d, rfl, hd, hb⟩
      simp only at hb
      conv => whnf
      cases c3 : decide ((d : Int) < s.days)
      · have hd' := of_decide_eq_false c3
        rw [all_end (by omega), Bool.true_and] at hb
        conv => whnf
        exact ⟨(IntKind.wrap .i64 ((o : Int) + 1), bv), by kernel_rfl, ⟨o + 1, nx (by omega), by omega, by simp only; rw [hQ]; exact hb⟩, by simp only; rw [nx (by omega)]; omega⟩
      · have hd' := of_decide_eq_true c3
        have hf := hfm d hd'
        rw [all_drop (show d < s.days.toNat by omega), hf] at hb
        have hnow : onF s x.plan (makersF s (o : Int)) (d : Int) = [] ++ (mkFrom (o : Int) (s.makers.drop 0) 0).map (onA s x.plan (d : Int)) := rfl
        have hnl : (onF s x.plan (makersF s (o : Int)) (d : Int)).length ≤ 6 := by
          have h2 := Nat.le_trans (makersF_len s (o : Int)) h.nm
          simpa [onF] using h2
        obtain ⟨NOW, hN⟩ : ∃ NOW, onF s x.plan (makersF s (o : Int)) (d : Int) = NOW := ⟨_, rfl⟩
        rw [hN] at hb hnow hnl
        obtain ⟨R, hR⟩ : ∃ R, (((List.range s.days.toNat).drop (d + 1)).all (fitD s x.plan (o : Int)) && Q) = R := ⟨_, rfl⟩
        rw [Bool.and_assoc, hR] at hb
        conv => whnf
        refine loopB (fun (y : Int × List (List D) × Nat) => ⟨mkT [(2, .d (.fptr (cellsS s))), (3, .d (.fptr (askL x))), (5, .d (boolD K)), (7, .d (boolD bv)), (8, .d (int (o : Int))), (9, .d (planD L)), (12, .d (int (d : Int))), (13, .row 2 0 y.2.2 y.2.2), (14, .d (int y.1))], mkB [(2, .row 1 y.2.1)]⟩)
          (fun y => ∃ (k : Nat) (acc : List Int), y.1 = k ∧ k ≤ s.makers.length ∧ y.2.1 = acc.map i1 ∧ y.2.2 = y.2.1.length ∧ NOW = acc ++ (mkFrom (o : Int) (s.makers.drop k) k).map (onA s x.plan (d : Int))) (fun y => (s.makers.length - y.1).toNat) (0, [], 0) (by kernel_rfl) ⟨0, [], rfl, by omega, rfl, rfl, hnow⟩ ?_
        rintro ⟨_, els, n⟩ ⟨j, acc, rfl, hj, he, hn, hac⟩
        simp only at he hn hac
        have hacl : acc.length ≤ 6 := by have := congrArg List.length hac; simp at this; omega
        conv => whnf
        cases c4 : decide ((j : Int) < ((s.makers.map mkL).length : Int))
        · have hj' : j = s.makers.length := by have := of_decide_eq_false c4; rw [List.length_map] at this; omega
          rw [hj', drop_end] at hac
          have hac : NOW = acc := by simpa [mkFrom] using hac
          subst hac
          conv => whnf
          obtain ⟨IN, hIN⟩ : ∃ IN, (L.any fun r => decide (r = NOW)) = IN := ⟨_, rfl⟩
          rw [hIN] at hb
          refine loopB (fun (y : Int × Bool) => ⟨mkT [(2, .d (.fptr (cellsS s))), (3, .d (.fptr (askL x))), (5, .d (boolD K)), (7, .d (boolD bv)), (8, .d (int (o : Int))), (9, .d (planD L)), (12, .d (int (d : Int))), (13, .row 2 0 n n), (15, .d (boolD y.2)), (16, .d (int y.1))], mkB [(2, .row 1 els)]⟩)
            (fun y => ∃ (k : Nat), y.1 = k ∧ k ≤ L.length ∧ (y.2 || (L.drop k).any fun r => decide (r = NOW)) = IN) (fun y => (L.length - y.1).toNat) (0, false) (by kernel_rfl) ⟨0, rfl, by omega, by simpa using hIN⟩ ?_
          rintro ⟨_, inn⟩ ⟨q, rfl, hq, hi2⟩
          simp only at hi2
          conv => whnf
          cases c5 : decide ((q : Int) < ((L.map rowL).length : Int))
          · have hq' : q = L.length := by have := of_decide_eq_false c5; rw [List.length_map] at this; omega
            rw [hq', drop_end, List.any_nil, Bool.or_false] at hi2
            subst hi2
            cases bv
            · conv => whnf
              exact ⟨(IntKind.wrap .i64 ((d : Int) + 1), false), by kernel_rfl, ⟨d + 1, nx (by omega), by omega, by simpa using hb⟩, by simp only; rw [nx (by omega)]; omega⟩
            · conv => whnf
              exact ⟨(IntKind.wrap .i64 ((d : Int) + 1), inn), by kernel_rfl, ⟨d + 1, nx (by omega), by omega, by simp only; rw [hR]; simpa using hb⟩, by simp only; rw [nx (by omega)]; omega⟩
          · have hq' : q < L.length := by have := of_decide_eq_true c5; rw [List.length_map] at this; omega
            obtain ⟨r, hr⟩ := get_lt hq'
            have hrl' := hrl r (List.mem_of_getElem? hr)
            rw [drop_at hr, List.any_cons] at hi2
            cases inn
            · conv => whnf
              refine ⟨by omega, _, gm hr, ?_⟩
              conv => whnf
              rw [call2 (d := rowD r) (e := rowD NOW) rfl (snap_row0 (s := 2) (esz := 1) (els := NOW.map i1) (by rw [← he]; rfl) (by rw [hn, he]))]
              conv => whnf
              refine ⟨_, sameInts_ok r NOW (by omega), ?_⟩
              conv => whnf
              refine ⟨rfl, ?_⟩
              conv => whnf
              exact ⟨(IntKind.wrap .i64 ((q : Int) + 1), decide (r = NOW)), by kernel_rfl, ⟨q + 1, nx (by omega), by omega, by simpa using hi2⟩, by simp only; rw [nx (by omega)]; omega⟩
            · conv => whnf
              exact ⟨(IntKind.wrap .i64 ((q : Int) + 1), true), by kernel_rfl, ⟨q + 1, nx (by omega), by omega, by simpa using hi2⟩, by simp only; rw [nx (by omega)]; omega⟩
        · have hj' : j < s.makers.length := by have := of_decide_eq_true c4; rw [List.length_map] at this; omega
          obtain ⟨M, hM⟩ := get_lt hj'
          rw [drop_at hM, mkFrom] at hac
          conv => whnf
          refine ⟨by omega, _, gm hM, ?_⟩
          conv => whnf
          cases c5 : decide (M.oven = (o : Int))
          · rw [if_neg (of_decide_eq_false c5)] at hac
            conv => whnf
            exact ⟨(IntKind.wrap .i64 ((j : Int) + 1), els, n), by kernel_rfl, ⟨j + 1, acc, nx (by omega), by omega, he, hn, hac⟩, by simp only; rw [nx (by omega)]; omega⟩
          · rw [if_pos (of_decide_eq_true c5), List.map_cons] at hac
            obtain ⟨r, a, hr, hra, ec, ea⟩ := cell_get po (m := (j : Int)) (d := (d : Int)) (by omega) (by omega)
            rw [Int.toNat_natCast] at hr hra
            rw [onA_pos, ec] at hac
            conv => whnf
            refine ⟨by omega, _, gm hr, ?_⟩
            conv => whnf
            refine ⟨by omega, _, gm hra, ?_⟩
            conv => whnf
            refine ⟨rfl, rfl, hn, most_le (by rw [he]; simp; omega), ?_⟩
            conv => whnf
            exact ⟨(IntKind.wrap .i64 ((j : Int) + 1), els ++ [[int a]], els.length + 1), by kernel_rfl, ⟨j + 1, acc ++ [a], nx (by omega), by omega, by rw [he]; simp, by simp, by rw [hac]; simp⟩, by simp only; rw [nx (by omega)]; omega⟩
    · have hi' : i < L.length := by have := of_decide_eq_true c2; rw [List.length_map] at this; omega
      obtain ⟨i', rfl⟩ : ∃ i', i = i' + 1 := ⟨i - 1, by omega⟩
      obtain ⟨a, hA⟩ := get_lt (xs := L) (i := i') (by omega)
      obtain ⟨b, hB⟩ := get_lt hi'
      have hal := hrl a (List.mem_of_getElem? hA)
      have ak := ahead_ok a b (by omega)
      rw [hord hA hB] at ak
      have ew : IntKind.wrap .i64 (((i' + 1 : Nat) : Int) - 1) = (i' : Int) := by rw [wr_eq (by omega)]; omega
      conv => whnf
      rw [ew]
      refine ⟨by omega, _, gm hA, ?_⟩
      conv => whnf
      refine ⟨by omega, _, gm hB, ?_⟩
      conv => whnf
      refine ⟨_, ak, ?_⟩
      conv => whnf
      exact ⟨IntKind.wrap .i64 (((i' + 1 : Nat) : Int) + 1), by kernel_rfl, ⟨i' + 1 + 1, nx (by omega), by omega, by omega⟩, by rw [nx (by omega)]; omega⟩
theorem shiftsL_law (s : Season) (x : Ask) : PureFn Try.prog 5 [seasonD s, askD x] (boolD true) := by
  have gk := great_ok s
  cases g : greatF s
  · have wk := wide_ok x
    cases w : wideF x
    · have sg := sm_of g
      have hs := sg.1
      have pk := (smp_of_wide w).1
      have kk := Keeps_ok s hs x.plan pk
      have bad : ∀ E : Int, E ≠ 0 → keepsR s x.plan = (false, E) → PureFn Try.prog 5 [seasonD s, askD x] (boolD true) := fun E hE hr => by
        rw [hr] at kk
        rw [g] at gk
        rw [w] at wk
        refine pureFn_by Try.func5 k5 rfl rfl ?_
        conv => whnf
        refine ⟨_, gk, ?_⟩
        conv => whnf
        refine ⟨_, wk, ?_⟩
        conv => whnf
        refine ⟨_, kk, ?_⟩
        conv => whnf
        rw [decide_eq_false hE]
        conv => whnf
        refine ⟨_, lives_ok, ?_⟩
        conv => whnf
        kernel_rfl
      by_cases hc : checkE s = 0
      · by_cases hp : planE s x.plan = 0
        · exact shiftsL_main s x g w (fr_of hs hc) (pok_of hp) hc (by unfold keepsR; rw [if_neg (by simp [hc]), if_neg (by simp [hp])])
        · exact bad _ hp (by unfold keepsR; rw [if_neg (by simp [hc]), if_pos hp])
      · exact bad _ hc (by unfold keepsR; rw [if_pos hc])
    · rw [g] at gk
      rw [w] at wk
      refine pureFn_by Try.func5 k5 rfl rfl ?_
      conv => whnf
      refine ⟨_, gk, ?_⟩
      conv => whnf
      refine ⟨_, wk, ?_⟩
      conv => whnf
      refine ⟨_, lives_ok, ?_⟩
      conv => whnf
      kernel_rfl
  · rw [g] at gk
    refine pureFn_by Try.func5 k5 rfl rfl ?_
    conv => whnf
    refine ⟨_, gk, ?_⟩
    conv => whnf
    refine ⟨_, lives_ok, ?_⟩
    conv => whnf
    kernel_rfl
end Go.Proofs.YtmkmegcconjgoaaG
