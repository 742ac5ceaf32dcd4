/- TopPulled: what its code computes. No condition. -/
import Derived.Test.YtmkmegcconjgoaaP28
set_option linter.unusedVariables false
set_option linter.unusedSimpArgs false
set_option maxRecDepth 100000
set_option maxHeartbeats 4000000
namespace Go.Proofs.YtmkmegcconjgoaaG
open Go Go.AM Go.Proofs

theorem top_term {s : Season} (h : Fr s) {p : List (List Int)} (po : POk s p) {o : Int} {d : Nat} (hd : (d : Int) < s.days) {j : Int} (hj : 0 ≤ j ∧ j < s.makers.length) (h0 : 0 ≤ onA s p (d : Int) j) :
    0 ≤ madeD s p o j d * wgt s (onA s p (d : Int) j) ∧ madeD s p o j d * wgt s (onA s p (d : Int) j) ≤ 100000000000 := by
  have a1 := onA_art h po hj (show (d : Int) - 1 < s.days by omega)
  have a2 := onA_art h po hj hd
  have hmm : ∀ m ∈ makersF s o, 0 ≤ m ∧ m < s.makers.length := fun m hm => makersF_mem hm
  have hml := Nat.le_trans (makersF_len s o) h.nm
  have r1 := onF_row h po hmm (by omega) (show (d : Int) - 1 < s.days by omega)
  have r2 := onF_row h po hmm (by omega) hd
  have ll := lostF_le h r1.arts r2.arts
  have t1 := term_le h hj h0 a2.2
  have m0 := madeA_le h ⟨ll.1, ll.2.1⟩ hj a1.2 a2.2
  have m1 := madeA_rate h ⟨ll.1, ll.2.1⟩ hj a1.2 h0 a2.2
  obtain ⟨x, hx, _, ew⟩ := art_get h0 a2.2
  have hw := h.art x (List.mem_of_getElem? hx)
  have t2 : madeD s p o j d * wgt s (onA s p (d : Int) j) ≤ rateF s j (onA s p (d : Int) j) * wgt s (onA s p (d : Int) j) :=
    Int.mul_le_mul_of_nonneg_right m1 (by rw [ew]; omega)
  have t3 : 0 ≤ madeD s p o j d * wgt s (onA s p (d : Int) j) := Int.mul_nonneg m0.1 (by rw [ew]; omega)
  omega
theorem onA_pos {s : Season} {p : List (List Int)} {d : Nat} {m : Int} : onA s p (d : Int) m = cell p m d := by unfold onA; rw [if_neg (by omega)]
theorem top_main (s : Season) (x : Ask) (g : greatF s = false) (w : wideF x = false) (h : Fr s) (po : POk s x.plan) (hE : keptE s x.plan = 0) :
    PureFn Try.prog 9 [seasonD s, askD x] (boolD true) := by
  have gk := great_ok s
  have wk := wide_ok x
  have sg := sm_of g
  have hs := sg.1
  have pk := (smp_of_wide w).1
  have mt := Made_ok s hs sg.2 x.plan pk
  have pt := Pulls_ok s hs x.plan pk
  unfold madeTop at mt
  unfold pullsTop at pt
  rw [g] at gk
  rw [w] at wk
  rw [hE, if_pos rfl] at mt pt
  have hM := madeF_get h x.plan
  have hdy := h.days
  have hnm := h.nm
  have hno := h.no
  obtain ⟨M, eM⟩ : ∃ M, (madeF s x.plan).1 = M := ⟨_, rfl⟩
  obtain ⟨P, eP⟩ : ∃ P, pullsF s x.plan = P := ⟨_, rfl⟩
  rw [eM] at mt hM
  rw [eP] at pt
  have hPl : P.length = s.ovens.length := by rw [← eP]; simp [pullsF]
  have hP : ∀ o : Nat, o < s.ovens.length → P[o]? = some (pullRow s x.plan o) := fun o ho => by rw [← eP]; simp [pullsF, ho]
  have hrl : ∀ o : Nat, (pullRow s x.plan o).length = s.days.toNat := fun o => by simp [pullRow]
  have hml : ∀ (k : Int) (i : Nat), (rowM s x.plan k i).length = s.days.toNat := fun k i => by simp [rowM]
  refine pureFn_by Try.func9 k9 rfl rfl ?_
  conv => whnf
  refine ⟨_, gk, ?_⟩
  conv => whnf
  refine ⟨_, wk, ?_⟩
  conv => whnf
  refine ⟨_, mt, ?_⟩
  conv => whnf
  refine ⟨_, pt, ?_⟩
  conv => whnf
  rw [decide_eq_true (show ((M.map rowL).length : Int) = ((s.makers.map mkL).length : Int) by simp [hM.1])]
  conv => whnf
  rw [decide_eq_true (show ((P.map rowL).length : Int) = ((s.ovens.map i2).length : Int) by simp [hPl])]
  conv => whnf
  rw [decide_eq_true (show ((x.plan.map rowL).length : Int) = ((s.makers.map mkL).length : Int) by simp [po.len])]
  conv => whnf
  refine loopB (fun (i : Int) => ⟨mkT [(2, .d (.fptr (cellsS s))), (3, .d (.fptr (askL x))), (5, .d (planD M)), (7, .d (planD P)), (9, .d (int i))], mkB []⟩)
    (fun i => ∃ k : Nat, i = k ∧ k ≤ M.length) (fun i => (M.length - i).toNat) 0 (by kernel_rfl) ⟨0, rfl, by omega⟩ ?_
  rintro _ ⟨i, rfl, hi⟩
  conv => whnf
  cases c1 : decide ((i : Int) < ((M.map rowL).length : Int))
  · conv => whnf
    refine loopB (fun (i : Int) => ⟨mkT [(2, .d (.fptr (cellsS s))), (3, .d (.fptr (askL x))), (5, .d (planD M)), (7, .d (planD P)), (10, .d (int i))], mkB []⟩)
      (fun i => ∃ k : Nat, i = k ∧ k ≤ s.ovens.length) (fun i => (s.ovens.length - i).toNat) 0 (by kernel_rfl) ⟨0, rfl, by omega⟩ ?_
    rintro _ ⟨o, rfl, ho⟩
    conv => whnf
    cases c2 : decide ((o : Int) < ((s.ovens.map i2).length : Int))
    · conv => whnf
      refine ⟨_, planned_ok, ?_⟩
      conv => whnf
      kernel_rfl
    · have ho' : o < s.ovens.length := by have := of_decide_eq_true c2; rw [List.length_map] at this; omega
      have ep := hP o ho'
      conv => whnf
      refine ⟨by omega, _, gm ep, ?_⟩
      conv => whnf
      rw [decide_eq_true (show (((pullRow s x.plan o).map i1).length : Int) = s.days by rw [List.length_map, hrl]; omega)]
      conv => whnf
      refine loopB (fun (d : Int) => ⟨mkT [(2, .d (.fptr (cellsS s))), (3, .d (.fptr (askL x))), (5, .d (planD M)), (7, .d (planD P)), (10, .d (int (o : Int))), (11, .d (int d))], mkB []⟩)
        (fun i => ∃ k : Nat, i = k ∧ (k : Int) ≤ s.days) (fun i => (s.days - i).toNat) 0 (by kernel_rfl) ⟨0, rfl, by omega⟩ ?_
      rintro _ ⟨d, rfl, hd⟩
      conv => whnf
      cases c3 : decide ((d : Int) < s.days)
      · conv => whnf
        exact ⟨IntKind.wrap .i64 ((o : Int) + 1), by kernel_rfl, ⟨o + 1, nx (by omega), by omega⟩, by rw [nx (by omega)]; omega⟩
      · have hd' := of_decide_eq_true c3
        have tl := top_lt h po (o := (o : Int)) hd'
        have hq : (pullRow s x.plan o)[d]? = some (pullD s x.plan (o : Int) d) := by simp [pullRow, show d < s.days.toNat by omega]
        have hpd : 0 ≤ pullD s x.plan (o : Int) d ∧ pullD s x.plan (o : Int) d ≤ 10000000000000 := by
          have hmm : ∀ m ∈ makersF s (o : Int), 0 ≤ m ∧ m < s.makers.length := fun m hm => makersF_mem hm
          have hml := Nat.le_trans (makersF_len s (o : Int)) h.nm
          have r2 := onF_row h po hmm (by omega) hd'
          have h2 := decF_le h r2.ms r2.arts
          have hsm := r2.small
          have hq := quo_le h2.1 (show decF s (makersF s (o : Int)) (onF s x.plan (makersF s (o : Int)) (d : Int)) ≤ 10000000000000 by omega)
          unfold pullD pullF
          omega
        obtain ⟨T, hT⟩ : ∃ T, topSum s x.plan (o : Int) d s.makers 0 = T := ⟨_, rfl⟩
        rw [hT] at tl
        conv => whnf
        refine loopB (fun (y : Int × Int) => ⟨mkT [(2, .d (.fptr (cellsS s))), (3, .d (.fptr (askL x))), (5, .d (planD M)), (7, .d (planD P)), (10, .d (int (o : Int))), (11, .d (int (d : Int))), (12, .d (int y.2)), (13, .d (int y.1))], mkB []⟩)
          (fun y => ∃ k : Nat, y.1 = k ∧ k ≤ s.makers.length ∧ y.2 + topSum s x.plan (o : Int) d (s.makers.drop k) k = T ∧ 0 ≤ y.2 ∧ y.2 ≤ 100000000000 * (k : Int)) (fun y => (s.makers.length - y.1).toNat) (0, 0) (by kernel_rfl) ⟨0, rfl, by omega, by simpa using hT, by simp, by simp⟩ ?_
        rintro ⟨_, acc⟩ ⟨j, rfl, hj, ha, ha0, ha1⟩
        simp only at ha ha0 ha1
        conv => whnf
        cases c4 : decide ((j : Int) < ((s.makers.map mkL).length : Int))
        · have hj' : j = s.makers.length := by have := of_decide_eq_false c4; rw [List.length_map] at this; omega
          rw [hj', drop_end] at ha
          have ha : acc = T := by simpa [topSum] using ha
          conv => whnf
          refine ⟨by omega, _, gm ep, ?_⟩
          conv => whnf
          refine ⟨by omega, _, gm hq, ?_⟩
          conv => whnf
          have ew : IntKind.wrap .i64 (10000 * IntKind.wrap .i64 (pullD s x.plan (o : Int) d + 1)) = 10000 * (pullD s x.plan (o : Int) d + 1) := by rw [wr_eq (n := pullD s x.plan (o : Int) d + 1) (by omega), wr_eq (by omega)]
          rw [ew, decide_eq_false (show ¬ 10000 * (pullD s x.plan (o : Int) d + 1) ≤ acc by omega)]
          conv => whnf
          exact ⟨IntKind.wrap .i64 ((d : Int) + 1), by kernel_rfl, ⟨d + 1, nx (by omega), by omega⟩, by rw [nx (by omega)]; omega⟩
        · have hj' : j < s.makers.length := by have := of_decide_eq_true c4; rw [List.length_map] at this; omega
          obtain ⟨K, hK⟩ := get_lt hj'
          have hmj := hM.2 j K hK
          rw [drop_at hK, topSum] at ha
          obtain ⟨r, a, hr, hra, ec, ea⟩ := cell_get po (m := (j : Int)) (d := (d : Int)) (by omega) (by omega)
          rw [Int.toNat_natCast] at hr hra
          have eo : onA s x.plan (d : Int) (j : Int) = a := by rw [onA_pos, ec]
          rw [eo] at ha
          conv => whnf
          refine ⟨by omega, _, gm hK, ?_⟩
          conv => whnf
          cases c5 : decide (K.oven = (o : Int))
          · have n5 := of_decide_eq_false c5
            rw [if_neg (fun e => n5 e.1)] at ha
            conv => whnf
            exact ⟨(IntKind.wrap .i64 ((j : Int) + 1), acc), by kernel_rfl, ⟨j + 1, nx (by omega), by omega, by rw [← ha]; simp, ha0, by omega⟩, by simp only; rw [nx (by omega)]; omega⟩
          · have n5 := of_decide_eq_true c5
            conv => whnf
            refine ⟨by omega, _, gm hr, ?_⟩
            conv => whnf
            refine ⟨by omega, _, gm hra, ?_⟩
            conv => whnf
            cases c6 : decide (0 ≤ a)
            · have n6 := of_decide_eq_false c6
              rw [if_neg (fun e => n6 e.2)] at ha
              conv => whnf
              exact ⟨(IntKind.wrap .i64 ((j : Int) + 1), acc), by kernel_rfl, ⟨j + 1, nx (by omega), by omega, by rw [← ha]; simp, ha0, by omega⟩, by simp only; rw [nx (by omega)]; omega⟩
            · have n6 := of_decide_eq_true c6
              have tt := top_term h po (o := (o : Int)) hd' (j := (j : Int)) (by omega) (by rw [eo]; exact n6)
              rw [eo] at tt
              rw [if_pos ⟨n5, n6⟩] at ha
              obtain ⟨A, hA, _, ewg⟩ := art_get n6 ea.2
              have hmd : (rowM s x.plan K.oven j)[d]? = some (madeD s x.plan (o : Int) (j : Int) d) := by simp [rowM, n5, show d < s.days.toNat by omega]
              obtain ⟨m, em⟩ : ∃ m, madeD s x.plan (o : Int) (j : Int) d = m := ⟨_, rfl⟩
              rw [em] at hmd ha tt
              rw [ewg] at ha tt
              have e1 : IntKind.wrap .i64 (m * A.weight) = m * A.weight := wr_eq (by omega)
              have e2 : IntKind.wrap .i64 (acc + IntKind.wrap .i64 (m * A.weight)) = acc + m * A.weight := by rw [e1, wr_eq (by omega)]
              conv => whnf
              refine ⟨by omega, _, gm hmj, ?_⟩
              conv => whnf
              refine ⟨by omega, _, gm hmd, ?_⟩
              conv => whnf
              refine ⟨by omega, _, gm hr, ?_⟩
              conv => whnf
              refine ⟨by omega, _, gm hra, ?_⟩
              conv => whnf
              refine ⟨n6, _, gz hA, ?_⟩
              conv => whnf
              exact ⟨(IntKind.wrap .i64 ((j : Int) + 1), IntKind.wrap .i64 (acc + IntKind.wrap .i64 (m * A.weight))), by kernel_rfl, ⟨j + 1, nx (by omega), by omega, by simp only; rw [e2]; omega, by simp only; rw [e2]; omega, by simp only; rw [e2]; omega⟩, by simp only; rw [nx (by omega)]; omega⟩
  · have hi' : i < M.length := by have := of_decide_eq_true c1; rw [List.length_map] at this; omega
    obtain ⟨K, hK⟩ := get_lt (xs := s.makers) (i := i) (by omega)
    have hmj := hM.2 i K hK
    obtain ⟨r, hr⟩ := get_lt (xs := x.plan) (i := i) (by have := po.len; omega)
    have hrr := (po.rows r (List.mem_of_getElem? hr)).1
    conv => whnf
    refine ⟨by omega, _, gm hmj, ?_⟩
    conv => whnf
    rw [decide_eq_true (show (((rowM s x.plan K.oven i).map i1).length : Int) = s.days by rw [List.length_map, hml]; omega)]
    conv => whnf
    refine ⟨by omega, _, gm hr, ?_⟩
    conv => whnf
    rw [decide_eq_true (show ((r.map i1).length : Int) = s.days by rw [List.length_map]; exact hrr)]
    conv => whnf
    exact ⟨IntKind.wrap .i64 ((i : Int) + 1), by kernel_rfl, ⟨i + 1, nx (by omega), by omega⟩, by rw [nx (by omega)]; omega⟩
theorem top_law (s : Season) (x : Ask) : PureFn Try.prog 9 [seasonD s, askD x] (boolD true) := by
  have gk := great_ok s
  cases g : greatF s
  · have wk := wide_ok x
    cases w : wideF x
    · have sg := sm_of g
      have hs := sg.1
      have pk := (smp_of_wide w).1
      by_cases hE : keptE s x.plan = 0
      · obtain ⟨h, po, _⟩ := kept_zero hs hE
        exact top_main s x g w h po hE
      · have mt := Made_ok s hs sg.2 x.plan pk
        have pt := Pulls_ok s hs x.plan pk
        unfold madeTop at mt
        unfold pullsTop at pt
        rw [if_neg hE] at mt pt
        rw [g] at gk
        rw [w] at wk
        obtain ⟨E, eE⟩ : ∃ E, keptE s x.plan = E := ⟨_, rfl⟩
        rw [eE] at mt pt hE
        refine pureFn_by Try.func9 k9 rfl rfl ?_
        conv => whnf
        refine ⟨_, gk, ?_⟩
        conv => whnf
        refine ⟨_, wk, ?_⟩
        conv => whnf
        refine ⟨_, mt, ?_⟩
        conv => whnf
        refine ⟨_, pt, ?_⟩
        conv => whnf
        rw [decide_eq_false hE]
        conv => whnf
        rw [dself]
        conv => whnf
        refine ⟨_, planned_ok, ?_⟩
        conv => whnf
        kernel_rfl
    · rw [g] at gk
      rw [w] at wk
      refine pureFn_by Try.func9 k9 rfl rfl ?_
      conv => whnf
      refine ⟨_, gk, ?_⟩
      conv => whnf
      refine ⟨_, wk, ?_⟩
      conv => whnf
      refine ⟨_, planned_ok, ?_⟩
      conv => whnf
      kernel_rfl
  · rw [g] at gk
    refine pureFn_by Try.func9 k9 rfl rfl ?_
    conv => whnf
    refine ⟨_, gk, ?_⟩
    conv => whnf
    refine ⟨_, planned_ok, ?_⟩
    conv => whnf
    kernel_rfl
end Go.Proofs.YtmkmegcconjgoaaG
