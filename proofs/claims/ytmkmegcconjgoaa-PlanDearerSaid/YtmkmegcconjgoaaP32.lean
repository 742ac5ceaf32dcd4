/- PlanStands: what its code computes. No condition. -/
import Derived.Test.YtmkmegcconjgoaaP31
set_option linter.unusedVariables false
set_option linter.unusedSimpArgs false
set_option maxRecDepth 100000
set_option maxHeartbeats 4000000
namespace Go.Proofs.YtmkmegcconjgoaaG
open Go Go.AM Go.Proofs

theorem stands_main (s : Season) (x : Ask) (g : greatF s = false) (w : wideF x = false) (h : Fr s) (po : POk s x.plan) (hE : keptE s x.plan = 0) (hk : keepsF s x.plan = true) (hr : keepsR s x.plan = (true, 0)) :
    PureFn Try.prog 7 [seasonD s, askD x] (boolD true) := by
  have gk := great_ok s
  have wk := wide_ok x
  have sg := sm_of g
  have hs := sg.1
  have pk := (smp_of_wide w).1
  have kk := Keeps_ok s hs x.plan pk
  have mt := Made_ok s hs sg.2 x.plan pk
  have pt := Pulls_ok s hs x.plan pk
  have lt := Lacks_ok s hs sg.2 x.plan pk
  unfold madeTop at mt
  unfold pullsTop at pt
  unfold lacksTop at lt
  rw [g] at gk
  rw [w] at wk
  rw [hr] at kk
  rw [hE, if_pos rfl] at mt pt lt
  have hM := madeF_get h x.plan
  have mb := made_bot h po
  have hdy := h.days
  have hnm := h.nm
  have hno := h.no
  have hna := h.na
  have hnd := h.nord
  have hL : ∀ (i : Nat) (o : Ord) (l : Int), s.orders[i]? = some o → (lacksF s x.plan (madeF s x.plan).1)[i]? = some l → 0 ≤ l ∧ l ≤ o.quantity := fun i o l ho hl => by
    simp only [lacksF, List.getElem?_map, ho, Option.map_some, Option.some.injEq] at hl
    have := lackN_le (p := x.plan) mb o
    have := h.ord o (List.mem_of_getElem? ho)
    omega
  have hLl : (lacksF s x.plan (madeF s x.plan).1).length = s.orders.length := by simp [lacksF]
  obtain ⟨L, eL⟩ : ∃ L, lacksF s x.plan (madeF s x.plan).1 = L := ⟨_, rfl⟩
  rw [eL] at lt hL hLl
  obtain ⟨M, eM⟩ : ∃ M, (madeF s x.plan).1 = M := ⟨_, rfl⟩
  obtain ⟨P, eP⟩ : ∃ P, pullsF s x.plan = P := ⟨_, rfl⟩
  rw [eM] at mt hM
  rw [eP] at pt
  have hPl : P.length = s.ovens.length := by rw [← eP]; simp [pullsF]
  have hP : ∀ o : Nat, o < s.ovens.length → P[o]? = some (pullRow s x.plan o) := fun o ho => by rw [← eP]; simp [pullsF, ho]
  have hrl : ∀ o : Nat, (pullRow s x.plan o).length = s.days.toNat := fun o => by simp [pullRow]
  have hml : ∀ (k : Int) (i : Nat), (rowM s x.plan k i).length = s.days.toNat := fun k i => by simp [rowM]
  have hfit : ∀ (o d : Nat) (v : Int × Int), s.ovens[o]? = some v → (d : Int) < s.days → v.1 ≤ pullD s x.plan (o : Int) d ∧ pullD s x.plan (o : Int) d ≤ v.2 := fun o d v hv hd => by
    have ho := (List.getElem?_eq_some_iff.1 hv).1
    have h1 := List.all_eq_true.1 hk o (List.mem_range.2 ho)
    have h2 := List.all_eq_true.1 h1 d (List.mem_range.2 (by omega))
    simp only [fitD, fitsF, Bool.and_eq_true] at h2
    have h3 := within_iff.1 h2.2
    have e : ovenA s (o : Int) = v := by simp [ovenA, hv]
    rw [e] at h3
    exact h3
  refine pureFn_by Try.func7 k7 rfl rfl ?_
  conv => whnf
  refine ⟨_, gk, ?_⟩
  conv => whnf
  refine ⟨_, wk, ?_⟩
  conv => whnf
  refine ⟨_, kk, ?_⟩
  conv => whnf
  refine ⟨_, pt, ?_⟩
  conv => whnf
  refine ⟨_, mt, ?_⟩
  conv => whnf
  refine ⟨_, lt, ?_⟩
  conv => whnf
  rw [decide_eq_true (show ((P.map rowL).length : Int) = ((s.ovens.map i2).length : Int) by simp [hPl])]
  conv => whnf
  rw [decide_eq_true (show ((M.map rowL).length : Int) = ((s.makers.map mkL).length : Int) by simp [hM.1])]
  conv => whnf
  rw [decide_eq_true (show ((L.map i1).length : Int) = ((s.orders.map ordL).length : Int) by simp [hLl])]
  conv => whnf
  refine loopB (fun (i : Int) => ⟨mkT [(2, .d (.fptr (cellsS s))), (3, .d (.fptr (askL x))), (7, .d (planD P)), (9, .d (planD M)), (11, .d (rowD L)), (13, .d (int i))], mkB []⟩)
    (fun i => ∃ k : Nat, i = k ∧ k ≤ P.length) (fun i => (P.length - i).toNat) 0 (by kernel_rfl) ⟨0, rfl, by omega⟩ ?_
  rintro _ ⟨o, rfl, ho⟩
  conv => whnf
  cases c1 : decide ((o : Int) < ((P.map rowL).length : Int))
  · conv => whnf
    refine loopB (fun (i : Int) => ⟨mkT [(2, .d (.fptr (cellsS s))), (3, .d (.fptr (askL x))), (9, .d (planD M)), (11, .d (rowD L)), (15, .d (int i))], mkB []⟩)
      (fun i => ∃ k : Nat, i = k ∧ k ≤ M.length) (fun i => (M.length - i).toNat) 0 (by kernel_rfl) ⟨0, rfl, by omega⟩ ?_
    rintro _ ⟨i, rfl, hi⟩
    conv => whnf
    cases c2 : decide ((i : Int) < ((M.map rowL).length : Int))
    · conv => whnf
      refine loopB (fun (i : Int) => ⟨mkT [(2, .d (.fptr (cellsS s))), (11, .d (rowD L)), (18, .d (int i))], mkB []⟩)
        (fun i => ∃ k : Nat, i = k ∧ k ≤ L.length) (fun i => (L.length - i).toNat) 0 (by kernel_rfl) ⟨0, rfl, by omega⟩ ?_
      rintro _ ⟨q, rfl, hq⟩
      conv => whnf
      cases c3 : decide ((q : Int) < ((L.map i1).length : Int))
      · conv => whnf
        refine ⟨_, lives_ok, ?_⟩
        conv => whnf
        kernel_rfl
      · have hq' : q < L.length := by have := of_decide_eq_true c3; rw [List.length_map] at this; omega
        obtain ⟨l, hl⟩ := get_lt hq'
        obtain ⟨v, hv⟩ := get_lt (xs := s.orders) (i := q) (by omega)
        have hlq := hL q v l hv hl
        conv => whnf
        refine ⟨by omega, _, (by first | exact gm (by assumption) | exact gz (by assumption)), ?_⟩
        conv => whnf
        rw [decide_eq_false (show ¬ l < 0 by omega)]
        conv => whnf
        refine ⟨by omega, _, (by first | exact gm (by assumption) | exact gz (by assumption)), ?_⟩
        conv => whnf
        refine ⟨by omega, _, (by first | exact gm (by assumption) | exact gz (by assumption)), ?_⟩
        conv => whnf
        rw [decide_eq_false (show ¬ v.quantity < l by omega)]
        conv => whnf
        exact ⟨IntKind.wrap .i64 ((q : Int) + 1), by kernel_rfl, ⟨q + 1, nx (by omega), by omega⟩, by rw [nx (by omega)]; omega⟩
    · have hi' : i < M.length := by have := of_decide_eq_true c2; rw [List.length_map] at this; omega
      obtain ⟨K, hK⟩ := get_lt (xs := s.makers) (i := i) (by omega)
      have hmj := hM.2 i K hK
      conv => whnf
      refine ⟨by omega, _, (by first | exact gm (by assumption) | exact gz (by assumption)), ?_⟩
      conv => whnf
      rw [decide_eq_true (show (((rowM s x.plan K.oven i).map i1).length : Int) = s.days by rw [List.length_map, hml]; omega)]
      conv => whnf
      refine loopB (fun (d : Int) => ⟨mkT [(2, .d (.fptr (cellsS s))), (3, .d (.fptr (askL x))), (9, .d (planD M)), (11, .d (rowD L)), (15, .d (int (i : Int))), (16, .d (int d))], mkB []⟩)
        (fun i => ∃ k : Nat, i = k ∧ (k : Int) ≤ s.days) (fun i => (s.days - i).toNat) 0 (by kernel_rfl) ⟨0, rfl, by omega⟩ ?_
      rintro _ ⟨d, rfl, hd⟩
      conv => whnf
      cases c3 : decide ((d : Int) < s.days)
      · conv => whnf
        exact ⟨IntKind.wrap .i64 ((i : Int) + 1), by kernel_rfl, ⟨i + 1, nx (by omega), by omega⟩, by rw [nx (by omega)]; omega⟩
      · have hd' := of_decide_eq_true c3
        obtain ⟨r, a, hr, hra, ec, ea⟩ := cell_get po (m := (i : Int)) (d := (d : Int)) (by omega) (by omega)
        rw [Int.toNat_natCast] at hr hra
        have hjm : 0 ≤ (i : Int) ∧ (i : Int) < s.makers.length := by omega
        have eo : onA s x.plan (d : Int) (i : Int) = a := by rw [onA_pos, ec]
        have hmd : (rowM s x.plan K.oven i)[d]? = some (madeD s x.plan K.oven (i : Int) d) := by simp [rowM, show d < s.days.toNat by omega]
        have a1 := onA_art h po hjm (show (d : Int) - 1 < s.days by omega)
        have hmm : ∀ m ∈ makersF s K.oven, 0 ≤ m ∧ m < s.makers.length := fun m hm => makersF_mem hm
        have hml := Nat.le_trans (makersF_len s K.oven) h.nm
        have r1 := onF_row h po hmm (by omega) (show (d : Int) - 1 < s.days by omega)
        have r2 := onF_row h po hmm (by omega) hd'
        have ll := lostF_le h r1.arts r2.arts
        have m0 := madeA_le h ⟨ll.1, ll.2.1⟩ hjm a1.2 ea.2
        have mneg : a < 0 → madeD s x.plan K.oven (i : Int) d = 0 := fun hn => by unfold madeD madeA; rw [eo, if_pos hn]
        have m1 : 0 ≤ a → madeD s x.plan K.oven (i : Int) d ≤ rateF s (i : Int) a := fun hn => by
          have := madeA_rate h ⟨ll.1, ll.2.1⟩ hjm a1.2 hn ea.2
          unfold madeD; rw [eo]; exact this
        have m00 : 0 ≤ madeD s x.plan K.oven (i : Int) d := by unfold madeD; rw [eo]; exact m0.1
        obtain ⟨m, em⟩ : ∃ m, madeD s x.plan K.oven (i : Int) d = m := ⟨_, rfl⟩
        rw [em] at hmd mneg m1 m00
        conv => whnf
        refine ⟨by omega, _, (by first | exact gm (by assumption) | exact gz (by assumption)), ?_⟩
        conv => whnf
        refine ⟨by omega, _, (by first | exact gm (by assumption) | exact gz (by assumption)), ?_⟩
        conv => whnf
        refine ⟨by omega, _, (by first | exact gm (by assumption) | exact gz (by assumption)), ?_⟩
        conv => whnf
        refine ⟨by omega, _, (by first | exact gm (by assumption) | exact gz (by assumption)), ?_⟩
        conv => whnf
        rw [decide_eq_false (show ¬ m < 0 by omega)]
        conv => whnf
        cases c4 : decide (a < 0)
        · have h0 : 0 ≤ a := by have := of_decide_eq_false c4; omega
          obtain ⟨K', rr, hK', hrr, er, _, _⟩ := rate_get h hjm h0 ea.2
          have m1 := m1 h0
          rw [er] at m1
          rw [Int.toNat_natCast, hK] at hK'
          cases hK'
          conv => whnf
          rw [decide_eq_true h0]
          conv => whnf
          refine ⟨by omega, _, (by first | exact gm (by assumption) | exact gz (by assumption)), ?_⟩
          conv => whnf
          refine ⟨by omega, _, (by first | exact gm (by assumption) | exact gz (by assumption)), ?_⟩
          conv => whnf
          refine ⟨by omega, _, (by first | exact gm (by assumption) | exact gz (by assumption)), ?_⟩
          conv => whnf
          refine ⟨by omega, _, (by first | exact gm (by assumption) | exact gz (by assumption)), ?_⟩
          conv => whnf
          rw [decide_eq_false (show ¬ rr < m by omega)]
          conv => whnf
          exact ⟨IntKind.wrap .i64 ((d : Int) + 1), by kernel_rfl, ⟨d + 1, nx (by omega), by omega⟩, by rw [nx (by omega)]; omega⟩
        · have hn := of_decide_eq_true c4
          have m2 := mneg hn
          conv => whnf
          refine ⟨by omega, _, (by first | exact gm (by assumption) | exact gz (by assumption)), ?_⟩
          conv => whnf
          refine ⟨by omega, _, (by first | exact gm (by assumption) | exact gz (by assumption)), ?_⟩
          conv => whnf
          rw [decide_eq_true m2]
          conv => whnf
          rw [decide_eq_false (show ¬ 0 ≤ a by omega)]
          conv => whnf
          exact ⟨IntKind.wrap .i64 ((d : Int) + 1), by kernel_rfl, ⟨d + 1, nx (by omega), by omega⟩, by rw [nx (by omega)]; omega⟩
  · have ho' : o < P.length := by have := of_decide_eq_true c1; rw [List.length_map] at this; omega
    have ep := hP o (by omega)
    obtain ⟨v, hv⟩ := get_lt (xs := s.ovens) (i := o) (by omega)
    conv => whnf
    refine loopB (fun (d : Int) => ⟨mkT [(2, .d (.fptr (cellsS s))), (3, .d (.fptr (askL x))), (7, .d (planD P)), (9, .d (planD M)), (11, .d (rowD L)), (13, .d (int (o : Int))), (14, .d (int d))], mkB []⟩)
      (fun i => ∃ k : Nat, i = k ∧ k ≤ (pullRow s x.plan o).length) (fun i => ((pullRow s x.plan o).length - i).toNat) 0 (by kernel_rfl) ⟨0, rfl, by omega⟩ ?_
    rintro _ ⟨d, rfl, hd⟩
    conv => whnf
    refine ⟨by omega, _, (by first | exact gm (by assumption) | exact gz (by assumption)), ?_⟩
    conv => whnf
    cases c2 : decide ((d : Int) < (((pullRow s x.plan o).map i1).length : Int))
    · conv => whnf
      refine ⟨by omega, _, (by first | exact gm (by assumption) | exact gz (by assumption)), ?_⟩
      conv => whnf
      rw [decide_eq_true (show (((pullRow s x.plan o).map i1).length : Int) = s.days by rw [List.length_map, hrl]; omega)]
      conv => whnf
      exact ⟨IntKind.wrap .i64 ((o : Int) + 1), by kernel_rfl, ⟨o + 1, nx (by omega), by omega⟩, by rw [nx (by omega)]; omega⟩
    · have hd' : d < (pullRow s x.plan o).length := by have := of_decide_eq_true c2; rw [List.length_map] at this; omega
      have hds : (d : Int) < s.days := by rw [hrl] at hd'; omega
      have hq : (pullRow s x.plan o)[d]? = some (pullD s x.plan (o : Int) d) := by simp [pullRow, show d < s.days.toNat by omega]
      have hf := hfit o d v hv hds
      have hrlo := hrl o
      obtain ⟨q, eq⟩ : ∃ q, pullD s x.plan (o : Int) d = q := ⟨_, rfl⟩
      rw [eq] at hq hf
      conv => whnf
      refine ⟨by omega, _, (by first | exact gm (by assumption) | exact gz (by assumption)), ?_⟩
      conv => whnf
      refine ⟨by omega, _, (by first | exact gm (by assumption) | exact gz (by assumption)), ?_⟩
      conv => whnf
      refine ⟨by omega, _, (by first | exact gm (by assumption) | exact gz (by assumption)), ?_⟩
      conv => whnf
      rw [decide_eq_false (show ¬ q < v.1 by omega)]
      conv => whnf
      refine ⟨by omega, _, (by first | exact gm (by assumption) | exact gz (by assumption)), ?_⟩
      conv => whnf
      refine ⟨by omega, _, (by first | exact gm (by assumption) | exact gz (by assumption)), ?_⟩
      conv => whnf
      refine ⟨by omega, _, (by first | exact gm (by assumption) | exact gz (by assumption)), ?_⟩
      conv => whnf
      rw [decide_eq_false (show ¬ v.2 < q by omega)]
      conv => whnf
      exact ⟨IntKind.wrap .i64 ((d : Int) + 1), by kernel_rfl, ⟨d + 1, nx (by omega), by omega⟩, by rw [nx (by omega)]; omega⟩
theorem stands_law (s : Season) (x : Ask) : PureFn Try.prog 7 [seasonD s, askD x] (boolD true) := by
  have gk := great_ok s
  cases g : greatF s
  · have wk := wide_ok x
    cases w : wideF x
    · have sg := sm_of g
      have hs := sg.1
      have pk := (smp_of_wide w).1
      have kk := Keeps_ok s hs x.plan pk
      have pt := Pulls_ok s hs x.plan pk
      unfold pullsTop at pt
      by_cases hE : (keepsR s x.plan).2 = 0
      · cases hb : (keepsR s x.plan).1
        · have hr : keepsR s x.plan = (false, 0) := Prod.ext hb hE
          have e8 : keptE s x.plan = 8 := by unfold keptE; rw [hr]; rfl
          rw [e8, if_neg (by decide)] at pt
          rw [hr] at kk
          rw [g] at gk
          rw [w] at wk
          refine pureFn_by Try.func7 k7 rfl rfl ?_
          conv => whnf
          refine ⟨_, gk, ?_⟩
          conv => whnf
          refine ⟨_, wk, ?_⟩
          conv => whnf
          refine ⟨_, kk, ?_⟩
          conv => whnf
          refine ⟨_, pt, ?_⟩
          conv => whnf
          refine ⟨_, lives_ok, ?_⟩
          conv => whnf
          kernel_rfl
        · have hr : keepsR s x.plan = (true, 0) := Prod.ext hb hE
          have e0 : keptE s x.plan = 0 := by unfold keptE; rw [hr]; rfl
          obtain ⟨h, po, hk⟩ := kept_zero hs e0
          exact stands_main s x g w h po e0 hk hr
      · have eE : keptE s x.plan = (keepsR s x.plan).2 := by unfold keptE; rw [if_neg hE]
        have eB : (keepsR s x.plan).1 = false := by
          unfold keepsR at hE ⊢
          split
          · rfl
          · split
            · rfl
            · rename_i h1 h2; rw [if_neg h1, if_neg h2] at hE; exact absurd rfl hE
        rw [eE, if_neg hE] at pt
        rw [eB] at kk
        obtain ⟨E, e⟩ : ∃ E, (keepsR s x.plan).2 = E := ⟨_, rfl⟩
        rw [e] at kk pt hE
        rw [g] at gk
        rw [w] at wk
        refine pureFn_by Try.func7 k7 rfl rfl ?_
        conv => whnf
        refine ⟨_, gk, ?_⟩
        conv => whnf
        refine ⟨_, wk, ?_⟩
        conv => whnf
        refine ⟨_, kk, ?_⟩
        conv => whnf
        refine ⟨_, pt, ?_⟩
        conv => whnf
        rw [decide_eq_false hE]
        conv => whnf
        rw [decide_eq_false hE]
        conv => whnf
        rw [dself]
        conv => whnf
        refine ⟨_, lives_ok, ?_⟩
        conv => whnf
        kernel_rfl
    · rw [g] at gk
      rw [w] at wk
      refine pureFn_by Try.func7 k7 rfl rfl ?_
      conv => whnf
      refine ⟨_, gk, ?_⟩
      conv => whnf
      refine ⟨_, wk, ?_⟩
      conv => whnf
      refine ⟨_, lives_ok, ?_⟩
      conv => whnf
      kernel_rfl
  · rw [g] at gk
    refine pureFn_by Try.func7 k7 rfl rfl ?_
    conv => whnf
    refine ⟨_, gk, ?_⟩
    conv => whnf
    refine ⟨_, lives_ok, ?_⟩
    conv => whnf
    kernel_rfl
end Go.Proofs.YtmkmegcconjgoaaG
