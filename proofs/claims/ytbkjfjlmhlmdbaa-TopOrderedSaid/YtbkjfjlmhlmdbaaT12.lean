/- TopOrdered: what its code computes. No condition. -/
import Derived.Test.YtbkjfjlmhlmdbaaP29
import Derived.Test.YtbkjfjlmhlmdbaaT11
set_option linter.unusedVariables false
set_option linter.unusedSimpArgs false
set_option maxRecDepth 100000
set_option maxHeartbeats 4000000
namespace Go.Proofs.YtbkjfjlmhlmdbaaG
open Go Go.AM Go.Proofs

theorem bgreat_ok (b : Bottle) : PureFn Try.prog 6 [bottleD b] (boolD (decide (40 < b.rings.length))) := by
  have e : decide (40 < b.rings.length) = decide ((40 : Int) < ((b.rings.map ringL).length : Int)) := by rw [List.length_map]; exact decide_eq_decide.2 (by omega)
  rw [e]
  refine pureFn_by Try.func6 k6 rfl rfl ?_
  conv => whnf
  kernel_rfl

@[reducible] def btlL (b : Bottle) (l : Load) : List D := [ringsD b.rings, int b.flaw, int b.tough, int l.press, int l.force, int l.speed, int l.other]
@[reducible] def btlD (b : Bottle) (l : Load) : D := .agg (btlL b l)
theorem mayF_cons (t : Int × Int) (ts : List (Int × Int)) : mayF (t :: ts) = ((decide (1 ≤ t.1) && decide (t.2 ≤ 2000)) && mayF ts) := rfl
theorem take_may {ts : List (Int × Int)} {i : Nat} {t : Int × Int} (h : ts[i]? = some t) : mayF (ts.take (i + 1)) = ((mayF (ts.take i) && decide (1 ≤ t.1)) && decide (t.2 ≤ 2000)) := by
  rw [take_next h]
  unfold mayF
  rw [List.all_append]
  simp [Bool.and_assoc]

theorem ordered_main (s : Season) (x : Ask) (b : Bottle) (l : Load) (g : greatF s = false) (w : wideF x = false) (hg40 : decide (40 < b.rings.length) = false) (h : Fr s) (po : POk s x.plan) (hE : keptE s x.plan = 0)
    (hlE : ligE b l = 0) (hlW : ligW b l ≠ 0) : PureFn Try.prog 3 [seasonD s, askD x, btlD b l] (boolD true) := by
  have gk := great_ok s
  have wk := wide_ok x
  have bk := bgreat_ok b
  have sg := sm_of g
  have hs := sg.1
  have pk := (smp_of_wide w).1
  have mt := Made_ok s hs sg.2 x.plan pk
  have lt := Lacks_ok s hs sg.2 x.plan pk
  have ll := Lightest_ok b l
  unfold madeTop at mt
  unfold lacksTop at lt
  rw [g] at gk
  rw [w] at wk
  rw [hg40] at bk
  rw [hE, if_pos rfl] at mt lt
  rw [hlE] at ll
  have hM := made_bot h po
  have hdy := h.days
  have hnm := h.nm
  have hno := h.nord
  have hna := h.na
  have hpl := po.len
  obtain ⟨M, eM⟩ : ∃ M, (madeF s x.plan).1 = M := ⟨_, rfl⟩
  rw [eM] at mt lt hM
  obtain ⟨L, eL⟩ : ∃ L, lacksF s x.plan M = L := ⟨_, rfl⟩
  rw [eL] at lt
  have hLl : L.length = s.orders.length := by rw [← eL]; simp [lacksF]
  have hLi : ∀ (i : Nat) o, s.orders[i]? = some o → L[i]? = some (max (lackN x.plan M o) 0) := fun i o ho => by rw [← eL]; simp [lacksF, ho]
  have hMl := hM.len
  -- the bottle
  have hc : chkE b = 0 := by
    unfold ligE at hlE
    by_cases c : chkE b = 0
    · exact c
    · rw [if_neg c] at hlE; exact absurd hlE c
  have hgl : goodL l = true := by
    unfold ligE at hlE
    rw [if_pos hc] at hlE
    by_cases c : goodL l = true
    · exact c
    · rw [if_neg c] at hlE; cases hlE
  have hW : ligW b l = lightF b l := by unfold ligW; rw [if_pos hc, if_pos hgl]
  rw [hW] at ll hlW
  have hb := VB_of hc
  have hrl := hb.n2
  obtain ⟨w1, w2, w3⟩ := light_law b hb l (goodL_VL hgl) hlW
  obtain ⟨W, eW⟩ : ∃ W, lightF b l = W := ⟨_, rfl⟩
  have hol := holds_law b hc l hgl hlW
  rw [eW] at ll hlW w1 w2 hol
  refine pureFn_by Try.func3 k3 rfl rfl ?_
  conv => whnf
  refine ⟨_, gk, ?_⟩
  conv => whnf
  refine ⟨_, wk, ?_⟩
  conv => whnf
  refine ⟨_, bk, ?_⟩
  conv => whnf
  refine ⟨_, mt, ?_⟩
  conv => whnf
  refine ⟨_, lt, ?_⟩
  conv => whnf
  refine ⟨_, ll, ?_⟩
  conv => whnf
  rw [show decide (W = 0) = false from decide_eq_false hlW]
  conv => whnf
  refine loopB (fun (i : Int) => ⟨mkT [(3, .d (.fptr (cellsS s))), (4, .d (.fptr (askL x))), (5, .d (.fptr (btlL b l))), (7, .d (planD M)), (9, .d (rowD L)), (11, .d (int W)), (13, .d (int i))], mkB []⟩)
    (fun i => ∃ k : Nat, i = k ∧ k ≤ s.orders.length) (fun i => (s.orders.length - i).toNat) 0 (by kernel_rfl) ⟨0, rfl, by omega⟩ ?_
  rintro _ ⟨i, rfl, hi⟩
  conv => whnf
  cases c1 : decide ((i : Int) < ((s.orders.map ordL).length : Int))
  · conv => whnf
    refine ⟨_, planned_ok, ?_⟩
    conv => whnf
    kernel_rfl
  · have hi' : i < s.orders.length := by have := of_decide_eq_true c1; rw [List.length_map] at this; omega
    obtain ⟨o, hx⟩ := get_lt hi'
    have ho := h.ord o (List.mem_of_getElem? hx)
    conv => whnf
    refine ⟨by omega, _, gm hx, ?_⟩
    conv => whnf
    refine loopB (fun (y : Int × Int) => ⟨mkT [(3, .d (.fptr (cellsS s))), (4, .d (.fptr (askL x))), (5, .d (.fptr (btlL b l))), (7, .d (planD M)), (9, .d (rowD L)), (11, .d (int W)), (13, .d (int (i : Int))), (14, .ptr 3 0), (15, .d (int y.2)), (16, .d (int y.1))], mkB [(3, .var [.d (int o.article), .d (int o.quantity), .d (int o.due), .d (int o.penalty)])]⟩)
      (fun y => ∃ m : Nat, y.1 = m ∧ m ≤ s.makers.length ∧ y.2 = ((List.range m).map (lackM x.plan M o)).sum ∧ 0 ≤ y.2 ∧ y.2 ≤ 14000000 * (m : Int)) (fun y => (s.makers.length - y.1).toNat) (0, 0) (by kernel_rfl) ⟨0, rfl, by omega, by simp, by simp, by simp⟩ ?_
    rintro ⟨_, cur⟩ ⟨m, rfl, hm, hcu, hc0, hc1⟩
    simp only at hcu hc0 hc1
    conv => whnf
    cases c2 : decide ((m : Int) < ((s.makers.map mkL).length : Int))
    · have hm' : m = s.makers.length := by have := of_decide_eq_false c2; rw [List.length_map] at this; omega
      have hlk : lackN x.plan M o = o.quantity - cur := by unfold lackN; rw [hpl, ← hm', ← hcu]
      have hli := hLi i o hx
      rw [hlk] at hli
      obtain ⟨v, hv⟩ : ∃ v, max (o.quantity - cur) 0 = v := ⟨_, rfl⟩
      rw [hv] at hli
      have ew : IntKind.wrap .i64 (o.quantity - v) = o.quantity - v := wr_eq (by omega)
      obtain ⟨a, ha, _, ewt⟩ := art_get (s := s) (a := o.article) (by omega) (by omega)
      have hart := h.art a (List.mem_of_getElem? ha)
      have tk := Thickness_ok b (a.weight, a.weight)
      have espn : spanF (a.weight, a.weight) 1 100000 = true := spanF_iff.2 ⟨hart.2.2.1, by simp, hart.2.2.2⟩
      rw [show thiF b (a.weight, a.weight) = wallsF b a.weight by unfold thiF; rw [if_pos hc, if_pos espn]; rfl, show thiE b (a.weight, a.weight) = 0 by unfold thiE; rw [if_pos hc, if_pos espn]] at tk
      obtain ⟨ts, ets⟩ : ∃ ts, wallsF b a.weight = ts := ⟨_, rfl⟩
      have hts : ts.length = b.rings.length := by rw [← ets]; simp [wallsF]
      have htl : ts.length < 1000000000 := by omega
      rw [ets] at tk
      conv => whnf
      refine ⟨by omega, _, gm hli, ?_⟩
      conv => whnf
      rw [ew, show decide (cur < o.quantity - v) = false from decide_eq_false (by omega)]
      conv => whnf
      refine ⟨by omega, _, gm hli, ?_⟩
      conv => whnf
      cases c3 : decide (0 < v)
      · conv => whnf
        refine ⟨by omega, _, gz ha, ?_⟩
        conv => whnf
        cases c5 : decide (a.weight < W)
        · conv => whnf
          refine ⟨by omega, _, gz ha, ?_⟩
          conv => whnf
          refine ⟨_, tk, ?_⟩
          conv => whnf
          refine loopB (fun (y : Int × Bool) => ⟨mkT [(3, .d (.fptr (cellsS s))), (4, .d (.fptr (askL x))), (5, .d (.fptr (btlL b l))), (7, .d (planD M)), (9, .d (rowD L)), (11, .d (int W)), (13, .d (int (i : Int))), (19, .d (spansD ts)), (21, .d (boolD y.2)), (22, .d (int y.1))], mkB []⟩)
            (fun y => ∃ k : Nat, y.1 = k ∧ k ≤ ts.length ∧ y.2 = mayF (ts.take k)) (fun y => (ts.length - y.1).toNat) (0, true) (by kernel_rfl) ⟨0, rfl, by omega, rfl⟩ ?_
          rintro ⟨_, may⟩ ⟨k, rfl, hk, hmay⟩
          simp only at hmay
          conv => whnf
          cases c6 : decide ((k : Int) < ((ts.map i2).length : Int))
          · have hk' : k = ts.length := by have := of_decide_eq_false c6; rw [List.length_map] at this; omega
            rw [hk', List.take_length] at hmay
            conv => whnf
            refine ⟨_, Holds_ok b ts l htl, ?_⟩
            conv => whnf
            cases may
            · conv => whnf
              exact ⟨IntKind.wrap .i64 ((i : Int) + 1), by kernel_rfl, ⟨i + 1, nx (by omega), by omega⟩, by rw [nx (by omega)]; omega⟩
            · have hh := hol a.weight (by have := of_decide_eq_false c5; omega) (by rw [ets]; exact hmay.symm)
              rw [ets] at hh
              have hp : holP b ts l = (true, false) := by unfold holP; rw [if_pos hh.1]; exact hh.2
              rw [hh.1, hp]
              conv => whnf
              exact ⟨IntKind.wrap .i64 ((i : Int) + 1), by kernel_rfl, ⟨i + 1, nx (by omega), by omega⟩, by rw [nx (by omega)]; omega⟩
          · have hk' : k < ts.length := by have := of_decide_eq_true c6; rw [List.length_map] at this; omega
            obtain ⟨t, ht⟩ := get_lt hk'
            have etm := take_may ht
            rw [← hmay] at etm
            conv => whnf
            cases may
            · conv => whnf
              exact ⟨(IntKind.wrap .i64 ((k : Int) + 1), false), by kernel_rfl, ⟨k + 1, nx (by omega), by omega, by rw [etm]; rfl⟩, by simp only; rw [nx (by omega)]; omega⟩
            · conv => whnf
              refine ⟨by omega, _, gm ht, ?_⟩
              conv => whnf
              cases c7 : decide (1 ≤ t.1)
              · rw [c7] at etm
                conv => whnf
                exact ⟨(IntKind.wrap .i64 ((k : Int) + 1), false), by kernel_rfl, ⟨k + 1, nx (by omega), by omega, by rw [etm]; rfl⟩, by simp only; rw [nx (by omega)]; omega⟩
              · rw [c7] at etm
                conv => whnf
                refine ⟨by omega, _, gm ht, ?_⟩
                conv => whnf
                exact ⟨(IntKind.wrap .i64 ((k : Int) + 1), decide (t.2 ≤ 2000)), by kernel_rfl, ⟨k + 1, nx (by omega), by omega, by rw [etm]; rfl⟩, by simp only; rw [nx (by omega)]; omega⟩
        · conv => whnf
          exact ⟨IntKind.wrap .i64 ((i : Int) + 1), by kernel_rfl, ⟨i + 1, nx (by omega), by omega⟩, by rw [nx (by omega)]; omega⟩
      · have e3 : cur = o.quantity - v := by have := of_decide_eq_true c3; omega
        conv => whnf
        refine ⟨by omega, _, gm hli, ?_⟩
        conv => whnf
        rw [ew, show decide (cur = o.quantity - v) = true from decide_eq_true e3]
        conv => whnf
        refine ⟨by omega, _, gz ha, ?_⟩
        conv => whnf
        cases c5 : decide (a.weight < W)
        · conv => whnf
          refine ⟨by omega, _, gz ha, ?_⟩
          conv => whnf
          refine ⟨_, tk, ?_⟩
          conv => whnf
          refine loopB (fun (y : Int × Bool) => ⟨mkT [(3, .d (.fptr (cellsS s))), (4, .d (.fptr (askL x))), (5, .d (.fptr (btlL b l))), (7, .d (planD M)), (9, .d (rowD L)), (11, .d (int W)), (13, .d (int (i : Int))), (19, .d (spansD ts)), (21, .d (boolD y.2)), (22, .d (int y.1))], mkB []⟩)
            (fun y => ∃ k : Nat, y.1 = k ∧ k ≤ ts.length ∧ y.2 = mayF (ts.take k)) (fun y => (ts.length - y.1).toNat) (0, true) (by kernel_rfl) ⟨0, rfl, by omega, rfl⟩ ?_
          rintro ⟨_, may⟩ ⟨k, rfl, hk, hmay⟩
          simp only at hmay
          conv => whnf
          cases c6 : decide ((k : Int) < ((ts.map i2).length : Int))
          · have hk' : k = ts.length := by have := of_decide_eq_false c6; rw [List.length_map] at this; omega
            rw [hk', List.take_length] at hmay
            conv => whnf
            refine ⟨_, Holds_ok b ts l htl, ?_⟩
            conv => whnf
            cases may
            · conv => whnf
              exact ⟨IntKind.wrap .i64 ((i : Int) + 1), by kernel_rfl, ⟨i + 1, nx (by omega), by omega⟩, by rw [nx (by omega)]; omega⟩
            · have hh := hol a.weight (by have := of_decide_eq_false c5; omega) (by rw [ets]; exact hmay.symm)
              rw [ets] at hh
              have hp : holP b ts l = (true, false) := by unfold holP; rw [if_pos hh.1]; exact hh.2
              rw [hh.1, hp]
              conv => whnf
              exact ⟨IntKind.wrap .i64 ((i : Int) + 1), by kernel_rfl, ⟨i + 1, nx (by omega), by omega⟩, by rw [nx (by omega)]; omega⟩
          · have hk' : k < ts.length := by have := of_decide_eq_true c6; rw [List.length_map] at this; omega
            obtain ⟨t, ht⟩ := get_lt hk'
            have etm := take_may ht
            rw [← hmay] at etm
            conv => whnf
            cases may
            · conv => whnf
              exact ⟨(IntKind.wrap .i64 ((k : Int) + 1), false), by kernel_rfl, ⟨k + 1, nx (by omega), by omega, by rw [etm]; rfl⟩, by simp only; rw [nx (by omega)]; omega⟩
            · conv => whnf
              refine ⟨by omega, _, gm ht, ?_⟩
              conv => whnf
              cases c7 : decide (1 ≤ t.1)
              · rw [c7] at etm
                conv => whnf
                exact ⟨(IntKind.wrap .i64 ((k : Int) + 1), false), by kernel_rfl, ⟨k + 1, nx (by omega), by omega, by rw [etm]; rfl⟩, by simp only; rw [nx (by omega)]; omega⟩
              · rw [c7] at etm
                conv => whnf
                refine ⟨by omega, _, gm ht, ?_⟩
                conv => whnf
                exact ⟨(IntKind.wrap .i64 ((k : Int) + 1), decide (t.2 ≤ 2000)), by kernel_rfl, ⟨k + 1, nx (by omega), by omega, by rw [etm]; rfl⟩, by simp only; rw [nx (by omega)]; omega⟩
        · conv => whnf
          exact ⟨IntKind.wrap .i64 ((i : Int) + 1), by kernel_rfl, ⟨i + 1, nx (by omega), by omega⟩, by rw [nx (by omega)]; omega⟩
    · have hm' : m < s.makers.length := by have := of_decide_eq_true c2; rw [List.length_map] at this; omega
      obtain ⟨r, hr⟩ := get_lt (xs := x.plan) (i := m) (by omega)
      obtain ⟨q, hq⟩ := get_lt (xs := M) (i := m) (by omega)
      have hr2 := po.rows r (List.mem_of_getElem? hr)
      have hq2 := hM.rows q (List.mem_of_getElem? hq)
      have hlm : lackM x.plan M o m = lackRow o.article o.due r q := by unfold lackM; rw [getD_of hr, getD_of hq]
      conv => whnf
      refine loopB (fun (y : Int × Int) => ⟨mkT [(3, .d (.fptr (cellsS s))), (4, .d (.fptr (askL x))), (5, .d (.fptr (btlL b l))), (7, .d (planD M)), (9, .d (rowD L)), (11, .d (int W)), (13, .d (int (i : Int))), (14, .ptr 3 0), (15, .d (int y.2)), (16, .d (int (m : Int))), (17, .d (int y.1))], mkB [(3, .var [.d (int o.article), .d (int o.quantity), .d (int o.due), .d (int o.penalty)])]⟩)
        (fun y => ∃ d : Nat, y.1 = d ∧ (d : Int) ≤ o.due + 1 ∧ y.2 = cur + ((List.range d).map (lackD o.article r q)).sum ∧ 0 ≤ y.2 ∧ y.2 ≤ 14000000 * (m : Int) + 1000000 * (d : Int)) (fun y => (o.due + 1 - y.1).toNat) (0, cur) (by kernel_rfl) ⟨0, rfl, by omega, by simp, by simp only; omega, by simp only; omega⟩ ?_
      rintro ⟨_, now⟩ ⟨d, rfl, hd, hn2, hn0, hn1⟩
      simp only at hn2 hn0 hn1
      conv => whnf
      cases c3 : decide ((d : Int) ≤ o.due)
      · have hd' : o.due.toNat + 1 = d := by have := of_decide_eq_false c3; omega
        have e : now = ((List.range (m + 1)).map (lackM x.plan M o)).sum := by
          rw [hn2, map_range_succ, List.sum_append, hlm, hcu]
          unfold lackRow
          rw [hd']; simp
        conv => whnf
        exact ⟨(IntKind.wrap .i64 ((m : Int) + 1), now), by kernel_rfl, ⟨m + 1, nx (by omega), by omega, e, by simp only; omega, by simp only; omega⟩, by simp only; rw [nx (by omega)]; omega⟩
      · have hd' := of_decide_eq_true c3
        obtain ⟨a, ha⟩ := get_lt (xs := r) (i := d) (by omega)
        obtain ⟨v, hv⟩ := get_lt (xs := q) (i := d) (by omega)
        have hv2 := hq2.2 v (List.mem_of_getElem? hv)
        have hld : lackD o.article r q d = if a = o.article then v else 0 := by unfold lackD; rw [getD_of ha, getD_of hv]
        conv => whnf
        refine ⟨by omega, _, gm hr, ?_⟩
        conv => whnf
        refine ⟨by omega, _, gm ha, ?_⟩
        conv => whnf
        cases c4 : decide (a = o.article)
        · rw [if_neg (of_decide_eq_false c4)] at hld
          conv => whnf
          exact ⟨(IntKind.wrap .i64 ((d : Int) + 1), now), by kernel_rfl, ⟨d + 1, nx (by omega), by omega, by rw [map_range_succ, List.sum_append, hld]; simp; omega, by simp only; omega, by simp only; omega⟩, by simp only; rw [nx (by omega)]; omega⟩
        · rw [if_pos (of_decide_eq_true c4)] at hld
          have ew : IntKind.wrap .i64 (now + v) = now + v := wr_eq (by omega)
          conv => whnf
          refine ⟨by omega, _, gm hq, ?_⟩
          conv => whnf
          refine ⟨by omega, _, gm hv, ?_⟩
          conv => whnf
          exact ⟨(IntKind.wrap .i64 ((d : Int) + 1), IntKind.wrap .i64 (now + v)), by kernel_rfl, ⟨d + 1, nx (by omega), by omega, by simp only; rw [ew, map_range_succ, List.sum_append, hld]; simp; omega, by simp only; rw [ew]; omega, by simp only; rw [ew]; omega⟩, by simp only; rw [nx (by omega)]; omega⟩
end Go.Proofs.YtbkjfjlmhlmdbaaG
