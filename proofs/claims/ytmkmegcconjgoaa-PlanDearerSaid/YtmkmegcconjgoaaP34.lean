/- PlanDearer: what its code computes. No condition. -/
import Derived.Test.YtmkmegcconjgoaaP33
set_option linter.unusedVariables false
set_option linter.unusedSimpArgs false
set_option maxRecDepth 100000
set_option maxHeartbeats 4000000
namespace Go.Proofs.YtmkmegcconjgoaaG
open Go Go.AM Go.Proofs

theorem up_q {o v : Ord} (u : OrdUp o v) {n : Int} (h0 : 0 ≤ n) (hw : IntKind.wrap .i64 (v.quantity + n) = v.quantity + n) : OrdUp o { v with quantity := min 1000000 (IntKind.wrap .i64 (v.quantity + n)) } := by
  rw [hw]
  unfold OrdUp at u ⊢
  simp only
  omega
theorem up_p {o v : Ord} (u : OrdUp o v) {n : Int} (h0 : 0 ≤ n) (hw : IntKind.wrap .i64 (v.penalty + n) = v.penalty + n) : OrdUp o { v with penalty := min 1000000 (IntKind.wrap .i64 (v.penalty + n)) } := by
  rw [hw]
  unfold OrdUp at u ⊢
  simp only
  omega
theorem four_row (l : List Ord) : (l.map ordL).all (fun e => Nat.beq e.length 4) = true := by
  rw [List.all_eq_true]; intro x hx; obtain ⟨n, _, rfl⟩ := List.mem_map.1 hx; rfl
theorem snap_season {b : Nat → ABlk} {s : Season} {q n : Nat} {l : List Ord} {els : List (List D)} (h : b q = .row 4 els) (he : els = l.map ordL) (hn : n = els.length) :
    snap b 4 (.agg [.d (int s.days), .d (.list (s.arts.map artL)), .d (pairsD s.ovens), .d (.list (s.makers.map mkL)), .d (turnsD s.jobs), .d (turnsD s.cols), .row q 0 n n]) = some (seasonD (withO s l)) := by
  subst hn
  have e : snap b 3 (.row q 0 els.length els.length) = some (.list els) := by simp [snap, h]
  show (List.mapM (snap b 3) _).map D.agg = _
  simp only [List.mapM_cons, e, List.mapM_nil]
  rw [he]
  rfl
theorem dearer_main (s : Season) (x : Ask) (g : greatF s = false) (w : wideF x = false) (h : Fr s) (po : POk s x.plan) (hE : keptE s x.plan = 0) :
    PureFn Try.prog 3 [seasonD s, askD x] (boolD true) := by
  have gk := great_ok s
  have wk := wide_ok x
  have sg := sm_of g
  have hs := sg.1
  have pk := (smp_of_wide w).1
  have ct := Cost_ok s hs sg.2 x.plan pk
  have lt := Lacks_ok s hs sg.2 x.plan pk
  unfold costTop at ct
  unfold lacksTop at lt
  rw [g] at gk
  rw [w] at wk
  rw [hE, if_pos rfl] at ct lt
  have hna := h.na
  have hnd := h.nord
  have hcu : ∀ l, OrdsUp s.orders l → costF s x.plan ≤ costF (withO s l) x.plan := fun l hl => cost_up h hl
  have hcl : ∀ l, OrdsUp s.orders l → PureFn Try.prog 13 [seasonD (withO s l), planD x.plan] (.tup [int (costF (withO s l) x.plan), int 0]) := fun l hl => by
    have := Cost_ok (withO s l) (sm_up hs hl) sg.2 x.plan pk
    unfold costTop at this
    rw [kept_up hl hE, if_pos rfl] at this
    exact this
  have hll : ∀ l, OrdsUp s.orders l → PureFn Try.prog 14 [seasonD (withO s l), planD x.plan] (.tup [rowD (lacksF (withO s l) x.plan (madeF s x.plan).1), int 0]) := fun l hl => by
    have := Lacks_ok (withO s l) (sm_up hs hl) sg.2 x.plan pk
    unfold lacksTop at this
    rw [kept_up hl hE, if_pos rfl, made_up] at this
    exact this
  have hlu : ∀ l, OrdsUp s.orders l → ∀ (i : Nat) (v : Int), (lacksF s x.plan (madeF s x.plan).1)[i]? = some v → ∃ y, (lacksF (withO s l) x.plan (madeF s x.plan).1)[i]? = some y ∧ v ≤ y := fun l hl i v hv => by
    obtain ⟨y, hy, _, h2⟩ := lacks_up hl hv; exact ⟨y, hy, h2⟩
  have hln : ∀ l, OrdsUp s.orders l → (lacksF (withO s l) x.plan (madeF s x.plan).1).length = (lacksF s x.plan (madeF s x.plan).1).length := fun l hl => by simp [lacksF]; exact hl.len
  have hLl : (lacksF s x.plan (madeF s x.plan).1).length = s.orders.length := by simp [lacksF]
  obtain ⟨C, eC⟩ : ∃ C, costF s x.plan = C := ⟨_, rfl⟩
  obtain ⟨L, eL⟩ : ∃ L, lacksF s x.plan (madeF s x.plan).1 = L := ⟨_, rfl⟩
  rw [eC] at ct hcu
  rw [eL] at lt hlu hln hLl
  refine pureFn_by Try.func3 k3 rfl rfl ?_
  conv => whnf
  refine ⟨_, gk, ?_⟩
  conv => whnf
  refine ⟨_, wk, ?_⟩
  conv => whnf
  refine ⟨_, ct, ?_⟩
  conv => whnf
  refine ⟨_, lt, ?_⟩
  conv => whnf
  refine ⟨four_row s.orders, most_le (by rw [List.length_map]; omega), ?_⟩
  conv => whnf
  refine cond_intro (by show (true && (((s.orders.map ordL).length == (s.orders.map ordL).length) && true)) = true; simp) ?_
  conv => whnf
  refine ⟨four_row s.orders, most_le (by rw [List.length_map]; omega), ?_⟩
  conv => whnf
  refine cond_intro (by show (true && (((s.orders.map ordL).length == (s.orders.map ordL).length) && true)) = true; simp) ?_
  conv => whnf
  refine loopB (fun (y : Int × List (List D) × List (List D)) => ⟨mkT [(2, .d (.fptr (cellsS s))), (3, .d (.fptr (askL x))), (5, .d (int C)), (7, .d (rowD L)), (9, .ptr 2 0), (10, .ptr 3 0), (11, .d (int y.1))],
      mkB [(2, .var [.d (int s.days), .d (.list (s.arts.map artL)), .d (pairsD s.ovens), .d (.list (s.makers.map mkL)), .d (turnsD s.jobs), .d (turnsD s.cols), .row 4 0 (s.orders.map ordL).length (s.orders.map ordL).length]),
        (3, .var [.d (int s.days), .d (.list (s.arts.map artL)), .d (pairsD s.ovens), .d (.list (s.makers.map mkL)), .d (turnsD s.jobs), .d (turnsD s.cols), .row 5 0 (s.orders.map ordL).length (s.orders.map ordL).length]),
        (4, .row 4 y.2.1), (5, .row 4 y.2.2)]⟩)
    (fun y => ∃ (k : Nat) (l4 l5 : List Ord), y.1 = k ∧ k ≤ s.orders.length ∧ y.2.1 = l4.map ordL ∧ y.2.2 = l5.map ordL ∧ OrdsUp s.orders l4 ∧ OrdsUp s.orders l5) (fun y => (s.orders.length - y.1).toNat)
    (0, s.orders.map ordL, s.orders.map ordL) (by kernel_rfl) ⟨0, s.orders, s.orders, rfl, by omega, rfl, rfl, OrdsUp.refl (fun o ho => by have := h.ord o ho; omega), OrdsUp.refl (fun o ho => by have := h.ord o ho; omega)⟩ ?_
  rintro ⟨_, els4, els5⟩ ⟨i, l4, l5, rfl, hi, he4, he5, h4, h5⟩
  simp only at he4 he5
  conv => whnf
  cases c1 : decide ((i : Int) < ((s.orders.map ordL).length : Int))
  · conv => whnf
    have n4 : (s.orders.map ordL).length = els4.length := by rw [he4, List.length_map, List.length_map, h4.len]
    have n5 : (s.orders.map ordL).length = els5.length := by rw [he5, List.length_map, List.length_map, h5.len]
    refine frzI [(3, .d (.fptr (askL x))), (5, .d (int C)), (7, .d (rowD L)), (9, .ptr 2 0), (10, .ptr 3 0)] [(2, .var [.d (int s.days), .d (.list (s.arts.map artL)), .d (pairsD s.ovens), .d (.list (s.makers.map mkL)), .d (turnsD s.jobs), .d (turnsD s.cols), .row 4 0 (s.orders.map ordL).length (s.orders.map ordL).length]), (3, .var [.d (int s.days), .d (.list (s.arts.map artL)), .d (pairsD s.ovens), .d (.list (s.makers.map mkL)), .d (turnsD s.jobs), .d (turnsD s.cols), .row 5 0 (s.orders.map ordL).length (s.orders.map ordL).length]), (4, .row 4 els4), (5, .row 4 els5)] [(3, .d (.fptr (askL x))), (5, .d (int C)), (7, .d (rowD L)), (9, .ptr 2 0), (10, .ptr 3 0)] [(2, .var [.d (int s.days), .d (.list (s.arts.map artL)), .d (pairsD s.ovens), .d (.list (s.makers.map mkL)), .d (turnsD s.jobs), .d (turnsD s.cols), .d (.list els4)]), (3, .var [.d (int s.days), .d (.list (s.arts.map artL)), .d (pairsD s.ovens), .d (.list (s.makers.map mkL)), .d (turnsD s.jobs), .d (turnsD s.cols), .row 5 0 (s.orders.map ordL).length (s.orders.map ordL).length]), (4, .dead), (5, .row 4 els5)] 4 els4 (by kernel_rfl) rfl ⟨rfl, .inl rfl, rfl, .inl rfl, rfl, .inl rfl, rfl, .inl rfl, rfl, .inl rfl, trivial⟩
      ⟨rfl, .inr (.inr ⟨_, _, rfl, rfl, .inl rfl, .inl rfl, .inl rfl, .inl rfl, .inl rfl, .inl rfl, .inr ⟨by rw [← n4], rfl⟩, trivial⟩), rfl, .inr (.inl rfl), rfl, .inl rfl, rfl, .inr (.inl rfl), trivial⟩ rfl ?_
    conv => whnf
    refine frzI [(3, .d (.fptr (askL x))), (5, .d (int C)), (7, .d (rowD L)), (9, .ptr 2 0), (10, .ptr 3 0)] [(2, .var [.d (int s.days), .d (.list (s.arts.map artL)), .d (pairsD s.ovens), .d (.list (s.makers.map mkL)), .d (turnsD s.jobs), .d (turnsD s.cols), .d (.list els4)]), (3, .var [.d (int s.days), .d (.list (s.arts.map artL)), .d (pairsD s.ovens), .d (.list (s.makers.map mkL)), .d (turnsD s.jobs), .d (turnsD s.cols), .row 5 0 (s.orders.map ordL).length (s.orders.map ordL).length]), (4, .dead), (5, .row 4 els5)] [(3, .d (.fptr (askL x))), (5, .d (int C)), (7, .d (rowD L)), (9, .ptr 2 0), (10, .ptr 3 0)] [(2, .var [.d (int s.days), .d (.list (s.arts.map artL)), .d (pairsD s.ovens), .d (.list (s.makers.map mkL)), .d (turnsD s.jobs), .d (turnsD s.cols), .d (.list els4)]), (3, .var [.d (int s.days), .d (.list (s.arts.map artL)), .d (pairsD s.ovens), .d (.list (s.makers.map mkL)), .d (turnsD s.jobs), .d (turnsD s.cols), .d (.list els5)]), (4, .dead), (5, .dead)] 4 els5 (by kernel_rfl) rfl ⟨rfl, .inl rfl, rfl, .inl rfl, rfl, .inl rfl, rfl, .inl rfl, rfl, .inl rfl, trivial⟩
      ⟨rfl, .inr (.inl rfl), rfl, .inr (.inr ⟨_, _, rfl, rfl, .inl rfl, .inl rfl, .inl rfl, .inl rfl, .inl rfl, .inl rfl, .inr ⟨by rw [← n5], rfl⟩, trivial⟩), rfl, .inr (.inl rfl), rfl, .inl rfl, trivial⟩ rfl ?_
    have c4 := hcl l4 h4
    have c5 := hcl l5 h5
    have k4 := hll l4 h4
    have hl4 := hln l4 h4
    have hu4 := hlu l4 h4
    obtain ⟨K, eK⟩ : ∃ K, lacksF (withO s l4) x.plan (madeF s x.plan).1 = K := ⟨_, rfl⟩
    rw [eK] at k4 hl4 hu4
    rw [he4, he5]
    conv => whnf
    refine ⟨_, c4, ?_⟩
    conv => whnf
    refine ⟨_, k4, ?_⟩
    conv => whnf
    refine ⟨_, c5, ?_⟩
    conv => whnf
    rw [decide_eq_false (show ¬ costF (withO s l4) x.plan < C by have := hcu l4 h4; omega)]
    conv => whnf
    rw [decide_eq_false (show ¬ costF (withO s l5) x.plan < C by have := hcu l5 h5; omega)]
    conv => whnf
    rw [decide_eq_true (show ((K.map i1).length : Int) = ((L.map i1).length : Int) by simp [hl4])]
    conv => whnf
    refine loopB (fun (i : Int) => ⟨mkT [(7, .d (rowD L)), (14, .d (rowD K)), (17, .d (int i))], mkB []⟩)
      (fun i => ∃ k : Nat, i = k ∧ k ≤ L.length) (fun i => (L.length - i).toNat) 0 (by kernel_rfl) ⟨0, rfl, by omega⟩ ?_
    rintro _ ⟨q, rfl, hq⟩
    conv => whnf
    cases c2 : decide ((q : Int) < ((L.map i1).length : Int))
    · conv => whnf
      refine ⟨_, lives_ok, ?_⟩
      conv => whnf
      kernel_rfl
    · have hq' : q < L.length := by have := of_decide_eq_true c2; rw [List.length_map] at this; omega
      obtain ⟨v, hv⟩ := get_lt hq'
      obtain ⟨y, hy, hvy⟩ := hu4 q v hv
      conv => whnf
      refine ⟨by omega, _, (by first | exact gm (by assumption) | exact gz (by assumption)), ?_⟩
      conv => whnf
      refine ⟨by omega, _, (by first | exact gm (by assumption) | exact gz (by assumption)), ?_⟩
      conv => whnf
      rw [decide_eq_false (show ¬ y < v by omega)]
      conv => whnf
      exact ⟨IntKind.wrap .i64 ((q : Int) + 1), by kernel_rfl, ⟨q + 1, nx (by omega), by omega⟩, by rw [nx (by omega)]; omega⟩
  · have hi' : i < s.orders.length := by have := of_decide_eq_true c1; rw [List.length_map] at this; omega
    obtain ⟨v, hv⟩ := get_lt (xs := l4) (i := i) (by have := h4.len; omega)
    obtain ⟨z, hz⟩ := get_lt (xs := l5) (i := i) (by have := h5.len; omega)
    obtain ⟨o, ho⟩ := get_lt hi'
    have hov := h.ord o (List.mem_of_getElem? ho)
    have uv : OrdUp o v := by obtain ⟨v2, e, u⟩ := h4.get i o ho; rw [hv] at e; cases e; exact u
    have uz : OrdUp o z := by obtain ⟨v2, e, u⟩ := h5.get i o ho; rw [hz] at e; cases e; exact u
    unfold OrdUp at uv uz
    conv => whnf
    cases c2 : decide ((i : Int) < ((x.prices.map i1).length : Int))
    · have hU : (0 : Int) ≤ 1 ∧ (1 : Int) ≤ 999 := by omega
      have hmn : IntKind.wrap .i64 (v.quantity + 1) = v.quantity + 1 := wr_eq (by omega)
      have hmp : IntKind.wrap .i64 (z.penalty + 1) = z.penalty + 1 := wr_eq (by omega)
      conv => whnf
      refine ⟨by omega, by rw [List.length_map]; omega, ?_⟩
      conv => whnf
      refine ⟨by rw [he4, List.length_map, List.length_map, h4.len], ?_⟩
      conv => whnf
      refine ⟨by rw [he4, List.length_map, List.length_map, h4.len], ?_⟩
      conv => whnf
      refine ⟨by rw [he4, List.length_map, List.length_map, h4.len], _, by rw [he4, Nat.zero_add]; exact gm hv, ?_⟩
      conv => whnf
      refine ⟨by omega, by rw [List.length_map]; omega, ?_⟩
      conv => whnf
      refine ⟨by rw [he4, List.length_map, List.length_map, h4.len], ?_⟩
      conv => whnf
      refine ⟨by rw [he4, List.length_map, List.length_map, h4.len], ?_⟩
      conv => whnf
      refine ⟨by rw [he4, List.length_map, List.length_map, h4.len], _, by rw [he4, Nat.zero_add]; exact gm hv, ?_⟩
      conv => whnf
      refine ⟨by omega, by rw [List.length_map]; omega, ?_⟩
      conv => whnf
      refine ⟨by rw [he5, List.length_map, List.length_map, h5.len], ?_⟩
      conv => whnf
      refine ⟨by rw [he5, List.length_map, List.length_map, h5.len], ?_⟩
      conv => whnf
      refine ⟨by rw [he5, List.length_map, List.length_map, h5.len], _, by rw [he5, Nat.zero_add]; exact gm hz, ?_⟩
      conv => whnf
      refine ⟨by omega, by rw [List.length_map]; omega, ?_⟩
      conv => whnf
      refine ⟨by rw [he5, List.length_map, List.length_map, h5.len], ?_⟩
      conv => whnf
      refine ⟨by rw [he5, List.length_map, List.length_map, h5.len], ?_⟩
      conv => whnf
      refine ⟨by rw [he5, List.length_map, List.length_map, h5.len], _, by rw [he5, Nat.zero_add]; exact gm hz, ?_⟩
      conv => whnf
      exact ⟨(IntKind.wrap .i64 ((i : Int) + 1), els4.set (0 + ((i : Nat) : Int).toNat) (ordL { v with quantity := min 1000000 (IntKind.wrap .i64 (v.quantity + 1)) }), els5.set (0 + ((i : Nat) : Int).toNat) (ordL { z with penalty := min 1000000 (IntKind.wrap .i64 (z.penalty + 1)) })), by kernel_rfl,
        ⟨i + 1, _, _, nx (by omega), by omega, by simp only; rw [he4, Nat.zero_add, Int.toNat_natCast, ← List.map_set], by simp only; rw [he5, Nat.zero_add, Int.toNat_natCast, ← List.map_set], h4.set hv (fun o u => up_q u hU.1 hmn), h5.set hz (fun o u => up_p u hU.1 hmp)⟩, by simp only; rw [nx (by omega)]; omega⟩
    · have hi2 : i < x.prices.length := by have := of_decide_eq_true c2; rw [List.length_map] at this; omega
      obtain ⟨pr, hpr⟩ := get_lt hi2
      have hU : 0 ≤ max 0 (pr.tmod 1000) ∧ max 0 (pr.tmod 1000) ≤ 999 := by
        have := Int.tmod_lt_of_pos pr (show (0 : Int) < 1000 by decide)
        omega
      conv => whnf
      refine ⟨by omega, _, (by first | exact gm (by assumption) | exact gz (by assumption)), ?_⟩
      conv => whnf
      refine ⟨by decide, ?_⟩
      have hmn : IntKind.wrap .i64 (v.quantity + max 0 (pr.tmod 1000)) = v.quantity + max 0 (pr.tmod 1000) := wr_eq (by omega)
      have hmp : IntKind.wrap .i64 (z.penalty + max 0 (pr.tmod 1000)) = z.penalty + max 0 (pr.tmod 1000) := wr_eq (by omega)
      conv => whnf
      refine ⟨by omega, by rw [List.length_map]; omega, ?_⟩
      conv => whnf
      refine ⟨by rw [he4, List.length_map, List.length_map, h4.len], ?_⟩
      conv => whnf
      refine ⟨by rw [he4, List.length_map, List.length_map, h4.len], ?_⟩
      conv => whnf
      refine ⟨by rw [he4, List.length_map, List.length_map, h4.len], _, by rw [he4, Nat.zero_add]; exact gm hv, ?_⟩
      conv => whnf
      refine ⟨by omega, by rw [List.length_map]; omega, ?_⟩
      conv => whnf
      refine ⟨by rw [he4, List.length_map, List.length_map, h4.len], ?_⟩
      conv => whnf
      refine ⟨by rw [he4, List.length_map, List.length_map, h4.len], ?_⟩
      conv => whnf
      refine ⟨by rw [he4, List.length_map, List.length_map, h4.len], _, by rw [he4, Nat.zero_add]; exact gm hv, ?_⟩
      conv => whnf
      refine ⟨by omega, by rw [List.length_map]; omega, ?_⟩
      conv => whnf
      refine ⟨by rw [he5, List.length_map, List.length_map, h5.len], ?_⟩
      conv => whnf
      refine ⟨by rw [he5, List.length_map, List.length_map, h5.len], ?_⟩
      conv => whnf
      refine ⟨by rw [he5, List.length_map, List.length_map, h5.len], _, by rw [he5, Nat.zero_add]; exact gm hz, ?_⟩
      conv => whnf
      refine ⟨by omega, by rw [List.length_map]; omega, ?_⟩
      conv => whnf
      refine ⟨by rw [he5, List.length_map, List.length_map, h5.len], ?_⟩
      conv => whnf
      refine ⟨by rw [he5, List.length_map, List.length_map, h5.len], ?_⟩
      conv => whnf
      refine ⟨by rw [he5, List.length_map, List.length_map, h5.len], _, by rw [he5, Nat.zero_add]; exact gm hz, ?_⟩
      conv => whnf
      exact ⟨(IntKind.wrap .i64 ((i : Int) + 1), els4.set (0 + ((i : Nat) : Int).toNat) (ordL { v with quantity := min 1000000 (IntKind.wrap .i64 (v.quantity + max 0 (pr.tmod 1000))) }), els5.set (0 + ((i : Nat) : Int).toNat) (ordL { z with penalty := min 1000000 (IntKind.wrap .i64 (z.penalty + max 0 (pr.tmod 1000))) })), by kernel_rfl,
        ⟨i + 1, _, _, nx (by omega), by omega, by simp only; rw [he4, Nat.zero_add, Int.toNat_natCast, ← List.map_set], by simp only; rw [he5, Nat.zero_add, Int.toNat_natCast, ← List.map_set], h4.set hv (fun o u => up_q u hU.1 hmn), h5.set hz (fun o u => up_p u hU.1 hmp)⟩, by simp only; rw [nx (by omega)]; omega⟩
theorem dearer_law (s : Season) (x : Ask) : PureFn Try.prog 3 [seasonD s, askD x] (boolD true) := by
  have gk := great_ok s
  cases g : greatF s
  · have wk := wide_ok x
    cases w : wideF x
    · have sg := sm_of g
      have hs := sg.1
      have pk := (smp_of_wide w).1
      by_cases hE : keptE s x.plan = 0
      · obtain ⟨h, po, _⟩ := kept_zero hs hE
        exact dearer_main s x g w h po hE
      · have ct := Cost_ok s hs sg.2 x.plan pk
        have lt := Lacks_ok s hs sg.2 x.plan pk
        unfold costTop at ct
        unfold lacksTop at lt
        rw [if_neg hE] at ct lt
        rw [g] at gk
        rw [w] at wk
        obtain ⟨E, eE⟩ : ∃ E, keptE s x.plan = E := ⟨_, rfl⟩
        rw [eE] at ct lt hE
        refine pureFn_by Try.func3 k3 rfl rfl ?_
        conv => whnf
        refine ⟨_, gk, ?_⟩
        conv => whnf
        refine ⟨_, wk, ?_⟩
        conv => whnf
        refine ⟨_, ct, ?_⟩
        conv => whnf
        refine ⟨_, lt, ?_⟩
        conv => whnf
        rw [decide_eq_false hE]
        conv => whnf
        rw [dself]
        conv => whnf
        refine ⟨_, lives_ok, ?_⟩
        conv => whnf
        kernel_rfl
    · rw [g] at gk
      rw [w] at wk
      refine pureFn_by Try.func3 k3 rfl rfl ?_
      conv => whnf
      refine ⟨_, gk, ?_⟩
      conv => whnf
      refine ⟨_, wk, ?_⟩
      conv => whnf
      refine ⟨_, lives_ok, ?_⟩
      conv => whnf
      kernel_rfl
  · rw [g] at gk
    refine pureFn_by Try.func3 k3 rfl rfl ?_
    conv => whnf
    refine ⟨_, gk, ?_⟩
    conv => whnf
    refine ⟨_, lives_ok, ?_⟩
    conv => whnf
    kernel_rfl
end Go.Proofs.YtmkmegcconjgoaaG
