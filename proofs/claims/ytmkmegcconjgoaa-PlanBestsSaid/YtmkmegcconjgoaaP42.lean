/- The specification's lacks and costs; PlanResults. No condition. -/
import Derived.Test.YtmkmegcconjgoaaP41
import Derived.Test.YtmkmegcconjgoaaP39
set_option linter.unusedVariables false
set_option linter.unusedSimpArgs false
set_option maxRecDepth 100000
set_option maxHeartbeats 4000000
namespace Go.Proofs.YtmkmegcconjgoaaG
open Go Go.AM Go.Proofs

theorem lacks_ok' (s : Season) (h : Fr s) (p : List (List Int)) (po : POk s p) (bot : List (List Int)) (hb : Bot s bot) : PureFn Try.prog 62 [seasonD s, planD p, planD bot] (rowD (lacksF s p bot)) := by
  have hdy := h.days
  have hnm := h.nm
  have hna := h.na
  have hnord := h.nord
  have hpl := po.len
  have hbl := hb.len
  refine pureFn_by Try.func62 k62 rfl rfl ?_
  conv => whnf
  refine loopB (fun (x : Int × List (List D) × Nat) => ⟨mkT [(1, .d (planD p)), (2, .d (planD bot)), (3, .d (.fptr (cellsS s))), (7, .row 1 0 x.2.2 x.2.2), (8, .d (int x.1))], mkB [(1, .row 1 x.2.1)]⟩)
    (fun x => ∃ i : Nat, x.1 = i ∧ i ≤ s.orders.length ∧ x.2.1 = (lacksF { s with orders := s.orders.take i } p bot).map i1 ∧ x.2.2 = x.2.1.length) (fun x => (s.orders.length - x.1).toNat) (0, [], 0) (by kernel_rfl) ⟨0, rfl, by omega, rfl, rfl⟩ ?_
  rintro ⟨_, els, n⟩ ⟨i, rfl, hi, he, hn⟩
  simp only at he hn
  conv => whnf
  cases c1 : decide ((i : Int) < ((s.orders.map ordL).length : Int))
  · have hi' : i = s.orders.length := by have := of_decide_eq_false c1; rw [List.length_map] at this; omega
    rw [hi', List.take_length] at he
    conv => whnf
    refine (resA_row (s := 1) (n := n) (esz := 1) (els := els) rfl rfl hn).trans ?_
    rw [he]
  · have hi' : i < s.orders.length := by have := of_decide_eq_true c1; rw [List.length_map] at this; omega
    obtain ⟨o, hx⟩ := get_lt hi'
    have ho := h.ord o (List.mem_of_getElem? hx)
    have hel : els.length = i := by rw [he]; simp [lacksF]; omega
    have htk : s.orders.take (i + 1) = s.orders.take i ++ [o] := by rw [List.take_add_one]; simp [hx]
    have hnew : els ++ [[int (max (lackN p bot o) 0)]] = (lacksF { s with orders := s.orders.take (i + 1) } p bot).map i1 := by
      rw [he]; simp [lacksF, htk]
    conv => whnf
    refine ⟨by omega, _, (by first | exact gm (by assumption) | exact gz (by assumption)), ?_⟩
    conv => whnf
    refine loopB (fun (x : Int × Int) => ⟨mkT [(1, .d (planD p)), (2, .d (planD bot)), (3, .d (.fptr (cellsS s))), (7, .row 1 0 n n), (8, .d (int (i : Int))), (9, .d (int x.2)), (10, .d (int x.1))], mkB [(1, .row 1 els)]⟩)
      (fun x => ∃ m : Nat, x.1 = m ∧ m ≤ p.length ∧ x.2 = o.quantity - ((List.range m).map (lackM p bot o)).sum ∧ -14000000 * (m : Int) ≤ x.2 ∧ x.2 ≤ 1000000) (fun x => (p.length - x.1).toNat) (0, o.quantity) (by kernel_rfl) ⟨0, rfl, by omega, by simp, by simp; omega, by simp only; omega⟩ ?_
    rintro ⟨_, cur⟩ ⟨m, rfl, hm, hc, hc0, hc1⟩
    simp only at hc hc0 hc1
    conv => whnf
    cases c2 : decide ((m : Int) < ((p.map rowL).length : Int))
    · have hm' : m = p.length := by have := of_decide_eq_false c2; rw [List.length_map] at this; omega
      have hcur : cur = lackN p bot o := by rw [hc, hm']; rfl
      conv => whnf
      refine ⟨rfl, rfl, hn, most_le (by simp; omega), ?_⟩
      conv => whnf
      exact ⟨(IntKind.wrap .i64 ((i : Int) + 1), els ++ [[int (max cur 0)]], els.length + 1), by kernel_rfl, ⟨i + 1, nx (by omega), by omega, by rw [hcur]; exact hnew, by simp⟩, by simp only; rw [nx (by omega)]; omega⟩
    · have hm' : m < p.length := by have := of_decide_eq_true c2; rw [List.length_map] at this; omega
      obtain ⟨l, hl⟩ := get_lt hm'
      obtain ⟨b, hbb⟩ := get_lt (xs := bot) (i := m) (by omega)
      have hl2 := po.rows l (List.mem_of_getElem? hl)
      have hb2 := hb.rows b (List.mem_of_getElem? hbb)
      have hlm : lackM p bot o m = lackRow o.article o.due l b := by unfold lackM; rw [getD_of hl, getD_of hbb]
      conv => whnf
      refine loopB (fun (x : Int × Int) => ⟨mkT [(1, .d (planD p)), (2, .d (planD bot)), (3, .d (.fptr (cellsS s))), (7, .row 1 0 n n), (8, .d (int (i : Int))), (9, .d (int x.2)), (10, .d (int (m : Int))), (11, .d (int x.1))], mkB [(1, .row 1 els)]⟩)
        (fun x => ∃ d : Nat, x.1 = d ∧ (d : Int) ≤ o.due + 1 ∧ x.2 = cur - ((List.range d).map (lackD o.article l b)).sum ∧ -14000000 * (m : Int) - 1000000 * (d : Int) ≤ x.2 ∧ x.2 ≤ 1000000) (fun x => (o.due + 1 - x.1).toNat) (0, cur) (by kernel_rfl) ⟨0, rfl, by omega, by simp, by simp only; omega, by simp only; omega⟩ ?_
      rintro ⟨_, now⟩ ⟨d, rfl, hd, hn2, hn0, hn1⟩
      simp only at hn2 hn0 hn1
      conv => whnf
      refine ⟨by omega, _, (by first | exact gm (by assumption) | exact gz (by assumption)), ?_⟩
      conv => whnf
      cases c3 : decide ((d : Int) ≤ o.due)
      · have hd' : o.due.toNat + 1 = d := by have := of_decide_eq_false c3; omega
        have e : now = o.quantity - ((List.range (m + 1)).map (lackM p bot o)).sum := by
          rw [hn2, map_range_succ, List.sum_append, hlm, hc]
          unfold lackRow
          rw [hd']; simp; omega
        conv => whnf
        exact ⟨(IntKind.wrap .i64 ((m : Int) + 1), now), by kernel_rfl, ⟨m + 1, nx (by omega), by omega, e, by simp only; omega, hn1⟩, by simp only; rw [nx (by omega)]; omega⟩
      · have hd' := of_decide_eq_true c3
        obtain ⟨a, ha⟩ := get_lt (xs := l) (i := d) (by omega)
        obtain ⟨v, hv⟩ := get_lt (xs := b) (i := d) (by omega)
        have hv2 := hb2.2 v (List.mem_of_getElem? hv)
        have hld : lackD o.article l b d = if a = o.article then v else 0 := by unfold lackD; rw [getD_of ha, getD_of hv]
        conv => whnf
        refine ⟨by omega, _, (by first | exact gm (by assumption) | exact gz (by assumption)), ?_⟩
        conv => whnf
        refine ⟨by omega, _, (by first | exact gm (by assumption) | exact gz (by assumption)), ?_⟩
        conv => whnf
        refine ⟨by omega, _, (by first | exact gm (by assumption) | exact gz (by assumption)), ?_⟩
        conv => whnf
        cases c4 : decide (a = o.article)
        · rw [if_neg (of_decide_eq_false c4)] at hld
          conv => whnf
          exact ⟨(IntKind.wrap .i64 ((d : Int) + 1), now), by kernel_rfl, ⟨d + 1, nx (by omega), by omega, by rw [map_range_succ, List.sum_append, hld]; simp; omega, by simp only; omega, hn1⟩, by simp only; rw [nx (by omega)]; omega⟩
        · rw [if_pos (of_decide_eq_true c4)] at hld
          have ew : IntKind.wrap .i64 (now - v) = now - v := wr_eq (by omega)
          conv => whnf
          refine ⟨by omega, _, (by first | exact gm (by assumption) | exact gz (by assumption)), ?_⟩
          conv => whnf
          refine ⟨by omega, _, (by first | exact gm (by assumption) | exact gz (by assumption)), ?_⟩
          conv => whnf
          exact ⟨(IntKind.wrap .i64 ((d : Int) + 1), IntKind.wrap .i64 (now - v)), by kernel_rfl, ⟨d + 1, nx (by omega), by omega, by simp only; rw [ew, map_range_succ, List.sum_append, hld]; simp; omega, by simp only; rw [ew]; omega, by simp only; rw [ew]; omega⟩, by simp only; rw [nx (by omega)]; omega⟩
theorem cost_ok' (s : Season) (h : Fr s) (h3 : s.makers.length ≤ 3) (p : List (List Int)) (po : POk s p) : PureFn Try.prog 63 [seasonD s, planD p] (int (costF s p)) := by
  have md := results_ok' s h h3 p po
  have mb := made_bot h po
  have lk := lacks_ok' s h p po _ mb
  have mc := made_cost h po
  have hna := h.na
  have hnord := h.nord
  unfold costF
  have hll : (lacksF s p (madeF s p).1).length = s.orders.length := by simp [lacksF]
  have hlg : ∀ (i : Nat) (l : Int) (o : Ord), (lacksF s p (madeF s p).1)[i]? = some l → s.orders[i]? = some o → 0 ≤ l ∧ l ≤ 1000000 := fun i l o hl ho => by
    simp only [lacksF, List.getElem?_map, ho, Option.map_some, Option.some.injEq] at hl
    have := lackN_le (p := p) mb o
    have := h.ord o (List.mem_of_getElem? ho)
    omega
  obtain ⟨⟨XS, c⟩, hX⟩ : ∃ X, madeF s p = X := ⟨_, rfl⟩
  rw [hX] at md lk mc hll hlg ⊢
  simp only at md lk mc hll hlg ⊢
  obtain ⟨LK, hLK⟩ : ∃ LK, lacksF s p XS = LK := ⟨_, rfl⟩
  rw [hLK] at lk hll hlg ⊢
  obtain ⟨R, hR⟩ : ∃ R, c + costSum LK s.orders = R := ⟨_, rfl⟩
  rw [hR]
  refine pureFn_by Try.func63 k63 rfl rfl ?_
  conv => whnf
  refine ⟨_, md, ?_⟩
  conv => whnf
  refine ⟨_, lk, ?_⟩
  conv => whnf
  refine loopB (fun (x : Int × Int) => ⟨mkT [(2, .d (.fptr (cellsS s))), (6, .d (int x.2)), (7, .d (rowD LK)), (8, .d (int x.1))], mkB []⟩)
    (fun x => ∃ i : Nat, x.1 = i ∧ i ≤ LK.length ∧ x.2 + costSum (LK.drop i) (s.orders.drop i) = R ∧ 0 ≤ x.2 ∧ x.2 ≤ 462000000 + 1000000000000 * (i : Int)) (fun x => (LK.length - x.1).toNat) (0, c) (by kernel_rfl) ⟨0, rfl, by omega, hR, mc.1, by simp only; omega⟩ ?_
  rintro ⟨_, cur⟩ ⟨i, rfl, hi, hc, hc0, hc1⟩
  simp only at hc hc0 hc1
  conv => whnf
  cases c1 : decide ((i : Int) < ((LK.map i1).length : Int))
  · have hi' : i = LK.length := by have := of_decide_eq_false c1; rw [List.length_map] at this; omega
    rw [hi', drop_end] at hc
    have hc : cur = R := by simpa [costSum] using hc
    rw [← hc]
    conv => whnf
    kernel_rfl
  · have hi' : i < LK.length := by have := of_decide_eq_true c1; rw [List.length_map] at this; omega
    obtain ⟨l, hl⟩ := get_lt hi'
    obtain ⟨o, ho⟩ := get_lt (xs := s.orders) (i := i) (by omega)
    have hlr := hlg i l o hl ho
    have hor := h.ord o (List.mem_of_getElem? ho)
    rw [drop_at hl, drop_at ho, costSum] at hc
    have hp0 : 0 ≤ l * o.penalty := Int.mul_nonneg hlr.1 (by omega)
    have hp1 : l * o.penalty ≤ 1000000000000 := by
      calc l * o.penalty ≤ 1000000 * o.penalty := Int.mul_le_mul_of_nonneg_right hlr.2 (by omega)
        _ ≤ 1000000 * 1000000 := Int.mul_le_mul_of_nonneg_left (by omega) (by omega)
        _ = 1000000000000 := by decide
    have e1 : IntKind.wrap .i64 (l * o.penalty) = l * o.penalty := wr_eq (by omega)
    have e2 : IntKind.wrap .i64 (cur + IntKind.wrap .i64 (l * o.penalty)) = cur + l * o.penalty := by rw [e1, wr_eq (by omega)]
    conv => whnf
    refine ⟨by omega, _, (by first | exact gm (by assumption) | exact gz (by assumption)), ?_⟩
    conv => whnf
    refine ⟨by omega, _, (by first | exact gm (by assumption) | exact gz (by assumption)), ?_⟩
    conv => whnf
    exact ⟨(IntKind.wrap .i64 ((i : Int) + 1), IntKind.wrap .i64 (cur + IntKind.wrap .i64 (l * o.penalty))), by kernel_rfl, ⟨i + 1, nx (by omega), by omega, by simp only; rw [e2]; omega, by simp only; rw [e2]; omega, by simp only; rw [e2]; omega⟩, by simp only; rw [nx (by omega)]; omega⟩
theorem Pulls_ok' (s : Season) (hs : Sm s) (p : List (List Int)) (hp : SmP p) : PureFn Try.prog 25 [seasonD s, planD p] (pullsTop s p) := by
  have kp := kept_ok' s hs p hp
  have kz := @kept_zero s hs p
  unfold pullsTop
  obtain ⟨E, hE⟩ : ∃ E, keptE s p = E := ⟨_, rfl⟩
  rw [hE] at kp kz ⊢
  by_cases h1 : E = 0
  · obtain ⟨h, po, _⟩ := kz h1
    have hno := h.no
    have hdy := h.days
    subst h1
    rw [if_pos rfl]
    refine pureFn_by Try.func25 k25 rfl rfl ?_
    conv => whnf
    refine ⟨_, kp, ?_⟩
    conv => whnf
    refine loopB (fun (x : Int × List (List D) × Nat) => ⟨mkT [(1, .d (planD p)), (2, .d (.fptr (cellsS s))), (7, .row 2 0 x.2.2 x.2.2), (8, .d (int x.1))], mkB [(2, .row 1 x.2.1)]⟩)
      (fun x => ∃ k : Nat, x.1 = k ∧ k ≤ s.ovens.length ∧ x.2.1 = ((List.range k).map (pullRow s p)).map rowL ∧ x.2.2 = x.2.1.length) (fun x => (s.ovens.length - x.1).toNat) (0, [], 0) (by kernel_rfl) ⟨0, rfl, by omega, rfl, rfl⟩ ?_
    rintro ⟨_, els, n⟩ ⟨k, rfl, hk, he, hn⟩
    simp only at he hn
    conv => whnf
    cases c1 : decide ((k : Int) < ((s.ovens.map i2).length : Int))
    · have hk' : k = s.ovens.length := by have := of_decide_eq_false c1; rw [List.length_map] at this; omega
      subst hk'
      conv => whnf
      have fin : ∀ σ : St, σ.t 4 = .row 2 0 n n → σ.t 5 = .d (int 0) → σ.b 2 = .row 1 els → resA [.t 4, .t 5] σ = some (.tup [planD (pullsF s p), int 0]) := fun σ h1 h2 h3 => by
        have e1 : [RV.t 4, RV.t 5].mapM (readRV σ) = some [σ.t 4, σ.t 5] := rfl
        have e2 : Go.AM.snap σ.b 4 (σ.t 4) = some (planD (pullsF s p)) := by rw [h1, snap_row0 h3 hn, he]; rfl
        have e3 : Go.AM.snap σ.b 4 (σ.t 5) = some (int 0) := by rw [h2]; rfl
        unfold resA
        rw [e1]
        show ([σ.t 4, σ.t 5].mapM (Go.AM.snap σ.b 4)).map D.tup = _
        rw [mapM2 e2 e3]; rfl
      exact fin _ rfl rfl rfl
    · have hk' : k < s.ovens.length := by have := of_decide_eq_true c1; rw [List.length_map] at this; omega
      have hel : els.length = k := by rw [he]; simp
      have mk := makers_ok' s h.sm (k : Int)
      have hml := Nat.le_trans (makersF_len s (k : Int)) h.nm
      have hsh := fun (d : Nat) (hd : (d : Int) < s.days) => shift_ok' s h p po (k : Int) (d : Int) hd
      obtain ⟨ms, hms⟩ : ∃ ms, makersF s (k : Int) = ms := ⟨_, rfl⟩
      have hmm : ∀ m ∈ ms, 0 ≤ m ∧ m < s.makers.length := fun m hm => makersF_mem (hms ▸ hm)
      have hpd : ∀ d : Nat, pullD s p (k : Int) d = pullF s ms (onF s p ms (d : Int)) := fun d => by unfold pullD; rw [hms]
      rw [hms] at mk hml hsh
      conv => whnf
      refine loopB (fun (x : Int × List (List D) × Nat) => ⟨mkT [(1, .d (planD p)), (2, .d (.fptr (cellsS s))), (7, .row 2 0 n n), (8, .d (int (k : Int))), (9, .row 1 0 x.2.2 x.2.2), (10, .d (int x.1))], mkB [(1, .row 1 x.2.1), (2, .row 1 els)]⟩)
        (fun x => ∃ d : Nat, x.1 = d ∧ (d : Int) ≤ s.days ∧ x.2.1 = ((List.range d).map (pullD s p (k : Int))).map i1 ∧ x.2.2 = x.2.1.length) (fun x => (s.days - x.1).toNat) (0, [], 0) (by kernel_rfl) ⟨0, rfl, by omega, rfl, rfl⟩ ?_
      rintro ⟨_, els1, n1⟩ ⟨d, rfl, hd, he1, hn1⟩
      simp only at he1 hn1
      have hel1 : els1.length = d := by rw [he1]; simp
      conv => whnf
      cases c2 : decide ((d : Int) < s.days)
      · have hd' : s.days.toNat = d := by have := of_decide_eq_false c2; omega
        have hrow : els1 = (pullRow s p k).map i1 := by rw [he1]; unfold pullRow; rw [hd']
        conv => whnf
        refine ⟨rfl, hn1, ?_⟩
        conv => whnf
        refine ⟨rfl, rfl, hn, most_le (by simp; omega), ?_⟩
        conv => whnf
        exact ⟨(IntKind.wrap .i64 ((k : Int) + 1), els ++ [[.list els1]], els.length + 1), by kernel_rfl, ⟨k + 1, nx (by omega), by omega, by rw [map_range_succ, List.map_append, ← he, hrow]; rfl, by simp⟩, by simp only; rw [nx (by omega)]; omega⟩
      · have hd' := of_decide_eq_true c2
        have on2 := hsh d hd'
        have r2 := onF_row h po hmm (by omega) hd'
        have dg := pull_ok s h ms _ r2
        conv => whnf
        refine ⟨_, mk, ?_⟩
        conv => whnf
        refine ⟨_, on2, ?_⟩
        conv => whnf
        refine ⟨_, dg, ?_⟩
        conv => whnf
        refine ⟨rfl, rfl, hn1, most_le (by simp; omega), ?_⟩
        conv => whnf
        exact ⟨(IntKind.wrap .i64 ((d : Int) + 1), els1 ++ [[int (pullF s ms (onF s p ms (d : Int)))]], els1.length + 1), by kernel_rfl, ⟨d + 1, nx (by omega), by omega, by rw [map_range_succ, List.map_append, ← he1, hpd]; rfl, by simp⟩, by simp only; rw [nx (by omega)]; omega⟩
  · rw [if_neg h1]
    refine pureFn_by Try.func25 k25 rfl rfl ?_
    conv => whnf
    refine ⟨_, kp, ?_⟩
    conv => whnf
    rw [decide_eq_false h1]
    conv => whnf
    kernel_rfl
theorem Made_ok' (s : Season) (hs : Sm s) (h3 : s.makers.length ≤ 3 ∨ 6 < s.makers.length) (p : List (List Int)) (hp : SmP p) : PureFn Try.prog 27 [seasonD s, planD p] (madeTop s p) := by
  have kp := kept_ok' s hs p hp
  have kz := @kept_zero s hs p
  unfold madeTop
  obtain ⟨E, hE⟩ : ∃ E, keptE s p = E := ⟨_, rfl⟩
  rw [hE] at kp kz ⊢
  by_cases h1 : E = 0
  · obtain ⟨h, po, _⟩ := kz h1
    have hn := h.nm
    have md := results_ok' s h (by omega) p po
    have mb := made_bot h po
    have lk := lacks_ok' s h p po _ mb
    subst h1
    rw [if_pos rfl]
    refine pureFn_by Try.func27 k27 rfl rfl ?_
    conv => whnf
    refine ⟨_, kp, ?_⟩
    conv => whnf
    refine ⟨_, md, ?_⟩
    conv => whnf
    kernel_rfl
  · rw [if_neg h1]
    refine pureFn_by Try.func27 k27 rfl rfl ?_
    conv => whnf
    refine ⟨_, kp, ?_⟩
    conv => whnf
    rw [decide_eq_false h1]
    conv => whnf
    kernel_rfl
theorem Lacks_ok' (s : Season) (hs : Sm s) (h3 : s.makers.length ≤ 3 ∨ 6 < s.makers.length) (p : List (List Int)) (hp : SmP p) : PureFn Try.prog 28 [seasonD s, planD p] (lacksTop s p) := by
  have kp := kept_ok' s hs p hp
  have kz := @kept_zero s hs p
  unfold lacksTop
  obtain ⟨E, hE⟩ : ∃ E, keptE s p = E := ⟨_, rfl⟩
  rw [hE] at kp kz ⊢
  by_cases h1 : E = 0
  · obtain ⟨h, po, _⟩ := kz h1
    have hn := h.nm
    have md := results_ok' s h (by omega) p po
    have mb := made_bot h po
    have lk := lacks_ok' s h p po _ mb
    subst h1
    rw [if_pos rfl]
    refine pureFn_by Try.func28 k28 rfl rfl ?_
    conv => whnf
    refine ⟨_, kp, ?_⟩
    conv => whnf
    refine ⟨_, md, ?_⟩
    conv => whnf
    refine ⟨_, lk, ?_⟩
    conv => whnf
    kernel_rfl
  · rw [if_neg h1]
    refine pureFn_by Try.func28 k28 rfl rfl ?_
    conv => whnf
    refine ⟨_, kp, ?_⟩
    conv => whnf
    rw [decide_eq_false h1]
    conv => whnf
    kernel_rfl
theorem Cost_ok' (s : Season) (hs : Sm s) (h3 : s.makers.length ≤ 3 ∨ 6 < s.makers.length) (p : List (List Int)) (hp : SmP p) : PureFn Try.prog 29 [seasonD s, planD p] (costTop s p) := by
  have kp := kept_ok' s hs p hp
  have kz := @kept_zero s hs p
  unfold costTop
  obtain ⟨E, hE⟩ : ∃ E, keptE s p = E := ⟨_, rfl⟩
  rw [hE] at kp kz ⊢
  by_cases h1 : E = 0
  · obtain ⟨h, po, _⟩ := kz h1
    have hn := h.nm
    have md := results_ok' s h (by omega) p po
    have mb := made_bot h po
    have lk := lacks_ok' s h p po _ mb
    subst h1
    rw [if_pos rfl]
    refine pureFn_by Try.func29 k29 rfl rfl ?_
    conv => whnf
    refine ⟨_, kp, ?_⟩
    conv => whnf
    refine ⟨_, cost_ok' s h (by omega) p po, ?_⟩
    conv => whnf
    kernel_rfl
  · rw [if_neg h1]
    refine pureFn_by Try.func29 k29 rfl rfl ?_
    conv => whnf
    refine ⟨_, kp, ?_⟩
    conv => whnf
    rw [decide_eq_false h1]
    conv => whnf
    kernel_rfl
theorem sameI_nil : PureFn Try.prog 23 [nilD, nilD] (boolD true) := by
  have := sameInts_ok [] [] (by decide)
  rw [decide_eq_true rfl] at this
  exact pureFn_args (args := [rowD [], rowD []]) rfl (fun j hj hj' ok w v hv => match j, hj with
    | 0, _ => rel_nil hv
    | 1, _ => rel_nil hv) this
theorem results_law (s : Season) (x : Ask) : PureFn Try.prog 6 [seasonD s, askD x] (boolD true) := by
  have gk := great_ok s
  cases g : greatF s
  · have wk := wide_ok x
    cases w : wideF x
    · have sg := sm_of g
      have hs := sg.1
      have pk := (smp_of_wide w).1
      have p1 := Pulls_ok s hs x.plan pk
      have p2 := Pulls_ok' s hs x.plan pk
      have m1 := Made_ok s hs sg.2 x.plan pk
      have m2 := Made_ok' s hs sg.2 x.plan pk
      have l1 := Lacks_ok s hs sg.2 x.plan pk
      have l2 := Lacks_ok' s hs sg.2 x.plan pk
      have c1 := Cost_ok s hs sg.2 x.plan pk
      have c2 := Cost_ok' s hs sg.2 x.plan pk
      unfold pullsTop at p1 p2
      unfold madeTop at m1 m2
      unfold lacksTop at l1 l2
      unfold costTop at c1 c2
      rw [g] at gk
      rw [w] at wk
      have fin : ∀ (dp dm dl : D) (C E : Int), PureFn Try.prog 21 [dp, dp] (boolD true) → PureFn Try.prog 21 [dm, dm] (boolD true) → PureFn Try.prog 23 [dl, dl] (boolD true) →
          PureFn Try.prog 24 [seasonD s, planD x.plan] (.tup [dp, int E]) → PureFn Try.prog 25 [seasonD s, planD x.plan] (.tup [dp, int E]) →
          PureFn Try.prog 26 [seasonD s, planD x.plan] (.tup [dm, int E]) → PureFn Try.prog 27 [seasonD s, planD x.plan] (.tup [dm, int E]) →
          PureFn Try.prog 14 [seasonD s, planD x.plan] (.tup [dl, int E]) → PureFn Try.prog 28 [seasonD s, planD x.plan] (.tup [dl, int E]) →
          PureFn Try.prog 13 [seasonD s, planD x.plan] (.tup [int C, int E]) → PureFn Try.prog 29 [seasonD s, planD x.plan] (.tup [int C, int E]) →
          PureFn Try.prog 6 [seasonD s, askD x] (boolD true) := fun dp dm dl C E s1 s2 s3 p1 p2 m1 m2 l1 l2 c1 c2 => by
        refine pureFn_by Try.func6 k6 rfl rfl ?_
        conv => whnf
        refine ⟨_, gk, ?_⟩
        conv => whnf
        refine ⟨_, wk, ?_⟩
        conv => whnf
        refine ⟨_, p1, ?_⟩
        conv => whnf
        refine ⟨_, p2, ?_⟩
        conv => whnf
        rw [dself]
        conv => whnf
        refine ⟨_, s1, ?_⟩
        conv => whnf
        refine ⟨_, m1, ?_⟩
        conv => whnf
        refine ⟨_, m2, ?_⟩
        conv => whnf
        rw [dself]
        conv => whnf
        refine ⟨_, s2, ?_⟩
        conv => whnf
        refine ⟨_, l1, ?_⟩
        conv => whnf
        refine ⟨_, l2, ?_⟩
        conv => whnf
        refine ⟨_, c1, ?_⟩
        conv => whnf
        refine ⟨_, c2, ?_⟩
        conv => whnf
        rw [dself]
        conv => whnf
        refine ⟨_, s3, ?_⟩
        conv => whnf
        rw [dself]
        conv => whnf
        rw [dself]
        conv => whnf
        refine ⟨_, lives_ok, ?_⟩
        conv => whnf
        kernel_rfl
      by_cases hE : keptE s x.plan = 0
      · obtain ⟨h, po, _⟩ := kept_zero hs hE
        have mb := made_bot h po
        have hdy := h.days
        have hno := h.no
        have hnm := h.nm
        have hna := h.na
        have hnd := h.nord
        rw [hE, if_pos rfl] at p1 p2 m1 m2 l1 l2 c1 c2
        have s1 := sameLists_ok (pullsF s x.plan) (pullsF s x.plan) (by simp [pullsF]; omega) (fun r hr => by
          obtain ⟨k, _, rfl⟩ := List.mem_map.1 hr
          simp [pullRow]; omega)
        have s2 := sameLists_ok (madeF s x.plan).1 (madeF s x.plan).1 (by have := mb.len; omega) (fun r hr => by have := (mb.rows r hr).1; omega)
        have s3 := sameInts_ok (lacksF s x.plan (madeF s x.plan).1) (lacksF s x.plan (madeF s x.plan).1) (by simp [lacksF]; omega)
        rw [decide_eq_true rfl] at s1 s2 s3
        exact fin _ _ _ _ _ s1 s2 s3 p1 p2 m1 m2 l1 l2 c1 c2
      · rw [if_neg hE] at p1 p2 m1 m2 l1 l2 c1 c2
        exact fin _ _ _ _ _ same_nil same_nil sameI_nil p1 p2 m1 m2 l1 l2 c1 c2
    · rw [g] at gk
      rw [w] at wk
      refine pureFn_by Try.func6 k6 rfl rfl ?_
      conv => whnf
      refine ⟨_, gk, ?_⟩
      conv => whnf
      refine ⟨_, wk, ?_⟩
      conv => whnf
      refine ⟨_, lives_ok, ?_⟩
      conv => whnf
      kernel_rfl
  · rw [g] at gk
    refine pureFn_by Try.func6 k6 rfl rfl ?_
    conv => whnf
    refine ⟨_, gk, ?_⟩
    conv => whnf
    refine ⟨_, lives_ok, ?_⟩
    conv => whnf
    kernel_rfl
end Go.Proofs.YtmkmegcconjgoaaG
