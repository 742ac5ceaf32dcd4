/- What the glass of a plan costs, by the specification. No condition. -/
import Derived.Test.YtalbkamkkceanaaGreatB23
set_option linter.unusedVariables false
set_option linter.unusedSimpArgs false
set_option maxRecDepth 100000
set_option maxHeartbeats 4000000
namespace Go.Proofs.YtalbkamkkceanaaGreatG
open Go Go.AM Go.Proofs

theorem melt_step' {acc q : Int} {g : Int × Int} (hg : Gg g) (ha : 0 ≤ acc) (ha2 : acc ≤ 500000000000000000) (h0 : 0 ≤ q) (h1 : q ≤ 1000000) :
    IntKind.wrap .i64 (acc + IntKind.wrap .i64 (IntKind.wrap .i64 ((IntKind.wrap .i64 (IntKind.wrap .i64 (IntKind.wrap .i64 (1000 * q) + g.2) - 1)).tdiv g.2) * g.1)) = acc + termG g q := by
  have hg0 := hg.g0
  have hg1 := hg.g1
  have hq := quo_bound hg h0 h1
  have ht := termG_bound hg h0 h1
  rw [wr64 (show -9223372036854775808 ≤ 1000 * q ∧ 1000 * q ≤ 9223372036854775807 by omega)]
  rw [wr64 (show -9223372036854775808 ≤ 1000 * q + g.2 ∧ 1000 * q + g.2 ≤ 9223372036854775807 by omega)]
  rw [wr64 (show -9223372036854775808 ≤ 1000 * q + g.2 - 1 ∧ 1000 * q + g.2 - 1 ≤ 9223372036854775807 by omega)]
  rw [Int.tdiv_eq_ediv_of_nonneg (show 0 ≤ 1000 * q + g.2 - 1 by omega)]
  rw [wr64 (show -9223372036854775808 ≤ (1000 * q + g.2 - 1) / g.2 ∧ (1000 * q + g.2 - 1) / g.2 ≤ 9223372036854775807 by omega)]
  rw [Int.mul_comm ((1000 * q + g.2 - 1) / g.2) g.1]
  unfold termG at ht ⊢
  rw [wr64 (show -9223372036854775808 ≤ g.1 * ((1000 * q + g.2 - 1) / g.2) ∧ g.1 * ((1000 * q + g.2 - 1) / g.2) ≤ 9223372036854775807 by omega)]
  exact wr64 (by omega)
theorem meltR_ok (s : Season) (hs : Sm s) (p : List (List Int)) (hp : SmP p) (l : List Bat) (hl : l.length ≤ 4) (hb : ∀ b ∈ l, Sb b) : PureFn Tryz.prog 11 [seasonD s, planD p, batsD l] (meltTop s p l) := by
  have kp := kept_ok' s hs p hp
  have kz := @kept_zero s hs p
  have gg := @gg_all l hb
  have m1 := @mt1 s p l
  have m2 := @mt2 s p l
  have m3 := @mt3 s p l
  have m4 := @mt4 s p l
  obtain ⟨R, hR⟩ : ∃ R, meltTop s p l = R := ⟨_, rfl⟩
  rw [hR] at m1 m2 m3 m4 ⊢
  obtain ⟨E, hE⟩ : ∃ E, keptE s p = E := ⟨_, rfl⟩
  rw [hE] at kp kz m1 m2 m3 m4
  refine pureFn_by Tryz.func11 k11 rfl rfl ?_
  conv => whnf
  refine ⟨_, kp, ?_⟩
  conv => whnf
  cases c0 : decide (E = 0)
  · have h1 := of_decide_eq_false c0
    rw [m1 h1]
    conv => whnf
    kernel_rfl
  · have h1 := of_decide_eq_true c0
    obtain ⟨h, po, hkeep⟩ := kz h1
    have hno := h.no
    have hdy := h.days
    subst h1
    conv => whnf
    cases c1 : decide (((l.map cellsB).length : Int) = ((s.cols.map pairsL).length : Int))
    · have h2 : l.length ≠ s.cols.length := by have := of_decide_eq_false c1; rw [List.length_map, List.length_map] at this; omega
      rw [m2 rfl h2]
      conv => whnf
      kernel_rfl
    · have h2 : l.length = s.cols.length := by have := of_decide_eq_true c1; rw [List.length_map, List.length_map] at this; omega
      have m3 := m3 rfl h2
      have m4 := m4 rfl h2
      obtain ⟨G, hG⟩ : ∃ G, glassesE l = G := ⟨_, rfl⟩
      rw [hG] at m3 m4 gg
      conv => whnf
      refine loopB (fun (x : Int × (List (List D) × Nat) × (List (List D) × Nat)) => ⟨mkT [(1, .d (planD p)), (2, .d (batsD l)), (3, .d (.fptr (cellsS s))), (9, .row 1 0 x.2.1.2 x.2.1.2), (10, .row 2 0 x.2.2.2 x.2.2.2), (11, .d (int x.1))], mkB [(1, .row 1 x.2.1.1), (2, .row 1 x.2.2.1)]⟩)
        (fun x => ∃ k : Nat, x.1 = k ∧ k ≤ l.length ∧ (x.2.1.1 = ((l.take k).map fun b => i1 (glassF b).1) ∧ x.2.1.2 = x.2.1.1.length) ∧ (x.2.2.1 = ((l.take k).map fun b => i1 (glassF b).2) ∧ x.2.2.2 = x.2.2.1.length) ∧ glassesE (l.drop k) = G) (fun x => (l.length - x.1).toNat) (0, ([], 0), ([], 0)) (by kernel_rfl) ⟨0, rfl, by omega, ⟨rfl, rfl⟩, ⟨rfl, rfl⟩, hG⟩ ?_
      rintro ⟨_, ⟨els1, n1⟩, ⟨els2, n2⟩⟩ ⟨k, rfl, hk, ⟨he1, hn1⟩, ⟨he2, hn2⟩, hg⟩
      simp only at he1 hn1 he2 hn2 hg
      have hel1 : els1.length = k := by rw [he1]; simp; omega
      have hel2 : els2.length = k := by rw [he2]; simp; omega
      conv => whnf
      cases q1 : decide ((k : Int) < ((l.map cellsB).length : Int))
      · have hk' : k = l.length := by have := of_decide_eq_false q1; rw [List.length_map] at this; omega
        rw [hk', drop_end] at hg
        have hg : 0 = G := hg
        subst hg
        rw [m4 rfl]
        have hgg := gg rfl
        rw [hk', List.take_length] at he1 he2
        obtain ⟨gs, hgs⟩ : ∃ gs, l.map glassF = gs := ⟨_, rfl⟩
        have hgs2 : ∀ g ∈ gs, Gg g := fun g hg => by
          rw [← hgs] at hg
          obtain ⟨b, hb2, rfl⟩ := List.mem_map.1 hg
          exact (hgg b hb2).1
        have hgl : gs.length = s.cols.length := by rw [← hgs, List.length_map]; exact h2
        have he1 : els1 = gs.map fun g => i1 g.1 := by rw [he1, ← hgs, List.map_map]; rfl
        have he2 : els2 = gs.map fun g => i1 g.2 := by rw [he2, ← hgs, List.map_map]; rfl
        rw [hgs]
        conv => whnf
        refine loopB (fun (x : Int × Int) => ⟨mkT [(1, .d (planD p)), (3, .d (.fptr (cellsS s))), (9, .row 1 0 n1 n1), (10, .row 2 0 n2 n2), (19, .d (int x.2)), (20, .d (int x.1))], mkB [(1, .row 1 els1), (2, .row 1 els2)]⟩)
          (fun x => ∃ k : Nat, x.1 = k ∧ k ≤ s.ovens.length ∧ x.2 = sumTo (ovenM s p gs) k) (fun x => (s.ovens.length - x.1).toNat) (0, 0) (by kernel_rfl) ⟨0, rfl, by omega, rfl⟩ ?_
        clear hk hel1 hel2 q1 hk' k
        rintro ⟨_, acc⟩ ⟨k, rfl, hk, ha⟩
        simp only at ha
        conv => whnf
        cases q1 : decide ((k : Int) < ((s.ovens.map i2).length : Int))
        · have hk' : k = s.ovens.length := by have := of_decide_eq_false q1; rw [List.length_map] at this; omega
          have ha : acc = meltF s p gs := by rw [ha, hk']; rfl
          subst ha
          conv => whnf
          kernel_rfl
        · have hk' : k < s.ovens.length := by have := of_decide_eq_true q1; rw [List.length_map] at this; omega
          have mk := makers_ok' s h.sm (k : Int)
          have hml := Nat.le_trans (makersF_len s (k : Int)) h.nm
          have hab := meltF_bound h hkeep hgs2 hk
          have hmm : ∀ m ∈ makersF s (k : Int), 0 ≤ m ∧ m < s.makers.length := fun m hm => makersF_mem hm
          conv => whnf
          refine loopB (fun (x : Int × Int) => ⟨mkT [(1, .d (planD p)), (3, .d (.fptr (cellsS s))), (9, .row 1 0 n1 n1), (10, .row 2 0 n2 n2), (19, .d (int x.2)), (20, .d (int (k : Int))), (21, .d (int x.1))], mkB [(1, .row 1 els1), (2, .row 1 els2)]⟩)
            (fun x => ∃ d : Nat, x.1 = d ∧ (d : Int) ≤ s.days ∧ x.2 = acc + sumTo (termF s p gs k) d) (fun x => (s.days - x.1).toNat) (0, acc) (by kernel_rfl) ⟨0, rfl, by omega, by simp [sumTo]⟩ ?_
          rintro ⟨_, a2⟩ ⟨d, rfl, hd, ha2⟩
          simp only at ha2
          conv => whnf
          cases q2 : decide ((d : Int) < s.days)
          · have hd' : s.days.toNat = d := by have := of_decide_eq_false q2; omega
            conv => whnf
            exact ⟨(IntKind.wrap .i64 ((k : Int) + 1), a2), by kernel_rfl, ⟨k + 1, nx (by omega), by omega, by simp only [sumTo, ovenM]; rw [hd', ha2, ha]⟩, by simp only; rw [nx (by omega)]; omega⟩
          · have hd' := of_decide_eq_true q2
            have sh := shift_ok' s h p po (k : Int) (d : Int) hd'
            have r2 := onF_row h po hmm (by omega) hd'
            have co := colour_ok' s _ (by have := r2.small; omega) r2.arts
            have hcl := colF_lt h r2.arts
            have pu := pull_ok s h _ _ r2
            have hrb := ovenM_bound h hkeep hgs2 hk' (n := d) (by omega)
            have hpr := pull_range h hkeep hk' hd'
            have et : termF s p gs k d = if 0 ≤ colF s (onF s p (makersF s (k : Int)) (d : Int)) then termG (gs.getD (colF s (onF s p (makersF s (k : Int)) (d : Int))).toNat (0, 1000)) (pullF s (makersF s (k : Int)) (onF s p (makersF s (k : Int)) (d : Int))) else 0 := rfl
            unfold pullD at hpr
            obtain ⟨L, hL⟩ : ∃ L, onF s p (makersF s (k : Int)) (d : Int) = L := ⟨_, rfl⟩
            obtain ⟨ms, hms⟩ : ∃ ms, makersF s (k : Int) = ms := ⟨_, rfl⟩
            rw [hL] at sh r2 co hcl pu hpr et
            rw [hms] at mk r2 pu hpr et
            conv => whnf
            refine ⟨_, sh, ?_⟩
            conv => whnf
            refine ⟨_, co, ?_⟩
            conv => whnf
            cases c3 : decide (0 ≤ colF s L)
            · rw [if_neg (of_decide_eq_false c3)] at et
              conv => whnf
              exact ⟨(IntKind.wrap .i64 ((d : Int) + 1), a2), by kernel_rfl, ⟨d + 1, nx (by omega), by omega, by simp only [sumTo]; rw [et, ha2]; omega⟩, by simp only; rw [nx (by omega)]; omega⟩
            · have h5 := of_decide_eq_true c3
              rw [if_pos h5] at et
              obtain ⟨c, hc⟩ : ∃ c, colF s L = c := ⟨_, rfl⟩
              rw [hc] at et hcl h5
              obtain ⟨g, hgx⟩ := get_lt (xs := gs) (i := c.toNat) (by omega)
              have hg := hgs2 g (List.mem_of_getElem? hgx)
              have hg0 := hg.g0
              rw [getD_of hgx] at et
              have hst := melt_step' (acc := a2) hg (by omega) (by omega) hpr.1 hpr.2
              rw [← et] at hst
              have hgx1 : els1[0 + (colF s L).toNat]? = some (i1 g.1) := by rw [hc, Nat.zero_add, he1]; exact gz hgx
              have hgx2 : els2[0 + (colF s L).toNat]? = some (i1 g.2) := by rw [hc, Nat.zero_add, he2]; exact gz hgx
              have hl1 : els1.length = s.cols.length := by rw [he1, List.length_map, hgl]
              have hl2 : els2.length = s.cols.length := by rw [he2, List.length_map, hgl]
              conv => whnf
              refine ⟨_, mk, ?_⟩
              conv => whnf
              refine ⟨_, pu, ?_⟩
              conv => whnf
              refine ⟨by omega, by omega, by omega, ?_⟩
              conv => whnf
              refine ⟨by omega, _, hgx2, ?_⟩
              conv => whnf
              refine ⟨by omega, by omega, by omega, ?_⟩
              conv => whnf
              refine ⟨by omega, _, hgx2, ?_⟩
              conv => whnf
              refine ⟨by omega, ?_⟩
              conv => whnf
              refine ⟨by omega, by omega, by omega, ?_⟩
              conv => whnf
              refine ⟨by omega, _, hgx1, ?_⟩
              conv => whnf
              exact ⟨(IntKind.wrap .i64 ((d : Int) + 1), IntKind.wrap .i64 (a2 + IntKind.wrap .i64 (IntKind.wrap .i64 ((IntKind.wrap .i64 (IntKind.wrap .i64 (IntKind.wrap .i64 (1000 * pullF s ms L) + g.2) - 1)).tdiv g.2) * g.1))), by kernel_rfl, ⟨d + 1, nx (by omega), by omega, by simp only [sumTo]; rw [hst, ha2]; omega⟩, by simp only; rw [nx (by omega)]; omega⟩
      · have hk' : k < l.length := by have := of_decide_eq_true q1; rw [List.length_map] at this; omega
        obtain ⟨b, hbx⟩ := get_lt hk'
        have sb := hb b (List.mem_of_getElem? hbx)
        rw [drop_at hbx, glassesE] at hg
        have htk : l.take (k + 1) = l.take k ++ [b] := by rw [List.take_add_one, hbx]; rfl
        conv => whnf
        refine ⟨by omega, _, (by first | exact gm (by assumption) | exact gz (by assumption)), ?_⟩
        conv => whnf
        refine ⟨_, bestS_ok b sb, ?_⟩
        cases c2 : decide (bestE b = 0)
        · have h2 := of_decide_eq_false c2
          have hge : glassE b = bestE b := by unfold glassE; rw [if_pos h2]
          rw [hge, if_pos h2] at hg
          rw [top_err h2]
          conv => whnf
          rw [c2]
          rw [hg] at h2 ⊢
          rw [m3 h2]
          conv => whnf
          kernel_rfl
        · have h3 := of_decide_eq_true c2
          cases c3 : (bestR b).2.2
          · have hge : glassE b = 7 := by unfold glassE; rw [if_neg (by omega), c3]; simp
            rw [hge, if_pos (by decide)] at hg
            rw [top_none h3 c3, m3 (by omega), ← hg]
            conv => whnf
            kernel_rfl
          · have hge : glassE b = 0 := by unfold glassE; rw [if_neg (by omega), c3]; simp
            rw [hge, if_neg (by decide)] at hg
            rw [top_some h3 c3]
            have hz := best_zero h3
            have hbf := bf_of sb hz.1
            have gl := gl_of hbf c3
            have hgr := gl.rok
            have hhi := gl.high
            have hgl := gramsF_len hbf (bestR b).1
            have hno := hbf.no
            have hgb : ∀ o ∈ gramsF b (bestR b).1, 0 ≤ o.1 := fun o ho => (gramsL_b (ms := b.mats) (r := (bestR b).1) (out := List.replicate b.oxides.length (0, 0)) (B := 0) (fun m hm => (hbf.mat m hm).2.2.2.2.2.2.2.2.2.2.1) hgr.el (by decide) (fun o ho => by rw [List.eq_of_mem_replicate ho]; simp) o ho).1
            have hsum : lowSum (gramsF b (bestR b).1) ≤ 1440000000 := by have h8 : (glassF b).2 = lowSum (gramsF b (bestR b).1) := rfl; omega
            have eg : glassF b = ((glassF b).1, lowSum (gramsF b (bestR b).1)) := rfl
            conv => whnf
            refine ⟨rfl, rfl, hn1, most_le (by simp; omega), ?_⟩
            conv => whnf
            refine ⟨by omega, _, (by first | exact gm (by assumption) | exact gz (by assumption)), ?_⟩
            conv => whnf
            refine ⟨_, gramsR_ok b hbf _ gl.rok, ?_⟩
            obtain ⟨gs, hgs⟩ : ∃ gs, gramsF b (bestR b).1 = gs := ⟨_, rfl⟩
            rw [hgs] at hsum hhi hgb eg hgl ⊢
            conv => whnf
            refine loopB (fun (x : Int × Int) => ⟨mkT [(1, .d (planD p)), (2, .d (batsD l)), (3, .d (.fptr (cellsS s))), (9, .row 1 0 (els1.length + 1) (els1.length + 1)), (10, .row 2 0 n2 n2), (11, .d (int (k : Int))), (16, .d (pairsD gs)), (17, .d (int x.2)), (18, .d (int x.1))], mkB [(1, .row 1 (els1 ++ [i1 (glassF b).1])), (2, .row 1 els2)]⟩)
              (fun x => ∃ j : Nat, x.1 = j ∧ j ≤ gs.length ∧ x.2 + lowSum (gs.drop j) = lowSum gs ∧ 0 ≤ x.2) (fun x => (gs.length - x.1).toNat) (0, 0) (by kernel_rfl) ⟨0, rfl, by omega, by simp, by decide⟩ ?_
            rintro ⟨_, acc⟩ ⟨j, rfl, hj, ha, ha0⟩
            simp only at ha ha0
            conv => whnf
            cases q1 : decide ((j : Int) < ((gs.map i2).length : Int))
            · have hj' : j = gs.length := by have := of_decide_eq_false q1; rw [List.length_map] at this; omega
              rw [hj', drop_end] at ha
              have ha : acc = lowSum gs := by simpa [lowSum] using ha
              subst ha
              conv => whnf
              refine ⟨rfl, rfl, hn2, most_le (by simp; omega), ?_⟩
              conv => whnf
              exact ⟨(IntKind.wrap .i64 ((k : Int) + 1), (els1 ++ [i1 (glassF b).1], els1.length + 1), (els2 ++ [i1 (lowSum gs)], els2.length + 1)), by kernel_rfl, ⟨k + 1, nx (by omega), by omega, ⟨by rw [he1, htk, List.map_append]; rfl, by simp⟩, ⟨by rw [he2, htk, List.map_append, List.map_cons, eg]; rfl, by simp⟩, hg⟩, by simp only; rw [nx (by omega)]; omega⟩
            · have hj' : j < gs.length := by have := of_decide_eq_true q1; rw [List.length_map] at this; omega
              obtain ⟨o, ho⟩ := get_lt hj'
              have hob := hgb o (List.mem_of_getElem? ho)
              rw [lowSum_at ho] at ha
              have hrest : 0 ≤ lowSum (gs.drop (j + 1)) := (low_nonneg fun x hx => hgb x (List.mem_of_mem_drop hx))
              have ew : IntKind.wrap .i64 (acc + o.1) = acc + o.1 := wr_eq (by omega)
              conv => whnf
              refine ⟨by omega, _, (by first | exact gm (by assumption) | exact gz (by assumption)), ?_⟩
              conv => whnf
              exact ⟨(IntKind.wrap .i64 ((j : Int) + 1), IntKind.wrap .i64 (acc + o.1)), by kernel_rfl, ⟨j + 1, nx (by omega), by omega, by simp only; rw [ew]; omega, by simp only; rw [ew]; omega⟩, by simp only; rw [nx (by omega)]; omega⟩
end Go.Proofs.YtalbkamkkceanaaGreatG
