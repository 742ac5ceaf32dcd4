/- What the glass of a plan costs is between two bounds. No condition. -/
import Derived.Test.YtalbkamkkceanaaGreatB26
import Derived.Test.YtalbkamkkceanaaGreatGC
set_option linter.unusedVariables false
set_option linter.unusedSimpArgs false
set_option maxRecDepth 100000
set_option maxHeartbeats 4000000
namespace Go.Proofs.YtalbkamkkceanaaGreatG
open Go Go.AM Go.Proofs

theorem int_self (n : Int) : decide (n = n) = true := decide_eq_true rfl
theorem melt_zero {s : Season} {p : List (List Int)} {l : List Bat} (h : meltE s p l = 0) : keptE s p = 0 ∧ l.length = s.cols.length ∧ glassesE l = 0 := by
  unfold meltE at h
  split at h
  · rename_i h1; exact absurd h h1
  · rename_i h1
    split at h
    · simp at h
    · rename_i h2; exact ⟨by omega, by omega, h⟩
theorem high_nonneg : ∀ {l : List (Int × Int)}, (∀ o ∈ l, 0 ≤ o.2) → 0 ≤ highSum l
  | [], _ => by simp [highSum]
  | x :: l, h => by
    have := high_nonneg (l := l) (fun o ho => h o (by simp [ho]))
    have := h x (by simp)
    rw [highSum_cons]; omega
theorem lo_step {b : Bat} (gl : Gl b) {acc q : Int} (ha : 0 ≤ acc) (ha2 : acc ≤ 500000000000000000) (h0 : 0 ≤ q) (h1 : q ≤ 1000000) :
    IntKind.wrap .i64 (acc + IntKind.wrap .i64 (IntKind.wrap .i64 ((IntKind.wrap .i64 (1000 * q)).tdiv (hiG b)) * (glassF b).1)) = acc + loT b q := by
  have lr := lo_le gl h0 h1
  have hl := gl.low
  have hh := gl.high
  have d2 := div_anti (x := 1000 * q) (g := (glassF b).2) (m := hiG b) (by omega) (by omega) hh.1
  have d0 : 0 ≤ 1000 * q / hiG b := Int.ediv_nonneg (by omega) (by unfold hiG; omega)
  have d3 : 1000 * q / (glassF b).2 < 1000001 := Int.ediv_lt_of_lt_mul (by omega) (by omega)
  rw [wr64 (show -9223372036854775808 ≤ 1000 * q ∧ 1000 * q ≤ 9223372036854775807 by omega), Int.tdiv_eq_ediv_of_nonneg (show 0 ≤ 1000 * q by omega)]
  rw [wr64 (show -9223372036854775808 ≤ 1000 * q / hiG b ∧ 1000 * q / hiG b ≤ 9223372036854775807 by omega)]
  unfold loT at lr ⊢
  rw [wr64 (show -9223372036854775808 ≤ 1000 * q / hiG b * (glassF b).1 ∧ 1000 * q / hiG b * (glassF b).1 ≤ 9223372036854775807 by omega)]
  exact wr64 (by omega)
theorem hi_step {b : Bat} (gl : Gl b) {acc q : Int} (ha : 0 ≤ acc) (ha2 : acc ≤ 500000000000000000) (h0 : 0 ≤ q) (h1 : q ≤ 1000000) :
    IntKind.wrap .i64 (acc + IntKind.wrap .i64 (IntKind.wrap .i64 (IntKind.wrap .i64 ((IntKind.wrap .i64 (1000 * q)).tdiv (glassF b).2) + 1) * (glassF b).1)) = acc + hiT b q := by
  have lr := lo_le gl h0 h1
  have hl := gl.low
  have d0 : 0 ≤ 1000 * q / (glassF b).2 := Int.ediv_nonneg (by omega) (by omega)
  have d3 : 1000 * q / (glassF b).2 < 1000001 := Int.ediv_lt_of_lt_mul (by omega) (by omega)
  rw [wr64 (show -9223372036854775808 ≤ 1000 * q ∧ 1000 * q ≤ 9223372036854775807 by omega), Int.tdiv_eq_ediv_of_nonneg (show 0 ≤ 1000 * q by omega)]
  rw [wr64 (show -9223372036854775808 ≤ 1000 * q / (glassF b).2 ∧ 1000 * q / (glassF b).2 ≤ 9223372036854775807 by omega)]
  rw [wr64 (show -9223372036854775808 ≤ 1000 * q / (glassF b).2 + 1 ∧ 1000 * q / (glassF b).2 + 1 ≤ 9223372036854775807 by omega)]
  unfold hiT at lr ⊢
  rw [wr64 (show -9223372036854775808 ≤ (1000 * q / (glassF b).2 + 1) * (glassF b).1 ∧ (1000 * q / (glassF b).2 + 1) * (glassF b).1 ≤ 9223372036854775807 by omega)]
  exact wr64 (by omega)
@[reducible] def lawB (s : Season) (x : Ask) (l : List Bat) (n lo hi : Int) : List (Nat × AC) := [(2, .d (batsD l)), (3, .d (.fptr (cellsS s))), (4, .d (.fptr (askL x))), (7, .d (int n)), (9, .d (planD (pullsF s x.plan))), (10, .d (int lo)), (11, .d (int hi))]
theorem charges_law (s : Season) (x : Ask) (l : List Bat) : PureFn Tryz.prog 4 [seasonD s, askD x, batsD l] (boolD true) := by
  have gk := great_ok s
  have wk := wide_ok x
  have mk := melted_ok l
  cases g : greatF s
  · rw [g] at gk
    cases w : wideF x
    · rw [w] at wk
      cases m : meltedF l
      · rw [m] at mk
        obtain ⟨hs, h3⟩ := sm_of g
        obtain ⟨hp, ho, _⟩ := smp_of_wide w
        obtain ⟨hl, hb⟩ := meltedF_false m
        have p1 := melt_ok s hs x.plan hp l hl hb
        have p2 := Pulls_ok s hs x.plan hp
        by_cases hE : meltE s x.plan l = 0
        · obtain ⟨hz1, hz2, hz3⟩ := melt_zero hE
          rw [mt4 hz1 hz2 hz3] at p1
          unfold pullsTop at p2
          rw [hz1, if_pos rfl] at p2
          obtain ⟨h, po, hkeep⟩ := kept_zero hs hz1
          have hno := h.no
          have hdy := h.days
          have hnm := h.nm
          have hgl : ∀ b ∈ l, Gl b := fun b hb2 => (gg_all hb hz3 b hb2).2
          have bt := melt_between h po hkeep hz2 hgl
          have fl : ∀ b ∈ l, ∀ q, 0 ≤ q → q ≤ 1000000 → 0 ≤ loT b q ∧ loT b q ≤ 2000000000000000 := fun b hb2 q h0 h1 => by have := lo_le (hgl b hb2) h0 h1; omega
          have fh : ∀ b ∈ l, ∀ q, 0 ≤ q → q ≤ 1000000 → 0 ≤ hiT b q ∧ hiT b q ≤ 2000000000000000 := fun b hb2 q h0 h1 => by have := lo_le (hgl b hb2) h0 h1; omega
          obtain ⟨n, hn⟩ : ∃ n, meltF s x.plan (l.map glassF) = n := ⟨_, rfl⟩
          rw [hn] at p1 bt
          have hpl : (pullsF s x.plan).length = s.ovens.length := by simp [pullsF]
          refine pureFn_by Tryz.func4 k4 rfl rfl ?_
          conv => whnf
          refine ⟨_, gk, ?_⟩
          conv => whnf
          refine ⟨_, wk, ?_⟩
          conv => whnf
          refine ⟨_, mk, ?_⟩
          conv => whnf
          refine ⟨_, p1, ?_⟩
          conv => whnf
          refine ⟨_, p2, ?_⟩
          conv => whnf
          refine loopB (fun (y : Int × Int × Int) => ⟨mkT (lawB s x l n y.2.1 y.2.2 ++ [(12, .d (int y.1))]), mkB []⟩)
            (fun y => ∃ k : Nat, y.1 = k ∧ k ≤ s.ovens.length ∧ y.2.1 = sumTo (ovenB loT s x.plan l) k ∧ y.2.2 = sumTo (ovenB hiT s x.plan l) k) (fun y => (s.ovens.length - y.1).toNat) (0, 0, 0) (by kernel_rfl) ⟨0, rfl, by omega, rfl, rfl⟩ ?_
          rintro ⟨_, lo, hi⟩ ⟨k, rfl, hk, hlo, hhi⟩
          simp only at hlo hhi
          conv => whnf
          cases q1 : decide ((k : Int) < (((pullsF s x.plan).map rowL).length : Int))
          · have hk' : k = s.ovens.length := by have := of_decide_eq_false q1; rw [List.length_map, hpl] at this; omega
            have e1 : lo = sumB loT s x.plan l := by rw [hlo, hk']; rfl
            have e2 : hi = sumB hiT s x.plan l := by rw [hhi, hk']; rfl
            have b1 : decide (lo ≤ n) = true := decide_eq_true (by omega)
            have b2 : decide (n ≤ hi) = true := decide_eq_true (by omega)
            conv => whnf
            rw [b1]
            conv => whnf
            rw [b2]
            conv => whnf
            refine ⟨_, lives_ok, ?_⟩
            conv => whnf
            kernel_rfl
          · have hk' : k < s.ovens.length := by have := of_decide_eq_true q1; rw [List.length_map, hpl] at this; omega
            have hrow : (pullsF s x.plan)[k]? = some (pullRow s x.plan k) := by unfold pullsF; simp [hk']
            have hrl : ((pullRow s x.plan k).length : Int) = s.days := by simp [pullRow]; omega
            have bl := sumB_bound h po hkeep hz2 fl hk
            have bh := sumB_bound h po hkeep hz2 fh hk
            conv => whnf
            refine loopB (fun (y : Int × Int × Int) => ⟨mkT (lawB s x l n y.2.1 y.2.2 ++ [(12, .d (int (k : Int))), (13, .d (int y.1))]), mkB []⟩)
              (fun y => ∃ d : Nat, y.1 = d ∧ (d : Int) ≤ s.days ∧ y.2.1 = lo + sumTo (ofB loT s x.plan l k) d ∧ y.2.2 = hi + sumTo (ofB hiT s x.plan l k) d) (fun y => (s.days - y.1).toNat) (0, lo, hi) (by kernel_rfl) ⟨0, rfl, by omega, by simp [sumTo], by simp [sumTo]⟩ ?_
            rintro ⟨_, lo2, hi2⟩ ⟨d, rfl, hd, hlo2, hhi2⟩
            simp only at hlo2 hhi2
            conv => whnf
            refine ⟨by omega, _, (by first | exact gm (by assumption) | exact gz (by assumption)), ?_⟩
            conv => whnf
            cases q2 : decide ((d : Int) < (((pullRow s x.plan k).map i1).length : Int))
            · have hd' : s.days.toNat = d := by have := of_decide_eq_false q2; rw [List.length_map, hrl] at this; omega
              conv => whnf
              exact ⟨(IntKind.wrap .i64 ((k : Int) + 1), lo2, hi2), by kernel_rfl, ⟨k + 1, nx (by omega), by omega, by simp only [sumTo, ovenB]; rw [hd', hlo2, hlo], by simp only [sumTo, ovenB]; rw [hd', hhi2, hhi]⟩, by simp only; rw [nx (by omega)]; omega⟩
            · have hd' : (d : Int) < s.days := by have := of_decide_eq_true q2; rw [List.length_map, hrl] at this; omega
              have b1 := ovenB_bound h po hkeep hz2 fl hk' hd
              have b2 := ovenB_bound h po hkeep hz2 fh hk' hd
              conv => whnf
              obtain ⟨c, hc⟩ : ∃ c, dayC s x.plan k d = c := ⟨_, rfl⟩
              refine loopB (fun (y : Int × Int) => ⟨mkT (lawB s x l n lo2 hi2 ++ [(12, .d (int (k : Int))), (13, .d (int (d : Int))), (14, .d (int y.2)), (15, .d (int y.1))]), mkB []⟩)
                (fun y => ∃ i : Nat, y.1 = i ∧ i ≤ s.makers.length ∧ ((y.2 = -1 ∧ ∀ (j : Nat) (M : Mk), j < i → s.makers[j]? = some M → M.oven = (k : Int) → cell x.plan (j : Int) (d : Int) < 0) ∨ (0 ≤ c ∧ y.2 = c))) (fun y => (s.makers.length - y.1).toNat) (0, -1) (by kernel_rfl) ⟨0, rfl, by omega, .inl ⟨rfl, fun j M hj => absurd hj (by omega)⟩⟩ ?_
              rintro ⟨_, v⟩ ⟨i, rfl, hi3, hv⟩
              simp only at hv
              conv => whnf
              cases q3 : decide ((i : Int) < ((s.makers.map mkL).length : Int))
              · have hi' : i = s.makers.length := by have := of_decide_eq_false q3; rw [List.length_map] at this; omega
                have hvc : v = c := by
                  rcases hv with ⟨h5, h6⟩ | h5
                  · have e := day_none (s := s) (p := x.plan) (k := k) (d := d) (fun j M hM ho' => h6 j M (by have := (List.getElem?_eq_some_iff.1 hM).1; omega) hM ho')
                    rw [hc] at e
                    omega
                  · exact h5.2
                clear hv
                subst hvc
                conv => whnf
                cases q4 : decide (v < 0)
                · have h4 := of_decide_eq_false q4
                  have hcl := day_cases h po (k := k) hd'
                  rw [hc] at hcl
                  obtain ⟨b, hbx⟩ := get_lt (xs := l) (i := v.toNat) (by omega)
                  have hbm := List.mem_of_getElem? hbx
                  have sb := hb b hbm
                  have gz1 := glass_zero (glasses_zero hz3 b hbm)
                  have gz2 := best_zero gz1.1
                  have gl := hgl b hbm
                  have hq := pull_range h hkeep hk' hd'
                  have ebl := ofB_some (f := loT) (s := s) (p := x.plan) (l := l) (k := k) (d := d) (b := b) (by rw [hc]; omega) (by rw [hc]; exact hbx)
                  have ebh := ofB_some (f := hiT) (s := s) (p := x.plan) (l := l) (k := k) (d := d) (b := b) (by rw [hc]; omega) (by rw [hc]; exact hbx)
                  have hqx : (pullRow s x.plan k)[d]? = some (pullD s x.plan (k : Int) d) := by unfold pullRow; rw [List.getElem?_map, List.getElem?_range (by omega)]; rfl
                  have bo := best_ok b sb
                  rw [top_some gz1.1 gz1.2] at bo
                  have go := gramsTop_ok b sb gz2.1 _ gl.rok
                  conv => whnf
                  refine ⟨by omega, _, gz hbx, ?_⟩
                  conv => whnf
                  refine ⟨_, bo, ?_⟩
                  conv => whnf
                  refine ⟨by omega, _, gz hbx, ?_⟩
                  conv => whnf
                  refine ⟨_, go, ?_⟩
                  conv => whnf
                  have hgr := gl.rok
                  have hhi := gl.high
                  have hlow := gl.low
                  have hcost := gl.cost
                  have hbf := bf_of sb gz2.1
                  have hgln := gramsF_len hbf (bestR b).1
                  have hno2 := hbf.no
                  have hgb : ∀ o ∈ gramsF b (bestR b).1, 0 ≤ o.1 ∧ o.1 ≤ o.2 := fun o ho => by have := gramsL_b (ms := b.mats) (r := (bestR b).1) (out := List.replicate b.oxides.length (0, 0)) (B := 0) (fun m hm => (hbf.mat m hm).2.2.2.2.2.2.2.2.2.2.1) hgr.el (by decide) (fun o ho => by rw [List.eq_of_mem_replicate ho]; simp) o ho; omega
                  have eg : (glassF b).2 = lowSum (gramsF b (bestR b).1) := rfl
                  have eh : hiG b = highSum (gramsF b (bestR b).1) := rfl
                  have lr := lo_le gl hq.1 hq.2
                  have st1 := lo_step (b := b) gl (acc := lo2) (q := pullD s x.plan (k : Int) d) (by omega) (by omega) hq.1 hq.2
                  have st2 := hi_step (b := b) gl (acc := hi2) (q := pullD s x.plan (k : Int) d) (by omega) (by omega) hq.1 hq.2
                  rw [← ebl] at st1
                  rw [← ebh] at st2
                  obtain ⟨gs, hgs⟩ : ∃ gs, gramsF b (bestR b).1 = gs := ⟨_, rfl⟩
                  rw [hgs] at hhi hgb eg eh hgln ⊢
                  refine loopB (fun (y : Int × Int × Int) => ⟨mkT (lawB s x l n lo2 hi2 ++ [(12, .d (int (k : Int))), (13, .d (int (d : Int))), (17, .d (int (glassF b).1)), (20, .d (pairsD gs)), (22, .d (int y.2.1)), (23, .d (int y.2.2)), (24, .d (int y.1))]), mkB []⟩)
                    (fun y => ∃ j : Nat, y.1 = j ∧ j ≤ gs.length ∧ y.2.1 + lowSum (gs.drop j) = lowSum gs ∧ y.2.2 + highSum (gs.drop j) = highSum gs ∧ 0 ≤ y.2.1 ∧ 0 ≤ y.2.2) (fun y => (gs.length - y.1).toNat) (0, 0, 0) (by kernel_rfl) ⟨0, rfl, by omega, by simp, by simp, by decide, by decide⟩ ?_
                  rintro ⟨_, a1, a2⟩ ⟨j, rfl, hj, hs1, hs2, ha1, ha2⟩
                  simp only at hs1 hs2 ha1 ha2
                  conv => whnf
                  cases q5 : decide ((j : Int) < ((gs.map i2).length : Int))
                  · have hj' : j = gs.length := by have := of_decide_eq_false q5; rw [List.length_map] at this; omega
                    rw [hj', drop_end] at hs1 hs2
                    have hs1 : a1 = (glassF b).2 := by rw [eg, ← hs1]; simp [lowSum]
                    have hs2 : a2 = hiG b := by rw [eh, ← hs2]; simp [highSum]
                    subst hs1 hs2
                    have z1 : decide ((glassF b).2 < 1) = false := decide_eq_false (by omega)
                    have z2 : decide (hiG b < (glassF b).2) = false := decide_eq_false (by omega)
                    conv => whnf
                    rw [z1]
                    conv => whnf
                    rw [z2]
                    conv => whnf
                    conv => whnf
                    refine ⟨by omega, _, (by first | exact gm (by assumption) | exact gz (by assumption)), ?_⟩
                    conv => whnf
                    refine ⟨by omega, _, (by first | exact gm (by assumption) | exact gz (by assumption)), ?_⟩
                    conv => whnf
                    refine ⟨by show hiG b ≠ 0; omega, ?_⟩
                    conv => whnf
                    refine ⟨by omega, _, (by first | exact gm (by assumption) | exact gz (by assumption)), ?_⟩
                    conv => whnf
                    refine ⟨by omega, _, (by first | exact gm (by assumption) | exact gz (by assumption)), ?_⟩
                    conv => whnf
                    refine ⟨by show (glassF b).2 ≠ 0; omega, ?_⟩
                    conv => whnf
                    exact ⟨(IntKind.wrap .i64 ((d : Int) + 1), IntKind.wrap .i64 (lo2 + IntKind.wrap .i64 (IntKind.wrap .i64 ((IntKind.wrap .i64 (1000 * pullD s x.plan (k : Int) d)).tdiv (hiG b)) * (glassF b).1)), IntKind.wrap .i64 (hi2 + IntKind.wrap .i64 (IntKind.wrap .i64 (IntKind.wrap .i64 ((IntKind.wrap .i64 (1000 * pullD s x.plan (k : Int) d)).tdiv (glassF b).2) + 1) * (glassF b).1))), by kernel_rfl, ⟨d + 1, nx (by omega), by omega, by simp only [sumTo]; rw [st1, hlo2]; omega, by simp only [sumTo]; rw [st2, hhi2]; omega⟩, by simp only; rw [nx (by omega)]; omega⟩
                  · have hj' : j < gs.length := by have := of_decide_eq_true q5; rw [List.length_map] at this; omega
                    obtain ⟨o, ho3⟩ := get_lt hj'
                    have hob := hgb o (List.mem_of_getElem? ho3)
                    rw [lowSum_at ho3] at hs1
                    rw [highSum_at ho3] at hs2
                    have hr1 : 0 ≤ lowSum (gs.drop (j + 1)) := (low_nonneg fun x hx => (hgb x (List.mem_of_mem_drop hx)).1)
                    have hr2 : 0 ≤ highSum (gs.drop (j + 1)) := (high_nonneg fun x hx => by have := hgb x (List.mem_of_mem_drop hx); omega)
                    have ew1 : IntKind.wrap .i64 (a1 + o.1) = a1 + o.1 := wr_eq (by omega)
                    have ew2 : IntKind.wrap .i64 (a2 + o.2) = a2 + o.2 := wr_eq (by omega)
                    conv => whnf
                    refine ⟨by omega, _, (by first | exact gm (by assumption) | exact gz (by assumption)), ?_⟩
                    conv => whnf
                    refine ⟨by omega, _, (by first | exact gm (by assumption) | exact gz (by assumption)), ?_⟩
                    conv => whnf
                    exact ⟨(IntKind.wrap .i64 ((j : Int) + 1), IntKind.wrap .i64 (a1 + o.1), IntKind.wrap .i64 (a2 + o.2)), by kernel_rfl, ⟨j + 1, nx (by omega), by omega, by simp only; rw [ew1]; omega, by simp only; rw [ew2]; omega, by simp only; rw [ew1]; omega, by simp only; rw [ew2]; omega⟩, by simp only; rw [nx (by omega)]; omega⟩
                · have h4 := of_decide_eq_true q4
                  have e : dayC s x.plan k d = -1 := by rcases day_cases h po (k := k) hd' with e | e <;> omega
                  conv => whnf
                  exact ⟨(IntKind.wrap .i64 ((d : Int) + 1), lo2, hi2), by kernel_rfl, ⟨d + 1, nx (by omega), by omega, by simp only [sumTo]; rw [ofB_none e, hlo2]; omega, by simp only [sumTo]; rw [ofB_none e, hhi2]; omega⟩, by simp only; rw [nx (by omega)]; omega⟩
              · have hi' : i < s.makers.length := by have := of_decide_eq_true q3; rw [List.length_map] at this; omega
                obtain ⟨M, hM⟩ := get_lt hi'
                obtain ⟨r, a, hr, hra, ec, ea1, ea2⟩ := cell_get po (m := (i : Int)) (d := (d : Int)) (by omega) (by omega)
                conv => whnf
                refine ⟨by omega, _, (by first | exact gm (by assumption) | exact gz (by assumption)), ?_⟩
                conv => whnf
                cases q4 : decide (M.oven = (k : Int))
                · have h4 := of_decide_eq_false q4
                  conv => whnf
                  refine ⟨(IntKind.wrap .i64 ((i : Int) + 1), v), by kernel_rfl, ⟨i + 1, nx (by omega), by omega, ?_⟩, by simp only; rw [nx (by omega)]; omega⟩
                  rcases hv with ⟨h5, h6⟩ | h5
                  · refine .inl ⟨h5, fun j M' hj hM' ho' => ?_⟩
                    rcases Nat.lt_or_ge j i with h7 | h7
                    · exact h6 j M' h7 hM' ho'
                    · have : j = i := by omega
                      subst this
                      rw [hM] at hM'
                      cases hM'
                      exact absurd ho' h4
                  · exact .inr h5
                · have h4 := of_decide_eq_true q4
                  conv => whnf
                  refine ⟨by omega, _, (by first | exact gm (by assumption) | exact gz (by assumption)), ?_⟩
                  conv => whnf
                  refine ⟨by omega, _, (by first | exact gm (by assumption) | exact gz (by assumption)), ?_⟩
                  conv => whnf
                  cases q5 : decide (0 ≤ a)
                  · have h5 := of_decide_eq_false q5
                    conv => whnf
                    refine ⟨(IntKind.wrap .i64 ((i : Int) + 1), v), by kernel_rfl, ⟨i + 1, nx (by omega), by omega, ?_⟩, by simp only; rw [nx (by omega)]; omega⟩
                    rcases hv with ⟨h8, h6⟩ | h8
                    · refine .inl ⟨h8, fun j M' hj hM' ho' => ?_⟩
                      rcases Nat.lt_or_ge j i with h7 | h7
                      · exact h6 j M' h7 hM' ho'
                      · have : j = i := by omega
                        subst this
                        rw [ec]
                        omega
                    · exact .inr h8
                  · have h5 := of_decide_eq_true q5
                    have hdc := day_col h hkeep hk' hd' hM h4 (by rw [ec]; exact h5)
                    rw [ec, hc] at hdc
                    obtain ⟨A, hA, eA, _⟩ := art_get h5 ea2
                    have hAb := h.art A (List.mem_of_getElem? hA)
                    conv => whnf
                    refine ⟨by omega, _, (by first | exact gm (by assumption) | exact gz (by assumption)), ?_⟩
                    conv => whnf
                    refine ⟨by omega, _, (by first | exact gm (by assumption) | exact gz (by assumption)), ?_⟩
                    conv => whnf
                    refine ⟨by omega, _, (by first | exact gm (by assumption) | exact gz (by assumption)), ?_⟩
                    conv => whnf
                    exact ⟨(IntKind.wrap .i64 ((i : Int) + 1), A.colour), by kernel_rfl, ⟨i + 1, nx (by omega), by omega, .inr ⟨by omega, by simp only; omega⟩⟩, by simp only; rw [nx (by omega)]; omega⟩
        · have e1 : meltTop s x.plan l = .tup [int 0, int (meltE s x.plan l)] := by unfold meltTop; rw [if_neg hE]
          rw [e1] at p1
          obtain ⟨E, hE2⟩ : ∃ E, meltE s x.plan l = E := ⟨_, rfl⟩
          rw [hE2] at p1 hE
          have h0 : decide (E = 0) = false := decide_eq_false hE
          refine pureFn_by Tryz.func4 k4 rfl rfl ?_
          conv => whnf
          refine ⟨_, gk, ?_⟩
          conv => whnf
          refine ⟨_, wk, ?_⟩
          conv => whnf
          refine ⟨_, mk, ?_⟩
          conv => whnf
          refine ⟨_, p1, ?_⟩
          conv => whnf
          rw [h0]
          conv => whnf
          refine ⟨_, lives_ok, ?_⟩
          conv => whnf
          kernel_rfl
      · rw [m] at mk
        refine pureFn_by Tryz.func4 k4 rfl rfl ?_
        conv => whnf
        refine ⟨_, gk, ?_⟩
        conv => whnf
        refine ⟨_, wk, ?_⟩
        conv => whnf
        refine ⟨_, mk, ?_⟩
        conv => whnf
        refine ⟨_, lives_ok, ?_⟩
        conv => whnf
        kernel_rfl
    · rw [w] at wk
      refine pureFn_by Tryz.func4 k4 rfl rfl ?_
      conv => whnf
      refine ⟨_, gk, ?_⟩
      conv => whnf
      refine ⟨_, wk, ?_⟩
      conv => whnf
      refine ⟨_, lives_ok, ?_⟩
      conv => whnf
      kernel_rfl
  · rw [g] at gk
    refine pureFn_by Tryz.func4 k4 rfl rfl ?_
    conv => whnf
    refine ⟨_, gk, ?_⟩
    conv => whnf
    refine ⟨_, lives_ok, ?_⟩
    conv => whnf
    kernel_rfl
end Go.Proofs.YtalbkamkkceanaaGreatG
