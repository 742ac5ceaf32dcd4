/- What the glass of a plan costs. No condition. -/
import Derived.Test.YtalbkamkkceanaaGreatB22
set_option linter.unusedVariables false
set_option linter.unusedSimpArgs false
set_option maxRecDepth 100000
set_option maxHeartbeats 4000000
namespace Go.Proofs.YtalbkamkkceanaaGreatG
open Go Go.AM Go.Proofs

def sumTo (f : Nat → Int) : Nat → Int
  | 0 => 0
  | n + 1 => sumTo f n + f n
theorem sumTo_bound {f : Nat → Int} {T : Int} : ∀ {n : Nat}, (∀ i, i < n → 0 ≤ f i ∧ f i ≤ T) → 0 ≤ sumTo f n ∧ sumTo f n ≤ n * T
  | 0, _ => by simp [sumTo]
  | n + 1, h => by
    have ih := sumTo_bound (n := n) (fun i hi => h i (by omega))
    have := h n (by omega)
    simp only [sumTo]
    rw [show ((n + 1 : Nat) : Int) * T = (n : Int) * T + T by push_cast; rw [Int.add_mul]; omega]
    omega
/-- A best recipe's cost and grams are not large, and the grams not small. -/
structure Gg (g : Int × Int) : Prop where
  c0 : 0 ≤ g.1
  c1 : g.1 ≤ 1200000000
  g0 : 1000 ≤ g.2
  g1 : g.2 ≤ 1440000000
def termG (g : Int × Int) (q : Int) : Int := g.1 * ((1000 * q + g.2 - 1) / g.2)
theorem quo_bound {g : Int × Int} (hg : Gg g) {q : Int} (h0 : 0 ≤ q) (h1 : q ≤ 1000000) : 0 ≤ (1000 * q + g.2 - 1) / g.2 ∧ (1000 * q + g.2 - 1) / g.2 ≤ 1000001 := by
  have := hg.g0
  refine ⟨Int.ediv_nonneg (by omega) (by omega), ?_⟩
  have : (1000 * q + g.2 - 1) / g.2 < 1000002 := Int.ediv_lt_of_lt_mul (by omega) (by omega)
  omega
theorem termG_bound {g : Int × Int} (hg : Gg g) {q : Int} (h0 : 0 ≤ q) (h1 : q ≤ 1000000) : 0 ≤ termG g q ∧ termG g q ≤ 2000000000000000 := by
  have h := quo_bound hg h0 h1
  have := hg.c0
  have := hg.c1
  unfold termG
  refine ⟨Int.mul_nonneg hg.c0 h.1, ?_⟩
  have : g.1 * ((1000 * q + g.2 - 1) / g.2) ≤ 1200000000 * 1000001 := Int.mul_le_mul hg.c1 h.2 h.1 (by decide)
  omega
def dayC (s : Season) (p : List (List Int)) (k : Nat) (d : Nat) : Int := colF s (onF s p (makersF s (k : Int)) (d : Int))
def termF (s : Season) (p : List (List Int)) (gs : List (Int × Int)) (k d : Nat) : Int := if 0 ≤ dayC s p k d then termG (gs.getD (dayC s p k d).toNat (0, 1000)) (pullD s p (k : Int) d) else 0
def ovenM (s : Season) (p : List (List Int)) (gs : List (Int × Int)) (k : Nat) : Int := sumTo (termF s p gs k) s.days.toNat
def meltF (s : Season) (p : List (List Int)) (gs : List (Int × Int)) : Int := sumTo (ovenM s p gs) s.ovens.length
def meltE (s : Season) (p : List (List Int)) (l : List Bat) : Int := if keptE s p ≠ 0 then keptE s p else if l.length ≠ s.cols.length then 1 else glassesE l
def meltTop (s : Season) (p : List (List Int)) (l : List Bat) : D := .tup [if meltE s p l = 0 then int (meltF s p (l.map glassF)) else int 0, int (meltE s p l)]
theorem pull_range {s : Season} (h : Fr s) {p : List (List Int)} (hp : keepsF s p = true) {k d : Nat} (hk : k < s.ovens.length) (hd : (d : Int) < s.days) : 0 ≤ pullD s p (k : Int) d ∧ pullD s p (k : Int) d ≤ 1000000 := by
  unfold keepsF at hp
  rw [List.all_eq_true] at hp
  have h1 := hp k (by simp [hk])
  unfold keepK at h1
  rw [List.all_eq_true] at h1
  have h2 := h1 d (by simp; omega)
  unfold fitD fitsF at h2
  rw [Bool.and_eq_true] at h2
  have h3 := h2.2
  obtain ⟨o, ho⟩ := get_lt hk
  have hob := h.oven o (List.mem_of_getElem? ho)
  have eo : ovenA s (k : Int) = o := by unfold ovenA; rw [Int.toNat_natCast, ho]; rfl
  rw [eo] at h3
  unfold withinF at h3
  simp only [Bool.and_eq_true, decide_eq_true_eq] at h3
  unfold pullD
  omega
theorem gg_all {l : List Bat} (hs : ∀ b ∈ l, Sb b) (h : glassesE l = 0) : ∀ b ∈ l, Gg (glassF b) ∧ Gl b := fun b hb => by
  have hz := glass_zero (glasses_zero h b hb)
  have hz2 := best_zero hz.1
  have gl := gl_of (bf_of (hs b hb) hz2.1) hz.2
  have := gl.high
  exact ⟨⟨gl.cost.1, gl.cost.2, gl.low, by omega⟩, gl⟩
theorem termF_bound {s : Season} (h : Fr s) {p : List (List Int)} (hp : keepsF s p = true) {gs : List (Int × Int)} (hg : ∀ g ∈ gs, Gg g) {k : Nat} (hk : k < s.ovens.length) {d : Nat} (hd : (d : Int) < s.days) : 0 ≤ termF s p gs k d ∧ termF s p gs k d ≤ 2000000000000000 := by
  unfold termF
  split
  · have hq := pull_range h hp hk hd
    refine termG_bound ?_ hq.1 hq.2
    cases e : gs[(dayC s p k d).toNat]? with
    | none => rw [List.getD, e]; exact ⟨by decide, by decide, by decide, by decide⟩
    | some g => rw [getD_of e]; exact hg g (List.mem_of_getElem? e)
  · omega
theorem ovenM_bound {s : Season} (h : Fr s) {p : List (List Int)} (hp : keepsF s p = true) {gs : List (Int × Int)} (hg : ∀ g ∈ gs, Gg g) {k : Nat} (hk : k < s.ovens.length) {n : Nat} (hn : (n : Int) ≤ s.days) : 0 ≤ sumTo (termF s p gs k) n ∧ sumTo (termF s p gs k) n ≤ 28000000000000000 := by
  have hd := h.days
  have := sumTo_bound (n := n) (fun i hi => termF_bound h hp hg hk (d := i) (by omega))
  omega
theorem meltF_bound {s : Season} (h : Fr s) {p : List (List Int)} (hp : keepsF s p = true) {gs : List (Int × Int)} (hg : ∀ g ∈ gs, Gg g) {n : Nat} (hn : n ≤ s.ovens.length) : 0 ≤ sumTo (ovenM s p gs) n ∧ sumTo (ovenM s p gs) n ≤ 90000000000000000 := by
  have ho := h.no
  have hd := h.days
  have := sumTo_bound (n := n) (f := ovenM s p gs) (fun i hi => ovenM_bound h hp hg (k := i) (by omega) (n := s.days.toNat) (by omega))
  omega
theorem wr64 {n : Int} (h : -9223372036854775808 ≤ n ∧ n ≤ 9223372036854775807) : IntKind.wrap .i64 n = n := IntWalk.i64_in n (by omega)
theorem melt_step {acc D : Int} {g : Int × Int} (hg : Gg g) (ha : 0 ≤ acc) (ha2 : acc ≤ 500000000000000000) (h0 : 0 ≤ D.tdiv 10000) (h1 : D.tdiv 10000 ≤ 1000000) :
    IntKind.wrap .i64 (acc + IntKind.wrap .i64 (g.1 * IntKind.wrap .i64 ((IntKind.wrap .i64 (IntKind.wrap .i64 (IntKind.wrap .i64 (IntKind.wrap .i64 (D.tdiv 10000) * 1000) + g.2) - 1)).tdiv g.2))) = acc + termG g (D.tdiv 10000) := by
  have hg0 := hg.g0
  have hg1 := hg.g1
  have hq := quo_bound hg h0 h1
  have ht := termG_bound hg h0 h1
  rw [wr64 (show -9223372036854775808 ≤ D.tdiv 10000 ∧ D.tdiv 10000 ≤ 9223372036854775807 by omega)]
  rw [wr64 (show -9223372036854775808 ≤ D.tdiv 10000 * 1000 ∧ D.tdiv 10000 * 1000 ≤ 9223372036854775807 by omega)]
  rw [wr64 (show -9223372036854775808 ≤ D.tdiv 10000 * 1000 + g.2 ∧ D.tdiv 10000 * 1000 + g.2 ≤ 9223372036854775807 by omega)]
  rw [wr64 (show -9223372036854775808 ≤ D.tdiv 10000 * 1000 + g.2 - 1 ∧ D.tdiv 10000 * 1000 + g.2 - 1 ≤ 9223372036854775807 by omega)]
  rw [Int.tdiv_eq_ediv_of_nonneg (show 0 ≤ D.tdiv 10000 * 1000 + g.2 - 1 by omega), show D.tdiv 10000 * 1000 = 1000 * D.tdiv 10000 by omega]
  rw [wr64 (show -9223372036854775808 ≤ (1000 * D.tdiv 10000 + g.2 - 1) / g.2 ∧ (1000 * D.tdiv 10000 + g.2 - 1) / g.2 ≤ 9223372036854775807 by omega)]
  unfold termG at ht ⊢
  rw [wr64 (show -9223372036854775808 ≤ g.1 * ((1000 * D.tdiv 10000 + g.2 - 1) / g.2) ∧ g.1 * ((1000 * D.tdiv 10000 + g.2 - 1) / g.2) ≤ 9223372036854775807 by omega)]
  exact wr_eq (by omega)
theorem mt1 {s : Season} {p : List (List Int)} {l : List Bat} (h : keptE s p ≠ 0) : meltTop s p l = .tup [int 0, int (keptE s p)] := by
  unfold meltTop meltE; simp only [if_pos h, if_neg h]
theorem mt2 {s : Season} {p : List (List Int)} {l : List Bat} (h : keptE s p = 0) (h2 : l.length ≠ s.cols.length) : meltTop s p l = .tup [int 0, int 1] := by
  have e : meltE s p l = 1 := by unfold meltE; rw [if_neg (by omega), if_pos h2]
  unfold meltTop; rw [e]; rfl
theorem mt3 {s : Season} {p : List (List Int)} {l : List Bat} (h : keptE s p = 0) (h2 : l.length = s.cols.length) (h3 : glassesE l ≠ 0) : meltTop s p l = .tup [int 0, int (glassesE l)] := by
  have e : meltE s p l = glassesE l := by unfold meltE; rw [if_neg (by omega), if_neg (by omega)]
  unfold meltTop; rw [e, if_neg h3]
theorem mt4 {s : Season} {p : List (List Int)} {l : List Bat} (h : keptE s p = 0) (h2 : l.length = s.cols.length) (h3 : glassesE l = 0) : meltTop s p l = .tup [int (meltF s p (l.map glassF)), int 0] := by
  have e : meltE s p l = 0 := by unfold meltE; rw [if_neg (by omega), if_neg (by omega), h3]
  unfold meltTop; rw [e]; rfl
theorem melt_ok (s : Season) (hs : Sm s) (p : List (List Int)) (hp : SmP p) (l : List Bat) (hl : l.length ≤ 4) (hb : ∀ b ∈ l, Sb b) : PureFn Tryz.prog 10 [seasonD s, planD p, batsD l] (meltTop s p l) := by
  have kp := kept_ok s hs p hp
  have kz := @kept_zero s hs p
  have gk := glasses_ok l hl hb
  have gg := @gg_all l hb
  have m1 := @mt1 s p l
  have m2 := @mt2 s p l
  have m3 := @mt3 s p l
  have m4 := @mt4 s p l
  obtain ⟨R, hR⟩ : ∃ R, meltTop s p l = R := ⟨_, rfl⟩
  rw [hR] at m1 m2 m3 m4 ⊢
  obtain ⟨E, hE⟩ : ∃ E, keptE s p = E := ⟨_, rfl⟩
  rw [hE] at kp kz m1 m2 m3 m4
  refine pureFn_by Tryz.func10 k10 rfl rfl ?_
  conv => whnf
  refine ⟨_, kp, ?_⟩
  conv => whnf
  cases c0 : decide (E = 0)
  · have h1 := of_decide_eq_false c0
    rw [m1 h1]
    conv => whnf
    kernel_rfl
  · have h1 := of_decide_eq_true c0
    obtain ⟨h, po, hkeep⟩ := kz h1
    have hno := h.no
    have hdy := h.days
    subst h1
    conv => whnf
    cases c1 : decide (((l.map cellsB).length : Int) = ((s.cols.map pairsL).length : Int))
    · have h2 : l.length ≠ s.cols.length := by have := of_decide_eq_false c1; rw [List.length_map, List.length_map] at this; omega
      rw [m2 rfl h2]
      conv => whnf
      kernel_rfl
    · have h2 : l.length = s.cols.length := by have := of_decide_eq_true c1; rw [List.length_map, List.length_map] at this; omega
      obtain ⟨G, hG⟩ : ∃ G, glassesE l = G := ⟨_, rfl⟩
      rw [hG] at gk gg m3 m4
      cases c2 : decide (G = 0)
      · have h3 := of_decide_eq_false c2
        rw [if_neg h3] at gk
        rw [m3 rfl h2 h3]
        conv => whnf
        refine ⟨_, gk, ?_⟩
        conv => whnf
        rw [c2]
        conv => whnf
        kernel_rfl
      · have h3 := of_decide_eq_true c2
        subst h3
        rw [if_pos rfl] at gk
        rw [m4 rfl h2 rfl]
        have hgg := gg rfl
        obtain ⟨gs, hgs⟩ : ∃ gs, l.map glassF = gs := ⟨_, rfl⟩
        have hgs2 : ∀ g ∈ gs, Gg g := fun g hg => by
          rw [← hgs] at hg
          obtain ⟨b, hb2, rfl⟩ := List.mem_map.1 hg
          exact (hgg b hb2).1
        have hgl : gs.length = s.cols.length := by rw [← hgs, List.length_map]; exact h2
        rw [hgs] at gk ⊢
        conv => whnf
        refine ⟨_, gk, ?_⟩
        conv => whnf
        refine loopB (fun (x : Int × Int) => ⟨mkT [(1, .d (planD p)), (3, .d (.fptr (cellsS s))), (6, .d (int x.2)), (9, .d (pairsD gs)), (38, .d (int (s.ovens.map i2).length)), (39, .d (int x.1))], mkB []⟩)
          (fun x => ∃ k : Nat, x.1 = k ∧ k ≤ s.ovens.length ∧ x.2 = sumTo (ovenM s p gs) k) (fun x => (s.ovens.length - x.1).toNat) (0, 0) (by kernel_rfl) ⟨0, rfl, by omega, rfl⟩ ?_
        rintro ⟨_, acc⟩ ⟨k, rfl, hk, ha⟩
        simp only at ha
        conv => whnf
        cases q1 : decide ((k : Int) < ((s.ovens.map i2).length : Int))
        · have hk' : k = s.ovens.length := by have := of_decide_eq_false q1; rw [List.length_map] at this; omega
          have ha : acc = meltF s p gs := by rw [ha, hk']; rfl
          subst ha
          conv => whnf
          kernel_rfl
        · have hk' : k < s.ovens.length := by have := of_decide_eq_true q1; rw [List.length_map] at this; omega
          have mk := makers_ok s h.sm (k : Int)
          have hml := Nat.le_trans (makersF_len s (k : Int)) h.nm
          obtain ⟨ms, hms⟩ : ∃ ms, makersF s (k : Int) = ms := ⟨_, rfl⟩
          have hmm : ∀ m ∈ ms, 0 ≤ m ∧ m < s.makers.length := fun m hm => makersF_mem (hms ▸ hm)
          have hab := meltF_bound h hkeep hgs2 hk
          rw [hms] at mk hml
          conv => whnf
          refine ⟨_, mk, ?_⟩
          conv => whnf
          refine loopB (fun (x : Int × Int) => ⟨mkT [(1, .d (planD p)), (3, .d (.fptr (cellsS s))), (6, .d (int x.2)), (9, .d (pairsD gs)), (11, .d (rowD ms)), (38, .d (int (s.ovens.map i2).length)), (39, .d (int (k : Int))), (46, .d (int s.days)), (47, .d (int x.1))], mkB []⟩)
            (fun x => ∃ d : Nat, x.1 = d ∧ (d : Int) ≤ s.days ∧ x.2 = acc + sumTo (termF s p gs k) d) (fun x => (s.days - x.1).toNat) (0, acc) (by kernel_rfl) ⟨0, rfl, by omega, by simp [sumTo]⟩ ?_
          rintro ⟨_, a2⟩ ⟨d, rfl, hd, ha2⟩
          simp only at ha2
          conv => whnf
          cases q2 : decide ((d : Int) < s.days)
          · have hd' : s.days.toNat = d := by have := of_decide_eq_false q2; omega
            conv => whnf
            exact ⟨(IntKind.wrap .i64 ((k : Int) + 1), a2), by kernel_rfl, ⟨k + 1, nx (by omega), by omega, by simp only [sumTo, ovenM]; rw [hd', ha2, ha]⟩, by simp only; rw [nx (by omega)]; omega⟩
          · have hd' := of_decide_eq_true q2
            have on2 := on_ok s h p po ms hmm (by omega) (d : Int) hd'
            have r2 := onF_row h po hmm (by omega) hd'
            have co := colour_ok s (onF s p ms (d : Int)) (by have := r2.small; omega) r2.arts
            have hcl := colF_lt h r2.arts
            have dg := decigrams_ok s h ms _ r2
            have hrb := ovenM_bound h hkeep hgs2 hk' (n := d) (by omega)
            have hpr := pull_range h hkeep hk' hd'
            unfold pullD pullF at hpr
            rw [hms] at hpr
            have et : ∀ c, dayC s p k d = c → termF s p gs k d = if 0 ≤ c then termG (gs.getD c.toNat (0, 1000)) ((decF s ms (onF s p ms (d : Int))).tdiv 10000) else 0 := fun c hc => by
              unfold termF pullD pullF
              rw [hc, hms]
            have ec : dayC s p k d = colF s (onF s p ms (d : Int)) := by unfold dayC; rw [hms]
            have et := et _ ec
            conv => whnf
            refine ⟨_, on2, ?_⟩
            conv => whnf
            refine ⟨_, co, ?_⟩
            conv => whnf
            cases c3 : decide (0 ≤ colF s (onF s p ms (d : Int)))
            · rw [if_neg (of_decide_eq_false c3)] at et
              conv => whnf
              exact ⟨(IntKind.wrap .i64 ((d : Int) + 1), a2), by kernel_rfl, ⟨d + 1, nx (by omega), by omega, by simp only [sumTo]; rw [et, ha2]; omega⟩, by simp only; rw [nx (by omega)]; omega⟩
            · have h5 := of_decide_eq_true c3
              rw [if_pos h5] at et
              obtain ⟨c, hc⟩ : ∃ c, colF s (onF s p ms (d : Int)) = c := ⟨_, rfl⟩
              rw [hc] at et hcl h5
              obtain ⟨g, hgx⟩ := get_lt (xs := gs) (i := c.toNat) (by omega)
              have hg := hgs2 g (List.mem_of_getElem? hgx)
              have hg0 := hg.g0
              rw [getD_of hgx] at et
              have hst := melt_step (acc := a2) hg (by omega) (by omega) hpr.1 hpr.2
              rw [← et] at hst
              have hgx2 : (gs.map i2)[(colF s (onF s p ms (d : Int))).toNat]? = some (i2 g) := by rw [hc]; exact gz hgx
              conv => whnf
              refine ⟨_, dg, ?_⟩
              conv => whnf
              refine ⟨by decide, ?_⟩
              conv => whnf
              refine ⟨by omega, _, hgx2, ?_⟩
              conv => whnf
              refine ⟨by omega, _, hgx2, ?_⟩
              conv => whnf
              refine ⟨by omega, _, hgx2, ?_⟩
              conv => whnf
              refine ⟨by omega, ?_⟩
              conv => whnf
              exact ⟨(IntKind.wrap .i64 ((d : Int) + 1), IntKind.wrap .i64 (a2 + IntKind.wrap .i64 (g.1 * IntKind.wrap .i64 ((IntKind.wrap .i64 (IntKind.wrap .i64 (IntKind.wrap .i64 (IntKind.wrap .i64 ((decF s ms (onF s p ms (d : Int))).tdiv 10000) * 1000) + g.2) - 1)).tdiv g.2)))), by kernel_rfl, ⟨d + 1, nx (by omega), by omega, by simp only [sumTo]; rw [hst, ha2]; omega⟩, by simp only; rw [nx (by omega)]; omega⟩
end Go.Proofs.YtalbkamkkceanaaGreatG
