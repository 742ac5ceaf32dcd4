/- What a recipe brings. No condition. -/
import Derived.Test.YtalbkamkkceanaaGreatB8
set_option linter.unusedVariables false
set_option linter.unusedSimpArgs false
set_option maxRecDepth 100000
set_option maxHeartbeats 4000000
namespace Go.Proofs.YtalbkamkkceanaaGreatG
open Go Go.AM Go.Proofs

@[reducible] def gst1 (b : Bat) (r : List Int) (x : Int × List (Int × Int)) : St :=
  ⟨mkT [(1, .d (rowD r)), (5, .row 3 0 ((b.oxides.map s1).length : Int).toNat ((b.oxides.map s1).length : Int).toNat), (15, .d (.list (b.mats.map matL))), (16, .d (int (b.mats.map matL).length)), (17, .d (int x.1))], mkB [(3, .row 2 (x.2.map i2))]⟩
@[reducible] def gst2 (b : Bat) (r : List Int) (m : Mat) (i : Int) (x : Int × List (Int × Int)) : St :=
  ⟨mkT [(1, .d (rowD r)), (5, .row 3 0 ((b.oxides.map s1).length : Int).toNat ((b.oxides.map s1).length : Int).toNat), (6, .d (int i)), (15, .d (.list (b.mats.map matL))), (16, .d (int (b.mats.map matL).length)), (17, .d (int i)), (23, .d (pairsD m.content)), (24, .d (int (m.content.map i2).length)), (25, .d (int x.1))], mkB [(3, .row 2 (x.2.map i2))]⟩
theorem fgtG {t T : Nat → AC} {b : Nat → ABlk} {lt : List Nat} {out : List (Int × Int)} (h : b 3 = .row 2 (out.map i2)) (ht : mkT (lt.map fun i => (i, scrC [3] (t i))) = T) : St.forget ⟨t, b⟩ lt [3] = ⟨T, mkB [(3, .row 2 (out.map i2))]⟩ := by
  have h2 : (St.forget ⟨t, b⟩ lt [3]).t = T := ht
  have h1 : (St.forget ⟨t, b⟩ lt [3]).b = mkB [(3, .row 2 (out.map i2))] := by
    show mkB [(3, scrB [3] (b 3))] = _
    rw [h]
    rfl
  calc St.forget ⟨t, b⟩ lt [3] = ⟨(St.forget ⟨t, b⟩ lt [3]).t, (St.forget ⟨t, b⟩ lt [3]).b⟩ := rfl
    _ = _ := by rw [h1, h2]
theorem gadd_loop (b : Bat) (hb : Bf b) (r : List Int) (hr : Rok b.mats r) (i : Nat) (m : Mat) (a : Int) (hm : b.mats[i]? = some m) (ha : r[i]? = some a) (out : List (Int × Int)) (ho : out.length = b.oxides.length) (hg : Gb (10000000 * (i : Int)) out)
    (H : Hand) (Q : QB) (t : Nat → AC) (b' : Nat → ABlk) (h0 : St.forget ⟨t, b'⟩ [1, 5, 6, 15, 16, 17, 23, 24, 25] [3] = gst2 b r m (i : Int) (0, out))
    (hQ : ∀ σ : St, σ.t 1 = .d (rowD r) → σ.t 5 = .row 3 0 ((b.oxides.map s1).length : Int).toNat ((b.oxides.map s1).length : Int).toNat → σ.t 15 = .d (.list (b.mats.map matL)) → σ.t 16 = .d (int (b.mats.map matL).length) → σ.t 17 = .d (int (i : Int)) → σ.b 3 = .row 2 ((gAdd out a m.content).map i2) → Q (.exit 2) σ.t σ.b) :
    LoopB (fun Q t b => bwp Tryz.prog H true [] l43_0 Q t b) [1, 5, 6, 15, 16, 17, 23, 24, 25] [3] Q t b' := by
  have hnm := hb.nm
  have hno := hb.no
  have hrl := hr.len
  have hmb := hb.mat m (List.mem_of_getElem? hm)
  have hab := hr.el a (List.mem_of_getElem? ha)
  have hgl := gAdd_len (out := out) (a := a) (c := m.content) (by omega)
  refine loopB (gst2 b r m (i : Int)) (fun x => ∃ k : Nat, x.1 = k ∧ k ≤ m.content.length ∧ x.2 = (gAdd out a m.content).take k ++ out.drop k) (fun x => (m.content.length - x.1).toNat) (0, out) h0 ⟨0, rfl, by omega, rfl⟩ ?_
  rintro ⟨_, cur⟩ ⟨k, rfl, hk, he⟩
  simp only at he
  have hcl : cur.length = b.oxides.length := by rw [he]; simp; omega
  have hi : i < b.mats.length := by
    have := List.getElem?_eq_some_iff.1 hm; obtain ⟨h, _⟩ := this; exact h
  conv => whnf
  cases c1 : decide ((k : Int) < ((m.content.map i2).length : Int))
  · have hk' : k = m.content.length := by have := of_decide_eq_false c1; rw [List.length_map] at this; omega
    have he : cur = gAdd out a m.content := by rw [he, hk', ← hgl, List.take_length, hgl, show m.content.length = out.length by omega, drop_end, List.append_nil]
    subst he
    conv => whnf
    exact hQ ⟨_, _⟩ rfl rfl rfl rfl rfl rfl
  · have hk' : k < m.content.length := by have := of_decide_eq_true c1; rw [List.length_map] at this; omega
    obtain ⟨s, hs⟩ := get_lt hk'
    obtain ⟨o, ho2⟩ := get_lt (xs := out) (i := k) (by omega)
    have hsb := hmb.2.2.2.2.2.2.2.2.2.2.1 s (List.mem_of_getElem? hs)
    have hob := hg o (List.mem_of_getElem? ho2)
    have hco : cur[k]? = some o := by
      rw [he, List.getElem?_append_right (by simp; omega)]
      simp [show k - min k (gAdd out a m.content).length = 0 by omega, List.getElem?_drop, ho2]
    have m0 : 0 ≤ a * s.1 := Int.mul_nonneg (by omega) (by omega)
    have m1 : a * s.1 ≤ a * s.2 := Int.mul_le_mul_of_nonneg_left (by omega) (by omega)
    have m2 : a * s.2 ≤ 10000 * 1000 := Int.mul_le_mul hab.2 (by omega) (by omega) (by omega)
    have e1 : IntKind.wrap .i64 (a * s.1) = a * s.1 := wr_eq (by omega)
    have e2 : IntKind.wrap .i64 (a * s.2) = a * s.2 := wr_eq (by omega)
    have e3 : IntKind.wrap .i64 (o.1 + a * s.1) = o.1 + a * s.1 := wr_eq (by omega)
    have e4 : IntKind.wrap .i64 (o.2 + a * s.2) = o.2 + a * s.2 := wr_eq (by omega)
    have hl0 : ((b.oxides.map s1).length : Int).toNat = b.oxides.length := by simp
    conv => whnf
    refine ⟨by omega, _, (by first | exact gm (by assumption) | exact gz (by assumption)), ?_⟩
    conv => whnf
    refine ⟨by omega, by simp; omega, by simp [hcl], ?_⟩
    conv => whnf
    refine ⟨by simp [hcl], ?_⟩
    conv => whnf
    refine ⟨by simp [hcl], _, (by rw [Nat.zero_add]; exact gm hco), ?_⟩
    conv => whnf
    refine ⟨by omega, _, gm ha, ?_⟩
    conv => whnf
    refine ⟨by omega, by simp; omega, by simp [hcl], ?_⟩
    conv => whnf
    refine ⟨by simp [hcl], ?_⟩
    conv => whnf
    refine ⟨by simp [hcl], _, (by rw [Nat.zero_add]; exact gm hco), ?_⟩
    conv => whnf
    rw [e1, e3]
    have hset1 : ((cur.map i2).set (0 + ((k : Nat) : Int).toNat) (List.take 0 (i2 o) ++ [int (o.1 + a * s.1)] ++ List.drop (0 + 1) (i2 o))) = (cur.set k (o.1 + a * s.1, o.2)).map i2 := by
      rw [Nat.zero_add, Int.toNat_natCast, List.map_set]; rfl
    refine ⟨by omega, by simp; omega, by simp [hcl], ?_⟩
    conv => whnf
    have hg1 : ((cur.map i2).set (0 + ((k : Nat) : Int).toNat) (List.take 0 (i2 o) ++ [int (o.1 + a * s.1)] ++ List.drop (0 + 1) (i2 o)))[0 + ((k : Nat) : Int).toNat]? = some (i2 (o.1 + a * s.1, o.2)) := by
      rw [hset1, Nat.zero_add]; exact gm (by simp [show k < cur.length by omega])
    have hset2 : ((((cur.map i2).set (0 + ((k : Nat) : Int).toNat) (List.take 0 (i2 o) ++ [int (o.1 + a * s.1)] ++ List.drop (0 + 1) (i2 o)))).set (0 + ((k : Nat) : Int).toNat) (i2 (o.1 + a * s.1, o.2 + a * s.2))) = (cur.set k (o.1 + a * s.1, o.2 + a * s.2)).map i2 := by
      rw [hset1, Nat.zero_add, Int.toNat_natCast, ← List.map_set, List.set_set]
    refine ⟨by simp [hcl], ?_⟩
    conv => whnf
    refine ⟨by simp [hcl], _, hg1, ?_⟩
    conv => whnf
    refine ⟨by omega, _, gm ha, ?_⟩
    conv => whnf
    refine ⟨by omega, by simp; omega, by simp [hcl], ?_⟩
    conv => whnf
    refine ⟨by simp [hcl], ?_⟩
    conv => whnf
    refine ⟨by simp [hcl], _, hg1, ?_⟩
    conv => whnf
    rw [e2, e4]
    refine ⟨(IntKind.wrap .i64 ((k : Int) + 1), cur.set k (o.1 + a * s.1, o.2 + a * s.2)), fgtG (congrArg (ABlk.row 2) hset2) (by kernel_rfl), ⟨k + 1, nx (by omega), by omega, ?_⟩, by simp only; rw [nx (by omega)]; omega⟩
    have hga := gAdd_get (a := a) ho2 hs
    rw [he, drop_at ho2, List.set_append_right _ _ (by simp; exact Nat.min_le_left _ _), List.take_add_one, hga]
    simp [show k - min k (gAdd out a m.content).length = 0 by omega]
theorem gramsL_len : ∀ {ms : List Mat} {r : List Int} {out : List (Int × Int)}, (∀ m ∈ ms, m.content.length = out.length) → (gramsL ms r out).length = out.length
  | [], _, _, _ => rfl
  | _ :: _, [], _, _ => rfl
  | m :: ms, a :: r, out, h => by
    have h1 := gAdd_len (out := out) (a := a) (c := m.content) (h m (by simp)).symm
    simp only [gramsL]
    rw [gramsL_len (fun x hx => by rw [h1, h x (by simp [hx]), h m (by simp)])]
    rw [h1, h m (by simp)]
theorem gramsL_b : ∀ {ms : List Mat} {r : List Int} {out : List (Int × Int)} {B : Int}, (∀ m ∈ ms, ∀ s ∈ m.content, 0 ≤ s.1 ∧ s.1 ≤ s.2 ∧ s.2 ≤ 1000) → (∀ k ∈ r, 0 ≤ k ∧ k ≤ 10000) → 0 ≤ B → Gb B out → Gb (B + 10000000 * (ms.length : Int)) (gramsL ms r out)
  | [], _, _, _, _, _, _, h => by simpa [gramsL] using h
  | _ :: ms, [], _, B, _, _, _, h => fun o ho => by have := h o ho; simp only [List.length_cons]; omega
  | m :: ms, a :: r, out, B, h1, h2, h3, h4 => fun o ho => by
    have := gramsL_b (B := B + 10000000) (fun x hx => h1 x (by simp [hx])) (fun x hx => h2 x (by simp [hx])) (by omega) (gAdd_b (h2 a (by simp)) h4 (h1 m (by simp))) o ho
    simp only [List.length_cons]
    omega
theorem grams_ok (b : Bat) (hb : Bf b) (r : List Int) (hr : Rok b.mats r) : PureFn Tryz.prog 43 [batD b, rowD r] (pairsD (gramsF b r)) := by
  have hnm := hb.nm
  have hno := hb.no
  have hrl := hr.len
  refine pureFn_by Tryz.func43 k43 rfl rfl ?_
  obtain ⟨A, hA⟩ : ∃ A, gramsF b r = A := ⟨_, rfl⟩
  rw [hA]
  conv => whnf
  refine ⟨by omega, by rw [List.length_map]; unfold most; omega, ?_⟩
  conv => whnf
  refine loopB (gst1 b r) (fun x => ∃ k : Nat, x.1 = k ∧ k ≤ b.mats.length ∧ x.2.length = b.oxides.length ∧ Gb (10000000 * (k : Int)) x.2 ∧ gramsL (b.mats.drop k) (r.drop k) x.2 = A) (fun x => (b.mats.length - x.1).toNat) (0, List.replicate b.oxides.length (0, 0)) ?_
    ⟨0, rfl, by omega, by simp, fun o ho => by rw [List.eq_of_mem_replicate ho]; simp, by simpa [gramsF] using hA⟩ ?_
  · refine fgtG ?_ (by kernel_rfl)
    show ABlk.row 2 (List.replicate (((b.oxides.map s1).length : Int).toNat) [D.v (Z.val (.i .i64)), D.v (Z.val (.i .i64))]) = _
    simp [Z.val]
  rintro ⟨_, out⟩ ⟨k, rfl, hk, hol, hgb, h1⟩
  simp only at hol hgb h1
  conv => whnf
  cases c1 : decide ((k : Int) < ((b.mats.map matL).length : Int))
  · have hk' : k = b.mats.length := by have := of_decide_eq_false c1; rw [List.length_map] at this; omega
    rw [hk', drop_end] at h1
    have h1 : out = A := h1
    conv => whnf
    rw [← h1]
    exact resA_row (s := 3) (esz := 2) (els := out.map i2) rfl rfl (by simp [hol])
  · have hk' : k < b.mats.length := by have := of_decide_eq_true c1; rw [List.length_map] at this; omega
    obtain ⟨m, hm⟩ := get_lt hk'
    obtain ⟨a, ha⟩ := get_lt (xs := r) (i := k) (by omega)
    have hmb := hb.mat m (List.mem_of_getElem? hm)
    have hgl := gAdd_len (out := out) (a := a) (c := m.content) (by omega)
    rw [drop_at hm, drop_at ha, gramsL] at h1
    conv => whnf
    refine ⟨by omega, _, (by first | exact gm (by assumption) | exact gz (by assumption)), ?_⟩
    conv => whnf
    refine gadd_loop b hb r hr k m a hm ha out hol hgb _ _ _ _ ?_ ?_
    · exact fgtG rfl (by kernel_rfl)
    · intro σ t1 t5 t15 t16 t17 b3
      conv => whnf
      rw [show evO σ.t (.t 17) = .d (int (k : Int)) from t17]
      conv => whnf
      refine ⟨(IntKind.wrap .i64 ((k : Int) + 1), gAdd out a m.content), fgtG b3 ?_, ⟨k + 1, nx (by omega), by omega, by simp only; omega, ?_, h1⟩, by simp only; rw [nx (by omega)]; omega⟩
      · show mkT [(1, scrC [3] (σ.t 1)), (5, scrC [3] (σ.t 5)), (15, scrC [3] (σ.t 15)), (16, scrC [3] (σ.t 16)), (17, _)] = _
        rw [t1, t5, t15, t16]
        rfl
      · have := gAdd_b (hr.el a (List.mem_of_getElem? ha)) hgb hmb.2.2.2.2.2.2.2.2.2.2.1
        rw [show 10000000 * (((k + 1 : Nat)) : Int) = 10000000 * (k : Int) + 10000000 by omega]
        exact this
theorem gramsTop_ok (b : Bat) (sb : Sb b) (h0 : batE b = 0) (r : List Int) (hr : Rok b.mats r) : PureFn Tryz.prog 14 [batD b, rowD r] (.tup [pairsD (gramsF b r), int 0]) := by
  refine pureFn_by Tryz.func14 k14 rfl rfl ?_
  conv => whnf
  refine ⟨_, asked_ok b sb h0 r hr, ?_⟩
  conv => whnf
  refine ⟨_, grams_ok b (bf_of sb h0) r hr, ?_⟩
  conv => whnf
  kernel_rfl
end Go.Proofs.YtalbkamkkceanaaGreatG
