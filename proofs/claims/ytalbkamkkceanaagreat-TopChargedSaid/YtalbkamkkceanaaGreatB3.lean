/- The check of a batch: what the program's code computes. No condition. -/
import Derived.Test.YtalbkamkkceanaaGreatB2
set_option linter.unusedVariables false
set_option linter.unusedSimpArgs false
set_option maxRecDepth 100000
set_option maxHeartbeats 4000000
namespace Go.Proofs.YtalbkamkkceanaaGreatG
open Go Go.AM Go.Proofs

theorem idxS_ok (xs : List ByteArray) (n : ByteArray) (hl : xs.length < 1000000000) : PureFn Tryz.prog 135 [.list (xs.map s1), strD n] (int (idxF (fun s => s.toList == n.toList) xs)) := by
  refine pureFn_by Tryz.func135 k135 rfl rfl ?_
  conv => whnf
  refine loopB (fun (i : Int) => ⟨mkT [(0, .d (.list (xs.map s1))), (1, .d (strD n)), (7, .d (int (xs.map s1).length)), (8, .d (int i))], mkB []⟩)
    (fun i => ∃ k : Nat, i = k ∧ k ≤ xs.length ∧ ∀ j, j < k → ∀ y, xs[j]? = some y → (y.toList == n.toList) = false) (fun i => (xs.length - i).toNat) 0 (by kernel_rfl) ⟨0, rfl, by omega, fun j hj => by omega⟩ ?_
  rintro _ ⟨i, rfl, hi, hb⟩
  conv => whnf
  rw [List.length_map]
  cases c1 : decide ((i : Int) < (xs.length : Int))
  · have hi' : i = xs.length := by have := of_decide_eq_false c1; omega
    subst hi'
    rw [idx_miss hb]
    conv => whnf
    kernel_rfl
  · have hi' : i < xs.length := by have := of_decide_eq_true c1; omega
    obtain ⟨x, hx⟩ := get_lt hi'
    have hc : (n.toList == x.toList) = (x.toList == n.toList) := BEq.comm
    conv => whnf
    refine ⟨by omega, _, (by first | exact gm (by assumption) | exact gz (by assumption)), ?_⟩
    conv => whnf
    rw [hc]
    cases c2 : (x.toList == n.toList)
    · conv => whnf
      refine ⟨IntKind.wrap .i64 ((i : Int) + 1), by kernel_rfl, ⟨i + 1, nx (by omega), by omega, fun j hj y hy => ?_⟩, by rw [nx (by omega)]; omega⟩
      by_cases e : j = i
      · subst e; rw [hx] at hy; cases hy; exact c2
      · exact hb j (by omega) y hy
    · conv => whnf
      rw [idx_hit (p := fun s : ByteArray => s.toList == n.toList) hx c2 hb]
      kernel_rfl
theorem hasS_ok (xs : List ByteArray) (n : ByteArray) (hl : xs.length < 1000000000) : PureFn Tryz.prog 105 [.list (xs.map s1), strD n] (boolD (xs.any fun s => s.toList == n.toList)) := by
  rw [← idx_any]
  refine pureFn_by Tryz.func105 k105 rfl rfl ?_
  conv => whnf
  refine ⟨_, idxS_ok xs n hl, ?_⟩
  conv => whnf
  kernel_rfl
def matBad (n : Nat) (m : Mat) : Bool := !withinF m.price 0 10000 || !withinF m.redox (-1000) 1000 || !withinF m.least 0 10000 || !withinF m.most m.least 10000 || !withinF m.step 1 10000 || !decide ((m.content.length : Int) = n)
def lowSum (l : List (Int × Int)) : Int := (l.map (·.1)).sum
def matE (n : Nat) (m : Mat) : Int := if matBad n m = true then 1 else if (m.content.any fun s => !spanF s 0 1000) = true then 1 else if 1000 < lowSum m.content then 12 else 0
theorem lowSum_at {l : List (Int × Int)} {i : Nat} {x : Int × Int} (h : l[i]? = some x) : lowSum (l.drop i) = x.1 + lowSum (l.drop (i + 1)) := by
  rw [drop_at h]; simp [lowSum]
theorem material_ok (b : Bat) (m : Mat) (hb : b.oxides.length ≤ 20) (hc : m.content.length ≤ 20) : PureFn Tryz.prog 108 [batD b, .agg (matL m)] (int (matE b.oxides.length m)) := by
  refine pureFn_by Tryz.func108 k108 rfl rfl ?_
  obtain ⟨R, hR⟩ : ∃ R, matE b.oxides.length m = R := ⟨_, rfl⟩
  rw [hR]
  unfold matE matBad at hR
  obtain ⟨T, hT⟩ : ∃ T, (m.content.any fun s => !spanF s 0 1000) = T := ⟨_, rfl⟩
  rw [hT] at hR
  conv => whnf
  refine ⟨_, withinB_ok _ _ _, ?_⟩
  cases w1 : withinF m.price 0 10000
  · rw [w1] at hR; have hR : 1 = R := hR; rw [← hR]
    conv => whnf
    kernel_rfl
  conv => whnf
  refine ⟨_, withinB_ok _ _ _, ?_⟩
  cases w2 : withinF m.redox (-1000) 1000
  · rw [w1, w2] at hR; have hR : 1 = R := hR; rw [← hR]
    conv => whnf
    kernel_rfl
  conv => whnf
  refine ⟨_, withinB_ok _ _ _, ?_⟩
  cases w3 : withinF m.least 0 10000
  · rw [w1, w2, w3] at hR; have hR : 1 = R := hR; rw [← hR]
    conv => whnf
    kernel_rfl
  conv => whnf
  refine ⟨_, withinB_ok _ _ _, ?_⟩
  cases w4 : withinF m.most m.least 10000
  · rw [w1, w2, w3, w4] at hR; have hR : 1 = R := hR; rw [← hR]
    conv => whnf
    kernel_rfl
  conv => whnf
  refine ⟨_, withinB_ok _ _ _, ?_⟩
  cases w5 : withinF m.step 1 10000
  · rw [w1, w2, w3, w4, w5] at hR; have hR : 1 = R := hR; rw [← hR]
    conv => whnf
    kernel_rfl
  conv => whnf
  rw [List.length_map, List.length_map]
  cases w6 : decide ((m.content.length : Int) = (b.oxides.length : Int))
  · rw [w1, w2, w3, w4, w5, w6] at hR; have hR : 1 = R := hR; rw [← hR]
    conv => whnf
    kernel_rfl
  rw [w1, w2, w3, w4, w5, w6] at hR
  have hR : (if T = true then 1 else if 1000 < lowSum m.content then 12 else 0) = R := hR
  conv => whnf
  refine loopB (fun (x : Int × Int) => ⟨mkT [(5, .d (int x.2)), (48, .d (pairsD m.content)), (49, .d (int (m.content.map i2).length)), (50, .d (int x.1))], mkB []⟩)
    (fun x => ∃ k : Nat, x.1 = k ∧ k ≤ m.content.length ∧ ((m.content.drop k).any fun s => !spanF s 0 1000) = T ∧ x.2 + lowSum (m.content.drop k) = lowSum m.content ∧ 0 ≤ x.2 ∧ x.2 ≤ 1000 * (k : Int)) (fun x => (m.content.length - x.1).toNat) (0, 0) (by kernel_rfl) ⟨0, rfl, by omega, hT, by simp, by simp, by simp⟩ ?_
  rintro ⟨_, acc⟩ ⟨k, rfl, hk, hb1, hb2, h0, h1⟩
  simp only at hb2 h0 h1
  conv => whnf
  cases c1 : decide ((k : Int) < ((m.content.map i2).length : Int))
  · have hk' : k = m.content.length := by have := of_decide_eq_false c1; rw [List.length_map] at this; omega
    rw [hk', drop_end] at hb1 hb2
    have hb1 : false = T := hb1
    have hb2 : acc = lowSum m.content := by simpa [lowSum] using hb2
    rw [← hb1, if_neg (by decide), ← hb2] at hR
    conv => whnf
    cases c2 : decide (1000 < acc)
    · rw [if_neg (of_decide_eq_false c2)] at hR
      rw [← hR]
      conv => whnf
      kernel_rfl
    · rw [if_pos (of_decide_eq_true c2)] at hR
      rw [← hR]
      conv => whnf
      kernel_rfl
  · have hk' : k < m.content.length := by have := of_decide_eq_true c1; rw [List.length_map] at this; omega
    obtain ⟨s, hs⟩ := get_lt hk'
    rw [all_split hs] at hb1
    rw [lowSum_at hs] at hb2
    conv => whnf
    refine ⟨by omega, _, (by first | exact gm (by assumption) | exact gz (by assumption)), ?_⟩
    conv => whnf
    refine ⟨_, span_ok s 0 1000, ?_⟩
    cases c2 : spanF s 0 1000
    · rw [c2] at hb1
      have hb1 : true = T := hb1
      rw [← hb1, if_pos rfl] at hR
      conv => whnf
      rw [← hR]
      conv => whnf
      kernel_rfl
    · rw [c2] at hb1
      have hsp := spanF_iff.1 c2
      have ew : IntKind.wrap .i64 (acc + s.1) = acc + s.1 := wr_eq (by omega)
      conv => whnf
      exact ⟨(IntKind.wrap .i64 ((k : Int) + 1), IntKind.wrap .i64 (acc + s.1)), by kernel_rfl, ⟨k + 1, nx (by omega), by omega, hb1, by simp only; rw [ew]; omega, by simp only; rw [ew]; omega, by simp only; rw [ew]; omega⟩, by simp only; rw [nx (by omega)]; omega⟩
def ptyE (n : Nat) (p : Pty) : Int := if (!decide ((p.coefs.length : Int) = n) || (p.coefs.any fun c => !coefOk c) || !spanF p.target (-10000) 10000) = true then 1 else 0
theorem property_ok (b : Bat) (p : Pty) (hb : b.oxides.length ≤ 20) (hc : p.coefs.length ≤ 20) : PureFn Tryz.prog 68 [batD b, .agg (ptyL p)] (int (ptyE b.oxides.length p)) := by
  have key := any1_ok (fun n : Int => int n) p.coefs (fun n => !coefOk n) 113 [] (by omega) (fun n _ => badCoef_ok n)
  refine pureFn_by Tryz.func68 k68 rfl rfl ?_
  obtain ⟨R, hR⟩ : ∃ R, ptyE b.oxides.length p = R := ⟨_, rfl⟩
  rw [hR]
  unfold ptyE at hR
  obtain ⟨T, hT⟩ : ∃ T, (p.coefs.any fun c => !coefOk c) = T := ⟨_, rfl⟩
  rw [hT] at hR key
  conv => whnf
  rw [List.length_map, List.length_map]
  cases w1 : decide ((p.coefs.length : Int) = (b.oxides.length : Int))
  · rw [w1] at hR; have hR : 1 = R := hR; rw [← hR]
    conv => whnf
    kernel_rfl
  conv => whnf
  refine ⟨_, key, ?_⟩
  rw [w1] at hR
  cases T
  · conv => whnf
    refine ⟨_, span_ok p.target (-10000) 10000, ?_⟩
    cases w3 : spanF p.target (-10000) 10000
    · rw [w3] at hR; have hR : 1 = R := hR; rw [← hR]
      conv => whnf
      kernel_rfl
    · rw [w3] at hR; have hR : 0 = R := hR; rw [← hR]
      conv => whnf
      kernel_rfl
  · have hR : 1 = R := hR; rw [← hR]
    conv => whnf
    kernel_rfl
def oxE (b : Bat) (i : Nat) (s : ByteArray) : Int := if nameF s = false then 5 else if ((b.oxides.take i).any fun x => x.toList == s.toList) = true then 6 else 0
def oxidesE (b : Bat) : Int := if 12 < b.oxides.length then 3 else if b.oxides.length = 0 then 1 else firstE (oxE b) b.oxides 0
theorem oxides_ok (b : Bat) (hb : Sb b) : PureFn Tryz.prog 60 [batD b] (int (oxidesE b)) := by
  have hox := hb.oxides
  refine pureFn_by Tryz.func60 k60 rfl rfl ?_
  obtain ⟨R, hR⟩ : ∃ R, oxidesE b = R := ⟨_, rfl⟩
  rw [hR]
  unfold oxidesE at hR
  conv => whnf
  cases c1 : decide (12 < ((b.oxides.map s1).length : Int))
  case true =>
    rw [if_pos (by have := of_decide_eq_true c1; rw [List.length_map] at this; omega)] at hR
    rw [← hR]
    conv => whnf
    kernel_rfl
  rw [if_neg (by have := of_decide_eq_false c1; rw [List.length_map] at this; omega)] at hR
  conv => whnf
  cases c2 : decide (((b.oxides.map s1).length : Int) = 0)
  case true =>
    rw [if_pos (by have := of_decide_eq_true c2; rw [List.length_map] at this; omega)] at hR
    rw [← hR]
    conv => whnf
    kernel_rfl
  rw [if_neg (by have := of_decide_eq_false c2; rw [List.length_map] at this; omega)] at hR
  conv => whnf
  refine loopB (fun (i : Int) => ⟨mkT [(1, .d (.fptr (cellsB b))), (16, .d (.list (b.oxides.map s1))), (17, .d (int (b.oxides.map s1).length)), (18, .d (int i))], mkB []⟩)
    (fun z => ∃ k : Nat, z = k ∧ k ≤ b.oxides.length ∧ firstE (oxE b) (b.oxides.drop k) k = R) (fun k => (b.oxides.length - k).toNat) 0 (by kernel_rfl) ⟨0, rfl, by omega, hR⟩ ?_
  rintro _ ⟨k, rfl, hk, hb1⟩
  conv => whnf
  cases c3 : decide ((k : Int) < ((b.oxides.map s1).length : Int))
  · have hk' : k = b.oxides.length := by have := of_decide_eq_false c3; rw [List.length_map] at this; omega
    rw [hk', firstE_end] at hb1
    rw [← hb1]
    conv => whnf
    kernel_rfl
  · have hk' : k < b.oxides.length := by have := of_decide_eq_true c3; rw [List.length_map] at this; omega
    obtain ⟨s, hs⟩ := get_lt hk'
    have st := firstE_step hs hb1
    have ex : oxE b k s = if nameF s = false then 5 else if ((b.oxides.take k).any fun x => x.toList == s.toList) = true then 6 else 0 := rfl
    have key := hasS_ok (b.oxides.take k) s (by simp; omega)
    have ek : (b.oxides.take k).map s1 = ((b.oxides.map s1).drop (0 : Int).toNat).take ((k : Int).toNat - (0 : Int).toNat) := by simp [List.map_take]
    rw [ek] at key
    conv => whnf
    refine ⟨by omega, _, (by first | exact gm (by assumption) | exact gz (by assumption)), ?_⟩
    conv => whnf
    refine ⟨_, nameB_ok s, ?_⟩
    cases c4 : nameF s
    · rw [c4, if_pos rfl] at ex
      rw [ex] at st
      rw [st.2 (by decide)]
      conv => whnf
      kernel_rfl
    · rw [c4, if_neg (by decide)] at ex
      conv => whnf
      refine ⟨by omega, by omega, by rw [List.length_map]; omega, fun _ => ?_, ?_⟩
      · obtain ⟨m0, h0⟩ := get_lt (show 0 < b.oxides.length by omega)
        show ((b.oxides.map s1).getD 0 []).length = 1
        simp [List.getD, h0]
      conv => whnf
      refine ⟨_, key, ?_⟩
      cases c5 : ((b.oxides.take k).any fun x => x.toList == s.toList)
      · rw [c5, if_neg (by decide)] at ex
        rw [ex] at st
        conv => whnf
        exact ⟨IntKind.wrap .i64 ((k : Int) + 1), by kernel_rfl, ⟨k + 1, nx (by omega), by omega, st.1 rfl⟩, by rw [nx (by omega)]; omega⟩
      · rw [c5, if_pos rfl] at ex
        rw [ex] at st
        rw [st.2 (by decide)]
        conv => whnf
        kernel_rfl
def mtE (b : Bat) (i : Nat) (m : Mat) : Int := if nameF m.name = false then 5 else if ((b.mats.take i).any fun x => x.name.toList == m.name.toList) = true then 6 else matE b.oxides.length m
def matsE (b : Bat) : Int := if 12 < b.mats.length then 3 else if b.mats.length = 0 then 1 else firstE (mtE b) b.mats 0
theorem mats_ok (b : Bat) (hb : Sb b) : PureFn Tryz.prog 61 [batD b] (int (matsE b)) := by
  have hox := hb.oxides
  have hmt := hb.mats
  refine pureFn_by Tryz.func61 k61 rfl rfl ?_
  obtain ⟨R, hR⟩ : ∃ R, matsE b = R := ⟨_, rfl⟩
  rw [hR]
  unfold matsE at hR
  conv => whnf
  cases c1 : decide (12 < ((b.mats.map matL).length : Int))
  case true =>
    rw [if_pos (by have := of_decide_eq_true c1; rw [List.length_map] at this; omega)] at hR
    rw [← hR]
    conv => whnf
    kernel_rfl
  rw [if_neg (by have := of_decide_eq_false c1; rw [List.length_map] at this; omega)] at hR
  conv => whnf
  cases c2 : decide (((b.mats.map matL).length : Int) = 0)
  case true =>
    rw [if_pos (by have := of_decide_eq_true c2; rw [List.length_map] at this; omega)] at hR
    rw [← hR]
    conv => whnf
    kernel_rfl
  rw [if_neg (by have := of_decide_eq_false c2; rw [List.length_map] at this; omega)] at hR
  conv => whnf
  refine loopB (fun (i : Int) => ⟨mkT [(1, .d (.fptr (cellsB b))), (17, .d (.list (b.mats.map matL))), (18, .d (int (b.mats.map matL).length)), (19, .d (int i))], mkB []⟩)
    (fun z => ∃ k : Nat, z = k ∧ k ≤ b.mats.length ∧ firstE (mtE b) (b.mats.drop k) k = R) (fun k => (b.mats.length - k).toNat) 0 (by kernel_rfl) ⟨0, rfl, by omega, hR⟩ ?_
  rintro _ ⟨k, rfl, hk, hb1⟩
  conv => whnf
  cases c3 : decide ((k : Int) < ((b.mats.map matL).length : Int))
  · have hk' : k = b.mats.length := by have := of_decide_eq_false c3; rw [List.length_map] at this; omega
    rw [hk', firstE_end] at hb1
    rw [← hb1]
    conv => whnf
    kernel_rfl
  · have hk' : k < b.mats.length := by have := of_decide_eq_true c3; rw [List.length_map] at this; omega
    obtain ⟨s, hs⟩ := get_lt hk'
    have st := firstE_step hs hb1
    have ex : mtE b k s = if nameF s.name = false then 5 else if ((b.mats.take k).any fun x => x.name.toList == s.name.toList) = true then 6 else matE b.oxides.length s := rfl
    have key := twiceMat_ok b.mats (by omega) k s hs
    have mk := material_ok b s hox (hb.contents s (List.mem_of_getElem? hs))
    conv => whnf
    refine ⟨by omega, _, (by first | exact gm (by assumption) | exact gz (by assumption)), ?_⟩
    conv => whnf
    refine ⟨_, nameB_ok s.name, ?_⟩
    cases c4 : nameF s.name
    · rw [c4, if_pos rfl] at ex
      rw [ex] at st
      rw [st.2 (by decide)]
      conv => whnf
      kernel_rfl
    · rw [c4, if_neg (by decide)] at ex
      conv => whnf
      refine ⟨_, key, ?_⟩
      cases c5 : ((b.mats.take k).any fun x => x.name.toList == s.name.toList)
      · rw [c5, if_neg (by decide)] at ex
        rw [ex] at st
        obtain ⟨e, he⟩ : ∃ e, matE b.oxides.length s = e := ⟨_, rfl⟩
        rw [he] at st mk
        conv => whnf
        refine ⟨_, mk, ?_⟩
        conv => whnf
        cases c6 : decide (e = 0)
        · rw [st.2 (of_decide_eq_false c6)]
          conv => whnf
          kernel_rfl
        · conv => whnf
          exact ⟨IntKind.wrap .i64 ((k : Int) + 1), by kernel_rfl, ⟨k + 1, nx (by omega), by omega, st.1 (of_decide_eq_true c6)⟩, by rw [nx (by omega)]; omega⟩
      · rw [c5, if_pos rfl] at ex
        rw [ex] at st
        rw [st.2 (by decide)]
        conv => whnf
        kernel_rfl
def ptE (b : Bat) (i : Nat) (p : Pty) : Int := if nameF p.name = false then 5 else if ((b.props.take i).any fun x => x.name.toList == p.name.toList) = true then 6 else ptyE b.oxides.length p
def batE (b : Bat) : Int := if oxidesE b ≠ 0 then oxidesE b else if matsE b ≠ 0 then matsE b else if (!decide ((b.shares.length : Int) = b.oxides.length) || (b.shares.any fun s => !spanF s 0 1000)) = true then 1
  else if 6 < b.props.length then 3 else if firstE (ptE b) b.props 0 ≠ 0 then firstE (ptE b) b.props 0 else if (!spanF b.redox (-10000) 10000 || !withinF b.wanted 1 10000) = true then 1 else 0
theorem bcheck_ok (b : Bat) (hb : Sb b) : PureFn Tryz.prog 36 [batD b] (int (batE b)) := by
  have hox := hb.oxides
  have hsh := hb.shares
  have hpr := hb.props
  have k1 := oxides_ok b hb
  have k2 := mats_ok b hb
  have k3 := anySpan_ok (fun s : Int × Int => int s.1) (fun s => int s.2) b.shares (fun s => !spanF s 0 1000) 63 [] (by omega) (fun s _ => badShare_ok s)
  refine pureFn_by Tryz.func36 k36 rfl rfl ?_
  obtain ⟨R, hR⟩ : ∃ R, batE b = R := ⟨_, rfl⟩
  rw [hR]
  unfold batE at hR
  obtain ⟨E1, hE1⟩ : ∃ E, oxidesE b = E := ⟨_, rfl⟩
  obtain ⟨E2, hE2⟩ : ∃ E, matsE b = E := ⟨_, rfl⟩
  obtain ⟨E3, hE3⟩ : ∃ E, firstE (ptE b) b.props 0 = E := ⟨_, rfl⟩
  obtain ⟨T, hT⟩ : ∃ T, (b.shares.any fun s => !spanF s 0 1000) = T := ⟨_, rfl⟩
  rw [hE1, hE2, hE3, hT] at hR
  rw [hE1] at k1
  rw [hE2] at k2
  rw [hT] at k3
  conv => whnf
  refine ⟨_, k1, ?_⟩
  conv => whnf
  cases c1 : decide (E1 = 0)
  case false =>
    rw [if_pos (of_decide_eq_false c1)] at hR
    rw [hR]
    conv => whnf
    kernel_rfl
  rw [if_neg (fun h => h (of_decide_eq_true c1))] at hR
  conv => whnf
  refine ⟨_, k2, ?_⟩
  conv => whnf
  cases c2 : decide (E2 = 0)
  case false =>
    rw [if_pos (of_decide_eq_false c2)] at hR
    rw [hR]
    conv => whnf
    kernel_rfl
  rw [if_neg (fun h => h (of_decide_eq_true c2))] at hR
  conv => whnf
  rw [List.length_map, List.length_map]
  cases c3 : decide ((b.shares.length : Int) = (b.oxides.length : Int))
  case false =>
    rw [c3] at hR; have hR : 1 = R := hR; rw [← hR]
    conv => whnf
    kernel_rfl
  rw [c3] at hR
  conv => whnf
  refine ⟨_, k3, ?_⟩
  cases T
  case true =>
    have hR : 1 = R := hR
    rw [← hR]
    conv => whnf
    kernel_rfl
  rw [if_neg (by decide)] at hR
  conv => whnf
  cases c4 : decide (6 < ((b.props.map ptyL).length : Int))
  case true =>
    rw [if_pos (by have := of_decide_eq_true c4; rw [List.length_map] at this; omega)] at hR
    rw [← hR]
    conv => whnf
    kernel_rfl
  rw [if_neg (by have := of_decide_eq_false c4; rw [List.length_map] at this; omega)] at hR
  conv => whnf
  refine loopB (fun (i : Int) => ⟨mkT [(1, .d (.fptr (cellsB b))), (35, .d (.list (b.props.map ptyL))), (36, .d (int (b.props.map ptyL).length)), (37, .d (int i))], mkB []⟩)
    (fun z => ∃ k : Nat, z = k ∧ k ≤ b.props.length ∧ firstE (ptE b) (b.props.drop k) k = E3) (fun k => (b.props.length - k).toNat) 0 (by kernel_rfl) ⟨0, rfl, by omega, hE3⟩ ?_
  rintro _ ⟨k, rfl, hk, hb1⟩
  conv => whnf
  cases c5 : decide ((k : Int) < ((b.props.map ptyL).length : Int))
  · have hk' : k = b.props.length := by have := of_decide_eq_false c5; rw [List.length_map] at this; omega
    rw [hk', firstE_end] at hb1
    rw [← hb1, if_neg (fun h => h rfl)] at hR
    conv => whnf
    refine ⟨_, span_ok b.redox (-10000) 10000, ?_⟩
    cases c6 : spanF b.redox (-10000) 10000
    · rw [c6] at hR; have hR : 1 = R := hR; rw [← hR]
      conv => whnf
      kernel_rfl
    · rw [c6] at hR
      conv => whnf
      refine ⟨_, withinB_ok _ _ _, ?_⟩
      cases c7 : withinF b.wanted 1 10000
      · rw [c7] at hR; have hR : 1 = R := hR; rw [← hR]
        conv => whnf
        kernel_rfl
      · rw [c7] at hR; have hR : 0 = R := hR; rw [← hR]
        conv => whnf
        kernel_rfl
  · have hk' : k < b.props.length := by have := of_decide_eq_true c5; rw [List.length_map] at this; omega
    obtain ⟨s, hs⟩ := get_lt hk'
    have st := firstE_step hs hb1
    have ex : ptE b k s = if nameF s.name = false then 5 else if ((b.props.take k).any fun x => x.name.toList == s.name.toList) = true then 6 else ptyE b.oxides.length s := rfl
    have key := twicePty_ok b.props (by omega) k s hs
    have mk := property_ok b s hox (hb.coefs s (List.mem_of_getElem? hs))
    have bad : ∀ e : Int, e ≠ 0 → ptE b k s = e → R = e := fun e h0 h1 => by
      rw [h1] at st
      rw [st.2 h0, if_pos h0] at hR
      exact hR.symm
    conv => whnf
    refine ⟨by omega, _, (by first | exact gm (by assumption) | exact gz (by assumption)), ?_⟩
    conv => whnf
    refine ⟨_, nameB_ok s.name, ?_⟩
    cases c6 : nameF s.name
    · rw [c6, if_pos rfl] at ex
      rw [bad 5 (by decide) ex]
      conv => whnf
      kernel_rfl
    · rw [c6, if_neg (by decide)] at ex
      conv => whnf
      refine ⟨_, key, ?_⟩
      cases c7 : ((b.props.take k).any fun x => x.name.toList == s.name.toList)
      · rw [c7, if_neg (by decide)] at ex
        obtain ⟨e, he⟩ : ∃ e, ptyE b.oxides.length s = e := ⟨_, rfl⟩
        rw [he] at ex mk
        conv => whnf
        refine ⟨_, mk, ?_⟩
        conv => whnf
        cases c8 : decide (e = 0)
        · rw [bad e (of_decide_eq_false c8) ex]
          conv => whnf
          kernel_rfl
        · rw [ex] at st
          conv => whnf
          exact ⟨IntKind.wrap .i64 ((k : Int) + 1), by kernel_rfl, ⟨k + 1, nx (by omega), by omega, st.1 (of_decide_eq_true c8)⟩, by rw [nx (by omega)]; omega⟩
      · rw [c7, if_pos rfl] at ex
        rw [bad 6 (by decide) ex]
        conv => whnf
        kernel_rfl
end Go.Proofs.YtalbkamkkceanaaGreatG
