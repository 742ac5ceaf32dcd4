/- The specification's check of a batch. No condition. -/
import Derived.Test.YtalbkamkkceanaaGreatB11
set_option linter.unusedVariables false
set_option linter.unusedSimpArgs false
set_option maxRecDepth 100000
set_option maxHeartbeats 4000000
namespace Go.Proofs.YtalbkamkkceanaaGreatG
open Go Go.AM Go.Proofs

theorem batE_ox {b : Bat} (h : oxidesE b ≠ 0) : batE b = oxidesE b := by unfold batE; rw [if_pos h]
theorem batE_mt {b : Bat} (h0 : oxidesE b = 0) (h : matsE b ≠ 0) : batE b = matsE b := by unfold batE; rw [if_neg (Decidable.not_not.2 h0), if_pos h]
theorem batE_sh {b : Bat} (h0 : oxidesE b = 0) (h1 : matsE b = 0) (h : (!decide ((b.shares.length : Int) = b.oxides.length) || (b.shares.any fun s => !spanF s 0 1000)) = true) : batE b = 1 := by
  unfold batE; rw [if_neg (Decidable.not_not.2 h0), if_neg (Decidable.not_not.2 h1), if_pos h]
theorem batE_go {b : Bat} (h0 : oxidesE b = 0) (h1 : matsE b = 0) (h2 : (!decide ((b.shares.length : Int) = b.oxides.length) || (b.shares.any fun s => !spanF s 0 1000)) = false) :
    batE b = if 6 < b.props.length then 3 else if firstE (ptE b) b.props 0 ≠ 0 then firstE (ptE b) b.props 0 else if (!spanF b.redox (-10000) 10000 || !withinF b.wanted 1 10000) = true then 1 else 0 := by
  unfold batE; rw [if_neg (Decidable.not_not.2 h0), if_neg (Decidable.not_not.2 h1), if_neg (by rw [h2]; decide)]
theorem any_name {α : Type} (f : α → ByteArray) (l : List α) (n : ByteArray) : ((l.map f).any fun s => s.toList == n.toList) = l.any fun x => (f x).toList == n.toList := by rw [List.any_map]; rfl
theorem checkR_ok (b : Bat) (hb : Sb b) : PureFn Tryz.prog 19 [batD b] (int (batE b)) := by
  have hox := hb.oxides
  have hmt := hb.mats
  have hsh := hb.shares
  have hpr := hb.props
  refine pureFn_by Tryz.func19 k19 rfl rfl ?_
  obtain ⟨R, hR⟩ : ∃ R, batE b = R := ⟨_, rfl⟩
  rw [hR]
  conv => whnf
  rw [List.length_map]
  cases c1 : decide ((b.oxides.length : Int) > 12)
  case true =>
    have e : oxidesE b = 3 := by unfold oxidesE; rw [if_pos (by have := of_decide_eq_true c1; omega)]
    rw [← hR, batE_ox (by rw [e]; decide), e]
    conv => whnf
    kernel_rfl
  have l1 : ¬ 12 < b.oxides.length := by have := of_decide_eq_false c1; omega
  conv => whnf
  rw [List.length_map]
  cases c2 : decide ((b.oxides.length : Int) = 0)
  case true =>
    have e : oxidesE b = 1 := by unfold oxidesE; rw [if_neg l1, if_pos (by have := of_decide_eq_true c2; omega)]
    rw [← hR, batE_ox (by rw [e]; decide), e]
    conv => whnf
    kernel_rfl
  have l2 : ¬ b.oxides.length = 0 := by have := of_decide_eq_false c2; omega
  have eO : oxidesE b = firstE (oxE b) b.oxides 0 := by unfold oxidesE; rw [if_neg l1, if_neg l2]
  conv => whnf
  refine loopB (fun (i : Int) => ⟨mkT [(1, .d (.fptr (cellsB b))), (3, .d (int i))], mkB []⟩)
    (fun z => ∃ k : Nat, z = k ∧ k ≤ b.oxides.length ∧ firstE (oxE b) (b.oxides.drop k) k = oxidesE b) (fun k => (b.oxides.length - k).toNat) 0 (by kernel_rfl) ⟨0, rfl, by omega, eO.symm⟩ ?_
  rintro _ ⟨k, rfl, hk, hb1⟩
  conv => whnf
  rw [List.length_map]
  cases c3 : decide ((k : Int) < (b.oxides.length : Int))
  case true =>
    have hk' : k < b.oxides.length := by have := of_decide_eq_true c3; omega
    obtain ⟨s, hs⟩ := get_lt hk'
    have st := firstE_step hs hb1
    have ex : oxE b k s = if nameF s = false then 5 else if ((b.oxides.take k).any fun x => x.toList == s.toList) = true then 6 else 0 := rfl
    have key := inR_ok (b.oxides.take k) s (by simp; omega)
    rw [List.map_take] at key
    conv => whnf
    refine ⟨by omega, _, (by first | exact gm (by assumption) | exact gz (by assumption)), ?_⟩
    conv => whnf
    refine ⟨_, nameR_ok s, ?_⟩
    cases c4 : nameF s
    · rw [c4, if_pos rfl] at ex
      rw [ex] at st
      have e := st.2 (by decide)
      rw [← hR, batE_ox (by rw [e]; decide), e]
      conv => whnf
      kernel_rfl
    · rw [c4, if_neg (by decide)] at ex
      conv => whnf
      refine ⟨by omega, by omega, by simp; omega, fun _ => by obtain ⟨y, hy⟩ := get_lt (xs := b.oxides) (i := 0) (by omega); simp [List.getD, List.getElem?_map, hy], ?_⟩
      conv => whnf
      conv => whnf
      refine ⟨by omega, _, (by first | exact gm (by assumption) | exact gz (by assumption)), ?_⟩
      conv => whnf
      refine ⟨_, key, ?_⟩
      cases c5 : ((b.oxides.take k).any fun x => x.toList == s.toList)
      · rw [c5, if_neg (by decide)] at ex
        conv => whnf
        exact ⟨IntKind.wrap .i64 ((k : Int) + 1), by kernel_rfl, ⟨k + 1, nx (by omega), by omega, st.1 ex⟩, by rw [nx (by omega)]; omega⟩
      · rw [c5, if_pos rfl] at ex
        rw [ex] at st
        have e := st.2 (by decide)
        rw [← hR, batE_ox (by rw [e]; decide), e]
        conv => whnf
        kernel_rfl
  have hk' : k = b.oxides.length := by have := of_decide_eq_false c3; omega
  rw [hk', firstE_end] at hb1
  have h0 := hb1.symm
  conv => whnf
  rw [List.length_map]
  cases c4 : decide ((b.mats.length : Int) > 12)
  case true =>
    have e : matsE b = 3 := by unfold matsE; rw [if_pos (by have := of_decide_eq_true c4; omega)]
    rw [← hR, batE_mt h0 (by rw [e]; decide), e]
    conv => whnf
    kernel_rfl
  have l3 : ¬ 12 < b.mats.length := by have := of_decide_eq_false c4; omega
  conv => whnf
  rw [List.length_map]
  cases c5 : decide ((b.mats.length : Int) = 0)
  case true =>
    have e : matsE b = 1 := by unfold matsE; rw [if_neg l3, if_pos (by have := of_decide_eq_true c5; omega)]
    rw [← hR, batE_mt h0 (by rw [e]; decide), e]
    conv => whnf
    kernel_rfl
  have l4 : ¬ b.mats.length = 0 := by have := of_decide_eq_false c5; omega
  have eM : matsE b = firstE (mtE b) b.mats 0 := by unfold matsE; rw [if_neg l3, if_neg l4]
  conv => whnf
  refine loopB (fun (x : Int × List (List D) × Nat) => ⟨mkT [(1, .d (.fptr (cellsB b))), (4, .row 1 0 x.2.2 x.2.2), (5, .d (int x.1))], mkB [(1, .row 1 x.2.1)]⟩)
    (fun x => ∃ k : Nat, x.1 = k ∧ k ≤ b.mats.length ∧ x.2.1 = ((b.mats.take k).map (·.name)).map s1 ∧ x.2.2 = x.2.1.length ∧ firstE (mtE b) (b.mats.drop k) k = matsE b) (fun x => (b.mats.length - x.1).toNat) (0, [], 0) (by kernel_rfl) ⟨0, rfl, by omega, rfl, rfl, eM.symm⟩ ?_
  rintro ⟨_, els, n⟩ ⟨j, rfl, hkj, hej, hnj, hbj⟩
  simp only at hej hnj
  conv => whnf
  rw [List.length_map]
  cases cj : decide ((j : Int) < (b.mats.length : Int))
  case true =>
    have hk' : j < b.mats.length := by have := of_decide_eq_true cj; omega
    obtain ⟨s, hs⟩ := get_lt hk'
    have hel : els.length = j := by rw [hej]; simp; omega
    have st := firstE_step hs hbj
    have ex : mtE b j s = if nameF s.name = false then 5 else if ((b.mats.take j).any fun x => x.name.toList == s.name.toList) = true then 6 else matE b.oxides.length s := rfl
    have key := inR_ok ((b.mats.take j).map (·.name)) s.name (by simp; omega)
    rw [any_name, ← hej] at key
    have mk := matR_ok b s hox (hb.contents s (List.mem_of_getElem? hs))
    have htk : b.mats.take (j + 1) = b.mats.take j ++ [s] := by rw [List.take_add_one, hs]; rfl
    conv => whnf
    refine ⟨by omega, _, (by first | exact gm (by assumption) | exact gz (by assumption)), ?_⟩
    conv => whnf
    refine ⟨_, nameR_ok s.name, ?_⟩
    cases c4 : nameF s.name
    · rw [c4, if_pos rfl] at ex
      rw [ex] at st
      have e := st.2 (by decide)
      rw [← hR, batE_mt h0 (by rw [e]; decide), e]
      conv => whnf
      kernel_rfl
    · rw [c4, if_neg (by decide)] at ex
      conv => whnf
      conv => whnf
      refine ⟨by omega, _, (by first | exact gm (by assumption) | exact gz (by assumption)), ?_⟩
      conv => whnf
      rw [call2 (d := .list els) (e := strD s.name) (snap_row0 (s := 1) (esz := 1) (els := els) rfl hnj) rfl]
      conv => whnf
      refine ⟨_, key, rfl, ?_⟩
      cases c5 : ((b.mats.take j).any fun x => x.name.toList == s.name.toList)
      · rw [c5, if_neg (by decide)] at ex
        rw [ex] at st
        obtain ⟨ee, hee⟩ : ∃ e, matE b.oxides.length s = e := ⟨_, rfl⟩
        rw [hee] at st mk
        conv => whnf
        conv => whnf
        refine ⟨by omega, _, (by first | exact gm (by assumption) | exact gz (by assumption)), ?_⟩
        conv => whnf
        refine ⟨rfl, rfl, hnj, most_le (by simp; omega), ?_⟩
        conv => whnf
        conv => whnf
        refine ⟨by omega, _, (by first | exact gm (by assumption) | exact gz (by assumption)), ?_⟩
        conv => whnf
        refine ⟨_, mk, ?_⟩
        conv => whnf
        cases c6 : decide (ee = 0)
        · have e := st.2 (of_decide_eq_false c6)
          rw [← hR, batE_mt h0 (by rw [e]; exact of_decide_eq_false c6), e]
          conv => whnf
          kernel_rfl
        · conv => whnf
          exact ⟨(IntKind.wrap .i64 ((j : Int) + 1), els ++ [s1 s.name], els.length + 1), by kernel_rfl, ⟨j + 1, nx (by omega), by omega, by rw [hej, htk]; simp, by simp, st.1 (of_decide_eq_true c6)⟩, by simp only; rw [nx (by omega)]; omega⟩
      · rw [c5, if_pos rfl] at ex
        rw [ex] at st
        have e := st.2 (by decide)
        rw [← hR, batE_mt h0 (by rw [e]; decide), e]
        conv => whnf
        kernel_rfl
  have hkj' : j = b.mats.length := by have := of_decide_eq_false cj; omega
  rw [hkj', firstE_end] at hbj
  have h1 := hbj.symm
  conv => whnf
  rw [List.length_map, List.length_map]
  cases c7 : decide ((b.shares.length : Int) = (b.oxides.length : Int))
  case false =>
    rw [← hR, batE_sh h0 h1 (by rw [c7]; rfl)]
    conv => whnf
    kernel_rfl
  conv => whnf
  refine loopB (fun (i : Int) => ⟨mkT [(1, .d (.fptr (cellsB b))), (7, .d (int i))], mkB []⟩)
    (fun z => ∃ k : Nat, z = k ∧ k ≤ b.shares.length ∧ ((b.shares.drop k).any fun s => !spanF s 0 1000) = (b.shares.any fun s => !spanF s 0 1000)) (fun k => (b.shares.length - k).toNat) 0 (by kernel_rfl) ⟨0, rfl, by omega, rfl⟩ ?_
  rintro _ ⟨p, rfl, hkp, hbp⟩
  conv => whnf
  rw [List.length_map]
  cases cp : decide ((p : Int) < (b.shares.length : Int))
  case true =>
    have hk' : p < b.shares.length := by have := of_decide_eq_true cp; omega
    obtain ⟨s, hs⟩ := get_lt hk'
    rw [drop_at hs, List.any_cons] at hbp
    conv => whnf
    refine ⟨by omega, _, (by first | exact gm (by assumption) | exact gz (by assumption)), ?_⟩
    conv => whnf
    refine ⟨_, span_ok' s 0 1000, ?_⟩
    cases c8 : spanF s 0 1000
    · rw [c8] at hbp
      rw [← hR, batE_sh h0 h1 (by rw [← hbp]; simp)]
      conv => whnf
      kernel_rfl
    · rw [c8] at hbp
      conv => whnf
      exact ⟨IntKind.wrap .i64 ((p : Int) + 1), by kernel_rfl, ⟨p + 1, nx (by omega), by omega, by rw [← hbp]; rfl⟩, by rw [nx (by omega)]; omega⟩
  have hkp' : p = b.shares.length := by have := of_decide_eq_false cp; omega
  rw [hkp', drop_end] at hbp
  have hgo := batE_go h0 h1 (by rw [c7, ← hbp]; rfl)
  rw [hR] at hgo
  conv => whnf
  rw [List.length_map]
  cases c9 : decide ((b.props.length : Int) > 6)
  case true =>
    rw [hgo, if_pos (by have := of_decide_eq_true c9; omega)]
    conv => whnf
    kernel_rfl
  rw [if_neg (by have := of_decide_eq_false c9; omega)] at hgo
  conv => whnf
  refine loopB (fun (x : Int × List (List D) × Nat) => ⟨mkT [(1, .d (.fptr (cellsB b))), (4, .row 1 0 x.2.2 x.2.2), (8, .d (int x.1))], mkB [(1, .row 1 x.2.1)]⟩)
    (fun x => ∃ k : Nat, x.1 = k ∧ k ≤ b.props.length ∧ x.2.1 = ((b.props.take k).map (·.name)).map s1 ∧ x.2.2 = x.2.1.length ∧ firstE (ptE b) (b.props.drop k) k = firstE (ptE b) b.props 0) (fun x => (b.props.length - x.1).toNat) (0, [], 0) (by kernel_rfl) ⟨0, rfl, by omega, rfl, rfl, rfl⟩ ?_
  rintro ⟨_, els, n⟩ ⟨q, rfl, hkq, heq, hnq, hbq⟩
  simp only at heq hnq
  conv => whnf
  rw [List.length_map]
  cases cq : decide ((q : Int) < (b.props.length : Int))
  case true =>
    have hk' : q < b.props.length := by have := of_decide_eq_true cq; omega
    obtain ⟨s, hs⟩ := get_lt hk'
    have hel : els.length = q := by rw [heq]; simp; omega
    have st := firstE_step hs hbq
    have ex : ptE b q s = if nameF s.name = false then 5 else if ((b.props.take q).any fun x => x.name.toList == s.name.toList) = true then 6 else ptyE b.oxides.length s := rfl
    have key := inR_ok ((b.props.take q).map (·.name)) s.name (by simp; omega)
    rw [any_name, ← heq] at key
    have mk := ptyR_ok b s hox (hb.coefs s (List.mem_of_getElem? hs))
    have htk : b.props.take (q + 1) = b.props.take q ++ [s] := by rw [List.take_add_one, hs]; rfl
    conv => whnf
    refine ⟨by omega, _, (by first | exact gm (by assumption) | exact gz (by assumption)), ?_⟩
    conv => whnf
    refine ⟨_, nameR_ok s.name, ?_⟩
    cases c4 : nameF s.name
    · rw [c4, if_pos rfl] at ex
      rw [ex] at st
      have e := st.2 (by decide)
      rw [hgo, if_pos (by rw [e]; decide), e]
      conv => whnf
      kernel_rfl
    · rw [c4, if_neg (by decide)] at ex
      conv => whnf
      conv => whnf
      refine ⟨by omega, _, (by first | exact gm (by assumption) | exact gz (by assumption)), ?_⟩
      conv => whnf
      rw [call2 (d := .list els) (e := strD s.name) (snap_row0 (s := 1) (esz := 1) (els := els) rfl hnq) rfl]
      conv => whnf
      refine ⟨_, key, rfl, ?_⟩
      cases c5 : ((b.props.take q).any fun x => x.name.toList == s.name.toList)
      · rw [c5, if_neg (by decide)] at ex
        rw [ex] at st
        obtain ⟨ee, hee⟩ : ∃ e, ptyE b.oxides.length s = e := ⟨_, rfl⟩
        rw [hee] at st mk
        conv => whnf
        conv => whnf
        refine ⟨by omega, _, (by first | exact gm (by assumption) | exact gz (by assumption)), ?_⟩
        conv => whnf
        refine ⟨rfl, rfl, hnq, most_le (by simp; omega), ?_⟩
        conv => whnf
        conv => whnf
        refine ⟨by omega, _, (by first | exact gm (by assumption) | exact gz (by assumption)), ?_⟩
        conv => whnf
        refine ⟨_, mk, ?_⟩
        conv => whnf
        cases c6 : decide (ee = 0)
        · have e := st.2 (of_decide_eq_false c6)
          rw [hgo, if_pos (by rw [e]; exact of_decide_eq_false c6), e]
          conv => whnf
          kernel_rfl
        · conv => whnf
          exact ⟨(IntKind.wrap .i64 ((q : Int) + 1), els ++ [s1 s.name], els.length + 1), by kernel_rfl, ⟨q + 1, nx (by omega), by omega, by rw [heq, htk]; simp, by simp, st.1 (of_decide_eq_true c6)⟩, by simp only; rw [nx (by omega)]; omega⟩
      · rw [c5, if_pos rfl] at ex
        rw [ex] at st
        have e := st.2 (by decide)
        rw [hgo, if_pos (by rw [e]; decide), e]
        conv => whnf
        kernel_rfl
  have hkq' : q = b.props.length := by have := of_decide_eq_false cq; omega
  rw [hkq', firstE_end] at hbq
  rw [if_neg (by rw [← hbq]; decide)] at hgo
  conv => whnf
  refine ⟨_, span_ok' b.redox (-10000) 10000, ?_⟩
  cases d1 : spanF b.redox (-10000) 10000
  · rw [d1] at hgo
    have hgo : R = 1 := hgo
    rw [hgo]
    conv => whnf
    kernel_rfl
  rw [d1] at hgo
  conv => whnf
  cases d2 : decide (b.wanted < 1)
  case true =>
    have e : withinF b.wanted 1 10000 = false := by unfold withinF; rw [show decide (1 ≤ b.wanted) = false from decide_eq_false (by have := of_decide_eq_true d2; omega)]; rfl
    rw [e] at hgo
    have hgo : R = 1 := hgo
    rw [hgo]
    conv => whnf
    kernel_rfl
  conv => whnf
  cases d3 : decide (b.wanted > 10000)
  case true =>
    have e : withinF b.wanted 1 10000 = false := by unfold withinF; rw [show decide (b.wanted ≤ 10000) = false from decide_eq_false (by have := of_decide_eq_true d3; omega), Bool.and_false]
    rw [e] at hgo
    have hgo : R = 1 := hgo
    rw [hgo]
    conv => whnf
    kernel_rfl
  have e : withinF b.wanted 1 10000 = true := by unfold withinF; rw [decide_eq_true (show 1 ≤ b.wanted by have := of_decide_eq_false d2; omega), decide_eq_true (show b.wanted ≤ 10000 by have := of_decide_eq_false d3; omega)]; rfl
  rw [e] at hgo
  have hgo : R = 0 := hgo
  rw [hgo]
  conv => whnf
  kernel_rfl
end Go.Proofs.YtalbkamkkceanaaGreatG
