/- The specification's frame, its shifts and its check. No condition. -/
import Derived.Test.YtmkmegcconjgoaaP30
import Derived.Test.YtmkmegcconjgoaaP35
set_option linter.unusedVariables false
set_option linter.unusedSimpArgs false
set_option maxRecDepth 100000
set_option maxHeartbeats 4000000
namespace Go.Proofs.YtmkmegcconjgoaaG
open Go Go.AM Go.Proofs

theorem firstE_step {α : Type} {e : Nat → α → Int} {xs : List α} {i : Nat} {x : α} {E : Int} (hx : xs[i]? = some x) (h : firstE e (xs.drop i) i = E) : (e i x = 0 → firstE e (xs.drop (i + 1)) (i + 1) = E) ∧ (e i x ≠ 0 → E = e i x) := by
  rw [firstE_at hx] at h
  refine ⟨fun h0 => ?_, fun h0 => ?_⟩
  · rw [if_pos h0] at h; exact h
  · rw [if_neg h0] at h; exact h.symm
theorem frame_ok' (s : Season) (hs : Sm s) : PureFn Try.prog 52 [seasonD s] (int (frameE s)) := by
  have har := hs.arts
  have hov := hs.ovens
  have hmk := hs.makers
  have hco := hs.cols
  have hjo := hs.jobs
  have hor := hs.orders
  refine pureFn_by Try.func52 k52 rfl rfl ?_
  obtain ⟨R, hR⟩ : ∃ R, frameE s = R := ⟨_, rfl⟩
  rw [hR]
  unfold frameE articlesE makersE ordersE at hR
  obtain ⟨EA, hEA⟩ : ∃ E, firstE (artE s) s.arts 0 = E := ⟨_, rfl⟩
  obtain ⟨EO, hEO⟩ : ∃ E, firstE ovE s.ovens 0 = E := ⟨_, rfl⟩
  obtain ⟨EM, hEM⟩ : ∃ E, firstE (mkE s) s.makers 0 = E := ⟨_, rfl⟩
  obtain ⟨ER, hER⟩ : ∃ E, firstE (ordE s) s.orders 0 = E := ⟨_, rfl⟩
  rw [hEA, hEO, hEM, hER] at hR
  have c4 := turns_ok' s.jobs s.arts.length (by omega)
  have c5 := turns_ok' s.cols s.cols.length (by omega)
  conv => whnf
  refine ⟨_, within_ok' _ _ _, ?_⟩
  cases w1 : withinF s.days 1 14
  · rw [w1, if_pos rfl] at hR
    rw [← hR]
    conv => whnf
    kernel_rfl
  rw [w1, if_neg (by decide)] at hR
  conv => whnf
  cases w2 : decide (8 < ((s.arts.map artL).length : Int))
  case true =>
    have w2' : 8 < s.arts.length := by have := of_decide_eq_true w2; rw [List.length_map] at this; omega
    rw [if_pos w2', if_pos (by decide)] at hR
    rw [← hR]
    conv => whnf
    kernel_rfl
  have w2' : ¬ 8 < s.arts.length := by have := of_decide_eq_false w2; rw [List.length_map] at this; omega
  rw [if_neg w2'] at hR
  conv => whnf
  refine loopB (fun (k : Int) => ⟨mkT [(1, .d (.fptr (cellsS s))), (3, .d (int k))], mkB []⟩)
    (fun z => ∃ k : Nat, z = k ∧ k ≤ s.arts.length ∧ firstE (artE s) (s.arts.drop k) k = EA) (fun k => (s.arts.length - k).toNat) 0 (by kernel_rfl) ⟨0, rfl, by omega, hEA⟩ ?_
  rintro _ ⟨k, rfl, hk, hb⟩
  conv => whnf
  cases c1 : decide ((k : Int) < ((s.arts.map artL).length : Int))
  case true =>
    have hk' : k < s.arts.length := by have := of_decide_eq_true c1; rw [List.length_map] at this; omega
    obtain ⟨a, ha⟩ := get_lt hk'
    have st := firstE_step ha hb
    have ck := article_ok' s hs k a ha
    obtain ⟨e, he⟩ : ∃ e, artE s k a = e := ⟨_, rfl⟩
    rw [he] at st ck
    conv => whnf
    refine ⟨_, ck, ?_⟩
    conv => whnf
    cases c2 : decide (e = 0)
    · have n2 := of_decide_eq_false c2
      have e2 := st.2 n2
      rw [e2, if_pos n2, if_pos n2] at hR
      rw [← hR]
      conv => whnf
      kernel_rfl
    · conv => whnf
      exact ⟨IntKind.wrap .i64 ((k : Int) + 1), by kernel_rfl, ⟨k + 1, nx (by omega), by omega, st.1 (of_decide_eq_true c2)⟩, by rw [nx (by omega)]; omega⟩
  have hk' : k = s.arts.length := by have := of_decide_eq_false c1; rw [List.length_map] at this; omega
  rw [hk', firstE_end] at hb
  subst hb
  rw [if_neg (show ¬ (0 : Int) ≠ 0 by decide)] at hR
  clear c1 hk'
  conv => whnf
  cases w3 : decide (3 < ((s.ovens.map i2).length : Int))
  case true =>
    have w3' : 3 < s.ovens.length := by have := of_decide_eq_true w3; rw [List.length_map] at this; omega
    rw [if_pos w3', if_pos (by decide)] at hR
    rw [← hR]
    conv => whnf
    kernel_rfl
  have w3' : ¬ 3 < s.ovens.length := by have := of_decide_eq_false w3; rw [List.length_map] at this; omega
  rw [if_neg w3'] at hR
  conv => whnf
  refine loopB (fun (k : Int) => ⟨mkT [(1, .d (.fptr (cellsS s))), (5, .d (int k))], mkB []⟩)
    (fun z => ∃ k : Nat, z = k ∧ k ≤ s.ovens.length ∧ firstE ovE (s.ovens.drop k) k = EO) (fun k => (s.ovens.length - k).toNat) 0 (by kernel_rfl) ⟨0, rfl, by omega, hEO⟩ ?_
  rintro _ ⟨k, rfl, hk, hb⟩
  conv => whnf
  cases c1 : decide ((k : Int) < ((s.ovens.map i2).length : Int))
  case true =>
    have hk' : k < s.ovens.length := by have := of_decide_eq_true c1; rw [List.length_map] at this; omega
    obtain ⟨a, ha⟩ := get_lt hk'
    have st := firstE_step ha hb
    have bad : (decide (a.1 < 0) || decide (a.2 < a.1) || decide (1000000 < a.2)) = true → R = 1 := fun h => by
      have e1 : ovE k a = 1 := by unfold ovE; rw [if_pos h]
      rw [e1] at st
      have := st.2 (by decide)
      rw [this, if_pos (by decide)] at hR
      exact hR.symm
    conv => whnf
    refine ⟨by omega, _, (by first | exact gm (by assumption) | exact gz (by assumption)), ?_⟩
    conv => whnf
    cases d1 : decide (a.1 < 0)
    · conv => whnf
      cases d2 : decide (a.2 < a.1)
      · conv => whnf
        cases d3 : decide (1000000 < a.2)
        · conv => whnf
          have e0 : ovE k a = 0 := by unfold ovE; rw [d1, d2, d3]; rfl
          exact ⟨IntKind.wrap .i64 ((k : Int) + 1), by kernel_rfl, ⟨k + 1, nx (by omega), by omega, st.1 e0⟩, by rw [nx (by omega)]; omega⟩
        · rw [bad (by rw [d1, d2, d3]; rfl)]
          conv => whnf
          kernel_rfl
      · rw [bad (by rw [d1, d2]; rfl)]
        conv => whnf
        kernel_rfl
    · rw [bad (by rw [d1]; rfl)]
      conv => whnf
      kernel_rfl
  have hk' : k = s.ovens.length := by have := of_decide_eq_false c1; rw [List.length_map] at this; omega
  rw [hk', firstE_end] at hb
  subst hb
  rw [if_neg (show ¬ (0 : Int) ≠ 0 by decide)] at hR
  clear c1 hk'
  conv => whnf
  cases w4 : decide (6 < ((s.makers.map mkL).length : Int))
  case true =>
    have w4' : 6 < s.makers.length := by have := of_decide_eq_true w4; rw [List.length_map] at this; omega
    rw [if_pos w4', if_pos (by decide)] at hR
    rw [← hR]
    conv => whnf
    kernel_rfl
  have w4' : ¬ 6 < s.makers.length := by have := of_decide_eq_false w4; rw [List.length_map] at this; omega
  rw [if_neg w4'] at hR
  conv => whnf
  refine loopB (fun (k : Int) => ⟨mkT [(1, .d (.fptr (cellsS s))), (7, .d (int k))], mkB []⟩)
    (fun z => ∃ k : Nat, z = k ∧ k ≤ s.makers.length ∧ firstE (mkE s) (s.makers.drop k) k = EM) (fun k => (s.makers.length - k).toNat) 0 (by kernel_rfl) ⟨0, rfl, by omega, hEM⟩ ?_
  rintro _ ⟨k, rfl, hk, hb⟩
  conv => whnf
  cases c1 : decide ((k : Int) < ((s.makers.map mkL).length : Int))
  case true =>
    have hk' : k < s.makers.length := by have := of_decide_eq_true c1; rw [List.length_map] at this; omega
    obtain ⟨a, ha⟩ := get_lt hk'
    have st := firstE_step ha hb
    have ck := maker_ok' s hs a (hs.rates a (List.mem_of_getElem? ha)) k
    obtain ⟨e, he⟩ : ∃ e, mkE s k a = e := ⟨_, rfl⟩
    rw [he] at st ck
    conv => whnf
    refine ⟨by omega, _, (by first | exact gm (by assumption) | exact gz (by assumption)), ?_⟩
    conv => whnf
    refine ⟨_, ck, ?_⟩
    conv => whnf
    cases c2 : decide (e = 0)
    · have n2 := of_decide_eq_false c2
      have e2 := st.2 n2
      rw [e2, if_pos n2] at hR
      rw [← hR]
      conv => whnf
      kernel_rfl
    · conv => whnf
      exact ⟨IntKind.wrap .i64 ((k : Int) + 1), by kernel_rfl, ⟨k + 1, nx (by omega), by omega, st.1 (of_decide_eq_true c2)⟩, by rw [nx (by omega)]; omega⟩
  have hk' : k = s.makers.length := by have := of_decide_eq_false c1; rw [List.length_map] at this; omega
  rw [hk', firstE_end] at hb
  subst hb
  rw [if_neg (show ¬ (0 : Int) ≠ 0 by decide)] at hR
  clear c1 hk'
  conv => whnf
  rw [List.length_map]
  refine ⟨_, c4, ?_⟩
  cases w5 : turnsF s.jobs s.arts.length
  · rw [w5, if_pos rfl] at hR
    rw [← hR]
    conv => whnf
    kernel_rfl
  rw [w5, if_neg (by decide)] at hR
  conv => whnf
  cases w6 : decide (6 < ((s.cols.map pairsL).length : Int))
  case true =>
    have w6' : 6 < s.cols.length := by have := of_decide_eq_true w6; rw [List.length_map] at this; omega
    rw [if_pos w6'] at hR
    rw [← hR]
    conv => whnf
    kernel_rfl
  have w6' : ¬ 6 < s.cols.length := by have := of_decide_eq_false w6; rw [List.length_map] at this; omega
  rw [if_neg w6'] at hR
  conv => whnf
  rw [List.length_map]
  refine ⟨_, c5, ?_⟩
  cases w7 : turnsF s.cols s.cols.length
  · rw [w7, if_pos rfl] at hR
    rw [← hR]
    conv => whnf
    kernel_rfl
  rw [w7, if_neg (by decide)] at hR
  conv => whnf
  cases w8 : decide (((s.arts.map artL).length : Int) < ((s.orders.map ordL).length : Int))
  case true =>
    have w8' : s.arts.length < s.orders.length := by have := of_decide_eq_true w8; rw [List.length_map, List.length_map] at this; omega
    rw [if_pos w8'] at hR
    rw [← hR]
    conv => whnf
    kernel_rfl
  have w8' : ¬ s.arts.length < s.orders.length := by have := of_decide_eq_false w8; rw [List.length_map, List.length_map] at this; omega
  rw [if_neg w8'] at hR
  subst hR
  conv => whnf
  refine loopB (fun (k : Int) => ⟨mkT [(1, .d (.fptr (cellsS s))), (9, .d (int k))], mkB []⟩)
    (fun z => ∃ k : Nat, z = k ∧ k ≤ s.orders.length ∧ firstE (ordE s) (s.orders.drop k) k = ER) (fun k => (s.orders.length - k).toNat) 0 (by kernel_rfl) ⟨0, rfl, by omega, hER⟩ ?_
  rintro _ ⟨k, rfl, hk, hb⟩
  conv => whnf
  cases c1 : decide ((k : Int) < ((s.orders.map ordL).length : Int))
  · have hk' : k = s.orders.length := by have := of_decide_eq_false c1; rw [List.length_map] at this; omega
    rw [hk', firstE_end] at hb
    rw [← hb]
    conv => whnf
    kernel_rfl
  · have hk' : k < s.orders.length := by have := of_decide_eq_true c1; rw [List.length_map] at this; omega
    obtain ⟨a, ha⟩ := get_lt hk'
    have st := firstE_step ha hb
    have ck := order_ok' s hs k a ha
    obtain ⟨e, he⟩ : ∃ e, ordE s k a = e := ⟨_, rfl⟩
    rw [he] at st ck
    conv => whnf
    refine ⟨_, ck, ?_⟩
    conv => whnf
    cases c2 : decide (e = 0)
    · rw [st.2 (of_decide_eq_false c2)]
      conv => whnf
      kernel_rfl
    · conv => whnf
      exact ⟨IntKind.wrap .i64 ((k : Int) + 1), by kernel_rfl, ⟨k + 1, nx (by omega), by omega, st.1 (of_decide_eq_true c2)⟩, by rw [nx (by omega)]; omega⟩
end Go.Proofs.YtmkmegcconjgoaaG
