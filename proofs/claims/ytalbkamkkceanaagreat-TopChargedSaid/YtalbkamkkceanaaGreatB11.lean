/- The specification's check of materials and of properties. No condition. -/
import Derived.Test.YtalbkamkkceanaaGreatB10
set_option linter.unusedVariables false
set_option linter.unusedSimpArgs false
set_option maxRecDepth 100000
set_option maxHeartbeats 4000000
namespace Go.Proofs.YtalbkamkkceanaaGreatG
open Go Go.AM Go.Proofs

theorem mbad {n : Nat} {m : Mat} (h : m.price < 0 ∨ m.price > 10000 ∨ m.redox < -1000 ∨ m.redox > 1000 ∨ m.least < 0 ∨ m.least > 10000 ∨ m.most < m.least ∨ m.most > 10000 ∨ m.step < 1 ∨ m.step > 10000) : matE n m = 1 := by
  have : matBad n m = true := by
    unfold matBad withinF
    simp only [Bool.or_eq_true, Bool.not_eq_true', Bool.and_eq_false_iff, decide_eq_false_iff_not]
    omega
  unfold matE; rw [if_pos this]
theorem mbad2 {n : Nat} {m : Mat} (h : ¬ (m.content.length : Int) = n) : matE n m = 1 := by
  have : matBad n m = true := by
    unfold matBad
    simp only [Bool.or_eq_true, Bool.not_eq_true', decide_eq_false_iff_not]
    exact .inr h
  unfold matE; rw [if_pos this]
theorem mgood {n : Nat} {m : Mat} (h : ¬ (m.price < 0 ∨ m.price > 10000 ∨ m.redox < -1000 ∨ m.redox > 1000 ∨ m.least < 0 ∨ m.least > 10000 ∨ m.most < m.least ∨ m.most > 10000 ∨ m.step < 1 ∨ m.step > 10000)) (h2 : (m.content.length : Int) = n) : matE n m = if (m.content.any fun s => !spanF s 0 1000) = true then 1 else if 1000 < lowSum m.content then 12 else 0 := by
  have : ¬ matBad n m = true := by
    unfold matBad withinF
    simp only [Bool.or_eq_true, Bool.not_eq_true', Bool.and_eq_false_iff, decide_eq_false_iff_not]
    omega
  unfold matE; rw [if_neg this]
theorem matR_ok (b : Bat) (m : Mat) (hb : b.oxides.length ≤ 20) (hc : m.content.length ≤ 20) : PureFn Tryz.prog 50 [batD b, .agg (matL m)] (int (matE b.oxides.length m)) := by
  refine pureFn_by Tryz.func50 k50 rfl rfl ?_
  obtain ⟨R, hR⟩ : ∃ R, matE b.oxides.length m = R := ⟨_, rfl⟩
  rw [hR]
  conv => whnf
  cases d0 : decide (m.price < 0)
  case true =>
    rw [← hR, mbad (by have := of_decide_eq_true d0; omega)]
    conv => whnf
    kernel_rfl
  conv => whnf
  cases d1 : decide (m.price > 10000)
  case true =>
    rw [← hR, mbad (by have := of_decide_eq_true d1; omega)]
    conv => whnf
    kernel_rfl
  conv => whnf
  cases d2 : decide (m.redox < -1000)
  case true =>
    rw [← hR, mbad (by have := of_decide_eq_true d2; omega)]
    conv => whnf
    kernel_rfl
  conv => whnf
  cases d3 : decide (m.redox > 1000)
  case true =>
    rw [← hR, mbad (by have := of_decide_eq_true d3; omega)]
    conv => whnf
    kernel_rfl
  conv => whnf
  cases d4 : decide (m.least < 0)
  case true =>
    rw [← hR, mbad (by have := of_decide_eq_true d4; omega)]
    conv => whnf
    kernel_rfl
  conv => whnf
  cases d5 : decide (m.least > 10000)
  case true =>
    rw [← hR, mbad (by have := of_decide_eq_true d5; omega)]
    conv => whnf
    kernel_rfl
  conv => whnf
  cases d6 : decide (m.most < m.least)
  case true =>
    rw [← hR, mbad (by have := of_decide_eq_true d6; omega)]
    conv => whnf
    kernel_rfl
  conv => whnf
  cases d7 : decide (m.most > 10000)
  case true =>
    rw [← hR, mbad (by have := of_decide_eq_true d7; omega)]
    conv => whnf
    kernel_rfl
  conv => whnf
  cases d8 : decide (m.step < 1)
  case true =>
    rw [← hR, mbad (by have := of_decide_eq_true d8; omega)]
    conv => whnf
    kernel_rfl
  conv => whnf
  cases d9 : decide (m.step > 10000)
  case true =>
    rw [← hR, mbad (by have := of_decide_eq_true d9; omega)]
    conv => whnf
    kernel_rfl
  conv => whnf
  rw [List.length_map, List.length_map]
  cases w : decide ((m.content.length : Int) = (b.oxides.length : Int))
  case false =>
    rw [← hR, mbad2 (of_decide_eq_false w)]
    conv => whnf
    kernel_rfl
  rw [mgood (by have e0 := of_decide_eq_false d0; have e1 := of_decide_eq_false d1; have e2 := of_decide_eq_false d2; have e3 := of_decide_eq_false d3; have e4 := of_decide_eq_false d4; have e5 := of_decide_eq_false d5; have e6 := of_decide_eq_false d6; have e7 := of_decide_eq_false d7; have e8 := of_decide_eq_false d8; have e9 := of_decide_eq_false d9; omega) (of_decide_eq_true w)] at hR
  conv => whnf
  refine loopB (fun (x : Int × Int) => ⟨mkT [(3, .d (.fptr (matL m))), (5, .d (int x.2)), (6, .d (int x.1))], mkB []⟩)
    (fun x => ∃ k : Nat, x.1 = k ∧ k ≤ m.content.length ∧ (if ((m.content.drop k).any fun s => !spanF s 0 1000) = true then 1 else if 1000 < x.2 + lowSum (m.content.drop k) then 12 else 0) = R ∧ 0 ≤ x.2 ∧ x.2 ≤ 1000 * (k : Int)) (fun x => (m.content.length - x.1).toNat) (0, 0) (by kernel_rfl) ⟨0, rfl, by omega, (by have e : (0 : Int) + lowSum m.content = lowSum m.content := Int.zero_add _; rw [← e] at hR; exact hR), by simp, by simp⟩ ?_
  rintro ⟨_, acc⟩ ⟨k, rfl, hk, h1, a0, a1⟩
  simp only at h1 a0 a1
  conv => whnf
  rw [List.length_map]
  cases c1 : decide ((k : Int) < (m.content.length : Int))
  · have hk' : k = m.content.length := by have := of_decide_eq_false c1; omega
    rw [hk', drop_end] at h1
    have h1 : (if 1000 < acc then 12 else 0) = R := by simpa [lowSum] using h1
    conv => whnf
    cases c2 : decide (acc > 1000)
    · rw [if_neg (of_decide_eq_false c2)] at h1
      rw [← h1]
      conv => whnf
      kernel_rfl
    · rw [if_pos (of_decide_eq_true c2)] at h1
      rw [← h1]
      conv => whnf
      kernel_rfl
  · have hk' : k < m.content.length := by have := of_decide_eq_true c1; omega
    obtain ⟨s, hs⟩ := get_lt hk'
    rw [drop_at hs, List.any_cons] at h1
    conv => whnf
    refine ⟨by omega, _, (by first | exact gm (by assumption) | exact gz (by assumption)), ?_⟩
    conv => whnf
    refine ⟨_, span_ok' s 0 1000, ?_⟩
    cases c2 : spanF s 0 1000
    · rw [c2] at h1
      have h1 : 1 = R := by simpa using h1
      rw [← h1]
      conv => whnf
      kernel_rfl
    · have hsp : 0 ≤ s.1 ∧ s.1 ≤ s.2 ∧ s.2 ≤ 1000 := by simpa [spanF, and_assoc] using c2
      have e1 : IntKind.wrap .i64 (acc + s.1) = acc + s.1 := wr_eq (by omega)
      rw [c2] at h1
      conv => whnf
      conv => whnf
      refine ⟨by omega, _, (by first | exact gm (by assumption) | exact gz (by assumption)), ?_⟩
      conv => whnf
      rw [e1]
      refine ⟨(IntKind.wrap .i64 ((k : Int) + 1), acc + s.1), by kernel_rfl, ⟨k + 1, nx (by omega), by omega, ?_, by simp only; omega, by simp only; omega⟩, by simp only; rw [nx (by omega)]; omega⟩
      rw [← h1]
      have e2 : lowSum (s :: m.content.drop (k + 1)) = s.1 + lowSum (m.content.drop (k + 1)) := by simp [lowSum]
      rw [e2, ← Int.add_assoc]
      rfl
theorem coefR (c : Int) : (!coefOk c) = (decide (c < -10000) || decide (c > 10000)) := by
  unfold coefOk withinF
  rw [Bool.eq_iff_iff]; simp
theorem ptyR_ok (b : Bat) (p : Pty) (hb : b.oxides.length ≤ 20) (hc : p.coefs.length ≤ 20) : PureFn Tryz.prog 52 [batD b, .agg (ptyL p)] (int (ptyE b.oxides.length p)) := by
  refine pureFn_by Tryz.func52 k52 rfl rfl ?_
  obtain ⟨R, hR⟩ : ∃ R, ptyE b.oxides.length p = R := ⟨_, rfl⟩
  rw [hR]
  unfold ptyE at hR
  conv => whnf
  rw [List.length_map, List.length_map]
  cases w1 : decide ((p.coefs.length : Int) = (b.oxides.length : Int))
  · rw [w1] at hR; have hR : 1 = R := hR; rw [← hR]
    conv => whnf
    kernel_rfl
  rw [w1] at hR
  conv => whnf
  refine loopB (fun (i : Int) => ⟨mkT [(3, .d (.fptr (ptyL p))), (5, .d (int i))], mkB []⟩)
    (fun i => ∃ k : Nat, i = k ∧ k ≤ p.coefs.length ∧ (if (((p.coefs.drop k).any fun c => !coefOk c) || !spanF p.target (-10000) 10000) = true then 1 else 0) = R) (fun i => (p.coefs.length - i).toNat) 0 (by kernel_rfl) ⟨0, rfl, by omega, hR⟩ ?_
  rintro _ ⟨k, rfl, hk, h1⟩
  conv => whnf
  rw [List.length_map]
  cases c1 : decide ((k : Int) < (p.coefs.length : Int))
  · have hk' : k = p.coefs.length := by have := of_decide_eq_false c1; omega
    rw [hk', drop_end] at h1
    have h1 : (if (!spanF p.target (-10000) 10000) = true then 1 else 0) = R := h1
    conv => whnf
    refine ⟨_, span_ok' p.target (-10000) 10000, ?_⟩
    cases c2 : spanF p.target (-10000) 10000
    · rw [c2] at h1
      rw [← h1]
      conv => whnf
      kernel_rfl
    · rw [c2] at h1
      rw [← h1]
      conv => whnf
      kernel_rfl
  · have hk' : k < p.coefs.length := by have := of_decide_eq_true c1; omega
    obtain ⟨c, hcc⟩ := get_lt hk'
    rw [drop_at hcc, List.any_cons, coefR] at h1
    conv => whnf
    refine ⟨by omega, _, (by first | exact gm (by assumption) | exact gz (by assumption)), ?_⟩
    conv => whnf
    cases c2 : decide (c < -10000)
    · conv => whnf
      conv => whnf
      refine ⟨by omega, _, (by first | exact gm (by assumption) | exact gz (by assumption)), ?_⟩
      conv => whnf
      cases c3 : decide (c > 10000)
      · rw [c2, c3] at h1
        conv => whnf
        exact ⟨IntKind.wrap .i64 ((k : Int) + 1), by kernel_rfl, ⟨k + 1, nx (by omega), by omega, h1⟩, by rw [nx (by omega)]; omega⟩
      · rw [c2, c3] at h1
        have h1 : 1 = R := h1
        rw [← h1]
        conv => whnf
        kernel_rfl
    · rw [c2] at h1
      have h1 : 1 = R := h1
      rw [← h1]
      conv => whnf
      kernel_rfl
end Go.Proofs.YtalbkamkkceanaaGreatG
