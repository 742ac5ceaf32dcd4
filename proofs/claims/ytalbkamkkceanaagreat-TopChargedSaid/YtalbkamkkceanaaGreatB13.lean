/- The specification's sums, choices, totals, costs. No condition. -/
import Derived.Test.YtalbkamkkceanaaGreatB12
set_option linter.unusedVariables false
set_option linter.unusedSimpArgs false
set_option maxRecDepth 100000
set_option maxHeartbeats 4000000
namespace Go.Proofs.YtalbkamkkceanaaGreatG
open Go Go.AM Go.Proofs

theorem sumsR_ok (l : List (Int × Int)) (hc : Con l) : PureFn Tryz.prog 101 [pairsD l] (.tup [int (lowSum l), int (highSum l)]) := by
  have hcl := hc.1
  refine pureFn_by Tryz.func101 k101 rfl rfl ?_
  obtain ⟨A, hA⟩ : ∃ A, lowSum l = A := ⟨_, rfl⟩
  obtain ⟨B, hB⟩ : ∃ B, highSum l = B := ⟨_, rfl⟩
  rw [hA, hB]
  conv => whnf
  refine loopB (fun (x : Int × Int × Int) => ⟨mkT [(0, .d (pairsD l)), (4, .d (int x.2.1)), (5, .d (int x.2.2)), (6, .d (int x.1))], mkB []⟩)
    (fun x => ∃ k : Nat, x.1 = k ∧ k ≤ l.length ∧ x.2.1 + lowSum (l.drop k) = A ∧ x.2.2 + highSum (l.drop k) = B ∧ 0 ≤ x.2.1 ∧ x.2.1 ≤ 1000 * (k : Int) ∧ 0 ≤ x.2.2 ∧ x.2.2 ≤ 1000 * (k : Int)) (fun x => (l.length - x.1).toNat) (0, 0, 0) (by kernel_rfl)
    ⟨0, rfl, by omega, by simpa using hA, by simpa using hB, by simp, by simp, by simp, by simp⟩ ?_
  rintro ⟨_, lo, hi⟩ ⟨k, rfl, hk, h1, h2, a0, a1, b0, b1⟩
  simp only at h1 h2 a0 a1 b0 b1
  conv => whnf
  cases c1 : decide ((k : Int) < ((l.map i2).length : Int))
  · have hk' : k = l.length := by have := of_decide_eq_false c1; rw [List.length_map] at this; omega
    rw [hk', drop_end] at h1 h2
    have h1 : lo = A := by simpa [lowSum] using h1
    have h2 : hi = B := by simpa [highSum] using h2
    rw [← h1, ← h2]
    conv => whnf
    kernel_rfl
  · have hk' : k < l.length := by have := of_decide_eq_true c1; rw [List.length_map] at this; omega
    obtain ⟨s, hs⟩ := get_lt hk'
    have hsr := hc.2 s (List.mem_of_getElem? hs)
    rw [lowSum_at hs] at h1
    rw [highSum_at hs] at h2
    have e1 : IntKind.wrap .i64 (lo + s.1) = lo + s.1 := wr_eq (by omega)
    have e2 : IntKind.wrap .i64 (hi + s.2) = hi + s.2 := wr_eq (by omega)
    conv => whnf
    refine ⟨by omega, _, (by first | exact gm (by assumption) | exact gz (by assumption)), ?_⟩
    conv => whnf
    conv => whnf
    refine ⟨by omega, _, (by first | exact gm (by assumption) | exact gz (by assumption)), ?_⟩
    conv => whnf
    exact ⟨(IntKind.wrap .i64 ((k : Int) + 1), IntKind.wrap .i64 (lo + s.1), IntKind.wrap .i64 (hi + s.2)), by kernel_rfl, ⟨k + 1, nx (by omega), by omega, by simp only; rw [e1]; omega, by simp only; rw [e2]; omega, by simp only; rw [e1]; omega, by simp only; rw [e1]; omega, by simp only; rw [e2]; omega, by simp only; rw [e2]; omega⟩, by simp only; rw [nx (by omega)]; omega⟩
def aboveF (cs : List Int) (l : List (Int × Int)) (n : Int) : Int := greatL (fun k => cs.getD k 0 - n) l 0
def belowF (cs : List Int) (l : List (Int × Int)) (n : Int) : Int := greatL (fun k => n - cs.getD k 0) l 0
theorem above_ok (cs : List Int) (l : List (Int × Int)) (n : Int) (hl : l.length ≤ 12) (hcl : cs.length = l.length) (hcs : ∀ c ∈ cs, -10000 ≤ c ∧ c ≤ 10000) (hn : -10000 ≤ n ∧ n ≤ 10000) (hs : ∀ s ∈ l, 0 ≤ s.1 ∧ s.1 ≤ s.2 ∧ s.2 ≤ 1000) :
    PureFn Tryz.prog 103 [rowD cs, pairsD l, int n] (int (aboveF cs l n)) := by
  refine pureFn_by Tryz.func103 k103 rfl rfl ?_
  obtain ⟨d, hd⟩ : ∃ d : Nat → Int, (fun k => cs.getD k 0 - n) = d := ⟨_, rfl⟩
  obtain ⟨A, hA⟩ : ∃ A, greatL d l 0 = A := ⟨_, rfl⟩
  rw [show aboveF cs l n = A by rw [← hA, ← hd]; rfl]
  conv => whnf
  refine loopB (fun (x : Int × Int) => ⟨mkT [(0, .d (rowD cs)), (1, .d (pairsD l)), (2, .d (int n)), (7, .d (int x.2)), (8, .d (int x.1))], mkB []⟩)
    (fun x => ∃ k : Nat, x.1 = k ∧ k ≤ l.length ∧ x.2 + greatL d (l.drop k) k = A ∧ -40000000 * (k : Int) ≤ x.2 ∧ x.2 ≤ 40000000 * (k : Int)) (fun x => (l.length - x.1).toNat) (0, 0) (by kernel_rfl) ⟨0, rfl, by omega, by simpa using hA, by simp, by simp⟩ ?_
  rintro ⟨_, acc⟩ ⟨k, rfl, hk, h1, a0, a1⟩
  simp only at h1 a0 a1
  conv => whnf
  cases c1 : decide ((k : Int) < ((l.map i2).length : Int))
  · have hk' : k = l.length := by have := of_decide_eq_false c1; rw [List.length_map] at this; omega
    rw [hk', drop_end] at h1
    have h1 : acc = A := by simpa [greatL] using h1
    rw [← h1]
    conv => whnf
    kernel_rfl
  · have hk' : k < l.length := by have := of_decide_eq_true c1; rw [List.length_map] at this; omega
    obtain ⟨s, hsk⟩ := get_lt hk'
    obtain ⟨c, hck⟩ := get_lt (xs := cs) (i := k) (by omega)
    have hsr := hs s (List.mem_of_getElem? hsk)
    have hcr := hcs c (List.mem_of_getElem? hck)
    have hdk : d k = c - n := by rw [← hd]; simp [List.getD, hck]
    have m1 := mul_bound (B := 40000) (d := c - n) (by omega) (s := s.1) (by omega)
    have m2 := mul_bound (B := 40000) (d := c - n) (by omega) (s := s.2) (by omega)
    rw [drop_at hsk, greatL, hdk] at h1
    have e0 : IntKind.wrap .i64 (c - n) = c - n := wr_eq (by omega)
    have e1 : IntKind.wrap .i64 ((c - n) * s.1) = (c - n) * s.1 := wr_eq (by omega)
    have e2 : IntKind.wrap .i64 ((c - n) * s.2) = (c - n) * s.2 := wr_eq (by omega)
    have e3 : IntKind.wrap .i64 (acc + max ((c - n) * s.1) ((c - n) * s.2)) = acc + max ((c - n) * s.1) ((c - n) * s.2) := wr_eq (by omega)
    conv => whnf
    refine ⟨by omega, _, (by first | exact gm (by assumption) | exact gz (by assumption)), ?_⟩
    conv => whnf
    conv => whnf
    refine ⟨by omega, _, (by first | exact gm (by assumption) | exact gz (by assumption)), ?_⟩
    conv => whnf
    conv => whnf
    refine ⟨by omega, _, (by first | exact gm (by assumption) | exact gz (by assumption)), ?_⟩
    conv => whnf
    rw [e0, e1, e2, e3]
    exact ⟨(IntKind.wrap .i64 ((k : Int) + 1), acc + max ((c - n) * s.1) ((c - n) * s.2)), by kernel_rfl, ⟨k + 1, nx (by omega), by omega, by simp only; omega, by simp only; omega, by simp only; omega⟩, by simp only; rw [nx (by omega)]; omega⟩
theorem below_ok (cs : List Int) (l : List (Int × Int)) (n : Int) (hl : l.length ≤ 12) (hcl : cs.length = l.length) (hcs : ∀ c ∈ cs, -10000 ≤ c ∧ c ≤ 10000) (hn : -10000 ≤ n ∧ n ≤ 10000) (hs : ∀ s ∈ l, 0 ≤ s.1 ∧ s.1 ≤ s.2 ∧ s.2 ≤ 1000) :
    PureFn Tryz.prog 104 [rowD cs, pairsD l, int n] (int (belowF cs l n)) := by
  refine pureFn_by Tryz.func104 k104 rfl rfl ?_
  obtain ⟨d, hd⟩ : ∃ d : Nat → Int, (fun k => n - cs.getD k 0) = d := ⟨_, rfl⟩
  obtain ⟨A, hA⟩ : ∃ A, greatL d l 0 = A := ⟨_, rfl⟩
  rw [show belowF cs l n = A by rw [← hA, ← hd]; rfl]
  conv => whnf
  refine loopB (fun (x : Int × Int) => ⟨mkT [(0, .d (rowD cs)), (1, .d (pairsD l)), (2, .d (int n)), (7, .d (int x.2)), (8, .d (int x.1))], mkB []⟩)
    (fun x => ∃ k : Nat, x.1 = k ∧ k ≤ l.length ∧ x.2 + greatL d (l.drop k) k = A ∧ -40000000 * (k : Int) ≤ x.2 ∧ x.2 ≤ 40000000 * (k : Int)) (fun x => (l.length - x.1).toNat) (0, 0) (by kernel_rfl) ⟨0, rfl, by omega, by simpa using hA, by simp, by simp⟩ ?_
  rintro ⟨_, acc⟩ ⟨k, rfl, hk, h1, a0, a1⟩
  simp only at h1 a0 a1
  conv => whnf
  cases c1 : decide ((k : Int) < ((l.map i2).length : Int))
  · have hk' : k = l.length := by have := of_decide_eq_false c1; rw [List.length_map] at this; omega
    rw [hk', drop_end] at h1
    have h1 : acc = A := by simpa [greatL] using h1
    rw [← h1]
    conv => whnf
    kernel_rfl
  · have hk' : k < l.length := by have := of_decide_eq_true c1; rw [List.length_map] at this; omega
    obtain ⟨s, hsk⟩ := get_lt hk'
    obtain ⟨c, hck⟩ := get_lt (xs := cs) (i := k) (by omega)
    have hsr := hs s (List.mem_of_getElem? hsk)
    have hcr := hcs c (List.mem_of_getElem? hck)
    have hdk : d k = n - c := by rw [← hd]; simp [List.getD, hck]
    have m1 := mul_bound (B := 40000) (d := n - c) (by omega) (s := s.1) (by omega)
    have m2 := mul_bound (B := 40000) (d := n - c) (by omega) (s := s.2) (by omega)
    rw [drop_at hsk, greatL, hdk] at h1
    have e0 : IntKind.wrap .i64 (n - c) = n - c := wr_eq (by omega)
    have e1 : IntKind.wrap .i64 ((n - c) * s.1) = (n - c) * s.1 := wr_eq (by omega)
    have e2 : IntKind.wrap .i64 ((n - c) * s.2) = (n - c) * s.2 := wr_eq (by omega)
    have e3 : IntKind.wrap .i64 (acc + max ((n - c) * s.1) ((n - c) * s.2)) = acc + max ((n - c) * s.1) ((n - c) * s.2) := wr_eq (by omega)
    conv => whnf
    refine ⟨by omega, _, (by first | exact gm (by assumption) | exact gz (by assumption)), ?_⟩
    conv => whnf
    conv => whnf
    refine ⟨by omega, _, (by first | exact gm (by assumption) | exact gz (by assumption)), ?_⟩
    conv => whnf
    conv => whnf
    refine ⟨by omega, _, (by first | exact gm (by assumption) | exact gz (by assumption)), ?_⟩
    conv => whnf
    rw [e0, e1, e2, e3]
    exact ⟨(IntKind.wrap .i64 ((k : Int) + 1), acc + max ((n - c) * s.1) ((n - c) * s.2)), by kernel_rfl, ⟨k + 1, nx (by omega), by omega, by simp only; omega, by simp only; omega, by simp only; omega⟩, by simp only; rw [nx (by omega)]; omega⟩
/-- How many recipes, as the specification counts. -/
def choicesL : List Mat → Int → Int
  | [], n => n
  | m :: l, n => if n ≤ 100000 then choicesL l (n * kn m) else n
theorem few_choices : ∀ {l : List Mat} {n : Int}, n ≤ 100000 → (fewL l n = true ↔ choicesL l n ≤ 100000)
  | [], n, h => by simp [fewL, choicesL, h]
  | m :: l, n, h => by
    simp only [fewL, choicesL, if_pos h]
    by_cases h2 : 100000 < n * kn m
    · rw [if_pos h2]
      have : choicesL l (n * kn m) = n * kn m := by
        cases l with
        | nil => rfl
        | cons m2 l => simp only [choicesL]; rw [if_neg (by omega)]
      rw [this]
      simp; omega
    · rw [if_neg h2]
      exact few_choices (by omega)
theorem choices_ok (b : Bat) (hb : Bf b) : PureFn Tryz.prog 20 [batD b] (int (choicesL b.mats 1)) := by
  have hnm := hb.nm
  refine pureFn_by Tryz.func20 k20 rfl rfl ?_
  obtain ⟨A, hA⟩ : ∃ A, choicesL b.mats 1 = A := ⟨_, rfl⟩
  rw [hA]
  conv => whnf
  refine loopB (fun (x : Int × Int) => ⟨mkT [(1, .d (.fptr (cellsB b))), (3, .d (int x.2)), (4, .d (int x.1))], mkB []⟩)
    (fun x => ∃ k : Nat, x.1 = k ∧ k ≤ b.mats.length ∧ choicesL (b.mats.drop k) x.2 = A ∧ 0 ≤ x.2 ∧ x.2 ≤ 2000000000) (fun x => (b.mats.length - x.1).toNat) (0, 1) (by kernel_rfl) ⟨0, rfl, by omega, by simpa using hA, by simp, by simp⟩ ?_
  rintro ⟨_, n⟩ ⟨k, rfl, hkl, h1, a0, a1⟩
  simp only at h1 a0 a1
  conv => whnf
  cases c1 : decide ((k : Int) < ((b.mats.map matL).length : Int))
  · have hk' : k = b.mats.length := by have := of_decide_eq_false c1; rw [List.length_map] at this; omega
    rw [hk', drop_end] at h1
    have h1 : n = A := h1
    rw [← h1]
    conv => whnf
    kernel_rfl
  · have hk' : k < b.mats.length := by have := of_decide_eq_true c1; rw [List.length_map] at this; omega
    obtain ⟨m, hm⟩ := get_lt hk'
    have hx := hb.mat m (List.mem_of_getElem? hm)
    have hkn := kn_bound hb (List.mem_of_getElem? hm)
    rw [drop_at hm, choicesL] at h1
    conv => whnf
    cases c2 : decide (n ≤ 100000)
    · rw [if_neg (of_decide_eq_false c2)] at h1
      rw [← h1]
      conv => whnf
      kernel_rfl
    · have hn := of_decide_eq_true c2
      rw [if_pos hn] at h1
      have e1 : IntKind.wrap .i64 (m.most - m.least) = m.most - m.least := wr_eq (by omega)
      have e2 : IntKind.wrap .i64 ((IntKind.wrap .i64 (m.most - m.least)).tdiv m.step) = (m.most - m.least).tdiv m.step := by rw [e1]; exact wr_eq (by unfold kn at hkn; omega)
      have e3 : IntKind.wrap .i64 (IntKind.wrap .i64 ((IntKind.wrap .i64 (m.most - m.least)).tdiv m.step) + 1) = kn m := by rw [e2]; exact wr_eq (by unfold kn at hkn; omega)
      have m0 : 0 ≤ n * kn m := Int.mul_nonneg (by omega) (by omega)
      have m1 : n * kn m ≤ 100000 * 10001 := Int.mul_le_mul hn hkn.2 (by omega) (by omega)
      have e4 : IntKind.wrap .i64 (n * kn m) = n * kn m := wr_eq (by omega)
      conv => whnf
      conv => whnf
      refine ⟨by omega, _, (by first | exact gm (by assumption) | exact gz (by assumption)), ?_⟩
      conv => whnf
      refine ⟨by omega, ?_⟩
      conv => whnf
      rw [e3, e4]
      exact ⟨(IntKind.wrap .i64 ((k : Int) + 1), n * kn m), by kernel_rfl, ⟨k + 1, nx (by omega), by omega, h1, m0, by simp only; omega⟩, by simp only; rw [nx (by omega)]; omega⟩
theorem total_ok (l : List Int × Int) (r : List Int) (hl : l.1.length ≤ 12) (hr : r.length = l.1.length) (hk : ∀ k ∈ r, 0 ≤ k ∧ k ≤ 10000) (hf : ∀ c ∈ l.1, -2000000000 ≤ c ∧ c ≤ 2000000000) :
    PureFn Tryz.prog 134 [.agg (lineL l), rowD r] (int (dotF r l.1)) := by
  refine pureFn_by Tryz.func134 k134 rfl rfl ?_
  obtain ⟨A, hA⟩ : ∃ A, dotF r l.1 = A := ⟨_, rfl⟩
  rw [hA]
  conv => whnf
  refine loopB (fun (x : Int × Int) => ⟨mkT [(1, .d (rowD r)), (2, .d (.fptr (lineL l))), (5, .d (int x.2)), (6, .d (int x.1))], mkB []⟩)
    (fun x => ∃ k : Nat, x.1 = k ∧ k ≤ l.1.length ∧ x.2 + dotF (r.drop k) (l.1.drop k) = A ∧ -20000000000000 * (k : Int) ≤ x.2 ∧ x.2 ≤ 20000000000000 * (k : Int)) (fun x => (l.1.length - x.1).toNat) (0, 0) (by kernel_rfl) ⟨0, rfl, by omega, by simpa using hA, by simp, by simp⟩ ?_
  rintro ⟨_, acc⟩ ⟨k, rfl, hkl, h1, a0, a1⟩
  simp only at h1 a0 a1
  conv => whnf
  cases c1 : decide ((k : Int) < ((r.map i1).length : Int))
  · have hk' : k = l.1.length := by have := of_decide_eq_false c1; rw [List.length_map] at this; omega
    rw [hk', drop_end, dotF_nil] at h1
    have h1 : acc = A := by omega
    rw [← h1]
    conv => whnf
    kernel_rfl
  · have hk' : k < l.1.length := by have := of_decide_eq_true c1; rw [List.length_map] at this; omega
    obtain ⟨c, hc⟩ := get_lt hk'
    obtain ⟨a, ha⟩ := get_lt (xs := r) (i := k) (by omega)
    have m1 := kg_bound (hk a (List.mem_of_getElem? ha)) (hf c (List.mem_of_getElem? hc))
    rw [dotF_at ha hc] at h1
    have e1 : IntKind.wrap .i64 (a * c) = a * c := wr_eq (by omega)
    have e3 : IntKind.wrap .i64 (acc + IntKind.wrap .i64 (a * c)) = acc + a * c := by rw [e1]; exact wr_eq (by omega)
    conv => whnf
    refine ⟨by omega, _, (by first | exact gm (by assumption) | exact gz (by assumption)), ?_⟩
    conv => whnf
    conv => whnf
    refine ⟨by omega, _, (by first | exact gm (by assumption) | exact gz (by assumption)), ?_⟩
    conv => whnf
    exact ⟨(IntKind.wrap .i64 ((k : Int) + 1), IntKind.wrap .i64 (acc + IntKind.wrap .i64 (a * c))), by kernel_rfl, ⟨k + 1, nx (by omega), by omega, by simp only; rw [e3]; omega, by simp only; rw [e3]; omega, by simp only; rw [e3]; omega⟩, by simp only; rw [nx (by omega)]; omega⟩
theorem keepsR_ok (ls : List (List Int × Int)) (r : List Int) {n : Nat} (hn : n ≤ 12) (hl : ∀ l ∈ ls, Lok n l) (hll : ls.length ≤ 100) (hr : r.length = n) (hk : ∀ k ∈ r, 0 ≤ k ∧ k ≤ 10000) :
    PureFn Tryz.prog 100 [linesD ls, rowD r, int 1] (boolD (keepsB ls r)) := by
  refine pureFn_by Tryz.func100 k100 rfl rfl ?_
  obtain ⟨A, hA⟩ : ∃ A, keepsB ls r = A := ⟨_, rfl⟩
  rw [hA]
  unfold keepsB at hA
  conv => whnf
  refine loopB (fun (i : Int) => ⟨mkT [(0, .d (linesD ls)), (1, .d (rowD r)), (2, .d (int 1)), (7, .d (int i))], mkB []⟩)
    (fun i => ∃ k : Nat, i = k ∧ k ≤ ls.length ∧ (!(ls.drop k).any fun l => decide (l.2 < dotF r l.1)) = A) (fun i => (ls.length - i).toNat) 0 (by kernel_rfl) ⟨0, rfl, by omega, hA⟩ ?_
  rintro _ ⟨k, rfl, hkl, h1⟩
  conv => whnf
  cases c1 : decide ((k : Int) < ((ls.map lineL).length : Int))
  · have hk' : k = ls.length := by have := of_decide_eq_false c1; rw [List.length_map] at this; omega
    rw [hk', drop_end] at h1
    rw [← h1]
    conv => whnf
    kernel_rfl
  · have hk' : k < ls.length := by have := of_decide_eq_true c1; rw [List.length_map] at this; omega
    obtain ⟨l, hx⟩ := get_lt hk'
    have hlo := hl l (List.mem_of_getElem? hx)
    have hbd := hlo.bd
    have e : IntKind.wrap .i64 (1 * l.2) = l.2 := by rw [wr_eq (by omega)]; omega
    rw [drop_at hx, List.any_cons] at h1
    conv => whnf
    refine ⟨by omega, _, (by first | exact gm (by assumption) | exact gz (by assumption)), ?_⟩
    conv => whnf
    refine ⟨_, total_ok l r (by rw [hlo.len]; exact hn) (by rw [hr, hlo.len]) hk hlo.el, ?_⟩
    conv => whnf
    conv => whnf
    refine ⟨by omega, _, (by first | exact gm (by assumption) | exact gz (by assumption)), ?_⟩
    conv => whnf
    rw [e]
    cases c2 : decide (dotF r l.1 > l.2)
    · rw [show decide (l.2 < dotF r l.1) = false from c2] at h1
      conv => whnf
      exact ⟨IntKind.wrap .i64 ((k : Int) + 1), by kernel_rfl, ⟨k + 1, nx (by omega), by omega, by rw [← h1]; rfl⟩, by rw [nx (by omega)]; omega⟩
    · rw [show decide (l.2 < dotF r l.1) = true from c2] at h1
      have h1 : false = A := h1
      rw [← h1]
      conv => whnf
      kernel_rfl
theorem costR_ok (b : Bat) (hb : Bf b) (r : List Int) (hr : Rok b.mats r) : PureFn Tryz.prog 59 [batD b, rowD r] (int (costB b.mats r)) := by
  have hnm := hb.nm
  have hrl := hr.len
  refine pureFn_by Tryz.func59 k59 rfl rfl ?_
  obtain ⟨A, hA⟩ : ∃ A, costB b.mats r = A := ⟨_, rfl⟩
  rw [hA]
  conv => whnf
  refine loopB (fun (x : Int × Int) => ⟨mkT [(1, .d (rowD r)), (2, .d (.fptr (cellsB b))), (5, .d (int x.2)), (6, .d (int x.1))], mkB []⟩)
    (fun x => ∃ k : Nat, x.1 = k ∧ k ≤ b.mats.length ∧ x.2 + costB (b.mats.drop k) (r.drop k) = A ∧ 0 ≤ x.2 ∧ x.2 ≤ 100000000 * (k : Int)) (fun x => (b.mats.length - x.1).toNat) (0, 0) (by kernel_rfl) ⟨0, rfl, by omega, by simpa using hA, by simp, by simp⟩ ?_
  rintro ⟨_, acc⟩ ⟨k, rfl, hkl, h1, a0, a1⟩
  simp only at h1 a0 a1
  conv => whnf
  cases c1 : decide ((k : Int) < ((r.map i1).length : Int))
  · have hk' : k = b.mats.length := by have := of_decide_eq_false c1; rw [List.length_map] at this; omega
    rw [hk', drop_end] at h1
    have h1 : acc = A := by simpa [costB, dotF_nil] using h1
    rw [← h1]
    conv => whnf
    kernel_rfl
  · have hk' : k < b.mats.length := by have := of_decide_eq_true c1; rw [List.length_map] at this; omega
    obtain ⟨m, hm⟩ := get_lt hk'
    obtain ⟨a, ha⟩ := get_lt (xs := r) (i := k) (by omega)
    have hak := hr.el a (List.mem_of_getElem? ha)
    have hmp := hb.mat m (List.mem_of_getElem? hm)
    have m0 : 0 ≤ a * m.price := Int.mul_nonneg (by omega) (by omega)
    have m1 : a * m.price ≤ 10000 * 10000 := Int.mul_le_mul hak.2 hmp.2.1 (by omega) (by omega)
    have h1 : acc + (a * m.price + costB (b.mats.drop (k + 1)) (r.drop (k + 1))) = A := by
      rw [← h1, drop_at hm, drop_at ha]; rfl
    have e1 : IntKind.wrap .i64 (a * m.price) = a * m.price := wr_eq (by omega)
    have e3 : IntKind.wrap .i64 (acc + IntKind.wrap .i64 (a * m.price)) = acc + a * m.price := by rw [e1]; exact wr_eq (by omega)
    conv => whnf
    refine ⟨by omega, _, (by first | exact gm (by assumption) | exact gz (by assumption)), ?_⟩
    conv => whnf
    conv => whnf
    refine ⟨by omega, _, (by first | exact gm (by assumption) | exact gz (by assumption)), ?_⟩
    conv => whnf
    exact ⟨(IntKind.wrap .i64 ((k : Int) + 1), IntKind.wrap .i64 (acc + IntKind.wrap .i64 (a * m.price))), by kernel_rfl, ⟨k + 1, nx (by omega), by omega, by simp only; rw [e3]; omega, by simp only; rw [e3]; omega, by simp only; rw [e3]; omega⟩, by simp only; rw [nx (by omega)]; omega⟩
end Go.Proofs.YtalbkamkkceanaaGreatG
