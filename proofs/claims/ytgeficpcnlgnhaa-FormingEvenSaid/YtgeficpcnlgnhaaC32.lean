/- FormingAll answers true. No condition. -/
import Derived.Test.YtgeficpcnlgnhaaC31
set_option linter.unusedVariables false
set_option linter.unusedSimpArgs false
set_option maxRecDepth 100000
set_option maxHeartbeats 8000000
namespace Go.Proofs.YtgeficpcnlgnhaaG
open Go Go.AM Go.Proofs

/-- A time that two numbers pick. -/
structure Tm (cycle : Int) (t : Int × Int) : Prop where
  lw : Lw t
  n0 : 0 ≤ t.1
  n1 : t.1 < cycle * t.2
  d : 1 ≤ t.2 ∧ t.2 ≤ 50
theorem tm_red {cycle n d : Int} (h0 : 0 ≤ n) (h1 : n < cycle * d) (d1 : 1 ≤ d) (d2 : d ≤ 50) (hc : 1 ≤ cycle ∧ cycle ≤ 3600) : Tm cycle (red (n, d)) := by
  have g := gcd_pos (n := n) d1
  have gl := gcd_le (n := n) d1
  obtain ⟨k, hk⟩ : (Int.gcd n d : Int) ∣ n := Int.gcd_dvd_left ..
  obtain ⟨m, hm⟩ : (Int.gcd n d : Int) ∣ d := Int.gcd_dvd_right ..
  have cb := mul_bd (x := cycle) (y := d) (A := 3600) (B := 50) ⟨by omega, by omega⟩ ⟨by omega, by omega⟩
  have gg : Int.gcd (red (n, d)).1 (red (n, d)).2 = 1 := by unfold red; exact Int.gcd_ediv_gcd_ediv_gcd (by simp only; omega)
  have e1 : (red (n, d)).1 = k := by
    unfold red; simp only
    generalize (Int.gcd n d : Int) = q at *
    rw [hk]; exact Int.mul_ediv_cancel_left _ (by omega)
  have e2 : (red (n, d)).2 = m := by
    unfold red; simp only
    generalize (Int.gcd n d : Int) = q at *
    rw [hm]; exact Int.mul_ediv_cancel_left _ (by omega)
  generalize (Int.gcd n d : Int) = q at *
  have k0 : 0 ≤ k := by
    by_cases hn : 0 ≤ k
    · exact hn
    · have := Int.mul_neg_of_pos_of_neg (a := q) (b := k) (by omega) (by omega); omega
  have m0 : 1 ≤ m := by
    have := Int.pos_of_mul_pos_right (a := q) (b := m) (by omega) (by omega); omega
  have km : k ≤ n := by
    have := Int.mul_le_mul_of_nonneg_right g k0; omega
  have md : m ≤ d := by
    have := Int.mul_le_mul_of_nonneg_right g (show 0 ≤ m by omega); omega
  refine ⟨⟨⟨by rw [e1]; exact ⟨by omega, by omega⟩, by rw [e2]; exact m0, by rw [e2]; exact ⟨by omega, by omega⟩⟩, gg⟩, by rw [e1]; exact k0, ?_, by rw [e2]; omega⟩
  rw [e1, e2]
  rw [hk, hm, show cycle * (q * m) = q * (cycle * m) by ac_rfl] at h1
  exact Int.lt_of_mul_lt_mul_left h1 (by omega)
theorem time_ok (cycle num den : Int) (hc : 1 ≤ cycle ∧ cycle ≤ 3600) (hn : I64 num) (hd : I64 den) : ∃ t, Tm cycle t ∧ PureFn Try.prog 18 [int cycle, int num, int den] (ratD t) := by
  have core : ∀ d, 1 ≤ d → d ≤ 50 → ∃ t, Tm cycle t ∧ IntKind.wrap .i64 (cycle * d) = cycle * d ∧ cycle * d ≠ 0 ∧
      PureFn Try.prog 21 [int ((IntKind.wrap .i64 (num.tmod (cycle * d) + cycle * d)).tmod (cycle * d)), int d] (ratD t) := fun d d1 d2 => by
    have cb := mul_bd (x := cycle) (y := d) (A := 3600) (B := 50) ⟨by omega, by omega⟩ ⟨by omega, by omega⟩
    have cp := Int.mul_pos (a := cycle) (b := d) (by omega) (by omega)
    have a1 := Int.tmod_lt_of_pos num cp
    have a2 := Int.lt_tmod_of_pos num cp
    have e : IntKind.wrap .i64 (num.tmod (cycle * d) + cycle * d) = num.tmod (cycle * d) + cycle * d := wr_in ⟨by omega, by omega⟩
    rw [e]
    have b0 := Int.tmod_nonneg (a := num.tmod (cycle * d) + cycle * d) (cycle * d) (by omega)
    have b1 := Int.tmod_lt_of_pos (num.tmod (cycle * d) + cycle * d) cp
    exact ⟨_, tm_red b0 b1 d1 d2 hc, wr_in ⟨by omega, by omega⟩, by omega, made_ok _ d ⟨by omega, by omega⟩ d1 ⟨by omega, by omega⟩⟩
  by_cases h0 : den < 0
  · obtain ⟨t, tt, w, ne, q⟩ := core 1 (by omega) (by omega)
    refine ⟨t, tt, ?_⟩
    rw [← w] at q ne
    refine pureFn_by Try.func18 k18 rfl rfl ?_
    conv => whnf
    refine ⟨by omega, ?_⟩
    conv => whnf
    rw [show decide (den < 0) = true by simpa using h0]
    conv => whnf
    refine ⟨ne, ?_⟩
    conv => whnf
    refine ⟨ne, ?_⟩
    conv => whnf
    exact ⟨_, q, rfl⟩
  · have m1 := Int.tmod_lt_of_pos den (show (0 : Int) < 50 by omega)
    have m2 := Int.tmod_nonneg (a := den) 50 (by omega)
    obtain ⟨t, tt, w, ne, q⟩ := core (den.tmod 50 + 1) (by omega) (by omega)
    have e : IntKind.wrap .i64 (den.tmod 50 + 1) = den.tmod 50 + 1 := wr_in ⟨by omega, by omega⟩
    refine ⟨t, tt, ?_⟩
    rw [← w, ← e] at q ne
    refine pureFn_by Try.func18 k18 rfl rfl ?_
    conv => whnf
    refine ⟨by omega, ?_⟩
    conv => whnf
    rw [show decide (den < 0) = false by simpa using h0]
    conv => whnf
    refine ⟨ne, ?_⟩
    conv => whnf
    refine ⟨ne, ?_⟩
    conv => whnf
    exact ⟨_, q, rfl⟩

theorem in_law_ok (cycle : Int) (L : List Str) (t : Int × Int) (hc : 1 ≤ cycle ∧ cycle ≤ 3600) (ht : Tm cycle t) (hL : ∀ x ∈ L, LowS x) (hl : L.length ≤ 1000) : PureFn Try.prog 19 [int cycle, strsD L, ratD t] (boolD (inB cycle L t)) := by
  have cb := mul_bd (x := cycle) (y := t.2) (A := 3600) (B := 50) ⟨by omega, by omega⟩ ⟨by have := ht.d; omega, by have := ht.d; omega⟩
  have ht1 := ht.n1
  have ht0 := ht.n0
  have htd := ht.d
  refine pureFn_by Try.func19 k19 rfl rfl ?_
  conv => whnf
  refine loopB (fun (x : Int) => ⟨mkT [(0, .d (int cycle)), (1, .d (strsD L)), (5, .ptr 0 0), (7, .d (int x))], mkB [(0, .var [.d (int t.1), .d (int t.2)])]⟩)
    (fun x => ∃ i : Nat, x = i ∧ i ≤ L.length ∧ inB cycle (L.take i) t = false) (fun x => (L.length - x).toNat) 0 (by kernel_rfl) ⟨0, rfl, by omega, by simp [inB]⟩ ?_
  rintro x ⟨i, rfl, hil, hall⟩
  conv => whnf
  rw [List.length_map]
  cases c1 : decide ((i : Int) < (L.length : Int))
  · have hi : i = L.length := by have := of_decide_eq_false c1; omega
    rw [hi, List.take_length] at hall
    rw [hall]
    conv => whnf
    kernel_rfl
  · have hi : i < L.length := by have := of_decide_eq_true c1; omega
    have hw := next_big (i := i) (by omega)
    have mem : L[i] ∈ L := List.getElem_mem _
    have hg : (L.map strL)[(i : Int).toNat]? = some (strL L[i]) := by rw [Int.toNat_natCast]; simp [hi]
    have hT : L.take (i + 1) = L.take i ++ [L[i]] := List.take_succ_eq_append_getElem hi
    generalize L[i] = y at mem hg hT
    have lo := hL y mem
    have yes : ∀ k : Int, -1 ≤ k → k ≤ 1 → ltF (t.1 + k * cycle * t.2, t.2) y.1 = false → ltF y.2 (t.1 + k * cycle * t.2, t.2) = false → inB cycle L t = true := fun k k1 k2 h1 h2 =>
      inB_iff.2 ⟨y, mem, k, k1, k2, ltF_not.1 h1, ltF_not.1 h2⟩
    conv => whnf
    refine loopB (fun (x : Int) => ⟨mkT [(0, .d (int cycle)), (1, .d (strsD L)), (5, .ptr 0 0), (7, .d (int i)), (8, .d (int x))], mkB [(0, .var [.d (int t.1), .d (int t.2)])]⟩)
      (fun x => -1 ≤ x ∧ x ≤ 2 ∧ ∀ k : Int, -1 ≤ k → k < x → ¬ (ltF (t.1 + k * cycle * t.2, t.2) y.1 = false ∧ ltF y.2 (t.1 + k * cycle * t.2, t.2) = false)) (fun x => (2 - x).toNat) (-1) (by kernel_rfl) ⟨by omega, by omega, fun k k1 k2 => by omega⟩ ?_
    rintro x ⟨x1, x2, hno⟩
    conv => whnf
    cases c2 : decide (x ≤ 1)
    · have hx : x = 2 := by have := of_decide_eq_false c2; omega
      conv => whnf
      refine ⟨IntKind.wrap .i64 ((i : Int) + 1), by kernel_rfl, ⟨i + 1, hw, hi, ?_⟩, by rw [hw]; omega⟩
      cases hb : inB cycle (L.take (i + 1)) t with
      | false => rfl
      | true =>
        exfalso
        obtain ⟨z, hz, k, k1, k2, h1, h2⟩ := inB_iff.1 hb
        rw [hT] at hz
        rcases List.mem_append.1 hz with hz | hz
        · have := inB_iff.2 ⟨z, hz, k, k1, k2, h1, h2⟩
          rw [hall] at this; cases this
        · obtain rfl := List.mem_singleton.1 hz
          exact hno k k1 (by omega) ⟨ltF_not.2 h1, ltF_not.2 h2⟩
    · have hx : x ≤ 1 := of_decide_eq_true c2
      have kb := mul_bd (x := x) (y := cycle) (A := 1) (B := 3600) ⟨by omega, by omega⟩ ⟨by omega, by omega⟩
      have kc := mul_bd (x := x * cycle) (y := t.2) (A := 3600) (B := 50) ⟨by omega, by omega⟩ ⟨by omega, by omega⟩
      have w1 : IntKind.wrap .i64 (x * cycle) = x * cycle := wr_in ⟨by omega, by omega⟩
      have w2 : IntKind.wrap .i64 (x * cycle * t.2) = x * cycle * t.2 := wr_in ⟨by omega, by omega⟩
      have w3 : IntKind.wrap .i64 (t.1 + x * cycle * t.2) = t.1 + x * cycle * t.2 := wr_in ⟨by omega, by omega⟩
      have w4 : IntKind.wrap .i64 (x + 1) = x + 1 := wr_in ⟨by omega, by omega⟩
      have ru : RI (t.1 + x * cycle * t.2, t.2) := ⟨⟨by simp only; omega, by simp only; omega⟩, htd.1, ⟨by simp only; omega, by simp only; omega⟩⟩
      have q1 := less_ok (t.1 + x * cycle * t.2, t.2) y.1 ru lo.f.ri
      have q2 := less_ok y.2 (t.1 + x * cycle * t.2, t.2) lo.t.ri ru
      have yes := yes x x1 hx
      have step : ¬ (ltF (t.1 + x * cycle * t.2, t.2) y.1 = false ∧ ltF y.2 (t.1 + x * cycle * t.2, t.2) = false) → ∀ k : Int, -1 ≤ k → k < IntKind.wrap .i64 (x + 1) → ¬ (ltF (t.1 + k * cycle * t.2, t.2) y.1 = false ∧ ltF y.2 (t.1 + k * cycle * t.2, t.2) = false) := fun h k k1 k2 => by
        rw [w4] at k2
        by_cases e : k = x
        · rw [e]; exact h
        · exact hno k k1 (by omega)
      have q1 : PureFn Try.prog 16 [ratD (IntKind.wrap .i64 (t.1 + IntKind.wrap .i64 (IntKind.wrap .i64 (x * cycle) * t.2)), t.2), ratD y.1] (boolD (ltF (t.1 + x * cycle * t.2, t.2) y.1)) := by rw [w1, w2, w3]; exact q1
      have q2 : PureFn Try.prog 16 [ratD y.2, ratD (IntKind.wrap .i64 (t.1 + IntKind.wrap .i64 (IntKind.wrap .i64 (x * cycle) * t.2)), t.2)] (boolD (ltF y.2 (t.1 + x * cycle * t.2, t.2))) := by rw [w1, w2, w3]; exact q2
      conv => whnf
      refine ⟨by omega, _, hg, ?_⟩
      conv => whnf
      refine ⟨_, q1, ?_⟩
      conv => whnf
      cases e1 : ltF (t.1 + x * cycle * t.2, t.2) y.1
      case true =>
        conv => whnf
        refine ⟨IntKind.wrap .i64 (x + 1), by kernel_rfl, ⟨by omega, by omega, step (by rw [e1]; simp)⟩, by omega⟩
      conv => whnf
      refine ⟨by omega, _, hg, ?_⟩
      conv => whnf
      refine ⟨_, q2, ?_⟩
      conv => whnf
      cases e2 : ltF y.2 (t.1 + x * cycle * t.2, t.2)
      case true =>
        conv => whnf
        refine ⟨IntKind.wrap .i64 (x + 1), by kernel_rfl, ⟨by omega, by omega, step (by rw [e2]; simp)⟩, by omega⟩
      rw [yes e1 e2]
      conv => whnf
      kernel_rfl
end Go.Proofs.YtgeficpcnlgnhaaG
