/- The specification's gap. No condition. -/
import Derived.Test.YtgeficpcnlgnhaaC21
set_option linter.unusedVariables false
set_option linter.unusedSimpArgs false
set_option maxRecDepth 100000
set_option maxHeartbeats 4000000
namespace Go.Proofs.YtgeficpcnlgnhaaG
open Go Go.AM Go.Proofs

theorem Bd.ri {r : Int × Int} (h : Bd r) : RI r := ⟨⟨by have := h.n; omega, by have := h.n; omega⟩, h.d.1, ⟨by have := h.d; omega, by have := h.d; omega⟩⟩
theorem rMinusE_ok {r s : Int × Int} (hr : Bd r) (hs : Bd s) : PureFn Try.prog 67 [ratD r, ratD s] (ratD (minusE r s)) := by
  obtain ⟨m0, m3, m1, m2⟩ := minus_bd hr hs
  have w1 : wr (r.1 * s.2) = r.1 * s.2 := wr_in ⟨by omega, by omega⟩
  have w2 : wr (s.1 * r.2) = s.1 * r.2 := wr_in ⟨by omega, by omega⟩
  have w3 : wr (r.2 * s.2) = r.2 * s.2 := wr_in ⟨by omega, by omega⟩
  have w4 : wr (r.1 * s.2 - s.1 * r.2) = r.1 * s.2 - s.1 * r.2 := wr_in ⟨by omega, by omega⟩
  have h := rLess_ok r s (by rw [w1, w2, w4]; omega) (by rw [w3]; omega) (by rw [w3]; exact ⟨by omega, by omega⟩)
  rw [w1, w2, w3, w4] at h
  exact h
def shiftE (x : Str) (n : Int) : Str := (plusE x.1 n, plusE x.2 n)
def apartF (x y : Str) : Int × Int := if ltF x.2 y.1 = true then minusE y.1 x.2 else if ltF y.2 x.1 = true then minusE x.1 y.2 else (0, 1)
theorem shifted_ok {x : Str} (h : Gd x) {n : Int} (hn : -15000 ≤ n ∧ n ≤ 15000) : PureFn Try.prog 60 [strD x, int n] (strD (shiftE x n)) := by
  have q1 := moved_ok x.1 n
  have q2 := moved_ok x.2 n
  rw [(plusE_eq h.f h.fd hn).1] at q1
  rw [(plusE_eq h.t h.td hn).1] at q2
  unfold shiftE
  refine pureFn_by Try.func60 k60 rfl rfl ?_
  conv => whnf
  refine ⟨_, q1, ?_⟩
  conv => whnf
  refine ⟨_, q2, ?_⟩
  rfl
theorem apart_ok {x y : Str} (x1 : Bd x.1) (x2 : Bd x.2) (y1 : Bd y.1) (y2 : Bd y.2) : PureFn Try.prog 59 [strD x, strD y] (ratD (apartF x y)) := by
  have q1 := rMinusE_ok y1 x2
  have q2 := rMinusE_ok x1 y2
  unfold apartF
  generalize minusE y.1 x.2 = u at q1 ⊢
  generalize minusE x.1 y.2 = v at q2 ⊢
  refine pureFn_by Try.func59 k59 rfl rfl ?_
  conv => whnf
  refine ⟨_, less_ok x.2 y.1 x2.ri y1.ri, ?_⟩
  conv => whnf
  cases h1 : ltF x.2 y.1
  case true =>
    conv => whnf
    exact ⟨_, q1, rfl⟩
  conv => whnf
  refine ⟨_, less_ok y.2 x.1 y2.ri x1.ri, ?_⟩
  conv => whnf
  cases h2 : ltF y.2 x.1
  case true =>
    conv => whnf
    exact ⟨_, q2, rfl⟩
  conv => whnf
  exact ⟨_, rWhole_ok 0, rfl⟩

theorem frac_lt {a b c : Int × Int} (ha : 1 ≤ a.2) (hb : 1 ≤ b.2) (hc : 1 ≤ c.2) (h1 : a.1 * b.2 ≤ b.1 * a.2) (h2 : b.1 * c.2 < c.1 * b.2) : a.1 * c.2 < c.1 * a.2 := by
  have e1 : a.1 * c.2 * b.2 = a.1 * b.2 * c.2 := by ac_rfl
  have e2 : b.1 * a.2 * c.2 = b.1 * c.2 * a.2 := by ac_rfl
  have e3 : c.1 * b.2 * a.2 = c.1 * a.2 * b.2 := by ac_rfl
  have i1 := Int.mul_le_mul_of_nonneg_right h1 (show 0 ≤ c.2 by omega)
  have i2 := Int.mul_lt_mul_of_pos_right h2 (show 0 < a.2 by omega)
  refine Int.lt_of_mul_lt_mul_right (a := b.2) ?_ (by omega)
  omega
theorem red_pos {n d : Int} (h : 1 ≤ d) : (0 < (red (n, d)).1 ↔ 0 < n) ∧ ((red (n, d)).1 < 0 ↔ n < 0) := by
  have g := gcd_pos (n := n) h
  have dv : (Int.gcd n d : Int) ∣ n := Int.gcd_dvd_left ..
  obtain ⟨k, hk⟩ := dv
  have e : (red (n, d)).1 = k := by
    unfold red; simp only
    rw [show n / (Int.gcd n d : Int) = k by
      conv => lhs; arg 1; rw [hk]
      exact Int.mul_ediv_cancel_left _ (by omega)]
  rw [e]
  generalize (Int.gcd n d : Int) = q at *
  subst hk
  constructor
  · constructor
    · intro h; exact Int.mul_pos (by omega) h
    · intro h; exact Int.pos_of_mul_pos_right h (by omega)
  · constructor
    · intro h; exact Int.mul_neg_of_pos_of_neg (by omega) h
    · intro h
      by_cases hn : k < 0
      · exact hn
      · have := Int.mul_nonneg (a := q) (b := k) (by omega) (by omega); omega
theorem cmp_zero {r : Int × Int} (h : Lw r) : (0 < compareF r (0, 1) ↔ 0 < r.1) := by
  rw [compareF_eq h.ri lw_zero.ri, cmpF_pos]; simp

theorem plusE_le {p q : Int × Int} (n : Int) (h : p.1 * q.2 ≤ q.1 * p.2) : (plusE p n).1 * (plusE q n).2 ≤ (plusE q n).1 * (plusE p n).2 := by
  unfold plusE; simp only
  rw [Int.add_mul, Int.add_mul, show n * p.2 * q.2 = n * q.2 * p.2 by ac_rfl]
  omega
/-- What both packages call the distance of two stretches. -/
theorem far_apart {x y : Str} {n : Int} (hx : Gd x) (hy : Gd y) (hn : -15000 ≤ n ∧ n ≤ 15000) (ox : x.1.1 * x.2.2 ≤ x.2.1 * x.1.2) (oy : y.1.1 * y.2.2 ≤ y.2.1 * y.1.2) : farE x y n = apartF x (shiftE y n) := by
  have p1 := (plusE_eq hy.f hy.fd hn).2
  have p2 := (plusE_eq hy.t hy.td hn).2
  have x1 : Bd x.1 := ⟨by have := hx.f; omega, hx.fd⟩
  have x2 : Bd x.2 := ⟨by have := hx.t; omega, hx.td⟩
  have oq := plusE_le n oy
  have l1 := lw_minus p1 x2
  have l2 := lw_minus x1 p2
  unfold farE apartF shiftE maxR
  simp only [List.foldl_cons, List.foldl_nil]
  have m1 := minus_bd p1 x2
  have m2 := minus_bd x1 p2
  have s1 := red_pos (n := (plusE y.1 n).1 * x.2.2 - x.2.1 * (plusE y.1 n).2) (d := (plusE y.1 n).2 * x.2.2) (by omega)
  have s2 := red_pos (n := x.1.1 * (plusE y.2 n).2 - (plusE y.2 n).1 * x.1.2) (d := x.1.2 * (plusE y.2 n).2) (by omega)
  have e1 : (minusE (plusE y.1 n) x.2) = red ((plusE y.1 n).1 * x.2.2 - x.2.1 * (plusE y.1 n).2, (plusE y.1 n).2 * x.2.2) := rfl
  have e2 : (minusE x.1 (plusE y.2 n)) = red (x.1.1 * (plusE y.2 n).2 - (plusE y.2 n).1 * x.1.2, x.1.2 * (plusE y.2 n).2) := rfl
  rw [← e1] at s1
  rw [← e2] at s2
  have c1 : ltF x.2 (plusE y.1 n) = true ↔ 0 < (minusE (plusE y.1 n) x.2).1 := by
    rw [s1.1]; simp only [ltF, decide_eq_true_eq]; omega
  have c2 : ltF (plusE y.2 n) x.1 = true ↔ 0 < (minusE x.1 (plusE y.2 n)).1 := by
    rw [s2.1]; simp only [ltF, decide_eq_true_eq]; omega
  by_cases h1 : 0 < (minusE (plusE y.1 n) x.2).1
  · rw [if_pos (c1.2 h1)]
    have a1 : maxStep (0, 1) (minusE (plusE y.1 n) x.2) = minusE (plusE y.1 n) x.2 := by unfold maxStep; rw [if_pos ((cmp_zero l1).2 h1)]
    rw [a1]
    unfold maxStep
    rw [if_neg]
    rw [compareF_eq l2.ri l1.ri, cmpF_pos]
    have k : ¬ 0 < (minusE x.1 (plusE y.2 n)).1 := by
      rw [s2.1]
      rw [s1.1] at h1
      have f1 := frac_lt (a := x.1) (b := x.2) (c := plusE y.1 n) hx.fd.1 hx.td.1 p1.d.1 ox (by omega)
      have f2 : (plusE y.2 n).1 * x.1.2 < x.1.1 * (plusE y.2 n).2 → False := fun h3 => by
        have := frac_lt (a := plusE y.1 n) (b := plusE y.2 n) (c := x.1) p1.d.1 p2.d.1 hx.fd.1 oq h3
        omega
      intro h3
      exact f2 (by omega)
    have d1 := l1.ri.d
    have d2 := l2.ri.d
    have i1 : (minusE x.1 (plusE y.2 n)).1 * (minusE (plusE y.1 n) x.2).2 ≤ 0 := Int.mul_nonpos_of_nonpos_of_nonneg (by omega) (by omega)
    have i2 : 0 ≤ (minusE (plusE y.1 n) x.2).1 * (minusE x.1 (plusE y.2 n)).2 := Int.mul_nonneg (by omega) (by omega)
    omega
  · rw [if_neg (fun h => h1 (c1.1 h))]
    have a1 : maxStep (0, 1) (minusE (plusE y.1 n) x.2) = (0, 1) := by unfold maxStep; rw [if_neg (fun h => h1 ((cmp_zero l1).1 h))]
    rw [a1]
    unfold maxStep
    by_cases h2 : 0 < (minusE x.1 (plusE y.2 n)).1
    · rw [if_pos ((cmp_zero l2).2 h2), if_pos (c2.2 h2)]
    · rw [if_neg (fun h => h2 ((cmp_zero l2).1 h)), if_neg (fun h => h2 (c2.1 h))]
theorem far_nonneg {x y : Str} {n : Int} (hx : Gd x) (hy : Gd y) (hn : -15000 ≤ n ∧ n ≤ 15000) : 0 ≤ (farE x y n).1 := by
  have p1 := (plusE_eq hy.f hy.fd hn).2
  have p2 := (plusE_eq hy.t hy.td hn).2
  have x1 : Bd x.1 := ⟨by have := hx.f; omega, hx.fd⟩
  have x2 : Bd x.2 := ⟨by have := hx.t; omega, hx.td⟩
  have l1 := lw_minus p1 x2
  have l2 := lw_minus x1 p2
  unfold farE maxR
  simp only [List.foldl_cons, List.foldl_nil]
  have key : ∀ {m r : Int × Int}, Lw m → Lw r → 0 ≤ m.1 → 0 ≤ (maxStep m r).1 := fun {m r} lm lr hm => by
    unfold maxStep
    split
    · rename_i h
      rw [compareF_eq lr.ri lm.ri, cmpF_pos] at h
      have := Int.mul_nonneg hm (show 0 ≤ r.2 by have := lr.ri.d; omega)
      have : 0 < r.1 * m.2 := by omega
      have := Int.pos_of_mul_pos_left (a := r.1) (b := m.2) this (by have := lm.ri.d; omega)
      omega
    · exact hm
  exact key (maxStep_of lw_zero l1) l2 (key lw_zero l1 (by simp))

/-- The least so far: what the specification keeps. -/
def bestStep (p : (Int × Int) × Bool) (x : Int × Int) : (Int × Int) × Bool := if (!p.2 || ltF x p.1) = true then (x, true) else p
def bestOf (l : List (Int × Int)) : (Int × Int) × Bool := l.foldl bestStep ((0, 0), false)
theorem bestOf_cons : ∀ (l : List (Int × Int)) (r : Int × Int), Lw r → (∀ x ∈ l, Lw x) → l.foldl bestStep (r, true) = (minR r l, true)
  | [], r, _, _ => rfl
  | x :: l, r, hr, h => by
    have hx := h x (by simp)
    have e : bestStep (r, true) x = (minStep r x, true) := by
      unfold bestStep minStep
      simp only [Bool.not_true, Bool.false_or]
      rw [compareF_eq hx.ri hr.ri]
      by_cases c : x.1 * r.2 < r.1 * x.2
      · rw [if_pos (by simpa [ltF] using c), if_pos (cmpF_negv.2 c)]
      · rw [if_neg (by simpa [ltF] using c), if_neg (fun h => c (cmpF_negv.1 h))]
    rw [List.foldl_cons, e]
    exact bestOf_cons l _ (by unfold minStep; split <;> assumption) fun y hy => h y (by simp [hy])
theorem lw_le_zero {r : Int × Int} (h : Lw r) (h0 : 0 ≤ r.1) (hc : 0 ≤ compareF (0, 1) r) : r = (0, 1) := by
  rw [compareF_eq lw_zero.ri h.ri] at hc
  simp only at hc
  have : ¬ cmpF (0 * r.2) (r.1 * 1) < 0 := by omega
  rw [cmpF_negv] at this
  have h1 : r.1 = 0 := by omega
  have g := h.g
  have d := h.ri.d
  rw [h1] at g
  refine Prod.ext h1 ?_
  simp at g
  simp only; omega
/-- **Both packages tell the same gap.** -/
theorem best_gap {cycle shift : Int} {a b : List Str} (hc : 1 ≤ cycle ∧ cycle ≤ 3600) (hs : 0 ≤ shift ∧ shift < cycle) (ha : ∀ x ∈ a, Gd x) (hb : ∀ x ∈ b, Gd x) :
    (bestOf (farsA cycle shift a b)).2 = (gapF cycle shift a b).2 ∧ ((gapF cycle shift a b).2 = false → (gapF cycle shift a b).1 = (0, 1)) ∧
    ((gapF cycle shift a b).2 = true → (bestOf (farsA cycle shift a b)).1 = (gapF cycle shift a b).1) := by
  have lw := lw_fars hc hs ha hb
  have nn : ∀ r ∈ farsA cycle shift a b, 0 ≤ r.1 := by
    intro r hr
    simp only [farsA, farsB, fars, List.mem_flatMap, List.mem_map] at hr
    obtain ⟨x, hx, y, hy, k, hk, rfl⟩ := hr
    exact far_nonneg (ha x hx) (hb y hy) (turns_bd hc hs hk)
  unfold gapF
  cases hf : farsA cycle shift a b with
  | nil => exact ⟨rfl, fun _ => rfl, fun h => by cases h⟩
  | cons r l =>
    rw [hf] at lw nn
    have e : bestOf (r :: l) = (minR r l, true) := by
      unfold bestOf
      rw [List.foldl_cons]
      exact bestOf_cons l r (lw r (by simp)) fun x hx => lw x (by simp [hx])
    rw [e]
    simp only
    refine ⟨trivial, ?_, fun _ => ?_⟩
    · intro h; cases h
    split
    · rename_i hz
      exact lw_le_zero (minR_of l (lw r (by simp)) fun x hx => lw x (by simp [hx])) (minR_of (p := fun r => 0 ≤ r.1) l (nn r (by simp)) fun x hx => nn x (by simp [hx])) hz
    · rfl
end Go.Proofs.YtgeficpcnlgnhaaG
