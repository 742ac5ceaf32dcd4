/- Gaps: from both sides, no more than half a cycle, nearest points, fewer stretches. No condition. -/
import Derived.Test.YtgeficpcnlgnhaaC27
set_option linter.unusedVariables false
set_option linter.unusedSimpArgs false
set_option maxRecDepth 100000
set_option maxHeartbeats 4000000
namespace Go.Proofs.YtgeficpcnlgnhaaG
open Go Go.AM Go.Proofs

theorem leQ_zero {r : Int × Int} (h : 0 ≤ r.1) : leQ (0, 1) r := by unfold leQ; simp only; omega
theorem leQ_neg {u r : Int × Int} (h1 : u.1 ≤ 0) (h2 : 0 ≤ r.1) (d1 : 1 ≤ u.2) (d2 : 1 ≤ r.2) : leQ u r := by
  unfold leQ
  have i1 : u.1 * r.2 ≤ 0 := Int.mul_nonpos_of_nonpos_of_nonneg h1 (by omega)
  have i2 : 0 ≤ r.1 * u.2 := Int.mul_nonneg h2 (by omega)
  omega
section
variable {c : Int} {x y : Str} {n : Int}
theorem bd1 (hx : Gs c x) : Bd x.1 := ⟨by have := hx.g.f; omega, hx.g.fd⟩
theorem bd2 (hx : Gs c x) : Bd x.2 := ⟨by have := hx.g.t; omega, hx.g.td⟩
theorem bdp1 (hy : Gs c y) (hn : -15000 ≤ n ∧ n ≤ 15000) : Bd (plusE y.1 n) := (plusE_eq hy.g.f hy.g.fd hn).2
theorem bdp2 (hy : Gs c y) (hn : -15000 ≤ n ∧ n ≤ 15000) : Bd (plusE y.2 n) := (plusE_eq hy.g.t hy.g.td hn).2

theorem far_ge (hx : Gs c x) (hy : Gs c y) (hn : -15000 ≤ n ∧ n ≤ 15000) : leQ (minusE (plusE y.1 n) x.2) (farE x y n) := by
  have nn := far_nonneg hx.g hy.g hn
  have lw := lw_far hx.g hy.g hn
  have l1 := lw_minus (bdp1 hy hn) (bd2 hx)
  rw [far_apart hx.g hy.g hn hx.o hy.o] at nn lw ⊢
  rcases apart_cases (x := x) (y := shiftE y n) (fun _ _ => trivial) with ⟨a1, a2⟩ | ⟨a0, a1, a2⟩ | ⟨a0, a1, a2⟩
  · rw [a2]; exact leQ_refl _
  all_goals
    refine leQ_neg ?_ nn l1.ri.d lw.ri.d
    have m := minus_bd (bdp1 hy hn) (bd2 hx)
    have s1 := red_pos (n := (plusE y.1 n).1 * x.2.2 - x.2.1 * (plusE y.1 n).2) (d := (plusE y.1 n).2 * x.2.2) (by omega)
    have e : minusE (plusE y.1 n) x.2 = red ((plusE y.1 n).1 * x.2.2 - x.2.1 * (plusE y.1 n).2, (plusE y.1 n).2 * x.2.2) := rfl
    rw [e]
    have h : ¬ x.2.1 * (plusE y.1 n).2 < (plusE y.1 n).1 * x.2.2 := by
      have : ltF x.2 (plusE y.1 n) = false := a0
      simpa [ltF] using this
    have := s1.1
    omega

theorem minus_mono {p q : Int × Int} {n1 n2 : Int} (h1 : Bd (plusE p n1)) (h2 : Bd (plusE p n2)) (hq : Bd q) (hle : n1 ≤ n2) : leQ (minusE (plusE p n1) q) (minusE (plusE p n2) q) := by
  have m1 := minus_bd h1 hq
  have m2 := minus_bd h2 hq
  unfold minusE
  refine (leQ_red (by simp only; omega) (by simp only; omega)).2 ?_
  unfold leQ
  show ((plusE p n1).1 * q.2 - q.1 * p.2) * (p.2 * q.2) ≤ ((plusE p n2).1 * q.2 - q.1 * p.2) * (p.2 * q.2)
  refine Int.mul_le_mul_of_nonneg_right ?_ (Int.mul_nonneg (by have := h1.d; simp only [plusE] at this; omega) (by have := hq.d; omega))
  have : (plusE p n1).1 * q.2 ≤ (plusE p n2).1 * q.2 := by
    refine Int.mul_le_mul_of_nonneg_right ?_ (by have := hq.d; omega)
    show p.1 + n1 * p.2 ≤ p.1 + n2 * p.2
    have := Int.mul_le_mul_of_nonneg_right hle (show 0 ≤ p.2 by have := h1.d; simp only [plusE] at this; omega)
    omega
  omega
/-- Farther on, no closer. -/
theorem far_mono (hx : Gs c x) (hy : Gs c y) {n1 n2 : Int} (hn1 : -15000 ≤ n1 ∧ n1 ≤ 15000) (hn2 : -15000 ≤ n2 ∧ n2 ≤ 15000) (hle : n1 ≤ n2) (h : leQ x.2 (plusE y.1 n1)) : leQ (farE x y n1) (farE x y n2) := by
  have nn := far_nonneg hx.g hy.g hn2
  have l2 := lw_far hx.g hy.g hn2
  have k1 := lw_minus (bdp1 hy hn1) (bd2 hx)
  have k2 := lw_minus (bdp1 hy hn2) (bd2 hx)
  conv => lhs; rw [far_apart hx.g hy.g hn1 hx.o hy.o]
  rcases apart_cases (x := x) (y := shiftE y n1) (fun _ _ => trivial) with ⟨a1, a2⟩ | ⟨a0, a1, a2⟩ | ⟨a0, a1, a2⟩
  · rw [a2]
    exact leQ_trans k1.ri.d k2.ri.d l2.ri.d (minus_mono (bdp1 hy hn1) (bdp1 hy hn2) (bd2 hx) hle) (far_ge hx hy hn2)
  · exfalso
    have a1 : ltF (plusE y.2 n1) x.1 = true := a1
    have f1 := frac_lt (a := plusE y.1 n1) (b := plusE y.2 n1) (c := x.1) (bdp1 hy hn1).d.1 (bdp2 hy hn1).d.1 hx.g.fd.1 (plusE_le n1 hy.o) (by simpa [ltF] using a1)
    have f2 := frac_lt (a := x.2) (b := plusE y.1 n1) (c := x.1) hx.g.td.1 (bdp1 hy hn1).d.1 hx.g.fd.1 h f1
    have := hx.o
    omega
  · rw [a2]; exact leQ_zero nn
theorem le_plus (hx : Gs c x) (hy : Gs c y) (hc : 1 ≤ c) (h : c ≤ n) : leQ x.2 (plusE y.1 n) := by
  unfold leQ plusE
  simp only
  have d1 := hx.g.td.1
  have d2 := hy.g.fd.1
  have i1 := Int.mul_le_mul_of_nonneg_right hx.t (show 0 ≤ y.1.2 by omega)
  have i2 : c * x.2.2 * y.1.2 ≤ n * x.2.2 * y.1.2 := Int.mul_le_mul_of_nonneg_right (Int.mul_le_mul_of_nonneg_right h (by omega)) (by omega)
  have i3 : 0 ≤ y.1.1 * x.2.2 := Int.mul_nonneg (by have := hy.g.f; omega) (by omega)
  have e : (y.1.1 + n * y.1.2) * x.2.2 = y.1.1 * x.2.2 + n * x.2.2 * y.1.2 := by rw [Int.add_mul]; congr 1; ac_rfl
  omega
end

theorem minR_le : ∀ (l : List (Int × Int)) (r : Int × Int), Lw r → (∀ x ∈ l, Lw x) → (∀ y ∈ r :: l, leQ (minR r l) y) ∧ minR r l ∈ r :: l
  | [], r, hr, _ => ⟨fun y hy => by simp at hy; subst hy; exact leQ_refl _, by simp [minR]⟩
  | x :: l, r, hr, h => by
    have hx := h x (by simp)
    have hm : Lw (minStep r x) := by unfold minStep; split <;> assumption
    obtain ⟨h1, h2⟩ := minR_le l (minStep r x) hm fun y hy => h y (by simp [hy])
    have e : minR r (x :: l) = minR (minStep r x) l := rfl
    have lm : Lw (minR (minStep r x) l) := minR_of l hm fun y hy => h y (by simp [hy])
    have s : leQ (minStep r x) r ∧ leQ (minStep r x) x := by
      unfold minStep
      rw [compareF_eq hx.ri hr.ri]
      split
      · rename_i hl
        rw [cmpF_negv] at hl
        exact ⟨by unfold leQ; omega, leQ_refl _⟩
      · rename_i hl
        rw [cmpF_negv] at hl
        exact ⟨leQ_refl _, by unfold leQ; omega⟩
    rw [e]
    have t1 := h1 (minStep r x) (by simp)
    refine ⟨fun y hy => ?_, ?_⟩
    · rcases List.mem_cons.1 hy with rfl | hy
      · exact leQ_trans lm.ri.d hm.ri.d hr.ri.d t1 s.1
      · rcases List.mem_cons.1 hy with rfl | hy
        · exact leQ_trans lm.ri.d hm.ri.d hx.ri.d t1 s.2
        · exact h1 y (by simp [hy])
    · rcases List.mem_cons.1 h2 with h3 | h3
      · rw [h3]; unfold minStep; split <;> simp
      · simp [h3]

theorem mem_fars {c s : Int} {a b : List Str} {r : Int × Int} : r ∈ farsA c s a b ↔ ∃ x ∈ a, ∃ y ∈ b, ∃ k : Int, -2 ≤ k ∧ k ≤ 2 ∧ r = farE x y (s + k * c) := by
  simp only [farsA, farsB, fars, turnsOf, List.mem_flatMap, List.mem_map, List.mem_range]
  constructor
  · rintro ⟨x, hx, y, hy, k, ⟨q, hq, rfl⟩, rfl⟩
    exact ⟨x, hx, y, hy, _, by omega, by omega, rfl⟩
  · rintro ⟨x, hx, y, hy, k, h1, h2, rfl⟩
    exact ⟨x, hx, y, hy, k, ⟨(k + 2).toNat, by omega, by omega⟩, rfl⟩

/-- **What a gap is**: the least of the distances. -/
theorem gap_char {c s : Int} {a b : List Str} (hc : 1 ≤ c ∧ c ≤ 3600) (hs : 0 ≤ s ∧ s < c) (ha : ∀ x ∈ a, Gs c x) (hb : ∀ x ∈ b, Gs c x) :
    (gapF c s a b).2 = (!a.isEmpty && !b.isEmpty) ∧ Lw (gapF c s a b).1 ∧ ((gapF c s a b).2 = false → (gapF c s a b).1 = (0, 1)) ∧
    ((gapF c s a b).2 = true → (gapF c s a b).1 ∈ farsA c s a b ∧ ∀ r ∈ farsA c s a b, leQ (gapF c s a b).1 r) := by
  have ga : ∀ x ∈ a, Gd x := fun x hx => (ha x hx).g
  have gb : ∀ x ∈ b, Gd x := fun x hx => (hb x hx).g
  have lw := lw_fars hc hs ga gb
  have nn : ∀ r ∈ farsA c s a b, 0 ≤ r.1 := by
    intro r hr
    simp only [farsA, farsB, fars, List.mem_flatMap, List.mem_map] at hr
    obtain ⟨x, hx, y, hy, k, hk, rfl⟩ := hr
    exact far_nonneg (ga x hx) (gb y hy) (turns_bd hc hs hk)
  have he : farsA c s a b = [] ↔ (a.isEmpty || b.isEmpty) = true := by
    constructor
    · intro h
      cases a with
      | nil => rfl
      | cons x a =>
        cases b with
        | nil => rfl
        | cons y b =>
          have : farE x y (s + 0 * c) ∈ farsA c s (x :: a) (y :: b) := mem_fars.2 ⟨x, by simp, y, by simp, 0, by omega, by omega, rfl⟩
          rw [h] at this; cases this
    · intro h
      cases hf : farsA c s a b with
      | nil => rfl
      | cons r l =>
        have : r ∈ farsA c s a b := by rw [hf]; simp
        obtain ⟨x, hx, y, hy, _⟩ := mem_fars.1 this
        cases a <;> cases b <;> simp_all
  refine ⟨?_, lw_gap hc hs ga gb, ?_⟩
  · unfold gapF
    cases hf : farsA c s a b with
    | nil =>
      have := he.1 hf
      simp only
      cases h1 : a.isEmpty <;> cases h2 : b.isEmpty <;> simp_all
    | cons r l =>
      have : ¬ (a.isEmpty || b.isEmpty) = true := fun h => by rw [he.2 h] at hf; cases hf
      simp only
      cases h1 : a.isEmpty <;> cases h2 : b.isEmpty <;> simp_all
  · unfold gapF
    cases hf : farsA c s a b with
    | nil => exact ⟨fun _ => rfl, fun h => by cases h⟩
    | cons r l =>
      rw [hf] at lw nn
      have hl := minR_le l r (lw r (by simp)) fun x hx => lw x (by simp [hx])
      have hz : (if 0 ≤ compareF (0, 1) (minR r l) then (0, 1) else minR r l) = minR r l := by
        split
        · rename_i hz
          exact (lw_le_zero (lw _ hl.2) (nn _ hl.2) hz).symm
        · rfl
      simp only
      rw [hz]
      refine ⟨?_, fun _ => ⟨hl.2, hl.1⟩⟩
      intro h; cases h

/-- The turn from the other side. -/
def back (c s : Int) : Int := if s = 0 then 0 else c - s
theorem far_back {c s : Int} {x y : Str} (hc : 1 ≤ c ∧ c ≤ 3600) (hs : 0 ≤ s ∧ s < c) (hx : Gs c x) (hy : Gs c y) {k : Int} (h1 : -2 ≤ k) (h2 : k ≤ 2) :
    ∃ j : Int, -2 ≤ j ∧ j ≤ 2 ∧ leQ (farE y x (back c s + j * c)) (farE x y (s + k * c)) := by
  have kb := mul_bd (x := k) (y := c) (A := 2) (B := 3600) ⟨by omega, by omega⟩ ⟨by omega, by omega⟩
  unfold back
  split
  · rename_i h0
    subst h0
    refine ⟨-k, by omega, by omega, ?_⟩
    have : (0 : Int) + -k * c = -(0 + k * c) := by rw [Int.neg_mul]; omega
    rw [this, far_sym hx hy (by omega)]
    exact leQ_refl _
  · by_cases hk : k = 2
    · subst hk
      refine ⟨-2, by omega, by omega, ?_⟩
      have : c - s + -2 * c = -(s + c) := by omega
      rw [this, far_sym hx hy (by omega)]
      exact far_mono hx hy (by omega) (by omega) (by omega) (le_plus hx hy hc.1 (by omega))
    · refine ⟨-k - 1, by omega, by omega, ?_⟩
      have : c - s + (-k - 1) * c = -(s + k * c) := by rw [Int.sub_mul, Int.neg_mul]; omega
      rw [this, far_sym hx hy (by omega)]
      exact leQ_refl _
theorem back_back {c s : Int} (hs : 0 ≤ s ∧ s < c) : back c (back c s) = s := by unfold back; split <;> split <;> omega
theorem back_bd {c s : Int} (hc : 1 ≤ c) (hs : 0 ≤ s ∧ s < c) : 0 ≤ back c s ∧ back c s < c := by unfold back; split <;> omega

theorem gap_back {c s : Int} {a b : List Str} (hc : 1 ≤ c ∧ c ≤ 3600) (hs : 0 ≤ s ∧ s < c) (ha : ∀ x ∈ a, Gs c x) (hb : ∀ x ∈ b, Gs c x) : gapF c (back c s) b a = gapF c s a b := by
  have hbs := back_bd hc.1 hs
  obtain ⟨e1, l1, z1, m1⟩ := gap_char hc hs ha hb
  obtain ⟨e2, l2, z2, m2⟩ := gap_char hc hbs hb ha
  have e : (gapF c (back c s) b a).2 = (gapF c s a b).2 := by rw [e1, e2, Bool.and_comm]
  refine Prod.ext ?_ e
  cases hf : (gapF c s a b).2
  · rw [z1 hf, z2 (e.trans hf)]
  · obtain ⟨i1, k1⟩ := m1 hf
    obtain ⟨i2, k2⟩ := m2 (e.trans hf)
    refine leQ_anti l2 l1 ?_ ?_
    · obtain ⟨x, hx, y, hy, k, h1, h2, h3⟩ := mem_fars.1 i1
      obtain ⟨j, j1, j2, j3⟩ := far_back hc hs (ha x hx) (hb y hy) h1 h2
      rw [h3] at l1 ⊢
      have jb := mul_bd (x := j) (y := c) (A := 2) (B := 3600) ⟨by omega, by omega⟩ ⟨by omega, by omega⟩
      exact leQ_trans l2.ri.d (lw_far (hb y hy).g (ha x hx).g (by omega)).ri.d l1.ri.d (k2 _ (mem_fars.2 ⟨y, hy, x, hx, j, j1, j2, rfl⟩)) j3
    · obtain ⟨x, hx, y, hy, k, h1, h2, h3⟩ := mem_fars.1 i2
      obtain ⟨j, j1, j2, j3⟩ := far_back hc hbs (hb x hx) (ha y hy) h1 h2
      rw [back_back hs] at j3
      rw [h3] at l2 ⊢
      have jb := mul_bd (x := j) (y := c) (A := 2) (B := 3600) ⟨by omega, by omega⟩ ⟨by omega, by omega⟩
      exact leQ_trans l1.ri.d (lw_far (ha y hy).g (hb x hx).g (by omega)).ri.d l2.ri.d (k1 _ (mem_fars.2 ⟨y, hy, x, hx, j, j1, j2, rfl⟩)) j3

/-- **A gap is at most half a cycle.** -/
theorem gap_half {c s : Int} {a b : List Str} (hc : 1 ≤ c ∧ c ≤ 3600) (hs : 0 ≤ s ∧ s < c) (ha : ∀ x ∈ a, Gs c x) (hb : ∀ x ∈ b, Gs c x) (hf : (gapF c s a b).2 = true) : leQ (gapF c s a b).1 (red (c, 2)) := by
  obtain ⟨e1, l1, z1, m1⟩ := gap_char hc hs ha hb
  obtain ⟨i1, k1⟩ := m1 hf
  obtain ⟨x, hx, y, hy, _⟩ := mem_fars.1 i1
  have gx := ha x hx
  have gy := hb y hy
  -- N / M: x - y - s
  have dM : 1 ≤ x.1.2 * y.1.2 := Int.mul_pos (a := x.1.2) (b := y.1.2) (by have := gx.g.fd; omega) (by have := gy.g.fd; omega)
  have key : ∀ k : Int, -2 ≤ k → k ≤ 2 → ∀ u : Int, x.1.1 * y.1.2 - y.1.1 * x.1.2 - (s + k * c) * (x.1.2 * y.1.2) ≤ u → -(x.1.1 * y.1.2 - y.1.1 * x.1.2 - (s + k * c) * (x.1.2 * y.1.2)) ≤ u → 2 * u ≤ c * (x.1.2 * y.1.2) → leQ (gapF c s a b).1 (red (c, 2)) := by
    intro k h1 h2 u u1 u2 u3
    have kb := mul_bd (x := k) (y := c) (A := 2) (B := 3600) ⟨by omega, by omega⟩ ⟨by omega, by omega⟩
    have hn : -15000 ≤ s + k * c ∧ s + k * c ≤ 15000 := by omega
    have lf := lw_far gx.g gy.g hn
    refine leQ_trans l1.ri.d lf.ri.d ?_ (k1 _ (mem_fars.2 ⟨x, hx, y, hy, k, h1, h2, rfl⟩)) ?_
    · unfold red
      have g := gcd_pos (n := c) (d := 2) (by omega)
      have gl := gcd_le (n := c) (d := 2) (by omega)
      show 1 ≤ 2 / (Int.gcd c 2 : Int)
      exact Int.le_ediv_of_mul_le (by omega) (by omega)
    · have hu := far_le (u := u) gx gy hn (by
        show (y.1.1 + (s + k * c) * y.1.2) * x.1.2 - x.1.1 * y.1.2 ≤ u
        have : (y.1.1 + (s + k * c) * y.1.2) * x.1.2 = y.1.1 * x.1.2 + (s + k * c) * (x.1.2 * y.1.2) := by rw [Int.add_mul]; congr 1; ac_rfl
        omega) (by
        show x.1.1 * y.1.2 - (y.1.1 + (s + k * c) * y.1.2) * x.1.2 ≤ u
        have : (y.1.1 + (s + k * c) * y.1.2) * x.1.2 = y.1.1 * x.1.2 + (s + k * c) * (x.1.2 * y.1.2) := by rw [Int.add_mul]; congr 1; ac_rfl
        omega)
      rw [← red_lw lf]
      refine (leQ_red (v := (c, 2)) lf.ri.d (by simp)).2 ?_
      refine leQ_trans lf.ri.d dM (by simp) hu ?_
      unfold leQ
      simp only
      omega
  have b1 : 0 ≤ x.1.1 * y.1.2 ∧ x.1.1 * y.1.2 ≤ c * (x.1.2 * y.1.2) := by
    refine ⟨Int.mul_nonneg (by have := gx.g.f; omega) (by have := gy.g.fd; omega), ?_⟩
    have t : x.1.1 ≤ c * x.1.2 := by
      have o := gx.o
      have t := gx.t
      have d1 := gx.g.fd.1
      have d2 := gx.g.td.1
      have := Int.mul_le_mul_of_nonneg_right t (show 0 ≤ x.1.2 by omega)
      have e : c * x.2.2 * x.1.2 = c * x.1.2 * x.2.2 := by ac_rfl
      exact Int.le_of_mul_le_mul_right (a := x.2.2) (by omega) (by omega)
    have := Int.mul_le_mul_of_nonneg_right t (show 0 ≤ y.1.2 by have := gy.g.fd; omega)
    rw [← Int.mul_assoc]; exact this
  have b2 : 0 ≤ y.1.1 * x.1.2 ∧ y.1.1 * x.1.2 ≤ c * (x.1.2 * y.1.2) := by
    refine ⟨Int.mul_nonneg (by have := gy.g.f; omega) (by have := gx.g.fd; omega), ?_⟩
    have t : y.1.1 ≤ c * y.1.2 := by
      have o := gy.o
      have t := gy.t
      have d1 := gy.g.fd.1
      have d2 := gy.g.td.1
      have := Int.mul_le_mul_of_nonneg_right t (show 0 ≤ y.1.2 by omega)
      have e : c * y.2.2 * y.1.2 = c * y.1.2 * y.2.2 := by ac_rfl
      exact Int.le_of_mul_le_mul_right (a := y.2.2) (by omega) (by omega)
    have := Int.mul_le_mul_of_nonneg_right t (show 0 ≤ x.1.2 by have := gx.g.fd; omega)
    rw [show c * (x.1.2 * y.1.2) = c * y.1.2 * x.1.2 by ac_rfl]; exact this
  have b3 : 0 ≤ s * (x.1.2 * y.1.2) ∧ s * (x.1.2 * y.1.2) ≤ c * (x.1.2 * y.1.2) := ⟨Int.mul_nonneg hs.1 (by omega), Int.mul_le_mul_of_nonneg_right (by omega) (by omega)⟩
  have e : ∀ k : Int, (s + k * c) * (x.1.2 * y.1.2) = s * (x.1.2 * y.1.2) + k * (c * (x.1.2 * y.1.2)) := fun k => by rw [Int.add_mul, Int.mul_assoc]
  simp only [e] at key
  generalize x.1.1 * y.1.2 = p at *
  generalize y.1.1 * x.1.2 = q at *
  generalize s * (x.1.2 * y.1.2) = r at *
  generalize c * (x.1.2 * y.1.2) = t at *
  by_cases c1 : t ≤ 2 * (p - q - r)
  · exact key 1 (by omega) (by omega) (t - (p - q - r)) (by omega) (by omega) (by omega)
  by_cases c2 : 0 ≤ p - q - r
  · exact key 0 (by omega) (by omega) (p - q - r) (by omega) (by omega) (by omega)
  by_cases c3 : -t ≤ 2 * (p - q - r)
  · exact key 0 (by omega) (by omega) (-(p - q - r)) (by omega) (by omega) (by omega)
  by_cases c4 : -t ≤ p - q - r
  · exact key (-1) (by omega) (by omega) (t + (p - q - r)) (by omega) (by omega) (by omega)
  by_cases c5 : -(3 * t) ≤ 2 * (p - q - r)
  · exact key (-1) (by omega) (by omega) (-(t + (p - q - r))) (by omega) (by omega) (by omega)
  · exact key (-2) (by omega) (by omega) (2 * t + (p - q - r)) (by omega) (by omega) (by omega)

/-- **No two times of the stretches are closer.** -/
theorem gap_near {c s : Int} {a b : List Str} (hc : 1 ≤ c ∧ c ≤ 3600) (hs : 0 ≤ s ∧ s < c) (ha : ∀ x ∈ a, Gs c x) (hb : ∀ x ∈ b, Gs c x) {x y : Str} (hx : x ∈ a) (hy : y ∈ b) {k : Int} (h1 : -2 ≤ k) (h2 : k ≤ 2)
    (hd : 0 ≤ (minusE (plusE y.1 (s + k * c)) x.2).1) : leQ (gapF c s a b).1 (minusE (plusE y.1 (s + k * c)) x.2) := by
  obtain ⟨e1, l1, z1, m1⟩ := gap_char hc hs ha hb
  have kb := mul_bd (x := k) (y := c) (A := 2) (B := 3600) ⟨by omega, by omega⟩ ⟨by omega, by omega⟩
  have hn : -15000 ≤ s + k * c ∧ s + k * c ≤ 15000 := by omega
  have gx := ha x hx
  have gy := hb y hy
  have hf : (gapF c s a b).2 = true := by
    rw [e1]
    cases a <;> cases b <;> simp_all
  have lf := lw_far gx.g gy.g hn
  have lm := lw_minus (bdp1 gy hn) (bd2 gx)
  refine leQ_trans l1.ri.d lf.ri.d lm.ri.d ((m1 hf).2 _ (mem_fars.2 ⟨x, hx, y, hy, k, h1, h2, rfl⟩)) ?_
  conv => lhs; rw [far_apart gx.g gy.g hn gx.o gy.o]
  rcases apart_cases (x := x) (y := shiftE y (s + k * c)) (fun _ _ => trivial) with ⟨a1, a2⟩ | ⟨a0, a1, a2⟩ | ⟨a0, a1, a2⟩
  · rw [a2]; exact leQ_refl _
  · exfalso
    have m := minus_bd (bdp1 gy hn) (bd2 gx)
    have s1 := red_pos (n := (plusE y.1 (s + k * c)).1 * x.2.2 - x.2.1 * (plusE y.1 (s + k * c)).2) (d := (plusE y.1 (s + k * c)).2 * x.2.2) (by omega)
    have e : minusE (plusE y.1 (s + k * c)) x.2 = red ((plusE y.1 (s + k * c)).1 * x.2.2 - x.2.1 * (plusE y.1 (s + k * c)).2, (plusE y.1 (s + k * c)).2 * x.2.2) := rfl
    rw [e] at hd
    have s2 := s1.2
    have h : leQ x.2 (plusE y.1 (s + k * c)) := by unfold leQ; omega
    have a1 : ltF (plusE y.2 (s + k * c)) x.1 = true := a1
    have f1 := frac_lt (a := plusE y.1 (s + k * c)) (b := plusE y.2 (s + k * c)) (c := x.1) (bdp1 gy hn).d.1 (bdp2 gy hn).d.1 gx.g.fd.1 (plusE_le _ gy.o) (by simpa [ltF] using a1)
    have f2 := frac_lt (a := x.2) (b := plusE y.1 (s + k * c)) (c := x.1) gx.g.td.1 (bdp1 gy hn).d.1 gx.g.fd.1 h f1
    have := gx.o
    omega
  · rw [a2]; exact leQ_zero hd

/-- **With a stretch less it is not less.** -/
theorem gap_less {c s : Int} {a a' b : List Str} (hc : 1 ≤ c ∧ c ≤ 3600) (hs : 0 ≤ s ∧ s < c) (ha : ∀ x ∈ a, Gs c x) (hb : ∀ x ∈ b, Gs c x) (hsub : ∀ x ∈ a', x ∈ a) (hf : (gapF c s a' b).2 = true) : leQ (gapF c s a b).1 (gapF c s a' b).1 := by
  obtain ⟨e1, l1, z1, m1⟩ := gap_char hc hs ha hb
  obtain ⟨e2, l2, z2, m2⟩ := gap_char hc hs (fun x hx => ha x (hsub x hx)) hb
  obtain ⟨x, hx, y, hy, k, h1, h2, h3⟩ := mem_fars.1 (m2 hf).1
  have hf1 : (gapF c s a b).2 = true := by
    rw [e1]
    have := hsub x hx
    cases a <;> cases b <;> simp_all
  exact (m1 hf1).2 _ (mem_fars.2 ⟨x, hsub x hx, y, hy, k, h1, h2, h3⟩)
end Go.Proofs.YtgeficpcnlgnhaaG
