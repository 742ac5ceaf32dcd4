/- What holds of gaps: from both sides, no more than half a cycle, nearest points, fewer stretches. No condition. -/
import Derived.Test.YtgeficpcnlgnhaaC26
set_option linter.unusedVariables false
set_option linter.unusedSimpArgs false
set_option maxRecDepth 100000
set_option maxHeartbeats 4000000
namespace Go.Proofs.YtgeficpcnlgnhaaG
open Go Go.AM Go.Proofs

def leQ (a b : Int × Int) : Prop := a.1 * b.2 ≤ b.1 * a.2
theorem ltF_not {a b : Int × Int} : ltF a b = false ↔ leQ b a := by simp [ltF, leQ]
theorem leQ_trans {a b c : Int × Int} (ha : 1 ≤ a.2) (hb : 1 ≤ b.2) (hc : 1 ≤ c.2) (h1 : leQ a b) (h2 : leQ b c) : leQ a c := by
  unfold leQ at *
  have e1 : a.1 * c.2 * b.2 = a.1 * b.2 * c.2 := by ac_rfl
  have e2 : b.1 * a.2 * c.2 = b.1 * c.2 * a.2 := by ac_rfl
  have e3 : c.1 * b.2 * a.2 = c.1 * a.2 * b.2 := by ac_rfl
  have i1 := Int.mul_le_mul_of_nonneg_right h1 (show 0 ≤ c.2 by omega)
  have i2 := Int.mul_le_mul_of_nonneg_right h2 (show 0 ≤ a.2 by omega)
  refine Int.le_of_mul_le_mul_right (a := b.2) ?_ (by omega)
  omega
theorem leQ_refl (a : Int × Int) : leQ a a := Int.le_refl _
theorem leQ_total (a b : Int × Int) : leQ a b ∨ leQ b a := by unfold leQ; omega
theorem leQ_red {u v : Int × Int} (hu : 1 ≤ u.2) (hv : 1 ≤ v.2) : leQ (red u) (red v) ↔ leQ u v := by
  have := red_cross (r := v) (s := u) hv hu
  unfold leQ; omega
theorem red_lw {r : Int × Int} (h : Lw r) : red r = r := by unfold red; rw [h.g]; simp
theorem leQ_anti {a b : Int × Int} (ha : Lw a) (hb : Lw b) (h1 : leQ a b) (h2 : leQ b a) : a = b := by
  have e : a.1 * b.2 = b.1 * a.2 := by unfold leQ at *; omega
  have da := ha.ri.d
  have db := hb.ri.d
  have en : a.1.natAbs * b.2.natAbs = b.1.natAbs * a.2.natAbs := by rw [← Int.natAbs_mul, ← Int.natAbs_mul, e]
  have ga : Nat.gcd a.1.natAbs a.2.natAbs = 1 := ha.g
  have gb : Nat.gcd b.1.natAbs b.2.natAbs = 1 := hb.g
  have d1 : a.2.natAbs ∣ b.2.natAbs := by
    have : Nat.Coprime a.2.natAbs a.1.natAbs := by rw [Nat.Coprime, Nat.gcd_comm]; exact ga
    exact this.dvd_of_dvd_mul_left (by rw [en]; exact Nat.dvd_mul_left ..)
  have d2 : b.2.natAbs ∣ a.2.natAbs := by
    have : Nat.Coprime b.2.natAbs b.1.natAbs := by rw [Nat.Coprime, Nat.gcd_comm]; exact gb
    exact this.dvd_of_dvd_mul_left (by rw [← en]; exact Nat.dvd_mul_left ..)
  have e2 : a.2 = b.2 := by have := Nat.dvd_antisymm d1 d2; omega
  refine Prod.ext ?_ e2
  rw [e2] at e
  exact Int.eq_of_mul_eq_mul_right (by omega) e

/-- The three ways in which two stretches lie. -/
theorem apart_cases {x y : Str} (h : ∀ r, apartF x y = r → True) : (ltF x.2 y.1 = true ∧ apartF x y = minusE y.1 x.2) ∨ (ltF x.2 y.1 = false ∧ ltF y.2 x.1 = true ∧ apartF x y = minusE x.1 y.2) ∨ (ltF x.2 y.1 = false ∧ ltF y.2 x.1 = false ∧ apartF x y = (0, 1)) := by
  unfold apartF
  cases h1 : ltF x.2 y.1
  · cases h2 : ltF y.2 x.1
    · exact .inr (.inr ⟨rfl, rfl, by simp⟩)
    · exact .inr (.inl ⟨rfl, rfl, by simp⟩)
  · exact .inl ⟨rfl, by simp⟩

theorem minus_plus (p q : Int × Int) (n : Int) : minusE (plusE p (-n)) q = minusE p (plusE q n) := by
  unfold minusE plusE
  simp only
  rw [Int.add_mul, Int.add_mul, Int.neg_mul, Int.neg_mul]
  congr 2
  have : n * p.2 * q.2 = n * q.2 * p.2 := by ac_rfl
  omega
theorem ltF_plus (p q : Int × Int) (n : Int) : ltF (plusE p (-n)) q = ltF p (plusE q n) := by
  unfold ltF plusE
  simp only
  rw [Int.add_mul, Int.add_mul, Int.neg_mul, Int.neg_mul]
  have : n * p.2 * q.2 = n * q.2 * p.2 := by ac_rfl
  congr 1
  exact propext ⟨fun _ => by omega, fun _ => by omega⟩
theorem ltF_plus2 (p q : Int × Int) (n : Int) : ltF p (plusE q (-n)) = ltF (plusE p n) q := by
  have := ltF_plus p q n
  unfold ltF plusE at *
  simp only at *
  rw [Int.add_mul, Int.add_mul, Int.neg_mul, Int.neg_mul]
  have : n * p.2 * q.2 = n * q.2 * p.2 := by ac_rfl
  congr 1
  exact propext ⟨fun _ => by omega, fun _ => by omega⟩
theorem minus_plus2 (p q : Int × Int) (n : Int) : minusE p (plusE q (-n)) = minusE (plusE p n) q := by
  unfold minusE plusE
  simp only
  rw [Int.add_mul, Int.add_mul, Int.neg_mul, Int.neg_mul]
  congr 2
  have : n * p.2 * q.2 = n * q.2 * p.2 := by ac_rfl
  omega

/-- Is a stretch one that may be handed in, and in order? -/
structure Gs (cycle : Int) (x : Str) : Prop where
  g : Gd x
  o : x.1.1 * x.2.2 ≤ x.2.1 * x.1.2
  t : x.2.1 ≤ cycle * x.2.2
theorem far_sym {c : Int} {x y : Str} {n : Int} (hx : Gs c x) (hy : Gs c y) (hn : -15000 ≤ n ∧ n ≤ 15000) : farE y x (-n) = farE x y n := by
  rw [far_apart hx.g hy.g hn hx.o hy.o, far_apart hy.g hx.g (by omega) hy.o hx.o]
  unfold apartF shiftE
  simp only
  rw [ltF_plus2, ltF_plus, minus_plus, minus_plus2]
  have ex : ∀ {a b : Int × Int} {c d : Int × Int}, 1 ≤ a.2 → 1 ≤ b.2 → 1 ≤ c.2 → 1 ≤ d.2 → leQ a b → leQ c d → ltF d a = true → ltF b c = true → False := fun {a b c d} ha hb hc hd h1 h2 h3 h4 => by
    have := frac_lt (a := a) (b := b) (c := c) ha hb hc h1 (by simpa [ltF] using h4)
    have := frac_lt (a := c) (b := d) (c := a) hc hd ha h2 (by simpa [ltF] using h3)
    omega
  cases h1 : ltF (plusE y.2 n) x.1
  · simp
  · cases h2 : ltF x.2 (plusE y.1 n)
    · simp
    · exact (ex (a := x.1) (b := x.2) (c := plusE y.1 n) (d := plusE y.2 n) hx.g.fd.1 hx.g.td.1 hy.g.fd.1 hy.g.td.1 hx.o (plusE_le n hy.o) h1 h2).elim

/-- A distance is at most that of two points. -/
theorem far_le {c : Int} {x y : Str} {n : Int} (hx : Gs c x) (hy : Gs c y) (hn : -15000 ≤ n ∧ n ≤ 15000) {u : Int} (h1 : (plusE y.1 n).1 * x.1.2 - x.1.1 * (plusE y.1 n).2 ≤ u) (h2 : x.1.1 * (plusE y.1 n).2 - (plusE y.1 n).1 * x.1.2 ≤ u) :
    leQ (farE x y n) (u, x.1.2 * y.1.2) := by
  have p1 := (plusE_eq hy.g.f hy.g.fd hn).2
  have p2 := (plusE_eq hy.g.t hy.g.td hn).2
  have x1 : Bd x.1 := ⟨by have := hx.g.f; omega, hx.g.fd⟩
  have x2 : Bd x.2 := ⟨by have := hx.g.t; omega, hx.g.td⟩
  have oq : (plusE y.1 n).1 * y.2.2 ≤ (plusE y.2 n).1 * y.1.2 := plusE_le n hy.o
  have h1 : (plusE y.1 n).1 * x.1.2 - x.1.1 * y.1.2 ≤ u := h1
  have h2 : x.1.1 * y.1.2 - (plusE y.1 n).1 * x.1.2 ≤ u := h2
  have pos : 1 ≤ x.1.2 * y.1.2 := Int.mul_pos (a := x.1.2) (b := y.1.2) (by have := hx.g.fd; omega) (by have := hy.g.fd; omega)
  rw [far_apart hx.g hy.g hn hx.o hy.o]
  have hu : leQ (red (u, x.1.2 * y.1.2)) (u, x.1.2 * y.1.2) := by
    unfold leQ red
    have g := gcd_pos (n := u) (d := x.1.2 * y.1.2) pos
    obtain ⟨k, hk⟩ : (Int.gcd u (x.1.2 * y.1.2) : Int) ∣ u := Int.gcd_dvd_left ..
    obtain ⟨m, hm⟩ : (Int.gcd u (x.1.2 * y.1.2) : Int) ∣ (x.1.2 * y.1.2) := Int.gcd_dvd_right ..
    simp only
    generalize (Int.gcd u (x.1.2 * y.1.2) : Int) = q at *
    have e1 : u / q = k := by rw [hk]; exact Int.mul_ediv_cancel_left _ (by omega)
    have e2 : x.1.2 * y.1.2 / q = m := by conv => lhs; rw [hm]
                                          exact Int.mul_ediv_cancel_left _ (by omega)
    rw [e1, e2]
    conv => lhs; rw [hm]
    conv => rhs; rw [hk]
    exact Int.le_of_eq (by ac_rfl)
  have redd : 1 ≤ (red (u, x.1.2 * y.1.2)).2 := by
    unfold red
    have g := gcd_pos (n := u) (d := x.1.2 * y.1.2) pos
    have gl := gcd_le (n := u) (d := x.1.2 * y.1.2) pos
    simp only
    exact Int.le_ediv_of_mul_le (by omega) (by omega)
  have key : ∀ (v w : Int × Int), Bd v → Bd w → leQ (v.1 * w.2 - w.1 * v.2, v.2 * w.2) (u, x.1.2 * y.1.2) → leQ (minusE v w) (u, x.1.2 * y.1.2) := fun v w hv hw h => by
    have m := minus_bd hv hw
    have l := lw_minus hv hw
    refine leQ_trans (b := red (u, x.1.2 * y.1.2)) l.ri.d redd pos ?_ hu
    unfold minusE
    exact (leQ_red (u := (v.1 * w.2 - w.1 * v.2, v.2 * w.2)) (by simp only; omega) pos).2 h
  rcases apart_cases (x := x) (y := shiftE y n) (fun _ _ => trivial) with ⟨a1, a2⟩ | ⟨a0, a1, a2⟩ | ⟨a0, a1, a2⟩
  · rw [a2]
    refine key _ _ p1 x2 ?_
    show ((plusE y.1 n).1 * x.2.2 - x.2.1 * y.1.2) * (x.1.2 * y.1.2) ≤ u * (y.1.2 * x.2.2)
    have o := hx.o
    have d1 := hx.g.fd.1
    have d2 := hx.g.td.1
    have d3 := hy.g.fd.1
    -- (P - x2) <= (P - x1) <= u
    have i1 := Int.mul_le_mul_of_nonneg_right h1 (show 0 ≤ y.1.2 * x.2.2 from Int.mul_nonneg (by omega) (by omega))
    have i2 : x.1.1 * x.2.2 * (y.1.2 * y.1.2) ≤ x.2.1 * x.1.2 * (y.1.2 * y.1.2) := Int.mul_le_mul_of_nonneg_right o (Int.mul_nonneg (by omega) (by omega))
    generalize (plusE y.1 n).1 = P at *
    have e1 : (P * x.2.2 - x.2.1 * y.1.2) * (x.1.2 * y.1.2) = P * x.2.2 * x.1.2 * y.1.2 - x.2.1 * x.1.2 * (y.1.2 * y.1.2) := by rw [Int.sub_mul]; congr 1 <;> ac_rfl
    have e2 : (P * x.1.2 - x.1.1 * y.1.2) * (y.1.2 * x.2.2) = P * x.2.2 * x.1.2 * y.1.2 - x.1.1 * x.2.2 * (y.1.2 * y.1.2) := by rw [Int.sub_mul]; congr 1 <;> ac_rfl
    omega
  · rw [a2]
    refine key _ _ x1 p2 ?_
    show (x.1.1 * y.2.2 - (plusE y.2 n).1 * x.1.2) * (x.1.2 * y.1.2) ≤ u * (x.1.2 * y.2.2)
    have d1 := hx.g.fd.1
    have d3 := hy.g.fd.1
    have d4 := hy.g.td.1
    have i1 := Int.mul_le_mul_of_nonneg_right h2 (show 0 ≤ x.1.2 * y.2.2 from Int.mul_nonneg (by omega) (by omega))
    generalize (plusE y.1 n).1 = P at *
    generalize (plusE y.2 n).1 = Q at *
    have i2 : P * y.2.2 * (x.1.2 * x.1.2) ≤ Q * y.1.2 * (x.1.2 * x.1.2) := Int.mul_le_mul_of_nonneg_right oq (Int.mul_nonneg (by omega) (by omega))
    have e1 : (x.1.1 * y.2.2 - Q * x.1.2) * (x.1.2 * y.1.2) = x.1.1 * y.2.2 * x.1.2 * y.1.2 - Q * y.1.2 * (x.1.2 * x.1.2) := by rw [Int.sub_mul]; congr 1 <;> ac_rfl
    have e2 : (x.1.1 * y.1.2 - P * x.1.2) * (x.1.2 * y.2.2) = x.1.1 * y.2.2 * x.1.2 * y.1.2 - P * y.2.2 * (x.1.2 * x.1.2) := by rw [Int.sub_mul]; congr 1 <;> ac_rfl
    omega
  · rw [a2]
    unfold leQ
    simp only
    omega
end Go.Proofs.YtgeficpcnlgnhaaG
