/- A motion that is no faster than so much in a tick never moves more. No condition. -/
import Derived.Test.YtgeficpcnlgnhaaC32
set_option linter.unusedVariables false
set_option linter.unusedSimpArgs false
set_option maxRecDepth 100000
set_option maxHeartbeats 4000000
namespace Go.Proofs.YtgeficpcnlgnhaaG
open Go Go.AM Go.Proofs

/-- Two positions are at most M times m / D apart. -/
def Lp (M D m : Int) (x y : Int × Int) : Prop := (x.1 * y.2 - y.1 * x.2) * D ≤ M * m * (x.2 * y.2) ∧ (y.1 * x.2 - x.1 * y.2) * D ≤ M * m * (x.2 * y.2)
section
variable {M D : Int}
theorem Lp.symm {m : Int} {x y : Int × Int} (h : Lp M D m x y) : Lp M D m y x := by
  unfold Lp at *
  rw [Int.mul_comm y.2 x.2]; exact ⟨h.2, h.1⟩
theorem Lp.mono {m m' : Int} {x y : Int × Int} (h : Lp M D m x y) (hM : 0 ≤ M) (hx : 1 ≤ x.2) (hy : 1 ≤ y.2) (hm : m ≤ m') : Lp M D m' x y := by
  have xy := Int.mul_pos (a := x.2) (b := y.2) (by omega) (by omega)
  have := Int.mul_le_mul_of_nonneg_right (Int.mul_le_mul_of_nonneg_left hm hM) (show 0 ≤ x.2 * y.2 by omega)
  unfold Lp at *; omega
theorem Lp.same {x y : Int × Int} (h : x.1 * y.2 = y.1 * x.2) : Lp M D 0 x y := by
  unfold Lp
  rw [h, Int.sub_self, Int.zero_mul, Int.mul_zero, Int.zero_mul]; exact ⟨Int.le_refl _, Int.le_refl _⟩
theorem Lp.trans {m1 m2 : Int} {x y z : Int × Int} (hx : 1 ≤ x.2) (hy : 1 ≤ y.2) (hz : 1 ≤ z.2) (h1 : Lp M D m1 x y) (h2 : Lp M D m2 y z) : Lp M D (m1 + m2) x z := by
  have key : ∀ {a b c : Int × Int} {n1 n2 : Int}, 1 ≤ a.2 → 1 ≤ b.2 → 1 ≤ c.2 → (a.1 * b.2 - b.1 * a.2) * D ≤ M * n1 * (a.2 * b.2) → (b.1 * c.2 - c.1 * b.2) * D ≤ M * n2 * (b.2 * c.2) →
      (a.1 * c.2 - c.1 * a.2) * D ≤ M * (n1 + n2) * (a.2 * c.2) := fun {a b c n1 n2} ha hb hc k1 k2 => by
    refine Int.le_of_mul_le_mul_right (a := b.2) ?_ (by omega)
    have j1 := Int.mul_le_mul_of_nonneg_right k1 (show 0 ≤ c.2 by omega)
    have j2 := Int.mul_le_mul_of_nonneg_right k2 (show 0 ≤ a.2 by omega)
    have e1 : (a.1 * b.2 - b.1 * a.2) * D * c.2 + (b.1 * c.2 - c.1 * b.2) * D * a.2 = (a.1 * c.2 - c.1 * a.2) * D * b.2 := by
      simp only [Int.sub_mul]
      have t1 : a.1 * b.2 * D * c.2 = a.1 * c.2 * D * b.2 := by ac_rfl
      have t2 : b.1 * a.2 * D * c.2 = b.1 * c.2 * D * a.2 := by ac_rfl
      have t3 : c.1 * b.2 * D * a.2 = c.1 * a.2 * D * b.2 := by ac_rfl
      omega
    have e2 : M * n1 * (a.2 * b.2) * c.2 + M * n2 * (b.2 * c.2) * a.2 = M * (n1 + n2) * (a.2 * c.2) * b.2 := by
      rw [Int.mul_add, Int.add_mul, Int.add_mul]
      congr 1 <;> ac_rfl
    omega
  refine ⟨key hx hy hz h1.1 h2.1, ?_⟩
  have := key hz hy hx (n1 := m2) (n2 := m1) (by rw [Int.mul_comm z.2]; exact h2.2) (by rw [Int.mul_comm y.2]; exact h1.2)
  rwa [Int.add_comm m2, Int.mul_comm z.2] at this
theorem Lp.red {m : Int} {x y : Int × Int} (hx : 1 ≤ x.2) (hy : 1 ≤ y.2) (h : Lp M D m x y) : Lp M D m (Go.Proofs.YtgeficpcnlgnhaaG.red x) (Go.Proofs.YtgeficpcnlgnhaaG.red y) := by
  have gx := gcd_pos (n := x.1) hx
  have gy := gcd_pos (n := y.1) hy
  obtain ⟨k, hk⟩ : (Int.gcd x.1 x.2 : Int) ∣ x.1 := Int.gcd_dvd_left ..
  obtain ⟨n, hn⟩ : (Int.gcd x.1 x.2 : Int) ∣ x.2 := Int.gcd_dvd_right ..
  obtain ⟨k', hk'⟩ : (Int.gcd y.1 y.2 : Int) ∣ y.1 := Int.gcd_dvd_left ..
  obtain ⟨n', hn'⟩ : (Int.gcd y.1 y.2 : Int) ∣ y.2 := Int.gcd_dvd_right ..
  unfold Lp at h ⊢
  unfold Go.Proofs.YtgeficpcnlgnhaaG.red
  simp only
  generalize (Int.gcd x.1 x.2 : Int) = g at *
  generalize (Int.gcd y.1 y.2 : Int) = f at *
  have e1 : x.1 / g = k := by rw [hk]; exact Int.mul_ediv_cancel_left _ (by omega)
  have e2 : x.2 / g = n := by rw [hn]; exact Int.mul_ediv_cancel_left _ (by omega)
  have e3 : y.1 / f = k' := by rw [hk']; exact Int.mul_ediv_cancel_left _ (by omega)
  have e4 : y.2 / f = n' := by rw [hn']; exact Int.mul_ediv_cancel_left _ (by omega)
  rw [e1, e2, e3, e4]
  rw [hk, hn, hk', hn'] at h
  have gf := Int.mul_pos (a := g) (b := f) (by omega) (by omega)
  have t1 : (g * k * (f * n') - f * k' * (g * n)) * D = (g * f) * ((k * n' - k' * n) * D) := by
    rw [show g * k * (f * n') = (g * f) * (k * n') by ac_rfl, show f * k' * (g * n) = (g * f) * (k' * n) by ac_rfl, ← Int.mul_sub, Int.mul_assoc]
  have t2 : (f * k' * (g * n) - g * k * (f * n')) * D = (g * f) * ((k' * n - k * n') * D) := by
    rw [show g * k * (f * n') = (g * f) * (k * n') by ac_rfl, show f * k' * (g * n) = (g * f) * (k' * n) by ac_rfl, ← Int.mul_sub, Int.mul_assoc]
  have t3 : M * m * (g * n * (f * n')) = (g * f) * (M * m * (n * n')) := by ac_rfl
  rw [t1, t2, t3] at h
  exact ⟨Int.le_of_mul_le_mul_left h.1 gf, Int.le_of_mul_le_mul_left h.2 gf⟩

/-- Within a part. -/
theorem lp_part {p : Pc} (ab : p.a < p.b) (hD : 1 ≤ D) (h1 : p.q - p.p ≤ M * (p.b - p.a)) (h2 : p.p - p.q ≤ M * (p.b - p.a)) {t u : Int} (htu : t ≤ u) : Lp M D (u - t) (posE t D p) (posE u D p) := by
  have W : 1 ≤ (p.b - p.a) * D := Int.mul_pos (a := p.b - p.a) (b := D) (by omega) (by omega)
  unfold Lp posE
  simp only
  generalize hw : (p.b - p.a) * D = w at *
  have e1 : (p.p * w + (p.q - p.p) * (t - p.a * D)) * w - (p.p * w + (p.q - p.p) * (u - p.a * D)) * w = (p.p - p.q) * (u - t) * w := by
    rw [← Int.sub_mul]
    congr 1
    have a1 : (p.q - p.p) * (t - p.a * D) = (p.q - p.p) * t - (p.q - p.p) * (p.a * D) := Int.mul_sub ..
    have a2 : (p.q - p.p) * (u - p.a * D) = (p.q - p.p) * u - (p.q - p.p) * (p.a * D) := Int.mul_sub ..
    have a3 : (p.p - p.q) * (u - t) = (p.q - p.p) * t - (p.q - p.p) * u := by
      rw [← Int.mul_sub, show p.p - p.q = -(p.q - p.p) by omega, show u - t = -(t - u) by omega, Int.neg_mul_neg]
    omega
  have e2 : (p.p * w + (p.q - p.p) * (u - p.a * D)) * w - (p.p * w + (p.q - p.p) * (t - p.a * D)) * w = (p.q - p.p) * (u - t) * w := by
    have : (p.q - p.p) * (u - t) * w = -((p.p - p.q) * (u - t) * w) := by rw [← Int.neg_mul, ← Int.neg_mul]; congr 2; omega
    omega
  rw [e1, e2]
  have e3 : M * (u - t) * (w * w) = M * (p.b - p.a) * (u - t) * w * D := by rw [← hw]; ac_rfl
  rw [e3]
  have nn : 0 ≤ u - t := by omega
  exact ⟨Int.mul_le_mul_of_nonneg_right (Int.mul_le_mul_of_nonneg_right (Int.mul_le_mul_of_nonneg_right h2 nn) (by omega)) (by omega),
    Int.mul_le_mul_of_nonneg_right (Int.mul_le_mul_of_nonneg_right (Int.mul_le_mul_of_nonneg_right h1 nn) (by omega)) (by omega)⟩
end

section
variable {cycle home : Int} {l : List (Int × Int)} {M D : Int}
/-- How fast a motion is at most. -/
structure Fast (cycle home : Int) (l : List (Int × Int)) (M : Int) : Prop where
  m0 : 0 ≤ M
  up : ∀ j, j < max l.length 1 → (pcN cycle home l j).q - (pcN cycle home l j).p ≤ M * ((pcN cycle home l j).b - (pcN cycle home l j).a)
  dn : ∀ j, j < max l.length 1 → (pcN cycle home l j).p - (pcN cycle home l j).q ≤ M * ((pcN cycle home l j).b - (pcN cycle home l j).a)

theorem posE_den {p : Pc} (ab : p.a < p.b) (hD : 1 ≤ D) (t : Int) : 1 ≤ (posE t D p).2 := Int.mul_pos (a := p.b - p.a) (b := D) (by omega) (by omega)

theorem lp_parts (h : Okm cycle home l) (f : Fast cycle home l M) (hD : 1 ≤ D) : ∀ (d i : Nat) (t u : Int), i + d < max l.length 1 → tIn (t, D) (pcN cycle home l i) → tIn (u, D) (pcN cycle home l (i + d)) → t ≤ u →
    Lp M D (u - t) (posE t D (pcN cycle home l i)) (posE u D (pcN cycle home l (i + d)))
  | 0, i, t, u, hi, ht, hu, htu => lp_part (h.pc hi).ab hD (f.up i hi) (f.dn i hi) htu
  | d + 1, i, t, u, hi, ht, hu, htu => by
    have hi' : i + d + 1 < max l.length 1 := hi
    have o := pc_order h d i hi'
    have n := pc_next h (i := i + d) hi'
    have ok := h.pc (i := i + d) (by omega)
    have ok1 := h.pc (i := i + d + 1) hi'
    have hj : tIn ((pcN cycle home l (i + d)).b * D, D) (pcN cycle home l (i + d)) := ⟨Int.mul_le_mul_of_nonneg_right (by have := ok.ab; omega) (by omega), Int.le_refl _⟩
    have hle : t ≤ (pcN cycle home l (i + d)).b * D := by
      have h2 := ht.2
      have := Int.mul_le_mul_of_nonneg_right (show (pcN cycle home l i).b ≤ (pcN cycle home l (i + d)).b by rw [n.1]; exact o) (show 0 ≤ D by omega)
      simp only at h2; omega
    have l1 := lp_parts h f hD d i t ((pcN cycle home l (i + d)).b * D) (by omega) ht hj hle
    have hul : (pcN cycle home l (i + d)).b * D ≤ u := by have := hu.1; rw [n.1]; exact this
    have l3 := lp_part (M := M) (t := (pcN cycle home l (i + d)).b * D) (u := u) ok1.ab hD (f.up (i + d + 1) hi') (f.dn (i + d + 1) hi') hul
    have l2 : Lp M D 0 (posE ((pcN cycle home l (i + d)).b * D) D (pcN cycle home l (i + d))) (posE ((pcN cycle home l (i + d)).b * D) D (pcN cycle home l (i + d + 1))) := by
      refine Lp.same ?_
      unfold posE
      simp only
      rw [← Int.sub_mul, ← Int.add_mul, show (pcN cycle home l (i + d)).p + ((pcN cycle home l (i + d)).q - (pcN cycle home l (i + d)).p) = (pcN cycle home l (i + d)).q by omega]
      rw [n.1, n.2, Int.sub_self, Int.mul_zero, Int.add_zero]
      ac_rfl
    have d1 := posE_den (D := D) (h.pc (i := i) (by omega)).ab hD t
    have d2 := posE_den (D := D) ok.ab hD ((pcN cycle home l (i + d)).b * D)
    have d3 := posE_den (D := D) ok1.ab hD ((pcN cycle home l (i + d)).b * D)
    have d4 := posE_den (D := D) ok1.ab hD u
    have r := Lp.trans d1 d3 d4 (Lp.trans d1 d2 d3 l1 l2) l3
    rw [show (pcN cycle home l (i + d)).b * D - t + 0 + (u - (pcN cycle home l (i + d)).b * D) = u - t by omega] at r
    exact r

/-- Between two times of a cycle. -/
theorem lp_times (h : Okm cycle home l) (f : Fast cycle home l M) (hD : 1 ≤ D) {i j : Nat} {t u : Int} (hi : i < max l.length 1) (hj : j < max l.length 1) (ht : tIn (t, D) (pcN cycle home l i)) (hu : tIn (u, D) (pcN cycle home l j)) (htu : t ≤ u) :
    Lp M D (u - t) (posE t D (pcN cycle home l i)) (posE u D (pcN cycle home l j)) := by
  by_cases hij : i ≤ j
  · have := lp_parts h f hD (j - i) i t u (by omega) ht (by rw [show i + (j - i) = j by omega]; exact hu) htu
    rwa [show i + (j - i) = j by omega] at this
  · -- the later part at an earlier time: both are the joint
    have e : t = u := by
      have o := pc_order h (i - j - 1) j (by omega)
      rw [show j + (i - j - 1) + 1 = i by omega] at o
      have := Int.mul_le_mul_of_nonneg_right o (show 0 ≤ D by omega)
      have h1 := ht.1
      have h2 := hu.2
      simp only at h1 h2
      omega
    subst e
    have := lp_parts h f hD (i - j) j t t (by omega) hu (by rw [show j + (i - j) = i by omega]; exact ht) (Int.le_refl _)
    rw [show j + (i - j) = i by omega] at this
    exact this.symm
/-- Round the cycle's end. -/
theorem lp_round (h : Okm cycle home l) (f : Fast cycle home l M) (hD : 1 ≤ D) {i j : Nat} {t u : Int} (hi : i < max l.length 1) (hj : j < max l.length 1) (ht : tIn (t, D) (pcN cycle home l i)) (hu : tIn (u, D) (pcN cycle home l j)) (t0 : 0 ≤ t) (u1 : u ≤ cycle * D) :
    Lp M D (cycle * D - (u - t)) (posE t D (pcN cycle home l i)) (posE u D (pcN cycle home l j)) := by
  have ok0 := h.pc (i := 0) (by omega)
  have okl := h.pc (i := max l.length 1 - 1) (by omega)
  have z0 : tIn (0, D) (pcN cycle home l 0) := ⟨by rw [pc_first h]; simp, by simp only; exact Int.mul_nonneg (by have := ok0.a0; have := ok0.ab; omega) (by omega)⟩
  have zl : tIn (cycle * D, D) (pcN cycle home l (max l.length 1 - 1)) := ⟨Int.mul_le_mul_of_nonneg_right (by have := okl.ab; have := h.last; omega) (by omega), by rw [h.last]; simp⟩
  have l1 := (lp_times h f hD (by omega) hi z0 ht t0).symm
  have l3 := (lp_times h f hD hj (by omega) hu zl u1).symm
  have l2 : Lp M D 0 (posE 0 D (pcN cycle home l 0)) (posE (cycle * D) D (pcN cycle home l (max l.length 1 - 1))) := by
    refine Lp.same ?_
    unfold posE
    simp only
    have e := h.last
    have q := pc_end h
    rw [show cycle * D - (pcN cycle home l (max l.length 1 - 1)).a * D = ((pcN cycle home l (max l.length 1 - 1)).b - (pcN cycle home l (max l.length 1 - 1)).a) * D by rw [e, Int.sub_mul]]
    rw [← Int.add_mul, show (pcN cycle home l (max l.length 1 - 1)).p + ((pcN cycle home l (max l.length 1 - 1)).q - (pcN cycle home l (max l.length 1 - 1)).p) = (pcN cycle home l (max l.length 1 - 1)).q by omega, q, pc_first h]
    rw [Int.zero_mul, Int.sub_zero, Int.sub_zero, Int.mul_zero, Int.add_zero]
    ac_rfl
  have d1 := posE_den (D := D) (h.pc hi).ab hD t
  have d2 := posE_den (D := D) ok0.ab hD 0
  have d3 := posE_den (D := D) okl.ab hD (cycle * D)
  have d4 := posE_den (D := D) (h.pc hj).ab hD u
  have r := Lp.trans d1 d3 d4 (Lp.trans d1 d2 d3 l1 l2) l3
  rw [show t - 0 + 0 + (cycle * D - u) = cycle * D - (u - t) by omega] at r
  exact r
end
end Go.Proofs.YtgeficpcnlgnhaaG
