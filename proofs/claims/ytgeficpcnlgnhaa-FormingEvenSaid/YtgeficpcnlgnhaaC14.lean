/- What compare of the program tells. No condition. -/
import Derived.Test.YtgeficpcnlgnhaaC13
set_option linter.unusedVariables false
set_option linter.unusedSimpArgs false
set_option maxRecDepth 100000
namespace Go.Proofs.YtgeficpcnlgnhaaG
open Go Go.AM Go.Proofs

theorem and32 {x : Int} (h0 : 0 ≤ x) (h1 : x < 18446744073709551616) : bitsA .and .u64 x 4294967295 = x % 4294967296 := by
  obtain ⟨n, rfl⟩ := Int.eq_ofNat_of_zero_le h0
  have hn : n < 18446744073709551616 := by omega
  show IntKind.wrap .u64 (((BitVec.ofInt 64 (n : Int) &&& BitVec.ofInt 64 4294967295).toNat : Nat) : Int) = _
  have e1 : (BitVec.ofInt 64 (n : Int)).toNat = n := by rw [BitVec.toNat_ofInt]; omega
  have e2 : (BitVec.ofInt 64 4294967295).toNat = 2 ^ 32 - 1 := by decide
  rw [BitVec.toNat_and, e1, e2, Nat.and_two_pow_sub_one_eq_mod]
  rw [IntWalk.u64_in _ ⟨by omega, by omega⟩]
  omega

theorem wu_def (n : Int) : IntKind.wrap .u64 n = n % 18446744073709551616 := by simp [IntKind.wrap, IntKind.signed, IntKind.bits]
theorem wu_in {n : Int} (h0 : 0 ≤ n) (h1 : n < 18446744073709551616) : wu n = n := IntWalk.u64_in n ⟨h0, by omega⟩
theorem mulB_eq {x y : Int} (hx0 : 0 ≤ x) (hx1 : x < 18446744073709551616) (hy0 : 0 ≤ y) (hy1 : y < 18446744073709551616) : mulB x y = (x * y / 18446744073709551616, x * y % 18446744073709551616) := by
  have fd : ∀ z : Int, 0 ≤ z → z.fdiv (2 ^ 32) = z / 4294967296 := fun z hz => by rw [Int.fdiv_eq_ediv_of_nonneg _ (by decide)]; rfl
  unfold mulB
  simp only
  rw [and32 hx0 hx1, and32 hy0 hy1, fd x hx0, fd y hy0]
  have ex : x = x / 4294967296 * 4294967296 + x % 4294967296 := by omega
  have ey : y = y / 4294967296 * 4294967296 + y % 4294967296 := by omega
  have bx0 : 0 ≤ x % 4294967296 ∧ x % 4294967296 ≤ 4294967295 := by omega
  have by0 : 0 ≤ y % 4294967296 ∧ y % 4294967296 ≤ 4294967295 := by omega
  have bx1 : 0 ≤ x / 4294967296 ∧ x / 4294967296 ≤ 4294967295 := by omega
  have by1 : 0 ≤ y / 4294967296 ∧ y / 4294967296 ≤ 4294967295 := by omega
  generalize x % 4294967296 = x0 at *
  generalize y % 4294967296 = y0 at *
  generalize x / 4294967296 = x1 at *
  generalize y / 4294967296 = y1 at *
  have pos : ∀ {a b : Int}, 0 ≤ a ∧ a ≤ 4294967295 → 0 ≤ b ∧ b ≤ 4294967295 → 0 ≤ a * b ∧ a * b ≤ 18446744065119617025 := fun {a b} ha hb => by
    have h1 := Int.mul_nonneg ha.1 hb.1
    have h2 := mul_bd (x := a) (y := b) (A := 4294967295) (B := 4294967295) ⟨by omega, by omega⟩ ⟨by omega, by omega⟩
    omega
  have p00 := pos bx0 by0
  have p10 := pos bx1 by0
  have p01 := pos bx0 by1
  have p11 := pos bx1 by1
  have exy : x * y = x1 * y1 * 18446744073709551616 + (x1 * y0 + x0 * y1) * 4294967296 + x0 * y0 := by
    rw [ex, ey, Int.add_mul, Int.mul_add, Int.mul_add]
    have e1 : x1 * 4294967296 * (y1 * 4294967296) = x1 * y1 * 18446744073709551616 := by
      rw [Int.mul_assoc, ← Int.mul_assoc 4294967296, Int.mul_comm 4294967296 y1, Int.mul_assoc y1, ← Int.mul_assoc]; rfl
    have e2 : x1 * 4294967296 * y0 = x1 * y0 * 4294967296 := by rw [Int.mul_assoc, Int.mul_comm 4294967296, ← Int.mul_assoc]
    have e3 : x0 * (y1 * 4294967296) = x0 * y1 * 4294967296 := by rw [← Int.mul_assoc]
    rw [e1, e2, e3]; omega
  rw [exy]
  generalize x0 * y0 = a at *
  generalize x1 * y0 = b at *
  generalize x0 * y1 = c at *
  generalize x1 * y1 = d at *
  rw [wu_in (n := a) (by omega) (by omega), fd a (by omega), wu_in (n := b) (by omega) (by omega), wu_in (n := b + a / 4294967296) (by omega) (by omega), fd _ (by omega), and32 (by omega) (by omega),
    wu_in (n := c) (by omega) (by omega), wu_in (n := (b + a / 4294967296) % 4294967296 + c) (by omega) (by omega), fd _ (by omega), wu_in (n := d) (by omega) (by omega),
    wu_in (n := d + (b + a / 4294967296) / 4294967296) (by omega) (by omega), wu_in (by omega) (by omega)]
  refine Prod.ext ?_ ?_
  · simp only; omega
  · simp only
    show IntKind.wrap .u64 _ = _
    simp [IntKind.wrap, IntKind.signed, IntKind.bits]

theorem absU_eq {n : Int} (h : I64 n) : absU n = (n.natAbs : Int) := by
  unfold absU
  unfold I64 at h
  show IntKind.wrap .u64 _ = _
  rw [wr_def, wu_def]
  omega
theorem or_cmp {p q : Int} (hp : 0 ≤ p) (hq : 0 ≤ q) : orF (cmpF (p / 18446744073709551616) (q / 18446744073709551616)) (cmpF (p % 18446744073709551616) (q % 18446744073709551616)) = cmpF p q := by
  unfold orF cmpF
  rcases Int.lt_trichotomy p q with h | h | h
  · rw [if_pos h]
    by_cases h1 : p / 18446744073709551616 < q / 18446744073709551616
    · simp [h1]
    · have h2 : ¬ q / 18446744073709551616 < p / 18446744073709551616 := by omega
      have h3 : p % 18446744073709551616 < q % 18446744073709551616 := by omega
      simp [h1, h2, h3]
  · subst h; simp
  · rw [if_neg (show ¬ p < q by omega), if_pos h]
    by_cases h1 : q / 18446744073709551616 < p / 18446744073709551616
    · have h2 : ¬ p / 18446744073709551616 < q / 18446744073709551616 := by omega
      simp [h1, h2]
    · have h2 : ¬ p / 18446744073709551616 < q / 18446744073709551616 := by omega
      have h3 : q % 18446744073709551616 < p % 18446744073709551616 := by omega
      have h4 : ¬ p % 18446744073709551616 < q % 18446744073709551616 := by omega
      simp [h1, h2, h3, h4]
theorem cmpF_vals (a b : Int) : cmpF a b = -1 ∨ cmpF a b = 0 ∨ cmpF a b = 1 := by
  unfold cmpF; split
  · exact .inl rfl
  · split
    · exact .inr (.inr rfl)
    · exact .inr (.inl rfl)
theorem cmpF_neg (a b : Int) : cmpF (-a) (-b) = - cmpF a b := by
  unfold cmpF
  have h1 : (-a < -b) ↔ (b < a) := by omega
  have h2 : (-b < -a) ↔ (a < b) := by omega
  simp only [h1, h2]
  by_cases c1 : b < a
  · have : ¬ a < b := by omega
    simp [c1, this]
  · by_cases c2 : a < b <;> simp [c1, c2]

/-- **compare tells the order of the quotients.** -/
theorem compareF_eq {r s : Int × Int} (hr : RI r) (hs : RI s) : compareF r s = cmpF (r.1 * s.2) (s.1 * r.2) := by
  have i1 := hr.n; have i2 := hs.n; have i3 := hr.i; have i4 := hs.i; have d1 := hr.d; have d2 := hs.d
  unfold I64 at i1 i2 i3 i4
  have core : orF (cmpF (mulB (absU r.1) (wu s.2)).1 (mulB (absU s.1) (wu r.2)).1) (cmpF (mulB (absU r.1) (wu s.2)).2 (mulB (absU s.1) (wu r.2)).2) = cmpF ((r.1.natAbs : Int) * s.2) ((s.1.natAbs : Int) * r.2) := by
    rw [absU_eq hr.n, absU_eq hs.n, wu_in (n := s.2) (by omega) (by omega), wu_in (n := r.2) (by omega) (by omega), mulB_eq (by omega) (by omega) (by omega) (by omega), mulB_eq (by omega) (by omega) (by omega) (by omega)]
    exact or_cmp (Int.mul_nonneg (by omega) (by omega)) (Int.mul_nonneg (by omega) (by omega))
  unfold compareF
  cases h1 : decide (r.1 < 0) <;> cases h2 : decide (s.1 < 0)
  · have h1' := of_decide_eq_false h1
    have h2' := of_decide_eq_false h2
    simp only
    rw [core, show (r.1.natAbs : Int) = r.1 by omega, show (s.1.natAbs : Int) = s.1 by omega]
  · have h1' := of_decide_eq_false h1
    have h2' := of_decide_eq_true h2
    simp only
    have m1 := Int.mul_nonneg (a := r.1) (b := s.2) (by omega) (by omega)
    have m2 : s.1 * r.2 < 0 := Int.mul_neg_of_neg_of_pos h2' (by omega)
    rw [cmpF_gt (by omega), cmpF_gt (by omega)]
  · have h1' := of_decide_eq_true h1
    have h2' := of_decide_eq_false h2
    simp only
    have m1 := Int.mul_nonneg (a := s.1) (b := r.2) (by omega) (by omega)
    have m2 : r.1 * s.2 < 0 := Int.mul_neg_of_neg_of_pos h1' (by omega)
    rw [cmpF_lt (by omega), cmpF_lt (by omega)]
  · have h1' := of_decide_eq_true h1
    have h2' := of_decide_eq_true h2
    simp only
    rw [core, show (r.1.natAbs : Int) = -r.1 by omega, show (s.1.natAbs : Int) = -s.1 by omega, Int.neg_mul, Int.neg_mul, cmpF_neg]
    have := cmpF_vals (r.1 * s.2) (s.1 * r.2)
    rw [show (0 - -cmpF (r.1 * s.2) (s.1 * r.2)) = cmpF (r.1 * s.2) (s.1 * r.2) by omega]
    exact wr_in (by unfold I64; omega)
end Go.Proofs.YtgeficpcnlgnhaaG
