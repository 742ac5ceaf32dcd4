/- How the specification orders quotients. No condition. -/
import Derived.Test.YtgeficpcnlgnhaaC3
set_option linter.unusedVariables false
set_option linter.unusedSimpArgs false
set_option maxRecDepth 100000
namespace Go.Proofs.YtgeficpcnlgnhaaG
open Go Go.AM Go.Proofs

theorem wr_def (n : Int) : wr n = (n + 9223372036854775808) % 18446744073709551616 - 9223372036854775808 := IntKind.wrap_i64 n
theorem wr_sub (a x : Int) : wr (a - wr x) = wr (a - x) := by simp only [wr_def]; omega
theorem wr_add (a x : Int) : wr (a + wr x) = wr (a + x) := by simp only [wr_def]; omega
theorem wr_add' (a x : Int) : wr (wr x + a) = wr (x + a) := by simp only [wr_def]; omega
theorem wr_sub' (a x : Int) : wr (wr x - a) = wr (x - a) := by simp only [wr_def]; omega

theorem floor_of {n d : Int} (h : 1 ≤ d) : (n.tmod d < 0 → n.tdiv d - 1 = n / d) ∧ (¬ n.tmod d < 0 → n.tdiv d = n / d) := by
  have e := Int.tmod_add_mul_tdiv n d
  have l : n.tmod d < d := Int.tmod_lt_of_pos n (by omega)
  have l2 : -d < n.tmod d := by
    have := Int.lt_tmod_of_pos n (b := d) (by omega)
    omega
  refine ⟨fun hn => ?_, fun hn => ?_⟩
  · have := (Int.ediv_emod_unique (a := n) (b := d) (q := n.tdiv d - 1) (r := n.tmod d + d) (by omega)).2 ⟨by rw [Int.mul_sub]; omega, by omega, by omega⟩
    exact this.1.symm
  · have := (Int.ediv_emod_unique (a := n) (b := d) (q := n.tdiv d) (r := n.tmod d) (by omega)).2 ⟨e, by omega, l⟩
    exact this.1.symm

theorem floor_ok (n d : Int) (h : 1 ≤ d) (hn : I64 n) : PureFn Try.prog 47 [int n, int d] (int (n / d)) := by
  have h0 : d ≠ 0 := by omega
  have hq : wr (n.tdiv d) = n.tdiv d := IntWalk.i64_quo' n d ⟨hn.1, hn.2, h⟩
  have hf := floor_of (n := n) h
  refine pureFn_by Try.func47 k47 rfl rfl ?_
  conv => whnf
  refine ⟨h0, ?_⟩
  conv => whnf
  refine ⟨h0, ?_⟩
  conv => whnf
  cases hm : decide (n.tmod d < 0)
  · rw [show n / d = wr (n.tdiv d) from (hf.2 (of_decide_eq_false hm)).symm.trans hq.symm]; rfl
  · conv => whnf
    have := hf.1 (of_decide_eq_true hm)
    have e : wr (wr (n.tdiv d) - 1) = n / d := by rw [hq, this]; exact wr_in (ediv_i64 hn h)
    rw [← e]; rfl

theorem order_step {a1 a2 b1 b2 p q r s : Int} (ha : a1 = p * a2 + r) (hb : b1 = q * b2 + s) : a1 * b2 - b1 * a2 = (p - q) * (a2 * b2) + (r * b2 - s * a2) := by
  subst ha; subst hb
  have e1 : q * b2 * a2 = q * (a2 * b2) := by rw [Int.mul_assoc, Int.mul_comm b2]
  have e2 : p * a2 * b2 = p * (a2 * b2) := Int.mul_assoc ..
  rw [Int.add_mul, Int.add_mul, Int.sub_mul, e1, e2]; omega

theorem order_lt {a1 a2 b1 b2 p q r s : Int} (ha : a1 = p * a2 + r) (hb : b1 = q * b2 + s) (h1 : 1 ≤ a2) (h2 : 1 ≤ b2) (r0 : 0 ≤ r) (r1 : r < a2) (s0 : 0 ≤ s) (s1 : s < b2) (hpq : p < q) : a1 * b2 < b1 * a2 := by
  have e := order_step ha hb
  have m1 : (p - q) * (a2 * b2) ≤ -1 * (a2 * b2) := Int.mul_le_mul_of_nonneg_right (by omega) (Int.mul_nonneg (by omega) (by omega))
  have m2 : r * b2 ≤ (a2 - 1) * b2 := Int.mul_le_mul_of_nonneg_right (by omega) (by omega)
  have m3 : 0 ≤ s * a2 := Int.mul_nonneg s0 (by omega)
  rw [Int.sub_mul] at m2
  omega

theorem cmpF_lt {a b : Int} (h : a < b) : cmpF a b = -1 := by simp [cmpF, h]
theorem cmpF_gt {a b : Int} (h : b < a) : cmpF a b = 1 := by simp [cmpF, h, Int.not_lt.2 (Int.le_of_lt h)]
theorem cmpF_eq {a b : Int} (h : a = b) : cmpF a b = 0 := by simp [cmpF, h]
theorem cmpF_congr {a b c d : Int} (h : a - b = c - d) : cmpF a b = cmpF c d := by
  unfold cmpF
  have h1 : (a < b) ↔ (c < d) := by omega
  have h2 : (b < a) ↔ (d < c) := by omega
  simp only [h1, h2]

theorem order_ok : ∀ (k : Nat) (a b : Int × Int), a.2.toNat + b.2.toNat ≤ k → 1 ≤ a.2 → 1 ≤ b.2 → I64 a.1 → I64 a.2 → I64 b.1 → I64 b.2 →
    PureFn Try.prog 41 [ratD a, ratD b] (int (cmpF (a.1 * b.2) (b.1 * a.2))) := by
  intro k
  induction k with
  | zero => intro a b h h1 h2; omega
  | succ k ih =>
    rintro ⟨a1, a2⟩ ⟨b1, b2⟩ hk h1 h2 i1 i2 i3 i4
    simp only at hk h1 h2 i1 i2 i3 i4
    have ea : a1 = a1 / a2 * a2 + a1 % a2 := by have := Int.mul_ediv_add_emod a1 a2; rw [Int.mul_comm] at this; omega
    have eb : b1 = b1 / b2 * b2 + b1 % b2 := by have := Int.mul_ediv_add_emod b1 b2; rw [Int.mul_comm] at this; omega
    have r0 := Int.emod_nonneg a1 (b := a2) (by omega)
    have r1 := Int.emod_lt_of_pos a1 (b := a2) (by omega)
    have s0 := Int.emod_nonneg b1 (b := b2) (by omega)
    have s1 := Int.emod_lt_of_pos b1 (b := b2) (by omega)
    have hr : IntKind.wrap .i64 (a1 - IntKind.wrap .i64 (a1 / a2 * a2)) = a1 % a2 := by
      show wr (a1 - wr (a1 / a2 * a2)) = _
      rw [wr_sub, show a1 - a1 / a2 * a2 = a1 % a2 by omega]; exact wr_in (by unfold I64 at *; omega)
    have hs : IntKind.wrap .i64 (b1 - IntKind.wrap .i64 (b1 / b2 * b2)) = b1 % b2 := by
      show wr (b1 - wr (b1 / b2 * b2)) = _
      rw [wr_sub, show b1 - b1 / b2 * b2 = b1 % b2 by omega]; exact wr_in (by unfold I64 at *; omega)
    show PureFn Try.prog 41 [.agg [int a1, int a2], .agg [int b1, int b2]] (int (cmpF (a1 * b2) (b1 * a2)))
    refine pureFn_by Try.func41 k41 rfl rfl ?_
    conv => whnf
    refine ⟨_, floor_ok a1 a2 h1 i1, ?_⟩
    conv => whnf
    refine ⟨_, floor_ok b1 b2 h2 i3, ?_⟩
    conv => whnf
    cases c1 : decide (a1 / a2 < b1 / b2)
    · conv => whnf
      cases c2 : decide (b1 / b2 < a1 / a2)
      · have hpq : a1 / a2 = b1 / b2 := by have := of_decide_eq_false c1; have := of_decide_eq_false c2; omega
        have hst := order_step ea eb
        rw [hpq, Int.sub_self, Int.zero_mul, Int.zero_add] at hst
        conv => whnf
        rw [hr]
        cases c3 : decide (a1 % a2 = 0)
        · have c3' := of_decide_eq_false c3
          conv => whnf
          (try rw [hr]); rw [c3]
          conv => whnf
          (try rw [hs])
          cases c4 : decide (b1 % b2 = 0)
          · have c4' := of_decide_eq_false c4
            conv => whnf
            have := ih (b2, b1 % b2) (a2, a1 % a2) (by simp only; omega) (by simp only; omega) (by simp only; omega) i4 (by simp only; unfold I64 at *; omega) i2 (by simp only; unfold I64 at *; omega)
            (try rw [hs]); (try rw [hr])
            refine ⟨_, this, ?_⟩
            rw [show cmpF (a1 * b2) (b1 * a2) = cmpF (b2 * (a1 % a2)) (a2 * (b1 % b2)) from cmpF_congr (by rw [hst, Int.mul_comm b2, Int.mul_comm a2])]
            rfl
          · have c4' := of_decide_eq_true c4
            rw [show cmpF (a1 * b2) (b1 * a2) = 1 from cmpF_gt (by rw [c4', Int.zero_mul] at hst; have : 0 < a1 % a2 * b2 := Int.mul_pos (by omega) (by omega); omega)]
            rfl
        · have c3' := of_decide_eq_true c3
          conv => whnf
          (try rw [hs])
          cases c4 : decide (b1 % b2 = 0)
          · have c4' := of_decide_eq_false c4
            conv => whnf
            (try rw [hr]); rw [c3]
            rw [show cmpF (a1 * b2) (b1 * a2) = -1 from cmpF_lt (by rw [c3', Int.zero_mul] at hst; have : 0 < b1 % b2 * a2 := Int.mul_pos (by omega) (by omega); omega)]
            rfl
          · have c4' := of_decide_eq_true c4
            rw [show cmpF (a1 * b2) (b1 * a2) = 0 from cmpF_eq (by rw [c3', c4', Int.zero_mul, Int.zero_mul] at hst; omega)]
            rfl
      · have c2' := of_decide_eq_true c2
        rw [show cmpF (a1 * b2) (b1 * a2) = 1 from cmpF_gt (by have := order_lt eb ea h2 h1 s0 s1 r0 r1 c2'; omega)]
        rfl
    · have c1' := of_decide_eq_true c1
      rw [show cmpF (a1 * b2) (b1 * a2) = -1 from cmpF_lt (order_lt ea eb h1 h2 r0 r1 s0 s1 c1')]
      rfl
end Go.Proofs.YtgeficpcnlgnhaaG
