/- What the specification's quotients are. No condition. -/
import Derived.Test.YtgeficpcnlgnhaaC2
import Derived.IntWalk
set_option linter.unusedVariables false
set_option linter.unusedSimpArgs false
set_option maxRecDepth 100000
namespace Go.Proofs.YtgeficpcnlgnhaaG
open Go Go.AM Go.Proofs

/-- A number of 64 bits. -/
def I64 (n : Int) : Prop := -9223372036854775808 ≤ n ∧ n ≤ 9223372036854775807
theorem wr_in {n : Int} (h : I64 n) : wr n = n := IntWalk.i64_in n h

theorem dv_zero (a : Int) : dv a 0 = a := by rw [dv]; simp
theorem dv_step {a b : Int} (h : b ≠ 0) : dv a b = dv b (a.tmod b) := by rw [dv]; simp [h]

theorem dv_gcd (b a : Int) : (dv a b).natAbs = Int.gcd a b := by
  induction hn : b.natAbs using Nat.strongRecOn generalizing a b with
  | _ n ih =>
    by_cases h : b = 0
    · subst h; rw [dv_zero]; simp
    · rw [dv_step h, ih _ (hn ▸ natAbs_tmod_lt h) _ _ rfl]
      simp only [Int.gcd, Int.natAbs_tmod]
      rw [Nat.gcd_comm, ← Nat.gcd_rec, Nat.gcd_comm]
theorem dv_nonneg {b a : Int} (ha : 0 ≤ a) (hb : 0 ≤ b) : 0 ≤ dv a b := by
  induction hn : b.natAbs using Nat.strongRecOn generalizing a b with
  | _ n ih =>
    by_cases h : b = 0
    · subst h; rw [dv_zero]; exact ha
    · rw [dv_step h]
      exact ih _ (hn ▸ natAbs_tmod_lt h) hb (Int.tmod_nonneg _ ha) rfl

theorem rDivisor_ok (a b : Int) : PureFn Try.prog 42 [int a, int b] (int (dv a b)) := by
  refine pureFn_by Try.func42 k42 rfl rfl ?_
  conv => whnf
  refine loopB (fun (p : Int × Int) => ⟨mkT [(0, .d (int p.1)), (1, .d (int p.2))], mkB []⟩) (fun p => dv p.1 p.2 = dv a b) (fun p => p.2.natAbs) (a, b) rfl rfl ?_
  rintro ⟨x, y⟩ hxy
  simp only at hxy
  conv => whnf
  cases h : decide (y = 0)
  · conv => whnf
    have h0 : y ≠ 0 := of_decide_eq_false h
    refine ⟨h0, ?_⟩
    conv => whnf
    refine ⟨(y, x.tmod y), rfl, ?_, natAbs_tmod_lt h0⟩
    rw [← hxy]; exact (dv_step h0).symm
  · conv => whnf
    have h0 : y = 0 := of_decide_eq_true h
    subst h0
    rw [dv_zero] at hxy
    subst hxy
    rfl

/-- A quotient in lowest terms. -/
def red (r : Int × Int) : Int × Int := (r.1 / Int.gcd r.1 r.2, r.2 / Int.gcd r.1 r.2)

theorem gcd_pos {n d : Int} (h : 1 ≤ d) : 1 ≤ (Int.gcd n d : Int) := by
  have : 0 < Int.gcd n d := Int.gcd_pos_of_ne_zero_right _ (by omega)
  omega
theorem gcd_le {n d : Int} (h : 1 ≤ d) : (Int.gcd n d : Int) ≤ d := Int.le_of_dvd (by omega) (Int.gcd_dvd_right ..)

theorem ediv_i64 {n g : Int} (h : I64 n) (hg : 1 ≤ g) : I64 (n / g) := by
  unfold I64 at *
  rcases Int.lt_or_le n 0 with hn | hn
  · have h1 : n / g < 0 := Int.ediv_neg_of_neg_of_pos hn (by omega)
    have h2 : n ≤ n / g := by
      have := Int.le_ediv_of_mul_le (a := n) (b := n) (c := g) (by omega) (by
        have := Int.mul_le_mul_of_nonpos_left (a := n) (b := g) (c := 1) (by omega) hg
        omega)
      exact this
    omega
  · have h1 : 0 ≤ n / g := Int.ediv_nonneg hn (by omega)
    have h2 : n / g ≤ n := Int.ediv_le_self _ hn
    omega

theorem divisorF_gcd {n d : Int} (h : 1 ≤ d) (hd : I64 d) : divisorF n d = Int.gcd n d := by
  have h1 := dv_gcd d n
  have h2 := gcd_le (n := n) h
  unfold divisorF
  rw [wr_in (by unfold I64 at *; omega)]
  omega

theorem tdiv_gcd_left (n d : Int) : n.tdiv (Int.gcd n d) = n / Int.gcd n d := by
  obtain ⟨k, hk⟩ := Int.gcd_dvd_left (a := n) (b := d)
  by_cases h : (Int.gcd n d : Int) = 0
  · rw [h]; simp
  · rw [Int.tdiv_eq_ediv_of_dvd (Int.gcd_dvd_left ..)]
theorem tdiv_gcd_right (n d : Int) : d.tdiv (Int.gcd n d) = d / Int.gcd n d := by
  rw [Int.tdiv_eq_ediv_of_dvd (Int.gcd_dvd_right ..)]

theorem lowestF_red {r : Int × Int} (h1 : I64 r.1) (h2 : 1 ≤ r.2) (h3 : I64 r.2) : lowestF r = red r := by
  unfold lowestF red
  rw [divisorF_gcd h2 h3, tdiv_gcd_left, tdiv_gcd_right, wr_in (ediv_i64 h1 (gcd_pos h2)), wr_in (ediv_i64 h3 (gcd_pos h2))]

def madeF (n d : Int) : Int × Int := (wr (n.tdiv (dv (max n (wr (0 - n))) d)), wr (d.tdiv (dv (max n (wr (0 - n))) d)))
theorem made_ok' (n d : Int) (h : dv (max n (wr (0 - n))) d ≠ 0) : PureFn Try.prog 21 [int n, int d] (ratD (madeF n d)) := by
  refine pureFn_by Try.func21 k21 rfl rfl ?_
  conv => whnf
  refine ⟨_, rDivisor_ok _ _, ?_⟩
  conv => whnf
  refine ⟨h, ?_⟩
  conv => whnf
  exact ⟨h, rfl⟩
theorem dv_abs {n d : Int} (h1 : -9223372036854775807 ≤ n ∧ n ≤ 9223372036854775807) (h2 : 1 ≤ d) : dv (max n (wr (0 - n))) d = Int.gcd n d := by
  rw [wr_in (by unfold I64; omega)]
  have e : max n (0 - n) = (n.natAbs : Int) := by omega
  rw [e]
  have g := dv_gcd d (n.natAbs : Int)
  have p := dv_nonneg (b := d) (a := (n.natAbs : Int)) (by omega) (by omega)
  have : Int.gcd (n.natAbs : Int) d = Int.gcd n d := by simp [Int.gcd]
  omega
theorem made_ok (n d : Int) (h1 : -9223372036854775807 ≤ n ∧ n ≤ 9223372036854775807) (h2 : 1 ≤ d) (h3 : I64 d) : PureFn Try.prog 21 [int n, int d] (ratD (red (n, d))) := by
  have h := dv_abs h1 h2
  have := made_ok' n d (by rw [h]; have := gcd_pos (n := n) h2; omega)
  rw [madeF, h, tdiv_gcd_left, tdiv_gcd_right, wr_in (ediv_i64 (by unfold I64; omega) (gcd_pos h2)), wr_in (ediv_i64 h3 (gcd_pos h2))] at this
  exact this

theorem rWhole_ok (n : Int) : PureFn Try.prog 40 [int n] (ratD (n, 1)) := pureFn_by Try.func40 k40 rfl rfl rfl
end Go.Proofs.YtgeficpcnlgnhaaG
