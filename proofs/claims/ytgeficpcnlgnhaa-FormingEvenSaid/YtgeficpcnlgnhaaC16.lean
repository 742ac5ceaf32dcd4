/- The stretches of an even part: both are alike. No condition. -/
import Derived.Test.YtgeficpcnlgnhaaC15
set_option linter.unusedVariables false
set_option linter.unusedSimpArgs false
set_option maxRecDepth 100000
namespace Go.Proofs.YtgeficpcnlgnhaaG
open Go Go.AM Go.Proofs

/-- Lowest terms keep the order. -/
theorem red_cross {r s : Int × Int} (hr : 1 ≤ r.2) (hs : 1 ≤ s.2) : ((red r).1 * (red s).2 < (red s).1 * (red r).2 ↔ r.1 * s.2 < s.1 * r.2) := by
  have g1 := gcd_pos (n := r.1) hr
  have g2 := gcd_pos (n := s.1) hs
  have a1 : r.1 = (Int.gcd r.1 r.2 : Int) * (red r).1 := (Int.mul_ediv_cancel' (Int.gcd_dvd_left ..)).symm
  have a2 : r.2 = (Int.gcd r.1 r.2 : Int) * (red r).2 := (Int.mul_ediv_cancel' (Int.gcd_dvd_right ..)).symm
  have b1 : s.1 = (Int.gcd s.1 s.2 : Int) * (red s).1 := (Int.mul_ediv_cancel' (Int.gcd_dvd_left ..)).symm
  have b2 : s.2 = (Int.gcd s.1 s.2 : Int) * (red s).2 := (Int.mul_ediv_cancel' (Int.gcd_dvd_right ..)).symm
  generalize (Int.gcd r.1 r.2 : Int) = g at *
  generalize (Int.gcd s.1 s.2 : Int) = k at *
  generalize (red r).1 = x at *
  generalize (red r).2 = y at *
  generalize (red s).1 = u at *
  generalize (red s).2 = v at *
  rw [a1, a2, b1, b2]
  have e1 : g * x * (k * v) = (g * k) * (x * v) := by rw [Int.mul_assoc, Int.mul_assoc, Int.mul_left_comm x k v]
  have e2 : k * u * (g * y) = (g * k) * (u * y) := by rw [Int.mul_comm (k * u), Int.mul_assoc, Int.mul_assoc, Int.mul_left_comm y k u, Int.mul_comm y u]
  rw [e1, e2]
  have gk : 0 < g * k := Int.mul_pos (by omega) (by omega)
  constructor
  · intro h; exact Int.mul_lt_mul_of_pos_left h gk
  · intro h; exact Int.lt_of_mul_lt_mul_left h (by omega)

theorem red_mul {a d : Int} (h : 1 ≤ d) : red (a * d, d) = (a, 1) := by
  have g : (Int.gcd (a * d) d : Int) = d := by
    rw [Int.gcd_eq_right (by omega) (Int.dvd_mul_left ..)]
  unfold red
  simp only [g]
  rw [Int.mul_ediv_cancel _ (by omega), Int.ediv_self (by omega)]
theorem when_start {p : Pc} (hne : p.p ≠ p.q) : whenE p p.p = (p.a, 1) := by
  unfold whenE whenN
  rw [Int.sub_self, Int.zero_mul, Int.add_zero]
  split
  · rw [show (0 - p.a * (p.q - p.p)) = p.a * (0 - (p.q - p.p)) by rw [Int.zero_sub, Int.zero_sub, Int.mul_neg]]
    exact red_mul (by omega)
  · exact red_mul (by omega)
theorem when_end {p : Pc} (hne : p.p ≠ p.q) : whenE p p.q = (p.b, 1) := by
  unfold whenE whenN
  have e : p.a * (p.q - p.p) + (p.q - p.p) * (p.b - p.a) = p.b * (p.q - p.p) := by
    rw [Int.mul_comm p.a, ← Int.mul_add, Int.mul_comm p.b]; congr 1; omega
  rw [e]
  split
  · rw [show (0 - p.b * (p.q - p.p)) = p.b * (0 - (p.q - p.p)) by rw [Int.zero_sub, Int.zero_sub, Int.mul_neg]]
    exact red_mul (by omega)
  · exact red_mul (by omega)
theorem when_lt {cycle : Int} {p : Pc} (hp : Okp cycle p) (hne : p.p ≠ p.q) (x y : Int) : ltF (whenE p x) (whenE p y) = if p.q - p.p < 0 then decide (y < x) else decide (x < y) := by
  have ab := hp.ab
  have key : ∀ u v : Int, ((u - p.p) * (p.b - p.a) < (v - p.p) * (p.b - p.a) ↔ u < v) := fun u v => by
    constructor
    · intro h
      have := Int.lt_of_mul_lt_mul_right h (by omega)
      omega
    · intro h; exact Int.mul_lt_mul_of_pos_right (by omega) (by omega)
  have kxy := key x y
  have kyx := key y x
  unfold ltF whenE
  split
  · rename_i h
    rw [decide_eq_decide, red_cross (by simp only; omega) (by simp only; omega)]
    simp only
    constructor
    · intro h2
      have := Int.lt_of_mul_lt_mul_right h2 (by omega)
      unfold whenN at this; omega
    · intro h2
      exact Int.mul_lt_mul_of_pos_right (by unfold whenN; omega) (by omega)
  · rename_i h
    rw [decide_eq_decide, red_cross (by simp only; omega) (by simp only; omega)]
    simp only
    constructor
    · intro h2
      have := Int.lt_of_mul_lt_mul_right h2 (by omega)
      unfold whenN at this; omega
    · intro h2
      exact Int.mul_lt_mul_of_pos_right (by unfold whenN; omega) (by omega)

theorem rIn_inF {cycle : Int} {p : Pc} (hp : Okp cycle p) (s : Int × Int) : (rIn p s).2 = (inF p s).2 ∧ ((inF p s).2 = true → (rIn p s).1 = (inF p s).1) := by
  by_cases h0 : p.p = p.q
  · unfold rIn inF
    rw [if_pos (by omega)]
    simp only
    rw [if_pos h0]
    split
    · rename_i h
      refine ⟨?_, fun h => by cases h⟩
      simp only [Bool.and_eq_false_iff, decide_eq_false_iff_not]; omega
    · rename_i h
      refine ⟨?_, fun _ => rfl⟩
      simp only [Bool.and_eq_true, decide_eq_true_eq]; omega
  · by_cases h1 : p.q - p.p < 0
    · have f : laterF (whenE p s.2) (p.a, 1) = whenE p (min s.2 (max p.p p.q)) := by
        unfold laterF
        rw [← when_start h0, when_lt hp h0, if_pos h1]
        by_cases c : p.p < s.2
        · simp only [c, decide_true, if_true]; congr 1; omega
        · simp only [c, decide_false, Bool.false_eq_true, if_false]; congr 1; omega
      have t : soonerF (whenE p s.1) (p.b, 1) = whenE p (max s.1 (min p.p p.q)) := by
        unfold soonerF
        rw [← when_end h0, when_lt hp h0, if_pos h1]
        by_cases c : p.q < s.1
        · simp only [c, decide_true, if_true]; congr 1; omega
        · simp only [c, decide_false, Bool.false_eq_true, if_false]; congr 1; omega
      unfold rIn inF
      rw [if_neg (by omega), if_pos h1, f, t, when_lt hp h0, if_pos h1]
      simp only
      split
      · rename_i h; simp [h]
      · rename_i h; (try rw [if_neg h0]); rw [if_neg (show ¬ p.p < p.q by omega)]; simp [h]
    · have f : laterF (whenE p s.1) (p.a, 1) = whenE p (max s.1 (min p.p p.q)) := by
        unfold laterF
        rw [← when_start h0, when_lt hp h0, if_neg h1]
        by_cases c : s.1 < p.p
        · simp only [c, decide_true, if_true]; congr 1; omega
        · simp only [c, decide_false, Bool.false_eq_true, if_false]; congr 1; omega
      have t : soonerF (whenE p s.2) (p.b, 1) = whenE p (min s.2 (max p.p p.q)) := by
        unfold soonerF
        rw [← when_end h0, when_lt hp h0, if_neg h1]
        by_cases c : s.2 < p.q
        · simp only [c, decide_true, if_true]; congr 1; omega
        · simp only [c, decide_false, Bool.false_eq_true, if_false]; congr 1; omega
      unfold rIn inF
      rw [if_neg (by omega), if_neg h1, f, t, when_lt hp h0, if_neg h1]
      simp only
      split
      · rename_i h; simp [h]
      · rename_i h; (try rw [if_neg h0]); rw [if_pos (show p.p < p.q by omega)]; simp [h]
end Go.Proofs.YtgeficpcnlgnhaaG
