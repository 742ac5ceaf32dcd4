/- Both positions of a motion are one. No condition. -/
import Derived.Test.YtgeficpcnlgnhaaC7
set_option linter.unusedVariables false
set_option linter.unusedSimpArgs false
set_option maxRecDepth 100000
namespace Go.Proofs.YtgeficpcnlgnhaaG
open Go Go.AM Go.Proofs

theorem mul_bd {x y A B : Int} (hx : -A ≤ x ∧ x ≤ A) (hy : -B ≤ y ∧ y ≤ B) : -(A * B) ≤ x * y ∧ x * y ≤ A * B := by
  have h1 : (x * y).natAbs = x.natAbs * y.natAbs := Int.natAbs_mul x y
  have h2 : x.natAbs * y.natAbs ≤ A.natAbs * B.natAbs := Nat.mul_le_mul (by omega) (by omega)
  have h3 : (A * B).natAbs = A.natAbs * B.natAbs := Int.natAbs_mul A B
  have h4 : 0 ≤ A * B := Int.mul_nonneg (by omega) (by omega)
  omega

/-- What a motion without an error is. -/
structure Okm (cycle home : Int) (l : List (Int × Int)) : Prop where
  c1 : 1 ≤ cycle
  c2 : cycle ≤ 3600
  h1 : 0 ≤ home
  h2 : home ≤ 1000000
  len : l.length ≤ 16
  bad : ∀ i, i < l.length → ¬ badAt cycle l i = true
theorem okm_of {cycle home : Int} {l : List (Int × Int)} (h : mErr cycle home l = 0) : Okm cycle home l := by
  unfold mErr at h
  split at h
  · rename_i hh
    simp only [isPlaceF, withinF, Bool.and_eq_true, decide_eq_true_eq] at hh
    split at h
    · cases h
    · split at h
      · cases h
      · rename_i h1 h2
        refine ⟨by omega, by omega, by omega, by omega, by omega, fun i hi hb => h2 ?_⟩
        exact List.any_eq_true.2 ⟨i, List.mem_range.2 hi, hb⟩
  · cases h

def pcN (cycle home : Int) (l : List (Int × Int)) (i : Nat) : Pc := if l.length = 0 then ⟨0, cycle, home, home⟩ else pcAt cycle l i
/-- An even part of a motion that may be. -/
structure Okp (cycle : Int) (p : Pc) : Prop where
  a0 : 0 ≤ p.a
  ab : p.a < p.b
  bc : p.b ≤ cycle
  p0 : 0 ≤ p.p
  p1 : p.p ≤ 1000000
  q0 : 0 ≤ p.q
  q1 : p.q ≤ 1000000
theorem Okm.pc {cycle home : Int} {l : List (Int × Int)} (h : Okm cycle home l) {i : Nat} (hi : i < max l.length 1) : Okp cycle (pcN cycle home l i) := by
  unfold pcN
  split
  · exact ⟨by simp, by have := h.c1; simp; omega, by simp, h.h1, h.h2, h.h1, h.h2⟩
  · rename_i hl
    have hi : i < l.length := by omega
    have b0 := h.bad i hi
    have c0 := h.bad 0 (by omega)
    rw [badAt_iff] at b0 c0
    have at0 : 0 ≤ (l.getD i (0, 0)).1 := by
      have : ∀ j, j < l.length → 0 ≤ (l.getD j (0, 0)).1 := fun j => by
        induction j with
        | zero => intro hj; have b := h.bad 0 hj; rw [badAt_iff] at b; omega
        | succ j ih => intro hj; have b := h.bad (j + 1) hj; rw [badAt_iff] at b; have := ih (by omega); simp only [Nat.add_sub_cancel] at b; omega
      exact this i hi
    unfold pcAt
    by_cases hn : i + 1 < l.length
    · have b1 := h.bad (i + 1) hn
      rw [badAt_iff] at b1
      simp only [Nat.add_sub_cancel] at b1
      simp only [hn, if_true]
      refine ⟨at0, ?_, ?_, ?_, ?_, ?_, ?_⟩ <;> simp only <;> omega
    · simp only [hn, if_false]
      refine ⟨at0, ?_, ?_, ?_, ?_, ?_, ?_⟩ <;> simp only <;> omega
theorem pcs_get {cycle home : Int} {l : List (Int × Int)} : pcs cycle home l = (List.range (max l.length 1)).map (pcN cycle home l) := by
  unfold pcs
  split
  · rename_i h
    have : List.range (max l.length 1) = [0] := by rw [h]; rfl
    rw [this]; simp [pcN, h]
  · rename_i h
    rw [show max l.length 1 = l.length by omega]
    apply List.map_congr_left
    intro i _; simp [pcN, h]
theorem Okm.last {cycle home : Int} {l : List (Int × Int)} (h : Okm cycle home l) : (pcN cycle home l (max l.length 1 - 1)).b = cycle := by
  unfold pcN
  split
  · rfl
  · unfold pcAt; rw [if_neg (by omega)]

/-- The position, of a number of 1 / den ticks. -/
def posE (num den : Int) (p : Pc) : Int × Int := (p.p * ((p.b - p.a) * den) + (p.q - p.p) * (num - p.a * den), (p.b - p.a) * den)
structure Okt (cycle den num : Int) : Prop where
  c2 : cycle ≤ 3600
  d1 : 1 ≤ den
  d2 : den ≤ 1000000
  n0 : 0 ≤ num
  n1 : num ≤ 3600000000
theorem posF_E {cycle num den : Int} {p : Pc} (hp : Okp cycle p) (ht : Okt cycle den num) : posF num den p = posE num den p ∧ I64 (posE num den p).1 ∧ 1 ≤ (posE num den p).2 ∧ (posE num den p).2 ≤ 3600000000 := by
  obtain ⟨a0, ab, bc, p0, p1, q0, q1⟩ := hp
  obtain ⟨c2, d1, d2, n0, n1⟩ := ht
  have s := mul_bd (x := p.b - p.a) (y := den) (A := 3600) (B := 1000000) ⟨by omega, by omega⟩ ⟨by omega, by omega⟩
  have s1 : 1 ≤ (p.b - p.a) * den := by have := Int.mul_pos (a := p.b - p.a) (b := den) (by omega) (by omega); omega
  have ad := mul_bd (x := p.a) (y := den) (A := 3600) (B := 1000000) ⟨by omega, by omega⟩ ⟨by omega, by omega⟩
  have m1 := mul_bd (x := p.p) (y := (p.b - p.a) * den) (A := 1000000) (B := 3600000000) ⟨by omega, by omega⟩ ⟨by omega, by omega⟩
  have m2 := mul_bd (x := p.q - p.p) (y := num - p.a * den) (A := 1000000) (B := 7200000000) ⟨by omega, by omega⟩ ⟨by omega, by omega⟩
  unfold posE
  refine ⟨?_, ⟨by simp only; omega, by simp only; omega⟩, s1, by simp only; omega⟩
  unfold posF
  have w1 : wr (p.b - p.a) = p.b - p.a := wr_in ⟨by omega, by omega⟩
  have w2 : wr ((p.b - p.a) * den) = (p.b - p.a) * den := wr_in ⟨by omega, by omega⟩
  have w3 : wr (p.a * den) = p.a * den := wr_in ⟨by omega, by omega⟩
  have w4 : wr (num - p.a * den) = num - p.a * den := wr_in ⟨by omega, by omega⟩
  have w5 : wr (p.q - p.p) = p.q - p.p := wr_in ⟨by omega, by omega⟩
  simp only [w1, w2, w3, w4, w5]
  rw [wr_in (n := p.p * ((p.b - p.a) * den)) ⟨by omega, by omega⟩, wr_in (n := (p.q - p.p) * (num - p.a * den)) ⟨by omega, by omega⟩, wr_in ⟨by omega, by omega⟩]

theorem timeF_E {cycle : Int} {r : Int × Int} (h1 : 1 ≤ cycle) (h2 : cycle ≤ 3600) (d1 : 1 ≤ r.2) (d2 : r.2 ≤ 1000000) : timeF cycle r = r.1 % (cycle * r.2) ∧ 1 ≤ cycle * r.2 ∧ wr (cycle * r.2) = cycle * r.2 ∧ Okt cycle r.2 (r.1 % (cycle * r.2)) := by
  have s := mul_bd (x := cycle) (y := r.2) (A := 3600) (B := 1000000) ⟨by omega, by omega⟩ ⟨by omega, by omega⟩
  have s1 : 1 ≤ cycle * r.2 := by have := Int.mul_pos (a := cycle) (b := r.2) (by omega) (by omega); omega
  have w : wr (cycle * r.2) = cycle * r.2 := wr_in ⟨by omega, by omega⟩
  refine ⟨?_, s1, w, ⟨h2, d1, d2, Int.emod_nonneg _ (by omega), ?_⟩⟩
  · unfold timeF
    rw [w]
    generalize cycle * r.2 = R at *
    have t1 : r.1.tmod R < R := Int.tmod_lt_of_pos _ (by omega)
    have t2 := Int.lt_tmod_of_pos r.1 (b := R) (by omega)
    rw [wr_in ⟨by omega, by omega⟩]
    have e := Int.tmod_add_mul_tdiv r.1 R
    rw [Int.tmod_eq_emod_of_nonneg (by omega)]
    conv => rhs; rw [← e]
    rw [Int.add_mul_emod_self_left, Int.add_emod_right]
  · have := Int.emod_lt_of_pos r.1 (b := cycle * r.2) (by omega)
    omega

theorem find_first {α : Type} (f : Nat → α) (p : α → Bool) : ∀ (n i : Nat), i < n → p (f i) = true → (∀ j, j < i → p (f j) = false) → ((List.range n).map f).find? p = some (f i) := by
  intro n i hi h hb
  rw [List.find?_eq_some_iff_append]
  refine ⟨h, (List.range i).map f, ((List.range' (i + 1) (n - (i + 1))).map f), ?_, ?_⟩
  · rw [List.range_eq_range', List.range_eq_range', ← List.map_cons, ← List.map_append]
    congr 1
    rw [show List.range' 0 n = List.range' 0 (i + (n - (i + 1) + 1)) by congr 1; omega, ← List.range'_append_1, List.range'_succ]
    simp
  · intro q hq
    obtain ⟨j, hj, rfl⟩ := List.mem_map.1 hq
    rw [hb j (List.mem_range.1 hj)]; rfl

/-- The position of a motion that may be. -/
def whereE (cycle home : Int) (l : List (Int × Int)) (r : Int × Int) : Int × Int :=
  match (pcs cycle home l).find? fun p => decide (r.1 % (cycle * r.2) ≤ p.b * r.2) with
  | some p => posE (r.1 % (cycle * r.2)) r.2 p
  | none => (0, 1)
theorem Okm.some {cycle home : Int} {l : List (Int × Int)} (h : Okm cycle home l) {r : Int × Int} (d1 : 1 ≤ r.2) (d2 : r.2 ≤ 1000000) :
    ∃ i, i < max l.length 1 ∧ decide (r.1 % (cycle * r.2) ≤ (pcN cycle home l i).b * r.2) = true ∧ ∀ j, j < i → decide (r.1 % (cycle * r.2) ≤ (pcN cycle home l j).b * r.2) = false := by
  have hex : ∃ i, i < max l.length 1 ∧ decide (r.1 % (cycle * r.2) ≤ (pcN cycle home l i).b * r.2) = true := by
    refine ⟨max l.length 1 - 1, by omega, ?_⟩
    rw [h.last]
    obtain ⟨_, s1, _, _⟩ := timeF_E (r := r) h.c1 h.c2 d1 d2
    have := Int.emod_lt_of_pos r.1 (b := cycle * r.2) (by omega)
    simp; omega
  obtain ⟨i, ⟨hi, hp⟩, hmin⟩ := least hex
  refine ⟨i, hi, hp, fun j hj => ?_⟩
  cases hq : decide (r.1 % (cycle * r.2) ≤ (pcN cycle home l j).b * r.2) with
  | false => rfl
  | true => have := hmin j ⟨by omega, hq⟩; omega
theorem whereF_E {cycle home : Int} {l : List (Int × Int)} (h : Okm cycle home l) {r : Int × Int} (d1 : 1 ≤ r.2) (d2 : r.2 ≤ 1000000) :
    whereF cycle home l r = whereE cycle home l r ∧ I64 (whereE cycle home l r).1 ∧ 1 ≤ (whereE cycle home l r).2 ∧ (whereE cycle home l r).2 ≤ 3600000000 := by
  obtain ⟨t, s1, w, ot⟩ := timeF_E (r := r) h.c1 h.c2 d1 d2
  obtain ⟨i, hi, hp, hb⟩ := h.some (r := r) d1 d2
  have hE : (pcs cycle home l).find? (fun p => decide (r.1 % (cycle * r.2) ≤ p.b * r.2)) = some (pcN cycle home l i) := by
    rw [pcs_get]; exact find_first _ (fun p : Pc => decide (r.1 % (cycle * r.2) ≤ p.b * r.2)) _ i hi hp hb
  have hw : ∀ j, j < max l.length 1 → wr ((pcN cycle home l j).b * r.2) = (pcN cycle home l j).b * r.2 := fun j hj => by
    have o := h.pc hj
    have := mul_bd (x := (pcN cycle home l j).b) (y := r.2) (A := 3600) (B := 1000000) ⟨by have := o.a0; have := o.ab; omega, by have := o.bc; have := h.c2; omega⟩ ⟨by omega, by omega⟩
    exact wr_in ⟨by omega, by omega⟩
  have hF : (pcs cycle home l).find? (fun p => decide (r.1 % (cycle * r.2) ≤ wr (p.b * r.2))) = some (pcN cycle home l i) := by
    rw [pcs_get]
    exact find_first _ (fun p : Pc => decide (r.1 % (cycle * r.2) ≤ wr (p.b * r.2))) _ i hi (by rw [hw i hi]; exact hp) (fun j hj => by rw [hw j (by omega)]; exact hb j hj)
  have eE : whereE cycle home l r = posE (r.1 % (cycle * r.2)) r.2 (pcN cycle home l i) := by unfold whereE; rw [hE]
  have key := posF_E (h.pc hi) ot
  rw [eE]
  refine ⟨?_, key.2⟩
  unfold whereF; rw [t, hF]; exact key.1
end Go.Proofs.YtgeficpcnlgnhaaG
