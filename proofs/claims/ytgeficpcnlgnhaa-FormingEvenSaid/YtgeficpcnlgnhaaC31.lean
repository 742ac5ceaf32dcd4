/- A motion is in a span just at the times of its stretches; the law's own small functions. No condition. -/
import Derived.Test.YtgeficpcnlgnhaaC30
set_option linter.unusedVariables false
set_option linter.unusedSimpArgs false
set_option maxRecDepth 100000
set_option maxHeartbeats 4000000
namespace Go.Proofs.YtgeficpcnlgnhaaG
open Go Go.AM Go.Proofs

section
variable {cycle home : Int} {l : List (Int × Int)}
theorem pc_first (h : Okm cycle home l) : (pcN cycle home l 0).a = 0 := by
  unfold pcN
  split
  · rfl
  · rename_i hl
    have b := h.bad 0 (by omega)
    rw [badAt_iff] at b
    unfold pcAt; simp only; omega
theorem pc_next (h : Okm cycle home l) {i : Nat} (hi : i + 1 < max l.length 1) : (pcN cycle home l i).b = (pcN cycle home l (i + 1)).a ∧ (pcN cycle home l i).q = (pcN cycle home l (i + 1)).p := by
  unfold pcN
  have hl : ¬ l.length = 0 := by omega
  rw [if_neg hl, if_neg hl]
  unfold pcAt
  rw [if_pos (by omega)]
  exact ⟨rfl, rfl⟩
theorem pc_end (h : Okm cycle home l) : (pcN cycle home l (max l.length 1 - 1)).q = (pcN cycle home l 0).p := by
  unfold pcN
  split
  · rfl
  · rename_i hl
    unfold pcAt
    rw [if_neg (by omega)]

theorem str_iff (h : Okm cycle home l) (s : Int × Int) (hs1 : -1000000 ≤ s.1 ∧ s.1 ≤ 2000000) (hs2 : -1000000 ≤ s.2 ∧ s.2 ≤ 2000000) : ∀ n, n < max l.length 1 →
    Sorted (pcN cycle home l n).b (stretchesF cycle home l s (n + 1)) ∧ ∀ t : Int × Int, 1 ≤ t.2 → ((∃ x ∈ stretchesF cycle home l s (n + 1), inT t x) ↔ ∃ j, j ≤ n ∧ tIn t (pcN cycle home l j) ∧ posIn t (pcN cycle home l j) s)
  | 0, hn => by
    rw [stretchesF_succ]
    have h0 : Sorted (pcN cycle home l 0).a (stretchesF cycle home l s 0) := ⟨fun x hx => by simp [stretchesF] at hx, fun x hx => by simp [stretchesF] at hx, fun i hi => by simp [stretchesF] at hi⟩
    obtain ⟨k1, k2⟩ := stepS_iff (h.pc hn) h.c2 s hs1 hs2 h0
    refine ⟨k1, fun t ht => ?_⟩
    rw [k2 t ht, inF_iff (h.pc hn) s ht]
    constructor
    · rintro (⟨x, hx, _⟩ | hh)
      · simp [stretchesF] at hx
      · exact ⟨0, by omega, hh⟩
    · rintro ⟨j, hj, hh⟩
      obtain rfl : j = 0 := by omega
      exact .inr hh
  | n + 1, hn => by
    obtain ⟨i1, i2⟩ := str_iff h s hs1 hs2 n (by omega)
    rw [(pc_next h hn).1] at i1
    rw [stretchesF_succ]
    obtain ⟨k1, k2⟩ := stepS_iff (h.pc hn) h.c2 s hs1 hs2 i1
    refine ⟨k1, fun t ht => ?_⟩
    rw [k2 t ht, i2 t ht, inF_iff (h.pc hn) s ht]
    constructor
    · rintro (⟨j, hj, hh⟩ | hh)
      · exact ⟨j, by omega, hh⟩
      · exact ⟨n + 1, by omega, hh⟩
    · rintro ⟨j, hj, hh⟩
      by_cases e : j = n + 1
      · subst e; exact .inr hh
      · exact .inl ⟨j, by omega, hh⟩

theorem pos_start {p : Pc} {t : Int × Int} {s : Int × Int} (ht : 1 ≤ t.2) (ab : p.a < p.b) (e : t.1 = p.a * t.2) : posIn t p s ↔ s.1 ≤ p.p ∧ p.p ≤ s.2 := by
  unfold posIn posE
  simp only
  rw [e, Int.sub_self, Int.mul_zero, Int.add_zero]
  have W : 1 ≤ (p.b - p.a) * t.2 := Int.mul_pos (a := p.b - p.a) (b := t.2) (by omega) (by omega)
  constructor
  · rintro ⟨h1, h2⟩; exact ⟨Int.le_of_mul_le_mul_right h1 (by omega), Int.le_of_mul_le_mul_right h2 (by omega)⟩
  · rintro ⟨h1, h2⟩; exact ⟨Int.mul_le_mul_of_nonneg_right h1 (by omega), Int.mul_le_mul_of_nonneg_right h2 (by omega)⟩
theorem pos_end {p : Pc} {t : Int × Int} {s : Int × Int} (ht : 1 ≤ t.2) (ab : p.a < p.b) (e : t.1 = p.b * t.2) : posIn t p s ↔ s.1 ≤ p.q ∧ p.q ≤ s.2 := by
  unfold posIn posE
  simp only
  rw [e, ← Int.sub_mul, ← Int.add_mul, show p.p + (p.q - p.p) = p.q by omega]
  have W : 1 ≤ (p.b - p.a) * t.2 := Int.mul_pos (a := p.b - p.a) (b := t.2) (by omega) (by omega)
  constructor
  · rintro ⟨h1, h2⟩; exact ⟨Int.le_of_mul_le_mul_right h1 (by omega), Int.le_of_mul_le_mul_right h2 (by omega)⟩
  · rintro ⟨h1, h2⟩; exact ⟨Int.mul_le_mul_of_nonneg_right h1 (by omega), Int.mul_le_mul_of_nonneg_right h2 (by omega)⟩

/-- Later parts begin later. -/
theorem pc_order (h : Okm cycle home l) : ∀ (d i : Nat), i + d + 1 < max l.length 1 → (pcN cycle home l i).b ≤ (pcN cycle home l (i + d + 1)).a
  | 0, i, hi => by rw [(pc_next h hi).1]; exact Int.le_refl _
  | d + 1, i, hi => by
    have h1 := pc_order h d i (by omega)
    have h2 := (pc_next h (i := i + d + 1) (by omega)).1
    have h3 := (h.pc (i := i + d + 1) (by omega)).ab
    show _ ≤ (pcN cycle home l (i + d + 1 + 1)).a
    omega

/-- The part in which a time lies, and what the motion's position is then. -/
theorem where_part (h : Okm cycle home l) {t : Int × Int} (d1 : 1 ≤ t.2) (d2 : t.2 ≤ 1000000) (t0 : 0 ≤ t.1) (t1 : t.1 < cycle * t.2) :
    ∃ i, i < max l.length 1 ∧ tIn t (pcN cycle home l i) ∧ whereE cycle home l t = posE t.1 t.2 (pcN cycle home l i) ∧
      (∀ s : Int × Int, ∀ j, j < max l.length 1 → tIn t (pcN cycle home l j) → (posIn t (pcN cycle home l j) s ↔ posIn t (pcN cycle home l i) s)) ∧
      (t.1 = 0 → ∀ s : Int × Int, posIn t (pcN cycle home l i) s ↔ s.1 ≤ (pcN cycle home l 0).p ∧ (pcN cycle home l 0).p ≤ s.2) := by
  obtain ⟨i, hi, hp, hb⟩ := h.some (r := t) d1 d2
  have hm : t.1 % (cycle * t.2) = t.1 := Int.emod_eq_of_lt t0 t1
  rw [hm] at hp
  have hb : ∀ j, j < i → (pcN cycle home l j).b * t.2 < t.1 := fun j hj => by
    have := hb j hj
    rw [hm] at this
    simpa using this
  have hp : t.1 ≤ (pcN cycle home l i).b * t.2 := of_decide_eq_true hp
  have hlow : (pcN cycle home l i).a * t.2 ≤ t.1 := by
    cases i with
    | zero => rw [pc_first h]; omega
    | succ i =>
      have := hb i (by omega)
      rw [(pc_next h hi).1] at this
      omega
  have ok := h.pc hi
  refine ⟨i, hi, ⟨hlow, hp⟩, ?_, fun s j hj ⟨j1, j2⟩ => ?_, fun e s => ?_⟩
  · unfold whereE
    rw [pcs_get, find_first _ (fun p : Pc => decide (t.1 % (cycle * t.2) ≤ p.b * t.2)) _ i hi (by rw [hm]; simpa using hp) (fun j hj => by rw [hm]; simpa using hb j hj), hm]
  · by_cases e : j = i
    · rw [e]
    by_cases e1 : j < i
    · have := hb j e1; omega
    have okj := h.pc hj
    have o := pc_order h (j - i - 1) i (by omega)
    rw [show i + (j - i - 1) + 1 = j by omega] at o
    have m1 := Int.mul_le_mul_of_nonneg_right o (show 0 ≤ t.2 by omega)
    by_cases e2 : j = i + 1
    · subst e2
      have n := pc_next h hj
      have ej : t.1 = (pcN cycle home l (i + 1)).a * t.2 := by omega
      have ei : t.1 = (pcN cycle home l i).b * t.2 := by rw [n.1]; omega
      rw [pos_start d1 okj.ab ej, pos_end d1 ok.ab ei, n.2]
    · exfalso
      have o2 := pc_order h (j - (i + 1) - 1) (i + 1) (by omega)
      rw [show i + 1 + (j - (i + 1) - 1) + 1 = j by omega] at o2
      have n := (pc_next h (i := i) (by omega)).1
      have ok1 := (h.pc (i := i + 1) (by omega)).ab
      have := Int.mul_le_mul_of_nonneg_right (show (pcN cycle home l i).b + 1 ≤ (pcN cycle home l j).a by omega) (show 0 ≤ t.2 by omega)
      rw [Int.add_mul] at this
      omega
  · have i0 : i = 0 := by
      cases i with
      | zero => rfl
      | succ i =>
        exfalso
        have := hb i (by omega)
        have ok0 := h.pc (i := i) (by omega)
        have := Int.mul_nonneg (a := (pcN cycle home l i).b) (b := t.2) (by have := ok0.a0; have := ok0.ab; omega) (by omega)
        omega
    subst i0
    exact pos_start d1 ok.ab (by rw [pc_first h]; omega)

/-- Is a time, in its cycle, in a stretch? -/
def inL (cycle : Int) (L : List Str) (t : Int × Int) : Prop := ∃ x ∈ L, ∃ k : Int, -1 ≤ k ∧ k ≤ 1 ∧ inT (t.1 + k * cycle * t.2, t.2) x
/-- **The stage's theorem.** -/
theorem all_iff (h : Okm cycle home l) (s : Int × Int) (hs1 : -1000000 ≤ s.1 ∧ s.1 ≤ 2000000) (hs2 : -1000000 ≤ s.2 ∧ s.2 ≤ 2000000) {t : Int × Int} (d1 : 1 ≤ t.2) (d2 : t.2 ≤ 1000000) (t0 : 0 ≤ t.1) (t1 : t.1 < cycle * t.2) :
    (leQ (s.1, 1) (red (whereE cycle home l t)) ∧ leQ (red (whereE cycle home l t)) (s.2, 1)) ↔ inL cycle (stretchesF cycle home l s (max l.length 1)) t := by
  obtain ⟨i, hi, ti, ew, hj, h0⟩ := where_part h d1 d2 t0 t1
  obtain ⟨so, mem⟩ := str_iff h s hs1 hs2 (max l.length 1 - 1) (by omega)
  rw [show max l.length 1 - 1 + 1 = max l.length 1 by omega] at so mem
  rw [h.last] at so
  have ok := h.pc hi
  have ab := ok.ab
  have W : 1 ≤ ((pcN cycle home l i).b - (pcN cycle home l i).a) * t.2 := Int.mul_pos (a := (pcN cycle home l i).b - (pcN cycle home l i).a) (b := t.2) (by omega) (by omega)
  have e1 : (leQ (s.1, 1) (red (whereE cycle home l t)) ∧ leQ (red (whereE cycle home l t)) (s.2, 1)) ↔ posIn t (pcN cycle home l i) s := by
    rw [ew]
    have r1 := leQ_red (u := (s.1, 1)) (v := posE t.1 t.2 (pcN cycle home l i)) (by simp) W
    have r2 := leQ_red (u := posE t.1 t.2 (pcN cycle home l i)) (v := (s.2, 1)) W (by simp)
    rw [show red (s.1, 1) = (s.1, 1) by simp [red]] at r1
    rw [show red (s.2, 1) = (s.2, 1) by simp [red]] at r2
    rw [r1, r2]
    unfold posIn leQ
    simp only [Int.mul_one]
    exact Iff.rfl
  rw [e1]
  constructor
  · intro hp
    obtain ⟨x, hx, hin⟩ := (mem t d1).2 ⟨i, by omega, ti, hp⟩
    exact ⟨x, hx, 0, by omega, by omega, by simpa using hin⟩
  · rintro ⟨x, hx, k, k1, k2, hin⟩
    have le := so.le x hx
    have lo := so.low x hx
    have hk : k = -1 ∨ k = 0 ∨ k = 1 := by omega
    rcases hk with rfl | rfl | rfl
    · exfalso
      obtain ⟨a1, a2⟩ := hin
      have := leQ_trans (a := (0, 1)) (by simp) lo.f.d.1 (show 1 ≤ ((t.1 + -1 * cycle * t.2, t.2) : Int × Int).2 from d1) le.1 a1
      unfold leQ at this
      simp only at this
      rw [Int.neg_mul, Int.one_mul, Int.neg_mul] at this
      omega
    · have hin : inT t x := by simpa using hin
      obtain ⟨j, hjn, tj, pj⟩ := (mem t d1).1 ⟨x, hx, hin⟩
      exact (hj s j (by omega) tj).1 pj
    · obtain ⟨j, hjn, tj, pj⟩ := (mem (t.1 + 1 * cycle * t.2, t.2) d1).1 ⟨x, hx, hin⟩
      have okj := h.pc (i := j) (by omega)
      have hb := tj.2
      simp only at hb
      rw [Int.one_mul] at hb
      have m := Int.mul_le_mul_of_nonneg_right okj.bc (show 0 ≤ t.2 by omega)
      have z : t.1 = 0 := by omega
      have eb : (pcN cycle home l j).b = cycle := by
        have : (pcN cycle home l j).b * t.2 = cycle * t.2 := by omega
        exact Int.eq_of_mul_eq_mul_right (by omega) this
      have jl : j = max l.length 1 - 1 := by
        by_cases e : j = max l.length 1 - 1
        · exact e
        · exfalso
          have o := pc_order h (max l.length 1 - 1 - j - 1) j (by omega)
          rw [show j + (max l.length 1 - 1 - j - 1) + 1 = max l.length 1 - 1 by omega, eb] at o
          have := (h.pc (i := max l.length 1 - 1) (by omega)).ab
          rw [h.last] at this
          omega
      have q := pc_end h
      rw [← jl] at q
      rw [h0 z s, ← q]
      exact (pos_end (p := pcN cycle home l j) (t := (t.1 + 1 * cycle * t.2, t.2)) d1 okj.ab (by show t.1 + 1 * cycle * t.2 = (pcN cycle home l j).b * t.2; rw [eb, z, Int.one_mul]; omega)).1 pj
end

/-- What 'in' of the law answers. -/
def inB (cycle : Int) (L : List Str) (t : Int × Int) : Bool := L.any fun x => [-1, 0, 1].any fun k : Int => !ltF (t.1 + k * cycle * t.2, t.2) x.1 && !ltF x.2 (t.1 + k * cycle * t.2, t.2)
theorem inB_iff {cycle : Int} {L : List Str} {t : Int × Int} : inB cycle L t = true ↔ inL cycle L t := by
  unfold inB inL inT
  simp only [List.any_eq_true, Bool.and_eq_true, Bool.not_eq_true']
  constructor
  · rintro ⟨x, hx, k, hk, h1, h2⟩
    refine ⟨x, hx, k, ?_, ?_, ltF_not.1 h1, ltF_not.1 h2⟩
    · simp at hk; omega
    · simp at hk; omega
  · rintro ⟨x, hx, k, k1, k2, h1, h2⟩
    exact ⟨x, hx, k, by simp; omega, ltF_not.2 h1, ltF_not.2 h2⟩
end Go.Proofs.YtgeficpcnlgnhaaG
