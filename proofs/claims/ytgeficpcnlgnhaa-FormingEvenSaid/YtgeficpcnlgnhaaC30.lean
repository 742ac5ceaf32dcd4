/- What the stretches of a motion are: the times at which it is in the span. No condition. -/
import Derived.Test.YtgeficpcnlgnhaaC27
set_option linter.unusedVariables false
set_option linter.unusedSimpArgs false
set_option maxRecDepth 100000
set_option maxHeartbeats 4000000
namespace Go.Proofs.YtgeficpcnlgnhaaG
open Go Go.AM Go.Proofs

/-- A time is in a stretch, in a part; the part's position then is in a span. -/
def inT (t : Int × Int) (x : Str) : Prop := leQ x.1 t ∧ leQ t x.2
def tIn (t : Int × Int) (p : Pc) : Prop := p.a * t.2 ≤ t.1 ∧ t.1 ≤ p.b * t.2
def posIn (t : Int × Int) (p : Pc) (s : Int × Int) : Prop := s.1 * ((p.b - p.a) * t.2) ≤ (posE t.1 t.2 p).1 ∧ (posE t.1 t.2 p).1 ≤ s.2 * ((p.b - p.a) * t.2)

theorem when_le {p : Pc} {t : Int × Int} (ht : 1 ≤ t.2) (ab : p.a < p.b) (hne : p.p ≠ p.q) (x : Int) :
    (leQ (whenE p x) t ↔ if p.q - p.p < 0 then (posE t.1 t.2 p).1 ≤ x * ((p.b - p.a) * t.2) else x * ((p.b - p.a) * t.2) ≤ (posE t.1 t.2 p).1) ∧
    (leQ t (whenE p x) ↔ if p.q - p.p < 0 then x * ((p.b - p.a) * t.2) ≤ (posE t.1 t.2 p).1 else (posE t.1 t.2 p).1 ≤ x * ((p.b - p.a) * t.2)) := by
  have redl : ∀ u : Int × Int, 1 ≤ u.2 → ((leQ (red u) t ↔ leQ u t) ∧ (leQ t (red u) ↔ leQ t u)) := fun u hu => by
    have g := gcd_pos (n := u.1) hu
    obtain ⟨k, hk⟩ : (Int.gcd u.1 u.2 : Int) ∣ u.1 := Int.gcd_dvd_left ..
    obtain ⟨m, hm⟩ : (Int.gcd u.1 u.2 : Int) ∣ u.2 := Int.gcd_dvd_right ..
    unfold leQ red
    simp only
    generalize (Int.gcd u.1 u.2 : Int) = q at *
    have e1 : u.1 / q = k := by rw [hk]; exact Int.mul_ediv_cancel_left _ (by omega)
    have e2 : u.2 / q = m := by rw [hm]; exact Int.mul_ediv_cancel_left _ (by omega)
    rw [e1, e2, hk, hm, show q * k * t.2 = q * (k * t.2) by ac_rfl, show t.1 * (q * m) = q * (t.1 * m) by ac_rfl]
    constructor
    · constructor
      · intro h; exact Int.mul_le_mul_of_nonneg_left h (by omega)
      · intro h; exact Int.le_of_mul_le_mul_left h (by omega)
    · constructor
      · intro h; exact Int.mul_le_mul_of_nonneg_left h (by omega)
      · intro h; exact Int.le_of_mul_le_mul_left h (by omega)
  have e1 : (posE t.1 t.2 p).1 = p.p * ((p.b - p.a) * t.2) + (p.q - p.p) * (t.1 - p.a * t.2) := rfl
  have e2 : whenN p x * t.2 = x * ((p.b - p.a) * t.2) - p.p * ((p.b - p.a) * t.2) + (p.q - p.p) * (p.a * t.2) := by
    unfold whenN
    rw [Int.add_mul, ← Int.sub_mul, Int.mul_comm p.a (p.q - p.p), Int.mul_assoc, Int.mul_assoc]
    omega
  have e3 : (p.q - p.p) * (t.1 - p.a * t.2) = (p.q - p.p) * t.1 - (p.q - p.p) * (p.a * t.2) := Int.mul_sub ..
  unfold whenE
  split
  · rename_i h
    have r := redl (0 - whenN p x, 0 - (p.q - p.p)) (by simp only; omega)
    rw [r.1, r.2]
    unfold leQ
    simp only
    rw [Int.sub_mul, Int.zero_mul, Int.mul_sub, Int.mul_zero, Int.mul_comm t.1 (p.q - p.p)]
    rw [e1, e2, e3]
    generalize x * ((p.b - p.a) * t.2) = A
    generalize p.p * ((p.b - p.a) * t.2) = B
    generalize (p.q - p.p) * (p.a * t.2) = C
    generalize (p.q - p.p) * t.1 = E
    constructor <;> constructor <;> intro <;> omega
  · rename_i h
    have r := redl (whenN p x, p.q - p.p) (by simp only; omega)
    rw [r.1, r.2]
    unfold leQ
    simp only
    rw [Int.mul_comm t.1 (p.q - p.p)]
    rw [e1, e2, e3]
    generalize x * ((p.b - p.a) * t.2) = A
    generalize p.p * ((p.b - p.a) * t.2) = B
    generalize (p.q - p.p) * (p.a * t.2) = C
    generalize (p.q - p.p) * t.1 = E
    constructor <;> constructor <;> intro <;> omega

/-- **The stretch of a part**: the times of the part at which its position is in the span. -/
theorem inF_iff {cycle : Int} {p : Pc} (hp : Okp cycle p) (s : Int × Int) {t : Int × Int} (ht : 1 ≤ t.2) : ((inF p s).2 = true ∧ inT t (inF p s).1) ↔ (tIn t p ∧ posIn t p s) := by
  have ab := hp.ab
  have W : 1 ≤ (p.b - p.a) * t.2 := Int.mul_pos (a := p.b - p.a) (b := t.2) (by omega) (by omega)
  have mono : ∀ {u v : Int}, u ≤ v → u * ((p.b - p.a) * t.2) ≤ v * ((p.b - p.a) * t.2) := fun {u v} h => Int.mul_le_mul_of_nonneg_right h (by omega)
  have anti : ∀ {u v : Int}, u * ((p.b - p.a) * t.2) ≤ v * ((p.b - p.a) * t.2) → u ≤ v := fun {u v} h => Int.le_of_mul_le_mul_right h (by omega)
  have eN : (posE t.1 t.2 p).1 = p.p * ((p.b - p.a) * t.2) + (p.q - p.p) * (t.1 - p.a * t.2) := rfl
  have eW : (p.b - p.a) * t.2 = p.b * t.2 - p.a * t.2 := Int.sub_mul ..
  by_cases h0 : p.p = p.q
  · have eN' : (posE t.1 t.2 p).1 = p.p * ((p.b - p.a) * t.2) := by rw [eN, h0, Int.sub_self, Int.zero_mul, Int.add_zero]
    unfold posIn tIn inT inF
    rw [eN']
    simp only
    by_cases hl : min s.2 (max p.p p.q) < max s.1 (min p.p p.q)
    · rw [if_pos hl]
      constructor
      · rintro ⟨h, _⟩; cases h
      · rintro ⟨_, h1, h2⟩
        have := anti h1; have := anti h2; omega
    · rw [if_neg hl, if_pos h0]
      unfold leQ
      simp only
      constructor
      · rintro ⟨_, h1, h2⟩
        exact ⟨⟨by omega, by omega⟩, mono (by omega), mono (by omega)⟩
      · rintro ⟨⟨h1, h2⟩, _⟩
        exact ⟨trivial, by omega, by omega⟩
  · obtain ⟨l1, l2⟩ := when_le ht ab h0 (max s.1 (min p.p p.q))
    obtain ⟨g1, g2⟩ := when_le ht ab h0 (min s.2 (max p.p p.q))
    by_cases h1 : p.q - p.p < 0
    · rw [if_pos h1] at l1 l2 g1 g2
      have t1 : p.a * t.2 ≤ t.1 ↔ (posE t.1 t.2 p).1 ≤ p.p * ((p.b - p.a) * t.2) := by
        rw [eN]
        constructor
        · intro h
          have := Int.mul_nonpos_of_nonpos_of_nonneg (a := p.q - p.p) (b := t.1 - p.a * t.2) (by omega) (by omega); omega
        · intro h
          by_cases hh : p.a * t.2 ≤ t.1
          · exact hh
          · have := Int.mul_pos_of_neg_of_neg (a := p.q - p.p) (b := t.1 - p.a * t.2) (by omega) (by omega); omega
      have e4 : p.q * ((p.b - p.a) * t.2) = p.p * ((p.b - p.a) * t.2) + (p.q - p.p) * ((p.b - p.a) * t.2) := by rw [← Int.add_mul]; congr 1; omega
      have t2 : t.1 ≤ p.b * t.2 ↔ p.q * ((p.b - p.a) * t.2) ≤ (posE t.1 t.2 p).1 := by
        rw [eN, e4]
        constructor
        · intro h
          have := Int.mul_le_mul_of_nonpos_left (a := p.q - p.p) (b := (p.b - p.a) * t.2) (c := t.1 - p.a * t.2) (by omega) (by omega); omega
        · intro h
          by_cases hh : t.1 ≤ p.b * t.2
          · exact hh
          · have := Int.mul_lt_mul_of_neg_left (b := (p.b - p.a) * t.2) (a := t.1 - p.a * t.2) (c := p.q - p.p) (by omega) (by omega); omega
      unfold posIn tIn inT inF
      rw [t1, t2]
      simp only
      rw [if_neg h0, if_neg (show ¬ p.p < p.q by omega)]
      by_cases hl : min s.2 (max p.p p.q) < max s.1 (min p.p p.q)
      · rw [if_pos hl]
        constructor
        · rintro ⟨h, _⟩; cases h
        · rintro ⟨⟨a1, a2⟩, a3, a4⟩
          have k1 : s.1 ≤ s.2 := anti (Int.le_trans a3 a4)
          have k2 : s.1 ≤ p.p := anti (Int.le_trans a3 a1)
          have k3 : p.q ≤ s.2 := anti (Int.le_trans a2 a4)
          omega
      · rw [if_neg hl]
        simp only
        rw [g1, l2]
        constructor
        · rintro ⟨_, b1, b2⟩
          have m1 := mono (show s.1 ≤ max s.1 (min p.p p.q) by omega)
          have m2 := mono (show p.q ≤ max s.1 (min p.p p.q) by omega)
          have m3 := mono (show min s.2 (max p.p p.q) ≤ s.2 by omega)
          have m4 := mono (show min s.2 (max p.p p.q) ≤ p.p by omega)
          exact ⟨⟨by omega, by omega⟩, by omega, by omega⟩
        · rintro ⟨⟨a1, a2⟩, a3, a4⟩
          refine ⟨trivial, ?_, ?_⟩
          · rcases Int.le_total s.2 (max p.p p.q) with h | h
            · rw [Int.min_eq_left h]; exact a4
            · rw [Int.min_eq_right h, show max p.p p.q = p.p by omega]; exact a1
          · rcases Int.le_total s.1 (min p.p p.q) with h | h
            · rw [Int.max_eq_right h, show min p.p p.q = p.q by omega]; exact a2
            · rw [Int.max_eq_left h]; exact a3
    · rw [if_neg h1] at l1 l2 g1 g2
      have t1 : p.a * t.2 ≤ t.1 ↔ p.p * ((p.b - p.a) * t.2) ≤ (posE t.1 t.2 p).1 := by
        rw [eN]
        constructor
        · intro h
          have := Int.mul_nonneg (a := p.q - p.p) (b := t.1 - p.a * t.2) (by omega) (by omega); omega
        · intro h
          by_cases hh : p.a * t.2 ≤ t.1
          · exact hh
          · have := Int.mul_neg_of_pos_of_neg (a := p.q - p.p) (b := t.1 - p.a * t.2) (by omega) (by omega); omega
      have e4 : p.q * ((p.b - p.a) * t.2) = p.p * ((p.b - p.a) * t.2) + (p.q - p.p) * ((p.b - p.a) * t.2) := by rw [← Int.add_mul]; congr 1; omega
      have t2 : t.1 ≤ p.b * t.2 ↔ (posE t.1 t.2 p).1 ≤ p.q * ((p.b - p.a) * t.2) := by
        rw [eN, e4]
        constructor
        · intro h
          have := Int.mul_le_mul_of_nonneg_left (a := t.1 - p.a * t.2) (b := (p.b - p.a) * t.2) (c := p.q - p.p) (by omega) (by omega); omega
        · intro h
          by_cases hh : t.1 ≤ p.b * t.2
          · exact hh
          · have : (p.q - p.p) * ((p.b - p.a) * t.2) < (p.q - p.p) * (t.1 - p.a * t.2) := Int.mul_lt_mul_of_pos_left (by omega) (by omega)
            omega
      unfold posIn tIn inT inF
      rw [t1, t2]
      simp only
      rw [if_neg h0, if_pos (show p.p < p.q by omega)]
      by_cases hl : min s.2 (max p.p p.q) < max s.1 (min p.p p.q)
      · rw [if_pos hl]
        constructor
        · rintro ⟨h, _⟩; cases h
        · rintro ⟨⟨a1, a2⟩, a3, a4⟩
          have k1 : s.1 ≤ s.2 := anti (Int.le_trans a3 a4)
          have k2 : s.1 ≤ p.q := anti (Int.le_trans a3 a2)
          have k3 : p.p ≤ s.2 := anti (Int.le_trans a1 a4)
          omega
      · rw [if_neg hl]
        simp only
        rw [l1, g2]
        constructor
        · rintro ⟨_, b1, b2⟩
          have m1 := mono (show s.1 ≤ max s.1 (min p.p p.q) by omega)
          have m2 := mono (show p.p ≤ max s.1 (min p.p p.q) by omega)
          have m3 := mono (show min s.2 (max p.p p.q) ≤ s.2 by omega)
          have m4 := mono (show min s.2 (max p.p p.q) ≤ p.q by omega)
          exact ⟨⟨by omega, by omega⟩, by omega, by omega⟩
        · rintro ⟨⟨a1, a2⟩, a3, a4⟩
          refine ⟨trivial, ?_, ?_⟩
          · rcases Int.le_total s.1 (min p.p p.q) with h | h
            · rw [Int.max_eq_right h, show min p.p p.q = p.p by omega]; exact a1
            · rw [Int.max_eq_left h]; exact a3
          · rcases Int.le_total s.2 (max p.p p.q) with h | h
            · rw [Int.min_eq_left h]; exact a4
            · rw [Int.min_eq_right h, show max p.p p.q = p.q by omega]; exact a2

theorem inT_self {cycle : Int} {p : Pc} (hp : Okp cycle p) (hc : cycle ≤ 3600) (s : Int × Int) (hs1 : -1000000 ≤ s.1 ∧ s.1 ≤ 2000000) (hs2 : -1000000 ≤ s.2 ∧ s.2 ≤ 2000000) (h : (inF p s).2 = true) :
    leQ (inF p s).1.1 (inF p s).1.2 ∧ tIn (inF p s).1.1 p ∧ tIn (inF p s).1.2 p := by
  have lo := inF_low hp hc s hs1 hs2 h
  have le : leQ (inF p s).1.1 (inF p s).1.2 := by
    unfold inF at h ⊢
    simp only at h ⊢
    have ab := hp.ab
    by_cases hl : min s.2 (max p.p p.q) < max s.1 (min p.p p.q)
    · rw [if_pos hl] at h; cases h
    · rw [if_neg hl]
      by_cases h0 : p.p = p.q
      · rw [if_pos h0]; unfold leQ; simp only; omega
      · rw [if_neg h0]
        by_cases h1 : p.p < p.q
        · rw [if_pos h1]
          simp only
          rw [← ltF_not, when_lt hp h0, if_neg (by omega)]
          simp only [decide_eq_false_iff_not]; omega
        · rw [if_neg h1]
          simp only
          rw [← ltF_not, when_lt hp h0, if_pos (by omega)]
          simp only [decide_eq_false_iff_not]; omega
  exact ⟨le, ((inF_iff hp s lo.f.d.1).1 ⟨h, leQ_refl _, le⟩).1, ((inF_iff hp s lo.t.d.1).1 ⟨h, le, leQ_refl _⟩).1⟩

/-- Stretches one behind the other, with no time in common, up to a tick. -/
structure Sorted (e : Int) (l : List Str) : Prop where
  le : ∀ x ∈ l, leQ (0, 1) x.1 ∧ leQ x.1 x.2 ∧ leQ x.2 (e, 1)
  low : ∀ x ∈ l, LowS x
  gap : ∀ i, i + 1 < l.length → ltF (l.getD i ((0, 0), (0, 0))).2 (l.getD (i + 1) ((0, 0), (0, 0))).1 = true

theorem cmp_zero_iff {r s : Int × Int} (hr : RI r) (hs : RI s) : compareF r s = 0 ↔ r.1 * s.2 = s.1 * r.2 := by
  rw [compareF_eq hr hs]
  unfold cmpF
  constructor
  · intro h
    split at h
    · cases h
    · split at h
      · cases h
      · omega
  · intro h; rw [h]; simp
theorem getD_set {l : List Str} {i j : Nat} {x d : Str} (hi : i < l.length) : (l.set i x).getD j d = if j = i then x else l.getD j d := by
  simp only [List.getD, List.getElem?_set]
  by_cases h : i = j
  · subst h; simp [hi]
  · rw [if_neg h, if_neg (fun e => h e.symm)]
theorem getD_app {l : List Str} {j : Nat} {x d : Str} : (l ++ [x]).getD j d = if j = l.length then x else l.getD j d := by
  simp only [List.getD]
  by_cases h : j < l.length
  · rw [List.getElem?_append_left h, if_neg (by omega)]
  · by_cases h2 : j = l.length
    · subst h2; simp
    · rw [if_neg h2, List.getElem?_eq_none (by simp; omega), List.getElem?_eq_none (by omega)]
theorem getD_mem {l : List Str} {i : Nat} {d : Str} (h : i < l.length) : l.getD i d ∈ l := by simp [List.getD, h]

/-- One part more: what the stretches hold, and their order. -/
theorem stepS_iff {cycle : Int} {p : Pc} (hp : Okp cycle p) (hc : cycle ≤ 3600) (s : Int × Int) (hs1 : -1000000 ≤ s.1 ∧ s.1 ≤ 2000000) (hs2 : -1000000 ≤ s.2 ∧ s.2 ≤ 2000000) {out : List Str} (h : Sorted p.a out) :
    Sorted p.b (stepS s out p) ∧ ∀ t : Int × Int, 1 ≤ t.2 → ((∃ x ∈ stepS s out p, inT t x) ↔ (∃ x ∈ out, inT t x) ∨ ((inF p s).2 = true ∧ inT t (inF p s).1)) := by
  have ab := hp.ab
  have up : ∀ {r : Int × Int}, 1 ≤ r.2 → leQ r (p.a, 1) → leQ r (p.b, 1) := fun {r} hr h => by
    unfold leQ at *; simp only at *
    have := Int.mul_le_mul_of_nonneg_right (show p.a ≤ p.b by omega) (show 0 ≤ r.2 by omega)
    omega
  unfold stepS
  by_cases hok : (inF p s).2 = true
  case neg =>
    rw [if_neg hok]
    refine ⟨⟨fun x hx => ⟨(h.le x hx).1, (h.le x hx).2.1, up (h.low x hx).t.d.1 (h.le x hx).2.2⟩, h.low, h.gap⟩, fun t ht => ⟨.inl, fun hh => ?_⟩⟩
    rcases hh with hh | hh
    · exact hh
    · exact (hok hh.1).elim
  rw [if_pos hok]
  have lo := inF_low hp hc s hs1 hs2 hok
  obtain ⟨q1, q2, q3⟩ := inT_self hp hc s hs1 hs2 hok
  generalize (inF p s).1 = y at lo q1 q2 q3
  have y0 : leQ (0, 1) y.1 := by
    have := q2.1
    have h0 := Int.mul_nonneg hp.a0 (show 0 ≤ y.1.2 by have := lo.f.d; omega)
    unfold leQ; simp only; omega
  have ye : leQ y.2 (p.b, 1) := by have := q3.2; unfold leQ; simp only; omega
  have ya : leQ (p.a, 1) y.1 := by have := q2.1; unfold leQ; simp only; omega
  by_cases hm : out.length ≠ 0 ∧ compareF (out.getD (out.length - 1) ((0, 0), (0, 0))).2 y.1 = 0
  · rw [if_pos hm]
    have hlt : out.length - 1 < out.length := by omega
    have lm := getD_mem (d := ((0, 0), (0, 0))) hlt
    generalize hz : out.getD (out.length - 1) ((0, 0), (0, 0)) = z at hm lm
    have lz := h.low z lm
    have ez := (cmp_zero_iff lz.t.ri lo.f.ri).1 hm.2
    have z2 := h.le z lm
    have zy : leQ z.1 y.2 := leQ_trans lz.f.d.1 lo.f.d.1 lo.t.d.1 (leQ_trans lz.f.d.1 lz.t.d.1 lo.f.d.1 z2.2.1 (by unfold leQ; omega)) q1
    have ms : ∀ x ∈ out.set (out.length - 1) (z.1, y.2), x = (z.1, y.2) ∨ x ∈ out := fun x hx => (List.mem_or_eq_of_mem_set hx).symm
    refine ⟨⟨fun x hx => ?_, fun x hx => ?_, fun i hi => ?_⟩, fun t ht => ?_⟩
    · rcases ms x hx with rfl | hx
      · exact ⟨z2.1, zy, ye⟩
      · exact ⟨(h.le x hx).1, (h.le x hx).2.1, up (h.low x hx).t.d.1 (h.le x hx).2.2⟩
    · rcases ms x hx with rfl | hx
      · exact ⟨lz.f, lo.t⟩
      · exact h.low x hx
    · rw [List.length_set] at hi
      rw [getD_set hlt, getD_set hlt, if_neg (by omega)]
      have g := h.gap i hi
      by_cases e : i + 1 = out.length - 1
      · rw [if_pos e]
        rw [e, hz] at g
        exact g
      · rw [if_neg e]; exact g
    · constructor
      · rintro ⟨x, hx, h1, h2⟩
        rcases ms x hx with rfl | hx
        · rcases leQ_total t z.2 with c | c
          · exact .inl ⟨z, lm, h1, c⟩
          · exact .inr ⟨hok, leQ_trans lo.f.d.1 lz.t.d.1 ht (by unfold leQ; omega) c, h2⟩
        · exact .inl ⟨x, hx, h1, h2⟩
      · rintro (⟨x, hx, h1, h2⟩ | ⟨_, h1, h2⟩)
        · obtain ⟨i, hi, rfl⟩ := List.mem_iff_getElem.1 hx
          by_cases e : i = out.length - 1
          · have ex : out[i] = z := by rw [← hz]; subst e; simp [List.getD, hlt]
            rw [ex] at h1 h2
            refine ⟨(z.1, y.2), List.mem_set hlt _, h1, ?_⟩
            exact leQ_trans ht lz.t.d.1 lo.t.d.1 h2 (leQ_trans lz.t.d.1 lo.f.d.1 lo.t.d.1 (by unfold leQ; omega) q1)
          · refine ⟨out[i], ?_, h1, h2⟩
            have : (out.set (out.length - 1) (z.1, y.2))[i]'(by simpa using hi) = out[i] := by
              rw [List.getElem_set_ne (by omega)]
            rw [← this]; exact List.getElem_mem _
        · exact ⟨(z.1, y.2), List.mem_set hlt _, leQ_trans lz.f.d.1 lo.f.d.1 ht (leQ_trans lz.f.d.1 lz.t.d.1 lo.f.d.1 z2.2.1 (by unfold leQ; omega)) h1, h2⟩
  · rw [if_neg hm]
    refine ⟨⟨fun x hx => ?_, fun x hx => ?_, fun i hi => ?_⟩, fun t ht => ?_⟩
    · rcases List.mem_append.1 hx with hx | hx
      · exact ⟨(h.le x hx).1, (h.le x hx).2.1, up (h.low x hx).t.d.1 (h.le x hx).2.2⟩
      · simp at hx; subst hx; exact ⟨y0, q1, ye⟩
    · rcases List.mem_append.1 hx with hx | hx
      · exact h.low x hx
      · simp at hx; subst hx; exact lo
    · rw [List.length_append, List.length_singleton] at hi
      rw [getD_app, getD_app, if_neg (by omega)]
      by_cases e : i + 1 = out.length
      · rw [if_pos e]
        have hlt : out.length - 1 < out.length := by omega
        have lm := getD_mem (d := ((0, 0), (0, 0))) hlt
        rw [show i = out.length - 1 by omega]
        generalize hz : out.getD (out.length - 1) ((0, 0), (0, 0)) = z at hm lm
        have lz := h.low z lm
        have z2 := h.le z lm
        have hle : leQ z.2 y.1 := leQ_trans lz.t.d.1 (by simp) lo.f.d.1 z2.2.2 ya
        have hne : ¬ z.2.1 * y.1.2 = y.1.1 * z.2.2 := fun e => hm ⟨by omega, (cmp_zero_iff lz.t.ri lo.f.ri).2 e⟩
        unfold leQ at hle
        simp only [ltF, decide_eq_true_eq]; omega
      · rw [if_neg e]; exact h.gap i (by omega)
    · constructor
      · rintro ⟨x, hx, h1⟩
        rcases List.mem_append.1 hx with hx | hx
        · exact .inl ⟨x, hx, h1⟩
        · simp at hx; subst hx; exact .inr ⟨hok, h1⟩
      · rintro (⟨x, hx, h1⟩ | ⟨_, h1⟩)
        · exact ⟨x, List.mem_append.2 (.inl hx), h1⟩
        · exact ⟨y, by simp, h1⟩
end Go.Proofs.YtgeficpcnlgnhaaG
