/- Stretches are in lowest terms. No condition. -/
import Derived.Test.YtgeficpcnlgnhaaC11
set_option linter.unusedVariables false
set_option linter.unusedSimpArgs false
set_option maxRecDepth 100000
namespace Go.Proofs.YtgeficpcnlgnhaaG
open Go Go.AM Go.Proofs

/-- A quotient in lowest terms, of no great numbers. -/
structure Low (r : Int × Int) : Prop where
  n : -20000000000 ≤ r.1 ∧ r.1 ≤ 20000000000
  d : 1 ≤ r.2 ∧ r.2 ≤ 1000000
  g : Int.gcd r.1 r.2 = 1
theorem Low.ri {r : Int × Int} (h : Low r) : RI r := ⟨⟨by have := h.n; omega, by have := h.n; omega⟩, h.d.1, ⟨by have := h.d; omega, by have := h.d; omega⟩⟩
theorem Low.red {r : Int × Int} (h : Low r) : red r = r := by
  unfold Go.Proofs.YtgeficpcnlgnhaaG.red; rw [h.g]; simp
theorem low_whole {n : Int} (h : -20000000000 ≤ n ∧ n ≤ 20000000000) : Low (n, 1) := ⟨h, ⟨by simp, by simp⟩, by simp⟩
theorem low_red {r : Int × Int} (h1 : -20000000000 ≤ r.1 ∧ r.1 ≤ 20000000000) (h2 : 1 ≤ r.2 ∧ r.2 ≤ 1000000) : Low (red r) := by
  have g := gcd_pos (n := r.1) h2.1
  have hg : (Int.gcd r.1 r.2 : Int) ∣ r.2 := Int.gcd_dvd_right ..
  refine ⟨?_, ?_, ?_⟩
  · unfold red
    simp only
    generalize (Int.gcd r.1 r.2 : Int) = k at g
    have e2 := Int.emod_nonneg r.1 (b := k) (by omega)
    have e3 := Int.emod_lt_of_pos r.1 (b := k) (by omega)
    rcases Int.lt_or_le r.1 0 with hn | hn
    · have a1 : r.1 / k < 0 := Int.ediv_neg_of_neg_of_pos hn (by omega)
      have a2 : r.1 ≤ r.1 / k := Int.le_ediv_of_mul_le (by omega) (by
        have := Int.mul_le_mul_of_nonpos_left (a := r.1) (b := k) (c := 1) (by omega) g
        omega)
      omega
    · have a1 : 0 ≤ r.1 / k := Int.ediv_nonneg hn (by omega)
      have a2 : r.1 / k ≤ r.1 := Int.ediv_le_self _ hn
      omega
  · unfold red
    simp only
    obtain ⟨c, hc⟩ := hg
    have hc0 : 1 ≤ c := by
      rcases Int.lt_or_le c 1 with h | h
      · exfalso
        have : (Int.gcd r.1 r.2 : Int) * c ≤ 0 := Int.mul_nonpos_of_nonneg_of_nonpos (by omega) (by omega)
        omega
      · exact h
    have e : r.2 / (Int.gcd r.1 r.2 : Int) = c := by
      conv => lhs; lhs; rw [hc]
      exact Int.mul_ediv_cancel_left _ (by omega)
    rw [e]
    have : c ≤ r.2 := by rw [hc]; have := Int.mul_le_mul_of_nonneg_right (a := 1) (b := (Int.gcd r.1 r.2 : Int)) (c := c) g (by omega); omega
    omega
  · unfold red
    simp only
    exact Int.gcd_ediv_gcd_ediv_gcd (by omega)

structure LowS (s : Str) : Prop where
  f : Low s.1
  t : Low s.2
theorem whenE_low {cycle : Int} {p : Pc} (hp : Okp cycle p) (hc : cycle ≤ 3600) {x : Int} (hx : -3000000 ≤ x ∧ x ≤ 3000000) (hne : p.p ≠ p.q) : Low (whenE p x) := by
  obtain ⟨m1, m2⟩ := whenN_bd hp hc hx
  obtain ⟨a0, ab, bc, p0, p1, q0, q1⟩ := hp
  have hn : -18000000000 ≤ whenN p x ∧ whenN p x ≤ 18000000000 := by unfold whenN; omega
  unfold whenE
  split
  · exact low_red ⟨by simp only; omega, by simp only; omega⟩ ⟨by simp only; omega, by simp only; omega⟩
  · exact low_red ⟨by simp only; omega, by simp only; omega⟩ ⟨by simp only; omega, by simp only; omega⟩
theorem inF_low {cycle : Int} {p : Pc} (hp : Okp cycle p) (hc : cycle ≤ 3600) (s : Int × Int) (hs1 : -1000000 ≤ s.1 ∧ s.1 ≤ 2000000) (hs2 : -1000000 ≤ s.2 ∧ s.2 ≤ 2000000) (h : (inF p s).2 = true) : LowS (inF p s).1 := by
  have hp' := hp
  obtain ⟨a0, ab, bc, p0, p1, q0, q1⟩ := hp
  unfold inF at h ⊢
  simp only at h ⊢
  split
  · rename_i e; simp [e] at h
  · split
    · exact ⟨low_whole ⟨by omega, by omega⟩, low_whole ⟨by omega, by omega⟩⟩
    · rename_i hne
      have w1 := whenE_low hp' hc (x := max s.1 (min p.p p.q)) (by omega) hne
      have w2 := whenE_low hp' hc (x := min s.2 (max p.p p.q)) (by omega) hne
      split
      · exact ⟨w1, w2⟩
      · exact ⟨w2, w1⟩
theorem stepS_low {cycle : Int} {p : Pc} (hp : Okp cycle p) (hc : cycle ≤ 3600) (s : Int × Int) (hs1 : -1000000 ≤ s.1 ∧ s.1 ≤ 2000000) (hs2 : -1000000 ≤ s.2 ∧ s.2 ≤ 2000000) {out : List Str} (h : ∀ x ∈ out, LowS x) : ∀ x ∈ stepS s out p, LowS x := by
  unfold stepS
  split
  · rename_i hok
    have hl := inF_low hp hc s hs1 hs2 hok
    split
    · rename_i hc2
      intro x hx
      rcases List.mem_or_eq_of_mem_set hx with hx | rfl
      · exact h x hx
      · refine ⟨?_, hl.t⟩
        have hlt : out.length - 1 < out.length := by omega
        have : out.getD (out.length - 1) ((0, 0), (0, 0)) = out[out.length - 1] := by simp [List.getD, hlt]
        rw [this]
        exact (h _ (List.getElem_mem hlt)).f
    · intro x hx
      rcases List.mem_append.1 hx with hx | hx
      · exact h x hx
      · simp at hx; subst hx; exact hl
  · exact h
theorem stretchesF_low {cycle home : Int} {l : List (Int × Int)} (h : Okm cycle home l) (s : Int × Int) (hs1 : -1000000 ≤ s.1 ∧ s.1 ≤ 2000000) (hs2 : -1000000 ≤ s.2 ∧ s.2 ≤ 2000000) : ∀ n, n ≤ max l.length 1 → (∀ x ∈ stretchesF cycle home l s n, LowS x) ∧ (stretchesF cycle home l s n).length ≤ n
  | 0, _ => ⟨fun x hx => by simp [stretchesF] at hx, by simp [stretchesF]⟩
  | n + 1, hn => by
    have ih := stretchesF_low h s hs1 hs2 n (by omega)
    rw [stretchesF_succ]
    refine ⟨stepS_low (h.pc (by omega)) h.c2 s hs1 hs2 ih.1, ?_⟩
    unfold stepS
    split
    · split
      · simp; have := ih.2; omega
      · simp; have := ih.2; omega
    · have := ih.2; omega
end Go.Proofs.YtgeficpcnlgnhaaG
