/- The specification's stretches of a motion. No condition. -/
import Derived.Test.YtgeficpcnlgnhaaC16
set_option linter.unusedVariables false
set_option linter.unusedSimpArgs false
set_option maxRecDepth 100000
namespace Go.Proofs.YtgeficpcnlgnhaaG
open Go Go.AM Go.Proofs

theorem compare_low {r s : Int × Int} (hr : Low r) (hs : Low s) : cmpF (r.1 * s.2) (s.1 * r.2) = compareF r s := (compareF_eq hr.ri hs.ri).symm

theorem rStretches_ok {cycle home : Int} {l : List (Int × Int)} (h : Okm cycle home l) (s : Int × Int) (hs1 : -1000000 ≤ s.1 ∧ s.1 ≤ 2000000) (hs2 : -1000000 ≤ s.2 ∧ s.2 ≤ 2000000) (hs : ¬ s.2 < s.1) :
    PureFn Try.prog 34 [int cycle, int home, knotsD l, ratD s] (strsD (stretchesF cycle home l s (max l.length 1))) := by
  have hl := h.len
  have hNw : (max l.length 1 : Nat) ≤ 16 := by omega
  refine pureFn_by Try.func34 k34 rfl rfl ?_
  conv => whnf
  rw [show decide (s.2 < s.1) = false by simpa using hs]
  conv => whnf
  refine loopB (fun (x : Int × List (List D) × Nat) => ⟨mkT [(0, .d (int cycle)), (1, .d (int home)), (2, .d (knotsD l)), (7, .ptr 0 0), (9, .row 4 0 x.2.2 x.2.2), (10, .d (int x.1))],
      mkB [(0, .var [.d (int s.1), .d (int s.2)]), (4, .row 4 x.2.1)]⟩)
    (fun x => ∃ i : Nat, x.1 = i ∧ i ≤ max l.length 1 ∧ x.2.1 = (stretchesF cycle home l s i).map strL ∧ x.2.2 = x.2.1.length ∧ x.2.1.length ≤ i) (fun x => (((max l.length 1 : Nat) : Int) - x.1).toNat) (0, [], 0) rfl ⟨0, rfl, by omega, rfl, rfl, Nat.le_refl _⟩ ?_
  rintro ⟨x, els, n⟩ ⟨i, hx, hil, he, hn, hle⟩
  simp only at hx he hn hle
  subst hx
  conv => whnf
  rw [List.length_map]
  have hM : max (l.length : Int) 1 = ((max l.length 1 : Nat) : Int) := by omega
  rw [hM]
  generalize hN : max l.length 1 = N at *
  cases c1 : decide ((i : Int) < (N : Int))
  · have c1' := of_decide_eq_false c1
    have hi : i = N := by omega
    conv => whnf
    refine (resA_row (s := 4) (n := n) (esz := 4) (els := els) rfl rfl hn).trans ?_
    rw [he, hi]
  · have c1' := of_decide_eq_true c1
    have hi : i < N := by omega
    have hw := next_i (i := i) (n := N) hi (by omega)
    have dec : ((N : Int) - IntKind.wrap .i64 ((i : Int) + 1) : Int).toNat < ((N : Int) - (i : Int)).toNat := by rw [hw]; omega
    have op := h.pc (i := i) (by omega)
    have hS := stretchesF_succ cycle home l s i
    have low := (stretchesF_low h s hs1 hs2 i (by omega)).1
    have hlen : (stretchesF cycle home l s i).length = els.length := by rw [he]; simp
    have al := rIn_inF op s
    have il := inF_low op h.c2 s hs1 hs2
    have rin := rIn_ok op h.c2 s hs1 hs2
    conv => whnf
    refine ⟨_, rPiece_ok cycle home l i h.len (by omega), ?_⟩
    conv => whnf
    refine ⟨_, rin, ?_⟩
    unfold stepS at hS
    generalize rIn (pcN cycle home l i) s = r' at al ⊢
    generalize inF (pcN cycle home l i) s = r at hS al il
    obtain ⟨x', ok'⟩ := r'
    obtain ⟨x, ok⟩ := r
    obtain ⟨al1, al2⟩ := al
    simp only at al1 al2 il
    subst al1
    cases ok'
    · rw [if_neg (by simp)] at hS
      conv => whnf
      refine ⟨(IntKind.wrap .i64 ((i : Int) + 1), els, n), rfl, ⟨i + 1, hw, hi, by rw [hS]; exact he, hn, by simp only; omega⟩, dec⟩
    · have al2 := al2 rfl
      subst al2
      have il := il rfl
      rw [if_pos rfl] at hS
      conv => whnf
      refine ⟨hn, ?_⟩
      conv => whnf
      by_cases h0 : els.length = 0
      · rw [show decide ((0 : Int) < (n : Int)) = false by simp; omega]
        conv => whnf
        refine ⟨rfl, ?_⟩
        conv => whnf
        refine ⟨rfl, hn, by simp [most]; omega, ?_⟩
        conv => whnf
        refine ⟨(IntKind.wrap .i64 ((i : Int) + 1), els ++ [strL x'], els.length + 1), rfl, ⟨i + 1, hw, hi, ?_, by simp, by simp; omega⟩, dec⟩
        show els ++ [strL x'] = _
        rw [hS, if_neg (by rw [hlen]; omega), List.map_append, ← he]; rfl
      · rw [show decide ((0 : Int) < (n : Int)) = true by simp; omega]
        conv => whnf
        have hk : IntKind.wrap .i64 ((n : Int) - 1) = ((n - 1 : Nat) : Int) := by
          have := wr_in (n := (n : Int) - 1) ⟨by omega, by omega⟩
          rw [show IntKind.wrap .i64 ((n : Int) - 1) = _ from this]; omega
        obtain ⟨o, ho⟩ : ∃ o, (stretchesF cycle home l s i).getD ((stretchesF cycle home l s i).length - 1) ((0, 0), (0, 0)) = o := ⟨_, rfl⟩
        have hlt : els.length - 1 < (stretchesF cycle home l s i).length := by omega
        have hoL : LowS o := by
          rw [← ho, hlen]
          have : (stretchesF cycle home l s i).getD (els.length - 1) ((0, 0), (0, 0)) = (stretchesF cycle home l s i)[els.length - 1] := by simp [List.getD, hlt]
          rw [this]; exact low _ (List.getElem_mem hlt)
        have hget : els[0 + ((n - 1 : Nat) : Int).toNat]? = some (strL o) := by
          rw [Nat.zero_add, Int.toNat_natCast, he, ← ho, hn, hlen]
          simp [hlt, List.getD]
        rw [ho] at hS
        rw [hk]
        refine ⟨by omega, by simp only; omega, ?_⟩
        conv => whnf
        refine ⟨hn, ?_⟩
        conv => whnf
        refine ⟨hn, ?_⟩
        conv => whnf
        refine ⟨hn, _, hget, ?_⟩
        conv => whnf
        refine ⟨_, order_ok _ o.2 x'.1 (Nat.le_refl _) hoL.t.ri.d il.f.ri.d hoL.t.ri.n hoL.t.ri.i il.f.ri.n il.f.ri.i, ?_⟩
        rw [compare_low hoL.t il.f]
        conv => whnf
        cases d2 : decide (compareF o.2 x'.1 = 0)
        · have d2' := of_decide_eq_false d2
          conv => whnf
          refine ⟨rfl, ?_⟩
          conv => whnf
          refine ⟨rfl, hn, by simp [most]; omega, ?_⟩
          conv => whnf
          refine ⟨(IntKind.wrap .i64 ((i : Int) + 1), els ++ [strL x'], els.length + 1), rfl, ⟨i + 1, hw, hi, ?_, by simp, by simp; omega⟩, dec⟩
          show els ++ [strL x'] = _
          rw [hS, if_neg (fun e => d2' e.2), List.map_append, ← he]; rfl
        · have d2' := of_decide_eq_true d2
          conv => whnf
          rw [hk]
          refine ⟨by omega, by simp only; omega, ?_⟩
          conv => whnf
          refine ⟨hn, ?_⟩
          conv => whnf
          refine ⟨hn, ?_⟩
          conv => whnf
          refine ⟨hn, _, hget, ?_⟩
          conv => whnf
          refine ⟨(IntKind.wrap .i64 ((i : Int) + 1), els.set (0 + ((n - 1 : Nat) : Int).toNat) (strL (o.1, x'.2)), n), rfl, ⟨i + 1, hw, hi, ?_, by simp only [List.length_set]; exact hn, by simp only [List.length_set]; omega⟩, dec⟩
          show els.set (0 + ((n - 1 : Nat) : Int).toNat) (strL (o.1, x'.2)) = _
          rw [hS, if_pos ⟨by rw [hlen]; omega, d2'⟩, List.map_set, ← he, Nat.zero_add, Int.toNat_natCast, hlen, hn]
end Go.Proofs.YtgeficpcnlgnhaaG
