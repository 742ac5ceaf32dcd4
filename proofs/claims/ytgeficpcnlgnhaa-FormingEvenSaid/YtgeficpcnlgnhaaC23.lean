/- The specification's gap, walked. No condition. -/
import Derived.Test.YtgeficpcnlgnhaaC22
set_option linter.unusedVariables false
set_option linter.unusedSimpArgs false
set_option maxRecDepth 100000
set_option maxHeartbeats 4000000
namespace Go.Proofs.YtgeficpcnlgnhaaG
open Go Go.AM Go.Proofs

theorem bestOf_append (l : List (Int × Int)) (x : Int × Int) : bestOf (l ++ [x]) = bestStep (bestOf l) x := by simp [bestOf, List.foldl_append]

theorem far_calls2 {y z : Str} (ga : Gd y) (gb : Gd z) (oy : y.1.1 * y.2.2 ≤ y.2.1 * y.1.2) (oz : z.1.1 * z.2.2 ≤ z.2.1 * z.1.2) {n : Int} (hn : -15000 ≤ n ∧ n ≤ 15000) :
    ∃ u w, PureFn Try.prog 60 [strD z, int n] (strD u) ∧ PureFn Try.prog 59 [strD y, strD u] (ratD w) ∧ w = farE y z n ∧ RI w := by
  have p1 := (plusE_eq gb.f gb.fd hn).2
  have p2 := (plusE_eq gb.t gb.td hn).2
  have by1 : Bd y.1 := ⟨by have := ga.f; omega, ga.fd⟩
  have by2 : Bd y.2 := ⟨by have := ga.t; omega, ga.td⟩
  have e := far_apart ga gb hn oy oz
  exact ⟨shiftE z n, _, shifted_ok gb hn, apart_ok (y := shiftE z n) by1 by2 p1 p2, e.symm, by rw [← e]; exact (lw_far ga gb hn).ri⟩

theorem rGap_ok (cycle shift : Int) (a b : List Str) (hc : 1 ≤ cycle ∧ cycle ≤ 3600) (hs : 0 ≤ shift ∧ shift < cycle) (ha : ∀ x ∈ a, Gd x) (hb : ∀ x ∈ b, Gd x)
    (oa : ∀ x ∈ a, x.1.1 * x.2.2 ≤ x.2.1 * x.1.2) (ob : ∀ x ∈ b, x.1.1 * x.2.2 ≤ x.2.1 * x.1.2) (la : a.length ≤ 100) (lb : b.length ≤ 100) :
    PureFn Try.prog 39 [int cycle, strsD a, strsD b, int shift] (.tup [ratD (bestOf (farsA cycle shift a b)).1, boolD (bestOf (farsA cycle shift a b)).2]) := by
  have lw := lw_fars hc hs ha hb
  have lwm : ∀ l, (∀ x ∈ l, Lw x) → (bestOf l).2 = true → RI (bestOf l).1 := fun l hl h => by
    cases l with
    | nil => cases h
    | cons r l =>
      have e : bestOf (r :: l) = (minR r l, true) := by
        unfold bestOf
        rw [List.foldl_cons]
        exact bestOf_cons l r (hl r (by simp)) fun x hx => hl x (by simp [hx])
      rw [e]
      exact (minR_of l (hl r (by simp)) fun x hx => hl x (by simp [hx])).ri
  refine pureFn_by Try.func39 k39 rfl rfl ?_
  conv => whnf
  refine loopB (fun (x : Int × (Int × Int) × Bool) => ⟨mkT [(0, .d (int cycle)), (1, .d (strsD a)), (2, .d (strsD b)), (3, .d (int shift)), (8, .ptr 0 0), (10, .ptr 1 0), (11, .d (boolD x.2.2)), (12, .d (int x.1))],
      mkB [(0, .var [.d (int 0), .d (int 0)]), (1, .var [.d (int x.2.1.1), .d (int x.2.1.2)])]⟩)
    (fun x => ∃ i : Nat, x.1 = i ∧ i ≤ a.length ∧ x.2 = bestOf (farsA cycle shift (a.take i) b)) (fun x => (a.length - x.1).toNat) (0, (0, 0), false) (by kernel_rfl) ⟨0, rfl, by omega, rfl⟩ ?_
  rintro ⟨x, m, any⟩ ⟨i, hx, hil, he⟩
  simp only at hx he
  subst hx
  conv => whnf
  rw [List.length_map]
  cases c1 : decide ((i : Int) < (a.length : Int))
  · have hi : i = a.length := by have := of_decide_eq_false c1; omega
    rw [hi, List.take_length] at he
    rw [← he]
    conv => whnf
    kernel_rfl
  · have hi : i < a.length := by have := of_decide_eq_true c1; omega
    have hw := next_big (i := i) (by omega)
    have ga := ha a[i] (List.getElem_mem _)
    have oy := oa a[i] (List.getElem_mem _)
    have hga : (a.map strL)[(i : Int).toNat]? = some (strL a[i]) := by rw [Int.toNat_natCast]; simp [hi]
    have hA := flat_take (farsB cycle shift b) a hi
    have hmem : ∀ j, j ≤ b.length → ∀ x ∈ farsA cycle shift (a.take i) b ++ farsB cycle shift (b.take j) a[i], Lw x := fun j hj x hx => by
      refine lw x ?_
      rcases List.mem_append.1 hx with h | h
      · simp only [farsA, List.mem_flatMap] at h ⊢
        obtain ⟨z, hz, h⟩ := h
        exact ⟨z, List.mem_of_mem_take hz, h⟩
      · simp only [farsA, List.mem_flatMap]
        refine ⟨a[i], List.getElem_mem _, ?_⟩
        simp only [farsB, List.mem_flatMap] at h ⊢
        obtain ⟨z, hz, h⟩ := h
        exact ⟨z, List.mem_of_mem_take hz, h⟩
    have hmem2 : ∀ j (hj : j < b.length) n, n ≤ 5 → ∀ x ∈ farsA cycle shift (a.take i) b ++ farsB cycle shift (b.take j) a[i] ++ fars cycle shift a[i] b[j] n, Lw x := fun j hj n hn x hx => by
      refine hmem (j + 1) hj x ?_
      rcases List.mem_append.1 hx with h | h
      · rcases List.mem_append.1 h with h | h
        · exact List.mem_append.2 (.inl h)
        · refine List.mem_append.2 (.inr ?_)
          simp only [farsB, List.mem_flatMap] at h ⊢
          obtain ⟨z, hz, h⟩ := h
          refine ⟨z, ?_, h⟩
          rw [List.take_succ_eq_append_getElem hj]; exact List.mem_append.2 (.inl hz)
      · refine List.mem_append.2 (.inr ?_)
        simp only [farsB, List.mem_flatMap]
        refine ⟨b[j], by rw [List.take_succ_eq_append_getElem hj]; exact List.mem_append.2 (.inr (List.mem_singleton.2 rfl)), ?_⟩
        simp only [fars, turnsOf, List.mem_map, List.mem_range] at h ⊢
        obtain ⟨k, ⟨q, hq, rfl⟩, h⟩ := h
        exact ⟨_, ⟨q, by omega, rfl⟩, h⟩
    generalize a[i] = y at ga oy hga hA hmem hmem2
    conv => whnf
    refine loopB (fun (x : Int × (Int × Int) × Bool) => ⟨mkT [(0, .d (int cycle)), (1, .d (strsD a)), (2, .d (strsD b)), (3, .d (int shift)), (8, .ptr 0 0), (10, .ptr 1 0), (11, .d (boolD x.2.2)), (12, .d (int i)), (13, .d (int x.1))],
        mkB [(0, .var [.d (int 0), .d (int 0)]), (1, .var [.d (int x.2.1.1), .d (int x.2.1.2)])]⟩)
      (fun x => ∃ j : Nat, x.1 = j ∧ j ≤ b.length ∧ x.2 = bestOf (farsA cycle shift (a.take i) b ++ farsB cycle shift (b.take j) y)) (fun x => (b.length - x.1).toNat) (0, m, any) (by kernel_rfl)
      ⟨0, rfl, by omega, by simp [farsB, he]⟩ ?_
    rintro ⟨x, m, any⟩ ⟨j, hx, hjl, he⟩
    simp only at hx he
    subst hx
    conv => whnf
    rw [List.length_map]
    cases c2 : decide ((j : Int) < (b.length : Int))
    · have hj : j = b.length := by have := of_decide_eq_false c2; omega
      rw [hj, List.take_length] at he
      conv => whnf
      refine ⟨(IntKind.wrap .i64 ((i : Int) + 1), m, any), by kernel_rfl, ⟨i + 1, hw, hi, by simp only; unfold farsA at he ⊢; rw [hA]; exact he⟩, by simp only; rw [hw]; omega⟩
    · have hj : j < b.length := by have := of_decide_eq_true c2; omega
      have hwj := next_big (i := j) (by omega)
      have gb := hb b[j] (List.getElem_mem _)
      have oz := ob b[j] (List.getElem_mem _)
      have hgb : (b.map strL)[(j : Int).toNat]? = some (strL b[j]) := by rw [Int.toNat_natCast]; simp [hj]
      have hB := flat_take (fun z => fars cycle shift y z 5) b hj
      have hmem := hmem2 j hj
      generalize b[j] = z at gb oz hgb hB hmem
      conv => whnf
      refine loopB (fun (x : Int × (Int × Int) × Bool) => ⟨mkT [(0, .d (int cycle)), (1, .d (strsD a)), (2, .d (strsD b)), (3, .d (int shift)), (8, .ptr 0 0), (10, .ptr 1 0), (11, .d (boolD x.2.2)), (12, .d (int i)), (13, .d (int j)), (14, .d (int x.1))],
          mkB [(0, .var [.d (int 0), .d (int 0)]), (1, .var [.d (int x.2.1.1), .d (int x.2.1.2)])]⟩)
        (fun x => ∃ q : Nat, x.1 = (q : Int) - 2 ∧ q ≤ 5 ∧ x.2 = bestOf (farsA cycle shift (a.take i) b ++ farsB cycle shift (b.take j) y ++ fars cycle shift y z q)) (fun x => (3 - x.1).toNat) (-2, m, any) (by kernel_rfl)
        ⟨0, rfl, by omega, by simp [fars, turnsOf, he]⟩ ?_
      rintro ⟨k, m, any⟩ ⟨q, hk, hql, he⟩
      simp only at hk he
      conv => whnf
      cases c3 : decide (k ≤ 2)
      · have hm : q = 5 := by have := of_decide_eq_false c3; omega
        subst hm
        conv => whnf
        refine ⟨(IntKind.wrap .i64 ((j : Int) + 1), m, any), by kernel_rfl, ⟨j + 1, hwj, hj, ?_⟩, by simp only; rw [hwj]; omega⟩
        simp only
        rw [he, List.append_assoc]
        unfold farsB
        rw [hB]
      · have c3' := of_decide_eq_true c3
        have km := mul_bd (x := k) (y := cycle) (A := 2) (B := 3600) ⟨by omega, by omega⟩ ⟨by omega, by omega⟩
        have e1 : IntKind.wrap .i64 (k * cycle) = k * cycle := wr_in ⟨by omega, by omega⟩
        have e2 : IntKind.wrap .i64 (shift + k * cycle) = shift + k * cycle := wr_in ⟨by omega, by omega⟩
        have e3 : IntKind.wrap .i64 (k + 1) = k + 1 := wr_in ⟨by omega, by omega⟩
        obtain ⟨u, w, q1, q2, hF, riw⟩ := far_calls2 ga gb oy oz (n := shift + k * cycle) ⟨by omega, by omega⟩
        rw [← e2, ← e1] at q1
        have hS := bestOf_append (farsA cycle shift (a.take i) b ++ farsB cycle shift (b.take j) y ++ fars cycle shift y z q) w
        rw [← he, List.append_assoc, hF, hk, ← fars_succ, ← hk, ← hF] at hS
        have rim := lwm _ (hmem q hql)
        rw [← he] at rim
        simp only at rim
        unfold bestStep at hS
        simp only at hS
        conv => whnf
        refine ⟨by omega, _, hga, ?_⟩
        conv => whnf
        refine ⟨by omega, _, hgb, ?_⟩
        conv => whnf
        refine ⟨_, q1, ?_⟩
        conv => whnf
        refine ⟨_, q2, ?_⟩
        conv => whnf
        cases any
        · conv => whnf
          rw [show (!false || ltF w m) = true from rfl, if_pos rfl] at hS
          refine ⟨(IntKind.wrap .i64 (k + 1), w, true), by kernel_rfl, ⟨q + 1, by simp only; omega, by omega, hS.symm⟩, by simp only; omega⟩
        · conv => whnf
          refine ⟨_, less_ok w m riw (rim rfl), ?_⟩
          conv => whnf
          rw [show (!true || ltF w m) = ltF w m from rfl] at hS
          cases hl : ltF w m
          · rw [hl, if_neg (by simp)] at hS
            conv => whnf
            refine ⟨(IntKind.wrap .i64 (k + 1), m, true), by kernel_rfl, ⟨q + 1, by simp only; omega, by omega, hS.symm⟩, by simp only; omega⟩
          · rw [hl, if_pos rfl] at hS
            conv => whnf
            refine ⟨(IntKind.wrap .i64 (k + 1), w, true), by kernel_rfl, ⟨q + 1, by simp only; omega, by omega, hS.symm⟩, by simp only; omega⟩
end Go.Proofs.YtgeficpcnlgnhaaG
