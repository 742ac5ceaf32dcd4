/- Where: both packages answer alike. No condition. -/
import Derived.Test.YtgeficpcnlgnhaaC8
set_option linter.unusedVariables false
set_option linter.unusedSimpArgs false
set_option maxRecDepth 100000
namespace Go.Proofs.YtgeficpcnlgnhaaG
open Go Go.AM Go.Proofs

theorem rPiece_ok (cycle home : Int) (l : List (Int × Int)) (i : Nat) (hl : l.length ≤ 16) (hi : i < max l.length 1) :
    PureFn Try.prog 48 [int cycle, int home, knotsD l, int i] (.tup [.agg [int (pcN cycle home l i).a, int (pcN cycle home l i).p], .agg [int (pcN cycle home l i).b, int (pcN cycle home l i).q]]) := by
  unfold pcN
  refine pureFn_by Try.func48 k48 rfl rfl ?_
  conv => whnf
  rw [List.length_map]
  cases c0 : decide ((l.length : Int) = 0)
  · have c0' : l.length ≠ 0 := by have := of_decide_eq_false c0; omega
    have hi : i < l.length := by omega
    rw [if_neg c0']
    unfold pcAt
    have get : (l.map knD)[(i : Int).toNat]? = some (knD (l.getD i (0, 0))) := by rw [Int.toNat_natCast]; exact kn_get hi
    have hlast : IntKind.wrap .i64 ((l.length : Int) - 1) = (l.length : Int) - 1 := wr_in (n := (l.length : Int) - 1) ⟨by omega, by omega⟩
    conv => whnf
    rw [List.length_map, hlast]
    cases c1 : decide ((i : Int) = (l.length : Int) - 1)
    · have c1' := of_decide_eq_false c1
      rw [if_pos (by omega)]
      conv => whnf
      refine ⟨by omega, _, get, ?_⟩
      conv => whnf
      have hw := next_i (i := i) (n := l.length) hi (by omega)
      rw [hw]
      refine ⟨by omega, _, (by rw [Int.toNat_natCast]; exact kn_get (show i + 1 < l.length by omega)), ?_⟩
      rfl
    · have c1' := of_decide_eq_true c1
      rw [if_neg (by omega)]
      conv => whnf
      refine ⟨by omega, _, get, ?_⟩
      conv => whnf
      refine ⟨by omega, _, kn_get (show 0 < l.length by omega), ?_⟩
      rfl
  · have c0' : l.length = 0 := by have := of_decide_eq_true c0; omega
    rw [if_pos c0']
    rfl

theorem posE_low {cycle num den : Int} {p : Pc} (hp : Okp cycle p) (ht : Okt cycle den num) : -9000000000000000000 ≤ (posE num den p).1 := by
  obtain ⟨a0, ab, bc, p0, p1, q0, q1⟩ := hp
  obtain ⟨c2, d1, d2, n0, n1⟩ := ht
  have s := mul_bd (x := p.b - p.a) (y := den) (A := 3600) (B := 1000000) ⟨by omega, by omega⟩ ⟨by omega, by omega⟩
  have ad := mul_bd (x := p.a) (y := den) (A := 3600) (B := 1000000) ⟨by omega, by omega⟩ ⟨by omega, by omega⟩
  have m1 := mul_bd (x := p.p) (y := (p.b - p.a) * den) (A := 1000000) (B := 3600000000) ⟨by omega, by omega⟩ ⟨by omega, by omega⟩
  have m2 := mul_bd (x := p.q - p.p) (y := num - p.a * den) (A := 1000000) (B := 7200000000) ⟨by omega, by omega⟩ ⟨by omega, by omega⟩
  unfold posE
  simp only; omega

theorem rWhere_ok {cycle home : Int} {l : List (Int × Int)} (h : Okm cycle home l) (r : Int × Int) (d1 : 1 ≤ r.2) (d2 : r.2 ≤ 1000000) (n1 : I64 r.1) :
    PureFn Try.prog 32 [int cycle, int home, knotsD l, ratD r] (ratD (red (whereE cycle home l r))) := by
  obtain ⟨t, s1, w, ot⟩ := timeF_E (r := r) h.c1 h.c2 d1 d2
  obtain ⟨i0, hi0, hp0, hb0⟩ := h.some (r := r) d1 d2
  have hn : IntKind.wrap .i64 (r.1 - IntKind.wrap .i64 (IntKind.wrap .i64 (r.1 / IntKind.wrap .i64 (cycle * r.2) * cycle) * r.2)) = r.1 % (cycle * r.2) := by
    show wr (r.1 - wr (wr (r.1 / wr (cycle * r.2) * cycle) * r.2)) = _
    rw [w, wr_sub]
    have e := Int.mul_ediv_add_emod r.1 (cycle * r.2)
    have : wr (r.1 - wr (r.1 / (cycle * r.2) * cycle) * r.2) = wr (r.1 - r.1 / (cycle * r.2) * cycle * r.2) := by
      have hm : ∀ x y : Int, wr (r.1 - wr x * y) = wr (r.1 - x * y) := fun x y => by
        simp only [wr_def]
        have : (x + 9223372036854775808) % 18446744073709551616 = x + 9223372036854775808 - 18446744073709551616 * ((x + 9223372036854775808) / 18446744073709551616) := by omega
        rw [this]
        generalize (x + 9223372036854775808) / 18446744073709551616 = k
        have e2 : (x + 9223372036854775808 - 18446744073709551616 * k - 9223372036854775808) * y = x * y - 18446744073709551616 * (k * y) := by
          rw [show x + 9223372036854775808 - 18446744073709551616 * k - 9223372036854775808 = x - 18446744073709551616 * k by omega, Int.sub_mul, Int.mul_assoc]
        rw [e2]; omega
      exact hm _ _
    rw [this, Int.mul_assoc, Int.mul_comm (r.1 / (cycle * r.2))]
    rw [show r.1 - cycle * r.2 * (r.1 / (cycle * r.2)) = r.1 % (cycle * r.2) by omega]
    exact wr_in ⟨by have := ot.n0; omega, by have := ot.n1; omega⟩
  refine pureFn_by Try.func32 k32 rfl rfl ?_
  conv => whnf
  refine ⟨_, floor_ok r.1 _ (by show 1 ≤ wr (cycle * r.2); rw [w]; exact s1) n1, ?_⟩
  conv => whnf
  refine loopB (fun (x : Int) => ⟨mkT [(0, .d (int cycle)), (1, .d (int home)), (2, .d (knotsD l)), (7, .ptr 0 0), (8, .ptr 1 0), (9, .d (int (r.1 % (cycle * r.2)))), (10, .d (int x))],
      mkB [(0, .var [.d (int r.1), .d (int r.2)]), (1, .var [.d (int 0), .d (int 0)])]⟩)
    (fun x => ∃ i : Nat, x = i ∧ i ≤ i0) (fun x => (i0 + 1 - x).toNat) 0 (by rw [← hn]; rfl) ⟨0, rfl, by omega⟩ ?_
  rintro x ⟨i, rfl, hil⟩
  have hin : i < max l.length 1 := by omega
  have op := h.pc hin
  have hbw : IntKind.wrap .i64 ((pcN cycle home l i).b * r.2) = (pcN cycle home l i).b * r.2 := by
    have := mul_bd (x := (pcN cycle home l i).b) (y := r.2) (A := 3600) (B := 1000000) ⟨by have := op.a0; have := op.ab; omega, by have := op.bc; have := h.c2; omega⟩ ⟨by omega, by omega⟩
    exact wr_in (n := (pcN cycle home l i).b * r.2) ⟨by omega, by omega⟩
  conv => whnf
  refine ⟨_, rPiece_ok cycle home l i h.len hin, ?_⟩
  conv => whnf
  rw [hbw]
  cases c1 : decide (r.1 % (cycle * r.2) ≤ (pcN cycle home l i).b * r.2)
  · have hne : i ≠ i0 := fun e => by rw [e, hp0] at c1; cases c1
    have hw := next_i (i := i) (n := 17) (by have := h.len; omega) (by omega)
    conv => whnf
    exact ⟨_, rfl, ⟨i + 1, hw, by omega⟩, by show (i0 + 1 - IntKind.wrap .i64 ((i : Int) + 1) : Int).toNat < _; rw [hw]; omega⟩
  · have hee : i = i0 := by
      by_cases e : i < i0
      · rw [hb0 i e] at c1; cases c1
      · omega
    have eE : whereE cycle home l r = posE (r.1 % (cycle * r.2)) r.2 (pcN cycle home l i) := by
      unfold whereE
      rw [pcs_get, find_first _ (fun p : Pc => decide (r.1 % (cycle * r.2) ≤ p.b * r.2)) _ i hin c1 (fun j hj => hb0 j (by omega))]
    have key := posF_E op ot
    have hv : ((IntKind.wrap .i64 (IntKind.wrap .i64 (IntKind.wrap .i64 ((pcN cycle home l i).p * IntKind.wrap .i64 ((pcN cycle home l i).b - (pcN cycle home l i).a)) * r.2) +
        IntKind.wrap .i64 (IntKind.wrap .i64 ((pcN cycle home l i).q - (pcN cycle home l i).p) * IntKind.wrap .i64 (r.1 % (cycle * r.2) - IntKind.wrap .i64 ((pcN cycle home l i).a * r.2)))),
        IntKind.wrap .i64 (IntKind.wrap .i64 ((pcN cycle home l i).b - (pcN cycle home l i).a) * r.2)) : Int × Int) = posE (r.1 % (cycle * r.2)) r.2 (pcN cycle home l i) := by
      rw [← key.1]
      obtain ⟨a0, ab, bc, p0, p1, q0, q1⟩ := op
      obtain ⟨c2, d1, d2, n0, n1⟩ := ot
      unfold posF
      generalize pcN cycle home l i = p at *
      have w1 : wr (p.b - p.a) = p.b - p.a := wr_in ⟨by omega, by omega⟩
      have s := mul_bd (x := p.b - p.a) (y := r.2) (A := 3600) (B := 1000000) ⟨by omega, by omega⟩ ⟨by omega, by omega⟩
      have m := mul_bd (x := p.p) (y := p.b - p.a) (A := 1000000) (B := 3600) ⟨by omega, by omega⟩ ⟨by omega, by omega⟩
      have w2 : wr ((p.b - p.a) * r.2) = (p.b - p.a) * r.2 := wr_in ⟨by omega, by omega⟩
      have w3 : wr (p.p * (p.b - p.a)) = p.p * (p.b - p.a) := wr_in ⟨by omega, by omega⟩
      show (wr (wr (wr (p.p * wr (p.b - p.a)) * r.2) + wr (wr (p.q - p.p) * wr (r.1 % (cycle * r.2) - wr (p.a * r.2)))), wr (wr (p.b - p.a) * r.2)) = _
      rw [w1, w3, w2, Int.mul_assoc]
    have hv1 := congrArg Prod.fst hv
    have hv2 := congrArg Prod.snd hv
    simp only at hv1 hv2
    conv => whnf
    refine ⟨_, made_ok _ _ ?_ ?_ ?_, ?_⟩
    · rw [hv1]; exact ⟨by have := key.2.1.1; have := posE_low op ot; omega, key.2.1.2⟩
    · rw [hv2]; exact key.2.2.1
    · rw [hv2]; exact ⟨by have := key.2.2.1; omega, by have := key.2.2.2; omega⟩
    · rw [hv, ← eE]; rfl

/-- What Where returns. -/
def okAt (r : Int × Int) : Bool := decide (1 ≤ r.2) && (decide (r.2 ≤ 1000000) && (decide (Int.gcd r.1 r.2 = 1) && (decide (-1000000000 ≤ r.1) && decide (r.1 ≤ 1000000000))))
def WhereR (cycle home : Int) (l : List (Int × Int)) (r : Int × Int) : (Int × Int) × Int :=
  if mErr cycle home l ≠ 0 then ((0, 0), mErr cycle home l) else if okAt r = true then (red (whereE cycle home l r), 0) else ((0, 0), 1)
@[reducible] def whD (x : (Int × Int) × Int) : D := .tup [ratD x.1, int x.2]

theorem okAt_spec {r : Int × Int} (h : okAt r = true) : 1 ≤ r.2 ∧ r.2 ≤ 1000000 ∧ Int.gcd r.1 r.2 = 1 ∧ -1000000000 ≤ r.1 ∧ r.1 ≤ 1000000000 := by
  simpa [okAt, and_assoc] using h

theorem may_okAt {r : Int × Int} (hr : I64 r.1) : (mayF r && withinF r.1 (-1000000000) 1000000000) = okAt r := by
  rw [Bool.eq_iff_iff]
  simp only [mayF, withinF, okAt, Bool.and_eq_true, decide_eq_true_eq]
  constructor
  · rintro ⟨⟨⟨h1, h2⟩, h3⟩, h4, h5⟩
    rw [divisorF_gcd h1 ⟨by omega, by omega⟩] at h3
    exact ⟨h1, h2, by omega, h4, h5⟩
  · rintro ⟨h1, h2, h3, h4, h5⟩
    rw [divisorF_gcd h1 ⟨by omega, by omega⟩]
    exact ⟨⟨⟨h1, h2⟩, by omega⟩, h4, h5⟩
theorem lowest_okAt {r : Int × Int} : (rLowestF r && (decide (-1000000000 ≤ r.1) && decide (r.1 ≤ 1000000000))) = okAt r := by
  rw [Bool.eq_iff_iff]
  simp only [rLowestF, okAt, Bool.and_eq_true, decide_eq_true_eq]
  constructor
  · rintro ⟨⟨h1, h2, h3, h4, h5⟩, h6, h7⟩
    rw [dv_abs ⟨by omega, by omega⟩ h1] at h5
    exact ⟨h1, h2, by omega, h6, h7⟩
  · rintro ⟨h1, h2, h3, h4, h5⟩
    rw [dv_abs ⟨by omega, by omega⟩ h1]
    exact ⟨⟨h1, h2, by omega, by omega, by omega⟩, h4, h5⟩

theorem Where_ok (cycle home : Int) (l : List (Int × Int)) (r : Int × Int) (hr : I64 r.1) : PureFn Try.prog 9 [int cycle, int home, knotsD l, ratD r] (whD (WhereR cycle home l r)) := by
  unfold WhereR
  refine pureFn_by Try.func9 k9 rfl rfl ?_
  conv => whnf
  refine ⟨_, motionError_ok _ _ _, ?_⟩
  conv => whnf
  cases h0 : decide (mErr cycle home l = 0)
  · rw [if_pos (of_decide_eq_false h0)]; rfl
  have h0' := of_decide_eq_true h0
  rw [if_neg (by simpa using h0')]
  conv => whnf
  refine ⟨_, may_ok _, ?_⟩
  conv => whnf
  have hm := may_okAt hr
  cases h1 : mayF r
  · rw [h1, Bool.false_and] at hm; rw [← hm]; rfl
  conv => whnf
  refine ⟨_, within_ok _ _ _, ?_⟩
  conv => whnf
  rw [h1, Bool.true_and] at hm
  cases h2 : withinF r.1 (-1000000000) 1000000000
  · rw [h2] at hm; rw [← hm]; rfl
  rw [h2] at hm
  rw [← hm, if_pos rfl]
  obtain ⟨d1, d2, _, n1, n2⟩ := okAt_spec hm.symm
  have ok := okm_of h0'
  obtain ⟨t, s1, w, ot⟩ := timeF_E (r := r) ok.c1 ok.c2 d1 d2
  have key := whereF_E ok (r := r) d1 d2
  conv => whnf
  refine ⟨_, of_ok r, ?_⟩
  conv => whnf
  refine ⟨_, where_ok cycle home l r ok.len (by rw [w]; omega), ?_⟩
  rw [key.1]
  conv => whnf
  refine ⟨_, told_ok _ (by rw [divisorF_gcd key.2.2.1 ⟨by omega, by omega⟩]; have := gcd_pos (n := (whereE cycle home l r).1) key.2.2.1; omega), ?_⟩
  rw [lowestF_red key.2.1 key.2.2.1 ⟨by omega, by omega⟩]
  rfl

theorem rWhereTop_ok (cycle home : Int) (l : List (Int × Int)) (r : Int × Int) (hr : I64 r.1) : PureFn Try.prog 10 [int cycle, int home, knotsD l, ratD r] (whD (WhereR cycle home l r)) := by
  unfold WhereR
  refine pureFn_by Try.func10 k10 rfl rfl ?_
  conv => whnf
  refine ⟨_, checkMotion_ok _ _ _, ?_⟩
  conv => whnf
  cases h0 : decide (mErr cycle home l = 0)
  · rw [if_pos (of_decide_eq_false h0)]
    conv => whnf
    rw [h0]
    rfl
  have h0' := of_decide_eq_true h0
  rw [if_neg (by simpa using h0')]
  conv => whnf
  refine ⟨_, rLowest_ok _, ?_⟩
  conv => whnf
  have hm := lowest_okAt (r := r)
  cases h1 : rLowestF r
  · rw [h1, Bool.false_and] at hm; rw [← hm]; rfl
  conv => whnf
  rw [h1, Bool.true_and] at hm
  cases h2 : decide (r.1 < -1000000000)
  case true =>
    have : decide (-1000000000 ≤ r.1) = false := by have := of_decide_eq_true h2; simp; omega
    rw [this, Bool.false_and] at hm
    rw [← hm]; rfl
  have e1 : decide (-1000000000 ≤ r.1) = true := by have := of_decide_eq_false h2; simp; omega
  rw [e1, Bool.true_and] at hm
  conv => whnf
  cases h3 : decide (1000000000 < r.1)
  case true =>
    have : decide (r.1 ≤ 1000000000) = false := by have := of_decide_eq_true h3; simp; omega
    rw [this] at hm
    rw [← hm]; rfl
  have e2 : decide (r.1 ≤ 1000000000) = true := by have := of_decide_eq_false h3; simp; omega
  rw [e2] at hm
  rw [← hm, if_pos rfl]
  obtain ⟨d1, d2, _, n1, n2⟩ := okAt_spec hm.symm
  have ok := okm_of h0'
  conv => whnf
  rw [h0]
  conv => whnf
  refine ⟨_, rWhere_ok ok r d1 d2 hr, ?_⟩
  rfl
end Go.Proofs.YtgeficpcnlgnhaaG
