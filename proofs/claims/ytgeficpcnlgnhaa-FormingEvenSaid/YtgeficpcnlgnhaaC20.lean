/- How close two lists of stretches come. No condition. -/
import Derived.Test.YtgeficpcnlgnhaaC19
set_option linter.unusedVariables false
set_option linter.unusedSimpArgs false
set_option maxRecDepth 100000
namespace Go.Proofs.YtgeficpcnlgnhaaG
open Go Go.AM Go.Proofs

/-- A quotient of no great numbers. -/
structure Bd (r : Int × Int) : Prop where
  n : -20000000000 ≤ r.1 ∧ r.1 ≤ 20000000000
  d : 1 ≤ r.2 ∧ r.2 ≤ 1000000
/-- A stretch that may be handed in. -/
structure Gd (s : Str) : Prop where
  f : 0 ≤ s.1.1 ∧ s.1.1 ≤ 3600000000
  t : 0 ≤ s.2.1 ∧ s.2.1 ≤ 3600000000
  fd : 1 ≤ s.1.2 ∧ s.1.2 ≤ 1000000
  td : 1 ≤ s.2.2 ∧ s.2.2 ≤ 1000000
def minusE (r s : Int × Int) : Int × Int := red (r.1 * s.2 - s.1 * r.2, r.2 * s.2)
def plusE (r : Int × Int) (n : Int) : Int × Int := (r.1 + n * r.2, r.2)

theorem plusE_eq {r : Int × Int} {n : Int} (h : 0 ≤ r.1 ∧ r.1 ≤ 3600000000) (hd : 1 ≤ r.2 ∧ r.2 ≤ 1000000) (hn : -15000 ≤ n ∧ n ≤ 15000) : plusF r n = plusE r n ∧ Bd (plusE r n) := by
  have m := mul_bd (x := n) (y := r.2) (A := 15000) (B := 1000000) ⟨by omega, by omega⟩ ⟨by omega, by omega⟩
  unfold plusF plusE
  rw [wr_in (n := n * r.2) ⟨by omega, by omega⟩, wr_in (n := r.1 + n * r.2) ⟨by omega, by omega⟩]
  exact ⟨rfl, ⟨by simp only; omega, by simp only; omega⟩, hd⟩
theorem minus_bd {r s : Int × Int} (hr : Bd r) (hs : Bd s) : (-40000000000000000 ≤ r.1 * s.2 - s.1 * r.2 ∧ r.1 * s.2 - s.1 * r.2 ≤ 40000000000000000) ∧ (1 ≤ r.2 * s.2 ∧ r.2 * s.2 ≤ 1000000000000) ∧
    (-20000000000000000 ≤ r.1 * s.2 ∧ r.1 * s.2 ≤ 20000000000000000) ∧ (-20000000000000000 ≤ s.1 * r.2 ∧ s.1 * r.2 ≤ 20000000000000000) := by
  obtain ⟨rn, rd⟩ := hr
  obtain ⟨sn, sd⟩ := hs
  have m1 := mul_bd (x := r.1) (y := s.2) (A := 20000000000) (B := 1000000) ⟨by omega, by omega⟩ ⟨by omega, by omega⟩
  have m2 := mul_bd (x := s.1) (y := r.2) (A := 20000000000) (B := 1000000) ⟨by omega, by omega⟩ ⟨by omega, by omega⟩
  have m3 := mul_bd (x := r.2) (y := s.2) (A := 1000000) (B := 1000000) ⟨by omega, by omega⟩ ⟨by omega, by omega⟩
  have m4 := Int.mul_pos (a := r.2) (b := s.2) (by omega) (by omega)
  omega
theorem minusE_ok {r s : Int × Int} (hr : Bd r) (hs : Bd s) : PureFn Try.prog 57 [ratD r, ratD s] (ratD (minusE r s)) := by
  obtain ⟨m0, m3, m1, m2⟩ := minus_bd hr hs
  have w1 : wr (r.1 * s.2) = r.1 * s.2 := wr_in ⟨by omega, by omega⟩
  have w2 : wr (s.1 * r.2) = s.1 * r.2 := wr_in ⟨by omega, by omega⟩
  have w3 : wr (r.2 * s.2) = r.2 * s.2 := wr_in ⟨by omega, by omega⟩
  have w4 : wr (r.1 * s.2 - s.1 * r.2) = r.1 * s.2 - s.1 * r.2 := wr_in ⟨by omega, by omega⟩
  have g := gcd_pos (n := r.1 * s.2 - s.1 * r.2) (d := r.2 * s.2) (by omega)
  have h := minus_ok r s (by rw [w1, w2, w3, w4, divisorF_gcd (by omega) ⟨by omega, by omega⟩]; omega)
  unfold minusF at h
  rw [w1, w2, w3, w4, lowestF_red ⟨by simp only; omega, by simp only; omega⟩ (by simp only; omega) ⟨by simp only; omega, by simp only; omega⟩] at h
  exact h

def farE (x y : Str) (n : Int) : Int × Int := maxR (0, 1) [minusE (plusE y.1 n) x.2, minusE x.1 (plusE y.2 n)]
def turnsOf (m : Nat) : List Int := (List.range m).map fun (k : Nat) => ((k : Int) - 2)
def fars (cycle shift : Int) (x y : Str) (m : Nat) : List (Int × Int) := (turnsOf m).map fun k => farE x y (shift + k * cycle)
def farsB (cycle shift : Int) (b : List Str) (x : Str) : List (Int × Int) := b.flatMap fun y => fars cycle shift x y 5
def farsA (cycle shift : Int) (a b : List Str) : List (Int × Int) := a.flatMap (farsB cycle shift b)

theorem fars_succ (cycle shift : Int) (x y : Str) (m : Nat) : fars cycle shift x y (m + 1) = fars cycle shift x y m ++ [farE x y (shift + ((m : Int) - 2) * cycle)] := by
  simp [fars, turnsOf, List.range_succ]
theorem flat_take {α β : Type} (f : α → List β) (l : List α) {i : Nat} (h : i < l.length) : (l.take (i + 1)).flatMap f = (l.take i).flatMap f ++ f l[i] := by
  rw [List.take_succ_eq_append_getElem h, List.flatMap_append]; simp

theorem snap_row0 {b : Nat → ABlk} {s n esz : Nat} {els : List (List D)} (h1 : b s = .row esz els) (h2 : n = els.length) : snap b 4 (.row s 0 n n) = some (.list els) := by
  subst h2; simp [snap, h1]
theorem mapM2 {b : Nat → ABlk} {x y : AC} {d e : D} (h1 : snap b 4 x = some d) (h2 : snap b 4 y = some e) : [x, y].mapM (snap b 4) = some [d, e] := by
  simp [List.mapM_cons, h1, h2]
theorem call2 {t : Nat → AC} {b : Nat → ABlk} {o1 o2 : Opnd} {d e : D} (h1 : snap b 4 (evO t o1) = some d) (h2 : snap b 4 (evO t o2) = some e) : ([o1, o2].map (evO t)).mapM (snap b 4) = some [d, e] := mapM2 h1 h2
/-- A call, its arguments named. -/
theorem opB_call {P : Program} {g : FuncId} {xs : List Opnd} {t : Nat → AC} {b : Nat → ABlk} {K : AC → (Nat → ABlk) → Prop} {ds : List D} {res : D} (h : (xs.map (evO t)).mapM (snap b 4) = some ds) (hP : PureFn P g ds res) (hf : flatD res = true) (hk : K (.d res) b) :
    opB P (.call g xs) t b K := by
  simp only [opB, h]
  refine ⟨res, hP, ?_⟩
  cases (xs.map (evO t)).all isPure
  · exact ⟨hf, hk⟩
  · exact hk

theorem far_calls {y z : Str} (ga : Gd y) (gb : Gd z) {n : Int} (hn : -15000 ≤ n ∧ n ≤ 15000) : ∃ a1 a2 u v w, PureFn Try.prog 55 [ratD z.1, int n] (ratD a1) ∧ PureFn Try.prog 55 [ratD z.2, int n] (ratD a2) ∧
    PureFn Try.prog 57 [ratD a1, ratD y.2] (ratD u) ∧ PureFn Try.prog 57 [ratD y.1, ratD a2] (ratD v) ∧ PureFn Try.prog 56 [ratsD [(0, 1), u, v], .clo 35 [] []] (ratD w) ∧ w = farE y z n := by
  have p1 := plusE_eq gb.f gb.fd hn
  have p2 := plusE_eq gb.t gb.td hn
  have q1 := plus_ok z.1 n
  have q2 := plus_ok z.2 n
  rw [p1.1] at q1
  rw [p2.1] at q2
  have by1 : Bd y.1 := ⟨by have := ga.f; omega, ga.fd⟩
  have by2 : Bd y.2 := ⟨by have := ga.t; omega, ga.td⟩
  exact ⟨_, _, _, _, _, q1, q2, minusE_ok p1.2 by2, minusE_ok by1 p2.2, maxFunc_ok (0, 1) _ (by simp), rfl⟩
/-- What gap returns. -/
def gapF (cycle shift : Int) (a b : List Str) : (Int × Int) × Bool :=
  match farsA cycle shift a b with
  | [] => ((0, 1), false)
  | r :: l => (if 0 ≤ compareF (0, 1) (minR r l) then (0, 1) else minR r l, true)

theorem gap_ok (cycle shift : Int) (a b : List Str) (hc : 1 ≤ cycle ∧ cycle ≤ 3600) (hs : 0 ≤ shift ∧ shift < cycle) (ha : ∀ x ∈ a, Gd x) (hb : ∀ x ∈ b, Gd x) (la : a.length ≤ 100) (lb : b.length ≤ 100) :
    PureFn Try.prog 37 [int cycle, strsD a, strsD b, int shift] (.tup [ratD (gapF cycle shift a b).1, boolD (gapF cycle shift a b).2]) := by
  refine pureFn_by Try.func37 k37 rfl rfl ?_
  conv => whnf
  refine loopB (fun (x : Int × List (List D) × Nat) => ⟨mkT [(0, .d (int cycle)), (2, .d (strsD b)), (3, .d (int shift)), (8, .ptr 0 0), (10, .row 7 0 x.2.2 x.2.2), (21, .d (strsD a)), (22, .d (int (a.map strL).length)), (23, .d (int x.1))],
      mkB [(0, .var [.d (int 0), .d (int 0)]), (7, .row 2 x.2.1)]⟩)
    (fun x => ∃ i : Nat, x.1 = i ∧ i ≤ a.length ∧ x.2.1 = (farsA cycle shift (a.take i) b).map ratL ∧ x.2.2 = x.2.1.length ∧ x.2.1.length ≤ 500 * i) (fun x => (a.length - x.1).toNat) (0, [], 0) rfl ⟨0, rfl, by omega, rfl, rfl, by simp⟩ ?_
  rintro ⟨x, els, n⟩ ⟨i, hx, hil, he, hn, hle⟩
  simp only at hx he hn hle
  subst hx
  conv => whnf
  rw [List.length_map]
  cases c1 : decide ((i : Int) < (a.length : Int))
  · have c1' := of_decide_eq_false c1
    have hi : i = a.length := by omega
    rw [hi, List.take_length] at he
    conv => whnf
    refine ⟨hn, ?_⟩
    conv => whnf
    cases hf : farsA cycle shift a b with
    | nil =>
      have hG : gapF cycle shift a b = ((0, 1), false) := by unfold gapF; rw [hf]
      rw [hG]
      rw [hf] at he
      have hn0 : n = 0 := by rw [hn, he]; rfl
      rw [show decide ((n : Int) = 0) = true by simp [hn0]]
      conv => whnf
      exact ⟨_, whole_ok _, rfl⟩
    | cons r l =>
      have hG : gapF cycle shift a b = (if 0 ≤ compareF (0, 1) (minR r l) then (0, 1) else minR r l, true) := by unfold gapF; rw [hf]
      rw [hG]
      rw [hf] at he
      have hn0 : n = l.length + 1 := by rw [hn, he]; simp
      rw [show decide ((n : Int) = 0) = false by simp; omega]
      conv => whnf
      refine ⟨_, whole_ok _, ?_⟩
      conv => whnf
      rw [he] at hn
      subst he
      rw [call2 (d := ratsD (r :: l)) (e := .clo 35 [] []) (snap_row0 (s := 7) (esz := 2) (els := (r :: l).map ratL) rfl hn) rfl]
      conv => whnf
      refine ⟨_, minFunc_ok r l (by simp at hle; omega), ?_⟩
      conv => whnf
      refine ⟨rfl, ?_⟩
      conv => whnf
      refine ⟨_, compare_ok (0, 1) (minR r l), ?_⟩
      conv => whnf
      cases d1 : decide (0 ≤ compareF (0, 1) (minR r l))
      · rw [if_neg (of_decide_eq_false d1)]
        rfl
      · rw [if_pos (of_decide_eq_true d1)]
        conv => whnf
        exact ⟨_, whole_ok _, rfl⟩
  · have c1' := of_decide_eq_true c1
    have hi : i < a.length := by omega
    have hw := next_big (i := i) (by omega)
    have ga := ha a[i] (List.getElem_mem _)
    have hg : (a.map strL)[(i : Int).toNat]? = some (strL a[i]) := by rw [Int.toNat_natCast]; simp [hi]
    have hA := flat_take (farsB cycle shift b) a hi
    generalize a[i] = y at ga hg hA
    conv => whnf
    refine ⟨by omega, _, hg, ?_⟩
    conv => whnf
    refine loopB (fun (x : Int × List (List D) × Nat) => ⟨mkT [(0, .d (int cycle)), (2, .d (strsD b)), (3, .d (int shift)), (8, .ptr 0 0), (10, .row 7 0 x.2.2 x.2.2), (12, .ptr 1 0), (21, .d (strsD a)), (22, .d (int a.length)), (23, .d (int i)), (27, .d (strsD b)), (28, .d (int (b.map strL).length)), (29, .d (int x.1))],
        mkB [(0, .var [.d (int 0), .d (int 0)]), (1, .var [.d (int y.1.1), .d (int y.1.2), .d (int y.2.1), .d (int y.2.2)]), (7, .row 2 x.2.1)]⟩)
      (fun x => ∃ j : Nat, x.1 = j ∧ j ≤ b.length ∧ x.2.1 = (farsA cycle shift (a.take i) b ++ farsB cycle shift (b.take j) y).map ratL ∧ x.2.2 = x.2.1.length ∧ x.2.1.length ≤ 500 * i + 5 * j) (fun x => (b.length - x.1).toNat) (0, els, n) rfl
      ⟨0, rfl, by omega, by simp [farsB, he], hn, by simp only; omega⟩ ?_
    rintro ⟨x, els, n⟩ ⟨j, hx, hjl, he, hn, hle⟩
    simp only at hx he hn hle
    subst hx
    conv => whnf
    rw [List.length_map]
    cases c2 : decide ((j : Int) < (b.length : Int))
    · have c2' := of_decide_eq_false c2
      have hj : j = b.length := by omega
      rw [hj, List.take_length] at he
      conv => whnf
      refine ⟨(IntKind.wrap .i64 ((i : Int) + 1), els, n), rfl, ⟨i + 1, hw, hi, by unfold farsA at he ⊢; rw [hA]; exact he, hn, by simp only; omega⟩, by simp only; rw [hw]; omega⟩
    · have c2' := of_decide_eq_true c2
      have hj : j < b.length := by omega
      have hwj := next_big (i := j) (by omega)
      have gb := hb b[j] (List.getElem_mem _)
      have hg : (b.map strL)[(j : Int).toNat]? = some (strL b[j]) := by rw [Int.toNat_natCast]; simp [hj]
      have hB := flat_take (fun z => fars cycle shift y z 5) b hj
      generalize b[j] = z at gb hg hB
      conv => whnf
      refine ⟨by omega, _, hg, ?_⟩
      conv => whnf
      refine loopB (fun (x : Int × List (List D) × Nat) => ⟨mkT [(0, .d (int cycle)), (2, .d (strsD b)), (3, .d (int shift)), (8, .ptr 0 0), (10, .row 7 0 x.2.2 x.2.2), (12, .ptr 1 0), (14, .ptr 2 0), (15, .d (int x.1)), (21, .d (strsD a)), (22, .d (int a.length)), (23, .d (int i)), (27, .d (strsD b)), (28, .d (int b.length)), (29, .d (int j))],
          mkB [(0, .var [.d (int 0), .d (int 0)]), (1, .var [.d (int y.1.1), .d (int y.1.2), .d (int y.2.1), .d (int y.2.2)]), (2, .var [.d (int z.1.1), .d (int z.1.2), .d (int z.2.1), .d (int z.2.2)]), (7, .row 2 x.2.1)]⟩)
        (fun x => ∃ m : Nat, x.1 = (m : Int) - 2 ∧ m ≤ 5 ∧ x.2.1 = (farsA cycle shift (a.take i) b ++ farsB cycle shift (b.take j) y ++ fars cycle shift y z m).map ratL ∧ x.2.2 = x.2.1.length ∧ x.2.1.length ≤ 500 * i + 5 * j + m) (fun x => (3 - x.1).toNat) (-2, els, n) rfl
        ⟨0, rfl, by omega, by simp [fars, turnsOf, he], hn, by simp only; omega⟩ ?_
      rintro ⟨k, els, n⟩ ⟨m, hk, hml, he, hn, hle⟩
      simp only at hk he hn hle
      conv => whnf
      cases c3 : decide (k ≤ 2)
      · have c3' := of_decide_eq_false c3
        have hm : m = 5 := by omega
        subst hm
        conv => whnf
        refine ⟨(IntKind.wrap .i64 ((j : Int) + 1), els, n), rfl, ⟨j + 1, hwj, hj, ?_, hn, by simp only; omega⟩, by simp only; rw [hwj]; omega⟩
        simp only
        rw [he, List.append_assoc]
        unfold farsB
        rw [hB]
      · have c3' := of_decide_eq_true c3
        have km := mul_bd (x := k) (y := cycle) (A := 2) (B := 3600) ⟨by omega, by omega⟩ ⟨by omega, by omega⟩
        have e1 : IntKind.wrap .i64 (k * cycle) = k * cycle := wr_in ⟨by omega, by omega⟩
        have e2 : IntKind.wrap .i64 (shift + k * cycle) = shift + k * cycle := wr_in ⟨by omega, by omega⟩
        have e3 : IntKind.wrap .i64 (k + 1) = k + 1 := wr_in ⟨by omega, by omega⟩
        obtain ⟨a1, a2, u, v, w, q1, q2, m1, m2, m3, hF⟩ := far_calls ga gb (n := shift + k * cycle) ⟨by omega, by omega⟩
        rw [← e2, ← e1] at q1 q2
        conv => whnf
        refine ⟨_, q1, ?_⟩
        conv => whnf
        refine ⟨_, q2, ?_⟩
        conv => whnf
        refine ⟨_, whole_ok _, ?_⟩
        conv => whnf
        refine ⟨_, m1, ?_⟩
        conv => whnf
        refine ⟨_, m2, ?_⟩
        conv => whnf
        refine ⟨_, m3, ?_⟩
        conv => whnf
        refine ⟨rfl, ?_⟩
        conv => whnf
        refine ⟨rfl, hn, by simp only [List.length_cons, List.length_nil, most]; omega, ?_⟩
        conv => whnf
        refine ⟨(IntKind.wrap .i64 (k + 1), els ++ [ratL w], els.length + 1), by kernel_rfl, ⟨m + 1, by simp only; omega, by omega, ?_, by simp, by simp; omega⟩, by simp only; omega⟩
        simp only
        rw [fars_succ, he, ← hk, ← List.append_assoc, ← hF]
        simp
end Go.Proofs.YtgeficpcnlgnhaaG
