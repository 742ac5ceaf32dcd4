/- The greatest and the least of quotients. No condition. -/
import Derived.Test.YtgeficpcnlgnhaaC18
set_option linter.unusedVariables false
set_option linter.unusedSimpArgs false
set_option maxRecDepth 100000
namespace Go.Proofs.YtgeficpcnlgnhaaG
open Go Go.AM Go.Proofs

@[reducible] def ratL (r : Int × Int) : List D := [int r.1, int r.2]
@[reducible] def ratsD (l : List (Int × Int)) : D := .list (l.map ratL)
def maxStep (m x : Int × Int) : Int × Int := if 0 < compareF x m then x else m
def minStep (m x : Int × Int) : Int × Int := if compareF x m < 0 then x else m
def maxR (r : Int × Int) (l : List (Int × Int)) : Int × Int := l.foldl maxStep r
def minR (r : Int × Int) (l : List (Int × Int)) : Int × Int := l.foldl minStep r
theorem rat_get {l : List (Int × Int)} {i : Nat} (h : i < l.length) : (l.map ratL)[i]? = some (ratL (l.getD i (0, 0))) := by
  simp [h, List.getD]

theorem next_big {i : Nat} (h : i < 1000000000) : IntKind.wrap .i64 ((i : Int) + 1) = ((i + 1 : Nat) : Int) := by
  have := wr_in (n := (i : Int) + 1) (by unfold I64; omega)
  rw [show IntKind.wrap .i64 ((i : Int) + 1) = _ from this]; omega

theorem maxFunc_ok (r : Int × Int) (l : List (Int × Int)) (hl : l.length ≤ 100000) : PureFn Try.prog 56 [ratsD (r :: l), .clo 35 [] []] (ratD (maxR r l)) := by
  refine pureFn_by Try.func56 k56 rfl rfl ?_
  conv => whnf
  rw [List.length_map]
  rw [show decide (((r :: l).length : Int) < 1) = false by simp; omega]
  conv => whnf
  refine ⟨by omega, _, rfl, ?_⟩
  conv => whnf
  refine loopB (fun (x : Int × (Int × Int)) => ⟨mkT [(0, .d (ratsD (r :: l))), (1, .d (.clo 35 [] [])), (4, .ptr 0 0), (5, .ptr 1 0), (6, .d (int x.1))],
      mkB [(0, .var [.d (int 0), .d (int 0)]), (1, .var [.d (int x.2.1), .d (int x.2.2)])]⟩)
    (fun x => ∃ i : Nat, x.1 = ((i + 1 : Nat) : Int) ∧ i ≤ l.length ∧ x.2 = maxR r (l.take i)) (fun x => (((l.length + 1 : Nat) : Int) - x.1).toNat) (1, r) rfl ⟨0, rfl, by omega, rfl⟩ ?_
  rintro ⟨x, m⟩ ⟨i, hx, hil, hm⟩
  simp only at hx hm
  subst hx
  conv => whnf
  rw [List.length_map, List.length_cons]
  cases c1 : decide (((i + 1 : Nat) : Int) < ((l.length + 1 : Nat) : Int))
  · have c1' := of_decide_eq_false c1
    have hi : i = l.length := by omega
    rw [hi, List.take_length] at hm
    rw [← hm]
    rfl
  · have c1' := of_decide_eq_true c1
    have hi : i < l.length := by omega
    have hw := next_big (i := i + 1) (by omega)
    have hg : ((r :: l).map ratL)[((i + 1 : Nat) : Int).toNat]? = some (ratL l[i]) := by
      rw [Int.toNat_natCast]; simp [hi]
    have hS : maxR r (l.take (i + 1)) = maxStep m l[i] := by
      rw [List.take_succ_eq_append_getElem hi]; unfold maxR; rw [List.foldl_append]; simp only [List.foldl_cons, List.foldl_nil]; rw [hm]; rfl
    have dec : (((l.length + 1 : Nat) : Int) - IntKind.wrap .i64 (((i + 1 : Nat) : Int) + 1)).toNat < (((l.length + 1 : Nat) : Int) - ((i + 1 : Nat) : Int)).toNat := by rw [hw]; omega
    conv => whnf
    refine ⟨by omega, _, hg, ?_⟩
    conv => whnf
    refine ⟨_, compare_ok l[i] m, ?_⟩
    conv => whnf
    cases c2 : decide (0 < compareF l[i] m)
    · conv => whnf
      refine ⟨(IntKind.wrap .i64 (((i + 1 : Nat) : Int) + 1), m), rfl, ⟨i + 1, hw, hi, ?_⟩, dec⟩
      rw [hS]; unfold maxStep; rw [if_neg (of_decide_eq_false c2)]
    · conv => whnf
      refine ⟨by omega, _, hg, ?_⟩
      conv => whnf
      refine ⟨(IntKind.wrap .i64 (((i + 1 : Nat) : Int) + 1), l[i]), rfl, ⟨i + 1, hw, hi, ?_⟩, dec⟩
      rw [hS]; unfold maxStep; rw [if_pos (of_decide_eq_true c2)]
theorem minFunc_ok (r : Int × Int) (l : List (Int × Int)) (hl : l.length ≤ 100000) : PureFn Try.prog 58 [ratsD (r :: l), .clo 35 [] []] (ratD (minR r l)) := by
  refine pureFn_by Try.func58 k58 rfl rfl ?_
  conv => whnf
  rw [List.length_map]
  rw [show decide (((r :: l).length : Int) < 1) = false by simp; omega]
  conv => whnf
  refine ⟨by omega, _, rfl, ?_⟩
  conv => whnf
  refine loopB (fun (x : Int × (Int × Int)) => ⟨mkT [(0, .d (ratsD (r :: l))), (1, .d (.clo 35 [] [])), (4, .ptr 0 0), (5, .ptr 1 0), (6, .d (int x.1))],
      mkB [(0, .var [.d (int 0), .d (int 0)]), (1, .var [.d (int x.2.1), .d (int x.2.2)])]⟩)
    (fun x => ∃ i : Nat, x.1 = ((i + 1 : Nat) : Int) ∧ i ≤ l.length ∧ x.2 = minR r (l.take i)) (fun x => (((l.length + 1 : Nat) : Int) - x.1).toNat) (1, r) rfl ⟨0, rfl, by omega, rfl⟩ ?_
  rintro ⟨x, m⟩ ⟨i, hx, hil, hm⟩
  simp only at hx hm
  subst hx
  conv => whnf
  rw [List.length_map, List.length_cons]
  cases c1 : decide (((i + 1 : Nat) : Int) < ((l.length + 1 : Nat) : Int))
  · have c1' := of_decide_eq_false c1
    have hi : i = l.length := by omega
    rw [hi, List.take_length] at hm
    rw [← hm]
    rfl
  · have c1' := of_decide_eq_true c1
    have hi : i < l.length := by omega
    have hw := next_big (i := i + 1) (by omega)
    have hg : ((r :: l).map ratL)[((i + 1 : Nat) : Int).toNat]? = some (ratL l[i]) := by
      rw [Int.toNat_natCast]; simp [hi]
    have hS : minR r (l.take (i + 1)) = minStep m l[i] := by
      rw [List.take_succ_eq_append_getElem hi]; unfold minR; rw [List.foldl_append]; simp only [List.foldl_cons, List.foldl_nil]; rw [hm]; rfl
    have dec : (((l.length + 1 : Nat) : Int) - IntKind.wrap .i64 (((i + 1 : Nat) : Int) + 1)).toNat < (((l.length + 1 : Nat) : Int) - ((i + 1 : Nat) : Int)).toNat := by rw [hw]; omega
    conv => whnf
    refine ⟨by omega, _, hg, ?_⟩
    conv => whnf
    refine ⟨_, compare_ok l[i] m, ?_⟩
    conv => whnf
    cases c2 : decide (compareF l[i] m < 0)
    · conv => whnf
      refine ⟨(IntKind.wrap .i64 (((i + 1 : Nat) : Int) + 1), m), rfl, ⟨i + 1, hw, hi, ?_⟩, dec⟩
      rw [hS]; unfold minStep; rw [if_neg (of_decide_eq_false c2)]
    · conv => whnf
      refine ⟨by omega, _, hg, ?_⟩
      conv => whnf
      refine ⟨(IntKind.wrap .i64 (((i + 1 : Nat) : Int) + 1), l[i]), rfl, ⟨i + 1, hw, hi, ?_⟩, dec⟩
      rw [hS]; unfold minStep; rw [if_pos (of_decide_eq_true c2)]
end Go.Proofs.YtgeficpcnlgnhaaG
