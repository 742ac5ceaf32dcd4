/- The errors of a motion; the rest of the specification's quotients. No condition. -/
import Derived.Test.YtgeficpcnlgnhaaC4
set_option linter.unusedVariables false
set_option linter.unusedSimpArgs false
set_option maxRecDepth 100000
namespace Go.Proofs.YtgeficpcnlgnhaaG
open Go Go.AM Go.Proofs

/-- A quotient that may be compared. -/
structure RI (r : Int × Int) : Prop where
  n : I64 r.1
  d : 1 ≤ r.2
  i : I64 r.2
def ltF (a b : Int × Int) : Bool := decide (a.1 * b.2 < b.1 * a.2)
theorem less_ok (a b : Int × Int) (ha : RI a) (hb : RI b) : PureFn Try.prog 16 [ratD a, ratD b] (boolD (ltF a b)) := by
  refine pureFn_by Try.func16 k16 rfl rfl ?_
  conv => whnf
  refine ⟨_, order_ok _ a b (Nat.le_refl _) ha.d hb.d ha.n ha.i hb.n hb.i, ?_⟩
  rw [show ltF a b = decide (cmpF (a.1 * b.2) (b.1 * a.2) < 0) by
    unfold ltF cmpF
    by_cases h : a.1 * b.2 < b.1 * a.2
    · simp [h]
    · by_cases h2 : b.1 * a.2 < a.1 * b.2 <;> simp [h, h2]]
  rfl
def laterF (a b : Int × Int) : Int × Int := if ltF a b = true then b else a
def soonerF (a b : Int × Int) : Int × Int := if ltF a b = true then a else b
theorem later_ok (a b : Int × Int) (ha : RI a) (hb : RI b) : PureFn Try.prog 63 [ratD a, ratD b] (ratD (laterF a b)) := by
  unfold laterF
  refine pureFn_by Try.func63 k63 rfl rfl ?_
  conv => whnf
  refine ⟨_, less_ok a b ha hb, ?_⟩
  conv => whnf
  cases h : ltF a b
  · rfl
  · rfl
theorem sooner_ok (a b : Int × Int) (ha : RI a) (hb : RI b) : PureFn Try.prog 64 [ratD a, ratD b] (ratD (soonerF a b)) := by
  unfold soonerF
  refine pureFn_by Try.func64 k64 rfl rfl ?_
  conv => whnf
  refine ⟨_, less_ok a b ha hb, ?_⟩
  conv => whnf
  cases h : ltF a b
  · rfl
  · rfl
theorem moved_ok (r : Int × Int) (n : Int) : PureFn Try.prog 68 [ratD r, int n] (ratD (plusF r n)) := pureFn_by Try.func68 k68 rfl rfl rfl
theorem rLess_ok (a b : Int × Int) (h1 : -9223372036854775807 ≤ wr (wr (a.1 * b.2) - wr (b.1 * a.2)) ∧ wr (wr (a.1 * b.2) - wr (b.1 * a.2)) ≤ 9223372036854775807) (h2 : 1 ≤ wr (a.2 * b.2)) (h3 : I64 (wr (a.2 * b.2))) :
    PureFn Try.prog 67 [ratD a, ratD b] (ratD (red (wr (wr (a.1 * b.2) - wr (b.1 * a.2)), wr (a.2 * b.2)))) := by
  refine pureFn_by Try.func67 k67 rfl rfl ?_
  conv => whnf
  exact ⟨_, made_ok _ _ h1 h2 h3, rfl⟩
def rLowestF (r : Int × Int) : Bool := decide (1 ≤ r.2) && (decide (r.2 ≤ 1000000) && (decide (-1000000000000000 ≤ r.1) && (decide (r.1 ≤ 1000000000000000) && decide (dv (max r.1 (wr (0 - r.1))) r.2 = 1))))
theorem rLowest_ok (r : Int × Int) : PureFn Try.prog 31 [ratD r] (boolD (rLowestF r)) := by
  unfold rLowestF
  refine pureFn_by Try.func31 k31 rfl rfl ?_
  conv => whnf
  cases h1 : decide (1 ≤ r.2)
  · rfl
  conv => whnf
  cases h2 : decide (r.2 ≤ 1000000)
  · rfl
  conv => whnf
  cases h3 : decide (-1000000000000000 ≤ r.1)
  · rfl
  conv => whnf
  cases h4 : decide (r.1 ≤ 1000000000000000)
  · rfl
  conv => whnf
  exact ⟨_, rDivisor_ok _ _, rfl⟩

/-- A knot: its time, and its place. -/
@[reducible] def knD (k : Int × Int) : List D := [int k.1, int k.2]
@[reducible] def knotsD (l : List (Int × Int)) : D := .list (l.map knD)
def badAt (cycle : Int) (l : List (Int × Int)) (i : Nat) : Bool :=
  !isPlaceF (l.getD i (0, 0)).2 || (decide ((i : Int) = 0) && !decide ((l.getD i (0, 0)).1 = 0) || (decide (0 < (i : Int)) && decide ((l.getD i (0, 0)).1 ≤ (l.getD (i - 1) (0, 0)).1) || decide (cycle ≤ (l.getD i (0, 0)).1)))
/-- The error of a motion. -/
def mErr (cycle home : Int) (l : List (Int × Int)) : Int :=
  if (withinF cycle 1 3600 && isPlaceF home) = true then (if 16 < l.length then 3 else if (List.range l.length).any (badAt cycle l) = true then 1 else 0) else 1

theorem kn_get {l : List (Int × Int)} {i : Nat} (h : i < l.length) : (l.map knD)[i]? = some (knD (l.getD i (0, 0))) := by
  simp [h, List.getD]
theorem next_i {i : Nat} {n : Nat} (h : i < n) (hn : n ≤ 100) : IntKind.wrap .i64 ((i : Int) + 1) = ((i + 1 : Nat) : Int) := by
  have := wr_in (n := (i : Int) + 1) (by unfold I64; omega)
  rw [show IntKind.wrap .i64 ((i : Int) + 1) = _ from this]; omega

theorem motionError_ok (cycle home : Int) (l : List (Int × Int)) : PureFn Try.prog 24 [int cycle, int home, knotsD l] (int (mErr cycle home l)) := by
  refine pureFn_by Try.func24 k24 rfl rfl ?_
  conv => whnf
  refine ⟨_, within_ok _ _ _, ?_⟩
  conv => whnf
  cases h1 : withinF cycle 1 3600
  · rw [show mErr cycle home l = 1 by simp [mErr, h1]]; rfl
  conv => whnf
  refine ⟨_, isPlace_ok _, ?_⟩
  conv => whnf
  cases h2 : isPlaceF home
  · rw [show mErr cycle home l = 1 by simp [mErr, h1, h2]]; rfl
  conv => whnf
  rw [List.length_map]
  cases h3 : decide ((16 : Int) < (l.length : Int))
  · have h3' : ¬ 16 < l.length := by have := of_decide_eq_false h3; omega
    conv => whnf
    refine loopB (fun (x : Int) => ⟨mkT [(0, .d (int cycle)), (2, .d (knotsD l)), (20, .d (knotsD l)), (21, .d (int (l.map knD).length)), (22, .d (int x))], mkB []⟩)
      (fun x => ∃ i : Nat, x = i ∧ i ≤ l.length ∧ ∀ j, j < i → badAt cycle l j = false) (fun x => (l.length - x).toNat) 0 rfl ⟨0, rfl, by omega, fun j h => by omega⟩ ?_
    rintro x ⟨i, rfl, hil, hb⟩
    conv => whnf
    rw [List.length_map]
    cases c1 : decide ((i : Int) < (l.length : Int))
    · have c1' := of_decide_eq_false c1
      have hi : i = l.length := by omega
      have : mErr cycle home l = 0 := by
        unfold mErr
        rw [h1, h2, if_pos (show (true && true) = true from rfl), if_neg h3', if_neg]
        rw [List.any_eq_true]
        rintro ⟨j, hj, hbj⟩
        rw [hb j (by have := List.mem_range.1 hj; omega)] at hbj
        cases hbj
      rw [this]; rfl
    · have c1' := of_decide_eq_true c1
      have hi : i < l.length := by omega
      conv => whnf
      refine ⟨by omega, _, (by rw [Int.toNat_natCast]; exact kn_get hi), ?_⟩
      have bad : badAt cycle l i = true → mErr cycle home l = 1 := fun hbi => by
        unfold mErr
        rw [h1, h2, if_pos (show (true && true) = true from rfl), if_neg h3', if_pos]
        exact List.any_eq_true.2 ⟨i, List.mem_range.2 hi, hbi⟩
      conv => whnf
      refine ⟨_, isPlace_ok _, ?_⟩
      conv => whnf
      cases p1 : isPlaceF (l.getD i (0, 0)).2
      · rw [bad (by unfold badAt; rw [p1]; rfl)]; rfl
      conv => whnf
      have hw := next_i (i := i) (n := l.length) hi (by omega)
      have next : badAt cycle l i = false → ∃ j : Nat, IntKind.wrap .i64 ((i : Int) + 1) = j ∧ j ≤ l.length ∧ ∀ k, k < j → badAt cycle l k = false := fun hbi =>
        ⟨i + 1, hw, hi, fun k hk => by
          by_cases e : k = i
          · rw [e]; exact hbi
          · exact hb k (by omega)⟩
      have dec : (l.length - IntKind.wrap .i64 ((i : Int) + 1) : Int).toNat < (l.length - (i : Int)).toNat := by rw [hw]; omega
      cases p2 : decide ((i : Int) = 0)
      · conv => whnf
        have p2' := of_decide_eq_false p2
        rw [show decide (0 < (i : Int)) = true by simp; omega]
        conv => whnf
        have hpre : IntKind.wrap .i64 ((i : Int) - 1) = ((i - 1 : Nat) : Int) := by
          have := wr_in (n := (i : Int) - 1) (by unfold I64; omega)
          rw [show IntKind.wrap .i64 ((i : Int) - 1) = _ from this]; omega
        rw [hpre]
        refine ⟨by omega, _, (by rw [Int.toNat_natCast]; exact kn_get (show i - 1 < l.length by omega)), ?_⟩
        conv => whnf
        cases p3 : decide ((l.getD i (0, 0)).1 ≤ (l.getD (i - 1) (0, 0)).1)
        · conv => whnf
          cases p4 : decide (cycle ≤ (l.getD i (0, 0)).1)
          · conv => whnf
            refine ⟨_, rfl, next (by unfold badAt; rw [p1, p2, p3, p4, show decide (0 < (i : Int)) = true by simp; omega]; rfl), dec⟩
          · rw [bad (by unfold badAt; rw [p1, p2, p3, p4, show decide (0 < (i : Int)) = true by simp; omega]; rfl)]; rfl
        · rw [bad (by unfold badAt; rw [p1, p2, p3, show decide (0 < (i : Int)) = true by simp; omega]; rfl)]; rfl
      · conv => whnf
        have p2' := of_decide_eq_true p2
        cases p3 : decide ((l.getD i (0, 0)).1 = 0)
        · rw [bad (by unfold badAt; rw [p1, p2, p3]; rfl)]; rfl
        · conv => whnf
          rw [show decide (0 < (i : Int)) = false by simp; omega]
          conv => whnf
          cases p4 : decide (cycle ≤ (l.getD i (0, 0)).1)
          · conv => whnf
            refine ⟨_, rfl, next (by unfold badAt; rw [p1, p2, p3, p4, show decide (0 < (i : Int)) = false by simp; omega]; rfl), dec⟩
          · rw [bad (by unfold badAt; rw [p1, p2, p3, p4, show decide (0 < (i : Int)) = false by simp; omega]; rfl)]; rfl
  · have h3' : 16 < l.length := by have := of_decide_eq_true h3; omega
    rw [show mErr cycle home l = 3 by simp [mErr, h1, h2, h3']]; rfl
end Go.Proofs.YtgeficpcnlgnhaaG
