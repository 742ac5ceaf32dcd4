/- FormingMotions and FormingGap answer true. No condition. -/
import Derived.Test.YtgeficpcnlgnhaaC25
set_option linter.unusedVariables false
set_option linter.unusedSimpArgs false
set_option maxRecDepth 100000
set_option maxHeartbeats 4000000
namespace Go.Proofs.YtgeficpcnlgnhaaG
open Go Go.AM Go.Proofs

theorem dself (n : Int) : decide (n = n) = true := decide_eq_true rfl
theorem same_ok (l : List Str) (hl : l.length ≤ 1000) : PureFn Try.prog 13 [strsD l, strsD l] (boolD true) := by
  refine pureFn_by Try.func13 k13 rfl rfl ?_
  conv => whnf
  rw [dself]
  conv => whnf
  refine loopB (fun (x : Int) => ⟨mkT [(0, .d (strsD l)), (1, .d (strsD l)), (5, .d (int x))], mkB []⟩) (fun x => ∃ i : Nat, x = i ∧ i ≤ l.length) (fun x => (l.length - x).toNat) 0 (by kernel_rfl) ⟨0, rfl, by omega⟩ ?_
  rintro x ⟨i, rfl, hil⟩
  conv => whnf
  rw [List.length_map]
  cases c1 : decide ((i : Int) < (l.length : Int))
  · conv => whnf
    kernel_rfl
  · have hi : i < l.length := by have := of_decide_eq_true c1; omega
    have hw := next_big (i := i) (by omega)
    have hg : (l.map strL)[(i : Int).toNat]? = some (strL l[i]) := by rw [Int.toNat_natCast]; simp [hi]
    generalize l[i] = y at hg
    conv => whnf
    refine ⟨by omega, _, hg, ?_⟩
    conv => whnf
    refine ⟨by omega, _, hg, ?_⟩
    conv => whnf
    rw [dself, dself, dself, dself]
    conv => whnf
    refine ⟨IntKind.wrap .i64 ((i : Int) + 1), by kernel_rfl, ⟨i + 1, hw, hi⟩, by rw [hw]; omega⟩

theorem StretchesR_len (cycle home : Int) (l : List (Int × Int)) (s : Int × Int) : (StretchesR cycle home l s).1.length ≤ 1000 := by
  unfold StretchesR
  split
  · simp
  rename_i h0
  split
  · rename_i h1
    split
    · simp
    · have ok := okm_of (by simpa using h0)
      have b : (-1000000 ≤ s.1 ∧ s.1 ≤ 2000000) ∧ (-1000000 ≤ s.2 ∧ s.2 ≤ 2000000) := by
        simp only [okSpan, withinF, Bool.and_eq_true, decide_eq_true_eq] at h1; omega
      have := (stretchesF_low ok s b.1 b.2 (max l.length 1) (Nat.le_refl _)).2
      have := ok.len
      simp only; omega
  · simp

theorem motions_law (cycle home : Int) (l : List (Int × Int)) (r s : Int × Int) (hc : I64 cycle) (hh : I64 home) (hr1 : I64 r.1) (hr2 : I64 r.2) (hs1 : I64 s.1) (hs2 : I64 s.2) :
    PureFn Try.prog 3 [int cycle, int home, knotsD l, ratD r, ratD s] (boolD true) := by
  have w := Where_ok cycle home l r hr1
  have v := rWhereTop_ok cycle home l r hr1
  have x := Stretches_ok cycle home l s
  have y := rStretchesTop_ok cycle home l s
  have z := same_ok _ (StretchesR_len cycle home l s)
  generalize WhereR cycle home l r = W at w v
  generalize StretchesR cycle home l s = S at x y z
  obtain ⟨p, e⟩ := W
  obtain ⟨q, f⟩ := S
  refine pureFn_by Try.func3 k3 rfl rfl ?_
  conv => whnf
  cases c1 : decide (100 < ((l.map knD).length : Int))
  case true =>
    conv => whnf
    exact ⟨_, turns_ok, rfl⟩
  conv => whnf
  refine ⟨_, w, ?_⟩
  conv => whnf
  refine ⟨_, v, ?_⟩
  conv => whnf
  rw [dself, dself]
  conv => whnf
  rw [dself]
  conv => whnf
  refine ⟨_, x, ?_⟩
  conv => whnf
  refine ⟨_, y, ?_⟩
  conv => whnf
  rw [dself]
  conv => whnf
  refine ⟨_, z, ?_⟩
  conv => whnf
  refine ⟨_, turns_ok, ?_⟩
  conv => whnf
  kernel_rfl

theorem gap_law (cycle : Int) (a b : List Str) (shift : Int) (ia : ∀ x ∈ a, I64 x.1.1 ∧ I64 x.2.1) (ib : ∀ x ∈ b, I64 x.1.1 ∧ I64 x.2.1) :
    PureFn Try.prog 4 [int cycle, strsD a, strsD b, int shift] (boolD true) := by
  refine pureFn_by Try.func4 k4 rfl rfl ?_
  conv => whnf
  rw [List.length_map]
  cases c1 : decide (20 < (a.length : Int))
  case true =>
    conv => whnf
    exact ⟨_, turns_ok, rfl⟩
  conv => whnf
  rw [List.length_map]
  cases c2 : decide (20 < (b.length : Int))
  case true =>
    conv => whnf
    exact ⟨_, turns_ok, rfl⟩
  have la := of_decide_eq_false c1
  have lb := of_decide_eq_false c2
  have x := Gap_ok cycle a b shift ia ib (by omega) (by omega)
  have y := rGapTop_ok cycle a b shift ia ib (by omega) (by omega)
  generalize GapR cycle a b shift = G at x y
  obtain ⟨r, f, e⟩ := G
  conv => whnf
  refine ⟨_, x, ?_⟩
  conv => whnf
  refine ⟨_, y, ?_⟩
  conv => whnf
  rw [dself, dself]
  conv => whnf
  rw [show (f == f) = true by simp]
  conv => whnf
  rw [dself]
  conv => whnf
  refine ⟨_, turns_ok, ?_⟩
  conv => whnf
  kernel_rfl

theorem motions_law' (cycle home : Int) (l : List (Int × Int)) (r s : Int × Int) (hc : I64 cycle) (hh : I64 home) (hl : ∀ k ∈ l, I64 k.1 ∧ I64 k.2) (hr1 : I64 r.1) (hr2 : I64 r.2) (hs1 : I64 s.1) (hs2 : I64 s.2) :
    PureFn Try.prog 3 [int cycle, int home, knotsD l, ratD r, ratD s] (boolD true) := motions_law cycle home l r s hc hh hr1 hr2 hs1 hs2
theorem gap_law' (cycle : Int) (a b : List Str) (shift : Int) (hc : I64 cycle) (ia : ∀ s ∈ a, (I64 s.1.1 ∧ I64 s.1.2) ∧ (I64 s.2.1 ∧ I64 s.2.2)) (ib : ∀ s ∈ b, (I64 s.1.1 ∧ I64 s.1.2) ∧ (I64 s.2.1 ∧ I64 s.2.2)) (hs : I64 shift) :
    PureFn Try.prog 4 [int cycle, strsD a, strsD b, int shift] (boolD true) :=
  gap_law cycle a b shift (fun x hx => ⟨(ia x hx).1.1, (ia x hx).2.1⟩) (fun x hx => ⟨(ib x hx).1.1, (ib x hx).2.1⟩)
end Go.Proofs.YtgeficpcnlgnhaaG
