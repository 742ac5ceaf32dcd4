/- The examples of the chapter. No condition. -/
import Derived.Test.YtgeficpcnlgnhaaC24
set_option linter.unusedVariables false
set_option linter.unusedSimpArgs false
set_option maxRecDepth 100000
set_option maxHeartbeats 4000000
namespace Go.Proofs.YtgeficpcnlgnhaaG
open Go Go.AM Go.Proofs

def mayE (r : Int × Int) : Bool := decide (1 ≤ r.2) && (decide (r.2 ≤ 1000000) && decide (Int.gcd r.1 r.2 = 1))
theorem mayF_E (r : Int × Int) : mayF r = mayE r := by
  rw [Bool.eq_iff_iff, may_iff]; simp [mayE, and_assoc]
def gokE (cycle : Int) (x : Str) : Bool := mayE x.1 && (mayE x.2 && (!decide (x.1.1 < 0) && (!decide (0 < compareF x.2 (cycle, 1)) && !decide (0 < compareF x.1 x.2))))
theorem gokF_E (cycle : Int) (x : Str) : gokF cycle x = gokE cycle x := by unfold gokF gokE; rw [mayF_E, mayF_E]
theorem GapR_E (cycle : Int) (a b : List Str) (shift : Int) : GapR cycle a b shift =
    if (okCy cycle shift && (a.all (gokE cycle) && b.all (gokE cycle))) = true then ((gapF cycle shift a b).1, !(gapF cycle shift a b).2, 0) else ((0, 0), false, 1) := by
  unfold GapR
  rw [show gokF cycle = gokE cycle from funext (gokF_E cycle)]

def handL : List (Int × Int) := [(0, 0), (20, 100), (60, 100), (80, 0)]
theorem hand_ok : PureFn Try.prog 22 [] (knotsD handL) := pureFn_by Try.func22 k22 rfl rfl rfl
theorem lWhole_ok (n : Int) : PureFn Try.prog 17 [int n] (ratD (n, 1)) := pureFn_by Try.func17 k17 rfl rfl rfl
theorem one_ok : PureFn Try.prog 23 [strsD [((10, 1), (70, 1))], int 0, int 10, int 70] (boolD true) := by
  refine pureFn_by Try.func23 k23 rfl rfl ?_
  conv => whnf
  refine ⟨by omega, _, rfl, ?_⟩
  conv => whnf
  refine ⟨_, lWhole_ok 10, ?_⟩
  conv => whnf
  refine ⟨_, lWhole_ok 70, ?_⟩
  conv => whnf
  kernel_rfl
theorem w1 : PureFn Try.prog 9 [int 100, int 0, knotsD handL, ratD (10, 1)] (whD ((50, 1), 0)) := by
  have h := Where_ok 100 0 handL (10, 1) (by simp [I64])
  rwa [show WhereR 100 0 handL (10, 1) = ((50, 1), 0) by kernel_rfl] at h
theorem w2 : PureFn Try.prog 9 [int 100, int 0, knotsD handL, ratD (130, 1)] (whD ((100, 1), 0)) := by
  have h := Where_ok 100 0 handL (130, 1) (by simp [I64])
  rwa [show WhereR 100 0 handL (130, 1) = ((100, 1), 0) by kernel_rfl] at h
theorem w3 : PureFn Try.prog 9 [int 100, int 0, knotsD handL, ratD (1, 3)] (whD ((5, 3), 0)) := by
  have h := Where_ok 100 0 handL (1, 3) (by simp [I64])
  rwa [show WhereR 100 0 handL (1, 3) = ((5, 3), 0) by kernel_rfl] at h
theorem s1 : PureFn Try.prog 11 [int 100, int 0, knotsD handL, ratD (50, 100)] (stD ([((10, 1), (70, 1))], 0)) := by
  have h := Stretches_ok 100 0 handL (50, 100)
  rwa [show StretchesR 100 0 handL (50, 100) = ([((10, 1), (70, 1))], 0) by kernel_rfl] at h
theorem s2 : PureFn Try.prog 11 [int 100, int 0, knotsD handL, ratD (0, 0)] (stD ([((0, 1), (0, 1)), ((80, 1), (100, 1))], 0)) := by
  have h := Stretches_ok 100 0 handL (0, 0)
  rwa [show StretchesR 100 0 handL (0, 0) = ([((0, 1), (0, 1)), ((80, 1), (100, 1))], 0) by kernel_rfl] at h
theorem g1 : PureFn Try.prog 14 [int 100, strsD [((10, 1), (70, 1))], strsD [((80, 1), (100, 1))], int 0] (gpD ((10, 1), false, 0)) := by
  have h := Gap_ok 100 [((10, 1), (70, 1))] [((80, 1), (100, 1))] 0 (by simp [I64]) (by simp [I64]) (by simp) (by simp)
  rwa [GapR_E, show (if (okCy 100 0 && ([(((10, 1), (70, 1)) : Str)].all (gokE 100) && [(((80, 1), (100, 1)) : Str)].all (gokE 100))) = true then ((gapF 100 0 [((10, 1), (70, 1))] [((80, 1), (100, 1))]).1, !(gapF 100 0 [((10, 1), (70, 1))] [((80, 1), (100, 1))]).2, 0) else ((0, 0), false, 1)) = (((10, 1), false, 0) : (Int × Int) × Bool × Int) by kernel_rfl] at h
theorem g2 : PureFn Try.prog 14 [int 100, strsD [((10, 1), (70, 1))], strsD [((80, 1), (100, 1))], int 15] (gpD ((0, 1), false, 0)) := by
  have h := Gap_ok 100 [((10, 1), (70, 1))] [((80, 1), (100, 1))] 15 (by simp [I64]) (by simp [I64]) (by simp) (by simp)
  rwa [GapR_E, show (if (okCy 100 15 && ([(((10, 1), (70, 1)) : Str)].all (gokE 100) && [(((80, 1), (100, 1)) : Str)].all (gokE 100))) = true then ((gapF 100 15 [((10, 1), (70, 1))] [((80, 1), (100, 1))]).1, !(gapF 100 15 [((10, 1), (70, 1))] [((80, 1), (100, 1))]).2, 0) else ((0, 0), false, 1)) = (((0, 1), false, 0) : (Int × Int) × Bool × Int) by kernel_rfl] at h

/-- The examples answer true. -/
theorem turns_ok : PureFn Try.prog 8 [] (boolD true) := by
  refine pureFn_by Try.func8 k8 rfl rfl ?_
  conv => whnf
  refine ⟨_, hand_ok, ?_⟩
  conv => whnf
  refine ⟨_, lWhole_ok 10, ?_⟩
  conv => whnf
  refine ⟨_, w1, ?_⟩
  conv => whnf
  refine ⟨_, hand_ok, ?_⟩
  conv => whnf
  refine ⟨_, lWhole_ok 130, ?_⟩
  conv => whnf
  refine ⟨_, w2, ?_⟩
  conv => whnf
  refine ⟨_, hand_ok, ?_⟩
  conv => whnf
  refine ⟨_, w3, ?_⟩
  conv => whnf
  refine ⟨_, hand_ok, ?_⟩
  conv => whnf
  refine ⟨_, s1, ?_⟩
  conv => whnf
  refine ⟨_, hand_ok, ?_⟩
  conv => whnf
  refine ⟨_, s2, ?_⟩
  conv => whnf
  refine ⟨_, one_ok, ?_⟩
  conv => whnf
  refine ⟨_, lWhole_ok 80, ?_⟩
  conv => whnf
  refine ⟨_, lWhole_ok 100, ?_⟩
  conv => whnf
  refine ⟨_, g1, ?_⟩
  conv => whnf
  refine ⟨_, g2, ?_⟩
  conv => whnf
  refine ⟨_, lWhole_ok 50, ?_⟩
  conv => whnf
  refine ⟨_, lWhole_ok 100, ?_⟩
  conv => whnf
  refine ⟨by omega, _, rfl, ?_⟩
  conv => whnf
  refine ⟨_, lWhole_ok 0, ?_⟩
  conv => whnf
  refine ⟨_, lWhole_ok 0, ?_⟩
  conv => whnf
  refine ⟨by omega, _, rfl, ?_⟩
  conv => whnf
  refine ⟨by omega, _, rfl, ?_⟩
  conv => whnf
  refine ⟨_, lWhole_ok 10, ?_⟩
  conv => whnf
  refine ⟨_, lWhole_ok 0, ?_⟩
  conv => whnf
  kernel_rfl
end Go.Proofs.YtgeficpcnlgnhaaG
