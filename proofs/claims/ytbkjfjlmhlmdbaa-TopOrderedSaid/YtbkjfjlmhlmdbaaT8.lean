/- What is recovered, loads, and the lightest weight as it is told. No condition. -/
import Derived.Test.YtbkjfjlmhlmdbaaT7
set_option linter.unusedVariables false
set_option linter.unusedSimpArgs false
set_option maxRecDepth 100000
set_option maxHeartbeats 4000000
namespace Go.Proofs.YtbkjfjlmhlmdbaaG
open Go Go.AM Go.Proofs

theorem VB_of {b : Bottle} (h : chkE b = 0) : VB b := by
  unfold chkE at h
  by_cases c1 : (b.rings.length : Int) ≤ 24
  · rw [if_neg (by omega)] at h
    by_cases c2 : 0 < (b.rings.length : Int)
    · rw [if_neg (by omega)] at h
      by_cases c3 : b.rings.any (fun r => !goodR r) = true
      · rw [if_pos c3] at h; cases h
      · rw [if_neg c3] at h
        by_cases c4 : sumS (·.sl) b.rings ≤ 1000 ∧ 1000 ≤ sumS (·.sh) b.rings
        · rw [if_neg (by simpa using c4)] at h
          by_cases c5 : withinF b.flaw 1 1000 = true ∧ withinF b.tough 0 1000000000000000 = true
          · have c3 : b.rings.any (fun r => !goodR r) = false := by simpa using c3
            rw [List.any_eq_false] at c3
            have w1 := c5.1
            have w2 := c5.2
            simp only [withinF, Bool.and_eq_true, decide_eq_true_eq] at w1 w2
            exact ⟨fun e => by rw [e] at c2; simp at c2, by omega, fun r hr => goodR_VR (by simpa using c3 r hr), by omega, by omega, by omega, by omega⟩
          · rw [if_pos c5] at h; cases h
        · rw [if_pos c4] at h; cases h
    · rw [if_pos c2] at h; cases h
  · rw [if_pos c1] at h; cases h

def goodL (l : Load) : Bool := ((withinF l.press 0 10000 && withinF l.force 0 20000) && withinF l.speed 0 2000) && withinF l.other 0 10000000
theorem goodL_VL {l : Load} (h : goodL l = true) : VL l := by
  simp only [goodL, withinF, Bool.and_eq_true, decide_eq_true_eq] at h
  obtain ⟨⟨⟨⟨a1, a2⟩, b1, b2⟩, c1, c2⟩, d1, d2⟩ := h
  exact ⟨a1, a2, b1, b2, c1, c2, d1, d2⟩
theorem lcheck_ok (l : Load) (g : goodL l = true) : PureFn Try.prog 22 [loadD l] (.tup []) := by
  have sp : ∀ {n lo hi : Int}, withinF n lo hi = true → PureFn Try.prog 37 [int n, int lo, int hi] (boolD true) := fun {n lo hi} h => by rw [← h]; exact swithin_ok _ _ _
  simp only [goodL, Bool.and_eq_true] at g
  obtain ⟨⟨⟨g1, g2⟩, g3⟩, g4⟩ := g
  refine pureFn_by Try.func22 k22 rfl rfl ?_
  conv => whnf
  refine .inl ?_
  conv => whnf
  refine ⟨_, sp g1, ?_⟩
  conv => whnf
  refine ⟨_, sp g2, ?_⟩
  conv => whnf
  refine ⟨_, sp g3, ?_⟩
  conv => whnf
  refine ⟨_, sp g4, ?_⟩
  conv => whnf
  refine ⟨_, demand_ok 1, ?_⟩
  conv => whnf
  exact rfl
theorem lcheck_pan (l : Load) (g : goodL l = false) : PanFn Try.prog 22 [loadD l] (failV 1) := by
  refine panFn_by Try.func22 k22 rfl rfl ?_
  conv => whnf
  refine .inr ?_
  conv => whnf
  unfold goodL at g
  refine ⟨_, swithin_ok _ _ _, ?_⟩
  conv => whnf
  cases g1 : withinF l.press 0 10000
  · conv => whnf
    refine ⟨_, demand_pan' _ rfl _, ?_⟩
    exact rfl
  rw [g1] at g
  conv => whnf
  refine ⟨_, swithin_ok _ _ _, ?_⟩
  conv => whnf
  cases g2 : withinF l.force 0 20000
  · conv => whnf
    refine ⟨_, demand_pan' _ rfl _, ?_⟩
    exact rfl
  rw [g2] at g
  conv => whnf
  refine ⟨_, swithin_ok _ _ _, ?_⟩
  conv => whnf
  cases g3 : withinF l.speed 0 2000
  · conv => whnf
    refine ⟨_, demand_pan' _ rfl _, ?_⟩
    exact rfl
  rw [g3] at g
  have g4 : withinF l.other 0 10000000 = false := by simpa using g
  conv => whnf
  refine ⟨_, swithin_ok _ _ _, ?_⟩
  conv => whnf
  refine ⟨_, demand_pan' _ g4 _, ?_⟩
  exact rfl

theorem caught_nil (n : Int) : ImpFn Try.prog noH [2] 20 [.d (.v .nilIface), .ptr 2 0] (mkB [(2, .var [.d (int n)])]) (fun _ b' => b' = mkB [(2, .var [.d (int n)])]) := by
  refine impFn_by noH_le Try.func20 k20 rfl rfl ?_
  conv => whnf
  exact ⟨_, rfl, rfl⟩
theorem caught_fail (n e : Int) : ImpFn Try.prog noH [2] 20 [.d (.v (failV e)), .ptr 2 0] (mkB [(2, .var [.d (int n)])]) (fun _ b' => b' = mkB [(2, .var [.d (int e)])]) := by
  refine impFn_by noH_le Try.func20 k20 rfl rfl ?_
  conv => whnf
  refine ⟨2, by simp, ?_⟩
  conv => whnf
  exact ⟨_, rfl, rfl⟩

theorem caught3_nil (n : Int) (v : ABlk) : ImpFn Try.prog noH [3] 20 [.d (.v .nilIface), .ptr 3 0] (mkB [(3, .var [.d (int n)])]) (fun _ b' => b' = mkB [(3, .var [.d (int n)])]) := by
  refine impFn_by noH_le Try.func20 k20 rfl rfl ?_
  conv => whnf
  exact ⟨_, rfl, rfl⟩

/-- What the lightest weight is told as, with its error. -/
def ligE (b : Bottle) (l : Load) : Int := if chkE b = 0 then (if goodL l = true then 0 else 1) else chkE b
def ligW (b : Bottle) (l : Load) : Int := if chkE b = 0 then (if goodL l = true then lightF b l else 0) else 0
theorem Lightest_ok (b : Bottle) (l : Load) : PureFn Try.prog 10 [bottleD b, loadD l] (.tup [int (ligW b l), int (ligE b l)]) := by
  refine defFn_by Try.func10 k10 k19 rfl rfl ?_
  conv => whnf
  refine ⟨2, rfl, ?_⟩
  by_cases c1 : chkE b = 0
  · have hb := VB_of c1
    unfold ligE ligW
    rw [if_pos c1, if_pos c1]
    conv => whnf
    refine .inl ?_
    conv => whnf
    refine ⟨_, bcheck_ok b c1, ?_⟩
    cases c2 : goodL l
    · rw [if_neg (by simp), if_neg (by simp)]
      conv => whnf
      refine .inr ?_
      conv => whnf
      refine ⟨_, lcheck_pan l c2, ?_⟩
      conv => whnf
      refine ⟨failV 1, rfl, [4, 5], [2], _, rfl, caught_fail 0 1, ?_⟩
      rintro y _ rfl
      kernel_rfl
    · rw [if_pos rfl, if_pos rfl]
      conv => whnf
      refine .inl ?_
      conv => whnf
      refine ⟨_, lcheck_ok l c2, ?_⟩
      conv => whnf
      refine ⟨_, lightest_ok b hb l (goodL_VL c2), ?_⟩
      conv => whnf
      refine ⟨.nilIface, rfl, [4, 5], [2], _, rfl, caught_nil 0, ?_⟩
      rintro y _ rfl
      kernel_rfl
  · unfold ligE ligW
    rw [if_neg c1, if_neg c1]
    conv => whnf
    refine .inr ?_
    conv => whnf
    refine ⟨_, bcheck_pan b _ rfl c1, ?_⟩
    conv => whnf
    refine ⟨failV (chkE b), rfl, [4, 5], [2], _, rfl, caught_fail 0 (chkE b), ?_⟩
    rintro y _ rfl
    kernel_rfl
end Go.Proofs.YtbkjfjlmhlmdbaaG
