/- The charges that the glass of a day costs are those that furnace tells. No condition. -/
import Derived.Test.YtalbkamkkceanaaGreatB29
set_option linter.unusedVariables false
set_option linter.unusedSimpArgs false
set_option maxRecDepth 100000
set_option maxHeartbeats 4000000
namespace Go.Proofs.YtalbkamkkceanaaGreatG
open Go Go.AM Go.Proofs

abbrev nmJar : ByteArray := ⟨#[106, 97, 114]⟩
def exT (p : Int) : Season where
  days := 1
  arts := [⟨nmJar, 0, 10000⟩]
  ovens := [(0, 1000000)]
  makers := [⟨0, [1440 * p], 0, 0⟩]
  jobs := [[(0, 0)]]
  cols := [[(0, 0)]]
  orders := []
def tT (i : Nat) : Bool := decide (keptE (exT ((i : Int) + 1)) [[0]] = 0) && decide (pullD (exT ((i : Int) + 1)) [[0]] 0 0 = 1440 * ((i : Int) + 1)) && decide (dayC (exT ((i : Int) + 1)) [[0]] 0 0 = 0)
theorem tT_all : (List.range 600).all tT = true := by kernel_rfl
theorem exT_facts {p : Int} (hp : 1 ≤ p ∧ p ≤ 600) : keptE (exT p) [[0]] = 0 ∧ pullD (exT p) [[0]] 0 0 = 1440 * p ∧ dayC (exT p) [[0]] 0 0 = 0 := by
  have h := List.all_eq_true.1 tT_all (p - 1).toNat (by simp; omega)
  unfold tT at h
  rw [show (((p - 1).toNat : Nat) : Int) + 1 = p by omega] at h
  simp only [Bool.and_eq_true, decide_eq_true_eq] at h
  exact ⟨h.1.1, h.1.2, h.2⟩
theorem exT_sm (p : Int) : Sm (exT p) := ⟨by simp [exT], by simp [exT], by simp [exT], by simp [exT], by simp [exT], by simp [exT], by simp [exT], by simp [exT], by simp [exT]⟩
theorem exT_melt {p : Int} (hp : 1 ≤ p ∧ p ≤ 600) (b : Bat) : meltF (exT p) [[0]] [glassF b] = termG (glassF b) (1440 * p) := by
  have h := exT_facts hp
  have e : termF (exT p) [[0]] [glassF b] 0 0 = termG (glassF b) (1440 * p) := by
    unfold termF
    rw [h.2.2, if_pos (by decide)]
    show termG (glassF b) (pullD (exT p) [[0]] 0 0) = _
    rw [h.2.1]
  show (0 : Int) + (0 + termF (exT p) [[0]] [glassF b] 0 0) = _
  rw [e]; omega
@[reducible] def seasonN (p : Int) : D := .agg [int 1, .list [[strD nmJar, int 0, int 10000]], pairsD [(0, 1000000)], .list [[int 0, .list [[int p]], int 0, int 0]], .list [[.list [[int 0, int 0]]]], .list [[.list [[int 0, int 0]]]], nilD]
theorem int_self5 (n : Int) : decide (n = n) = true := decide_eq_true rfl
theorem charged_law (b : Bat) (p : Int) : PureFn Tryz.prog 5 [batD b, int p] (boolD true) := by
  have mk := melted_ok [b]
  cases m : meltedF [b]
  · rw [m] at mk
    have sb := (meltedF_false m).2 b (by simp)
    have bo := best_ok b sb
    cases q1 : decide (p < 1)
    · cases q2 : decide (600 < p)
      · have hp : 1 ≤ p ∧ p ≤ 600 := by have := of_decide_eq_false q1; have := of_decide_eq_false q2; omega
        have hf := exT_facts hp
        have ew : IntKind.wrap .i64 (1440 * p) = 1440 * p := wr_eq (by omega)
        have me := melt_ok (exT p) (exT_sm p) [[0]] ⟨by decide, by decide⟩ [b] (by simp) (by simpa using sb)
        have me2 : PureFn Tryz.prog 10 [seasonN (IntKind.wrap .i64 (1440 * p)), .list [[.list [[int 0]]]], .list [cellsB b]] (meltTop (exT p) [[0]] [b]) := by
          rw [ew]
          refine pureFn_args2 (args := [seasonD (exT p), planD [[0]], batsD [b]]) rfl (fun j hj hj' ok w v hv => ?_) me
          match j, hj with
          | 0, _ =>
            cases hv with
            | agg cs vs h1 hc =>
              refine .agg _ vs h1 (fun j hj => ?_)
              match j, hj with
              | 0, hj => exact hc 0 hj
              | 1, hj => exact hc 1 hj
              | 2, hj => exact hc 2 hj
              | 3, hj => exact hc 3 hj
              | 4, hj => exact hc 4 hj
              | 5, hj => exact hc 5 hj
              | 6, hj => exact rel_nil2 (hc 6 hj)
          | 1, _ => exact hv
          | 2, _ => exact hv
        have hk := hf.1
        have hlen : [b].length = (exT p).cols.length := rfl
        by_cases h1 : bestE b = 0
        · have hz := best_zero h1
          cases h2 : (bestR b).2.2
          · have ge : glassesE [b] = 7 := by
              have : glassE b = 7 := by unfold glassE; rw [if_neg (by omega), h2]; simp
              simp only [glassesE]; rw [this, if_pos (by decide)]
            rw [mt3 hk hlen (by omega), ge] at me2
            rw [top_none h1 h2] at bo
            refine pureFn_by Tryz.func5 k5 rfl rfl ?_
            conv => whnf
            refine ⟨_, mk, ?_⟩
            conv => whnf
            rw [q1]
            conv => whnf
            rw [q2]
            conv => whnf
            refine ⟨_, bo, ?_⟩
            conv => whnf
            refine ⟨_, me2, ?_⟩
            conv => whnf
            refine ⟨_, planned_ok, ?_⟩
            conv => whnf
            kernel_rfl
          · have gl := gl_of (bf_of sb hz.1) h2
            have hlow := gl.low
            have hhi := gl.high
            have hcost := gl.cost
            have ge : glassesE [b] = 0 := by
              have : glassE b = 0 := by unfold glassE; rw [if_neg (by omega), h2]; simp
              simp only [glassesE]; rw [this, if_neg (by simp)]
            rw [mt4 hk hlen ge, show [b].map glassF = [glassF b] from rfl, exT_melt hp b] at me2
            rw [top_some h1 h2] at bo
            have co := charges_ok p hp b sb hz.1 gl
            have hfin : termG (glassF b) (1440 * p) = IntKind.wrap .i64 (ceilT (1440000 * p) (glassF b).2 * (glassF b).1) := by
              have e : termG (glassF b) (1440 * p) = ceilT (1440000 * p) (glassF b).2 * (glassF b).1 := by
                unfold termG ceilT
                rw [Int.mul_comm, show 1000 * (1440 * p) = 1440000 * p by omega]
              have hb2 := termG_bound (g := glassF b) ⟨hcost.1, hcost.2, hlow, by omega⟩ (q := 1440 * p) (by omega) (by omega)
              rw [← e]
              exact (wr_eq (by omega)).symm
            have hfd : decide (termG (glassF b) (1440 * p) = IntKind.wrap .i64 (ceilT (1440000 * p) (glassF b).2 * (glassF b).1)) = true := decide_eq_true hfin
            refine pureFn_by Tryz.func5 k5 rfl rfl ?_
            conv => whnf
            refine ⟨_, mk, ?_⟩
            conv => whnf
            rw [q1]
            conv => whnf
            rw [q2]
            conv => whnf
            refine ⟨_, bo, ?_⟩
            conv => whnf
            refine ⟨_, me2, ?_⟩
            conv => whnf
            refine ⟨_, co, ?_⟩
            conv => whnf
            rw [hfd]
            conv => whnf
            refine ⟨_, planned_ok, ?_⟩
            conv => whnf
            kernel_rfl
        · have ge : glassesE [b] = bestE b := by
            have : glassE b = bestE b := by unfold glassE; rw [if_pos h1]
            simp only [glassesE]; rw [this, if_pos h1]
          rw [mt3 hk hlen (by omega), ge] at me2
          rw [top_err h1] at bo
          obtain ⟨E, hE⟩ : ∃ E, bestE b = E := ⟨_, rfl⟩
          rw [hE] at me2 bo h1
          have h0 : decide (E = 0) = false := decide_eq_false h1
          refine pureFn_by Tryz.func5 k5 rfl rfl ?_
          conv => whnf
          refine ⟨_, mk, ?_⟩
          conv => whnf
          rw [q1]
          conv => whnf
          rw [q2]
          conv => whnf
          refine ⟨_, bo, ?_⟩
          conv => whnf
          refine ⟨_, me2, ?_⟩
          conv => whnf
          rw [h0]
          conv => whnf
          rw [h0]
          conv => whnf
          rw [int_self5]
          conv => whnf
          refine ⟨_, planned_ok, ?_⟩
          conv => whnf
          kernel_rfl
      · refine pureFn_by Tryz.func5 k5 rfl rfl ?_
        conv => whnf
        refine ⟨_, mk, ?_⟩
        conv => whnf
        rw [q1]
        conv => whnf
        rw [q2]
        conv => whnf
        refine ⟨_, planned_ok, ?_⟩
        conv => whnf
        kernel_rfl
    · refine pureFn_by Tryz.func5 k5 rfl rfl ?_
      conv => whnf
      refine ⟨_, mk, ?_⟩
      conv => whnf
      rw [q1]
      conv => whnf
      refine ⟨_, planned_ok, ?_⟩
      conv => whnf
      kernel_rfl
  · rw [m] at mk
    refine pureFn_by Tryz.func5 k5 rfl rfl ?_
    conv => whnf
    refine ⟨_, mk, ?_⟩
    conv => whnf
    refine ⟨_, planned_ok, ?_⟩
    conv => whnf
    kernel_rfl
end Go.Proofs.YtalbkamkkceanaaGreatG
