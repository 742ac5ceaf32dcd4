/- The charges of a best recipe that a furnace of one zone needs. No condition. -/
import Derived.Test.YtalbkamkkceanaaGreatB28
set_option linter.unusedVariables false
set_option linter.unusedSimpArgs false
set_option maxRecDepth 100000
set_option maxHeartbeats 4000000
namespace Go.Proofs.YtalbkamkkceanaaGreatG
open Go Go.AM Go.Proofs

theorem highs_nonneg : ∀ {l : List (Int × Int)}, (∀ o ∈ l, 0 ≤ o.2) → 0 ≤ highSum l
  | [], _ => by simp [highSum]
  | x :: l, h => by
    have := highs_nonneg (l := l) (fun o ho => h o (by simp [ho]))
    have := h x (by simp)
    rw [highSum_cons]; omega
theorem weight_ok (b : Bat) (sb : Sb b) (h0 : batE b = 0) (gl : Gl b) : PureFn Tryz.prog 45 [batD b, rowD (bestR b).1] (.tup [.agg [int (glassF b).2, int (highSum (gramsF b (bestR b).1))], int 0]) := by
  have hgr := gl.rok
  have hhi := gl.high
  have hlow := gl.low
  have hbf := bf_of sb h0
  have hgln := gramsF_len hbf (bestR b).1
  have hno2 := hbf.no
  have go := gramsTop_ok b sb h0 _ gl.rok
  have hgb : ∀ o ∈ gramsF b (bestR b).1, 0 ≤ o.1 ∧ o.1 ≤ o.2 := fun o ho => by have := gramsL_b (ms := b.mats) (r := (bestR b).1) (out := List.replicate b.oxides.length (0, 0)) (B := 0) (fun m hm => (hbf.mat m hm).2.2.2.2.2.2.2.2.2.2.1) hgr.el (by decide) (fun o ho => by rw [List.eq_of_mem_replicate ho]; simp) o ho; omega
  have eg : (glassF b).2 = lowSum (gramsF b (bestR b).1) := rfl
  rw [eg] at hlow hhi ⊢
  obtain ⟨gs, hgs⟩ : ∃ gs, gramsF b (bestR b).1 = gs := ⟨_, rfl⟩
  rw [hgs] at hhi hgb hlow hgln go ⊢
  refine pureFn_by Tryz.func45 k45 rfl rfl ?_
  conv => whnf
  refine ⟨_, go, ?_⟩
  conv => whnf
  refine loopB (fun (y : Int × Int × Int) => ⟨mkT [(4, .ptr 1 0), (7, .d (int 0)), (8, .ptr 2 0), (17, .d (pairsD gs)), (18, .d (int (gs.map i2).length)), (19, .d (int y.1))], mkB [(1, .var [.d (int 0), .d (int 0)]), (2, .var [.d (int y.2.1), .d (int y.2.2)])]⟩)
    (fun y => ∃ j : Nat, y.1 = j ∧ j ≤ gs.length ∧ y.2.1 + lowSum (gs.drop j) = lowSum gs ∧ y.2.2 + highSum (gs.drop j) = highSum gs ∧ 0 ≤ y.2.1 ∧ 0 ≤ y.2.2) (fun y => (gs.length - y.1).toNat) (0, 0, 0) (by kernel_rfl) ⟨0, rfl, by omega, by simp, by simp, by decide, by decide⟩ ?_
  rintro ⟨_, a1, a2⟩ ⟨j, rfl, hj, hs1, hs2, ha1, ha2⟩
  simp only at hs1 hs2 ha1 ha2
  conv => whnf
  cases q5 : decide ((j : Int) < ((gs.map i2).length : Int))
  · have hj' : j = gs.length := by have := of_decide_eq_false q5; rw [List.length_map] at this; omega
    rw [hj', drop_end] at hs1 hs2
    have hs1 : a1 = lowSum gs := by rw [← hs1]; simp [lowSum]
    have hs2 : a2 = highSum gs := by rw [← hs2]; simp [highSum]
    subst hs1 hs2
    conv => whnf
    kernel_rfl
  · have hj' : j < gs.length := by have := of_decide_eq_true q5; rw [List.length_map] at this; omega
    obtain ⟨o, ho3⟩ := get_lt hj'
    have hob := hgb o (List.mem_of_getElem? ho3)
    rw [lowSum_at ho3] at hs1
    rw [highSum_at ho3] at hs2
    have hr1 : 0 ≤ lowSum (gs.drop (j + 1)) := (low_nonneg fun x hx => (hgb x (List.mem_of_mem_drop hx)).1)
    have hr2 : 0 ≤ highSum (gs.drop (j + 1)) := (highs_nonneg fun x hx => by have := hgb x (List.mem_of_mem_drop hx); omega)
    have ew1 : IntKind.wrap .i64 (a1 + o.1) = a1 + o.1 := wr_eq (by omega)
    have ew2 : IntKind.wrap .i64 (a2 + o.2) = a2 + o.2 := wr_eq (by omega)
    conv => whnf
    refine ⟨by omega, _, (by first | exact gm (by assumption) | exact gz (by assumption)), ?_⟩
    conv => whnf
    exact ⟨(IntKind.wrap .i64 ((j : Int) + 1), IntKind.wrap .i64 (a1 + o.1), IntKind.wrap .i64 (a2 + o.2)), by kernel_rfl, ⟨j + 1, nx (by omega), by omega, by simp only; rw [ew1]; omega, by simp only; rw [ew2]; omega, by simp only; rw [ew1]; omega, by simp only; rw [ew2]; omega⟩, by simp only; rw [nx (by omega)]; omega⟩
def ceilT (n d : Int) : Int := (n + d - 1) / d
theorem charges_ok (p : Int) (hp : 1 ≤ p ∧ p ≤ 600) (b : Bat) (sb : Sb b) (h0 : batE b = 0) (gl : Gl b) :
    PureFn Tryz.prog 16 [furnD p, int 0, int 1440, batD b, rowD (bestR b).1] (.tup [.agg [int (ceilT (1440000 * p) (highSum (gramsF b (bestR b).1))), int (ceilT (1440000 * p) (glassF b).2)], int 0]) := by
  have wo := weight_ok b sb h0 gl
  have hhi := gl.high
  have hlow := gl.low
  have e : IntKind.wrap .i64 (IntKind.wrap .i64 (1000 * p) * 1440) = 1440000 * p := by rw [wr_eq (n := 1000 * p) (by omega), wr_eq (by omega)]; omega
  have u1 := up_ok2 (1440000 * p) (highSum (gramsF b (bestR b).1)) (by omega) (by omega)
  have u2 := up_ok2 (1440000 * p) (glassF b).2 (by omega) (by omega)
  have z : decide ((glassF b).2 = 0) = false := decide_eq_false (by omega)
  unfold ceilT
  obtain ⟨hi, hhi2⟩ : ∃ hi, highSum (gramsF b (bestR b).1) = hi := ⟨_, rfl⟩
  obtain ⟨lo, hlo2⟩ : ∃ lo, (glassF b).2 = lo := ⟨_, rfl⟩
  rw [hhi2, hlo2] at wo
  rw [hhi2] at u1 ⊢
  rw [hlo2] at u2 z ⊢
  rw [← e] at u1 u2 ⊢
  refine pureFn_by Tryz.func16 k16 rfl rfl ?_
  conv => whnf
  refine ⟨_, lasts_ok p (by omega), ?_⟩
  conv => whnf
  refine ⟨_, wo, ?_⟩
  conv => whnf
  rw [z]
  conv => whnf
  refine ⟨_, fpull_ok p (by omega), ?_⟩
  conv => whnf
  refine ⟨_, u1, ?_⟩
  conv => whnf
  refine ⟨_, u2, ?_⟩
  conv => whnf
  kernel_rfl
end Go.Proofs.YtalbkamkkceanaaGreatG
