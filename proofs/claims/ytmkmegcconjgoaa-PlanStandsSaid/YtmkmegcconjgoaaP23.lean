/- The example of the chapter. No condition. -/
import Derived.Test.YtmkmegcconjgoaaP22
set_option linter.unusedVariables false
set_option linter.unusedSimpArgs false
set_option maxRecDepth 100000
set_option maxHeartbeats 4000000
namespace Go.Proofs.YtmkmegcconjgoaaG
open Go Go.AM Go.Proofs

def exS : Season where
  days := 2
  arts := [⟨⟨#[112, 105, 110, 116]⟩, 0, 3000⟩, ⟨⟨#[113, 117, 97, 114, 116]⟩, 0, 6000⟩]
  ovens := [(10000, 60000)]
  makers := [⟨0, [100000, 60000], 500, 0⟩]
  jobs := [[(0, 0), (144, 100)], [(144, 100), (0, 0)]]
  cols := [[(0, 0)]]
  orders := [⟨0, 100000, 1, 1⟩, ⟨1, 50000, 1, 1⟩]
theorem example_ok : PureFn Try.prog 35 [] (seasonD exS) := by
  refine pureFn_by Try.func35 k35 rfl rfl ?_
  conv => whnf
  kernel_rfl
theorem exS_sm : Sm exS := ⟨by decide, by decide, by decide, by decide, by decide, by decide, by decide, by decide, by decide⟩
theorem exS_kept : keptE exS [[0, 1]] = 0 := by kernel_rfl
theorem exS_cost : costF exS [[0, 1]] = 100 := by kernel_rfl
theorem lives_ok : PureFn Try.prog 12 [] (boolD true) := by
  have ct := Cost_ok exS exS_sm (.inl (by decide)) [[0, 1]] ⟨by decide, by decide⟩
  unfold costTop at ct
  rw [exS_kept, if_pos rfl, exS_cost] at ct
  refine pureFn_by Try.func12 k12 rfl rfl ?_
  conv => whnf
  refine ⟨_, example_ok, ?_⟩
  conv => whnf
  refine ⟨_, ct, ?_⟩
  conv => whnf
  kernel_rfl
theorem planned_ok : PureFn Try.prog 33 [] (boolD true) := by
  have ct := Cost_ok exS exS_sm (.inl (by decide)) [[0, 1]] ⟨by decide, by decide⟩
  unfold costTop at ct
  rw [exS_kept, if_pos rfl, exS_cost] at ct
  refine pureFn_by Try.func33 k33 rfl rfl ?_
  conv => whnf
  refine ⟨_, example_ok, ?_⟩
  conv => whnf
  refine ⟨_, ct, ?_⟩
  conv => whnf
  kernel_rfl
end Go.Proofs.YtmkmegcconjgoaaG
