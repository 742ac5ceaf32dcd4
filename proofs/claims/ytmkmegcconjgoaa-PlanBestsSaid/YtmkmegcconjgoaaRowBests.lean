/- The row of PlanBests: it returns true whatever it is called with. No condition. -/
import Derived.Test.YtmkmegcconjgoaaRows
import Derived.Test.YtmkmegcconjgoaaQ17
import Derived.Test.YtmkmegcconjgoaaRowLib
set_option linter.unusedVariables false
set_option linter.unusedSimpArgs false
set_option maxRecDepth 100000
set_option maxHeartbeats 4000000
namespace Go.Proofs.YtmkmegcconjgoaaG
open Go Go.AM Go.Proofs Go.ChangeShapes Go.WideShapes Go.ChangeAt Go.RowKit Go.Proofs.Ytmkmegcconjgoaa
theorem lifted8 (os : Os) (started : os.Started) (H : Type) (enc : TypeId × Value → H) :
    ReturnsInHanded {} Try.checked os 8 .any (Rows.planBestsSpec.pre6 enc Try.prog Try.f8 Rows.planBestsRow.domain false) (Rows.planBestsSpec.post enc Try.prog Try.f8 false true false false) := by
  refine returnsInHanded_of_change (C := Try.checked) own started (by kernel_rfl) Try.func8
    (ChangeSpec.witness6 (enc := enc) (C := Try.checked) false ⟨#[], #[.agg #[.int .i64 0, .slice none 0 0, .slice none 0 0, .slice none 0 0, .slice none 0 0, .slice none 0 0, .slice none 0 0]], []⟩ 8 (by kernel_rfl) (by kernel_rfl) (by kernel_rfl) (by kernel_rfl)) ?_
  intro W base args ds gs before hval0 hW hcnd _
  have hval : ∀ (j : Nat) t v, Try.f8.params[j]? = some t → args[j]? = some v → Value.okWide Try.prog W .any base t v := hval0
  have hW' := hW
  obtain ⟨p, q, hA0, hV, rfl, hfz, hnd⟩ := hW
  have hA : DataW.TrodAll enc Try.prog W 0 (fun _ => true) true Try.f8.params.toList args.toList ds p := hA0
  rw [Try.params8] at hA hval
  obtain ⟨v0, vs0, d0, ds0, p0, q0, hargs, rfl, rfl, h0, r0⟩ := trodAll_cons hA
  obtain ⟨rfl, rfl, rfl⟩ := trodAll_nil r0
  obtain rfl : args = #[v0] := by cases args; simp_all
  obtain ⟨rfl, rfl⟩ := trodVars_none hV
  have k0 := h0
  have lt : ∀ {t v d p}, DataW.Trod enc Try.prog W 0 (fun _ => true) true t v d p → ∀ x ∈ p, x.block < W.heap.size := fun {t v d p} h => by obtain ⟨m, hm⟩ := h; exact DataW.trod_lt m _ _ _ hm
  obtain ⟨es0, R0, S0⟩ := struct_reads (f := 4) Try.underlying28 (by kernel_rfl) (hval 0 28 v0 rfl rfl) h0
  obtain ⟨l0, rfl⟩ := season_shape rfl rfl rfl rfl rfl rfl rfl S0
  clear hA0 hval0
  refine (call_true (bests_law l0 ) W #[v0] rfl ?_).mono fun e W' ⟨he, bel⟩ => ?_
  · intro j hj
    match j, hj with
    | 0, _ => exact R0
  · subst he
    exact ⟨_, rfl, _, _, _, [], _, [], hW', trodAll_mk1 (shut_bool Try.underlying4 _), (cons_mk (Below.trod laidOut (by kernel_rfl) (of_decide_eq_true (by kernel_rfl)) k0 bel (lt k0)) nil_mk), rfl, bel.frame _, fun h => by cases h⟩

theorem over8 : Rows.planBestsRow.holds Try.pinned (OpenSpec.ofChange Rows.planBestsSpec) :=
  OpenClaim.holds_of_wide 8 Try.f8 rfl rfl rfl rfl rfl rfl rfl ⟨rfl, rfl, rfl, rfl, rfl⟩ rfl rfl rfl rfl rfl (by kernel_rfl) Try.func8 (by kernel_rfl)
    (of_decide_eq_true (by kernel_rfl)) (by unfold Func.isWrapper; first | (rw [if_pos (by decide +kernel)]; kernel_rfl) | (rw [if_neg (by decide +kernel)]; exact ⟨rfl, rfl⟩))
    (fun os started H enc _ => lifted8 os started H enc)
end Go.Proofs.YtmkmegcconjgoaaG
namespace Go.Proofs.Ytmkmegcconjgoaa
/-- **PlanBests returns true for every input.** -/
theorem planBests_holds : Rows.PlanBestsSaid := Go.Proofs.YtmkmegcconjgoaaG.over8
end Go.Proofs.Ytmkmegcconjgoaa
