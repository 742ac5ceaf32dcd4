/- The row of TopOrdered: it returns true whatever it is called with. No condition. -/
import Derived.Test.YtbkjfjlmhlmdbaaRows
import Derived.Test.YtbkjfjlmhlmdbaaT13
import Derived.Test.YtbkjfjlmhlmdbaaRowLib
set_option linter.unusedVariables false
set_option linter.unusedSimpArgs false
set_option maxRecDepth 100000
set_option maxHeartbeats 4000000
namespace Go.Proofs.YtbkjfjlmhlmdbaaG
open Go Go.AM Go.Proofs Go.ChangeShapes Go.WideShapes Go.ChangeAt Go.RowKit Go.Proofs.Ytbkjfjlmhlmdbaa
theorem lifted3 (os : Os) (started : os.Started) (H : Type) (enc : TypeId × Value → H) :
    ReturnsInHanded {} Try.checked os 3 .any (Rows.topOrderedSpec.pre6 enc Try.prog Try.f3 Rows.topOrderedRow.domain false) (Rows.topOrderedSpec.post enc Try.prog Try.f3 false true false false) := by
  refine returnsInHanded_of_change (C := Try.checked) own started (by kernel_rfl) Try.func3
    (ChangeSpec.witness6 (enc := enc) (C := Try.checked) false ⟨#[], #[.agg #[.int .i64 0, .slice none 0 0, .slice none 0 0, .slice none 0 0, .slice none 0 0, .slice none 0 0, .slice none 0 0], .agg #[.slice none 0 0, .slice none 0 0, .int .i64 0, .slice none 0 0], .agg #[.slice none 0 0, .int .i64 0, .int .i64 0, .int .i64 0, .int .i64 0, .int .i64 0, .int .i64 0]], []⟩ 8 (by kernel_rfl) (by kernel_rfl) (by kernel_rfl) (by kernel_rfl)) ?_
  intro W base args ds gs before hval0 hW hcnd _
  have hval : ∀ (j : Nat) t v, Try.f3.params[j]? = some t → args[j]? = some v → Value.okWide Try.prog W .any base t v := hval0
  have hW' := hW
  obtain ⟨p, q, hA0, hV, rfl, hfz, hnd⟩ := hW
  have hA : DataW.TrodAll enc Try.prog W 0 (fun _ => true) true Try.f3.params.toList args.toList ds p := hA0
  rw [Try.params3] at hA hval
  obtain ⟨v0, vs0, d0, ds0, p0, q0, hargs, rfl, rfl, h0, r0⟩ := trodAll_cons hA
  obtain ⟨v1, vs1, d1, ds1, p1, q1, rfl, rfl, rfl, h1, r1⟩ := trodAll_cons r0
  obtain ⟨v2, vs2, d2, ds2, p2, q2, rfl, rfl, rfl, h2, r2⟩ := trodAll_cons r1
  obtain ⟨rfl, rfl, rfl⟩ := trodAll_nil r2
  obtain rfl : args = #[v0, v1, v2] := by cases args; simp_all
  obtain ⟨rfl, rfl⟩ := trodVars_none hV
  have k0 := h0; have k1 := h1; have k2 := h2
  have lt : ∀ {t v d p}, DataW.Trod enc Try.prog W 0 (fun _ => true) true t v d p → ∀ x ∈ p, x.block < W.heap.size := fun {t v d p} h => by obtain ⟨m, hm⟩ := h; exact DataW.trod_lt m _ _ _ hm
  obtain ⟨es0, R0, S0⟩ := struct_reads (f := 4) Try.underlying28 (by kernel_rfl) (hval 0 28 v0 rfl rfl) h0
  obtain ⟨l0, rfl⟩ := season_shape rfl rfl rfl rfl rfl rfl rfl S0
  obtain ⟨es1, R1, S1⟩ := struct_reads (f := 3) Try.underlying32 (by kernel_rfl) (hval 1 32 v1 rfl rfl) h1
  obtain ⟨l1, rfl⟩ := ask_shape rfl rfl rfl rfl S1
  obtain ⟨es2, R2, S2⟩ := struct_reads (f := 5) Try.underlying39 (by kernel_rfl) (hval 2 39 v2 rfl rfl) h2
  obtain ⟨l2, rfl⟩ := btl_shape rfl rfl S2
  clear hA0 hval0
  refine (call_true (ordered_law' l0 l1 l2 ) W #[v0, v1, v2] rfl ?_).mono fun e W' ⟨he, bel⟩ => ?_
  · intro j hj
    match j, hj with
    | 0, _ => exact R0
    | 1, _ => exact R1
    | 2, _ => exact R2
  · subst he
    exact ⟨_, rfl, _, _, _, [], _, [], hW', trodAll_mk1 (shut_bool Try.underlying4 _), (cons_mk (Below.trod laidOut (by kernel_rfl) (of_decide_eq_true (by kernel_rfl)) k0 bel (lt k0)) (cons_mk (Below.trod laidOut (by kernel_rfl) (of_decide_eq_true (by kernel_rfl)) k1 bel (lt k1)) (cons_mk (Below.trod laidOut (by kernel_rfl) (of_decide_eq_true (by kernel_rfl)) k2 bel (lt k2)) nil_mk))), rfl, bel.frame _, fun h => by cases h⟩

theorem over3 : Rows.topOrderedRow.holds Try.pinned (OpenSpec.ofChange Rows.topOrderedSpec) :=
  OpenClaim.holds_of_wide 3 Try.f3 rfl rfl rfl rfl rfl rfl rfl ⟨rfl, rfl, rfl, rfl, rfl⟩ rfl rfl rfl rfl rfl (by kernel_rfl) Try.func3 (by kernel_rfl)
    (of_decide_eq_true (by kernel_rfl)) (by unfold Func.isWrapper; first | (rw [if_pos (by decide +kernel)]; kernel_rfl) | (rw [if_neg (by decide +kernel)]; exact ⟨rfl, rfl⟩))
    (fun os started H enc _ => lifted3 os started H enc)
end Go.Proofs.YtbkjfjlmhlmdbaaG
namespace Go.Proofs.Ytbkjfjlmhlmdbaa
/-- **TopOrdered returns true for every input.** -/
theorem topOrdered_holds : Rows.TopOrderedSaid := Go.Proofs.YtbkjfjlmhlmdbaaG.over3
end Go.Proofs.Ytbkjfjlmhlmdbaa
