/- The specification's best recipe, and what a recipe brings. No condition. -/
import Derived.Test.YtalbkamkkceanaaGreatB17
set_option linter.unusedVariables false
set_option linter.unusedSimpArgs false
set_option maxRecDepth 100000
set_option maxHeartbeats 4000000
namespace Go.Proofs.YtalbkamkkceanaaGreatG
open Go Go.AM Go.Proofs

theorem pureFn_args2 {P : Program} {g : FuncId} {args args' : List D} {res : D} (hl : args'.length = args.length)
  (h : ∀ j (hj : j < args.length) (hj' : j < args'.length) (ok : Nat → Prop) (w : World) (v : Value), RelD ok w (args'[j]) v → RelD ok w (args[j]) v) (hP : PureFn P g args res) : PureFn P g args' res :=
  ⟨hP.1, fun ok w vs hz hR => hP.2 ok w vs (hz.trans hl) fun j hj => h j hj (by omega) ok w _ (hR j (by omega))⟩
theorem rel_nil2 {ok : Nat → Prop} {w : World} {v : Value} (h : RelD ok w nilD v) : RelD ok w (.list []) v := by cases h; exact .empty none 0
theorem firstF_all {right : List Int → Bool} {ms : List Mat} {x : List Int × Bool} : firstF right ms ms [] x = (recs ms).foldl (fstep right ms) x := by simp [firstF]
theorem bst_none {right : List Int → Bool} {ms : List Mat} : ∀ {l : List (List Int)} {σ : Bst}, (σ.2.2 = false → σ.2.1 = 0) → (l.foldl (bstep right ms) σ).2.2 = false → (l.foldl (bstep right ms) σ).2.1 = 0
  | [], _, h, h2 => h h2
  | r :: l, σ, h, h2 => by
    simp only [List.foldl_cons] at h2 ⊢
    refine bst_none (fun h3 => ?_) h2
    unfold bstep at h3 ⊢
    split
    · rename_i h4; rw [if_pos h4] at h3; simp at h3
    · rename_i h4; rw [if_neg h4] at h3; exact h h3
theorem bestR_first (b : Bat) : (bestR b).1 = (firstF (keepsB (linesF b)) b.mats b.mats [] ([], false)).1 ∧ (bestR b).2.2 = (firstF (keepsB (linesF b)) b.mats b.mats [] ([], false)).2 ∧
    ((bestR b).2.2 = true → (bestR b).2.1 = costB b.mats (bestR b).1) := by
  have h := first_best (right := keepsB (linesF b)) (ms := b.mats) (l := recs b.mats) (σ := ([], 0, false)) (x := ([], false)) rfl rfl (fun h => by simp at h)
  rw [firstF_all]
  refine ⟨h.1, h.2.1, fun h2 => ?_⟩
  unfold bestR bestF at h2 ⊢
  rw [h.2.1] at h2
  rw [h.2.2 h2, h.1]
theorem first_top (b : Bat) (hb : Bf b) : PureFn Tryz.prog 57 [batD b, linesD (linesF b), nilD, nilD] (recD (bestR b).2.2 (bestR b).1) ∧ ((bestR b).2.2 = true → Rok b.mats (bestR b).1) := by
  have h := first_ok b hb b.mats [] ([], false) rfl (by simp) (fun k hk => by simp at hk) (fun h => by simp at h)
  have e := bestR_first b
  rw [← e.1, ← e.2.1] at h
  refine ⟨pureFn_args2 (args := [batD b, linesD (linesF b), rowD [], recD false []]) (args' := [batD b, linesD (linesF b), nilD, nilD]) rfl (fun j hj hj' ok w v hv => ?_) h.1, h.2⟩
  match j, hj with
  | 0, _ => exact hv
  | 1, _ => exact hv
  | 2, _ => exact rel_nil2 hv
  | 3, _ => exact hv
theorem bestS_ok (b : Bat) (sb : Sb b) : PureFn Tryz.prog 30 [batD b] (bestTop b) := by
  unfold bestTop
  cases c1 : decide (batE b = 0)
  · have h1 := of_decide_eq_false c1
    rw [if_neg h1]
    refine pureFn_by Tryz.func30 k30 rfl rfl ?_
    conv => whnf
    refine ⟨_, checkR_ok b sb, ?_⟩
    conv => whnf
    rw [c1]
    conv => whnf
    kernel_rfl
  · have h1 := of_decide_eq_true c1
    have hb := bf_of sb h1
    have hfc := few_choices (l := b.mats) (n := 1) (by decide)
    rw [if_pos h1]
    cases c2 : decide (100000 < choicesL b.mats 1)
    · rw [if_pos (hfc.2 (by have := of_decide_eq_false c2; omega))]
      have ft := first_top b hb
      have e := (bestR_first b).2.2
      have e0 : (bestR b).2.2 = false → (bestR b).2.1 = 0 := fun h => bst_none (fun _ => rfl) h
      obtain ⟨R, hR⟩ : ∃ R, bestR b = R := ⟨_, rfl⟩
      rw [hR] at ft e e0 ⊢
      obtain ⟨X, n, f⟩ := R
      simp only at ft e e0
      refine pureFn_by Tryz.func30 k30 rfl rfl ?_
      conv => whnf
      refine ⟨_, checkR_ok b sb, ?_⟩
      conv => whnf
      rw [c1]
      conv => whnf
      refine ⟨_, choices_ok b hb, ?_⟩
      conv => whnf
      rw [c2]
      conv => whnf
      refine ⟨_, allLines_ok b hb, ?_⟩
      conv => whnf
      refine ⟨_, ft.1, ?_⟩
      cases f
      · rw [e0 rfl]
        conv => whnf
        kernel_rfl
      · have hr := ft.2 rfl
        have hl := hr.len
        have hn := hb.nm
        rw [e rfl]
        cases X with
        | nil => simp at hl; omega
        | cons a l =>
          conv => whnf
          refine ⟨_, costR_ok b hb (a :: l) hr, ?_⟩
          conv => whnf
          kernel_rfl
    · rw [if_neg (by rw [hfc]; have := of_decide_eq_true c2; omega)]
      refine pureFn_by Tryz.func30 k30 rfl rfl ?_
      conv => whnf
      refine ⟨_, checkR_ok b sb, ?_⟩
      conv => whnf
      rw [c1]
      conv => whnf
      refine ⟨_, choices_ok b hb, ?_⟩
      conv => whnf
      rw [c2]
      conv => whnf
      kernel_rfl
end Go.Proofs.YtalbkamkkceanaaGreatG
