/- The specification's search is a fold over all recipes. No condition. -/
import Derived.Test.YtalbkamkkceanaaGreatB15
set_option linter.unusedVariables false
set_option linter.unusedSimpArgs false
set_option maxRecDepth 100000
set_option maxHeartbeats 4000000
namespace Go.Proofs.YtalbkamkkceanaaGreatG
open Go Go.AM Go.Proofs

def fstep (right : List Int → Bool) (ms : List Mat) (x : List Int × Bool) (r : List Int) : List Int × Bool := if (right r && (!x.2 || decide (costB ms r < costB ms x.1))) = true then (r, true) else x
def firstF (right : List Int → Bool) (ms rem : List Mat) (done : List Int) (x : List Int × Bool) : List Int × Bool := ((recs rem).map fun r => done ++ r).foldl (fstep right ms) x
theorem firstF_cons {right : List Int → Bool} {ms rem : List Mat} {m : Mat} {done : List Int} {x : List Int × Bool} : firstF right ms (m :: rem) done x = (kilosF m).foldl (fun x k => firstF right ms rem (done ++ [k]) x) x := by
  unfold firstF
  simp only [recs]
  induction kilosF m generalizing x with
  | nil => rfl
  | cons k l ih =>
    simp only [List.flatMap_cons, List.map_append, List.foldl_append, List.foldl_cons]
    rw [ih]
    congr 1
    simp [List.map_map, Function.comp_def]
/-- The specification's search and the program's find the same. -/
theorem first_best {right : List Int → Bool} {ms : List Mat} : ∀ {l : List (List Int)} {σ : Bst} {x : List Int × Bool}, σ.1 = x.1 → σ.2.2 = x.2 → (x.2 = true → σ.2.1 = costB ms x.1) →
    (l.foldl (bstep right ms) σ).1 = (l.foldl (fstep right ms) x).1 ∧ (l.foldl (bstep right ms) σ).2.2 = (l.foldl (fstep right ms) x).2 ∧ ((l.foldl (fstep right ms) x).2 = true → (l.foldl (bstep right ms) σ).2.1 = costB ms (l.foldl (fstep right ms) x).1)
  | [], σ, x, h1, h2, h3 => ⟨h1, h2, h3⟩
  | r :: l, σ, x, h1, h2, h3 => by
    simp only [List.foldl_cons]
    obtain ⟨s1, s2, s3⟩ := σ
    obtain ⟨x1, x2⟩ := x
    simp only at h1 h2 h3
    subst h1 h2
    have e : ((!s3 || decide (costB ms r < s2)) && right r) = (right r && (!s3 || decide (costB ms r < costB ms s1))) := by
      cases s3 with
      | false => simp
      | true => rw [h3 rfl, Bool.and_comm]
    unfold bstep fstep
    simp only [e]
    split
    · exact first_best rfl rfl (fun _ => rfl)
    · exact first_best rfl rfl h3
theorem first_leaf (b : Bat) (hb : Bf b) (done : List Int) (x : List Int × Bool) (hd : Rok b.mats done) (hx : x.2 = true → Rok b.mats x.1) :
    PureFn Tryz.prog 57 [batD b, linesD (linesF b), rowD done, recD x.2 x.1] (recD (fstep (keepsB (linesF b)) b.mats x done).2 (fstep (keepsB (linesF b)) b.mats x done).1) := by
  have hnm := hb.nm
  have hdl := hd.len
  obtain ⟨x1, x2⟩ := x
  refine pureFn_by Tryz.func57 k57 rfl rfl ?_
  obtain ⟨R, hR⟩ : ∃ R, fstep (keepsB (linesF b)) b.mats (x1, x2) done = R := ⟨_, rfl⟩
  rw [hR]
  unfold fstep at hR
  have kp := keepsR_ok (linesF b) done hb.nm.2 (lok_of hb) (linesF_len hb) hd.len hd.el
  obtain ⟨K, hK⟩ : ∃ K, keepsB (linesF b) done = K := ⟨_, rfl⟩
  rw [hK] at hR kp
  conv => whnf
  rw [List.length_map, List.length_map, show decide ((done.length : Int) = (b.mats.length : Int)) = true from decide_eq_true (by omega)]
  conv => whnf
  refine ⟨_, kp, ?_⟩
  cases K
  · have hR : (x1, x2) = R := hR
    subst hR
    conv => whnf
    kernel_rfl
  · cases x2
    · have hR : (done, true) = R := hR
      subst hR
      conv => whnf
      kernel_rfl
    · have hxr := hx rfl
      have hxl := hxr.len
      cases x1 with
      | nil => simp at hxl; omega
      | cons a l =>
        conv => whnf
        refine ⟨_, costR_ok b hb done hd, ?_⟩
        conv => whnf
        refine ⟨_, costR_ok b hb (a :: l) hxr, ?_⟩
        conv => whnf
        cases c : decide (costB b.mats done < costB b.mats (a :: l))
        · rw [c] at hR
          have hR : (a :: l, true) = R := hR
          subst hR
          conv => whnf
          kernel_rfl
        · rw [c] at hR
          have hR : (done, true) = R := hR
          subst hR
          conv => whnf
          kernel_rfl
end Go.Proofs.YtalbkamkkceanaaGreatG
