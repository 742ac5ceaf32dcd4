/- The check of a season. No condition. -/
import Derived.Test.YtmkmegcconjgoaaP10
set_option linter.unusedVariables false
set_option linter.unusedSimpArgs false
set_option maxRecDepth 100000
set_option maxHeartbeats 4000000
namespace Go.Proofs.YtmkmegcconjgoaaG
open Go Go.AM Go.Proofs

def frameE (s : Season) : Int :=
  if withinF s.days 1 14 = false then 1 else if articlesE s ≠ 0 then articlesE s else if makersE s ≠ 0 then makersE s else if turnsF s.jobs s.arts.length = false then 1
  else if 6 < s.cols.length then 3 else if turnsF s.cols s.cols.length = false then 1 else ordersE s
def scopeE (s : Season) (_ : Nat) (k : Nat) : Int := if 3000 < (shiftsF s k).length * (shiftsF s k).length then 9 else 0
def checkE (s : Season) : Int := if frameE s ≠ 0 then frameE s else firstE (scopeE s) (List.range s.ovens.length) 0

theorem firstE_zero {α : Type} {e : Nat → α → Int} : ∀ {xs : List α} {i : Nat}, firstE e xs i = 0 → ∀ (j : Nat) (x : α), xs[j]? = some x → e (i + j) x = 0
  | [], i, _, j, x, hx => by simp at hx
  | y :: ys, i, h, j, x, hx => by
    unfold firstE at h
    split at h
    · rename_i h0
      cases j with
      | zero => simp at hx; subst hx; exact h0
      | succ j => have := firstE_zero h j x (by simpa using hx); rwa [show i + 1 + j = i + (j + 1) by omega] at this
    · rename_i h0; exact absurd h h0
theorem firstE_mem {α : Type} {e : Nat → α → Int} {xs : List α} (h : firstE e xs 0 = 0) {x : α} (hx : x ∈ xs) : ∃ i, e i x = 0 := by
  obtain ⟨j, hj, rfl⟩ := List.mem_iff_getElem.1 hx
  exact ⟨_, firstE_zero h j _ (by simp [hj])⟩

theorem turn_iff {t : Int × Int} (h : turnOk t = true) : 0 ≤ t.1 ∧ t.1 ≤ 1440 ∧ 0 ≤ t.2 ∧ t.2 ≤ 1000000 := by
  simp only [turnOk, Bool.and_eq_true, within_iff] at h
  omega
theorem turns_iff {l : List (List (Int × Int))} {n : Nat} (h : turnsF l n = true) : l.length = n ∧ ∀ r ∈ l, r.length = n ∧ ∀ t ∈ r, 0 ≤ t.1 ∧ t.1 ≤ 1440 ∧ 0 ≤ t.2 ∧ t.2 ≤ 1000000 := by
  simp only [turnsF, Bool.and_eq_true, decide_eq_true_eq, List.all_eq_true] at h
  refine ⟨by omega, fun r hr => ?_⟩
  have := h.2 r hr
  simp only [rowOk, Bool.and_eq_true, decide_eq_true_eq, Bool.not_eq_true', List.any_eq_false] at this
  refine ⟨by omega, fun t ht => turn_iff ?_⟩
  have := this.2 t ht
  simpa using this

theorem frame_fr {s : Season} (hs : Sm s) (h : frameE s = 0) : Fr s := by
  unfold frameE at h
  split at h
  · cases h
  rename_i h1
  split at h
  · rename_i h2; exact absurd h h2
  rename_i h2
  split at h
  · rename_i h3; exact absurd h h3
  rename_i h3
  split at h
  · cases h
  rename_i h4
  split at h
  · cases h
  rename_i h5
  split at h
  · cases h
  rename_i h6
  have h2 := Decidable.not_not.1 h2
  have h3 := Decidable.not_not.1 h3
  have d := within_iff.1 (by simpa using h1)
  have j := turns_iff (by simpa using h4)
  have c := turns_iff (by simpa using h6)
  unfold articlesE at h2
  split at h2
  · cases h2
  rename_i a1
  split at h2
  · rename_i a2; exact absurd h2 a2
  rename_i a2
  split at h2
  · cases h2
  rename_i a3
  have a2 := Decidable.not_not.1 a2
  unfold makersE at h3
  split at h3
  · cases h3
  rename_i m1
  unfold ordersE at h
  split at h
  · cases h
  rename_i o1
  refine ⟨hs, d, by omega, by omega, by omega, fun a ha => ?_, fun o ho => ?_, fun m hm => ?_, j, by omega, c.2, by omega, fun o ho => ?_⟩
  · obtain ⟨i, e⟩ := firstE_mem a2 ha
    unfold artE at e
    split at e
    · cases e
    split at e
    · cases e
    split at e
    · cases e
    rename_i e3
    split at e
    · cases e
    rename_i e4
    have e3 := within_iff.1 (by simpa using e3)
    have e4 := within_iff.1 (by simpa using e4)
    omega
  · obtain ⟨i, e⟩ := firstE_mem h2 ho
    unfold ovE at e
    split at e
    · cases e
    rename_i e1
    simp at e1
    omega
  · obtain ⟨i, e⟩ := firstE_mem h3 hm
    unfold mkE at e
    split at e
    · cases e
    rename_i e1
    split at e
    · cases e
    rename_i e2
    have e1 := within_iff.1 (by simpa using e1)
    have e2 : mkBad s m = false := by simpa using e2
    simp only [mkBad, Bool.or_eq_false_iff, Bool.not_eq_false', decide_eq_true_eq, within_iff, List.any_eq_false] at e2
    refine ⟨by omega, by omega, by omega, fun r hr => ?_, by omega, by omega, by omega, by omega⟩
    have := e2.1.1.2 r hr
    exact within_iff.1 (by simpa [rateOk] using this)
  · obtain ⟨i, e⟩ := firstE_mem h ho
    unfold ordE at e
    split at e
    · cases e
    rename_i e1
    split at e
    · cases e
    split at e
    · cases e
    rename_i e3
    have e1 := within_iff.1 (by simpa using e1)
    have e3 : ordBad s o = false := by simpa using e3
    have hw : IntKind.wrap .i64 (s.days - 1) = s.days - 1 := wr_eq (by omega)
    simp only [ordBad, hw, Bool.or_eq_false_iff, Bool.not_eq_false', within_iff] at e3
    omega
end Go.Proofs.YtmkmegcconjgoaaG
