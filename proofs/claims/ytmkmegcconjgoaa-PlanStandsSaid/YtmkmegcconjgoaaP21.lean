/- Costs. No condition. -/
import Derived.Test.YtmkmegcconjgoaaP20
set_option linter.unusedVariables false
set_option linter.unusedSimpArgs false
set_option maxRecDepth 100000
set_option maxHeartbeats 4000000
namespace Go.Proofs.YtmkmegcconjgoaaG
open Go Go.AM Go.Proofs

theorem fold_le {α : Type} {f : List (List Int) × Int → α → List (List Int) × Int} {B : Int} : ∀ (l : List α), (∀ st x, x ∈ l → st.2 ≤ (f st x).2 ∧ (f st x).2 ≤ st.2 + B) → ∀ st, st.2 ≤ (l.foldl f st).2 ∧ (l.foldl f st).2 ≤ st.2 + B * l.length
  | [], _, st => by simp
  | x :: l, h, st => by
    have h1 := h st x (by simp)
    have h2 := fold_le l (fun st y hy => h st y (by simp [hy])) (f st x)
    rw [List.foldl_cons, List.length_cons]
    refine ⟨by omega, ?_⟩
    have : B * ((l.length + 1 : Nat) : Int) = B * (l.length : Int) + B := by rw [Int.natCast_add, Int.mul_add]; simp
    omega
theorem days_le {s : Season} (h : Fr s) {p : List (List Int)} (po : POk s p) (k : Nat) (st : List (List Int) × Int) : st.2 ≤ (daysF s p st k).2 ∧ (daysF s p st k).2 ≤ st.2 + 154000000 := by
  have hml := Nat.le_trans (makersF_len s (k : Int)) h.nm
  have hmm : ∀ m ∈ makersF s (k : Int), 0 ≤ m ∧ m < s.makers.length := fun m hm => makersF_mem hm
  have hdy := h.days
  have := fold_le (f := dayF s p (makersF s (k : Int))) (B := 11000000) (List.range s.days.toNat) (fun st d hd => by
    have hd := List.mem_range.1 hd
    have r1 := onF_row h po hmm (by omega) (show (d : Int) - 1 < s.days by omega)
    have r2 := onF_row h po hmm (by omega) (show (d : Int) < s.days by omega)
    have := worked_le h r1 r2
    unfold dayF
    simp only; omega) st
  unfold daysF
  rw [List.length_range] at this
  omega
theorem made_cost {s : Season} (h : Fr s) {p : List (List Int)} (po : POk s p) : 0 ≤ (madeF s p).2 ∧ (madeF s p).2 ≤ 462000000 := by
  have hno := h.no
  have := fold_le (f := daysF s p) (B := 154000000) (List.range s.ovens.length) (fun st k _ => days_le h po k st) (List.replicate s.makers.length [], 0)
  unfold madeF
  rw [List.length_range] at this
  simp only at this
  omega
theorem made_bot {s : Season} (h : Fr s) {p : List (List Int)} (po : POk s p) : Bot s (madeF s p).1 := by
  have hg := madeF_get h p
  have hdy := h.days
  refine ⟨hg.1, fun r hr => ?_⟩
  obtain ⟨j, hj, rfl⟩ := List.mem_iff_getElem.1 hr
  obtain ⟨M, hM⟩ := get_lt (xs := s.makers) (i := j) (by omega)
  have e := hg.2 j M hM
  obtain ⟨_, e⟩ := List.getElem?_eq_some_iff.1 e
  rw [e]
  refine ⟨by simp [rowM]; omega, fun v hv => ?_⟩
  obtain ⟨d, hd, rfl⟩ := List.mem_map.1 hv
  have hd := List.mem_range.1 hd
  have hmm : ∀ m ∈ makersF s M.oven, 0 ≤ m ∧ m < s.makers.length := fun m hm => makersF_mem hm
  have hml := Nat.le_trans (makersF_len s M.oven) h.nm
  have r1 := onF_row h po hmm (by omega) (show (d : Int) - 1 < s.days by omega)
  have r2 := onF_row h po hmm (by omega) (show (d : Int) < s.days by omega)
  have hjm : 0 ≤ (j : Int) ∧ (j : Int) < s.makers.length := by omega
  have a1 := onA_art h po hjm (show (d : Int) - 1 < s.days by omega)
  have a2 := onA_art h po hjm (show (d : Int) < s.days by omega)
  have ll := lostF_le h r1.arts r2.arts
  unfold madeD
  exact madeA_le h ⟨ll.1, ll.2.1⟩ hjm a1.2 a2.2
end Go.Proofs.YtmkmegcconjgoaaG
