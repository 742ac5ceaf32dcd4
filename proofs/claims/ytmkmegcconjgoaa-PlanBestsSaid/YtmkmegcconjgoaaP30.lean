/- The shifts of a furnace are in order, and they are the rows that may be. No condition. -/
import Derived.Test.YtmkmegcconjgoaaP29
set_option linter.unusedVariables false
set_option linter.unusedSimpArgs false
set_option maxRecDepth 100000
set_option maxHeartbeats 4000000
namespace Go.Proofs.YtmkmegcconjgoaaG
open Go Go.AM Go.Proofs

/-- All rows that may be and begin with some articles. -/
def gathF (s : Season) (k : Int) (ms : List Int) : Nat → List Int → List (List Int)
  | 0, pre => if fitsF s k ms pre = true then [pre] else []
  | d + 1, pre => (List.range (s.arts.length + 1)).flatMap fun (u : Nat) => gathF s k ms d (pre ++ [(u : Int) - 1])
theorem okRow_get {s : Season} {c : Int} : ∀ {pre ms : List Int} {a : Int} {q : List Int}, okRow s c ms (pre ++ a :: q) = true → pre.length < ms.length → 0 ≤ a → rateF s (ms.getD pre.length 0) a ≠ 0 ∧ colA s a = c
  | [], [], _, _, _, h, _ => by simp at h
  | [], m :: ms, a, q, h, _, h0 => by
    simp only [List.nil_append, okRow, Bool.and_eq_true, Bool.or_eq_true, Bool.not_eq_true', decide_eq_false_iff_not, decide_eq_true_eq] at h
    rcases h.1 with h1 | h1
    · exact absurd h0 h1
    · exact ⟨by simpa using h1.1, h1.2⟩
  | b :: pre, [], _, _, _, h, _ => by simp at h
  | b :: pre, m :: ms, a, q, h, hl, h0 => by
    simp only [List.cons_append, okRow, Bool.and_eq_true] at h
    simp only [List.length_cons] at hl ⊢
    have := okRow_get h.2 (by omega) h0
    simpa using this
theorem colF_pre {s : Season} : ∀ (pre : List Int) {a : Int} (q : List Int), 0 ≤ a → colF s (pre ++ [a]) = colF s (pre ++ a :: q)
  | [], a, q, h => by simp [colF, h]
  | b :: pre, a, q, h => by simp only [List.cons_append, colF, colF_pre pre q h]
theorem skip_none {s : Season} {k : Int} {ms pre q : List Int} {a : Int} (h : skipF s ms pre a = true) (hl : pre.length < ms.length) : fitsF s k ms (pre ++ a :: q) = false := by
  cases h2 : fitsF s k ms (pre ++ a :: q)
  · rfl
  · simp only [fitsF, Bool.and_eq_true] at h2
    simp only [skipF, Bool.and_eq_true, Bool.or_eq_true, decide_eq_true_eq, Bool.not_eq_true', decide_eq_false_iff_not] at h
    have := okRow_get h2.1 hl h.1
    rcases h.2 with h3 | h3
    · exact absurd h3 this.1
    · exact absurd (by rw [this.2, colF_pre pre q h.1]) h3
theorem gath_mem {s : Season} {k : Int} {ms : List Int} : ∀ {d : Nat} {pre l : List Int}, l ∈ gathF s k ms d pre ↔ ∃ q, l = pre ++ q ∧ q.length = d ∧ Arts s q ∧ fitsF s k ms l = true
  | 0, pre, l => by
    simp only [gathF]
    constructor
    · intro h
      split at h
      · rename_i h1
        simp at h
        exact ⟨[], by simp [h], rfl, (fun a ha => by cases ha), by rw [h]; exact h1⟩
      · cases h
    · rintro ⟨q, rfl, h1, _, h2⟩
      have : q = [] := List.eq_nil_of_length_eq_zero h1
      subst this
      simp at h2 ⊢
      exact h2
  | d + 1, pre, l => by
    simp only [gathF, List.mem_flatMap, List.mem_range]
    constructor
    · rintro ⟨u, hu, h⟩
      obtain ⟨q, e, h1, h2, h3⟩ := gath_mem.1 h
      refine ⟨((u : Int) - 1) :: q, by rw [e]; simp, by simp [h1], fun a ha => ?_, h3⟩
      rcases List.mem_cons.1 ha with rfl | ha
      · omega
      · exact h2 a ha
    · rintro ⟨q, e, h1, h2, h3⟩
      cases q with
      | nil => simp at h1
      | cons a q =>
        have ha := h2 a (by simp)
        refine ⟨(a + 1).toNat, by omega, gath_mem.2 ⟨q, ?_, by simpa using h1, fun b hb => h2 b (by simp [hb]), h3⟩⟩
        rw [e, show ((a + 1).toNat : Int) - 1 = a by omega]; simp
theorem rows_gath {s : Season} {k : Int} {ms : List Int} : ∀ {d : Nat} {pre : List Int}, pre.length + d = ms.length → rowsF s k ms d pre = gathF s k ms d pre
  | 0, pre, _ => rfl
  | d + 1, pre, h => by
    simp only [rowsF, gathF]
    refine congrArg (fun f => List.flatMap f (List.range (s.arts.length + 1))) (funext fun u => ?_)
    split
    · rename_i h1
      refine (List.eq_nil_iff_forall_not_mem.2 fun l hl => ?_).symm
      obtain ⟨q, e, _, _, h2⟩ := gath_mem.1 hl
      rw [e, List.append_assoc, List.singleton_append, skip_none h1 (by omega)] at h2
      cases h2
    · exact rows_gath (by simp; omega)
theorem shifts_gath (s : Season) (k : Int) : shiftsF s k = gathF s k (makersF s k) (makersF s k).length [] := rows_gath (by simp)
theorem shifts_mem {s : Season} {k : Int} {l : List Int} : l ∈ shiftsF s k ↔ l.length = (makersF s k).length ∧ Arts s l ∧ fitsF s k (makersF s k) l = true := by
  rw [shifts_gath, gath_mem]
  constructor
  · rintro ⟨q, rfl, h1, h2, h3⟩; exact ⟨h1, h2, h3⟩
  · rintro ⟨h1, h2, h3⟩; exact ⟨l, rfl, h1, h2, h3⟩
theorem ahead_pre : ∀ (pre : List Int) {a b : Int} (q r : List Int), a < b → aheadF (pre ++ a :: q) (pre ++ b :: r) = true
  | [], a, b, q, r, h => by simp only [List.nil_append, aheadF]; rw [if_neg (by omega)]; exact decide_eq_true h
  | c :: pre, a, b, q, r, h => by simp only [List.cons_append, aheadF, if_true]; exact ahead_pre pre q r h
theorem gath_ordered {s : Season} {k : Int} {ms : List Int} : ∀ {d : Nat} {pre : List Int}, (gathF s k ms d pre).Pairwise fun a b => aheadF a b = true
  | 0, pre => by simp only [gathF]; split <;> simp
  | d + 1, pre => by
    simp only [gathF]
    rw [List.pairwise_flatMap]
    refine ⟨fun u _ => gath_ordered, ?_⟩
    refine List.Pairwise.imp (fun {u v} huv x hx y hy => ?_) List.pairwise_lt_range
    obtain ⟨q, e, _⟩ := gath_mem.1 hx
    obtain ⟨r, f, _⟩ := gath_mem.1 hy
    rw [e, f, List.append_assoc, List.append_assoc]
    exact ahead_pre pre q r (by omega)
theorem shifts_ordered {s : Season} {k : Int} {n : Nat} {a b : List Int} (ha : (shiftsF s k)[n]? = some a) (hb : (shiftsF s k)[n + 1]? = some b) : aheadF a b = true := by
  rw [shifts_gath] at ha hb
  obtain ⟨h1, rfl⟩ := List.getElem?_eq_some_iff.1 ha
  obtain ⟨h2, rfl⟩ := List.getElem?_eq_some_iff.1 hb
  exact List.pairwise_iff_getElem.1 gath_ordered n (n + 1) h1 h2 (by omega)
/-- Keeping a furnace on a day is being one of its shifts. -/
theorem fit_mem {s : Season} (h : Fr s) {p : List (List Int)} (po : POk s p) {k : Nat} {d : Nat} (hd : (d : Int) < s.days) : fitD s p (k : Int) d = (shiftsF s (k : Int)).any fun r => decide (r = onF s p (makersF s (k : Int)) (d : Int)) := by
  have hmm : ∀ m ∈ makersF s (k : Int), 0 ≤ m ∧ m < s.makers.length := fun m hm => makersF_mem hm
  have hml := Nat.le_trans (makersF_len s (k : Int)) h.nm
  have r := onF_row h po hmm (by omega) hd
  rw [Bool.eq_iff_iff, List.any_eq_true]
  constructor
  · intro h1
    exact ⟨_, shifts_mem.2 ⟨r.len.symm, r.arts, h1⟩, by simp⟩
  · rintro ⟨l, hl, e⟩
    have e := of_decide_eq_true e
    subst e
    exact (shifts_mem.1 hl).2.2
end Go.Proofs.YtmkmegcconjgoaaG
