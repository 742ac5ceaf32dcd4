/- What all machines make, row by row. No condition. -/
import Derived.Test.YtmkmegcconjgoaaP16
set_option linter.unusedVariables false
set_option linter.unusedSimpArgs false
set_option maxRecDepth 100000
set_option maxHeartbeats 4000000
namespace Go.Proofs.YtmkmegcconjgoaaG
open Go Go.AM Go.Proofs

theorem mkFrom_get {k : Int} : ∀ {ms : List Mk} {i : Nat} {x : Int}, x ∈ mkFrom k ms i ↔ ∃ j M, ms[j]? = some M ∧ M.oven = k ∧ x = (i + j : Nat)
  | [], i, x => by simp [mkFrom]
  | m :: ms, i, x => by
    have ih := @mkFrom_get k ms (i + 1) x
    unfold mkFrom
    constructor
    · intro h
      split at h
      · rename_i ho
        rcases List.mem_cons.1 h with rfl | h
        · exact ⟨0, m, rfl, ho, by simp⟩
        · obtain ⟨j, M, h1, h2, h3⟩ := ih.1 h
          exact ⟨j + 1, M, h1, h2, by omega⟩
      · obtain ⟨j, M, h1, h2, h3⟩ := ih.1 h
        exact ⟨j + 1, M, h1, h2, by omega⟩
    · rintro ⟨j, M, h1, h2, h3⟩
      cases j with
      | zero =>
        simp at h1; subst h1
        rw [if_pos h2]; simp [h3]
      | succ j =>
        have := ih.2 ⟨j, M, by simpa using h1, h2, by omega⟩
        split
        · exact List.mem_cons_of_mem _ this
        · exact this
theorem mkFrom_nodup {k : Int} : ∀ {ms : List Mk} {i : Nat}, (mkFrom k ms i).Nodup
  | [], i => by simp [mkFrom]
  | m :: ms, i => by
    unfold mkFrom
    split
    · refine List.nodup_cons.2 ⟨fun h => ?_, mkFrom_nodup⟩
      have := mkFrom_mem h; omega
    · exact mkFrom_nodup
theorem makersF_iff {s : Season} {k x : Int} : x ∈ makersF s k ↔ ∃ (j : Nat) (M : Mk), s.makers[j]? = some M ∧ M.oven = k ∧ x = j := by
  unfold makersF; rw [mkFrom_get]; simp

theorem madeL_map (s : Season) (lost : Int) (f g : Int → Int) : ∀ (ms : List Int), madeL s lost ms (ms.map f) (ms.map g) = ms.map fun m => madeA s lost m (f m) (g m)
  | [] => rfl
  | m :: ms => by simp [madeL, madeL_map s lost f g ms]

/-- What a machine makes on a day. -/
def madeD (s : Season) (p : List (List Int)) (k : Int) (m : Int) (d : Nat) : Int :=
  madeA s (lostF s (onF s p (makersF s k) ((d : Int) - 1)) (onF s p (makersF s k) (d : Int))).1 m (onA s p ((d : Int) - 1) m) (onA s p (d : Int) m)

theorem addRow_get (f : Int → Int) : ∀ (ms : List Int) (xs : List (List Int)), ms.Nodup → (∀ m ∈ ms, 0 ≤ m ∧ m < xs.length) → ∀ (i : Nat) (x : List Int), xs[i]? = some x → (addRow xs ms (ms.map f))[i]? = some (if (i : Int) ∈ ms then x ++ [f i] else x)
  | [], xs, _, _, i, x, hx => by simp [addRow, hx]
  | m :: ms, xs, hn, hm, i, x, hx => by
    have hn' := List.nodup_cons.1 hn
    have hm0 := hm m (by simp)
    simp only [List.map_cons, addRow]
    obtain ⟨y, hy⟩ := get_lt (xs := xs) (i := m.toNat) (by omega)
    rw [hy, Option.getD_some]
    by_cases e : (i : Int) = m
    · have e2 : m.toNat = i := by omega
      have hyx : y = x := by rw [e2, hx] at hy; cases hy; rfl
      rw [addRow_get f ms _ hn'.2 (fun q hq => by have := hm q (by simp [hq]); simpa using this) i (y ++ [f m]) (by rw [e2]; exact List.getElem?_set_self (by omega))]
      rw [if_neg (e ▸ hn'.1), if_pos (by simp [e]), hyx, e]
    · rw [addRow_get f ms _ hn'.2 (fun q hq => by have := hm q (by simp [hq]); simpa using this) i x (by rw [List.getElem?_set_ne (by omega)]; exact hx)]
      have : ((i : Int) ∈ m :: ms) ↔ (i : Int) ∈ ms := by simp [e]
      simp [this]

theorem dayF_get {s : Season} {p : List (List Int)} {k : Int} {xs : List (List Int)} {c : Int} (hl : xs.length = s.makers.length) (d i : Nat) (x : List Int) (hx : xs[i]? = some x) :
    (dayF s p (makersF s k) (xs, c) d).1[i]? = some (if (i : Int) ∈ makersF s k then x ++ [madeD s p k i d] else x) := by
  have h1 : (workedF s (makersF s k) (onF s p (makersF s k) ((d : Int) - 1)) (onF s p (makersF s k) (d : Int))).1 = (makersF s k).map fun m => madeD s p k m d := by
    unfold workedF
    simp only
    unfold onF
    rw [madeL_map]
    rfl
  unfold dayF
  simp only
  rw [h1]
  exact addRow_get _ _ _ mkFrom_nodup (fun m hm => by have := makersF_mem hm; omega) i x hx
theorem dayF_len {s : Season} {p : List (List Int)} {ms : List Int} {st : List (List Int) × Int} {d : Nat} : (dayF s p ms st d).1.length = st.1.length := by unfold dayF; exact addRow_len _ _ _

theorem days_get {s : Season} {p : List (List Int)} {k : Int} : ∀ (ds : List Nat) (st : List (List Int) × Int), st.1.length = s.makers.length → ∀ (i : Nat) (x : List Int), st.1[i]? = some x →
    (ds.foldl (dayF s p (makersF s k)) st).1[i]? = some (if (i : Int) ∈ makersF s k then x ++ ds.map (madeD s p k i) else x) ∧ (ds.foldl (dayF s p (makersF s k)) st).1.length = s.makers.length
  | [], st, hl, i, x, hx => by simp [hx, hl]
  | d :: ds, ⟨xs, c⟩, hl, i, x, hx => by
    have h1 := dayF_get (p := p) (k := k) (c := c) hl d i x hx
    have h2 := days_get (p := p) (k := k) ds (dayF s p (makersF s k) (xs, c) d) (dayF_len.trans hl) i _ h1
    rw [List.foldl_cons]
    refine ⟨?_, h2.2⟩
    rw [h2.1]
    split <;> simp

/-- What a machine makes, day by day. -/
def rowM (s : Season) (p : List (List Int)) (k : Int) (i : Nat) : List Int := (List.range s.days.toNat).map (madeD s p k (i : Int))
theorem ovens_get {s : Season} {p : List (List Int)} {i : Nat} {M : Mk} (hM : s.makers[i]? = some M) : ∀ (ks : List Nat), ks.Nodup → ∀ (st : List (List Int) × Int), st.1.length = s.makers.length → ∀ x, st.1[i]? = some x →
    (ks.foldl (daysF s p) st).1[i]? = some (x ++ if M.oven ∈ ks.map (fun (k : Nat) => (k : Int)) then rowM s p M.oven i else []) ∧ (ks.foldl (daysF s p) st).1.length = s.makers.length
  | [], _, st, hl, x, hx => by simp [hx, hl]
  | k :: ks, hn, st, hl, x, hx => by
    have hn' := List.nodup_cons.1 hn
    have h1 := days_get (p := p) (k := (k : Int)) (List.range s.days.toNat) st hl i x hx
    have hk : ((i : Int) ∈ makersF s (k : Int)) ↔ M.oven = (k : Int) := by
      rw [makersF_iff]
      constructor
      · rintro ⟨j, M', h2, h3, h4⟩
        have : j = i := by omega
        subst this; rw [hM] at h2; cases h2; exact h3
      · intro h2; exact ⟨i, M, hM, h2, rfl⟩
    have h2 := ovens_get (p := p) hM ks hn'.2 (daysF s p st k) h1.2 _ h1.1
    rw [List.foldl_cons]
    refine ⟨?_, h2.2⟩
    rw [h2.1]
    by_cases e : M.oven = (k : Int)
    · have h3 : ¬ M.oven ∈ ks.map (fun (k : Nat) => (k : Int)) := fun h => by
        obtain ⟨q, hq, e2⟩ := List.mem_map.1 h
        have : q = k := by omega
        exact hn'.1 (this ▸ hq)
      rw [if_pos (hk.2 e), if_neg h3, if_pos (by simp [e])]
      simp [rowM, e]
    · rw [if_neg (fun h => e (hk.1 h))]
      congr 2
      simp [e]

theorem madeF_get {s : Season} (h : Fr s) (p : List (List Int)) : (madeF s p).1.length = s.makers.length ∧ ∀ i M, s.makers[i]? = some M → (madeF s p).1[i]? = some (rowM s p M.oven i) := by
  have key : ∀ i M, s.makers[i]? = some M → (madeF s p).1[i]? = some (rowM s p M.oven i) ∧ (madeF s p).1.length = s.makers.length := fun i M hM => by
    have hi := (List.getElem?_eq_some_iff.1 hM).1
    have hk := h.maker M (List.mem_of_getElem? hM)
    have := ovens_get (p := p) hM (List.range s.ovens.length) List.nodup_range (List.replicate s.makers.length [], 0) (by simp) [] (by simp [hi])
    have hin : M.oven ∈ (List.range s.ovens.length).map (fun (k : Nat) => (k : Int)) := List.mem_map.2 ⟨M.oven.toNat, List.mem_range.2 (by omega), by omega⟩
    rw [if_pos hin] at this
    simpa [madeF] using this
  refine ⟨?_, fun i M hM => (key i M hM).1⟩
  by_cases hz : s.makers.length = 0
  · have len : ∀ (ks : List Nat) (st : List (List Int) × Int), (ks.foldl (daysF s p) st).1.length = st.1.length := fun ks => by
      induction ks with
      | nil => intro st; rfl
      | cons k ks ih =>
        intro st
        rw [List.foldl_cons, ih]
        unfold daysF
        have : ∀ (ds : List Nat) (st : List (List Int) × Int), (ds.foldl (dayF s p (makersF s (k : Int))) st).1.length = st.1.length := fun ds => by
          induction ds with
          | nil => intro st; rfl
          | cons d ds ih2 => intro st; rw [List.foldl_cons, ih2]; exact dayF_len
        exact this _ _
    unfold madeF; rw [len]; simp
  · obtain ⟨M, hM⟩ := get_lt (xs := s.makers) (i := 0) (by omega)
    exact (key 0 M hM).2
end Go.Proofs.YtmkmegcconjgoaaG
