/- The specification's search sees just the plans that keep the season. No condition. -/
import Derived.Test.YtmkmegcconjgoaaQ8
set_option linter.unusedVariables false
set_option linter.unusedSimpArgs false
set_option maxRecDepth 100000
set_option maxHeartbeats 4000000
namespace Go.Proofs.YtmkmegcconjgoaaG
open Go Go.AM Go.Proofs

/-- On each day the articles of each furnace's machines are one of its shifts. -/
structure InS (s : Season) (P : Plan) : Prop where
  pok : POk s P
  on : ∀ (k d : Nat), k < s.ovens.length → (d : Int) < s.days → onF s P (makersF s (k : Int)) (d : Int) ∈ shiftsF s (k : Int)
theorem cell_of {p : Plan} {m d : Nat} {r : List Int} {x : Int} (h1 : p[m]? = some r) (h2 : r[d]? = some x) : cell p (m : Int) (d : Int) = x := by
  unfold cell; rw [Int.toNat_natCast, Int.toNat_natCast, h1]; simp [h2]
theorem cell_eq {p q : Plan} {m d : Nat} (h : (p[m]?).bind (·[d]?) = (q[m]?).bind (·[d]?)) : cell p (m : Int) (d : Int) = cell q (m : Int) (d : Int) := by
  unfold cell; rw [Int.toNat_natCast, Int.toNat_natCast, h]
theorem onA_cell {s : Season} {p : Plan} {d : Nat} {m : Int} : onA s p (d : Int) m = cell p m (d : Int) := by unfold onA; rw [if_neg (by omega)]
theorem onF_same {s : Season} {p q : Plan} {k d : Nat} (h : ∀ (m : Nat) (M : Mk), s.makers[m]? = some M → M.oven = (k : Int) → cell p (m : Int) (d : Int) = cell q (m : Int) (d : Int)) : onF s p (makersF s (k : Int)) (d : Int) = onF s q (makersF s (k : Int)) (d : Int) := by
  unfold onF
  refine List.map_congr_left fun x hx => ?_
  rw [onA_cell, onA_cell]
  obtain ⟨j, M, h1, h2, h3⟩ := mkFrom_iff.1 hx
  rw [Nat.zero_add] at h3
  subst h3
  exact h j M h1 h2
theorem onF_row' {s : Season} {p : Plan} {k d : Nat} {row : List Int} (hl : row.length = (makersF s (k : Int)).length) (h : ∀ (j m : Nat) (M : Mk) (x : Int), (makersF s (k : Int))[j]? = some (m : Int) → row[j]? = some x → s.makers[m]? = some M → M.oven = (k : Int) → cell p (m : Int) (d : Int) = x) :
    onF s p (makersF s (k : Int)) (d : Int) = row := by
  unfold onF
  refine List.ext_getElem? fun j => ?_
  rw [List.getElem?_map]
  cases e : (makersF s (k : Int))[j]? with
  | none =>
    have : row[j]? = none := by
      rw [List.getElem?_eq_none_iff] at e ⊢; omega
    rw [this]; rfl
  | some y =>
    have hj := (List.getElem?_eq_some_iff.1 e).1
    obtain ⟨x, hx⟩ := get_lt (xs := row) (i := j) (by omega)
    obtain ⟨m, M, h1, h2, h3⟩ := mkFrom_iff.1 (List.mem_of_getElem? e)
    rw [Nat.zero_add] at h3
    subst h3
    rw [hx]
    simp only [Option.map_some, onA_cell]
    rw [h j m M x e hx h1 h2]
/-- Of the days that are chosen the same. -/
def Inv (s : Season) (n o : Nat) (p : Plan) : Prop := ∀ (k d : Nat), k < s.ovens.length → ((d : Int) < s.days - n ∨ ((d : Int) = s.days - n ∧ k < o)) → onF s p (makersF s (k : Int)) (d : Int) ∈ shiftsF s (k : Int)
theorem inv_add {s : Season} {n o : Nat} {p : Plan} (hp : Pre s n o p) (h : Inv s n o p) (ho : o < s.ovens.length) {row : List Int} (hr : row ∈ shiftsF s (o : Int)) : Inv s n (o + 1) (putRow (makersF s (o : Int)) row p) := by
  intro k d hk hd
  have hs := shifts_mem.1 hr
  by_cases hc : (d : Int) = s.days - n ∧ k = o
  · obtain ⟨h1, rfl⟩ := hc
    rw [onF_row' (row := row) hs.1 (fun j m M x h2 h3 h4 h5 => ?_)]
    · exact hr
    · obtain ⟨j', x', r, g1, g2, g3, g4⟩ := putRow_at hp.len hs.1 h4 h5
      have hlt : (makersF s (k : Int)).Pairwise (fun a b => a.toNat ≠ b.toNat) := mkFrom_lt
      have hj : j' = j := by
        have e1 := List.getElem?_eq_some_iff.1 g1
        have e2 := List.getElem?_eq_some_iff.1 h2
        obtain ⟨b1, e1⟩ := e1
        obtain ⟨b2, e2⟩ := e2
        rcases Nat.lt_trichotomy j' j with h6 | h6 | h6
        · exact absurd (by rw [e1, e2]) (List.pairwise_iff_getElem.1 hlt j' j b1 b2 h6)
        · exact h6
        · exact absurd (by rw [e1, e2]) (List.pairwise_iff_getElem.1 hlt j j' b2 b1 h6)
      subst hj
      rw [g2] at h3
      cases h3
      have hrl := hp.rows m M r h4 g3
      rw [if_neg (by omega)] at hrl
      refine cell_of g4 ?_
      rw [List.getElem?_append_right (by omega), show d - r.length = 0 by omega]
      rfl
  · have h1 : (d : Int) < s.days - n ∨ ((d : Int) = s.days - n ∧ k < o) := by omega
    rw [onF_same (q := p) (fun m M h4 h5 => ?_)]
    · exact h k d hk h1
    · by_cases h6 : k = o
      · subst h6
        obtain ⟨j', x', r, g1, g2, g3, g4⟩ := putRow_at hp.len hs.1 h4 h5
        have hrl := hp.rows m M r h4 g3
        rw [if_neg (by omega)] at hrl
        refine cell_eq ?_
        rw [g4, g3]
        simp only [Option.bind_some]
        rw [List.getElem?_append_left (by omega)]
      · refine cell_eq ?_
        rw [putRow_not h4 (by omega)]
theorem leavesO_inv {s : Season} {n : Nat} : ∀ {rem : List Nat} {o : Nat} {p : Plan}, (List.range s.ovens.length).drop o = rem → o ≤ s.ovens.length → Pre s n o p → Inv s n o p → ∀ q ∈ leavesO s rem p, Inv s n s.ovens.length q
  | [], o, p, hr, ho, hp, hi, q, hq => by
    simp only [leavesO, List.mem_singleton] at hq
    subst hq
    have : o = s.ovens.length := by
      have := congrArg List.length hr
      simp at this; omega
    subst this
    exact hi
  | k :: rem, o, p, hr, ho, hp, hi, q, hq => by
    have hl : o < s.ovens.length := by
      have := congrArg List.length hr
      simp at this; omega
    have e : (List.range s.ovens.length)[o]? = some o := List.getElem?_range hl
    rw [drop_at e] at hr
    injection hr with h1 h2
    subst h1
    simp only [leavesO, List.mem_flatMap] at hq
    obtain ⟨row, h3, h4⟩ := hq
    exact leavesO_inv h2 hl (pre_add hp h3) (inv_add hp hi hl h3) q h4
theorem inv_day {s : Season} {n : Nat} {p : Plan} (h : Inv s (n + 1) s.ovens.length p) : Inv s n 0 p := fun k d hk hd => h k d hk (by omega)
theorem leafs_inv {s : Season} (hf : Fr s) : ∀ {n o : Nat} {p : Plan}, o ≤ s.ovens.length → (n = 0 → o = 0) → Pre s n o p → Inv s n o p → ∀ q ∈ leafs s n ((List.range s.ovens.length).drop o) p, Inv s 0 0 q
  | 0, o, p, _, h0, hp, hi, q, hq => by
    simp only [leafs, List.mem_singleton] at hq
    subst hq
    have := h0 rfl
    subst this
    exact hi
  | n + 1, o, p, ho, _, hp, hi, q, hq => by
    simp only [leafs, List.mem_flatMap] at hq
    obtain ⟨r, h1, h2⟩ := hq
    exact leafs_inv hf (o := 0) (Nat.zero_le _) (fun _ => rfl) (pre_day hf (leavesO_pre rfl ho hp r h1)) (inv_day (leavesO_inv rfl ho hp hi r h1)) q (by simpa using h2)
def allLeafs (s : Season) : List Plan := leafs s s.days.toNat (List.range s.ovens.length) (List.replicate s.makers.length [])
theorem leafs_in {s : Season} (hf : Fr s) {q : Plan} (hq : q ∈ allLeafs s) : InS s q := by
  have hd := hf.days
  have h0 : Inv s s.days.toNat 0 (List.replicate s.makers.length []) := fun k d hk h => by omega
  have h1 := leafs_inv hf (o := 0) (Nat.zero_le _) (fun _ => rfl) (pre_first hf) h0 q (by simpa [allLeafs] using hq)
  have h2 := leafs_pok hf (o := 0) (n := s.days.toNat) (Nat.zero_le _) (fun _ => rfl) (pre_first hf) q (by simpa [allLeafs] using hq)
  exact ⟨h2, fun k d hk hd => h1 k d hk (.inl (by omega))⟩
def prefL (s : Season) (n o : Nat) : List Mk → Plan → Plan
  | M :: Ms, r :: P => r.take ((s.days - n).toNat + (if M.oven < (o : Int) then 1 else 0)) :: prefL s n o Ms P
  | _, _ => []
theorem prefL_len {s : Season} {n o : Nat} : ∀ {Ms : List Mk} {P : Plan}, P.length = Ms.length → (prefL s n o Ms P).length = Ms.length
  | [], _, _ => rfl
  | _ :: _, [], h => by simp at h
  | M :: Ms, r :: P, h => by simp only [prefL, List.length_cons]; rw [prefL_len (by simpa using h)]
theorem prefL_get {s : Season} {n o : Nat} : ∀ {Ms : List Mk} {P : Plan} {m : Nat} {M : Mk} {r : List Int}, Ms[m]? = some M → P[m]? = some r → (prefL s n o Ms P)[m]? = some (r.take ((s.days - n).toNat + (if M.oven < (o : Int) then 1 else 0)))
  | [], _, _, _, _, h, _ => by simp at h
  | _ :: _, [], _, _, _, _, h => by simp at h
  | M0 :: Ms, r0 :: P, 0, M, r, h1, h2 => by simp at h1 h2; subst h1 h2; rfl
  | M0 :: Ms, r0 :: P, m + 1, M, r, h1, h2 => by
    simp only [prefL, List.getElem?_cons_succ] at *
    exact prefL_get h1 h2
theorem plan_ext {n : Nat} {p q : Plan} (hp : p.length = n) (hq : q.length = n) (h : ∀ m, m < n → p[m]? = q[m]?) : p = q := by
  refine List.ext_getElem? fun m => ?_
  rcases Nat.lt_or_ge m n with h1 | h1
  · exact h m h1
  · rw [List.getElem?_eq_none (by omega), List.getElem?_eq_none (by omega)]
theorem pref_add {s : Season} {n o : Nat} {P : Plan} (hP : POk s P) (hn : 0 < n) (hnd : (n : Int) ≤ s.days) :
    putRow (makersF s (o : Int)) (onF s P (makersF s (o : Int)) (((s.days - n).toNat : Nat) : Int)) (prefL s n o s.makers P) = prefL s n (o + 1) s.makers P := by
  have hl := prefL_len (s := s) (n := n) (o := o) hP.len
  have hl2 := prefL_len (s := s) (n := n) (o := o + 1) hP.len
  refine plan_ext (n := s.makers.length) (by unfold putRow; rw [setsF_len]; exact hl) hl2 fun m hm => ?_
  obtain ⟨M, hM⟩ := get_lt hm
  obtain ⟨r, hr⟩ := get_lt (xs := P) (i := m) (by have := hP.len; omega)
  have hrl := (hP.rows r (List.mem_of_getElem? hr)).1
  rw [prefL_get hM hr]
  by_cases ho : M.oven = (o : Int)
  · obtain ⟨j, x, r', g1, g2, g3, g4⟩ := putRow_at (row := onF s P (makersF s (o : Int)) (((s.days - n).toNat : Nat) : Int)) hl (by simp [onF]) hM ho
    rw [g4]
    rw [prefL_get hM hr] at g3
    cases g3
    rw [if_neg (by omega), if_pos (by omega)]
    unfold onF at g2
    rw [List.getElem?_map, g1] at g2
    simp only [Option.map_some, onA_cell] at g2
    obtain ⟨y, hy⟩ := get_lt (xs := r) (i := (s.days - n).toNat) (by omega)
    rw [cell_of hr hy] at g2
    cases g2
    rw [Nat.add_zero, List.take_add_one, hy]
    rfl
  · rw [putRow_not hM ho, prefL_get hM hr]
    by_cases h1 : M.oven < (o : Int)
    · rw [if_pos h1, if_pos (by omega)]
    · rw [if_neg h1, if_neg (by omega)]
theorem pref_day {s : Season} (hf : Fr s) {n : Nat} {P : Plan} (hP : POk s P) (hn : ((n + 1 : Nat) : Int) ≤ s.days) : prefL s (n + 1) s.ovens.length s.makers P = prefL s n 0 s.makers P := by
  refine plan_ext (n := s.makers.length) (prefL_len hP.len) (prefL_len hP.len) fun m hm => ?_
  obtain ⟨M, hM⟩ := get_lt hm
  obtain ⟨r, hr⟩ := get_lt (xs := P) (i := m) (by have := hP.len; omega)
  have hk := hf.maker M (List.mem_of_getElem? hM)
  rw [prefL_get hM hr, prefL_get hM hr, if_pos (by omega), if_neg (by omega)]
  congr 2
  omega
theorem pref_all {s : Season} (hf : Fr s) {P : Plan} (hP : POk s P) : prefL s 0 0 s.makers P = P := by
  refine plan_ext (n := s.makers.length) (prefL_len hP.len) hP.len fun m hm => ?_
  obtain ⟨M, hM⟩ := get_lt hm
  obtain ⟨r, hr⟩ := get_lt (xs := P) (i := m) (by have := hP.len; omega)
  have hrl := (hP.rows r (List.mem_of_getElem? hr)).1
  rw [prefL_get hM hr, hr, List.take_of_length_le (by omega)]
theorem pref_none {s : Season} (hf : Fr s) {P : Plan} (hP : POk s P) : prefL s s.days.toNat 0 s.makers P = List.replicate s.makers.length [] := by
  refine plan_ext (n := s.makers.length) (prefL_len hP.len) (by simp) fun m hm => ?_
  obtain ⟨M, hM⟩ := get_lt hm
  obtain ⟨r, hr⟩ := get_lt (xs := P) (i := m) (by have := hP.len; omega)
  have hk := hf.maker M (List.mem_of_getElem? hM)
  have hd := hf.days
  rw [prefL_get hM hr, if_neg (by omega), show (s.days - ((s.days.toNat : Nat) : Int)).toNat = 0 by omega]
  simp [hm]
theorem leafs_full {s : Season} (hf : Fr s) {P : Plan} (h : InS s P) : ∀ (n : Nat), (n : Int) ≤ s.days → ∀ (j o : Nat), o + j = s.ovens.length → (n = 0 → o = 0) → P ∈ leafs s n ((List.range s.ovens.length).drop o) (prefL s n o s.makers P) := by
  intro n
  induction n with
  | zero =>
    intro _ j o _ h0
    have := h0 rfl
    subst this
    simp only [leafs, List.mem_singleton]
    exact (pref_all hf h.pok).symm
  | succ n ih =>
    intro hn j
    induction j with
    | zero =>
      intro o ho _
      have : o = s.ovens.length := by omega
      subst this
      have hr : (List.range s.ovens.length).drop s.ovens.length = [] := by rw [List.drop_eq_nil_iff]; simp
      rw [hr, leafs_nil, pref_day hf h.pok hn]
      have := ih (by omega) s.ovens.length 0 (by omega) (fun _ => rfl)
      simpa using this
    | succ j ihj =>
      intro o ho _
      have hr : (List.range s.ovens.length).drop o = o :: (List.range s.ovens.length).drop (o + 1) := drop_at (List.getElem?_range (by omega))
      rw [hr, leafs_cons, List.mem_flatMap]
      refine ⟨onF s P (makersF s (o : Int)) (((s.days - ((n + 1 : Nat) : Int)).toNat : Nat) : Int), h.on o _ (by omega) (by omega), ?_⟩
      rw [pref_add h.pok (by omega) hn]
      exact ihj (o + 1) (by omega) (fun h => by omega)
/-- The leaves are just the plans that keep the season. -/
theorem leafs_iff {s : Season} (hf : Fr s) {P : Plan} : P ∈ allLeafs s ↔ InS s P := by
  refine ⟨leafs_in hf, fun h => ?_⟩
  have hd := hf.days
  have := leafs_full hf h s.days.toNat (by omega) s.ovens.length 0 (by omega) (fun _ => rfl)
  rw [pref_none hf h.pok] at this
  simpa [allLeafs] using this
end Go.Proofs.YtmkmegcconjgoaaG
