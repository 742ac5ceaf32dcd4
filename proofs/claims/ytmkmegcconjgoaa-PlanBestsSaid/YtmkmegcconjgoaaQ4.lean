/- All plans, day by day and furnace by furnace. No condition. -/
import Derived.Test.YtmkmegcconjgoaaQ3
set_option linter.unusedVariables false
set_option linter.unusedSimpArgs false
set_option maxRecDepth 100000
set_option maxHeartbeats 4000000
namespace Go.Proofs.YtmkmegcconjgoaaG
open Go Go.AM Go.Proofs

abbrev Plan := List (List Int)
def setsF (base : Plan) : List Int → List Int → Plan → Plan
  | m :: ms, x :: row, q => setsF base ms row (q.set m.toNat (base.getD m.toNat [] ++ [x]))
  | _, _, q => q
def putRow (ms row : List Int) (p : Plan) : Plan := setsF p ms row p
theorem setsF_len {base : Plan} : ∀ {ms row : List Int} {q : Plan}, (setsF base ms row q).length = q.length
  | [], _, q => rfl
  | _ :: _, [], q => rfl
  | m :: ms, x :: row, q => by simp only [setsF]; rw [setsF_len]; simp
theorem setsF_not {base : Plan} {i : Nat} : ∀ {ms row : List Int} {q : Plan}, (∀ m ∈ ms, m.toNat ≠ i) → (setsF base ms row q)[i]? = q[i]?
  | [], _, q, _ => rfl
  | _ :: _, [], q, _ => rfl
  | m :: ms, x :: row, q, h => by
    simp only [setsF]
    rw [setsF_not fun y hy => h y (by simp [hy]), List.getElem?_set_ne (h m (by simp))]
theorem setsF_at {base : Plan} : ∀ {ms row : List Int} {q : Plan} {j : Nat} {m x : Int}, ms.Pairwise (fun a b => a.toNat ≠ b.toNat) → ms[j]? = some m → row[j]? = some x → m.toNat < q.length →
    (setsF base ms row q)[m.toNat]? = some (base.getD m.toNat [] ++ [x])
  | [], _, q, j, m, x, _, h, _, _ => by simp at h
  | _ :: _, [], q, j, m, x, _, _, h, _ => by simp at h
  | m0 :: ms, x0 :: row, q, 0, m, x, hp, h1, h2, hq => by
    simp at h1 h2
    subst h1 h2
    have hp := List.pairwise_cons.1 hp
    simp only [setsF]
    rw [setsF_not fun y hy => (hp.1 y hy).symm]
    simp [hq]
  | m0 :: ms, x0 :: row, q, j + 1, m, x, hp, h1, h2, hq => by
    have hp := List.pairwise_cons.1 hp
    simp only [setsF]
    exact setsF_at hp.2 (by simpa using h1) (by simpa using h2) (by simpa using hq)
theorem mkFrom_lt {k : Int} : ∀ {ms : List Mk} {i : Nat}, (mkFrom k ms i).Pairwise (fun a b => a.toNat ≠ b.toNat)
  | [], i => .nil
  | m :: ms, i => by
    unfold mkFrom
    split
    · refine .cons (fun y hy => ?_) mkFrom_lt
      have := mkFrom_mem hy
      omega
    · exact mkFrom_lt
theorem mkFrom_iff {k : Int} : ∀ {ms : List Mk} {i : Nat} {x : Int}, x ∈ mkFrom k ms i ↔ ∃ j m, ms[j]? = some m ∧ m.oven = k ∧ x = ((i + j : Nat) : Int)
  | [], i, x => by simp [mkFrom]
  | m :: ms, i, x => by
    have ih := mkFrom_iff (k := k) (ms := ms) (i := i + 1) (x := x)
    unfold mkFrom
    constructor
    · intro h
      split at h
      · rename_i h1
        rcases List.mem_cons.1 h with rfl | h
        · exact ⟨0, m, rfl, h1, rfl⟩
        · obtain ⟨j, m', h2, h3, h4⟩ := ih.1 h
          exact ⟨j + 1, m', h2, h3, by rw [h4]; congr 1; omega⟩
      · obtain ⟨j, m', h2, h3, h4⟩ := ih.1 h
        exact ⟨j + 1, m', h2, h3, by rw [h4]; congr 1; omega⟩
    · rintro ⟨j, m', h2, h3, h4⟩
      cases j with
      | zero =>
        simp at h2
        subst h2
        rw [if_pos h3, h4]
        simp
      | succ j =>
        have h5 := ih.2 ⟨j, m', by simpa using h2, h3, by rw [h4]; congr 1; omega⟩
        split
        · exact List.mem_cons_of_mem _ h5
        · exact h5
theorem makers_in {s : Season} {k m : Nat} {M : Mk} (hM : s.makers[m]? = some M) (ho : M.oven = (k : Int)) : (m : Int) ∈ makersF s (k : Int) := mkFrom_iff.2 ⟨m, M, hM, ho, by simp⟩
theorem makers_not {s : Season} {k m : Nat} {M : Mk} (hM : s.makers[m]? = some M) (ho : M.oven ≠ (k : Int)) : ∀ x ∈ makersF s (k : Int), x.toNat ≠ m := fun x hx e => by
  obtain ⟨j, M', h1, h2, h3⟩ := mkFrom_iff.1 hx
  have : j = m := by omega
  subst this
  rw [hM] at h1
  cases h1
  exact ho h2
/-- Plans of which some days are chosen: of the furnaces ahead of o one day more. -/
structure Pre (s : Season) (n o : Nat) (p : Plan) : Prop where
  len : p.length = s.makers.length
  rows : ∀ (m : Nat) (M : Mk) (r : List Int), s.makers[m]? = some M → p[m]? = some r → (r.length : Int) = s.days - n + (if M.oven < (o : Int) then 1 else 0)
  arts : ∀ r ∈ p, Arts s r
theorem putRow_at {s : Season} {k m : Nat} {M : Mk} {p : Plan} {row : List Int} (hl : p.length = s.makers.length) (hr : row.length = (makersF s (k : Int)).length) (hM : s.makers[m]? = some M) (ho : M.oven = (k : Int)) :
    ∃ (j : Nat) (x : Int) (r : List Int), (makersF s (k : Int))[j]? = some (m : Int) ∧ row[j]? = some x ∧ p[m]? = some r ∧ (putRow (makersF s (k : Int)) row p)[m]? = some (r ++ [x]) := by
  have hm := (List.getElem?_eq_some_iff.1 hM).1
  obtain ⟨j, hj, hje⟩ := List.mem_iff_getElem.1 (makers_in hM ho)
  obtain ⟨x, hx⟩ := get_lt (xs := row) (i := j) (by omega)
  obtain ⟨r, hr2⟩ := get_lt (xs := p) (i := m) (by omega)
  have hj2 : (makersF s (k : Int))[j]? = some (m : Int) := by rw [List.getElem?_eq_getElem hj, hje]
  have hlt : (makersF s (k : Int)).Pairwise (fun a b => a.toNat ≠ b.toNat) := mkFrom_lt
  have := setsF_at (base := p) (q := p) hlt hj2 hx (by simp; omega)
  rw [Int.toNat_natCast] at this
  refine ⟨j, x, r, hj2, hx, hr2, ?_⟩
  unfold putRow
  rw [this, getD_of hr2]
theorem putRow_not {s : Season} {k m : Nat} {M : Mk} {p : Plan} {row : List Int} (hM : s.makers[m]? = some M) (ho : M.oven ≠ (k : Int)) : (putRow (makersF s (k : Int)) row p)[m]? = p[m]? := setsF_not (makers_not hM ho)
theorem pre_add {s : Season} {n o : Nat} {p : Plan} (h : Pre s n o p) {row : List Int} (hr : row ∈ shiftsF s (o : Int)) : Pre s n (o + 1) (putRow (makersF s (o : Int)) row p) := by
  have hs := shifts_mem.1 hr
  have hl : (putRow (makersF s (o : Int)) row p).length = s.makers.length := by unfold putRow; rw [setsF_len, h.len]
  refine ⟨hl, fun m M r hM hx => ?_, fun r hx => ?_⟩
  · by_cases ho : M.oven = (o : Int)
    · obtain ⟨j, x, r', h1, h2, h3, h4⟩ := putRow_at h.len hs.1 hM ho
      rw [h4] at hx
      cases hx
      have := h.rows m M r' hM h3
      rw [if_neg (by omega)] at this
      rw [if_pos (by omega)]
      simp; omega
    · rw [putRow_not hM ho] at hx
      have := h.rows m M r hM hx
      rw [this]
      by_cases h1 : M.oven < (o : Int)
      · rw [if_pos h1, if_pos (by omega)]
      · rw [if_neg h1, if_neg (by omega)]
  · obtain ⟨m, hm, hme⟩ := List.mem_iff_getElem.1 hx
    obtain ⟨M, hM⟩ := get_lt (xs := s.makers) (i := m) (by omega)
    have hx2 : (putRow (makersF s (o : Int)) row p)[m]? = some r := by rw [List.getElem?_eq_getElem hm, hme]
    by_cases ho : M.oven = (o : Int)
    · obtain ⟨j, x, r', h1, h2, h3, h4⟩ := putRow_at h.len hs.1 hM ho
      rw [h4] at hx2
      cases hx2
      intro a ha
      rcases List.mem_append.1 ha with ha | ha
      · exact h.arts r' (List.mem_of_getElem? h3) a ha
      · simp at ha; subst ha; exact hs.2.1 a (List.mem_of_getElem? h2)
    · rw [putRow_not hM ho] at hx2
      exact h.arts r (List.mem_of_getElem? hx2)
theorem pre_day {s : Season} (hf : Fr s) {n : Nat} {p : Plan} (h : Pre s (n + 1) s.ovens.length p) : Pre s n 0 p := by
  refine ⟨h.len, fun m M r hM hx => ?_, h.arts⟩
  have := h.rows m M r hM hx
  have hk := hf.maker M (List.mem_of_getElem? hM)
  rw [if_pos (by omega)] at this
  rw [if_neg (by omega), this]
  omega
theorem pre_pok {s : Season} (hf : Fr s) {p : Plan} (h : Pre s 0 0 p) : POk s p := by
  refine ⟨h.len, fun r hr => ⟨?_, h.arts r hr⟩⟩
  obtain ⟨m, hm, hme⟩ := List.mem_iff_getElem.1 hr
  obtain ⟨M, hM⟩ := get_lt (xs := s.makers) (i := m) (by have := h.len; omega)
  have hk := hf.maker M (List.mem_of_getElem? hM)
  have := h.rows m M r hM (by rw [List.getElem?_eq_getElem hm, hme])
  rw [if_neg (by omega)] at this
  omega
theorem pre_first {s : Season} (hf : Fr s) : Pre s s.days.toNat 0 (List.replicate s.makers.length []) := by
  refine ⟨by simp, fun m M r hM hx => ?_, fun r hr => ?_⟩
  · have := List.eq_of_mem_replicate (List.mem_of_getElem? hx)
    subst this
    have hk := hf.maker M (List.mem_of_getElem? hM)
    have hd := hf.days
    rw [if_neg (by omega)]
    simp; omega
  · rw [List.eq_of_mem_replicate hr]
    intro a ha
    simp at ha
def leavesO (s : Season) : List Nat → Plan → List Plan
  | [], p => [p]
  | k :: rem, p => (shiftsF s (k : Int)).flatMap fun row => leavesO s rem (putRow (makersF s (k : Int)) row p)
def leafs (s : Season) : Nat → List Nat → Plan → List Plan
  | 0, _, p => [p]
  | n + 1, rem, p => (leavesO s rem p).flatMap (leafs s n (List.range s.ovens.length))
theorem leafs_nil {s : Season} {n : Nat} {p : Plan} : leafs s (n + 1) [] p = leafs s n (List.range s.ovens.length) p := by simp [leafs, leavesO]
theorem leafs_cons {s : Season} {n k : Nat} {rem : List Nat} {p : Plan} : leafs s (n + 1) (k :: rem) p = (shiftsF s (k : Int)).flatMap fun row => leafs s (n + 1) rem (putRow (makersF s (k : Int)) row p) := by
  simp only [leafs, leavesO, List.flatMap_assoc]
/-- The better one of a best plan so far and a plan. -/
def updF (s : Season) : Option Plan → Plan → Option Plan
  | none, p => some p
  | some q, p => if costF s p < costF s q then some p else if costF s p = costF s q ∧ cmpL p q < 0 then some p else some q
def bestD : Option Plan → D
  | none => nilD
  | some p => planD p
end Go.Proofs.YtmkmegcconjgoaaG
