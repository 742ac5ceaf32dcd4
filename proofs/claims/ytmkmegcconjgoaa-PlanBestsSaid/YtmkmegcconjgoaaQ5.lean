/- The specification's search for the best plan. No condition. -/
import Derived.Test.YtmkmegcconjgoaaQ4
set_option linter.unusedVariables false
set_option linter.unusedSimpArgs false
set_option maxRecDepth 100000
set_option maxHeartbeats 4000000
namespace Go.Proofs.YtmkmegcconjgoaaG
open Go Go.AM Go.Proofs

theorem upd_ok {s : Season} {b : Option Plan} {p : Plan} (hb : ∀ q, b = some q → POk s q) (hp : POk s p) : ∀ q, updF s b p = some q → POk s q := by
  intro q hq
  cases b with
  | none => simp [updF] at hq; subst hq; exact hp
  | some r =>
    simp only [updF] at hq
    split at hq
    · cases hq; exact hp
    · split at hq
      · cases hq; exact hp
      · cases hq; exact hb _ rfl
theorem fold_ok {s : Season} : ∀ {l : List Plan} {b : Option Plan}, (∀ q, b = some q → POk s q) → (∀ p ∈ l, POk s p) → ∀ q, l.foldl (updF s) b = some q → POk s q
  | [], b, hb, _ => hb
  | p :: l, b, hb, hl => by
    simp only [List.foldl_cons]
    exact fold_ok (upd_ok hb (hl p (by simp))) (fun x hx => hl x (by simp [hx]))
theorem leavesO_pre {s : Season} {n : Nat} : ∀ {rem : List Nat} {o : Nat} {p : Plan}, (List.range s.ovens.length).drop o = rem → o ≤ s.ovens.length → Pre s n o p → ∀ q ∈ leavesO s rem p, Pre s n s.ovens.length q
  | [], o, p, hr, ho, hp, q, hq => by
    simp only [leavesO, List.mem_singleton] at hq
    subst hq
    have : o = s.ovens.length := by
      have := congrArg List.length hr
      simp at this; omega
    subst this
    exact hp
  | k :: rem, o, p, hr, ho, hp, q, hq => by
    have hl : o < s.ovens.length := by
      have := congrArg List.length hr
      simp at this; omega
    have e : (List.range s.ovens.length)[o]? = some o := List.getElem?_range hl
    rw [drop_at e] at hr
    injection hr with h1 h2
    subst h1
    simp only [leavesO, List.mem_flatMap] at hq
    obtain ⟨row, h3, h4⟩ := hq
    exact leavesO_pre h2 hl (pre_add hp h3) q h4
theorem leafs_pok {s : Season} (hf : Fr s) : ∀ {n o : Nat} {p : Plan}, o ≤ s.ovens.length → (n = 0 → o = 0) → Pre s n o p → ∀ q ∈ leafs s n ((List.range s.ovens.length).drop o) p, POk s q
  | 0, o, p, _, h0, hp, q, hq => by
    simp only [leafs, List.mem_singleton] at hq
    subst hq
    have := h0 rfl
    subst this
    exact pre_pok hf hp
  | n + 1, o, p, ho, _, hp, q, hq => by
    simp only [leafs, List.mem_flatMap] at hq
    obtain ⟨r, h1, h2⟩ := hq
    have h3 := pre_day hf (leavesO_pre rfl ho hp r h1)
    exact leafs_pok hf (o := 0) (Nat.zero_le _) (fun _ => rfl) h3 q (by simpa using h2)
theorem shifts_one {s : Season} (h : Fr s) (hz : s.makers.length = 0) (k : Int) : (shiftsF s k).length ≤ 1 := by
  rw [shifts_gath]
  have h1 := makersF_len s k
  have h2 : (makersF s k).length = 0 := by omega
  refine Nat.le_trans (gathF_len h.na) ?_
  rw [h2]; decide
theorem cells_same {s : Season} {p q : Plan} (hp : POk s p) (hq : POk s q) : ∀ (i : Nat) (r t : List Int), p[i]? = some r → q[i]? = some t → r.length = t.length ∧ r.length ≤ 1000000 → True := fun _ _ _ _ _ _ => trivial
theorem leaf_ok (s : Season) (h : Fr s) (h3 : s.makers.length ≤ 3) (p : Plan) (hp : POk s p) (b : Option Plan) (hb : ∀ q, b = some q → POk s q) (hz : s.makers.length = 0 → b = none) (L : D) (o : Int) :
    PureFn Try.prog 72 [seasonD s, L, int o, int s.days, planD p, bestD b] (bestD (updF s b p)) := by
  have hdy := h.days
  have hpl := hp.len
  have e1 : decide (s.days = s.days) = true := decide_eq_true rfl
  have cp := cost_ok' s h h3 p hp
  refine pureFn_by Try.func72 k72 rfl rfl ?_
  cases b with
  | none =>
    conv => whnf
    rw [e1]
    conv => whnf
    kernel_rfl
  | some q =>
    have hq := hb q rfl
    have hql := hq.len
    have cq := cost_ok' s h h3 q hq
    have le := least_ok p q (by omega) (by omega) (fun i r t hr ht => by
      have h1 := (hp.rows r (List.mem_of_getElem? hr)).1
      have h2 := (hq.rows t (List.mem_of_getElem? ht)).1
      omega)
    cases q with
    | nil => simp at hql; exact absurd (hz hql.symm) (by simp)
    | cons r q =>
      obtain ⟨R, hR⟩ : ∃ R, updF s (some (r :: q)) p = R := ⟨_, rfl⟩
      rw [hR]
      simp only [updF] at hR
      conv => whnf
      rw [e1]
      conv => whnf
      refine ⟨_, cp, ?_⟩
      conv => whnf
      refine ⟨_, cq, ?_⟩
      conv => whnf
      cases c1 : decide (costF s p < costF s (r :: q))
      · rw [if_neg (of_decide_eq_false c1)] at hR
        conv => whnf
        refine ⟨_, cp, ?_⟩
        conv => whnf
        refine ⟨_, cq, ?_⟩
        conv => whnf
        cases c2 : decide (costF s p = costF s (r :: q))
        · rw [if_neg (fun h => of_decide_eq_false c2 h.1)] at hR
          subst hR
          conv => whnf
          kernel_rfl
        · refine ⟨_, le, ?_⟩
          cases c3 : decide (cmpL p (r :: q) < 0)
          · rw [if_neg (fun h => of_decide_eq_false c3 h.2)] at hR
            subst hR
            conv => whnf
            kernel_rfl
          · rw [if_pos ⟨of_decide_eq_true c2, of_decide_eq_true c3⟩] at hR
            subst hR
            conv => whnf
            kernel_rfl
      · rw [if_pos (of_decide_eq_true c1)] at hR
        subst hR
        conv => whnf
        kernel_rfl
end Go.Proofs.YtmkmegcconjgoaaG
