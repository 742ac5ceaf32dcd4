/- The best plan does not hang on the order in which plans are seen. No condition. -/
import Derived.Test.YtmkmegcconjgoaaQ7
set_option linter.unusedVariables false
set_option linter.unusedSimpArgs false
set_option maxRecDepth 100000
set_option maxHeartbeats 4000000
namespace Go.Proofs.YtmkmegcconjgoaaG
open Go Go.AM Go.Proofs

structure Cmp {α : Type} (c : α → α → Int) : Prop where
  rfl : ∀ x, c x x = 0
  eq : ∀ x y, c x y = 0 → x = y
  pos : ∀ x y, 0 < c x y → c y x < 0
  neg : ∀ x y, c x y < 0 → 0 < c y x
  trans : ∀ x y z, c x y < 0 → c y z < 0 → c x z < 0
theorem Cmp.list {α : Type} {c : α → α → Int} (h : Cmp c) : Cmp (cmpG c) where
  rfl := fun x => by
    induction x with
    | nil => rfl
    | cons a l ih => simp only [cmpG]; rw [h.rfl, if_neg (by simp)]; exact ih
  eq := fun x => by
    induction x with
    | nil => intro y hy; cases y with
      | nil => rfl
      | cons b l => simp [cmpG] at hy
    | cons a l ih => intro y hy; cases y with
      | nil => simp [cmpG] at hy
      | cons b m =>
        simp only [cmpG] at hy
        split at hy
        · rename_i h1; exact absurd hy h1
        · rename_i h1
          rw [h.eq a b (by omega), ih m hy]
  pos := fun x => by
    induction x with
    | nil => intro y hy; cases y with
      | nil => simp [cmpG] at hy
      | cons b l => simp [cmpG] at hy
    | cons a l ih => intro y hy; cases y with
      | nil => simp [cmpG]
      | cons b m =>
        simp only [cmpG] at hy ⊢
        split at hy
        · have := h.pos a b hy; rw [if_pos (by omega)]; exact this
        · rename_i h1
          have e := h.eq a b (by omega)
          subst e
          rw [h.rfl, if_neg (by simp)]
          exact ih m hy
  neg := fun x => by
    induction x with
    | nil => intro y hy; cases y with
      | nil => simp [cmpG] at hy
      | cons b l => simp [cmpG]
    | cons a l ih => intro y hy; cases y with
      | nil => simp [cmpG] at hy
      | cons b m =>
        simp only [cmpG] at hy ⊢
        split at hy
        · have := h.neg a b hy; rw [if_pos (by omega)]; exact this
        · rename_i h1
          have e := h.eq a b (by omega)
          subst e
          rw [h.rfl, if_neg (by simp)]
          exact ih m hy
  trans := fun x => by
    induction x with
    | nil => intro y z h1 h2; cases y with
      | nil => simp [cmpG] at h1
      | cons b l => cases z with
        | nil => simp [cmpG] at h2
        | cons d n => simp [cmpG]
    | cons a l ih => intro y z h1 h2; cases y with
      | nil => simp [cmpG] at h1
      | cons b m => cases z with
        | nil => simp [cmpG] at h2
        | cons d n =>
          simp only [cmpG] at h1 h2 ⊢
          split at h1
          · split at h2
            · have := h.trans a b d h1 h2; rw [if_pos (by omega)]; exact this
            · rename_i h4
              have e := h.eq b d (by omega)
              subst e
              rw [if_pos (by omega)]; exact h1
          · rename_i h3
            have e := h.eq a b (by omega)
            subst e
            split at h2
            · rename_i h4
              rw [if_pos h4]; exact h2
            · rename_i h4
              rw [if_neg h4]; exact ih m n h1 h2
theorem cmp_int : Cmp (fun x y : Int => x - y) := ⟨fun x => by omega, fun x y h => by omega, fun x y h => by omega, fun x y h => by omega, fun x y z h1 h2 => by omega⟩
theorem cmp_plan : Cmp cmpL := cmp_int.list.list
def better (s : Season) (p q : Plan) : Prop := costF s p < costF s q ∨ (costF s p = costF s q ∧ cmpL p q < 0)
theorem better_irr {s : Season} {p : Plan} : ¬ better s p p := fun h => by
  rcases h with h | h
  · omega
  · have := cmp_plan.rfl p; omega
theorem better_trans {s : Season} {p q r : Plan} (h1 : better s p q) (h2 : better s q r) : better s p r := by
  rcases h1 with h1 | h1 <;> rcases h2 with h2 | h2
  · exact .inl (by omega)
  · exact .inl (by omega)
  · exact .inl (by omega)
  · exact .inr ⟨by omega, cmp_plan.trans _ _ _ h1.2 h2.2⟩
theorem better_or {s : Season} (p q : Plan) : better s p q ∨ p = q ∨ better s q p := by
  rcases Int.lt_trichotomy (costF s p) (costF s q) with h | h | h
  · exact .inl (.inl h)
  · rcases Int.lt_trichotomy (cmpL p q) 0 with h2 | h2 | h2
    · exact .inl (.inr ⟨h, h2⟩)
    · exact .inr (.inl (cmp_plan.eq _ _ h2))
    · exact .inr (.inr (.inr ⟨h.symm, cmp_plan.pos _ _ h2⟩))
  · exact .inr (.inr (.inl h))
theorem upd_eq {s : Season} {p q : Plan} : (better s p q ∧ updF s (some q) p = some p) ∨ (¬ better s p q ∧ updF s (some q) p = some q) := by
  simp only [updF]
  by_cases h1 : costF s p < costF s q
  · exact .inl ⟨.inl h1, if_pos h1⟩
  · rw [if_neg h1]
    by_cases h2 : costF s p = costF s q ∧ cmpL p q < 0
    · exact .inl ⟨.inr h2, if_pos h2⟩
    · refine .inr ⟨fun h => ?_, if_neg h2⟩
      rcases h with h | h
      · exact h1 h
      · exact h2 h
/-- What a fold finds: one of them, and none is better. -/
theorem fold_min {s : Season} : ∀ {l : List Plan} {q : Plan}, ∃ m, l.foldl (updF s) (some q) = some m ∧ (m = q ∨ m ∈ l) ∧ ¬ better s q m ∧ ∀ x ∈ l, ¬ better s x m
  | [], q => ⟨q, rfl, .inl rfl, better_irr, fun x hx => by simp at hx⟩
  | p :: l, q => by
    simp only [List.foldl_cons]
    rcases upd_eq (s := s) (p := p) (q := q) with ⟨h1, h2⟩ | ⟨h1, h2⟩
    · rw [h2]
      obtain ⟨m, e, hm, hq, hl⟩ := fold_min (s := s) (l := l) (q := p)
      refine ⟨m, e, ?_, fun h => ?_, fun x hx => ?_⟩
      · rcases hm with hm | hm
        · exact .inr (by simp [hm])
        · exact .inr (by simp [hm])
      · exact hq (better_trans h1 h)
      · rcases List.mem_cons.1 hx with rfl | hx
        · exact hq
        · exact hl x hx
    · rw [h2]
      obtain ⟨m, e, hm, hq, hl⟩ := fold_min (s := s) (l := l) (q := q)
      refine ⟨m, e, ?_, hq, fun x hx => ?_⟩
      · rcases hm with hm | hm
        · exact .inl hm
        · exact .inr (by simp [hm])
      · rcases List.mem_cons.1 hx with rfl | hx
        · intro h
          rcases better_or (s := s) x q with h3 | h3 | h3
          · exact h1 h3
          · subst h3; exact hq h
          · exact hq (better_trans h3 h)
        · exact hl x hx
theorem mem_or {α : Type} {x a : α} {l : List α} (h : x = a ∨ x ∈ l) : x ∈ a :: l := by
  rcases h with h | h
  · rw [h]; exact List.mem_cons_self
  · exact List.mem_cons_of_mem _ h
theorem fold_same {s : Season} {l1 l2 : List Plan} (h : ∀ x, x ∈ l1 ↔ x ∈ l2) : l1.foldl (updF s) none = l2.foldl (updF s) none := by
  cases l1 with
  | nil =>
    cases l2 with
    | nil => rfl
    | cons b l2 => have := (h b).2 (by simp); simp at this
  | cons a l1 =>
    cases l2 with
    | nil => have := (h a).1 (by simp); simp at this
    | cons b l2 =>
      simp only [List.foldl_cons]
      have e1 : updF s none a = some a := rfl
      have e2 : updF s none b = some b := rfl
      rw [e1, e2]
      obtain ⟨m1, f1, hm1, hq1, hl1⟩ := fold_min (s := s) (l := l1) (q := a)
      obtain ⟨m2, f2, hm2, hq2, hl2⟩ := fold_min (s := s) (l := l2) (q := b)
      rw [f1, f2]
      have i1 : m1 ∈ b :: l2 := (h m1).1 (mem_or hm1)
      have i2 : m2 ∈ a :: l1 := (h m2).2 (mem_or hm2)
      have n1 : ¬ better s m1 m2 := by
        rcases List.mem_cons.1 i1 with e | e
        · rw [e]; exact hq2
        · exact hl2 _ e
      have n2 : ¬ better s m2 m1 := by
        rcases List.mem_cons.1 i2 with e | e
        · rw [e]; exact hq1
        · exact hl1 _ e
      rcases better_or (s := s) m1 m2 with h3 | h3 | h3
      · exact absurd h3 n1
      · rw [h3]
      · exact absurd h3 n2
end Go.Proofs.YtmkmegcconjgoaaG
