/- Greater orders: what they leave as it was, and costs. No condition. -/
import Derived.Test.YtmkmegcconjgoaaP32
set_option linter.unusedVariables false
set_option linter.unusedSimpArgs false
set_option maxRecDepth 100000
set_option maxHeartbeats 4000000
namespace Go.Proofs.YtmkmegcconjgoaaG
open Go Go.AM Go.Proofs

def OrdUp (o o' : Ord) : Prop := o'.article = o.article ∧ o'.due = o.due ∧ o.quantity ≤ o'.quantity ∧ o'.quantity ≤ 1000000 ∧ o.penalty ≤ o'.penalty ∧ o'.penalty ≤ 1000000
structure OrdsUp (a b : List Ord) : Prop where
  len : b.length = a.length
  get : ∀ (j : Nat) (o : Ord), a[j]? = some o → ∃ o', b[j]? = some o' ∧ OrdUp o o'
def withO (s : Season) (l : List Ord) : Season := { s with orders := l }
theorem OrdsUp.refl {a : List Ord} (h : ∀ o ∈ a, o.quantity ≤ 1000000 ∧ o.penalty ≤ 1000000) : OrdsUp a a :=
  ⟨rfl, fun j o ho => ⟨o, ho, rfl, rfl, Int.le_refl _, (h o (List.mem_of_getElem? ho)).1, Int.le_refl _, (h o (List.mem_of_getElem? ho)).2⟩⟩
theorem OrdsUp.set {a b : List Ord} (h : OrdsUp a b) {i : Nat} {o' v : Ord} (hb : b[i]? = some o') (hv : ∀ o, OrdUp o o' → OrdUp o v) : OrdsUp a (b.set i v) :=
  ⟨by simp [h.len], fun j o ho => by
    obtain ⟨w, hw, u⟩ := h.get j o ho
    by_cases e : i = j
    · subst e
      have hl := (List.getElem?_eq_some_iff.1 hb).1
      rw [hb] at hw; cases hw
      exact ⟨v, by simp [hl], hv o u⟩
    · exact ⟨w, by simp [e, hw], u⟩⟩
theorem OrdsUp.articles {a b : List Ord} (h : OrdsUp a b) : b.map (·.article) = a.map (·.article) := by
  apply List.ext_getElem?
  intro j
  simp only [List.getElem?_map]
  cases ha : a[j]? with
  | none =>
    have : b[j]? = none := by rw [List.getElem?_eq_none_iff] at *; have := h.len; omega
    rw [this]
  | some o =>
    obtain ⟨o', e, u, _⟩ := h.get j o ha
    rw [e]; simp [u]
theorem any_articles {a b : List Ord} (h : b.map (·.article) = a.map (·.article)) (i : Nat) (n : Int) : (b.take i).any (fun x => decide (x.article = n)) = (a.take i).any fun x => decide (x.article = n) := by
  have e : ∀ l : List Ord, (l.take i).any (fun x => decide (x.article = n)) = ((l.map (·.article)).take i).any fun y => decide (y = n) := fun l => by
    rw [← List.map_take, List.any_map]; rfl
  rw [e, e, h]
theorem firstE_of {α : Type} {e : Nat → α → Int} : ∀ {xs : List α} {i : Nat}, (∀ j x, xs[j]? = some x → e (i + j) x = 0) → firstE e xs i = 0
  | [], _, _ => rfl
  | x :: xs, i, h => by
    have h0 : e i x = 0 := by simpa using h 0 x rfl
    rw [firstE, if_pos h0]
    exact firstE_of fun j y hy => by
      have := h (j + 1) y (by simpa using hy)
      rw [show i + 1 + j = i + (j + 1) by omega]; exact this
theorem ordersE_up {s : Season} {l : List Ord} (h : OrdsUp s.orders l) (h0 : ordersE s = 0) : ordersE (withO s l) = 0 := by
  unfold ordersE at h0 ⊢
  have hl : (withO s l).orders.length = s.orders.length := h.len
  split at h0
  · cases h0
  · rename_i h1
    rw [hl, if_neg (show ¬ (withO s l).arts.length < s.orders.length from h1)]
    refine firstE_of fun j o' ho' => ?_
    have hj : j < s.orders.length := by rw [← hl]; exact (List.getElem?_eq_some_iff.1 ho').1
    obtain ⟨o, ho⟩ := get_lt hj
    obtain ⟨o2, e, u1, u2, u3, u4, u5, u6⟩ := h.get j o ho
    have : o2 = o' := by rw [show (withO s l).orders = l from rfl] at ho'; rw [ho'] at e; exact (Option.some.inj e).symm
    subst this
    have hz := firstE_zero h0 j o ho
    rw [Nat.zero_add] at hz ⊢
    unfold ordE at hz ⊢
    rw [u1, show (withO s l).orders = l from rfl, any_articles h.articles j o.article]
    show (if withinF o.article 0 ((s.arts.length : Int) - 1) = false then (7 : Int) else if ((s.orders.take j).any fun x => decide (x.article = o.article)) = true then 6 else if ordBad (withO s l) o2 = true then 1 else 0) = 0
    split at hz
    · cases hz
    · rename_i h2
      rw [if_neg h2]
      split at hz
      · cases hz
      · rename_i h3
        rw [if_neg h3]
        split at hz
        · cases hz
        · rename_i h4
          rw [if_neg]
          simp only [ordBad, withinF, show (withO s l).days = s.days from rfl] at h4 ⊢
          simp only [Bool.or_eq_true, Bool.not_eq_true', Bool.and_eq_false_iff, decide_eq_false_iff_not, not_or, Decidable.not_not] at h4 ⊢
          rw [u2]
          omega
theorem checkE_up {s : Season} {l : List Ord} (h : OrdsUp s.orders l) (h0 : checkE s = 0) : checkE (withO s l) = 0 := by
  have hf : frameE s = 0 := by
    unfold checkE at h0
    split at h0
    · rename_i h1; exact absurd h0 h1
    · rename_i h1; exact Decidable.not_not.1 h1
  have e : ordersE s = 0 := by
    unfold frameE at hf
    split at hf
    · cases hf
    · split at hf
      · rename_i h1; exact absurd hf h1
      · split at hf
        · rename_i h1; exact absurd hf h1
        · split at hf
          · cases hf
          · split at hf
            · cases hf
            · split at hf
              · cases hf
              · exact hf
  have e2 := ordersE_up h e
  have hf2 : frameE (withO s l) = 0 := by
    unfold frameE at hf ⊢
    rw [e] at hf
    rw [e2]
    exact hf
  unfold checkE at h0 ⊢
  rw [hf] at h0
  rw [hf2]
  have e3 : firstE (scopeE (withO s l)) (List.range (withO s l).ovens.length) 0 = firstE (scopeE s) (List.range s.ovens.length) 0 := by kernel_rfl
  rw [e3]
  exact h0
theorem kept_parts {s : Season} {p : List (List Int)} (h : keptE s p = 0) : checkE s = 0 ∧ planE s p = 0 ∧ keepsF s p = true := by
  unfold keptE at h
  split at h
  · rename_i h1
    split at h
    · rename_i h2
      unfold keepsR at h1 h2
      split at h1
      · rename_i h3; exact absurd h1 h3
      · rename_i h3
        rw [if_neg h3] at h2
        split at h1
        · rename_i h4; exact absurd h1 h4
        · rename_i h4
          rw [if_neg h4] at h2
          exact ⟨Decidable.not_not.1 h3, Decidable.not_not.1 h4, h2⟩
    · cases h
  · rename_i h1; exact absurd h h1
theorem kept_of {s : Season} {p : List (List Int)} (h1 : checkE s = 0) (h2 : planE s p = 0) (h3 : keepsF s p = true) : keptE s p = 0 := by
  have e : keepsR s p = (true, 0) := by unfold keepsR; rw [if_neg (fun h => h h1), if_neg (fun h => h h2), h3]
  unfold keptE
  rw [e]; rfl
theorem kept_up {s : Season} {l : List Ord} {p : List (List Int)} (h : OrdsUp s.orders l) (h0 : keptE s p = 0) : keptE (withO s l) p = 0 := by
  obtain ⟨h1, h2, h3⟩ := kept_parts h0
  have e : keepsF (withO s l) p = keepsF s p := by kernel_rfl
  have e2 : planE (withO s l) p = planE s p := by kernel_rfl
  exact kept_of (checkE_up h h1) (by rw [e2]; exact h2) (by rw [e]; exact h3)
theorem made_up (s : Season) (l : List Ord) (p : List (List Int)) : madeF (withO s l) p = madeF s p := by kernel_rfl
theorem lackN_up {p bot : List (List Int)} {o o' : Ord} (u : OrdUp o o') : lackN p bot o ≤ lackN p bot o' := by
  unfold lackN
  have : lackM p bot o' = lackM p bot o := by funext m; unfold lackM; rw [u.1, u.2.1]
  rw [this]
  have := u.2.2.1
  omega
theorem lacks_up {s : Season} {l : List Ord} {p bot : List (List Int)} (h : OrdsUp s.orders l) {i : Nat} {x : Int} (hx : (lacksF s p bot)[i]? = some x) : ∃ y, (lacksF (withO s l) p bot)[i]? = some y ∧ 0 ≤ x ∧ x ≤ y := by
  simp only [lacksF, List.getElem?_map] at hx ⊢
  cases ho : s.orders[i]? with
  | none => rw [ho] at hx; cases hx
  | some o =>
    rw [ho] at hx
    obtain ⟨o', e, u⟩ := h.get i o ho
    have e : (withO s l).orders[i]? = some o' := e
    rw [e]
    have := lackN_up (p := p) (bot := bot) u
    simp only [Option.map_some, Option.some.injEq] at hx
    exact ⟨_, rfl, by omega, by show x ≤ max (lackN p bot o') 0; omega⟩
theorem costSum_le : ∀ (ls ls' : List Int) (os os' : List Ord), ls'.length = ls.length → (∀ (i : Nat) (x : Int), ls[i]? = some x → ∃ y, ls'[i]? = some y ∧ 0 ≤ x ∧ x ≤ y) → OrdsUp os os' → (∀ o ∈ os, 0 ≤ o.penalty) → costSum ls os ≤ costSum ls' os'
  | [], [], os, os', _, _, _, _ => by simp [costSum]
  | [], y :: ls', os, os', hl, _, _, _ => by simp at hl
  | x :: ls, [], os, os', hl, _, _, _ => by simp at hl
  | x :: ls, y :: ls', [], os', hl, h, hu, hp => by
    have : os' = [] := List.eq_nil_of_length_eq_zero (by simpa using hu.len)
    subst this; simp [costSum]
  | x :: ls, y :: ls', o :: os, [], hl, h, hu, hp => by have := hu.len; simp at this
  | x :: ls, y :: ls', o :: os, o' :: os', hl, h, hu, hp => by
    have ih := costSum_le ls ls' os os' (by simpa using hl) (fun i z hz => by simpa using h (i + 1) z (by simpa using hz)) ⟨by simpa using hu.len, fun j w hw => by simpa using hu.get (j + 1) w (by simpa using hw)⟩ (fun w hw => hp w (by simp [hw]))
    obtain ⟨y', hy, h0, h1⟩ := h 0 x rfl
    obtain ⟨o2, ho, u⟩ := hu.get 0 o rfl
    simp at hy ho
    subst hy; subst ho
    have hpo := hp o (by simp)
    have hu5 := u.2.2.2.2.1
    have : x * o.penalty ≤ y * o'.penalty := Int.le_trans (Int.mul_le_mul_of_nonneg_right h1 hpo) (Int.mul_le_mul_of_nonneg_left hu5 (by omega))
    simp only [costSum]
    omega
theorem cost_up {s : Season} (h : Fr s) {l : List Ord} {p : List (List Int)} (hu : OrdsUp s.orders l) : costF s p ≤ costF (withO s l) p := by
  unfold costF
  rw [made_up]
  have := costSum_le (lacksF s p (madeF s p).1) (lacksF (withO s l) p (madeF s p).1) s.orders (withO s l).orders (by simp [lacksF]; exact hu.len) (fun i x hx => lacks_up hu hx) hu (fun o ho => by have := h.ord o ho; omega)
  omega
theorem sm_up {s : Season} (h : Sm s) {l : List Ord} (hu : OrdsUp s.orders l) : Sm (withO s l) := ⟨h.arts, h.ovens, h.makers, h.jobs, h.cols, by have := h.orders; have := hu.len; show l.length ≤ 20; omega, h.rates, h.jobRows, h.colRows⟩
end Go.Proofs.YtmkmegcconjgoaaG
