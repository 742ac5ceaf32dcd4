/- Lacks and Cost. No condition. -/
import Derived.Test.YtmkmegcconjgoaaP21
set_option linter.unusedVariables false
set_option linter.unusedSimpArgs false
set_option maxRecDepth 100000
set_option maxHeartbeats 4000000
namespace Go.Proofs.YtmkmegcconjgoaaG
open Go Go.AM Go.Proofs

def lacksTop (s : Season) (p : List (List Int)) : D := .tup [if keptE s p = 0 then rowD (lacksF s p (madeF s p).1) else nilD, int (keptE s p)]
theorem Lacks_ok (s : Season) (hs : Sm s) (h3 : s.makers.length ≤ 3 ∨ 6 < s.makers.length) (p : List (List Int)) (hp : SmP p) : PureFn Try.prog 14 [seasonD s, planD p] (lacksTop s p) := by
  have mt := Made_ok s hs h3 p hp
  have kz := @kept_zero s hs p
  unfold madeTop at mt
  unfold lacksTop
  obtain ⟨E, hE⟩ : ∃ E, keptE s p = E := ⟨_, rfl⟩
  rw [hE] at mt kz ⊢
  by_cases h1 : E = 0
  · obtain ⟨f, po, _⟩ := kz h1
    subst h1
    rw [if_pos rfl] at mt ⊢
    refine pureFn_by Try.func14 k14 rfl rfl ?_
    conv => whnf
    refine ⟨_, mt, ?_⟩
    conv => whnf
    refine ⟨_, lacks_ok s f p po _ (made_bot f po), ?_⟩
    conv => whnf
    kernel_rfl
  · rw [if_neg h1] at mt ⊢
    refine pureFn_by Try.func14 k14 rfl rfl ?_
    conv => whnf
    refine ⟨_, mt, ?_⟩
    conv => whnf
    rw [show decide (E = 0) = false from decide_eq_false h1]
    conv => whnf
    kernel_rfl

def costSum : List Int → List Ord → Int
  | l :: ls, o :: os => l * o.penalty + costSum ls os
  | _, _ => 0
def costF (s : Season) (p : List (List Int)) : Int := (madeF s p).2 + costSum (lacksF s p (madeF s p).1) s.orders

theorem sum_nonneg {l : List Int} (h : ∀ x ∈ l, 0 ≤ x) : 0 ≤ l.sum := by
  induction l with
  | nil => simp
  | cons x l ih =>
    have := ih (fun y hy => h y (by simp [hy]))
    have := h x (by simp)
    simp; omega
theorem lackM_nonneg {s : Season} {p bot : List (List Int)} (hb : Bot s bot) (o : Ord) (m : Nat) : 0 ≤ lackM p bot o m := by
  unfold lackM lackRow
  refine sum_nonneg fun x hx => ?_
  obtain ⟨d, _, rfl⟩ := List.mem_map.1 hx
  unfold lackD
  split
  · by_cases h1 : m < bot.length
    · have e : bot.getD m [] = bot[m] := by simp [List.getD, h1]
      rw [e]
      by_cases h2 : d < bot[m].length
      · have e2 : bot[m].getD d 0 = bot[m][d] := by simp [List.getD, h2]
        rw [e2]; exact ((hb.rows _ (List.getElem_mem h1)).2 _ (List.getElem_mem h2)).1
      · simp [List.getD, h2]
    · simp [List.getD, h1]
  · exact Int.le_refl _
theorem lackN_le {s : Season} {p bot : List (List Int)} (hb : Bot s bot) (o : Ord) : lackN p bot o ≤ o.quantity := by
  have : 0 ≤ ((List.range p.length).map (lackM p bot o)).sum := sum_nonneg fun x hx => by
    obtain ⟨m, _, rfl⟩ := List.mem_map.1 hx; exact lackM_nonneg hb o m
  unfold lackN; omega

theorem cost_ok (s : Season) (h : Fr s) (h3 : s.makers.length ≤ 3) (p : List (List Int)) (po : POk s p) : PureFn Try.prog 37 [seasonD s, planD p] (int (costF s p)) := by
  have md := made_ok s h h3 p po
  have mb := made_bot h po
  have lk := lacks_ok s h p po _ mb
  have mc := made_cost h po
  have hna := h.na
  have hnord := h.nord
  unfold costF
  have hll : (lacksF s p (madeF s p).1).length = s.orders.length := by simp [lacksF]
  have hlg : ∀ (i : Nat) (l : Int) (o : Ord), (lacksF s p (madeF s p).1)[i]? = some l → s.orders[i]? = some o → 0 ≤ l ∧ l ≤ 1000000 := fun i l o hl ho => by
    simp only [lacksF, List.getElem?_map, ho, Option.map_some, Option.some.injEq] at hl
    have := lackN_le (p := p) mb o
    have := h.ord o (List.mem_of_getElem? ho)
    omega
  obtain ⟨⟨XS, c⟩, hX⟩ : ∃ X, madeF s p = X := ⟨_, rfl⟩
  rw [hX] at md lk mc hll hlg ⊢
  simp only at md lk mc hll hlg ⊢
  obtain ⟨LK, hLK⟩ : ∃ LK, lacksF s p XS = LK := ⟨_, rfl⟩
  rw [hLK] at lk hll hlg ⊢
  obtain ⟨R, hR⟩ : ∃ R, c + costSum LK s.orders = R := ⟨_, rfl⟩
  rw [hR]
  refine pureFn_by Try.func37 k37 rfl rfl ?_
  conv => whnf
  refine ⟨_, md, ?_⟩
  conv => whnf
  refine ⟨_, lk, ?_⟩
  conv => whnf
  refine loopB (fun (x : Int × Int) => ⟨mkT [(2, .d (.fptr (cellsS s))), (6, .d (int x.2)), (18, .d (rowD LK)), (19, .d (int (LK.map i1).length)), (20, .d (int x.1))], mkB []⟩)
    (fun x => ∃ i : Nat, x.1 = i ∧ i ≤ LK.length ∧ x.2 + costSum (LK.drop i) (s.orders.drop i) = R ∧ 0 ≤ x.2 ∧ x.2 ≤ 462000000 + 1000000000000 * (i : Int)) (fun x => (LK.length - x.1).toNat) (0, c) (by kernel_rfl) ⟨0, rfl, by omega, hR, mc.1, by simp only; omega⟩ ?_
  rintro ⟨_, cur⟩ ⟨i, rfl, hi, hc, hc0, hc1⟩
  simp only at hc hc0 hc1
  conv => whnf
  cases c1 : decide ((i : Int) < ((LK.map i1).length : Int))
  · have hi' : i = LK.length := by have := of_decide_eq_false c1; rw [List.length_map] at this; omega
    rw [hi', drop_end] at hc
    have hc : cur = R := by simpa [costSum] using hc
    rw [← hc]
    conv => whnf
    kernel_rfl
  · have hi' : i < LK.length := by have := of_decide_eq_true c1; rw [List.length_map] at this; omega
    obtain ⟨l, hl⟩ := get_lt hi'
    obtain ⟨o, ho⟩ := get_lt (xs := s.orders) (i := i) (by omega)
    have hlr := hlg i l o hl ho
    have hor := h.ord o (List.mem_of_getElem? ho)
    rw [drop_at hl, drop_at ho, costSum] at hc
    have hp0 : 0 ≤ l * o.penalty := Int.mul_nonneg hlr.1 (by omega)
    have hp1 : l * o.penalty ≤ 1000000000000 := by
      calc l * o.penalty ≤ 1000000 * o.penalty := Int.mul_le_mul_of_nonneg_right hlr.2 (by omega)
        _ ≤ 1000000 * 1000000 := Int.mul_le_mul_of_nonneg_left (by omega) (by omega)
        _ = 1000000000000 := by decide
    have e1 : IntKind.wrap .i64 (l * o.penalty) = l * o.penalty := wr_eq (by omega)
    have e2 : IntKind.wrap .i64 (cur + IntKind.wrap .i64 (l * o.penalty)) = cur + l * o.penalty := by rw [e1, wr_eq (by omega)]
    conv => whnf
    refine ⟨by omega, _, gm hl, ?_⟩
    conv => whnf
    refine ⟨by omega, _, gm ho, ?_⟩
    conv => whnf
    exact ⟨(IntKind.wrap .i64 ((i : Int) + 1), IntKind.wrap .i64 (cur + IntKind.wrap .i64 (l * o.penalty))), by kernel_rfl, ⟨i + 1, nx (by omega), by omega, by simp only; rw [e2]; omega, by simp only; rw [e2]; omega, by simp only; rw [e2]; omega⟩, by simp only; rw [nx (by omega)]; omega⟩

def costTop (s : Season) (p : List (List Int)) : D := .tup [int (if keptE s p = 0 then costF s p else 0), int (keptE s p)]
theorem Cost_ok (s : Season) (hs : Sm s) (h3 : s.makers.length ≤ 3 ∨ 6 < s.makers.length) (p : List (List Int)) (hp : SmP p) : PureFn Try.prog 13 [seasonD s, planD p] (costTop s p) := by
  have kp := kept_ok s hs p hp
  have kz := @kept_zero s hs p
  unfold costTop
  obtain ⟨E, hE⟩ : ∃ E, keptE s p = E := ⟨_, rfl⟩
  rw [hE] at kp kz ⊢
  refine pureFn_by Try.func13 k13 rfl rfl ?_
  conv => whnf
  refine ⟨_, kp, ?_⟩
  conv => whnf
  cases c1 : decide (E = 0)
  · have h1 := of_decide_eq_false c1
    rw [if_neg h1]
    conv => whnf
    kernel_rfl
  · have h1 := of_decide_eq_true c1
    obtain ⟨f, po, _⟩ := kz h1
    have hn := f.nm
    subst h1
    rw [if_pos rfl]
    conv => whnf
    refine ⟨_, cost_ok s f (by omega) p po, ?_⟩
    conv => whnf
    kernel_rfl
end Go.Proofs.YtmkmegcconjgoaaG
