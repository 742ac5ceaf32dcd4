/- Made and Pulls. No condition. -/
import Derived.Test.YtbkjfjlmhlmdbaaP17
set_option linter.unusedVariables false
set_option linter.unusedSimpArgs false
set_option maxRecDepth 100000
set_option maxHeartbeats 4000000
namespace Go.Proofs.YtbkjfjlmhlmdbaaG
open Go Go.AM Go.Proofs

def madeTop (s : Season) (p : List (List Int)) : D := .tup [if keptE s p = 0 then planD (madeF s p).1 else nilD, int (keptE s p)]
theorem Made_ok (s : Season) (hs : Sm s) (h3 : s.makers.length ≤ 3 ∨ 6 < s.makers.length) (p : List (List Int)) (hp : SmP p) : PureFn Try.prog 8 [seasonD s, planD p] (madeTop s p) := by
  have kp := kept_ok s hs p hp
  have kz := @kept_zero s hs p
  unfold madeTop
  obtain ⟨E, hE⟩ : ∃ E, keptE s p = E := ⟨_, rfl⟩
  rw [hE] at kp kz ⊢
  refine pureFn_by Try.func8 k8 rfl rfl ?_
  conv => whnf
  refine ⟨_, kp, ?_⟩
  conv => whnf
  cases c1 : decide (E = 0)
  · have h1 := of_decide_eq_false c1
    rw [if_neg h1]
    conv => whnf
    kernel_rfl
  · have h1 := of_decide_eq_true c1
    obtain ⟨f, po, _⟩ := kz h1
    have hn := f.nm
    subst h1
    rw [if_pos rfl]
    conv => whnf
    refine ⟨_, made_ok s f (by omega) p po, ?_⟩
    conv => whnf
    kernel_rfl
end Go.Proofs.YtbkjfjlmhlmdbaaG

/- Pulls. No condition. -/
set_option linter.unusedVariables false
set_option linter.unusedSimpArgs false
set_option maxRecDepth 100000
set_option maxHeartbeats 4000000
namespace Go.Proofs.YtbkjfjlmhlmdbaaG
open Go Go.AM Go.Proofs

def pullD (s : Season) (p : List (List Int)) (k : Int) (d : Nat) : Int := pullF s (makersF s k) (onF s p (makersF s k) (d : Int))
def pullRow (s : Season) (p : List (List Int)) (k : Nat) : List Int := (List.range s.days.toNat).map (pullD s p (k : Int))
def pullsF (s : Season) (p : List (List Int)) : List (List Int) := (List.range s.ovens.length).map (pullRow s p)
def pullsTop (s : Season) (p : List (List Int)) : D := .tup [if keptE s p = 0 then planD (pullsF s p) else nilD, int (keptE s p)]
theorem map_range_succ {α : Type} (f : Nat → α) (n : Nat) : (List.range (n + 1)).map f = (List.range n).map f ++ [f n] := by simp [List.range_succ]

end Go.Proofs.YtbkjfjlmhlmdbaaG

/- What lacks of orders. No condition. -/
set_option linter.unusedVariables false
set_option linter.unusedSimpArgs false
set_option maxRecDepth 100000
set_option maxHeartbeats 4000000
namespace Go.Proofs.YtbkjfjlmhlmdbaaG
open Go Go.AM Go.Proofs

def lackD (a : Int) (l b : List Int) (d : Nat) : Int := if l.getD d 0 = a then b.getD d 0 else 0
def lackRow (a due : Int) (l b : List Int) : Int := ((List.range (due.toNat + 1)).map (lackD a l b)).sum
def lackM (p bot : List (List Int)) (o : Ord) (m : Nat) : Int := lackRow o.article o.due (p.getD m []) (bot.getD m [])
def lackN (p bot : List (List Int)) (o : Ord) : Int := o.quantity - ((List.range p.length).map (lackM p bot o)).sum
def lacksF (s : Season) (p bot : List (List Int)) : List Int := s.orders.map fun o => max (lackN p bot o) 0
/-- Bottles of a plan. -/
structure Bot (s : Season) (bot : List (List Int)) : Prop where
  len : bot.length = s.makers.length
  rows : ∀ r ∈ bot, (r.length : Int) = s.days ∧ ∀ v ∈ r, 0 ≤ v ∧ v ≤ 1000000
theorem getD_of {α : Type} {l : List α} {i : Nat} {x d : α} (h : l[i]? = some x) : l.getD i d = x := by simp [List.getD, h]

theorem lacks_ok (s : Season) (h : Fr s) (p : List (List Int)) (po : POk s p) (bot : List (List Int)) (hb : Bot s bot) : PureFn Try.prog 18 [seasonD s, planD p, planD bot] (rowD (lacksF s p bot)) := by
  have hdy := h.days
  have hnm := h.nm
  have hna := h.na
  have hnord := h.nord
  have hpl := po.len
  have hbl := hb.len
  refine pureFn_by Try.func18 k18 rfl rfl ?_
  conv => whnf
  refine loopB (fun (x : Int × List (List D) × Nat) => ⟨mkT [(1, .d (planD p)), (2, .d (planD bot)), (7, .row 2 0 x.2.2 x.2.2), (15, .d (.list (s.orders.map ordL))), (16, .d (int (s.orders.map ordL).length)), (17, .d (int x.1))], mkB [(2, .row 1 x.2.1)]⟩)
    (fun x => ∃ i : Nat, x.1 = i ∧ i ≤ s.orders.length ∧ x.2.1 = (lacksF { s with orders := s.orders.take i } p bot).map i1 ∧ x.2.2 = x.2.1.length) (fun x => (s.orders.length - x.1).toNat) (0, [], 0) (by kernel_rfl) ⟨0, rfl, by omega, rfl, rfl⟩ ?_
  rintro ⟨_, els, n⟩ ⟨i, rfl, hi, he, hn⟩
  simp only at he hn
  conv => whnf
  cases c1 : decide ((i : Int) < ((s.orders.map ordL).length : Int))
  · have hi' : i = s.orders.length := by have := of_decide_eq_false c1; rw [List.length_map] at this; omega
    rw [hi', List.take_length] at he
    conv => whnf
    refine (resA_row (s := 2) (n := n) (esz := 1) (els := els) rfl rfl hn).trans ?_
    rw [he]
  · have hi' : i < s.orders.length := by have := of_decide_eq_true c1; rw [List.length_map] at this; omega
    obtain ⟨o, hx⟩ := get_lt hi'
    have ho := h.ord o (List.mem_of_getElem? hx)
    have hel : els.length = i := by rw [he]; simp [lacksF]; omega
    have htk : s.orders.take (i + 1) = s.orders.take i ++ [o] := by rw [List.take_add_one]; simp [hx]
    have hnew : els ++ [[int (max (lackN p bot o) 0)]] = (lacksF { s with orders := s.orders.take (i + 1) } p bot).map i1 := by
      rw [he]; simp [lacksF, htk]
    conv => whnf
    refine ⟨by omega, _, gm hx, ?_⟩
    conv => whnf
    refine loopB (fun (x : Int × Int) => ⟨mkT [(1, .d (planD p)), (2, .d (planD bot)), (7, .row 2 0 n n), (9, .ptr 1 0), (10, .d (int x.2)), (15, .d (.list (s.orders.map ordL))), (16, .d (int (s.orders.map ordL).length)), (17, .d (int (i : Int))), (23, .d (planD p)), (24, .d (int (p.map rowL).length)), (25, .d (int x.1))], mkB [(1, .var [.d (int o.article), .d (int o.quantity), .d (int o.due), .d (int o.penalty)]), (2, .row 1 els)]⟩)
      (fun x => ∃ m : Nat, x.1 = m ∧ m ≤ p.length ∧ x.2 = o.quantity - ((List.range m).map (lackM p bot o)).sum ∧ -14000000 * (m : Int) ≤ x.2 ∧ x.2 ≤ 1000000) (fun x => (p.length - x.1).toNat) (0, o.quantity) (by kernel_rfl) ⟨0, rfl, by omega, by simp, by simp; omega, by simp only; omega⟩ ?_
    rintro ⟨_, cur⟩ ⟨m, rfl, hm, hc, hc0, hc1⟩
    simp only at hc hc0 hc1
    conv => whnf
    cases c2 : decide ((m : Int) < ((p.map rowL).length : Int))
    · have hm' : m = p.length := by have := of_decide_eq_false c2; rw [List.length_map] at this; omega
      have hcur : cur = lackN p bot o := by rw [hc, hm']; rfl
      conv => whnf
      refine ⟨rfl, rfl, hn, most_le (by simp; omega), ?_⟩
      conv => whnf
      exact ⟨(IntKind.wrap .i64 ((i : Int) + 1), els ++ [[int (max cur 0)]], els.length + 1), by kernel_rfl, ⟨i + 1, nx (by omega), by omega, by rw [hcur]; exact hnew, by simp⟩, by simp only; rw [nx (by omega)]; omega⟩
    · have hm' : m < p.length := by have := of_decide_eq_true c2; rw [List.length_map] at this; omega
      obtain ⟨l, hl⟩ := get_lt hm'
      obtain ⟨b, hbb⟩ := get_lt (xs := bot) (i := m) (by omega)
      have hl2 := po.rows l (List.mem_of_getElem? hl)
      have hb2 := hb.rows b (List.mem_of_getElem? hbb)
      have hlm : lackM p bot o m = lackRow o.article o.due l b := by unfold lackM; rw [getD_of hl, getD_of hbb]
      conv => whnf
      refine ⟨by omega, _, gm hl, ?_⟩
      conv => whnf
      refine loopB (fun (x : Int × Int) => ⟨mkT [(1, .d (planD p)), (2, .d (planD bot)), (7, .row 2 0 n n), (9, .ptr 1 0), (10, .d (int x.2)), (11, .d (int (m : Int))), (12, .d (rowD l)), (13, .d (int x.1)), (15, .d (.list (s.orders.map ordL))), (16, .d (int (s.orders.map ordL).length)), (17, .d (int (i : Int))), (23, .d (planD p)), (24, .d (int (p.map rowL).length)), (25, .d (int (m : Int)))], mkB [(1, .var [.d (int o.article), .d (int o.quantity), .d (int o.due), .d (int o.penalty)]), (2, .row 1 els)]⟩)
        (fun x => ∃ d : Nat, x.1 = d ∧ (d : Int) ≤ o.due + 1 ∧ x.2 = cur - ((List.range d).map (lackD o.article l b)).sum ∧ -14000000 * (m : Int) - 1000000 * (d : Int) ≤ x.2 ∧ x.2 ≤ 1000000) (fun x => (o.due + 1 - x.1).toNat) (0, cur) (by kernel_rfl) ⟨0, rfl, by omega, by simp, by simp only; omega, by simp only; omega⟩ ?_
      rintro ⟨_, now⟩ ⟨d, rfl, hd, hn2, hn0, hn1⟩
      simp only at hn2 hn0 hn1
      conv => whnf
      cases c3 : decide ((d : Int) ≤ o.due)
      · have hd' : o.due.toNat + 1 = d := by have := of_decide_eq_false c3; omega
        have e : now = o.quantity - ((List.range (m + 1)).map (lackM p bot o)).sum := by
          rw [hn2, map_range_succ, List.sum_append, hlm, hc]
          unfold lackRow
          rw [hd']; simp; omega
        conv => whnf
        exact ⟨(IntKind.wrap .i64 ((m : Int) + 1), now), by kernel_rfl, ⟨m + 1, nx (by omega), by omega, e, by simp only; omega, hn1⟩, by simp only; rw [nx (by omega)]; omega⟩
      · have hd' := of_decide_eq_true c3
        obtain ⟨a, ha⟩ := get_lt (xs := l) (i := d) (by omega)
        obtain ⟨v, hv⟩ := get_lt (xs := b) (i := d) (by omega)
        have hv2 := hb2.2 v (List.mem_of_getElem? hv)
        have hld : lackD o.article l b d = if a = o.article then v else 0 := by unfold lackD; rw [getD_of ha, getD_of hv]
        conv => whnf
        refine ⟨by omega, _, gm ha, ?_⟩
        conv => whnf
        cases c4 : decide (a = o.article)
        · rw [if_neg (of_decide_eq_false c4)] at hld
          conv => whnf
          exact ⟨(IntKind.wrap .i64 ((d : Int) + 1), now), by kernel_rfl, ⟨d + 1, nx (by omega), by omega, by rw [map_range_succ, List.sum_append, hld]; simp; omega, by simp only; omega, hn1⟩, by simp only; rw [nx (by omega)]; omega⟩
        · rw [if_pos (of_decide_eq_true c4)] at hld
          have ew : IntKind.wrap .i64 (now - v) = now - v := wr_eq (by omega)
          conv => whnf
          refine ⟨by omega, _, gm hbb, ?_⟩
          conv => whnf
          refine ⟨by omega, _, gm hv, ?_⟩
          conv => whnf
          exact ⟨(IntKind.wrap .i64 ((d : Int) + 1), IntKind.wrap .i64 (now - v)), by kernel_rfl, ⟨d + 1, nx (by omega), by omega, by simp only; rw [ew, map_range_succ, List.sum_append, hld]; simp; omega, by simp only; rw [ew]; omega, by simp only; rw [ew]; omega⟩, by simp only; rw [nx (by omega)]; omega⟩
end Go.Proofs.YtbkjfjlmhlmdbaaG

/- Costs. No condition. -/
set_option linter.unusedVariables false
set_option linter.unusedSimpArgs false
set_option maxRecDepth 100000
set_option maxHeartbeats 4000000
namespace Go.Proofs.YtbkjfjlmhlmdbaaG
open Go Go.AM Go.Proofs

theorem fold_le {α : Type} {f : List (List Int) × Int → α → List (List Int) × Int} {B : Int} : ∀ (l : List α), (∀ st x, x ∈ l → st.2 ≤ (f st x).2 ∧ (f st x).2 ≤ st.2 + B) → ∀ st, st.2 ≤ (l.foldl f st).2 ∧ (l.foldl f st).2 ≤ st.2 + B * l.length
  | [], _, st => by simp
  | x :: l, h, st => by
    have h1 := h st x (by simp)
    have h2 := fold_le l (fun st y hy => h st y (by simp [hy])) (f st x)
    rw [List.foldl_cons, List.length_cons]
    refine ⟨by omega, ?_⟩
    have : B * ((l.length + 1 : Nat) : Int) = B * (l.length : Int) + B := by rw [Int.natCast_add, Int.mul_add]; simp
    omega
theorem days_le {s : Season} (h : Fr s) {p : List (List Int)} (po : POk s p) (k : Nat) (st : List (List Int) × Int) : st.2 ≤ (daysF s p st k).2 ∧ (daysF s p st k).2 ≤ st.2 + 154000000 := by
  have hml := Nat.le_trans (makersF_len s (k : Int)) h.nm
  have hmm : ∀ m ∈ makersF s (k : Int), 0 ≤ m ∧ m < s.makers.length := fun m hm => makersF_mem hm
  have hdy := h.days
  have := fold_le (f := dayF s p (makersF s (k : Int))) (B := 11000000) (List.range s.days.toNat) (fun st d hd => by
    have hd := List.mem_range.1 hd
    have r1 := onF_row h po hmm (by omega) (show (d : Int) - 1 < s.days by omega)
    have r2 := onF_row h po hmm (by omega) (show (d : Int) < s.days by omega)
    have := worked_le h r1 r2
    unfold dayF
    simp only; omega) st
  unfold daysF
  rw [List.length_range] at this
  omega
theorem made_cost {s : Season} (h : Fr s) {p : List (List Int)} (po : POk s p) : 0 ≤ (madeF s p).2 ∧ (madeF s p).2 ≤ 462000000 := by
  have hno := h.no
  have := fold_le (f := daysF s p) (B := 154000000) (List.range s.ovens.length) (fun st k _ => days_le h po k st) (List.replicate s.makers.length [], 0)
  unfold madeF
  rw [List.length_range] at this
  simp only at this
  omega
theorem made_bot {s : Season} (h : Fr s) {p : List (List Int)} (po : POk s p) : Bot s (madeF s p).1 := by
  have hg := madeF_get h p
  have hdy := h.days
  refine ⟨hg.1, fun r hr => ?_⟩
  obtain ⟨j, hj, rfl⟩ := List.mem_iff_getElem.1 hr
  obtain ⟨M, hM⟩ := get_lt (xs := s.makers) (i := j) (by omega)
  have e := hg.2 j M hM
  obtain ⟨_, e⟩ := List.getElem?_eq_some_iff.1 e
  rw [e]
  refine ⟨by simp [rowM]; omega, fun v hv => ?_⟩
  obtain ⟨d, hd, rfl⟩ := List.mem_map.1 hv
  have hd := List.mem_range.1 hd
  have hmm : ∀ m ∈ makersF s M.oven, 0 ≤ m ∧ m < s.makers.length := fun m hm => makersF_mem hm
  have hml := Nat.le_trans (makersF_len s M.oven) h.nm
  have r1 := onF_row h po hmm (by omega) (show (d : Int) - 1 < s.days by omega)
  have r2 := onF_row h po hmm (by omega) (show (d : Int) < s.days by omega)
  have hjm : 0 ≤ (j : Int) ∧ (j : Int) < s.makers.length := by omega
  have a1 := onA_art h po hjm (show (d : Int) - 1 < s.days by omega)
  have a2 := onA_art h po hjm (show (d : Int) < s.days by omega)
  have ll := lostF_le h r1.arts r2.arts
  unfold madeD
  exact madeA_le h ⟨ll.1, ll.2.1⟩ hjm a1.2 a2.2
end Go.Proofs.YtbkjfjlmhlmdbaaG

/- Lacks and Cost. No condition. -/
set_option linter.unusedVariables false
set_option linter.unusedSimpArgs false
set_option maxRecDepth 100000
set_option maxHeartbeats 4000000
namespace Go.Proofs.YtbkjfjlmhlmdbaaG
open Go Go.AM Go.Proofs

def lacksTop (s : Season) (p : List (List Int)) : D := .tup [if keptE s p = 0 then rowD (lacksF s p (madeF s p).1) else nilD, int (keptE s p)]
theorem Lacks_ok (s : Season) (hs : Sm s) (h3 : s.makers.length ≤ 3 ∨ 6 < s.makers.length) (p : List (List Int)) (hp : SmP p) : PureFn Try.prog 9 [seasonD s, planD p] (lacksTop s p) := by
  have mt := Made_ok s hs h3 p hp
  have kz := @kept_zero s hs p
  unfold madeTop at mt
  unfold lacksTop
  obtain ⟨E, hE⟩ : ∃ E, keptE s p = E := ⟨_, rfl⟩
  rw [hE] at mt kz ⊢
  by_cases h1 : E = 0
  · obtain ⟨f, po, _⟩ := kz h1
    subst h1
    rw [if_pos rfl] at mt ⊢
    refine pureFn_by Try.func9 k9 rfl rfl ?_
    conv => whnf
    refine ⟨_, mt, ?_⟩
    conv => whnf
    refine ⟨_, lacks_ok s f p po _ (made_bot f po), ?_⟩
    conv => whnf
    kernel_rfl
  · rw [if_neg h1] at mt ⊢
    refine pureFn_by Try.func9 k9 rfl rfl ?_
    conv => whnf
    refine ⟨_, mt, ?_⟩
    conv => whnf
    rw [show decide (E = 0) = false from decide_eq_false h1]
    conv => whnf
    kernel_rfl

def costSum : List Int → List Ord → Int
  | l :: ls, o :: os => l * o.penalty + costSum ls os
  | _, _ => 0
def costF (s : Season) (p : List (List Int)) : Int := (madeF s p).2 + costSum (lacksF s p (madeF s p).1) s.orders

theorem sum_nonneg {l : List Int} (h : ∀ x ∈ l, 0 ≤ x) : 0 ≤ l.sum := by
  induction l with
  | nil => simp
  | cons x l ih =>
    have := ih (fun y hy => h y (by simp [hy]))
    have := h x (by simp)
    simp; omega
theorem lackM_nonneg {s : Season} {p bot : List (List Int)} (hb : Bot s bot) (o : Ord) (m : Nat) : 0 ≤ lackM p bot o m := by
  unfold lackM lackRow
  refine sum_nonneg fun x hx => ?_
  obtain ⟨d, _, rfl⟩ := List.mem_map.1 hx
  unfold lackD
  split
  · by_cases h1 : m < bot.length
    · have e : bot.getD m [] = bot[m] := by simp [List.getD, h1]
      rw [e]
      by_cases h2 : d < bot[m].length
      · have e2 : bot[m].getD d 0 = bot[m][d] := by simp [List.getD, h2]
        rw [e2]; exact ((hb.rows _ (List.getElem_mem h1)).2 _ (List.getElem_mem h2)).1
      · simp [List.getD, h2]
    · simp [List.getD, h1]
  · exact Int.le_refl _
theorem lackN_le {s : Season} {p bot : List (List Int)} (hb : Bot s bot) (o : Ord) : lackN p bot o ≤ o.quantity := by
  have : 0 ≤ ((List.range p.length).map (lackM p bot o)).sum := sum_nonneg fun x hx => by
    obtain ⟨m, _, rfl⟩ := List.mem_map.1 hx; exact lackM_nonneg hb o m
  unfold lackN; omega

theorem cost_ok (s : Season) (h : Fr s) (h3 : s.makers.length ≤ 3) (p : List (List Int)) (po : POk s p) : PureFn Try.prog 32 [seasonD s, planD p] (int (costF s p)) := by
  have md := made_ok s h h3 p po
  have mb := made_bot h po
  have lk := lacks_ok s h p po _ mb
  have mc := made_cost h po
  have hna := h.na
  have hnord := h.nord
  unfold costF
  have hll : (lacksF s p (madeF s p).1).length = s.orders.length := by simp [lacksF]
  have hlg : ∀ (i : Nat) (l : Int) (o : Ord), (lacksF s p (madeF s p).1)[i]? = some l → s.orders[i]? = some o → 0 ≤ l ∧ l ≤ 1000000 := fun i l o hl ho => by
    simp only [lacksF, List.getElem?_map, ho, Option.map_some, Option.some.injEq] at hl
    have := lackN_le (p := p) mb o
    have := h.ord o (List.mem_of_getElem? ho)
    omega
  obtain ⟨⟨XS, c⟩, hX⟩ : ∃ X, madeF s p = X := ⟨_, rfl⟩
  rw [hX] at md lk mc hll hlg ⊢
  simp only at md lk mc hll hlg ⊢
  obtain ⟨LK, hLK⟩ : ∃ LK, lacksF s p XS = LK := ⟨_, rfl⟩
  rw [hLK] at lk hll hlg ⊢
  obtain ⟨R, hR⟩ : ∃ R, c + costSum LK s.orders = R := ⟨_, rfl⟩
  rw [hR]
  refine pureFn_by Try.func32 k32 rfl rfl ?_
  conv => whnf
  refine ⟨_, md, ?_⟩
  conv => whnf
  refine ⟨_, lk, ?_⟩
  conv => whnf
  refine loopB (fun (x : Int × Int) => ⟨mkT [(2, .d (.fptr (cellsS s))), (6, .d (int x.2)), (18, .d (rowD LK)), (19, .d (int (LK.map i1).length)), (20, .d (int x.1))], mkB []⟩)
    (fun x => ∃ i : Nat, x.1 = i ∧ i ≤ LK.length ∧ x.2 + costSum (LK.drop i) (s.orders.drop i) = R ∧ 0 ≤ x.2 ∧ x.2 ≤ 462000000 + 1000000000000 * (i : Int)) (fun x => (LK.length - x.1).toNat) (0, c) (by kernel_rfl) ⟨0, rfl, by omega, hR, mc.1, by simp only; omega⟩ ?_
  rintro ⟨_, cur⟩ ⟨i, rfl, hi, hc, hc0, hc1⟩
  simp only at hc hc0 hc1
  conv => whnf
  cases c1 : decide ((i : Int) < ((LK.map i1).length : Int))
  · have hi' : i = LK.length := by have := of_decide_eq_false c1; rw [List.length_map] at this; omega
    rw [hi', drop_end] at hc
    have hc : cur = R := by simpa [costSum] using hc
    rw [← hc]
    conv => whnf
    kernel_rfl
  · have hi' : i < LK.length := by have := of_decide_eq_true c1; rw [List.length_map] at this; omega
    obtain ⟨l, hl⟩ := get_lt hi'
    obtain ⟨o, ho⟩ := get_lt (xs := s.orders) (i := i) (by omega)
    have hlr := hlg i l o hl ho
    have hor := h.ord o (List.mem_of_getElem? ho)
    rw [drop_at hl, drop_at ho, costSum] at hc
    have hp0 : 0 ≤ l * o.penalty := Int.mul_nonneg hlr.1 (by omega)
    have hp1 : l * o.penalty ≤ 1000000000000 := by
      calc l * o.penalty ≤ 1000000 * o.penalty := Int.mul_le_mul_of_nonneg_right hlr.2 (by omega)
        _ ≤ 1000000 * 1000000 := Int.mul_le_mul_of_nonneg_left (by omega) (by omega)
        _ = 1000000000000 := by decide
    have e1 : IntKind.wrap .i64 (l * o.penalty) = l * o.penalty := wr_eq (by omega)
    have e2 : IntKind.wrap .i64 (cur + IntKind.wrap .i64 (l * o.penalty)) = cur + l * o.penalty := by rw [e1, wr_eq (by omega)]
    conv => whnf
    refine ⟨by omega, _, gm hl, ?_⟩
    conv => whnf
    refine ⟨by omega, _, gm ho, ?_⟩
    conv => whnf
    exact ⟨(IntKind.wrap .i64 ((i : Int) + 1), IntKind.wrap .i64 (cur + IntKind.wrap .i64 (l * o.penalty))), by kernel_rfl, ⟨i + 1, nx (by omega), by omega, by simp only; rw [e2]; omega, by simp only; rw [e2]; omega, by simp only; rw [e2]; omega⟩, by simp only; rw [nx (by omega)]; omega⟩

def costTop (s : Season) (p : List (List Int)) : D := .tup [int (if keptE s p = 0 then costF s p else 0), int (keptE s p)]
theorem Cost_ok (s : Season) (hs : Sm s) (h3 : s.makers.length ≤ 3 ∨ 6 < s.makers.length) (p : List (List Int)) (hp : SmP p) : PureFn Try.prog 14 [seasonD s, planD p] (costTop s p) := by
  have kp := kept_ok s hs p hp
  have kz := @kept_zero s hs p
  unfold costTop
  obtain ⟨E, hE⟩ : ∃ E, keptE s p = E := ⟨_, rfl⟩
  rw [hE] at kp kz ⊢
  refine pureFn_by Try.func14 k14 rfl rfl ?_
  conv => whnf
  refine ⟨_, kp, ?_⟩
  conv => whnf
  cases c1 : decide (E = 0)
  · have h1 := of_decide_eq_false c1
    rw [if_neg h1]
    conv => whnf
    kernel_rfl
  · have h1 := of_decide_eq_true c1
    obtain ⟨f, po, _⟩ := kz h1
    have hn := f.nm
    subst h1
    rw [if_pos rfl]
    conv => whnf
    refine ⟨_, cost_ok s f (by omega) p po, ?_⟩
    conv => whnf
    kernel_rfl
end Go.Proofs.YtbkjfjlmhlmdbaaG

/- The example of the chapter. No condition. -/
set_option linter.unusedVariables false
set_option linter.unusedSimpArgs false
set_option maxRecDepth 100000
set_option maxHeartbeats 4000000
namespace Go.Proofs.YtbkjfjlmhlmdbaaG
open Go Go.AM Go.Proofs

def exS : Season where
  days := 2
  arts := [⟨⟨#[112, 105, 110, 116]⟩, 0, 3000⟩, ⟨⟨#[113, 117, 97, 114, 116]⟩, 0, 6000⟩]
  ovens := [(10000, 60000)]
  makers := [⟨0, [100000, 60000], 500, 0⟩]
  jobs := [[(0, 0), (144, 100)], [(144, 100), (0, 0)]]
  cols := [[(0, 0)]]
  orders := [⟨0, 100000, 1, 1⟩, ⟨1, 50000, 1, 1⟩]
theorem example_ok : PureFn Try.prog 15 [] (seasonD exS) := by
  refine pureFn_by Try.func15 k15 rfl rfl ?_
  conv => whnf
  kernel_rfl
theorem exS_sm : Sm exS := ⟨by decide, by decide, by decide, by decide, by decide, by decide, by decide, by decide, by decide⟩
theorem exS_kept : keptE exS [[0, 1]] = 0 := by kernel_rfl
theorem exS_cost : costF exS [[0, 1]] = 100 := by kernel_rfl
theorem planned_ok : PureFn Try.prog 7 [] (boolD true) := by
  have ct := Cost_ok exS exS_sm (.inl (by decide)) [[0, 1]] ⟨by decide, by decide⟩
  unfold costTop at ct
  rw [exS_kept, if_pos rfl, exS_cost] at ct
  refine pureFn_by Try.func7 k7 rfl rfl ?_
  conv => whnf
  refine ⟨_, example_ok, ?_⟩
  conv => whnf
  refine ⟨_, ct, ?_⟩
  conv => whnf
  kernel_rfl
end Go.Proofs.YtbkjfjlmhlmdbaaG

/- Long plans; equal lists; lists in order. No condition. -/
set_option linter.unusedVariables false
set_option linter.unusedSimpArgs false
set_option maxRecDepth 100000
set_option maxHeartbeats 4000000
namespace Go.Proofs.YtbkjfjlmhlmdbaaG
open Go Go.AM Go.Proofs

def farF (l : List (List Int)) : Bool := decide (20 < l.length) || l.any fun r => decide (30 < r.length)
theorem far_ok (l : List (List Int)) : PureFn Try.prog 13 [planD l] (boolD (farF l)) := by
  refine pureFn_by Try.func13 k13 rfl rfl ?_
  unfold farF
  obtain ⟨A, hA⟩ : ∃ A, (l.any fun r => decide (30 < r.length)) = A := ⟨_, rfl⟩
  rw [hA]
  conv => whnf
  cases c1 : decide (20 < ((l.map rowL).length : Int))
  · have h1 : ¬ 20 < l.length := by have := of_decide_eq_false c1; rw [List.length_map] at this; omega
    rw [show decide (20 < l.length) = false from decide_eq_false h1]
    conv => whnf
    refine loopB (fun (i : Int) => ⟨mkT [(0, .d (planD l)), (3, .d (int i))], mkB []⟩)
      (fun i => ∃ k : Nat, i = k ∧ k ≤ l.length ∧ ((l.drop k).any fun r => decide (30 < r.length)) = A) (fun i => (l.length - i).toNat) 0 (by kernel_rfl) ⟨0, rfl, by omega, hA⟩ ?_
    rintro _ ⟨i, rfl, hi, hb⟩
    conv => whnf
    cases c2 : decide ((i : Int) < ((l.map rowL).length : Int))
    · have hi' : i = l.length := by have := of_decide_eq_false c2; rw [List.length_map] at this; omega
      rw [hi', drop_end] at hb
      rw [← hb]
      conv => whnf
      kernel_rfl
    · have hi' : i < l.length := by have := of_decide_eq_true c2; rw [List.length_map] at this; omega
      obtain ⟨r, hx⟩ := get_lt hi'
      rw [drop_at hx, List.any_cons] at hb
      conv => whnf
      refine ⟨by omega, _, gm hx, ?_⟩
      conv => whnf
      cases c3 : decide (30 < ((r.map i1).length : Int))
      · have h3 : ¬ 30 < r.length := by have := of_decide_eq_false c3; rw [List.length_map] at this; omega
        rw [show decide (30 < r.length) = false from decide_eq_false h3] at hb
        conv => whnf
        exact ⟨IntKind.wrap .i64 ((i : Int) + 1), by kernel_rfl, ⟨i + 1, nx (by omega), by omega, hb⟩, by rw [nx (by omega)]; omega⟩
      · have h3 : 30 < r.length := by have := of_decide_eq_true c3; rw [List.length_map] at this; omega
        rw [show decide (30 < r.length) = true from decide_eq_true h3] at hb
        rw [← hb]
        conv => whnf
        kernel_rfl
  · have h1 : 20 < l.length := by have := of_decide_eq_true c1; rw [List.length_map] at this; omega
    rw [show decide (20 < l.length) = true from decide_eq_true h1]
    conv => whnf
    kernel_rfl
theorem smp_of {l : List (List Int)} (h : farF l = false) : SmP l := by
  simp only [farF, Bool.or_eq_false_iff, decide_eq_false_iff_not, List.any_eq_false, decide_eq_true_eq] at h
  exact ⟨by omega, fun r hr => by have := h.2 r hr; omega⟩
end Go.Proofs.YtbkjfjlmhlmdbaaG

/- What is more than is looked at. No condition. -/
set_option linter.unusedVariables false
set_option linter.unusedSimpArgs false
set_option maxRecDepth 100000
set_option maxHeartbeats 4000000
namespace Go.Proofs.YtbkjfjlmhlmdbaaG
open Go Go.AM Go.Proofs

structure Ask where
  plan : List (List Int)
  other : List (List Int)
  oven : Int
  prices : List Int
@[reducible] def askL (x : Ask) : List D := [planD x.plan, planD x.other, int x.oven, rowD x.prices]
@[reducible] def askD (x : Ask) : D := .agg (askL x)
def wideF (x : Ask) : Bool := farF x.plan || farF x.other || decide (30 < x.prices.length)
theorem wide_ok (x : Ask) : PureFn Try.prog 5 [askD x] (boolD (wideF x)) := by
  refine pureFn_by Try.func5 k5 rfl rfl ?_
  unfold wideF
  conv => whnf
  refine ⟨_, far_ok _, ?_⟩
  cases farF x.plan
  · conv => whnf
    refine ⟨_, far_ok _, ?_⟩
    cases farF x.other
    · conv => whnf
      rw [List.length_map, show decide (30 < (x.prices.length : Int)) = decide (30 < x.prices.length) from by simp; omega]
      kernel_rfl
    · conv => whnf
      kernel_rfl
  · conv => whnf
    kernel_rfl
def aheadF : List Int → List Int → Bool
  | x :: xs, y :: ys => if x = y then aheadF xs ys else decide (x < y)
  | _, _ => false
end Go.Proofs.YtbkjfjlmhlmdbaaG
