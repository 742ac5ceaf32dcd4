/- What lacks of orders. No condition. -/
import Derived.Test.YtmkmegcconjgoaaP19
set_option linter.unusedVariables false
set_option linter.unusedSimpArgs false
set_option maxRecDepth 100000
set_option maxHeartbeats 4000000
namespace Go.Proofs.YtmkmegcconjgoaaG
open Go Go.AM Go.Proofs

def lackD (a : Int) (l b : List Int) (d : Nat) : Int := if l.getD d 0 = a then b.getD d 0 else 0
def lackRow (a due : Int) (l b : List Int) : Int := ((List.range (due.toNat + 1)).map (lackD a l b)).sum
def lackM (p bot : List (List Int)) (o : Ord) (m : Nat) : Int := lackRow o.article o.due (p.getD m []) (bot.getD m [])
def lackN (p bot : List (List Int)) (o : Ord) : Int := o.quantity - ((List.range p.length).map (lackM p bot o)).sum
def lacksF (s : Season) (p bot : List (List Int)) : List Int := s.orders.map fun o => max (lackN p bot o) 0
/-- Bottles of a plan. -/
structure Bot (s : Season) (bot : List (List Int)) : Prop where
  len : bot.length = s.makers.length
  rows : ∀ r ∈ bot, (r.length : Int) = s.days ∧ ∀ v ∈ r, 0 ≤ v ∧ v ≤ 1000000
theorem getD_of {α : Type} {l : List α} {i : Nat} {x d : α} (h : l[i]? = some x) : l.getD i d = x := by simp [List.getD, h]

theorem lacks_ok (s : Season) (h : Fr s) (p : List (List Int)) (po : POk s p) (bot : List (List Int)) (hb : Bot s bot) : PureFn Try.prog 38 [seasonD s, planD p, planD bot] (rowD (lacksF s p bot)) := by
  have hdy := h.days
  have hnm := h.nm
  have hna := h.na
  have hnord := h.nord
  have hpl := po.len
  have hbl := hb.len
  refine pureFn_by Try.func38 k38 rfl rfl ?_
  conv => whnf
  refine loopB (fun (x : Int × List (List D) × Nat) => ⟨mkT [(1, .d (planD p)), (2, .d (planD bot)), (7, .row 2 0 x.2.2 x.2.2), (15, .d (.list (s.orders.map ordL))), (16, .d (int (s.orders.map ordL).length)), (17, .d (int x.1))], mkB [(2, .row 1 x.2.1)]⟩)
    (fun x => ∃ i : Nat, x.1 = i ∧ i ≤ s.orders.length ∧ x.2.1 = (lacksF { s with orders := s.orders.take i } p bot).map i1 ∧ x.2.2 = x.2.1.length) (fun x => (s.orders.length - x.1).toNat) (0, [], 0) (by kernel_rfl) ⟨0, rfl, by omega, rfl, rfl⟩ ?_
  rintro ⟨_, els, n⟩ ⟨i, rfl, hi, he, hn⟩
  simp only at he hn
  conv => whnf
  cases c1 : decide ((i : Int) < ((s.orders.map ordL).length : Int))
  · have hi' : i = s.orders.length := by have := of_decide_eq_false c1; rw [List.length_map] at this; omega
    rw [hi', List.take_length] at he
    conv => whnf
    refine (resA_row (s := 2) (n := n) (esz := 1) (els := els) rfl rfl hn).trans ?_
    rw [he]
  · have hi' : i < s.orders.length := by have := of_decide_eq_true c1; rw [List.length_map] at this; omega
    obtain ⟨o, hx⟩ := get_lt hi'
    have ho := h.ord o (List.mem_of_getElem? hx)
    have hel : els.length = i := by rw [he]; simp [lacksF]; omega
    have htk : s.orders.take (i + 1) = s.orders.take i ++ [o] := by rw [List.take_add_one]; simp [hx]
    have hnew : els ++ [[int (max (lackN p bot o) 0)]] = (lacksF { s with orders := s.orders.take (i + 1) } p bot).map i1 := by
      rw [he]; simp [lacksF, htk]
    conv => whnf
    refine ⟨by omega, _, gm hx, ?_⟩
    conv => whnf
    refine loopB (fun (x : Int × Int) => ⟨mkT [(1, .d (planD p)), (2, .d (planD bot)), (7, .row 2 0 n n), (9, .ptr 1 0), (10, .d (int x.2)), (15, .d (.list (s.orders.map ordL))), (16, .d (int (s.orders.map ordL).length)), (17, .d (int (i : Int))), (23, .d (planD p)), (24, .d (int (p.map rowL).length)), (25, .d (int x.1))], mkB [(1, .var [.d (int o.article), .d (int o.quantity), .d (int o.due), .d (int o.penalty)]), (2, .row 1 els)]⟩)
      (fun x => ∃ m : Nat, x.1 = m ∧ m ≤ p.length ∧ x.2 = o.quantity - ((List.range m).map (lackM p bot o)).sum ∧ -14000000 * (m : Int) ≤ x.2 ∧ x.2 ≤ 1000000) (fun x => (p.length - x.1).toNat) (0, o.quantity) (by kernel_rfl) ⟨0, rfl, by omega, by simp, by simp; omega, by simp only; omega⟩ ?_
    rintro ⟨_, cur⟩ ⟨m, rfl, hm, hc, hc0, hc1⟩
    simp only at hc hc0 hc1
    conv => whnf
    cases c2 : decide ((m : Int) < ((p.map rowL).length : Int))
    · have hm' : m = p.length := by have := of_decide_eq_false c2; rw [List.length_map] at this; omega
      have hcur : cur = lackN p bot o := by rw [hc, hm']; rfl
      conv => whnf
      refine ⟨rfl, rfl, hn, most_le (by simp; omega), ?_⟩
      conv => whnf
      exact ⟨(IntKind.wrap .i64 ((i : Int) + 1), els ++ [[int (max cur 0)]], els.length + 1), by kernel_rfl, ⟨i + 1, nx (by omega), by omega, by rw [hcur]; exact hnew, by simp⟩, by simp only; rw [nx (by omega)]; omega⟩
    · have hm' : m < p.length := by have := of_decide_eq_true c2; rw [List.length_map] at this; omega
      obtain ⟨l, hl⟩ := get_lt hm'
      obtain ⟨b, hbb⟩ := get_lt (xs := bot) (i := m) (by omega)
      have hl2 := po.rows l (List.mem_of_getElem? hl)
      have hb2 := hb.rows b (List.mem_of_getElem? hbb)
      have hlm : lackM p bot o m = lackRow o.article o.due l b := by unfold lackM; rw [getD_of hl, getD_of hbb]
      conv => whnf
      refine ⟨by omega, _, gm hl, ?_⟩
      conv => whnf
      refine loopB (fun (x : Int × Int) => ⟨mkT [(1, .d (planD p)), (2, .d (planD bot)), (7, .row 2 0 n n), (9, .ptr 1 0), (10, .d (int x.2)), (11, .d (int (m : Int))), (12, .d (rowD l)), (13, .d (int x.1)), (15, .d (.list (s.orders.map ordL))), (16, .d (int (s.orders.map ordL).length)), (17, .d (int (i : Int))), (23, .d (planD p)), (24, .d (int (p.map rowL).length)), (25, .d (int (m : Int)))], mkB [(1, .var [.d (int o.article), .d (int o.quantity), .d (int o.due), .d (int o.penalty)]), (2, .row 1 els)]⟩)
        (fun x => ∃ d : Nat, x.1 = d ∧ (d : Int) ≤ o.due + 1 ∧ x.2 = cur - ((List.range d).map (lackD o.article l b)).sum ∧ -14000000 * (m : Int) - 1000000 * (d : Int) ≤ x.2 ∧ x.2 ≤ 1000000) (fun x => (o.due + 1 - x.1).toNat) (0, cur) (by kernel_rfl) ⟨0, rfl, by omega, by simp, by simp only; omega, by simp only; omega⟩ ?_
      rintro ⟨_, now⟩ ⟨d, rfl, hd, hn2, hn0, hn1⟩
      simp only at hn2 hn0 hn1
      conv => whnf
      cases c3 : decide ((d : Int) ≤ o.due)
      · have hd' : o.due.toNat + 1 = d := by have := of_decide_eq_false c3; omega
        have e : now = o.quantity - ((List.range (m + 1)).map (lackM p bot o)).sum := by
          rw [hn2, map_range_succ, List.sum_append, hlm, hc]
          unfold lackRow
          rw [hd']; simp; omega
        conv => whnf
        exact ⟨(IntKind.wrap .i64 ((m : Int) + 1), now), by kernel_rfl, ⟨m + 1, nx (by omega), by omega, e, by simp only; omega, hn1⟩, by simp only; rw [nx (by omega)]; omega⟩
      · have hd' := of_decide_eq_true c3
        obtain ⟨a, ha⟩ := get_lt (xs := l) (i := d) (by omega)
        obtain ⟨v, hv⟩ := get_lt (xs := b) (i := d) (by omega)
        have hv2 := hb2.2 v (List.mem_of_getElem? hv)
        have hld : lackD o.article l b d = if a = o.article then v else 0 := by unfold lackD; rw [getD_of ha, getD_of hv]
        conv => whnf
        refine ⟨by omega, _, gm ha, ?_⟩
        conv => whnf
        cases c4 : decide (a = o.article)
        · rw [if_neg (of_decide_eq_false c4)] at hld
          conv => whnf
          exact ⟨(IntKind.wrap .i64 ((d : Int) + 1), now), by kernel_rfl, ⟨d + 1, nx (by omega), by omega, by rw [map_range_succ, List.sum_append, hld]; simp; omega, by simp only; omega, hn1⟩, by simp only; rw [nx (by omega)]; omega⟩
        · rw [if_pos (of_decide_eq_true c4)] at hld
          have ew : IntKind.wrap .i64 (now - v) = now - v := wr_eq (by omega)
          conv => whnf
          refine ⟨by omega, _, gm hbb, ?_⟩
          conv => whnf
          refine ⟨by omega, _, gm hv, ?_⟩
          conv => whnf
          exact ⟨(IntKind.wrap .i64 ((d : Int) + 1), IntKind.wrap .i64 (now - v)), by kernel_rfl, ⟨d + 1, nx (by omega), by omega, by simp only; rw [ew, map_range_succ, List.sum_append, hld]; simp; omega, by simp only; rw [ew]; omega, by simp only; rw [ew]; omega⟩, by simp only; rw [nx (by omega)]; omega⟩
end Go.Proofs.YtmkmegcconjgoaaG
