/- What a shift pulls, and whether it may be. No condition. -/
import Derived.Test.YtmkmegcconjgoaaP5
set_option linter.unusedVariables false
set_option linter.unusedSimpArgs false
set_option maxRecDepth 100000
set_option maxHeartbeats 4000000
namespace Go.Proofs.YtmkmegcconjgoaaG
open Go Go.AM Go.Proofs

structure Fr (s : Season) : Prop where
  sm : Sm s
  days : 1 ≤ s.days ∧ s.days ≤ 14
  na : s.arts.length ≤ 8
  no : s.ovens.length ≤ 3
  nm : s.makers.length ≤ 6
  art : ∀ a ∈ s.arts, 0 ≤ a.colour ∧ a.colour < s.cols.length ∧ 1 ≤ a.weight ∧ a.weight ≤ 100000
  oven : ∀ o ∈ s.ovens, 0 ≤ o.1 ∧ o.1 ≤ o.2 ∧ o.2 ≤ 1000000
  maker : ∀ m ∈ s.makers, 0 ≤ m.oven ∧ m.oven < s.ovens.length ∧ m.rates.length = s.arts.length ∧ (∀ r ∈ m.rates, 0 ≤ r ∧ r ≤ 1000000) ∧ 0 ≤ m.idle ∧ m.idle ≤ 1000000 ∧ -1 ≤ m.start ∧ m.start < s.arts.length
  jobs : s.jobs.length = s.arts.length ∧ ∀ r ∈ s.jobs, r.length = s.arts.length ∧ ∀ t ∈ r, 0 ≤ t.1 ∧ t.1 ≤ 1440 ∧ 0 ≤ t.2 ∧ t.2 ≤ 1000000
  nc : s.cols.length ≤ 6
  cols : ∀ r ∈ s.cols, r.length = s.cols.length ∧ ∀ t ∈ r, 0 ≤ t.1 ∧ t.1 ≤ 1440 ∧ 0 ≤ t.2 ∧ t.2 ≤ 1000000
  nord : s.orders.length ≤ s.arts.length
  ord : ∀ o ∈ s.orders, 0 ≤ o.article ∧ o.article < s.arts.length ∧ 0 ≤ o.quantity ∧ o.quantity ≤ 1000000 ∧ 0 ≤ o.due ∧ o.due < s.days ∧ 0 ≤ o.penalty ∧ o.penalty ≤ 1000000

/-- A shift of some machines. -/
structure Row (s : Season) (ms l : List Int) : Prop where
  len : ms.length = l.length
  small : l.length ≤ 10
  ms : ∀ m ∈ ms, 0 ≤ m ∧ m < s.makers.length
  arts : Arts s l

theorem rate_get {s : Season} (h : Fr s) {m a : Int} (hm : 0 ≤ m ∧ m < s.makers.length) (h0 : 0 ≤ a) (ha : a < s.arts.length) :
    ∃ M r, s.makers[m.toNat]? = some M ∧ M.rates[a.toNat]? = some r ∧ rateF s m a = r ∧ 0 ≤ r ∧ r ≤ 1000000 := by
  obtain ⟨M, hM⟩ := get_lt (xs := s.makers) (i := m.toNat) (by omega)
  have hk := h.maker M (List.mem_of_getElem? hM)
  obtain ⟨r, hr⟩ := get_lt (xs := M.rates) (i := a.toNat) (by omega)
  have := hk.2.2.2.1 r (List.mem_of_getElem? hr)
  exact ⟨M, r, hM, hr, by simp [rateF, hM, hr], this.1, this.2⟩

def decF (s : Season) : List Int → List Int → Int
  | m :: ms, a :: r => (if 0 ≤ a then rateF s m a * wgt s a else 0) + decF s ms r
  | _, _ => 0
def okRow (s : Season) (c : Int) : List Int → List Int → Bool
  | m :: ms, a :: r => (!decide (0 ≤ a) || (!decide (rateF s m a = 0) && decide (colA s a = c))) && okRow s c ms r
  | _, _ => true
def ovenA (s : Season) (k : Int) : Int × Int := (s.ovens[k.toNat]?).getD (0, 0)
def pullF (s : Season) (ms l : List Int) : Int := (decF s ms l).tdiv 10000
def fitsF (s : Season) (k : Int) (ms l : List Int) : Bool := okRow s (colF s l) ms l && withinF (pullF s ms l) (ovenA s k).1 (ovenA s k).2

theorem term_le {s : Season} (h : Fr s) {m a : Int} (hm : 0 ≤ m ∧ m < s.makers.length) (h0 : 0 ≤ a) (ha : a < s.arts.length) : 0 ≤ rateF s m a * wgt s a ∧ rateF s m a * wgt s a ≤ 100000000000 := by
  obtain ⟨M, r, _, _, e, h1, h2⟩ := rate_get h hm h0 ha
  obtain ⟨x, hx, _, ew⟩ := art_get h0 ha
  have hw := h.art x (List.mem_of_getElem? hx)
  rw [e, ew]
  refine ⟨Int.mul_nonneg h1 (by omega), ?_⟩
  calc r * x.weight ≤ 1000000 * x.weight := Int.mul_le_mul_of_nonneg_right h2 (by omega)
    _ ≤ 1000000 * 100000 := Int.mul_le_mul_of_nonneg_left hw.2.2.2 (by omega)
    _ = 100000000000 := by decide

theorem decF_le {s : Season} (h : Fr s) : ∀ {ms l : List Int}, (∀ m ∈ ms, 0 ≤ m ∧ m < s.makers.length) → Arts s l → 0 ≤ decF s ms l ∧ decF s ms l ≤ l.length * 100000000000
  | [], l, _, _ => by simp [decF]; omega
  | m :: ms, [], _, _ => by simp [decF]
  | m :: ms, a :: r, hm, ha => by
    have ih := decF_le h (ms := ms) (l := r) (fun x hx => hm x (by simp [hx])) (fun x hx => ha x (by simp [hx]))
    have h1 := hm m (by simp)
    have h2 := ha a (by simp)
    simp only [decF, List.length_cons]
    split
    · rename_i h0
      have := term_le h h1 h0 h2.2
      omega
    · omega

theorem quo_le {n b : Int} (h0 : 0 ≤ n) (h1 : n ≤ b) : 0 ≤ n.tdiv 10000 ∧ n.tdiv 10000 ≤ b := by
  rw [Int.tdiv_eq_ediv_of_nonneg h0]
  refine ⟨Int.ediv_nonneg h0 (by decide), ?_⟩
  have := Int.ediv_le_self 10000 h0
  omega

theorem decigrams_ok (s : Season) (h : Fr s) (ms l : List Int) (hR : Row s ms l) : PureFn Try.prog 54 [seasonD s, rowD ms, rowD l] (int (decF s ms l)) := by
  have hl := hR.len
  have hsm := hR.small
  refine pureFn_by Try.func54 k54 rfl rfl ?_
  conv => whnf
  refine loopB (fun (x : Int × Int) => ⟨mkT [(1, .d (rowD ms)), (3, .d (.fptr (cellsS s))), (7, .d (int x.2)), (10, .d (rowD l)), (11, .d (int (l.map i1).length)), (12, .d (int x.1))], mkB []⟩)
    (fun x => ∃ i : Nat, x.1 = i ∧ i ≤ l.length ∧ x.2 + decF s (ms.drop i) (l.drop i) = decF s ms l ∧ 0 ≤ x.2 ∧ x.2 ≤ i * 100000000000) (fun x => (l.length - x.1).toNat) (0, 0) (by kernel_rfl) ⟨0, rfl, by omega, by simp, by decide, by decide⟩ ?_
  rintro ⟨_, acc⟩ ⟨i, rfl, hi, hb, ha0, ha1⟩
  simp only at hb ha0 ha1
  conv => whnf
  rw [List.length_map]
  cases c1 : decide ((i : Int) < (l.length : Int))
  · have hi' : i = l.length := by have := of_decide_eq_false c1; omega
    rw [hi', drop_end] at hb
    have hb : acc = decF s ms l := by
      rw [← hb]
      cases ms.drop l.length <;> simp [decF]
    rw [← hb]
    conv => whnf
    kernel_rfl
  · have hi' : i < l.length := by have := of_decide_eq_true c1; omega
    obtain ⟨a, hx⟩ := get_lt hi'
    obtain ⟨m, hy⟩ := get_lt (xs := ms) (i := i) (by omega)
    have ha := hR.arts a (List.mem_of_getElem? hx)
    have hm := hR.ms m (List.mem_of_getElem? hy)
    rw [drop_at hx, drop_at hy, decF] at hb
    conv => whnf
    refine ⟨by omega, _, gm hx, ?_⟩
    conv => whnf
    cases c2 : decide (0 ≤ a)
    · rw [if_neg (of_decide_eq_false c2)] at hb
      conv => whnf
      exact ⟨(IntKind.wrap .i64 ((i : Int) + 1), acc), by kernel_rfl, ⟨i + 1, nx (by omega), by omega, by rw [← hb]; simp, ha0, by omega⟩, by simp only; rw [nx (by omega)]; omega⟩
    · have h0 := of_decide_eq_true c2
      obtain ⟨x, hax, _, ew⟩ := art_get h0 ha.2
      obtain ⟨M, r, hM, hr, er, _, _⟩ := rate_get h hm h0 ha.2
      have tl := term_le h hm h0 ha.2
      rw [if_pos h0] at hb
      rw [er, ew] at hb tl
      have e1 : IntKind.wrap .i64 (r * x.weight) = r * x.weight := wr_eq (by omega)
      have e2 : IntKind.wrap .i64 (acc + IntKind.wrap .i64 (r * x.weight)) = acc + r * x.weight := by rw [e1, wr_eq (by omega)]
      conv => whnf
      refine ⟨by omega, _, gm hy, ?_⟩
      conv => whnf
      refine ⟨hm.1, _, gz hM, ?_⟩
      conv => whnf
      refine ⟨h0, _, gz hr, ?_⟩
      conv => whnf
      refine ⟨h0, _, gz hax, ?_⟩
      conv => whnf
      exact ⟨(IntKind.wrap .i64 ((i : Int) + 1), IntKind.wrap .i64 (acc + IntKind.wrap .i64 (r * x.weight))), by kernel_rfl, ⟨i + 1, nx (by omega), by omega, by simp only; rw [e2, ← hb]; omega, by simp only; rw [e2]; omega, by simp only; rw [e2]; omega⟩, by simp only; rw [nx (by omega)]; omega⟩

theorem pull_ok (s : Season) (h : Fr s) (ms l : List Int) (hR : Row s ms l) : PureFn Try.prog 57 [seasonD s, rowD ms, rowD l] (int (pullF s ms l)) := by
  have hl := hR.len
  have hsm := hR.small
  have hle := decF_le h hR.ms hR.arts
  refine pureFn_by Try.func57 k57 rfl rfl ?_
  unfold pullF
  conv => whnf
  refine loopB (fun (x : Int × Int) => ⟨mkT [(1, .d (rowD ms)), (2, .d (rowD l)), (3, .d (.fptr (cellsS s))), (7, .d (int x.2)), (8, .d (int x.1))], mkB []⟩)
    (fun x => ∃ i : Nat, x.1 = i ∧ i ≤ l.length ∧ x.2 + decF s (ms.drop i) (l.drop i) = decF s ms l ∧ 0 ≤ x.2 ∧ x.2 ≤ i * 100000000000) (fun x => (l.length - x.1).toNat) (0, 0) (by kernel_rfl) ⟨0, rfl, by omega, by simp, by decide, by decide⟩ ?_
  rintro ⟨_, acc⟩ ⟨i, rfl, hi, hb, ha0, ha1⟩
  simp only at hb ha0 ha1
  conv => whnf
  rw [List.length_map]
  cases c1 : decide ((i : Int) < (l.length : Int))
  · have hi' : i = l.length := by have := of_decide_eq_false c1; omega
    rw [hi', drop_end] at hb
    have hb : acc = decF s ms l := by
      rw [← hb]
      cases ms.drop l.length <;> simp [decF]
    rw [← hb]
    conv => whnf
    refine ⟨by decide, ?_⟩
    have ew : IntKind.wrap .i64 (acc.tdiv 10000) = acc.tdiv 10000 := wr_eq (by have := quo_le ha0 (show acc ≤ 10000000000000 by omega); omega)
    rw [ew]
    conv => whnf
    kernel_rfl
  · have hi' : i < l.length := by have := of_decide_eq_true c1; omega
    obtain ⟨a, hx⟩ := get_lt hi'
    obtain ⟨m, hy⟩ := get_lt (xs := ms) (i := i) (by omega)
    have ha := hR.arts a (List.mem_of_getElem? hx)
    have hm := hR.ms m (List.mem_of_getElem? hy)
    rw [drop_at hx, drop_at hy, decF] at hb
    conv => whnf
    refine ⟨by omega, _, gm hx, ?_⟩
    conv => whnf
    cases c2 : decide (0 ≤ a)
    · rw [if_neg (of_decide_eq_false c2)] at hb
      conv => whnf
      exact ⟨(IntKind.wrap .i64 ((i : Int) + 1), acc), by kernel_rfl, ⟨i + 1, nx (by omega), by omega, by rw [← hb]; simp, ha0, by omega⟩, by simp only; rw [nx (by omega)]; omega⟩
    · have h0 := of_decide_eq_true c2
      obtain ⟨x, hax, _, ew⟩ := art_get h0 ha.2
      obtain ⟨M, r, hM, hr, er, _, _⟩ := rate_get h hm h0 ha.2
      have tl := term_le h hm h0 ha.2
      rw [if_pos h0] at hb
      rw [er, ew] at hb tl
      have e1 : IntKind.wrap .i64 (r * x.weight) = r * x.weight := wr_eq (by omega)
      have e2 : IntKind.wrap .i64 (acc + IntKind.wrap .i64 (r * x.weight)) = acc + r * x.weight := by rw [e1, wr_eq (by omega)]
      conv => whnf
      refine ⟨by omega, _, gm hy, ?_⟩
      conv => whnf
      refine ⟨hm.1, _, gz hM, ?_⟩
      conv => whnf
      refine ⟨by omega, _, gm hx, ?_⟩
      conv => whnf
      refine ⟨h0, _, gz hr, ?_⟩
      conv => whnf
      refine ⟨by omega, _, gm hx, ?_⟩
      conv => whnf
      refine ⟨h0, _, gz hax, ?_⟩
      conv => whnf
      exact ⟨(IntKind.wrap .i64 ((i : Int) + 1), IntKind.wrap .i64 (acc + IntKind.wrap .i64 (r * x.weight))), by kernel_rfl, ⟨i + 1, nx (by omega), by omega, by simp only; rw [e2, ← hb]; omega, by simp only; rw [e2]; omega, by simp only; rw [e2]; omega⟩, by simp only; rw [nx (by omega)]; omega⟩
end Go.Proofs.YtmkmegcconjgoaaG
