/- What a shift pulls, and whether it may be. No condition. -/
import Derived.Test.YtbkjfjlmhlmdbaaP5
set_option linter.unusedVariables false
set_option linter.unusedSimpArgs false
set_option maxRecDepth 100000
set_option maxHeartbeats 4000000
namespace Go.Proofs.YtbkjfjlmhlmdbaaG
open Go Go.AM Go.Proofs

structure Fr (s : Season) : Prop where
  sm : Sm s
  days : 1 ≤ s.days ∧ s.days ≤ 14
  na : s.arts.length ≤ 8
  no : s.ovens.length ≤ 3
  nm : s.makers.length ≤ 6
  art : ∀ a ∈ s.arts, 0 ≤ a.colour ∧ a.colour < s.cols.length ∧ 1 ≤ a.weight ∧ a.weight ≤ 100000
  oven : ∀ o ∈ s.ovens, 0 ≤ o.1 ∧ o.1 ≤ o.2 ∧ o.2 ≤ 1000000
  maker : ∀ m ∈ s.makers, 0 ≤ m.oven ∧ m.oven < s.ovens.length ∧ m.rates.length = s.arts.length ∧ (∀ r ∈ m.rates, 0 ≤ r ∧ r ≤ 1000000) ∧ 0 ≤ m.idle ∧ m.idle ≤ 1000000 ∧ -1 ≤ m.start ∧ m.start < s.arts.length
  jobs : s.jobs.length = s.arts.length ∧ ∀ r ∈ s.jobs, r.length = s.arts.length ∧ ∀ t ∈ r, 0 ≤ t.1 ∧ t.1 ≤ 1440 ∧ 0 ≤ t.2 ∧ t.2 ≤ 1000000
  nc : s.cols.length ≤ 6
  cols : ∀ r ∈ s.cols, r.length = s.cols.length ∧ ∀ t ∈ r, 0 ≤ t.1 ∧ t.1 ≤ 1440 ∧ 0 ≤ t.2 ∧ t.2 ≤ 1000000
  nord : s.orders.length ≤ s.arts.length
  ord : ∀ o ∈ s.orders, 0 ≤ o.article ∧ o.article < s.arts.length ∧ 0 ≤ o.quantity ∧ o.quantity ≤ 1000000 ∧ 0 ≤ o.due ∧ o.due < s.days ∧ 0 ≤ o.penalty ∧ o.penalty ≤ 1000000

/-- A shift of some machines. -/
structure Row (s : Season) (ms l : List Int) : Prop where
  len : ms.length = l.length
  small : l.length ≤ 10
  ms : ∀ m ∈ ms, 0 ≤ m ∧ m < s.makers.length
  arts : Arts s l

theorem rate_get {s : Season} (h : Fr s) {m a : Int} (hm : 0 ≤ m ∧ m < s.makers.length) (h0 : 0 ≤ a) (ha : a < s.arts.length) :
    ∃ M r, s.makers[m.toNat]? = some M ∧ M.rates[a.toNat]? = some r ∧ rateF s m a = r ∧ 0 ≤ r ∧ r ≤ 1000000 := by
  obtain ⟨M, hM⟩ := get_lt (xs := s.makers) (i := m.toNat) (by omega)
  have hk := h.maker M (List.mem_of_getElem? hM)
  obtain ⟨r, hr⟩ := get_lt (xs := M.rates) (i := a.toNat) (by omega)
  have := hk.2.2.2.1 r (List.mem_of_getElem? hr)
  exact ⟨M, r, hM, hr, by simp [rateF, hM, hr], this.1, this.2⟩

def decF (s : Season) : List Int → List Int → Int
  | m :: ms, a :: r => (if 0 ≤ a then rateF s m a * wgt s a else 0) + decF s ms r
  | _, _ => 0
def okRow (s : Season) (c : Int) : List Int → List Int → Bool
  | m :: ms, a :: r => (!decide (0 ≤ a) || (!decide (rateF s m a = 0) && decide (colA s a = c))) && okRow s c ms r
  | _, _ => true
def ovenA (s : Season) (k : Int) : Int × Int := (s.ovens[k.toNat]?).getD (0, 0)
def pullF (s : Season) (ms l : List Int) : Int := (decF s ms l).tdiv 10000
def fitsF (s : Season) (k : Int) (ms l : List Int) : Bool := okRow s (colF s l) ms l && withinF (pullF s ms l) (ovenA s k).1 (ovenA s k).2

theorem term_le {s : Season} (h : Fr s) {m a : Int} (hm : 0 ≤ m ∧ m < s.makers.length) (h0 : 0 ≤ a) (ha : a < s.arts.length) : 0 ≤ rateF s m a * wgt s a ∧ rateF s m a * wgt s a ≤ 100000000000 := by
  obtain ⟨M, r, _, _, e, h1, h2⟩ := rate_get h hm h0 ha
  obtain ⟨x, hx, _, ew⟩ := art_get h0 ha
  have hw := h.art x (List.mem_of_getElem? hx)
  rw [e, ew]
  refine ⟨Int.mul_nonneg h1 (by omega), ?_⟩
  calc r * x.weight ≤ 1000000 * x.weight := Int.mul_le_mul_of_nonneg_right h2 (by omega)
    _ ≤ 1000000 * 100000 := Int.mul_le_mul_of_nonneg_left hw.2.2.2 (by omega)
    _ = 100000000000 := by decide

theorem decF_le {s : Season} (h : Fr s) : ∀ {ms l : List Int}, (∀ m ∈ ms, 0 ≤ m ∧ m < s.makers.length) → Arts s l → 0 ≤ decF s ms l ∧ decF s ms l ≤ l.length * 100000000000
  | [], l, _, _ => by simp [decF]; omega
  | m :: ms, [], _, _ => by simp [decF]
  | m :: ms, a :: r, hm, ha => by
    have ih := decF_le h (ms := ms) (l := r) (fun x hx => hm x (by simp [hx])) (fun x hx => ha x (by simp [hx]))
    have h1 := hm m (by simp)
    have h2 := ha a (by simp)
    simp only [decF, List.length_cons]
    split
    · rename_i h0
      have := term_le h h1 h0 h2.2
      omega
    · omega

theorem quo_le {n b : Int} (h0 : 0 ≤ n) (h1 : n ≤ b) : 0 ≤ n.tdiv 10000 ∧ n.tdiv 10000 ≤ b := by
  rw [Int.tdiv_eq_ediv_of_nonneg h0]
  refine ⟨Int.ediv_nonneg h0 (by decide), ?_⟩
  have := Int.ediv_le_self 10000 h0
  omega

theorem decigrams_ok (s : Season) (h : Fr s) (ms l : List Int) (hR : Row s ms l) : PureFn Try.prog 83 [seasonD s, rowD ms, rowD l] (int (decF s ms l)) := by
  have hl := hR.len
  have hsm := hR.small
  refine pureFn_by Try.func83 k83 rfl rfl ?_
  conv => whnf
  refine loopB (fun (x : Int × Int) => ⟨mkT [(1, .d (rowD ms)), (3, .d (.fptr (cellsS s))), (7, .d (int x.2)), (10, .d (rowD l)), (11, .d (int (l.map i1).length)), (12, .d (int x.1))], mkB []⟩)
    (fun x => ∃ i : Nat, x.1 = i ∧ i ≤ l.length ∧ x.2 + decF s (ms.drop i) (l.drop i) = decF s ms l ∧ 0 ≤ x.2 ∧ x.2 ≤ i * 100000000000) (fun x => (l.length - x.1).toNat) (0, 0) (by kernel_rfl) ⟨0, rfl, by omega, by simp, by decide, by decide⟩ ?_
  rintro ⟨_, acc⟩ ⟨i, rfl, hi, hb, ha0, ha1⟩
  simp only at hb ha0 ha1
  conv => whnf
  rw [List.length_map]
  cases c1 : decide ((i : Int) < (l.length : Int))
  · have hi' : i = l.length := by have := of_decide_eq_false c1; omega
    rw [hi', drop_end] at hb
    have hb : acc = decF s ms l := by
      rw [← hb]
      cases ms.drop l.length <;> simp [decF]
    rw [← hb]
    conv => whnf
    kernel_rfl
  · have hi' : i < l.length := by have := of_decide_eq_true c1; omega
    obtain ⟨a, hx⟩ := get_lt hi'
    obtain ⟨m, hy⟩ := get_lt (xs := ms) (i := i) (by omega)
    have ha := hR.arts a (List.mem_of_getElem? hx)
    have hm := hR.ms m (List.mem_of_getElem? hy)
    rw [drop_at hx, drop_at hy, decF] at hb
    conv => whnf
    refine ⟨by omega, _, gm hx, ?_⟩
    conv => whnf
    cases c2 : decide (0 ≤ a)
    · rw [if_neg (of_decide_eq_false c2)] at hb
      conv => whnf
      exact ⟨(IntKind.wrap .i64 ((i : Int) + 1), acc), by kernel_rfl, ⟨i + 1, nx (by omega), by omega, by rw [← hb]; simp, ha0, by omega⟩, by simp only; rw [nx (by omega)]; omega⟩
    · have h0 := of_decide_eq_true c2
      obtain ⟨x, hax, _, ew⟩ := art_get h0 ha.2
      obtain ⟨M, r, hM, hr, er, _, _⟩ := rate_get h hm h0 ha.2
      have tl := term_le h hm h0 ha.2
      rw [if_pos h0] at hb
      rw [er, ew] at hb tl
      have e1 : IntKind.wrap .i64 (r * x.weight) = r * x.weight := wr_eq (by omega)
      have e2 : IntKind.wrap .i64 (acc + IntKind.wrap .i64 (r * x.weight)) = acc + r * x.weight := by rw [e1, wr_eq (by omega)]
      conv => whnf
      refine ⟨by omega, _, gm hy, ?_⟩
      conv => whnf
      refine ⟨hm.1, _, gz hM, ?_⟩
      conv => whnf
      refine ⟨h0, _, gz hr, ?_⟩
      conv => whnf
      refine ⟨h0, _, gz hax, ?_⟩
      conv => whnf
      exact ⟨(IntKind.wrap .i64 ((i : Int) + 1), IntKind.wrap .i64 (acc + IntKind.wrap .i64 (r * x.weight))), by kernel_rfl, ⟨i + 1, nx (by omega), by omega, by simp only; rw [e2, ← hb]; omega, by simp only; rw [e2]; omega, by simp only; rw [e2]; omega⟩, by simp only; rw [nx (by omega)]; omega⟩

end Go.Proofs.YtbkjfjlmhlmdbaaG

/- Whether a shift may be. No condition. -/
set_option linter.unusedVariables false
set_option linter.unusedSimpArgs false
set_option maxRecDepth 100000
set_option maxHeartbeats 4000000
namespace Go.Proofs.YtbkjfjlmhlmdbaaG
open Go Go.AM Go.Proofs


theorem fits_ok (s : Season) (h : Fr s) (k : Int) (hk : 0 ≤ k ∧ k < s.ovens.length) (ms l : List Int) (hR : Row s ms l) : PureFn Try.prog 68 [seasonD s, int k, rowD ms, rowD l] (boolD (fitsF s k ms l)) := by
  have hl := hR.len
  have hsm := hR.small
  obtain ⟨o, hO⟩ := get_lt (xs := s.ovens) (i := k.toNat) (by omega)
  have eo : ovenA s k = o := by simp [ovenA, hO]
  have hle := decF_le h hR.ms hR.arts
  have hq := quo_le hle.1 (show decF s ms l ≤ 10000000000000 by omega)
  have ew : IntKind.wrap .i64 ((decF s ms l).tdiv 10000) = pullF s ms l := wr_eq (by omega)
  refine pureFn_by Try.func68 k68 rfl rfl ?_
  unfold fitsF
  rw [eo]
  obtain ⟨c, hc⟩ : ∃ c, colF s l = c := ⟨_, rfl⟩
  obtain ⟨B, hB⟩ : ∃ B, okRow s c ms l = B := ⟨_, rfl⟩
  rw [hc, hB]
  have cl := colour_ok s l (by omega) hR.arts
  rw [hc] at cl
  conv => whnf
  refine ⟨_, cl, ?_⟩
  conv => whnf
  refine loopB (fun (x : Int) => ⟨mkT [(1, .d (int k)), (2, .d (rowD ms)), (3, .d (rowD l)), (4, .d (.fptr (cellsS s))), (9, .d (int c)), (15, .d (rowD l)), (16, .d (int (l.map i1).length)), (17, .d (int x))], mkB []⟩)
    (fun x => ∃ i : Nat, x = i ∧ i ≤ l.length ∧ okRow s c (ms.drop i) (l.drop i) = B) (fun x => (l.length - x).toNat) 0 (by kernel_rfl) ⟨0, rfl, by omega, hB⟩ ?_
  rintro _ ⟨i, rfl, hi, hb⟩
  conv => whnf
  rw [List.length_map]
  cases c1 : decide ((i : Int) < (l.length : Int))
  · have hi' : i = l.length := by have := of_decide_eq_false c1; omega
    rw [hi', drop_end] at hb
    have hb : B = true := by
      rw [← hb]
      cases ms.drop l.length <;> simp [okRow]
    rw [hb]
    conv => whnf
    refine ⟨_, decigrams_ok s h ms l hR, ?_⟩
    conv => whnf
    refine ⟨by decide, ?_⟩
    rw [ew]
    conv => whnf
    refine ⟨hk.1, _, gz hO, ?_⟩
    conv => whnf
    refine ⟨hk.1, _, gz hO, ?_⟩
    conv => whnf
    refine ⟨_, within_ok _ _ _, ?_⟩
    conv => whnf
    kernel_rfl
  · have hi' : i < l.length := by have := of_decide_eq_true c1; omega
    obtain ⟨a, hx⟩ := get_lt hi'
    obtain ⟨m, hy⟩ := get_lt (xs := ms) (i := i) (by omega)
    have ha := hR.arts a (List.mem_of_getElem? hx)
    have hm := hR.ms m (List.mem_of_getElem? hy)
    rw [drop_at hx, drop_at hy, okRow] at hb
    conv => whnf
    refine ⟨by omega, _, gm hx, ?_⟩
    conv => whnf
    cases c2 : decide (0 ≤ a)
    · rw [c2] at hb
      conv => whnf
      exact ⟨IntKind.wrap .i64 ((i : Int) + 1), by kernel_rfl, ⟨i + 1, nx (by omega), by omega, hb⟩, by rw [nx (by omega)]; omega⟩
    · have h0 := of_decide_eq_true c2
      obtain ⟨x, hax, ec, _⟩ := art_get h0 ha.2
      obtain ⟨M, r, hM, hr, er, _, _⟩ := rate_get h hm h0 ha.2
      rw [er, ec, c2] at hb
      conv => whnf
      refine ⟨by omega, _, gm hy, ?_⟩
      conv => whnf
      refine ⟨hm.1, _, gz hM, ?_⟩
      conv => whnf
      refine ⟨h0, _, gz hr, ?_⟩
      conv => whnf
      cases c3 : decide (r = 0)
      · rw [c3] at hb
        conv => whnf
        refine ⟨h0, _, gz hax, ?_⟩
        conv => whnf
        cases c4 : decide (x.colour = c)
        · rw [c4] at hb
          rw [← hb]
          conv => whnf
          kernel_rfl
        · rw [c4] at hb
          conv => whnf
          exact ⟨IntKind.wrap .i64 ((i : Int) + 1), by kernel_rfl, ⟨i + 1, nx (by omega), by omega, hb⟩, by rw [nx (by omega)]; omega⟩
      · rw [c3] at hb
        rw [← hb]
        conv => whnf
        kernel_rfl

end Go.Proofs.YtbkjfjlmhlmdbaaG

/- Copies; a furnace's shifts, one by one: what they are. No condition. -/
set_option linter.unusedVariables false
set_option linter.unusedSimpArgs false
set_option maxRecDepth 100000
set_option maxHeartbeats 4000000
namespace Go.Proofs.YtbkjfjlmhlmdbaaG
open Go Go.AM Go.Proofs

theorem snap_take {b : Nat → ABlk} {s n tot esz : Nat} {els : List (List D)} (h1 : b s = .row esz els) (h2 : tot = els.length) (h3 : n ≤ els.length) : snap b 4 (.row s 0 n tot) = some (.list (els.take n)) := by
  subst h2; simp [snap, h1, h3]
theorem snap_row0 {b : Nat → ABlk} {s n esz : Nat} {els : List (List D)} (h1 : b s = .row esz els) (h2 : n = els.length) : snap b 4 (.row s 0 n n) = some (.list els) := by
  subst h2; simp [snap, h1]
theorem mapM2 {b : Nat → ABlk} {x y : AC} {d e : D} (h1 : snap b 4 x = some d) (h2 : snap b 4 y = some e) : [x, y].mapM (snap b 4) = some [d, e] := by
  simp [List.mapM_cons, h1, h2]
theorem call1 {t : Nat → AC} {b : Nat → ABlk} {o1 : Opnd} {d : D} (h1 : snap b 4 (evO t o1) = some d) : ([o1].map (evO t)).mapM (snap b 4) = some [d] := by
  simp [List.mapM_cons, h1]
theorem call2 {t : Nat → AC} {b : Nat → ABlk} {o1 o2 : Opnd} {d e : D} (h1 : snap b 4 (evO t o1) = some d) (h2 : snap b 4 (evO t o2) = some e) : ([o1, o2].map (evO t)).mapM (snap b 4) = some [d, e] := mapM2 h1 h2
theorem call4 {t : Nat → AC} {b : Nat → ABlk} {o1 o2 o3 o4 : Opnd} {d1 d2 d3 d4 : D} (h1 : snap b 4 (evO t o1) = some d1) (h2 : snap b 4 (evO t o2) = some d2) (h3 : snap b 4 (evO t o3) = some d3) (h4 : snap b 4 (evO t o4) = some d4) :
    ([o1, o2, o3, o4].map (evO t)).mapM (snap b 4) = some [d1, d2, d3, d4] := by
  simp [List.mapM_cons, h1, h2, h3, h4]

theorem newD_row {σ : St} {s n esz : Nat} {els : List (List D)} (h2 : σ.b s = .row esz els) (h3 : n = els.length) (h4 : els.all (fun e => e.all flatD) = true) : newD σ (.row s 0 n n) = some (.list els) := by
  subst h3; simp only [newD, h2]; simp [h4]
theorem flat_row (l : List Int) : (l.map i1).all (fun e => e.all flatD) = true := by
  rw [List.all_eq_true]; intro x hx; obtain ⟨n, _, rfl⟩ := List.mem_map.1 hx; rfl
theorem one_row (l : List Int) : (l.map i1).all (fun e => Nat.beq e.length 1) = true := by
  rw [List.all_eq_true]; intro x hx; obtain ⟨n, _, rfl⟩ := List.mem_map.1 hx; rfl

theorem shifts_ok (s : Season) (h : Fr s) (k : Int) : PureFn Try.prog 65 [seasonD s, int k] (.clo 80 [] [.fptr [rowD (makersF s k)], .fptr (cellsS s), .fptr [int k]]) := by
  refine pureFn_by Try.func65 k65 rfl rfl ?_
  conv => whnf
  refine ⟨_, makers_ok s h.sm k, ?_⟩
  conv => whnf
  kernel_rfl

@[reducible] def LS : List Nat := [1, 2, 3, 1001, 1002, 1003]
/-- What takes the shifts, one by one. -/
structure Cons (S : Type) where
  go : S → Bool
  step : S → List Int → S
  c1 : S → ABlk
  c2 : S → ABlk
  c3 : S → ABlk
  h1 : ∀ σ, scrB LS (c1 σ) = c1 σ
  h2 : ∀ σ, scrB LS (c2 σ) = c2 σ
  h3 : ∀ σ, scrB LS (c3 σ) = c3 σ
def Cons.st {S : Type} (C : Cons S) (σ : S) (r : List Int) : S := if C.go σ = true then C.step σ r else σ
def Cons.all {S : Type} (C : Cons S) (rs : List (List Int)) (σ : S) : S := rs.foldl C.st σ
theorem Cons.all_stop {S : Type} (C : Cons S) {rs : List (List Int)} {σ : S} (h : C.go σ = false) : C.all rs σ = σ := by
  induction rs with
  | nil => rfl
  | cons r rs ih => simp only [Cons.all, List.foldl_cons]; rw [show C.st σ r = σ by simp [Cons.st, h]]; exact ih
theorem Cons.all_append {S : Type} (C : Cons S) (a b : List (List Int)) (σ : S) : C.all (a ++ b) σ = C.all b (C.all a σ) := by simp [Cons.all, List.foldl_append]

section
variable {S : Type} (C : Cons S) (s : Season) (k : Int) (ms : List Int) (lp : Nat)
@[reducible] def fcaps : List AC := [.d (.fptr [rowD ms]), .d (.fptr (cellsS s)), .d (.fptr [int k]), .ptr 1001 0, .d (.fptr [.v (.func (.yield lp) #[] #[])]), .ptr 1002 0]
@[reducible] def fst' (x : S × List (List D)) : Nat → ABlk :=
  mkB [(1, C.c1 x.1), (2, C.c2 x.1), (3, C.c3 x.1), (1001, .var [.row 1003 0 ms.length ms.length]), (1002, .var [.clo 81 [] (fcaps s k ms lp)]), (1003, .row 1 x.2)]
/-- The slots lie so. -/
structure Lie (x : S × List (List D)) (b : Nat → ABlk) : Prop where
  b1 : b 1 = C.c1 x.1
  b2 : b 2 = C.c2 x.1
  b3 : b 3 = C.c3 x.1
  b4 : b 1001 = .var [.row 1003 0 ms.length ms.length]
  b5 : b 1002 = .var [.clo 81 [] (fcaps s k ms lp)]
  b6 : b 1003 = .row 1 x.2
theorem Lie.forget {x : S × List (List D)} {t : Nat → AC} {b : Nat → ABlk} (h : Lie C s k ms lp x b) (lt : List Nat) : (St.forget ⟨t, b⟩ lt LS).b = fst' C s k ms lp x := by
  show mkB [(1, scrB LS (b 1)), (2, scrB LS (b 2)), (3, scrB LS (b 3)), (1001, scrB LS (b 1001)), (1002, scrB LS (b 1002)), (1003, scrB LS (b 1003))] = _
  rw [h.b1, h.b2, h.b3, h.b4, h.b5, h.b6, C.h1, C.h2, C.h3]
  rfl
end
/-- Is an article left out behind others? -/
def skipF (s : Season) (ms pre : List Int) (a : Int) : Bool := decide (0 ≤ a) && (decide (rateF s (ms.getD pre.length 0) a = 0) || !decide (colA s a = colF s (pre ++ [a])))
/-- The shifts that begin with some articles. -/
def rowsF (s : Season) (k : Int) (ms : List Int) : Nat → List Int → List (List Int)
  | 0, pre => if fitsF s k ms pre = true then [pre] else []
  | d + 1, pre => (List.range (s.arts.length + 1)).flatMap fun (u : Nat) => if skipF s ms pre ((u : Int) - 1) = true then [] else rowsF s k ms d (pre ++ [(u : Int) - 1])
def shiftsF (s : Season) (k : Int) : List (List Int) := rowsF s k (makersF s k) (makersF s k).length []
end Go.Proofs.YtbkjfjlmhlmdbaaG

/- The closure that goes through a furnace's shifts. No condition. -/
set_option linter.unusedVariables false
set_option linter.unusedSimpArgs false
set_option maxRecDepth 100000
set_option maxHeartbeats 4000000
namespace Go.Proofs.YtbkjfjlmhlmdbaaG
open Go Go.AM Go.Proofs

theorem Lie.fgt {S : Type} {C : Cons S} {s : Season} {k : Int} {ms : List Int} {lp : Nat} {x : S × List (List D)} {t T : Nat → AC} {b : Nat → ABlk} {lt : List Nat} (h : Lie C s k ms lp x b) (ht : mkT (lt.map fun i => (i, scrC LS (t i))) = T) :
    St.forget ⟨t, b⟩ lt LS = ⟨T, fst' C s k ms lp x⟩ := by
  have h1 := Lie.forget C s k ms lp (t := t) h lt
  have h2 : (St.forget ⟨t, b⟩ lt LS).t = T := ht
  calc St.forget ⟨t, b⟩ lt LS = ⟨(St.forget ⟨t, b⟩ lt LS).t, (St.forget ⟨t, b⟩ lt LS).b⟩ := rfl
    _ = _ := by rw [h1, h2]

theorem from_ok {S : Type} (C : Cons S) (s : Season) (h : Fr s) (k : Int) (hk : 0 ≤ k ∧ k < s.ovens.length) (ms : List Int) (hms : ∀ m ∈ ms, 0 ≤ m ∧ m < s.makers.length) (hml : ms.length ≤ 6) (lp : Nat) (H : Hand) (hm : HLe H H) (ALL : List (List Int)) (σ0 : S)
    (hy : ∀ rs row σ, σ = C.all rs σ0 → (∃ rest, rs ++ row :: rest = ALL) → C.go σ = true → row.length = ms.length → Arts s row → H LS lp [.row 1003 0 ms.length ms.length] (fst' C s k ms lp (σ, row.map i1)) (fun y b' => y = bC (C.go (C.step σ row)) ∧ Lie C s k ms lp (C.step σ row, row.map i1) b')) :
    ∀ (d j : Nat) (pre row : List Int) (σ : S) (rs rest : List (List Int)), rs ++ (rowsF s k ms d pre ++ rest) = ALL → σ = C.all rs σ0 → j + d = ms.length → pre.length = j → row.length = ms.length → row.take j = pre → Arts s pre → C.go σ = true →
      ImpFn Try.prog H LS 81 (.d (int (j : Int)) :: fcaps s k ms lp) (fst' C s k ms lp (σ, row.map i1)) (fun y b' => ∃ row' : List Int, row'.length = ms.length ∧ row'.take j = pre ∧ y = bC (C.go (C.all (rowsF s k ms d pre) σ)) ∧ b' = fst' C s k ms lp (C.all (rowsF s k ms d pre) σ, row'.map i1)) := by
  intro d
  induction d with
  | zero =>
    intro j pre row σ rs rest hALL hσ hj hp hrl hrt hA hgo
    have hrow : row = pre := by rw [← hrt, List.take_of_length_le (by omega)]
    subst hrow
    have ft := fits_ok s h k hk ms row ⟨hrl.symm, by omega, hms, hA⟩
    refine impFn_by hm Try.func81 k81 rfl rfl ?_
    conv => whnf
    rw [List.length_map, show decide ((j : Int) = (ms.length : Int)) = true from decide_eq_true (by omega)]
    conv => whnf
    rw [call4 (d1 := seasonD s) (d2 := int k) (d3 := rowD ms) (d4 := rowD row) rfl rfl rfl (snap_row0 (s := 1003) (esz := 1) (els := row.map i1) rfl (by simp [hrl]))]
    conv => whnf
    refine ⟨_, ft, rfl, ?_⟩
    simp only [rowsF] at hALL ⊢
    cases cf : fitsF s k ms row
    · conv => whnf
      refine ⟨.d (.v (.bool true)), by kernel_rfl, row, hrl, hrt, ?_, ?_⟩
      · show _ = bC (C.go σ)
        rw [hgo]; rfl
      · show _ = fst' C s k ms lp (σ, row.map i1)
        exact Lie.forget C s k ms lp (x := (σ, row.map i1)) ⟨rfl, rfl, rfl, rfl, rfl, rfl⟩ _
    · conv => whnf
      refine hm _ _ _ _ _ _ ?_ (hy rs row σ hσ ⟨rest, by rw [cf] at hALL; exact hALL⟩ hgo hrl hA)
      rintro y b' ⟨rfl, hL⟩
      have e1 : C.all (if true = true then [row] else []) σ = C.step σ row := by simp [Cons.all, Cons.st, hgo]
      rw [e1]
      conv => whnf
      refine ⟨.d (.v (.bool (C.go (C.step σ row)))), by kernel_rfl, row, hrl, hrt, rfl, ?_⟩
      exact Lie.forget C s k ms lp hL _
  | succ d ih =>
    intro j pre row σ rs rest hALL hσ hj hp hrl hrt hA hgo
    have hna := h.na
    have hml2 := hml
    obtain ⟨FIN, hFIN⟩ : ∃ FIN, C.all (rowsF s k ms (d + 1) pre) σ = FIN := ⟨_, rfl⟩
    rw [hFIN]
    obtain ⟨F, hF⟩ : ∃ F : Nat → List (List Int), F = fun (u : Nat) => if skipF s ms pre ((u : Int) - 1) = true then [] else rowsF s k ms d (pre ++ [(u : Int) - 1]) := ⟨_, rfl⟩
    have hall : C.all (((List.range (s.arts.length + 1)).drop 0).flatMap F) σ = FIN := by rw [← hFIN, hF]; rfl
    refine impFn_by hm Try.func81 k81 rfl rfl ?_
    conv => whnf
    rw [List.length_map, show decide ((j : Int) = (ms.length : Int)) = false from decide_eq_false (by omega)]
    conv => whnf
    refine loopB (fun (x : Int × S × List (List D)) => ⟨mkT [(0, .d (int (j : Int))), (1, .d (.fptr [rowD ms])), (2, .d (.fptr (cellsS s))), (4, .ptr 1001 0), (6, .ptr 1002 0), (9, .d (int x.1))], fst' C s k ms lp x.2⟩)
      (fun x => ∃ (u : Nat) (row : List Int), x.1 = (u : Int) - 1 ∧ u ≤ s.arts.length + 1 ∧ row.length = ms.length ∧ row.take j = pre ∧ x.2.2 = row.map i1 ∧ C.go x.2.1 = true ∧ C.all (((List.range (s.arts.length + 1)).drop u).flatMap F) x.2.1 = FIN ∧ ∃ rs1, x.2.1 = C.all rs1 σ0 ∧ rs1 ++ (((List.range (s.arts.length + 1)).drop u).flatMap F ++ rest) = ALL)
      (fun x => ((s.arts.length : Int) - x.1).toNat) (-1, σ, row.map i1) (Lie.fgt ⟨rfl, rfl, rfl, rfl, rfl, rfl⟩ (by kernel_rfl)) ⟨0, row, by simp, by omega, hrl, hrt, rfl, hgo, hall, rs, hσ, by rw [← hALL, hF]; rfl⟩ ?_
    rintro ⟨a, σ1, els⟩ ⟨u, row1, ha, hu, hr1, ht1, he, hg1, hf, rs1, hrs, hA1⟩
    simp only at ha he hg1 hf hrs
    subst he
    conv => whnf
    rw [List.length_map]
    cases c1 : decide (a < (s.arts.length : Int))
    · have hu' : s.arts.length + 1 ≤ u := by have := of_decide_eq_false c1; omega
      rw [List.drop_of_length_le (by simpa using hu')] at hf
      have e2 : σ1 = FIN := hf
      subst e2
      conv => whnf
      refine ⟨.d (.v (.bool true)), by kernel_rfl, row1, hr1, ht1, ?_, ?_⟩
      · rw [hg1]; rfl
      · exact Lie.forget C s k ms lp (x := (σ1, row1.map i1)) ⟨rfl, rfl, rfl, rfl, rfl, rfl⟩ _
    · have hlt := of_decide_eq_true c1
      obtain ⟨m, hy2⟩ := get_lt (xs := ms) (i := j) (by omega)
      have hm2 := hms m (List.mem_of_getElem? hy2)
      obtain ⟨o, ho⟩ := get_lt (xs := row1) (i := j) (by omega)
      have hwa : IntKind.wrap .i64 (a + 1) = a + 1 := wr_eq (by omega)
      have hset : ABlk.row 1 ((row1.map i1).set (0 + ((j : Nat) : Int).toNat) (List.take 0 (i1 o) ++ [int a] ++ List.drop (0 + 1) (i1 o))) = .row 1 ((row1.set j a).map i1) := by
        rw [Nat.zero_add, Int.toNat_natCast, List.map_set]; rfl
      have hts : (row1.set j a).take j = pre := by rw [List.take_set_of_le (by omega)]; exact ht1
      have hts1 : (row1.set j a).take (j + 1) = pre ++ [a] := by
        rw [List.take_add_one, hts]; simp [show j < row1.length by omega]
      have hFu : F u = if skipF s ms pre a = true then [] else rowsF s k ms d (pre ++ [a]) := by rw [hF, ha]
      have hdr : (List.range (s.arts.length + 1)).drop u = u :: (List.range (s.arts.length + 1)).drop (u + 1) := drop_at (List.getElem?_range (by omega))
      rw [hdr, List.flatMap_cons, C.all_append, hFu] at hf
      rw [hdr, List.flatMap_cons, hFu] at hA1
      have hAa : Arts s (pre ++ [a]) := fun x hx => by
        rcases List.mem_append.1 hx with hx | hx
        · exact hA x hx
        · simp at hx; subst hx; omega
      have ih' := fun (e : skipF s ms pre a = false) => ih (j + 1) (pre ++ [a]) (row1.set j a) σ1 rs1 (((List.range (s.arts.length + 1)).drop (u + 1)).flatMap F ++ rest) (by rw [e, if_neg (by simp)] at hA1; rw [← hA1]; simp) hrs (by omega) (by simp [hp]) (by simp [hr1]) hts1 hAa hg1
      rw [← nx (by omega)] at ih'
      have hskA : skipF s ms pre a = true → rs1 ++ (((List.range (s.arts.length + 1)).drop (u + 1)).flatMap F ++ rest) = ALL := fun e => by rw [if_pos e] at hA1; exact hA1
      have hgoA : skipF s ms pre a = false → ∀ σ2, C.all (rowsF s k ms d (pre ++ [a])) σ1 = σ2 → ∃ rs2, σ2 = C.all rs2 σ0 ∧ rs2 ++ (((List.range (s.arts.length + 1)).drop (u + 1)).flatMap F ++ rest) = ALL := fun e σ2 e2 => by
        rw [e, if_neg (by simp)] at hA1
        exact ⟨rs1 ++ rowsF s k ms d (pre ++ [a]), by rw [C.all_append, ← hrs, e2], by rw [← hA1]; simp⟩
      have hsk : skipF s ms pre a = true → C.all (((List.range (s.arts.length + 1)).drop (u + 1)).flatMap F) σ1 = FIN := fun e => by rw [if_pos e] at hf; exact hf
      have hgo1 : skipF s ms pre a = false → ∀ σ2, C.all (rowsF s k ms d (pre ++ [a])) σ1 = σ2 → C.all (((List.range (s.arts.length + 1)).drop (u + 1)).flatMap F) σ2 = FIN := fun e σ2 e2 => by
        rw [e, if_neg (by simp), e2] at hf; exact hf
      have hmg : ms.getD pre.length 0 = m := by rw [hp]; simp [List.getD, hy2]
      have esk : skipF s ms pre a = (decide (0 ≤ a) && (decide (rateF s m a = 0) || !decide (colA s a = colF s (pre ++ [a])))) := by unfold skipF; rw [hmg]
      conv => whnf
      refine ⟨by omega, by omega, by simp [hr1], ?_⟩
      conv => whnf
      refine ⟨by simp [hr1], _, (by rw [Nat.zero_add]; exact gm ho), ?_⟩
      conv => whnf
      cases c2 : decide (0 ≤ a)
      · have esk0 : skipF s ms pre a = false := by rw [esk, c2]; rfl
        have hgo2 := hgo1 esk0
        have hgoA2 := hgoA esk0
        have ih' := ih' esk0
        conv => whnf
        refine ⟨⟨mkT [(0, .d (int (j : Int))), (1, .d (.fptr [rowD ms])), (2, .d (.fptr (cellsS s))), (4, .ptr 1001 0), (6, .ptr 1002 0), (9, .d (int a))], fst' C s k ms lp (σ1, (row1.set j a).map i1)⟩, _, Lie.fgt ⟨rfl, rfl, rfl, rfl, rfl, hset⟩ (by kernel_rfl), (le_HM H).imp ih', ?_⟩
        rintro _ _ ⟨row2, hl2, ht2, rfl, rfl⟩
        obtain ⟨σ2, hσ2⟩ : ∃ σ2, C.all (rowsF s k ms d (pre ++ [a])) σ1 = σ2 := ⟨_, rfl⟩
        rw [hσ2]
        have ht3 : row2.take j = pre := by
          have := congrArg (List.take j) ht2
          rw [List.take_take, Nat.min_eq_left (by omega), List.take_left' hp] at this
          exact this
        have hf2 := hgo2 σ2 hσ2
        cases hg2 : C.go σ2
        · have e2 : FIN = σ2 := by rw [← hf2, C.all_stop hg2]
          conv => whnf
          refine ⟨.d (.v (.bool false)), by kernel_rfl, row2, hl2, ht3, ?_, ?_⟩
          · rw [e2, hg2]; rfl
          · rw [e2]
            exact Lie.forget C s k ms lp (x := (σ2, row2.map i1)) ⟨rfl, rfl, rfl, rfl, rfl, rfl⟩ _
        · conv => whnf
          exact ⟨(IntKind.wrap .i64 (a + 1), σ2, row2.map i1), Lie.fgt ⟨rfl, rfl, rfl, rfl, rfl, rfl⟩ (by kernel_rfl), ⟨u + 1, row2, by simp only; rw [hwa]; omega, by omega, hl2, ht3, rfl, hg2, hf2, hgoA2 σ2 hσ2⟩, by simp only; rw [hwa]; omega⟩
      · have h0 := of_decide_eq_true c2
        obtain ⟨x, hax, ec, _⟩ := art_get h0 hlt
        obtain ⟨M, r, hM, hr, er, _, _⟩ := rate_get h hm2 h0 hlt
        rw [c2, er, ec] at esk
        conv => whnf
        refine ⟨by omega, _, gm hy2, ?_⟩
        conv => whnf
        refine ⟨hm2.1, _, gz hM, ?_⟩
        conv => whnf
        refine ⟨h0, _, gz hr, ?_⟩
        conv => whnf
        cases c3 : decide (r = 0)
        · rw [c3] at esk
          have cl := colour_ok s (pre ++ [a]) (by simp; omega) hAa
          have hsn : ∀ b : Nat → ABlk, b 1003 = .row 1 ((row1.set j a).map i1) → snap b 4 (.row 1003 0 (IntKind.wrap .i64 ((j : Int) + 1)).toNat ms.length) = some (rowD (pre ++ [a])) := fun b hb => by
            rw [snap_take hb (by simp [hr1]) (by rw [nx (by omega)]; simp [hr1]; omega), nx (by omega), Int.toNat_natCast, ← List.map_take, hts1]
          conv => whnf
          refine ⟨h0, _, gz hax, ?_⟩
          conv => whnf
          have hw1 : 0 ≤ IntKind.wrap .i64 ((j : Int) + 1) ∧ IntKind.wrap .i64 ((j : Int) + 1) ≤ (ms.length : Int) := by rw [nx (by omega)]; omega
          refine ⟨rfl, hw1.1, hw1.2, rfl, by simp [hr1], ?_⟩
          conv => whnf
          rw [call2 (d := seasonD s) (e := rowD (pre ++ [a])) rfl (hsn _ hset)]
          conv => whnf
          refine ⟨_, cl, rfl, ?_⟩
          conv => whnf
          cases c4 : decide (x.colour = colF s (pre ++ [a]))
          · rw [c4] at esk
            conv => whnf
            exact ⟨(IntKind.wrap .i64 (a + 1), σ1, (row1.set j a).map i1), Lie.fgt ⟨rfl, rfl, rfl, rfl, rfl, hset⟩ (by kernel_rfl), ⟨u + 1, row1.set j a, by simp only; rw [hwa]; omega, by omega, by simp [hr1], hts, rfl, hg1, hsk (by rw [esk]; rfl), rs1, hrs, hskA (by rw [esk]; rfl)⟩, by simp only; rw [hwa]; omega⟩
          · rw [c4] at esk
            have esk0 : skipF s ms pre a = false := by rw [esk]; rfl
            have hgo2 := hgo1 esk0
            have hgoA2 := hgoA esk0
            have ih' := ih' esk0
            conv => whnf
            refine ⟨⟨mkT [(0, .d (int (j : Int))), (1, .d (.fptr [rowD ms])), (2, .d (.fptr (cellsS s))), (4, .ptr 1001 0), (6, .ptr 1002 0), (9, .d (int a))], fst' C s k ms lp (σ1, (row1.set j a).map i1)⟩, _, Lie.fgt ⟨rfl, rfl, rfl, rfl, rfl, hset⟩ (by kernel_rfl), (le_HM H).imp ih', ?_⟩
            rintro _ _ ⟨row2, hl2, ht2, rfl, rfl⟩
            obtain ⟨σ2, hσ2⟩ : ∃ σ2, C.all (rowsF s k ms d (pre ++ [a])) σ1 = σ2 := ⟨_, rfl⟩
            rw [hσ2]
            have ht3 : row2.take j = pre := by
              have := congrArg (List.take j) ht2
              rw [List.take_take, Nat.min_eq_left (by omega), List.take_left' hp] at this
              exact this
            have hf2 := hgo2 σ2 hσ2
            cases hg2 : C.go σ2
            · have e2 : FIN = σ2 := by rw [← hf2, C.all_stop hg2]
              conv => whnf
              refine ⟨.d (.v (.bool false)), by kernel_rfl, row2, hl2, ht3, ?_, ?_⟩
              · rw [e2, hg2]; rfl
              · rw [e2]
                exact Lie.forget C s k ms lp (x := (σ2, row2.map i1)) ⟨rfl, rfl, rfl, rfl, rfl, rfl⟩ _
            · conv => whnf
              exact ⟨(IntKind.wrap .i64 (a + 1), σ2, row2.map i1), Lie.fgt ⟨rfl, rfl, rfl, rfl, rfl, rfl⟩ (by kernel_rfl), ⟨u + 1, row2, by simp only; rw [hwa]; omega, by omega, hl2, ht3, rfl, hg2, hf2, hgoA2 σ2 hσ2⟩, by simp only; rw [hwa]; omega⟩
        · rw [c3] at esk
          conv => whnf
          exact ⟨(IntKind.wrap .i64 (a + 1), σ1, (row1.set j a).map i1), Lie.fgt ⟨rfl, rfl, rfl, rfl, rfl, hset⟩ (by kernel_rfl), ⟨u + 1, row1.set j a, by simp only; rw [hwa]; omega, by omega, by simp [hr1], hts, rfl, hg1, hsk (by rw [esk]; rfl), rs1, hrs, hskA (by rw [esk]; rfl)⟩, by simp only; rw [hwa]; omega⟩
end Go.Proofs.YtbkjfjlmhlmdbaaG

/- All shifts of a furnace. No condition. -/
set_option linter.unusedVariables false
set_option linter.unusedSimpArgs false
set_option maxRecDepth 100000
set_option maxHeartbeats 4000000
namespace Go.Proofs.YtbkjfjlmhlmdbaaG
open Go Go.AM Go.Proofs

theorem rowsF_len {s : Season} (h : s.arts.length ≤ 8) {k : Int} {ms : List Int} : ∀ {d : Nat} {pre : List Int}, (rowsF s k ms d pre).length ≤ 9 ^ d
  | 0, pre => by simp only [rowsF]; split <;> simp
  | d + 1, pre => by
    simp only [rowsF, List.length_flatMap]
    have : ∀ (l : List Nat), (l.map fun (u : Nat) => (if skipF s ms pre ((u : Int) - 1) = true then [] else rowsF s k ms d (pre ++ [(u : Int) - 1])).length).sum ≤ l.length * 9 ^ d := fun l => by
      induction l with
      | nil => simp
      | cons u l ih =>
        simp only [List.map_cons, List.sum_cons, List.length_cons, Nat.add_mul]
        have h1 : (if skipF s ms pre ((u : Int) - 1) = true then [] else rowsF s k ms d (pre ++ [(u : Int) - 1])).length ≤ 9 ^ d := by
          split
          · simp
          · exact rowsF_len h
        omega
    refine Nat.le_trans (this _) ?_
    rw [List.length_range, Nat.pow_succ, Nat.mul_comm]
    exact Nat.mul_le_mul_left _ (by omega)
theorem shiftsF_len {s : Season} (h : Fr s) (k : Int) : (shiftsF s k).length ≤ 531441 := by
  have h1 := rowsF_len h.na (k := k) (ms := makersF s k) (d := (makersF s k).length) (pre := [])
  have h2 : (makersF s k).length ≤ 6 := Nat.le_trans (makersF_len s k) h.nm
  have h3 : 9 ^ (makersF s k).length ≤ 9 ^ 6 := Nat.pow_le_pow_right (by omega) h2
  have : (9 : Nat) ^ 6 = 531441 := by decide
  unfold shiftsF; omega
theorem cond_intro {c : Bool} {p q : Prop} (h : c = true) (hp : p) : cond c p q := by subst h; exact hp
theorem planD_row (p : List (List Int)) : (p.map rowL).length = p.length := by simp

/-- The list that all shifts are appended to. -/
def CAll : Cons (List (List Int)) where
  go := fun _ => true
  step := fun acc r => acc ++ [r]
  c1 := fun acc => .var [.row 2 0 acc.length acc.length]
  c2 := fun acc => .row 1 (acc.map rowL)
  c3 := fun _ => .fresh
  h1 := fun _ => rfl
  h2 := fun _ => rfl
  h3 := fun _ => rfl
theorem CAll_all : ∀ (rs acc : List (List Int)), CAll.all rs acc = acc ++ rs
  | [], acc => by simp [Cons.all]
  | r :: rs, acc => by
    have : CAll.all (r :: rs) acc = CAll.all rs (acc ++ [r]) := rfl
    rw [this, CAll_all rs]; simp

end Go.Proofs.YtbkjfjlmhlmdbaaG
