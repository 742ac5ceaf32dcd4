/- A furnace's day: what its machines make, and what it costs. No condition. -/
import Derived.Test.YtmkmegcconjgoaaP14
set_option linter.unusedVariables false
set_option linter.unusedSimpArgs false
set_option maxRecDepth 100000
set_option maxHeartbeats 4000000
namespace Go.Proofs.YtmkmegcconjgoaaG
open Go Go.AM Go.Proofs

def turnA (l : List (List (Int × Int))) (a b : Int) : Int × Int := ((l[a.toNat]?).bind (·[b.toNat]?)).getD (0, 0)
def idleF (s : Season) (m : Int) : Int := ((s.makers[m.toNat]?).map (·.idle)).getD 0
def lostF (s : Season) (b n : List Int) : Int × Int := if 0 ≤ colF s b ∧ 0 ≤ colF s n ∧ colF s b ≠ colF s n then turnA s.cols (colF s b) (colF s n) else (0, 0)
def jobF (s : Season) (b a : Int) : Int × Int := if 0 ≤ b ∧ b ≠ a then turnA s.jobs b a else (0, 0)
def madeA (s : Season) (lost m b a : Int) : Int := if a < 0 then 0 else (rateF s m a * max (1440 - (lost + (jobF s b a).1)) 0).tdiv 1440
def costA (s : Season) (m b a : Int) : Int := if a < 0 then idleF s m else (jobF s b a).2
def madeL (s : Season) (lost : Int) : List Int → List Int → List Int → List Int
  | m :: ms, b :: bs, a :: r => madeA s lost m b a :: madeL s lost ms bs r
  | _, _, _ => []
def costL (s : Season) : List Int → List Int → List Int → Int
  | m :: ms, b :: bs, a :: r => costA s m b a + costL s ms bs r
  | _, _, _ => 0
def workedF (s : Season) (ms b n : List Int) : List Int × Int := (madeL s (lostF s b n).1 ms b n, (lostF s b n).2 + costL s ms b n)

theorem colF_lt {s : Season} (h : Fr s) : ∀ {l : List Int}, Arts s l → colF s l = -1 ∨ 0 ≤ colF s l ∧ colF s l < s.cols.length
  | [], _ => .inl rfl
  | a :: r, hA => by
    unfold colF
    split
    · rename_i h0
      obtain ⟨x, hx, e, _⟩ := art_get h0 (hA a (by simp)).2
      have := h.art x (List.mem_of_getElem? hx)
      rw [e]; right; omega
    · exact colF_lt h (fun x hx => hA x (by simp [hx]))
theorem turn_get {l : List (List (Int × Int))} {n : Nat} (hl : l.length = n) (hr : ∀ r ∈ l, r.length = n ∧ ∀ t ∈ r, 0 ≤ t.1 ∧ t.1 ≤ 1440 ∧ 0 ≤ t.2 ∧ t.2 ≤ 1000000) {a b : Int} (ha : 0 ≤ a ∧ a < n) (hb : 0 ≤ b ∧ b < n) :
    ∃ r t, l[a.toNat]? = some r ∧ r[b.toNat]? = some t ∧ turnA l a b = t ∧ 0 ≤ t.1 ∧ t.1 ≤ 1440 ∧ 0 ≤ t.2 ∧ t.2 ≤ 1000000 := by
  obtain ⟨r, h1⟩ := get_lt (xs := l) (i := a.toNat) (by omega)
  have h2 := hr r (List.mem_of_getElem? h1)
  obtain ⟨t, h3⟩ := get_lt (xs := r) (i := b.toNat) (by omega)
  exact ⟨r, t, h1, h3, by simp [turnA, h1, h3], h2.2 t (List.mem_of_getElem? h3)⟩
theorem lostF_le {s : Season} (h : Fr s) {b n : List Int} (hb : Arts s b) (hn : Arts s n) : 0 ≤ (lostF s b n).1 ∧ (lostF s b n).1 ≤ 1440 ∧ 0 ≤ (lostF s b n).2 ∧ (lostF s b n).2 ≤ 1000000 := by
  unfold lostF
  split
  · rename_i h1
    have k1 := colF_lt h hb
    have k2 := colF_lt h hn
    obtain ⟨r, t, _, _, e, h2⟩ := turn_get (n := s.cols.length) rfl h.cols (a := colF s b) (b := colF s n) (by omega) (by omega)
    rw [e]; exact h2
  · simp
theorem jobF_le {s : Season} (h : Fr s) {b a : Int} (hb : b < s.arts.length) (ha : 0 ≤ a ∧ a < s.arts.length) : 0 ≤ (jobF s b a).1 ∧ (jobF s b a).1 ≤ 1440 ∧ 0 ≤ (jobF s b a).2 ∧ (jobF s b a).2 ≤ 1000000 := by
  unfold jobF
  split
  · rename_i h1
    obtain ⟨r, t, _, _, e, h2⟩ := turn_get h.jobs.1 h.jobs.2 (a := b) (b := a) (by omega) ha
    rw [e]; exact h2
  · simp
theorem quo1440 {n : Int} (h0 : 0 ≤ n) (h1 : n ≤ 1440000000) : 0 ≤ n.tdiv 1440 ∧ n.tdiv 1440 ≤ 1000000 := by
  rw [Int.tdiv_eq_ediv_of_nonneg h0]; omega
theorem rate_max {r q : Int} (h : 0 ≤ r ∧ r ≤ 1000000) (h2 : 0 ≤ q ∧ q ≤ 1440) : 0 ≤ r * q ∧ r * q ≤ 1440000000 := by
  refine ⟨Int.mul_nonneg h.1 h2.1, ?_⟩
  calc r * q ≤ 1000000 * q := Int.mul_le_mul_of_nonneg_right h.2 h2.1
    _ ≤ 1000000 * 1440 := Int.mul_le_mul_of_nonneg_left h2.2 (by omega)
    _ = 1440000000 := by decide
theorem madeA_le {s : Season} (h : Fr s) {lost m b a : Int} (hl : 0 ≤ lost ∧ lost ≤ 1440) (hm : 0 ≤ m ∧ m < s.makers.length) (hb : b < s.arts.length) (ha : a < s.arts.length) : 0 ≤ madeA s lost m b a ∧ madeA s lost m b a ≤ 1000000 := by
  unfold madeA
  split
  · simp
  · obtain ⟨M, r, _, _, e, h1, h2⟩ := rate_get h hm (show 0 ≤ a by omega) ha
    have j := jobF_le h hb ⟨by omega, ha⟩
    rw [e]
    have := rate_max ⟨h1, h2⟩ (q := max (1440 - (lost + (jobF s b a).1)) 0) (by omega)
    exact quo1440 this.1 this.2

theorem worked_ok (s : Season) (h : Fr s) (ms b n : List Int) (hb : Row s ms b) (hn : Row s ms n) : PureFn Try.prog 92 [seasonD s, rowD ms, rowD b, rowD n] (.agg [rowD (workedF s ms b n).1, int (workedF s ms b n).2]) := by
  have hl1 := hb.len
  have hl2 := hn.len
  have hsm := hn.small
  have lle := lostF_le h hb.arts hn.arts
  have cb := colour_ok s b (by omega) hb.arts
  have cn := colour_ok s n (by omega) hn.arts
  have kb := colF_lt h hb.arts
  have kn := colF_lt h hn.arts
  obtain ⟨⟨lost, lc⟩, hlost⟩ : ∃ L, lostF s b n = L := ⟨_, rfl⟩
  have elost : (lost, lc) = if 0 ≤ colF s b ∧ 0 ≤ colF s n ∧ colF s b ≠ colF s n then turnA s.cols (colF s b) (colF s n) else (0, 0) := by rw [← hlost]; rfl
  unfold workedF
  rw [hlost] at lle ⊢
  simp only at lle ⊢
  obtain ⟨MADE, hMADE⟩ : ∃ x, madeL s lost ms b n = x := ⟨_, rfl⟩
  obtain ⟨COST, hCOST⟩ : ∃ x, lc + costL s ms b n = x := ⟨_, rfl⟩
  rw [hMADE, hCOST]
  obtain ⟨B, hB⟩ : ∃ B, colF s b = B := ⟨_, rfl⟩
  obtain ⟨N, hN⟩ : ∃ N, colF s n = N := ⟨_, rfl⟩
  rw [hB] at cb kb elost
  rw [hN] at cn kn elost
  refine pureFn_by Try.func92 k92 rfl rfl ?_
  conv => whnf
  refine ⟨_, cb, ?_⟩
  conv => whnf
  refine ⟨_, cn, ?_⟩
  conv => whnf
  cases d1 : decide (0 ≤ B)
  · have g1 := of_decide_eq_false d1
    rw [if_neg (by omega)] at elost
    cases elost
    conv => whnf
    refine loopB (fun (x : Int × List (List D) × Nat × Int) => ⟨mkT [(1, .d (rowD ms)), (2, .d (rowD b)), (4, .d (.fptr (cellsS s))), (8, .ptr 1 0), (9, .ptr 2 0), (10, .d (int 0)), (54, .d (rowD n)), (55, .d (int (n.map i1).length)), (56, .d (int x.1))], mkB [(1, .var [.d (.v (.slice none 0 0)), .d (int 0)]), (2, .var [.row 4 0 x.2.2.1 x.2.2.1, .d (int x.2.2.2)]), (4, .row 1 x.2.1)]⟩)
      (fun x => ∃ (i : Nat) (acc : List Int), x.1 = i ∧ i ≤ n.length ∧ x.2.1 = acc.map i1 ∧ x.2.2.1 = x.2.1.length ∧ acc.length = i ∧ acc ++ madeL s 0 (ms.drop i) (b.drop i) (n.drop i) = MADE ∧ x.2.2.2 + costL s (ms.drop i) (b.drop i) (n.drop i) = COST ∧ 0 ≤ x.2.2.2 ∧ x.2.2.2 ≤ 1000000 * (i + 1)) (fun x => (n.length - x.1).toNat) (0, [], 0, 0) (by kernel_rfl) ⟨0, [], rfl, by omega, rfl, rfl, rfl, hMADE, hCOST, (by show (0 : Int) ≤ 0; omega), (by show (0 : Int) ≤ 1000000 * (((0 : Nat) : Int) + 1); omega)⟩ ?_
    rintro ⟨_, els, nn, cost⟩ ⟨i, acc, rfl, hi, he, hn0, hac, hb1, hb2, hc0, hc1⟩
    simp only at he hn0 hb2 hc0 hc1
    conv => whnf
    rw [List.length_map]
    cases c1 : decide ((i : Int) < (n.length : Int))
    · have hi' : i = n.length := by have := of_decide_eq_false c1; omega
      have e1 : n.drop i = [] := by rw [hi']; simp
      have e2 : ms.drop i = [] := List.drop_of_length_le (by omega)
      rw [e1, e2] at hb1 hb2
      have hb1 : acc = MADE := by simpa [madeL] using hb1
      have hb2 : cost = COST := by simpa [costL] using hb2
      conv => whnf
      refine cond_intro (by show (true && ((nn == els.length) && true)) = true; simp [hn0]) ?_
      conv => whnf
      have fin : ∀ σ : St, σ.t 8 = .ptr 1 0 → σ.b 1 = .var [.row 4 0 nn nn, .d (int cost)] → σ.b 4 = .row 1 els → resA [.c 8 (.agg 2)] σ = some (.agg [rowD MADE, int COST]) := fun σ h1 h2 h3 => by
        subst hn0
        simp [resA, readRV, h1, h2, snap, h3, he, hb1, hb2, List.take_of_length_le]
      exact fin _ rfl rfl rfl
    · have hi' : i < n.length := by have := of_decide_eq_true c1; omega
      obtain ⟨a, hx⟩ := get_lt hi'
      obtain ⟨m, hy⟩ := get_lt (xs := ms) (i := i) (by omega)
      obtain ⟨bb, hz⟩ := get_lt (xs := b) (i := i) (by omega)
      have ha := hn.arts a (List.mem_of_getElem? hx)
      have hbb := hb.arts bb (List.mem_of_getElem? hz)
      have hm := hn.ms m (List.mem_of_getElem? hy)
      obtain ⟨M, hM⟩ := get_lt (xs := s.makers) (i := m.toNat) (by omega)
      have hMk := h.maker M (List.mem_of_getElem? hM)
      rw [drop_at hx, drop_at hy, drop_at hz, madeL] at hb1
      rw [drop_at hx, drop_at hy, drop_at hz, costL] at hb2
      conv => whnf
      refine ⟨by omega, _, gm hx, ?_⟩
      conv => whnf
      refine ⟨by omega, _, gm hy, ?_⟩
      conv => whnf
      refine ⟨hm.1, _, gz hM, ?_⟩
      conv => whnf
      cases c2 : decide (a < 0)
      · have h2 := of_decide_eq_false c2
        obtain ⟨M2, r, hM2, hr, er, hr0, hr1⟩ := rate_get h hm (show 0 ≤ a by omega) ha.2
        rw [hM] at hM2; cases hM2
        have hca : costA s m bb a = (jobF s bb a).2 := by rw [costA, if_neg h2]
        conv => whnf
        refine ⟨by omega, _, gm hz, ?_⟩
        conv => whnf
        cases c3 : decide (0 ≤ bb)
        · have h3 := of_decide_eq_false c3
          have hjob : jobF s bb a = (0, 0) := by rw [jobF, if_neg (by omega)]
          conv => whnf
          refine ⟨by omega, _, gz hr, ?_⟩
          conv => whnf
          have hj1 : (jobF s bb a).1 = 0 := by rw [hjob]
          have hj2 : costA s m bb a = 0 := by rw [hca, hjob]
          have hma : madeA s 0 m bb a = IntKind.wrap .i64 ((IntKind.wrap .i64 (r * max (IntKind.wrap .i64 (1440 - 0)) 0)).tdiv 1440) := by
            have q := rate_max ⟨hr0, hr1⟩ (q := max (1440 - (0 + 0)) 0) (by omega)
            have q2 := quo1440 q.1 q.2
            have e1 : IntKind.wrap .i64 (1440 - 0) = 1440 - (0 + 0) := by exact (wr_eq (by omega)).trans (by omega)
            have e2 : IntKind.wrap .i64 (r * max (1440 - (0 + 0)) 0) = r * max (1440 - (0 + 0)) 0 := wr_eq (by omega)
            have e3 : IntKind.wrap .i64 ((r * max (1440 - (0 + 0)) 0).tdiv 1440) = (r * max (1440 - (0 + 0)) 0).tdiv 1440 := wr_eq (by omega)
            rw [e1, e2, e3, madeA, if_neg h2, er, hj1]
          refine ⟨by decide, ?_⟩
          conv => whnf
          refine ⟨rfl, rfl, hn0, most_le (by rw [he]; simp; omega), ?_⟩
          conv => whnf
          refine cond_intro (by show (true && ((els.length + 1 == (els ++ [[int (IntKind.wrap .i64 ((IntKind.wrap .i64 (r * max (IntKind.wrap .i64 (1440 - 0)) 0)).tdiv 1440))]]).length) && true)) = true; simp) ?_
          conv => whnf
          have hcs : cost = cost + costA s m bb a := by rw [hj2]; omega
          rw [← hma]
          exact ⟨(IntKind.wrap .i64 ((i : Int) + 1), els ++ [[int (madeA s 0 m bb a)]], els.length + 1, cost), by kernel_rfl, ⟨i + 1, acc ++ [madeA s 0 m bb a], nx (by omega), by omega, by rw [he]; simp [hma], by simp, by simp; omega, by rw [← hb1]; simp, by simp only; rw [hcs, ← hb2]; omega, by simp only; rw [hcs]; omega, by simp only; rw [hcs]; omega⟩, by simp only; rw [nx (by omega)]; omega⟩
        · have h3 := of_decide_eq_true c3
          conv => whnf
          cases c4 : decide (bb = a)
          · have h4 := of_decide_eq_false c4
            obtain ⟨jr, jt, hjr, hjt, ej, hj⟩ := turn_get h.jobs.1 h.jobs.2 (a := bb) (b := a) ⟨h3, hbb.2⟩ ⟨by omega, ha.2⟩
            have hjob : jobF s bb a = jt := by rw [jobF, if_pos ⟨h3, h4⟩, ej]
            conv => whnf
            refine ⟨h3, _, gz hjr, ?_⟩
            conv => whnf
            refine ⟨by omega, _, gz hjt, ?_⟩
            conv => whnf
            refine ⟨h3, _, gz hjr, ?_⟩
            conv => whnf
            refine ⟨by omega, _, gz hjt, ?_⟩
            conv => whnf
            refine ⟨by omega, _, gz hr, ?_⟩
            conv => whnf
            have hj1 : (jobF s bb a).1 = jt.1 := by rw [hjob]
            have hj2 : costA s m bb a = jt.2 := by rw [hca, hjob]
            have hma : madeA s 0 m bb a = IntKind.wrap .i64 ((IntKind.wrap .i64 (r * max (IntKind.wrap .i64 (1440 - IntKind.wrap .i64 (0 + jt.1))) 0)).tdiv 1440) := by
              have q := rate_max ⟨hr0, hr1⟩ (q := max (1440 - (0 + jt.1)) 0) (by omega)
              have q2 := quo1440 q.1 q.2
              have e1 : IntKind.wrap .i64 (1440 - IntKind.wrap .i64 (0 + jt.1)) = 1440 - (0 + jt.1) := by rw [show IntKind.wrap .i64 (0 + jt.1) = 0 + jt.1 from wr_eq (by omega)]; exact (wr_eq (by omega)).trans (by omega)
              have e2 : IntKind.wrap .i64 (r * max (1440 - (0 + jt.1)) 0) = r * max (1440 - (0 + jt.1)) 0 := wr_eq (by omega)
              have e3 : IntKind.wrap .i64 ((r * max (1440 - (0 + jt.1)) 0).tdiv 1440) = (r * max (1440 - (0 + jt.1)) 0).tdiv 1440 := wr_eq (by omega)
              rw [e1, e2, e3, madeA, if_neg h2, er, hj1]
            refine ⟨by decide, ?_⟩
            conv => whnf
            refine ⟨rfl, rfl, hn0, most_le (by rw [he]; simp; omega), ?_⟩
            conv => whnf
            refine cond_intro (by show (true && ((els.length + 1 == (els ++ [[int (IntKind.wrap .i64 ((IntKind.wrap .i64 (r * max (IntKind.wrap .i64 (1440 - IntKind.wrap .i64 (0 + jt.1))) 0)).tdiv 1440))]]).length) && true)) = true; simp) ?_
            conv => whnf
            have hcs : IntKind.wrap .i64 (cost + jt.2) = cost + costA s m bb a := by rw [hj2]; exact wr_eq (by omega)
            rw [← hma]
            exact ⟨(IntKind.wrap .i64 ((i : Int) + 1), els ++ [[int (madeA s 0 m bb a)]], els.length + 1, IntKind.wrap .i64 (cost + jt.2)), by kernel_rfl, ⟨i + 1, acc ++ [madeA s 0 m bb a], nx (by omega), by omega, by rw [he]; simp [hma], by simp, by simp; omega, by rw [← hb1]; simp, by simp only; rw [hcs, ← hb2]; omega, by simp only; rw [hcs]; omega, by simp only; rw [hcs]; omega⟩, by simp only; rw [nx (by omega)]; omega⟩
          · have h4 := of_decide_eq_true c4
            have hjob : jobF s bb a = (0, 0) := by rw [jobF, if_neg (by omega)]
            conv => whnf
            refine ⟨by omega, _, gz hr, ?_⟩
            conv => whnf
            have hj1 : (jobF s bb a).1 = 0 := by rw [hjob]
            have hj2 : costA s m bb a = 0 := by rw [hca, hjob]
            have hma : madeA s 0 m bb a = IntKind.wrap .i64 ((IntKind.wrap .i64 (r * max (IntKind.wrap .i64 (1440 - 0)) 0)).tdiv 1440) := by
              have q := rate_max ⟨hr0, hr1⟩ (q := max (1440 - (0 + 0)) 0) (by omega)
              have q2 := quo1440 q.1 q.2
              have e1 : IntKind.wrap .i64 (1440 - 0) = 1440 - (0 + 0) := by exact (wr_eq (by omega)).trans (by omega)
              have e2 : IntKind.wrap .i64 (r * max (1440 - (0 + 0)) 0) = r * max (1440 - (0 + 0)) 0 := wr_eq (by omega)
              have e3 : IntKind.wrap .i64 ((r * max (1440 - (0 + 0)) 0).tdiv 1440) = (r * max (1440 - (0 + 0)) 0).tdiv 1440 := wr_eq (by omega)
              rw [e1, e2, e3, madeA, if_neg h2, er, hj1]
            refine ⟨by decide, ?_⟩
            conv => whnf
            refine ⟨rfl, rfl, hn0, most_le (by rw [he]; simp; omega), ?_⟩
            conv => whnf
            refine cond_intro (by show (true && ((els.length + 1 == (els ++ [[int (IntKind.wrap .i64 ((IntKind.wrap .i64 (r * max (IntKind.wrap .i64 (1440 - 0)) 0)).tdiv 1440))]]).length) && true)) = true; simp) ?_
            conv => whnf
            have hcs : cost = cost + costA s m bb a := by rw [hj2]; omega
            rw [← hma]
            exact ⟨(IntKind.wrap .i64 ((i : Int) + 1), els ++ [[int (madeA s 0 m bb a)]], els.length + 1, cost), by kernel_rfl, ⟨i + 1, acc ++ [madeA s 0 m bb a], nx (by omega), by omega, by rw [he]; simp [hma], by simp, by simp; omega, by rw [← hb1]; simp, by simp only; rw [hcs, ← hb2]; omega, by simp only; rw [hcs]; omega, by simp only; rw [hcs]; omega⟩, by simp only; rw [nx (by omega)]; omega⟩
      · have h2 := of_decide_eq_true c2
        have hma : madeA s 0 m bb a = 0 := by rw [madeA, if_pos h2]
        have hca : costA s m bb a = M.idle := by rw [costA, if_pos h2]; simp [idleF, hM]
        have hcs : IntKind.wrap .i64 (cost + M.idle) = cost + costA s m bb a := by rw [hca, wr_eq (by omega)]
        have hmk := hMk.2.2.2.2
        conv => whnf
        refine ⟨rfl, rfl, hn0, most_le (by rw [he]; simp; omega), ?_⟩
        conv => whnf
        refine cond_intro (by show (true && ((els.length + 1 == (els ++ [[int 0]]).length) && true)) = true; simp) ?_
        conv => whnf
        exact ⟨(IntKind.wrap .i64 ((i : Int) + 1), els ++ [[int 0]], els.length + 1, IntKind.wrap .i64 (cost + M.idle)), by kernel_rfl, ⟨i + 1, acc ++ [madeA s 0 m bb a], nx (by omega), by omega, by rw [he]; simp [hma], by simp, by simp; omega, by rw [← hb1]; simp, by simp only; rw [hcs, ← hb2]; omega, by simp only; rw [hcs]; omega, by simp only; rw [hcs]; omega⟩, by simp only; rw [nx (by omega)]; omega⟩
  · have g1 := of_decide_eq_true d1
    conv => whnf
    cases d2 : decide (0 ≤ N)
    · have g2 := of_decide_eq_false d2
      rw [if_neg (by omega)] at elost
      cases elost
      conv => whnf
      refine loopB (fun (x : Int × List (List D) × Nat × Int) => ⟨mkT [(1, .d (rowD ms)), (2, .d (rowD b)), (4, .d (.fptr (cellsS s))), (8, .ptr 1 0), (9, .ptr 2 0), (10, .d (int 0)), (54, .d (rowD n)), (55, .d (int (n.map i1).length)), (56, .d (int x.1))], mkB [(1, .var [.d (.v (.slice none 0 0)), .d (int 0)]), (2, .var [.row 4 0 x.2.2.1 x.2.2.1, .d (int x.2.2.2)]), (4, .row 1 x.2.1)]⟩)
        (fun x => ∃ (i : Nat) (acc : List Int), x.1 = i ∧ i ≤ n.length ∧ x.2.1 = acc.map i1 ∧ x.2.2.1 = x.2.1.length ∧ acc.length = i ∧ acc ++ madeL s 0 (ms.drop i) (b.drop i) (n.drop i) = MADE ∧ x.2.2.2 + costL s (ms.drop i) (b.drop i) (n.drop i) = COST ∧ 0 ≤ x.2.2.2 ∧ x.2.2.2 ≤ 1000000 * (i + 1)) (fun x => (n.length - x.1).toNat) (0, [], 0, 0) (by kernel_rfl) ⟨0, [], rfl, by omega, rfl, rfl, rfl, hMADE, hCOST, (by show (0 : Int) ≤ 0; omega), (by show (0 : Int) ≤ 1000000 * (((0 : Nat) : Int) + 1); omega)⟩ ?_
      rintro ⟨_, els, nn, cost⟩ ⟨i, acc, rfl, hi, he, hn0, hac, hb1, hb2, hc0, hc1⟩
      simp only at he hn0 hb2 hc0 hc1
      conv => whnf
      rw [List.length_map]
      cases c1 : decide ((i : Int) < (n.length : Int))
      · have hi' : i = n.length := by have := of_decide_eq_false c1; omega
        have e1 : n.drop i = [] := by rw [hi']; simp
        have e2 : ms.drop i = [] := List.drop_of_length_le (by omega)
        rw [e1, e2] at hb1 hb2
        have hb1 : acc = MADE := by simpa [madeL] using hb1
        have hb2 : cost = COST := by simpa [costL] using hb2
        conv => whnf
        refine cond_intro (by show (true && ((nn == els.length) && true)) = true; simp [hn0]) ?_
        conv => whnf
        have fin : ∀ σ : St, σ.t 8 = .ptr 1 0 → σ.b 1 = .var [.row 4 0 nn nn, .d (int cost)] → σ.b 4 = .row 1 els → resA [.c 8 (.agg 2)] σ = some (.agg [rowD MADE, int COST]) := fun σ h1 h2 h3 => by
          subst hn0
          simp [resA, readRV, h1, h2, snap, h3, he, hb1, hb2, List.take_of_length_le]
        exact fin _ rfl rfl rfl
      · have hi' : i < n.length := by have := of_decide_eq_true c1; omega
        obtain ⟨a, hx⟩ := get_lt hi'
        obtain ⟨m, hy⟩ := get_lt (xs := ms) (i := i) (by omega)
        obtain ⟨bb, hz⟩ := get_lt (xs := b) (i := i) (by omega)
        have ha := hn.arts a (List.mem_of_getElem? hx)
        have hbb := hb.arts bb (List.mem_of_getElem? hz)
        have hm := hn.ms m (List.mem_of_getElem? hy)
        obtain ⟨M, hM⟩ := get_lt (xs := s.makers) (i := m.toNat) (by omega)
        have hMk := h.maker M (List.mem_of_getElem? hM)
        rw [drop_at hx, drop_at hy, drop_at hz, madeL] at hb1
        rw [drop_at hx, drop_at hy, drop_at hz, costL] at hb2
        conv => whnf
        refine ⟨by omega, _, gm hx, ?_⟩
        conv => whnf
        refine ⟨by omega, _, gm hy, ?_⟩
        conv => whnf
        refine ⟨hm.1, _, gz hM, ?_⟩
        conv => whnf
        cases c2 : decide (a < 0)
        · have h2 := of_decide_eq_false c2
          obtain ⟨M2, r, hM2, hr, er, hr0, hr1⟩ := rate_get h hm (show 0 ≤ a by omega) ha.2
          rw [hM] at hM2; cases hM2
          have hca : costA s m bb a = (jobF s bb a).2 := by rw [costA, if_neg h2]
          conv => whnf
          refine ⟨by omega, _, gm hz, ?_⟩
          conv => whnf
          cases c3 : decide (0 ≤ bb)
          · have h3 := of_decide_eq_false c3
            have hjob : jobF s bb a = (0, 0) := by rw [jobF, if_neg (by omega)]
            conv => whnf
            refine ⟨by omega, _, gz hr, ?_⟩
            conv => whnf
            have hj1 : (jobF s bb a).1 = 0 := by rw [hjob]
            have hj2 : costA s m bb a = 0 := by rw [hca, hjob]
            have hma : madeA s 0 m bb a = IntKind.wrap .i64 ((IntKind.wrap .i64 (r * max (IntKind.wrap .i64 (1440 - 0)) 0)).tdiv 1440) := by
              have q := rate_max ⟨hr0, hr1⟩ (q := max (1440 - (0 + 0)) 0) (by omega)
              have q2 := quo1440 q.1 q.2
              have e1 : IntKind.wrap .i64 (1440 - 0) = 1440 - (0 + 0) := by exact (wr_eq (by omega)).trans (by omega)
              have e2 : IntKind.wrap .i64 (r * max (1440 - (0 + 0)) 0) = r * max (1440 - (0 + 0)) 0 := wr_eq (by omega)
              have e3 : IntKind.wrap .i64 ((r * max (1440 - (0 + 0)) 0).tdiv 1440) = (r * max (1440 - (0 + 0)) 0).tdiv 1440 := wr_eq (by omega)
              rw [e1, e2, e3, madeA, if_neg h2, er, hj1]
            refine ⟨by decide, ?_⟩
            conv => whnf
            refine ⟨rfl, rfl, hn0, most_le (by rw [he]; simp; omega), ?_⟩
            conv => whnf
            refine cond_intro (by show (true && ((els.length + 1 == (els ++ [[int (IntKind.wrap .i64 ((IntKind.wrap .i64 (r * max (IntKind.wrap .i64 (1440 - 0)) 0)).tdiv 1440))]]).length) && true)) = true; simp) ?_
            conv => whnf
            have hcs : cost = cost + costA s m bb a := by rw [hj2]; omega
            rw [← hma]
            exact ⟨(IntKind.wrap .i64 ((i : Int) + 1), els ++ [[int (madeA s 0 m bb a)]], els.length + 1, cost), by kernel_rfl, ⟨i + 1, acc ++ [madeA s 0 m bb a], nx (by omega), by omega, by rw [he]; simp [hma], by simp, by simp; omega, by rw [← hb1]; simp, by simp only; rw [hcs, ← hb2]; omega, by simp only; rw [hcs]; omega, by simp only; rw [hcs]; omega⟩, by simp only; rw [nx (by omega)]; omega⟩
          · have h3 := of_decide_eq_true c3
            conv => whnf
            cases c4 : decide (bb = a)
            · have h4 := of_decide_eq_false c4
              obtain ⟨jr, jt, hjr, hjt, ej, hj⟩ := turn_get h.jobs.1 h.jobs.2 (a := bb) (b := a) ⟨h3, hbb.2⟩ ⟨by omega, ha.2⟩
              have hjob : jobF s bb a = jt := by rw [jobF, if_pos ⟨h3, h4⟩, ej]
              conv => whnf
              refine ⟨h3, _, gz hjr, ?_⟩
              conv => whnf
              refine ⟨by omega, _, gz hjt, ?_⟩
              conv => whnf
              refine ⟨h3, _, gz hjr, ?_⟩
              conv => whnf
              refine ⟨by omega, _, gz hjt, ?_⟩
              conv => whnf
              refine ⟨by omega, _, gz hr, ?_⟩
              conv => whnf
              have hj1 : (jobF s bb a).1 = jt.1 := by rw [hjob]
              have hj2 : costA s m bb a = jt.2 := by rw [hca, hjob]
              have hma : madeA s 0 m bb a = IntKind.wrap .i64 ((IntKind.wrap .i64 (r * max (IntKind.wrap .i64 (1440 - IntKind.wrap .i64 (0 + jt.1))) 0)).tdiv 1440) := by
                have q := rate_max ⟨hr0, hr1⟩ (q := max (1440 - (0 + jt.1)) 0) (by omega)
                have q2 := quo1440 q.1 q.2
                have e1 : IntKind.wrap .i64 (1440 - IntKind.wrap .i64 (0 + jt.1)) = 1440 - (0 + jt.1) := by rw [show IntKind.wrap .i64 (0 + jt.1) = 0 + jt.1 from wr_eq (by omega)]; exact (wr_eq (by omega)).trans (by omega)
                have e2 : IntKind.wrap .i64 (r * max (1440 - (0 + jt.1)) 0) = r * max (1440 - (0 + jt.1)) 0 := wr_eq (by omega)
                have e3 : IntKind.wrap .i64 ((r * max (1440 - (0 + jt.1)) 0).tdiv 1440) = (r * max (1440 - (0 + jt.1)) 0).tdiv 1440 := wr_eq (by omega)
                rw [e1, e2, e3, madeA, if_neg h2, er, hj1]
              refine ⟨by decide, ?_⟩
              conv => whnf
              refine ⟨rfl, rfl, hn0, most_le (by rw [he]; simp; omega), ?_⟩
              conv => whnf
              refine cond_intro (by show (true && ((els.length + 1 == (els ++ [[int (IntKind.wrap .i64 ((IntKind.wrap .i64 (r * max (IntKind.wrap .i64 (1440 - IntKind.wrap .i64 (0 + jt.1))) 0)).tdiv 1440))]]).length) && true)) = true; simp) ?_
              conv => whnf
              have hcs : IntKind.wrap .i64 (cost + jt.2) = cost + costA s m bb a := by rw [hj2]; exact wr_eq (by omega)
              rw [← hma]
              exact ⟨(IntKind.wrap .i64 ((i : Int) + 1), els ++ [[int (madeA s 0 m bb a)]], els.length + 1, IntKind.wrap .i64 (cost + jt.2)), by kernel_rfl, ⟨i + 1, acc ++ [madeA s 0 m bb a], nx (by omega), by omega, by rw [he]; simp [hma], by simp, by simp; omega, by rw [← hb1]; simp, by simp only; rw [hcs, ← hb2]; omega, by simp only; rw [hcs]; omega, by simp only; rw [hcs]; omega⟩, by simp only; rw [nx (by omega)]; omega⟩
            · have h4 := of_decide_eq_true c4
              have hjob : jobF s bb a = (0, 0) := by rw [jobF, if_neg (by omega)]
              conv => whnf
              refine ⟨by omega, _, gz hr, ?_⟩
              conv => whnf
              have hj1 : (jobF s bb a).1 = 0 := by rw [hjob]
              have hj2 : costA s m bb a = 0 := by rw [hca, hjob]
              have hma : madeA s 0 m bb a = IntKind.wrap .i64 ((IntKind.wrap .i64 (r * max (IntKind.wrap .i64 (1440 - 0)) 0)).tdiv 1440) := by
                have q := rate_max ⟨hr0, hr1⟩ (q := max (1440 - (0 + 0)) 0) (by omega)
                have q2 := quo1440 q.1 q.2
                have e1 : IntKind.wrap .i64 (1440 - 0) = 1440 - (0 + 0) := by exact (wr_eq (by omega)).trans (by omega)
                have e2 : IntKind.wrap .i64 (r * max (1440 - (0 + 0)) 0) = r * max (1440 - (0 + 0)) 0 := wr_eq (by omega)
                have e3 : IntKind.wrap .i64 ((r * max (1440 - (0 + 0)) 0).tdiv 1440) = (r * max (1440 - (0 + 0)) 0).tdiv 1440 := wr_eq (by omega)
                rw [e1, e2, e3, madeA, if_neg h2, er, hj1]
              refine ⟨by decide, ?_⟩
              conv => whnf
              refine ⟨rfl, rfl, hn0, most_le (by rw [he]; simp; omega), ?_⟩
              conv => whnf
              refine cond_intro (by show (true && ((els.length + 1 == (els ++ [[int (IntKind.wrap .i64 ((IntKind.wrap .i64 (r * max (IntKind.wrap .i64 (1440 - 0)) 0)).tdiv 1440))]]).length) && true)) = true; simp) ?_
              conv => whnf
              have hcs : cost = cost + costA s m bb a := by rw [hj2]; omega
              rw [← hma]
              exact ⟨(IntKind.wrap .i64 ((i : Int) + 1), els ++ [[int (madeA s 0 m bb a)]], els.length + 1, cost), by kernel_rfl, ⟨i + 1, acc ++ [madeA s 0 m bb a], nx (by omega), by omega, by rw [he]; simp [hma], by simp, by simp; omega, by rw [← hb1]; simp, by simp only; rw [hcs, ← hb2]; omega, by simp only; rw [hcs]; omega, by simp only; rw [hcs]; omega⟩, by simp only; rw [nx (by omega)]; omega⟩
        · have h2 := of_decide_eq_true c2
          have hma : madeA s 0 m bb a = 0 := by rw [madeA, if_pos h2]
          have hca : costA s m bb a = M.idle := by rw [costA, if_pos h2]; simp [idleF, hM]
          have hcs : IntKind.wrap .i64 (cost + M.idle) = cost + costA s m bb a := by rw [hca, wr_eq (by omega)]
          have hmk := hMk.2.2.2.2
          conv => whnf
          refine ⟨rfl, rfl, hn0, most_le (by rw [he]; simp; omega), ?_⟩
          conv => whnf
          refine cond_intro (by show (true && ((els.length + 1 == (els ++ [[int 0]]).length) && true)) = true; simp) ?_
          conv => whnf
          exact ⟨(IntKind.wrap .i64 ((i : Int) + 1), els ++ [[int 0]], els.length + 1, IntKind.wrap .i64 (cost + M.idle)), by kernel_rfl, ⟨i + 1, acc ++ [madeA s 0 m bb a], nx (by omega), by omega, by rw [he]; simp [hma], by simp, by simp; omega, by rw [← hb1]; simp, by simp only; rw [hcs, ← hb2]; omega, by simp only; rw [hcs]; omega, by simp only; rw [hcs]; omega⟩, by simp only; rw [nx (by omega)]; omega⟩
    · have g2 := of_decide_eq_true d2
      conv => whnf
      cases d3 : decide (B = N)
      · have g3 := of_decide_eq_false d3
        rw [if_pos ⟨g1, g2, g3⟩] at elost
        obtain ⟨cr, ⟨t1, t2⟩, hcr, hct, et, _⟩ := turn_get (n := s.cols.length) rfl h.cols (a := B) (b := N) (by omega) (by omega)
        rw [et] at elost
        cases elost
        conv => whnf
        refine ⟨g1, _, gz hcr, ?_⟩
        conv => whnf
        refine ⟨g2, _, gz hct, ?_⟩
        conv => whnf
        refine ⟨g1, _, gz hcr, ?_⟩
        conv => whnf
        refine ⟨g2, _, gz hct, ?_⟩
        conv => whnf
        refine loopB (fun (x : Int × List (List D) × Nat × Int) => ⟨mkT [(1, .d (rowD ms)), (2, .d (rowD b)), (4, .d (.fptr (cellsS s))), (8, .ptr 1 0), (9, .ptr 2 0), (10, .d (int lost)), (54, .d (rowD n)), (55, .d (int (n.map i1).length)), (56, .d (int x.1))], mkB [(1, .var [.d (.v (.slice none 0 0)), .d (int 0)]), (2, .var [.row 4 0 x.2.2.1 x.2.2.1, .d (int x.2.2.2)]), (4, .row 1 x.2.1)]⟩)
          (fun x => ∃ (i : Nat) (acc : List Int), x.1 = i ∧ i ≤ n.length ∧ x.2.1 = acc.map i1 ∧ x.2.2.1 = x.2.1.length ∧ acc.length = i ∧ acc ++ madeL s lost (ms.drop i) (b.drop i) (n.drop i) = MADE ∧ x.2.2.2 + costL s (ms.drop i) (b.drop i) (n.drop i) = COST ∧ 0 ≤ x.2.2.2 ∧ x.2.2.2 ≤ 1000000 * (i + 1)) (fun x => (n.length - x.1).toNat) (0, [], 0, lc) (by kernel_rfl) ⟨0, [], rfl, by omega, rfl, rfl, rfl, hMADE, hCOST, (by show (0 : Int) ≤ lc; omega), (by show (lc : Int) ≤ 1000000 * (((0 : Nat) : Int) + 1); omega)⟩ ?_
        rintro ⟨_, els, nn, cost⟩ ⟨i, acc, rfl, hi, he, hn0, hac, hb1, hb2, hc0, hc1⟩
        simp only at he hn0 hb2 hc0 hc1
        conv => whnf
        rw [List.length_map]
        cases c1 : decide ((i : Int) < (n.length : Int))
        · have hi' : i = n.length := by have := of_decide_eq_false c1; omega
          have e1 : n.drop i = [] := by rw [hi']; simp
          have e2 : ms.drop i = [] := List.drop_of_length_le (by omega)
          rw [e1, e2] at hb1 hb2
          have hb1 : acc = MADE := by simpa [madeL] using hb1
          have hb2 : cost = COST := by simpa [costL] using hb2
          conv => whnf
          refine cond_intro (by show (true && ((nn == els.length) && true)) = true; simp [hn0]) ?_
          conv => whnf
          have fin : ∀ σ : St, σ.t 8 = .ptr 1 0 → σ.b 1 = .var [.row 4 0 nn nn, .d (int cost)] → σ.b 4 = .row 1 els → resA [.c 8 (.agg 2)] σ = some (.agg [rowD MADE, int COST]) := fun σ h1 h2 h3 => by
            subst hn0
            simp [resA, readRV, h1, h2, snap, h3, he, hb1, hb2, List.take_of_length_le]
          exact fin _ rfl rfl rfl
        · have hi' : i < n.length := by have := of_decide_eq_true c1; omega
          obtain ⟨a, hx⟩ := get_lt hi'
          obtain ⟨m, hy⟩ := get_lt (xs := ms) (i := i) (by omega)
          obtain ⟨bb, hz⟩ := get_lt (xs := b) (i := i) (by omega)
          have ha := hn.arts a (List.mem_of_getElem? hx)
          have hbb := hb.arts bb (List.mem_of_getElem? hz)
          have hm := hn.ms m (List.mem_of_getElem? hy)
          obtain ⟨M, hM⟩ := get_lt (xs := s.makers) (i := m.toNat) (by omega)
          have hMk := h.maker M (List.mem_of_getElem? hM)
          rw [drop_at hx, drop_at hy, drop_at hz, madeL] at hb1
          rw [drop_at hx, drop_at hy, drop_at hz, costL] at hb2
          conv => whnf
          refine ⟨by omega, _, gm hx, ?_⟩
          conv => whnf
          refine ⟨by omega, _, gm hy, ?_⟩
          conv => whnf
          refine ⟨hm.1, _, gz hM, ?_⟩
          conv => whnf
          cases c2 : decide (a < 0)
          · have h2 := of_decide_eq_false c2
            obtain ⟨M2, r, hM2, hr, er, hr0, hr1⟩ := rate_get h hm (show 0 ≤ a by omega) ha.2
            rw [hM] at hM2; cases hM2
            have hca : costA s m bb a = (jobF s bb a).2 := by rw [costA, if_neg h2]
            conv => whnf
            refine ⟨by omega, _, gm hz, ?_⟩
            conv => whnf
            cases c3 : decide (0 ≤ bb)
            · have h3 := of_decide_eq_false c3
              have hjob : jobF s bb a = (0, 0) := by rw [jobF, if_neg (by omega)]
              conv => whnf
              refine ⟨by omega, _, gz hr, ?_⟩
              conv => whnf
              have hj1 : (jobF s bb a).1 = 0 := by rw [hjob]
              have hj2 : costA s m bb a = 0 := by rw [hca, hjob]
              have hma : madeA s lost m bb a = IntKind.wrap .i64 ((IntKind.wrap .i64 (r * max (IntKind.wrap .i64 (1440 - lost)) 0)).tdiv 1440) := by
                have q := rate_max ⟨hr0, hr1⟩ (q := max (1440 - (lost + 0)) 0) (by omega)
                have q2 := quo1440 q.1 q.2
                have e1 : IntKind.wrap .i64 (1440 - lost) = 1440 - (lost + 0) := by exact (wr_eq (by omega)).trans (by omega)
                have e2 : IntKind.wrap .i64 (r * max (1440 - (lost + 0)) 0) = r * max (1440 - (lost + 0)) 0 := wr_eq (by omega)
                have e3 : IntKind.wrap .i64 ((r * max (1440 - (lost + 0)) 0).tdiv 1440) = (r * max (1440 - (lost + 0)) 0).tdiv 1440 := wr_eq (by omega)
                rw [e1, e2, e3, madeA, if_neg h2, er, hj1]
              refine ⟨by decide, ?_⟩
              conv => whnf
              refine ⟨rfl, rfl, hn0, most_le (by rw [he]; simp; omega), ?_⟩
              conv => whnf
              refine cond_intro (by show (true && ((els.length + 1 == (els ++ [[int (IntKind.wrap .i64 ((IntKind.wrap .i64 (r * max (IntKind.wrap .i64 (1440 - lost)) 0)).tdiv 1440))]]).length) && true)) = true; simp) ?_
              conv => whnf
              have hcs : cost = cost + costA s m bb a := by rw [hj2]; omega
              rw [← hma]
              exact ⟨(IntKind.wrap .i64 ((i : Int) + 1), els ++ [[int (madeA s lost m bb a)]], els.length + 1, cost), by kernel_rfl, ⟨i + 1, acc ++ [madeA s lost m bb a], nx (by omega), by omega, by rw [he]; simp [hma], by simp, by simp; omega, by rw [← hb1]; simp, by simp only; rw [hcs, ← hb2]; omega, by simp only; rw [hcs]; omega, by simp only; rw [hcs]; omega⟩, by simp only; rw [nx (by omega)]; omega⟩
            · have h3 := of_decide_eq_true c3
              conv => whnf
              cases c4 : decide (bb = a)
              · have h4 := of_decide_eq_false c4
                obtain ⟨jr, jt, hjr, hjt, ej, hj⟩ := turn_get h.jobs.1 h.jobs.2 (a := bb) (b := a) ⟨h3, hbb.2⟩ ⟨by omega, ha.2⟩
                have hjob : jobF s bb a = jt := by rw [jobF, if_pos ⟨h3, h4⟩, ej]
                conv => whnf
                refine ⟨h3, _, gz hjr, ?_⟩
                conv => whnf
                refine ⟨by omega, _, gz hjt, ?_⟩
                conv => whnf
                refine ⟨h3, _, gz hjr, ?_⟩
                conv => whnf
                refine ⟨by omega, _, gz hjt, ?_⟩
                conv => whnf
                refine ⟨by omega, _, gz hr, ?_⟩
                conv => whnf
                have hj1 : (jobF s bb a).1 = jt.1 := by rw [hjob]
                have hj2 : costA s m bb a = jt.2 := by rw [hca, hjob]
                have hma : madeA s lost m bb a = IntKind.wrap .i64 ((IntKind.wrap .i64 (r * max (IntKind.wrap .i64 (1440 - IntKind.wrap .i64 (lost + jt.1))) 0)).tdiv 1440) := by
                  have q := rate_max ⟨hr0, hr1⟩ (q := max (1440 - (lost + jt.1)) 0) (by omega)
                  have q2 := quo1440 q.1 q.2
                  have e1 : IntKind.wrap .i64 (1440 - IntKind.wrap .i64 (lost + jt.1)) = 1440 - (lost + jt.1) := by rw [show IntKind.wrap .i64 (lost + jt.1) = lost + jt.1 from wr_eq (by omega)]; exact (wr_eq (by omega)).trans (by omega)
                  have e2 : IntKind.wrap .i64 (r * max (1440 - (lost + jt.1)) 0) = r * max (1440 - (lost + jt.1)) 0 := wr_eq (by omega)
                  have e3 : IntKind.wrap .i64 ((r * max (1440 - (lost + jt.1)) 0).tdiv 1440) = (r * max (1440 - (lost + jt.1)) 0).tdiv 1440 := wr_eq (by omega)
                  rw [e1, e2, e3, madeA, if_neg h2, er, hj1]
                refine ⟨by decide, ?_⟩
                conv => whnf
                refine ⟨rfl, rfl, hn0, most_le (by rw [he]; simp; omega), ?_⟩
                conv => whnf
                refine cond_intro (by show (true && ((els.length + 1 == (els ++ [[int (IntKind.wrap .i64 ((IntKind.wrap .i64 (r * max (IntKind.wrap .i64 (1440 - IntKind.wrap .i64 (lost + jt.1))) 0)).tdiv 1440))]]).length) && true)) = true; simp) ?_
                conv => whnf
                have hcs : IntKind.wrap .i64 (cost + jt.2) = cost + costA s m bb a := by rw [hj2]; exact wr_eq (by omega)
                rw [← hma]
                exact ⟨(IntKind.wrap .i64 ((i : Int) + 1), els ++ [[int (madeA s lost m bb a)]], els.length + 1, IntKind.wrap .i64 (cost + jt.2)), by kernel_rfl, ⟨i + 1, acc ++ [madeA s lost m bb a], nx (by omega), by omega, by rw [he]; simp [hma], by simp, by simp; omega, by rw [← hb1]; simp, by simp only; rw [hcs, ← hb2]; omega, by simp only; rw [hcs]; omega, by simp only; rw [hcs]; omega⟩, by simp only; rw [nx (by omega)]; omega⟩
              · have h4 := of_decide_eq_true c4
                have hjob : jobF s bb a = (0, 0) := by rw [jobF, if_neg (by omega)]
                conv => whnf
                refine ⟨by omega, _, gz hr, ?_⟩
                conv => whnf
                have hj1 : (jobF s bb a).1 = 0 := by rw [hjob]
                have hj2 : costA s m bb a = 0 := by rw [hca, hjob]
                have hma : madeA s lost m bb a = IntKind.wrap .i64 ((IntKind.wrap .i64 (r * max (IntKind.wrap .i64 (1440 - lost)) 0)).tdiv 1440) := by
                  have q := rate_max ⟨hr0, hr1⟩ (q := max (1440 - (lost + 0)) 0) (by omega)
                  have q2 := quo1440 q.1 q.2
                  have e1 : IntKind.wrap .i64 (1440 - lost) = 1440 - (lost + 0) := by exact (wr_eq (by omega)).trans (by omega)
                  have e2 : IntKind.wrap .i64 (r * max (1440 - (lost + 0)) 0) = r * max (1440 - (lost + 0)) 0 := wr_eq (by omega)
                  have e3 : IntKind.wrap .i64 ((r * max (1440 - (lost + 0)) 0).tdiv 1440) = (r * max (1440 - (lost + 0)) 0).tdiv 1440 := wr_eq (by omega)
                  rw [e1, e2, e3, madeA, if_neg h2, er, hj1]
                refine ⟨by decide, ?_⟩
                conv => whnf
                refine ⟨rfl, rfl, hn0, most_le (by rw [he]; simp; omega), ?_⟩
                conv => whnf
                refine cond_intro (by show (true && ((els.length + 1 == (els ++ [[int (IntKind.wrap .i64 ((IntKind.wrap .i64 (r * max (IntKind.wrap .i64 (1440 - lost)) 0)).tdiv 1440))]]).length) && true)) = true; simp) ?_
                conv => whnf
                have hcs : cost = cost + costA s m bb a := by rw [hj2]; omega
                rw [← hma]
                exact ⟨(IntKind.wrap .i64 ((i : Int) + 1), els ++ [[int (madeA s lost m bb a)]], els.length + 1, cost), by kernel_rfl, ⟨i + 1, acc ++ [madeA s lost m bb a], nx (by omega), by omega, by rw [he]; simp [hma], by simp, by simp; omega, by rw [← hb1]; simp, by simp only; rw [hcs, ← hb2]; omega, by simp only; rw [hcs]; omega, by simp only; rw [hcs]; omega⟩, by simp only; rw [nx (by omega)]; omega⟩
          · have h2 := of_decide_eq_true c2
            have hma : madeA s lost m bb a = 0 := by rw [madeA, if_pos h2]
            have hca : costA s m bb a = M.idle := by rw [costA, if_pos h2]; simp [idleF, hM]
            have hcs : IntKind.wrap .i64 (cost + M.idle) = cost + costA s m bb a := by rw [hca, wr_eq (by omega)]
            have hmk := hMk.2.2.2.2
            conv => whnf
            refine ⟨rfl, rfl, hn0, most_le (by rw [he]; simp; omega), ?_⟩
            conv => whnf
            refine cond_intro (by show (true && ((els.length + 1 == (els ++ [[int 0]]).length) && true)) = true; simp) ?_
            conv => whnf
            exact ⟨(IntKind.wrap .i64 ((i : Int) + 1), els ++ [[int 0]], els.length + 1, IntKind.wrap .i64 (cost + M.idle)), by kernel_rfl, ⟨i + 1, acc ++ [madeA s lost m bb a], nx (by omega), by omega, by rw [he]; simp [hma], by simp, by simp; omega, by rw [← hb1]; simp, by simp only; rw [hcs, ← hb2]; omega, by simp only; rw [hcs]; omega, by simp only; rw [hcs]; omega⟩, by simp only; rw [nx (by omega)]; omega⟩
      · have g3 := of_decide_eq_true d3
        rw [if_neg (by omega)] at elost
        cases elost
        conv => whnf
        refine loopB (fun (x : Int × List (List D) × Nat × Int) => ⟨mkT [(1, .d (rowD ms)), (2, .d (rowD b)), (4, .d (.fptr (cellsS s))), (8, .ptr 1 0), (9, .ptr 2 0), (10, .d (int 0)), (54, .d (rowD n)), (55, .d (int (n.map i1).length)), (56, .d (int x.1))], mkB [(1, .var [.d (.v (.slice none 0 0)), .d (int 0)]), (2, .var [.row 4 0 x.2.2.1 x.2.2.1, .d (int x.2.2.2)]), (4, .row 1 x.2.1)]⟩)
          (fun x => ∃ (i : Nat) (acc : List Int), x.1 = i ∧ i ≤ n.length ∧ x.2.1 = acc.map i1 ∧ x.2.2.1 = x.2.1.length ∧ acc.length = i ∧ acc ++ madeL s 0 (ms.drop i) (b.drop i) (n.drop i) = MADE ∧ x.2.2.2 + costL s (ms.drop i) (b.drop i) (n.drop i) = COST ∧ 0 ≤ x.2.2.2 ∧ x.2.2.2 ≤ 1000000 * (i + 1)) (fun x => (n.length - x.1).toNat) (0, [], 0, 0) (by kernel_rfl) ⟨0, [], rfl, by omega, rfl, rfl, rfl, hMADE, hCOST, (by show (0 : Int) ≤ 0; omega), (by show (0 : Int) ≤ 1000000 * (((0 : Nat) : Int) + 1); omega)⟩ ?_
        rintro ⟨_, els, nn, cost⟩ ⟨i, acc, rfl, hi, he, hn0, hac, hb1, hb2, hc0, hc1⟩
        simp only at he hn0 hb2 hc0 hc1
        conv => whnf
        rw [List.length_map]
        cases c1 : decide ((i : Int) < (n.length : Int))
        · have hi' : i = n.length := by have := of_decide_eq_false c1; omega
          have e1 : n.drop i = [] := by rw [hi']; simp
          have e2 : ms.drop i = [] := List.drop_of_length_le (by omega)
          rw [e1, e2] at hb1 hb2
          have hb1 : acc = MADE := by simpa [madeL] using hb1
          have hb2 : cost = COST := by simpa [costL] using hb2
          conv => whnf
          refine cond_intro (by show (true && ((nn == els.length) && true)) = true; simp [hn0]) ?_
          conv => whnf
          have fin : ∀ σ : St, σ.t 8 = .ptr 1 0 → σ.b 1 = .var [.row 4 0 nn nn, .d (int cost)] → σ.b 4 = .row 1 els → resA [.c 8 (.agg 2)] σ = some (.agg [rowD MADE, int COST]) := fun σ h1 h2 h3 => by
            subst hn0
            simp [resA, readRV, h1, h2, snap, h3, he, hb1, hb2, List.take_of_length_le]
          exact fin _ rfl rfl rfl
        · have hi' : i < n.length := by have := of_decide_eq_true c1; omega
          obtain ⟨a, hx⟩ := get_lt hi'
          obtain ⟨m, hy⟩ := get_lt (xs := ms) (i := i) (by omega)
          obtain ⟨bb, hz⟩ := get_lt (xs := b) (i := i) (by omega)
          have ha := hn.arts a (List.mem_of_getElem? hx)
          have hbb := hb.arts bb (List.mem_of_getElem? hz)
          have hm := hn.ms m (List.mem_of_getElem? hy)
          obtain ⟨M, hM⟩ := get_lt (xs := s.makers) (i := m.toNat) (by omega)
          have hMk := h.maker M (List.mem_of_getElem? hM)
          rw [drop_at hx, drop_at hy, drop_at hz, madeL] at hb1
          rw [drop_at hx, drop_at hy, drop_at hz, costL] at hb2
          conv => whnf
          refine ⟨by omega, _, gm hx, ?_⟩
          conv => whnf
          refine ⟨by omega, _, gm hy, ?_⟩
          conv => whnf
          refine ⟨hm.1, _, gz hM, ?_⟩
          conv => whnf
          cases c2 : decide (a < 0)
          · have h2 := of_decide_eq_false c2
            obtain ⟨M2, r, hM2, hr, er, hr0, hr1⟩ := rate_get h hm (show 0 ≤ a by omega) ha.2
            rw [hM] at hM2; cases hM2
            have hca : costA s m bb a = (jobF s bb a).2 := by rw [costA, if_neg h2]
            conv => whnf
            refine ⟨by omega, _, gm hz, ?_⟩
            conv => whnf
            cases c3 : decide (0 ≤ bb)
            · have h3 := of_decide_eq_false c3
              have hjob : jobF s bb a = (0, 0) := by rw [jobF, if_neg (by omega)]
              conv => whnf
              refine ⟨by omega, _, gz hr, ?_⟩
              conv => whnf
              have hj1 : (jobF s bb a).1 = 0 := by rw [hjob]
              have hj2 : costA s m bb a = 0 := by rw [hca, hjob]
              have hma : madeA s 0 m bb a = IntKind.wrap .i64 ((IntKind.wrap .i64 (r * max (IntKind.wrap .i64 (1440 - 0)) 0)).tdiv 1440) := by
                have q := rate_max ⟨hr0, hr1⟩ (q := max (1440 - (0 + 0)) 0) (by omega)
                have q2 := quo1440 q.1 q.2
                have e1 : IntKind.wrap .i64 (1440 - 0) = 1440 - (0 + 0) := by exact (wr_eq (by omega)).trans (by omega)
                have e2 : IntKind.wrap .i64 (r * max (1440 - (0 + 0)) 0) = r * max (1440 - (0 + 0)) 0 := wr_eq (by omega)
                have e3 : IntKind.wrap .i64 ((r * max (1440 - (0 + 0)) 0).tdiv 1440) = (r * max (1440 - (0 + 0)) 0).tdiv 1440 := wr_eq (by omega)
                rw [e1, e2, e3, madeA, if_neg h2, er, hj1]
              refine ⟨by decide, ?_⟩
              conv => whnf
              refine ⟨rfl, rfl, hn0, most_le (by rw [he]; simp; omega), ?_⟩
              conv => whnf
              refine cond_intro (by show (true && ((els.length + 1 == (els ++ [[int (IntKind.wrap .i64 ((IntKind.wrap .i64 (r * max (IntKind.wrap .i64 (1440 - 0)) 0)).tdiv 1440))]]).length) && true)) = true; simp) ?_
              conv => whnf
              have hcs : cost = cost + costA s m bb a := by rw [hj2]; omega
              rw [← hma]
              exact ⟨(IntKind.wrap .i64 ((i : Int) + 1), els ++ [[int (madeA s 0 m bb a)]], els.length + 1, cost), by kernel_rfl, ⟨i + 1, acc ++ [madeA s 0 m bb a], nx (by omega), by omega, by rw [he]; simp [hma], by simp, by simp; omega, by rw [← hb1]; simp, by simp only; rw [hcs, ← hb2]; omega, by simp only; rw [hcs]; omega, by simp only; rw [hcs]; omega⟩, by simp only; rw [nx (by omega)]; omega⟩
            · have h3 := of_decide_eq_true c3
              conv => whnf
              cases c4 : decide (bb = a)
              · have h4 := of_decide_eq_false c4
                obtain ⟨jr, jt, hjr, hjt, ej, hj⟩ := turn_get h.jobs.1 h.jobs.2 (a := bb) (b := a) ⟨h3, hbb.2⟩ ⟨by omega, ha.2⟩
                have hjob : jobF s bb a = jt := by rw [jobF, if_pos ⟨h3, h4⟩, ej]
                conv => whnf
                refine ⟨h3, _, gz hjr, ?_⟩
                conv => whnf
                refine ⟨by omega, _, gz hjt, ?_⟩
                conv => whnf
                refine ⟨h3, _, gz hjr, ?_⟩
                conv => whnf
                refine ⟨by omega, _, gz hjt, ?_⟩
                conv => whnf
                refine ⟨by omega, _, gz hr, ?_⟩
                conv => whnf
                have hj1 : (jobF s bb a).1 = jt.1 := by rw [hjob]
                have hj2 : costA s m bb a = jt.2 := by rw [hca, hjob]
                have hma : madeA s 0 m bb a = IntKind.wrap .i64 ((IntKind.wrap .i64 (r * max (IntKind.wrap .i64 (1440 - IntKind.wrap .i64 (0 + jt.1))) 0)).tdiv 1440) := by
                  have q := rate_max ⟨hr0, hr1⟩ (q := max (1440 - (0 + jt.1)) 0) (by omega)
                  have q2 := quo1440 q.1 q.2
                  have e1 : IntKind.wrap .i64 (1440 - IntKind.wrap .i64 (0 + jt.1)) = 1440 - (0 + jt.1) := by rw [show IntKind.wrap .i64 (0 + jt.1) = 0 + jt.1 from wr_eq (by omega)]; exact (wr_eq (by omega)).trans (by omega)
                  have e2 : IntKind.wrap .i64 (r * max (1440 - (0 + jt.1)) 0) = r * max (1440 - (0 + jt.1)) 0 := wr_eq (by omega)
                  have e3 : IntKind.wrap .i64 ((r * max (1440 - (0 + jt.1)) 0).tdiv 1440) = (r * max (1440 - (0 + jt.1)) 0).tdiv 1440 := wr_eq (by omega)
                  rw [e1, e2, e3, madeA, if_neg h2, er, hj1]
                refine ⟨by decide, ?_⟩
                conv => whnf
                refine ⟨rfl, rfl, hn0, most_le (by rw [he]; simp; omega), ?_⟩
                conv => whnf
                refine cond_intro (by show (true && ((els.length + 1 == (els ++ [[int (IntKind.wrap .i64 ((IntKind.wrap .i64 (r * max (IntKind.wrap .i64 (1440 - IntKind.wrap .i64 (0 + jt.1))) 0)).tdiv 1440))]]).length) && true)) = true; simp) ?_
                conv => whnf
                have hcs : IntKind.wrap .i64 (cost + jt.2) = cost + costA s m bb a := by rw [hj2]; exact wr_eq (by omega)
                rw [← hma]
                exact ⟨(IntKind.wrap .i64 ((i : Int) + 1), els ++ [[int (madeA s 0 m bb a)]], els.length + 1, IntKind.wrap .i64 (cost + jt.2)), by kernel_rfl, ⟨i + 1, acc ++ [madeA s 0 m bb a], nx (by omega), by omega, by rw [he]; simp [hma], by simp, by simp; omega, by rw [← hb1]; simp, by simp only; rw [hcs, ← hb2]; omega, by simp only; rw [hcs]; omega, by simp only; rw [hcs]; omega⟩, by simp only; rw [nx (by omega)]; omega⟩
              · have h4 := of_decide_eq_true c4
                have hjob : jobF s bb a = (0, 0) := by rw [jobF, if_neg (by omega)]
                conv => whnf
                refine ⟨by omega, _, gz hr, ?_⟩
                conv => whnf
                have hj1 : (jobF s bb a).1 = 0 := by rw [hjob]
                have hj2 : costA s m bb a = 0 := by rw [hca, hjob]
                have hma : madeA s 0 m bb a = IntKind.wrap .i64 ((IntKind.wrap .i64 (r * max (IntKind.wrap .i64 (1440 - 0)) 0)).tdiv 1440) := by
                  have q := rate_max ⟨hr0, hr1⟩ (q := max (1440 - (0 + 0)) 0) (by omega)
                  have q2 := quo1440 q.1 q.2
                  have e1 : IntKind.wrap .i64 (1440 - 0) = 1440 - (0 + 0) := by exact (wr_eq (by omega)).trans (by omega)
                  have e2 : IntKind.wrap .i64 (r * max (1440 - (0 + 0)) 0) = r * max (1440 - (0 + 0)) 0 := wr_eq (by omega)
                  have e3 : IntKind.wrap .i64 ((r * max (1440 - (0 + 0)) 0).tdiv 1440) = (r * max (1440 - (0 + 0)) 0).tdiv 1440 := wr_eq (by omega)
                  rw [e1, e2, e3, madeA, if_neg h2, er, hj1]
                refine ⟨by decide, ?_⟩
                conv => whnf
                refine ⟨rfl, rfl, hn0, most_le (by rw [he]; simp; omega), ?_⟩
                conv => whnf
                refine cond_intro (by show (true && ((els.length + 1 == (els ++ [[int (IntKind.wrap .i64 ((IntKind.wrap .i64 (r * max (IntKind.wrap .i64 (1440 - 0)) 0)).tdiv 1440))]]).length) && true)) = true; simp) ?_
                conv => whnf
                have hcs : cost = cost + costA s m bb a := by rw [hj2]; omega
                rw [← hma]
                exact ⟨(IntKind.wrap .i64 ((i : Int) + 1), els ++ [[int (madeA s 0 m bb a)]], els.length + 1, cost), by kernel_rfl, ⟨i + 1, acc ++ [madeA s 0 m bb a], nx (by omega), by omega, by rw [he]; simp [hma], by simp, by simp; omega, by rw [← hb1]; simp, by simp only; rw [hcs, ← hb2]; omega, by simp only; rw [hcs]; omega, by simp only; rw [hcs]; omega⟩, by simp only; rw [nx (by omega)]; omega⟩
          · have h2 := of_decide_eq_true c2
            have hma : madeA s 0 m bb a = 0 := by rw [madeA, if_pos h2]
            have hca : costA s m bb a = M.idle := by rw [costA, if_pos h2]; simp [idleF, hM]
            have hcs : IntKind.wrap .i64 (cost + M.idle) = cost + costA s m bb a := by rw [hca, wr_eq (by omega)]
            have hmk := hMk.2.2.2.2
            conv => whnf
            refine ⟨rfl, rfl, hn0, most_le (by rw [he]; simp; omega), ?_⟩
            conv => whnf
            refine cond_intro (by show (true && ((els.length + 1 == (els ++ [[int 0]]).length) && true)) = true; simp) ?_
            conv => whnf
            exact ⟨(IntKind.wrap .i64 ((i : Int) + 1), els ++ [[int 0]], els.length + 1, IntKind.wrap .i64 (cost + M.idle)), by kernel_rfl, ⟨i + 1, acc ++ [madeA s 0 m bb a], nx (by omega), by omega, by rw [he]; simp [hma], by simp, by simp; omega, by rw [← hb1]; simp, by simp only; rw [hcs, ← hb2]; omega, by simp only; rw [hcs]; omega, by simp only; rw [hcs]; omega⟩, by simp only; rw [nx (by omega)]; omega⟩
end Go.Proofs.YtmkmegcconjgoaaG
