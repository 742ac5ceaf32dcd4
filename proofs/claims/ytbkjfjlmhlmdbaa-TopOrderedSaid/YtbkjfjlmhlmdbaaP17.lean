/- A furnace's day: what its machines make, and what it costs. No condition. -/
import Derived.Test.YtbkjfjlmhlmdbaaP14
set_option linter.unusedVariables false
set_option linter.unusedSimpArgs false
set_option maxRecDepth 100000
set_option maxHeartbeats 4000000
namespace Go.Proofs.YtbkjfjlmhlmdbaaG
open Go Go.AM Go.Proofs

def turnA (l : List (List (Int × Int))) (a b : Int) : Int × Int := ((l[a.toNat]?).bind (·[b.toNat]?)).getD (0, 0)
def idleF (s : Season) (m : Int) : Int := ((s.makers[m.toNat]?).map (·.idle)).getD 0
def lostF (s : Season) (b n : List Int) : Int × Int := if 0 ≤ colF s b ∧ 0 ≤ colF s n ∧ colF s b ≠ colF s n then turnA s.cols (colF s b) (colF s n) else (0, 0)
def jobF (s : Season) (b a : Int) : Int × Int := if 0 ≤ b ∧ b ≠ a then turnA s.jobs b a else (0, 0)
def madeA (s : Season) (lost m b a : Int) : Int := if a < 0 then 0 else (rateF s m a * max (1440 - (lost + (jobF s b a).1)) 0).tdiv 1440
def costA (s : Season) (m b a : Int) : Int := if a < 0 then idleF s m else (jobF s b a).2
def madeL (s : Season) (lost : Int) : List Int → List Int → List Int → List Int
  | m :: ms, b :: bs, a :: r => madeA s lost m b a :: madeL s lost ms bs r
  | _, _, _ => []
def costL (s : Season) : List Int → List Int → List Int → Int
  | m :: ms, b :: bs, a :: r => costA s m b a + costL s ms bs r
  | _, _, _ => 0
def workedF (s : Season) (ms b n : List Int) : List Int × Int := (madeL s (lostF s b n).1 ms b n, (lostF s b n).2 + costL s ms b n)

theorem colF_lt {s : Season} (h : Fr s) : ∀ {l : List Int}, Arts s l → colF s l = -1 ∨ 0 ≤ colF s l ∧ colF s l < s.cols.length
  | [], _ => .inl rfl
  | a :: r, hA => by
    unfold colF
    split
    · rename_i h0
      obtain ⟨x, hx, e, _⟩ := art_get h0 (hA a (by simp)).2
      have := h.art x (List.mem_of_getElem? hx)
      rw [e]; right; omega
    · exact colF_lt h (fun x hx => hA x (by simp [hx]))
theorem turn_get {l : List (List (Int × Int))} {n : Nat} (hl : l.length = n) (hr : ∀ r ∈ l, r.length = n ∧ ∀ t ∈ r, 0 ≤ t.1 ∧ t.1 ≤ 1440 ∧ 0 ≤ t.2 ∧ t.2 ≤ 1000000) {a b : Int} (ha : 0 ≤ a ∧ a < n) (hb : 0 ≤ b ∧ b < n) :
    ∃ r t, l[a.toNat]? = some r ∧ r[b.toNat]? = some t ∧ turnA l a b = t ∧ 0 ≤ t.1 ∧ t.1 ≤ 1440 ∧ 0 ≤ t.2 ∧ t.2 ≤ 1000000 := by
  obtain ⟨r, h1⟩ := get_lt (xs := l) (i := a.toNat) (by omega)
  have h2 := hr r (List.mem_of_getElem? h1)
  obtain ⟨t, h3⟩ := get_lt (xs := r) (i := b.toNat) (by omega)
  exact ⟨r, t, h1, h3, by simp [turnA, h1, h3], h2.2 t (List.mem_of_getElem? h3)⟩
theorem lostF_le {s : Season} (h : Fr s) {b n : List Int} (hb : Arts s b) (hn : Arts s n) : 0 ≤ (lostF s b n).1 ∧ (lostF s b n).1 ≤ 1440 ∧ 0 ≤ (lostF s b n).2 ∧ (lostF s b n).2 ≤ 1000000 := by
  unfold lostF
  split
  · rename_i h1
    have k1 := colF_lt h hb
    have k2 := colF_lt h hn
    obtain ⟨r, t, _, _, e, h2⟩ := turn_get (n := s.cols.length) rfl h.cols (a := colF s b) (b := colF s n) (by omega) (by omega)
    rw [e]; exact h2
  · simp
theorem jobF_le {s : Season} (h : Fr s) {b a : Int} (hb : b < s.arts.length) (ha : 0 ≤ a ∧ a < s.arts.length) : 0 ≤ (jobF s b a).1 ∧ (jobF s b a).1 ≤ 1440 ∧ 0 ≤ (jobF s b a).2 ∧ (jobF s b a).2 ≤ 1000000 := by
  unfold jobF
  split
  · rename_i h1
    obtain ⟨r, t, _, _, e, h2⟩ := turn_get h.jobs.1 h.jobs.2 (a := b) (b := a) (by omega) ha
    rw [e]; exact h2
  · simp
theorem quo1440 {n : Int} (h0 : 0 ≤ n) (h1 : n ≤ 1440000000) : 0 ≤ n.tdiv 1440 ∧ n.tdiv 1440 ≤ 1000000 := by
  rw [Int.tdiv_eq_ediv_of_nonneg h0]; omega
theorem rate_max {r q : Int} (h : 0 ≤ r ∧ r ≤ 1000000) (h2 : 0 ≤ q ∧ q ≤ 1440) : 0 ≤ r * q ∧ r * q ≤ 1440000000 := by
  refine ⟨Int.mul_nonneg h.1 h2.1, ?_⟩
  calc r * q ≤ 1000000 * q := Int.mul_le_mul_of_nonneg_right h.2 h2.1
    _ ≤ 1000000 * 1440 := Int.mul_le_mul_of_nonneg_left h2.2 (by omega)
    _ = 1440000000 := by decide
theorem madeA_le {s : Season} (h : Fr s) {lost m b a : Int} (hl : 0 ≤ lost ∧ lost ≤ 1440) (hm : 0 ≤ m ∧ m < s.makers.length) (hb : b < s.arts.length) (ha : a < s.arts.length) : 0 ≤ madeA s lost m b a ∧ madeA s lost m b a ≤ 1000000 := by
  unfold madeA
  split
  · simp
  · obtain ⟨M, r, _, _, e, h1, h2⟩ := rate_get h hm (show 0 ≤ a by omega) ha
    have j := jobF_le h hb ⟨by omega, ha⟩
    rw [e]
    have := rate_max ⟨h1, h2⟩ (q := max (1440 - (lost + (jobF s b a).1)) 0) (by omega)
    exact quo1440 this.1 this.2

theorem worked_ok (s : Season) (h : Fr s) (ms b n : List Int) (hb : Row s ms b) (hn : Row s ms n) : PureFn Try.prog 35 [seasonD s, rowD ms, rowD b, rowD n] (.agg [rowD (workedF s ms b n).1, int (workedF s ms b n).2]) := by
  have hl1 := hb.len
  have hl2 := hn.len
  have hsm := hn.small
  have lle := lostF_le h hb.arts hn.arts
  have cb := colour_ok s b (by omega) hb.arts
  have cn := colour_ok s n (by omega) hn.arts
  have kb := colF_lt h hb.arts
  have kn := colF_lt h hn.arts
  obtain ⟨⟨lost, lc⟩, hlost⟩ : ∃ L, lostF s b n = L := ⟨_, rfl⟩
  have elost : (lost, lc) = if 0 ≤ colF s b ∧ 0 ≤ colF s n ∧ colF s b ≠ colF s n then turnA s.cols (colF s b) (colF s n) else (0, 0) := by rw [← hlost]; rfl
  unfold workedF
  rw [hlost] at lle ⊢
  simp only at lle ⊢
  obtain ⟨MADE, hMADE⟩ : ∃ x, madeL s lost ms b n = x := ⟨_, rfl⟩
  obtain ⟨COST, hCOST⟩ : ∃ x, lc + costL s ms b n = x := ⟨_, rfl⟩
  rw [hMADE, hCOST]
  obtain ⟨B, hB⟩ : ∃ B, colF s b = B := ⟨_, rfl⟩
  obtain ⟨N, hN⟩ : ∃ N, colF s n = N := ⟨_, rfl⟩
  rw [hB] at cb kb elost
  rw [hN] at cn kn elost
  refine pureFn_by Try.func35 k35 rfl rfl ?_
  conv => whnf
  refine ⟨_, cb, ?_⟩
  conv => whnf
  refine ⟨_, cn, ?_⟩
  conv => whnf
  cases d1 : decide (0 ≤ B)
  · have g1 := of_decide_eq_false d1
    rw [if_neg (by omega)] at elost
    cases elost
    conv => whnf
    refine loopB (fun (x : Int × List (List D) × Nat × Int) => ⟨mkT [(1, .d (rowD ms)), (2, .d (rowD b)), (4, .d (.fptr (cellsS s))), (8, .ptr 1 0), (9, .ptr 2 0), (10, .d (int 0)), (54, .d (rowD n)), (55, .d (int (n.map i1).length)), (56, .d (int x.1))], mkB [(1, .var [.d (.v (.slice none 0 0)), .d (int 0)]), (2, .var [.row 4 0 x.2.2.1 x.2.2.1, .d (int x.2.2.2)]), (4, .row 1 x.2.1)]⟩)
      (fun x => ∃ (i : Nat) (acc : List Int), x.1 = i ∧ i ≤ n.length ∧ x.2.1 = acc.map i1 ∧ x.2.2.1 = x.2.1.length ∧ acc.length = i ∧ acc ++ madeL s 0 (ms.drop i) (b.drop i) (n.drop i) = MADE ∧ x.2.2.2 + costL s (ms.drop i) (b.drop i) (n.drop i) = COST ∧ 0 ≤ x.2.2.2 ∧ x.2.2.2 ≤ 1000000 * (i + 1)) (fun x => (n.length - x.1).toNat) (0, [], 0, 0) (by kernel_rfl) ⟨0, [], rfl, by omega, rfl, rfl, rfl, hMADE, hCOST, (by show (0 : Int) ≤ 0; omega), (by show (0 : Int) ≤ 1000000 * (((0 : Nat) : Int) + 1); omega)⟩ ?_
    rintro ⟨_, els, nn, cost⟩ ⟨i, acc, rfl, hi, he, hn0, hac, hb1, hb2, hc0, hc1⟩
    simp only at he hn0 hb2 hc0 hc1
    conv => whnf
    rw [List.length_map]
    cases c1 : decide ((i : Int) < (n.length : Int))
    · have hi' : i = n.length := by have := of_decide_eq_false c1; omega
      have e1 : n.drop i = [] := by rw [hi']; simp
      have e2 : ms.drop i = [] := List.drop_of_length_le (by omega)
      rw [e1, e2] at hb1 hb2
      have hb1 : acc = MADE := by simpa [madeL] using hb1
      have hb2 : cost = COST := by simpa [costL] using hb2
      conv => whnf
      refine cond_intro (by show (true && ((nn == els.length) && true)) = true; simp [hn0]) ?_
      conv => whnf
      have fin : ∀ σ : St, σ.t 8 = .ptr 1 0 → σ.b 1 = .var [.row 4 0 nn nn, .d (int cost)] → σ.b 4 = .row 1 els → resA [.c 8 (.agg 2)] σ = some (.agg [rowD MADE, int COST]) := fun σ h1 h2 h3 => by
        subst hn0
        simp [resA, readRV, h1, h2, snap, h3, he, hb1, hb2, List.take_of_length_le]
      exact fin _ rfl rfl rfl
    · have hi' : i < n.length := by have := of_decide_eq_true c1; omega
      obtain ⟨a, hx⟩ := get_lt hi'
      obtain ⟨m, hy⟩ := get_lt (xs := ms) (i := i) (by omega)
      obtain ⟨bb, hz⟩ := get_lt (xs := b) (i := i) (by omega)
      have ha := hn.arts a (List.mem_of_getElem? hx)
      have hbb := hb.arts bb (List.mem_of_getElem? hz)
      have hm := hn.ms m (List.mem_of_getElem? hy)
      obtain ⟨M, hM⟩ := get_lt (xs := s.makers) (i := m.toNat) (by omega)
      have hMk := h.maker M (List.mem_of_getElem? hM)
      rw [drop_at hx, drop_at hy, drop_at hz, madeL] at hb1
      rw [drop_at hx, drop_at hy, drop_at hz, costL] at hb2
      conv => whnf
      refine ⟨by omega, _, gm hx, ?_⟩
      conv => whnf
      refine ⟨by omega, _, gm hy, ?_⟩
      conv => whnf
      refine ⟨hm.1, _, gz hM, ?_⟩
      conv => whnf
      cases c2 : decide (a < 0)
      · have h2 := of_decide_eq_false c2
        obtain ⟨M2, r, hM2, hr, er, hr0, hr1⟩ := rate_get h hm (show 0 ≤ a by omega) ha.2
        rw [hM] at hM2; cases hM2
        have hca : costA s m bb a = (jobF s bb a).2 := by rw [costA, if_neg h2]
        conv => whnf
        refine ⟨by omega, _, gm hz, ?_⟩
        conv => whnf
        cases c3 : decide (0 ≤ bb)
        · have h3 := of_decide_eq_false c3
          have hjob : jobF s bb a = (0, 0) := by rw [jobF, if_neg (by omega)]
          conv => whnf
          refine ⟨by omega, _, gz hr, ?_⟩
          conv => whnf
          have hj1 : (jobF s bb a).1 = 0 := by rw [hjob]
          have hj2 : costA s m bb a = 0 := by rw [hca, hjob]
          have hma : madeA s 0 m bb a = IntKind.wrap .i64 ((IntKind.wrap .i64 (r * max (IntKind.wrap .i64 (1440 - 0)) 0)).tdiv 1440) := by
            have q := rate_max ⟨hr0, hr1⟩ (q := max (1440 - (0 + 0)) 0) (by omega)
            have q2 := quo1440 q.1 q.2
            have e1 : IntKind.wrap .i64 (1440 - 0) = 1440 - (0 + 0) := by exact (wr_eq (by omega)).trans (by omega)
            have e2 : IntKind.wrap .i64 (r * max (1440 - (0 + 0)) 0) = r * max (1440 - (0 + 0)) 0 := wr_eq (by omega)
            have e3 : IntKind.wrap .i64 ((r * max (1440 - (0 + 0)) 0).tdiv 1440) = (r * max (1440 - (0 + 0)) 0).tdiv 1440 := wr_eq (by omega)
            rw [e1, e2, e3, madeA, if_neg h2, er, hj1]
          refine ⟨by decide, ?_⟩
          conv => whnf
          refine ⟨rfl, rfl, hn0, most_le (by rw [he]; simp; omega), ?_⟩
          conv => whnf
          refine cond_intro (by show (true && ((els.length + 1 == (els ++ [[int (IntKind.wrap .i64 ((IntKind.wrap .i64 (r * max (IntKind.wrap .i64 (1440 - 0)) 0)).tdiv 1440))]]).length) && true)) = true; simp) ?_
          conv => whnf
          have hcs : cost = cost + costA s m bb a := by rw [hj2]; omega
          rw [← hma]
          exact ⟨(IntKind.wrap .i64 ((i : Int) + 1), els ++ [[int (madeA s 0 m bb a)]], els.length + 1, cost), by kernel_rfl, ⟨i + 1, acc ++ [madeA s 0 m bb a], nx (by omega), by omega, by rw [he]; simp [hma], by simp, by simp; omega, by rw [← hb1]; simp, by simp only; rw [hcs, ← hb2]; omega, by simp only; rw [hcs]; omega, by simp only; rw [hcs]; omega⟩, by simp only; rw [nx (by omega)]; omega⟩
        · have h3 := of_decide_eq_true c3
          conv => whnf
          cases c4 : decide (bb = a)
          · have h4 := of_decide_eq_false c4
            obtain ⟨jr, jt, hjr, hjt, ej, hj⟩ := turn_get h.jobs.1 h.jobs.2 (a := bb) (b := a) ⟨h3, hbb.2⟩ ⟨by omega, ha.2⟩
            have hjob : jobF s bb a = jt := by rw [jobF, if_pos ⟨h3, h4⟩, ej]
            conv => whnf
            refine ⟨h3, _, gz hjr, ?_⟩
            conv => whnf
            refine ⟨by omega, _, gz hjt, ?_⟩
            conv => whnf
            refine ⟨h3, _, gz hjr, ?_⟩
            conv => whnf
            refine ⟨by omega, _, gz hjt, ?_⟩
            conv => whnf
            refine ⟨by omega, _, gz hr, ?_⟩
            conv => whnf
            have hj1 : (jobF s bb a).1 = jt.1 := by rw [hjob]
            have hj2 : costA s m bb a = jt.2 := by rw [hca, hjob]
            have hma : madeA s 0 m bb a = IntKind.wrap .i64 ((IntKind.wrap .i64 (r * max (IntKind.wrap .i64 (1440 - IntKind.wrap .i64 (0 + jt.1))) 0)).tdiv 1440) := by
              have q := rate_max ⟨hr0, hr1⟩ (q := max (1440 - (0 + jt.1)) 0) (by omega)
              have q2 := quo1440 q.1 q.2
              have e1 : IntKind.wrap .i64 (1440 - IntKind.wrap .i64 (0 + jt.1)) = 1440 - (0 + jt.1) := by rw [show IntKind.wrap .i64 (0 + jt.1) = 0 + jt.1 from wr_eq (by omega)]; exact (wr_eq (by omega)).trans (by omega)
              have e2 : IntKind.wrap .i64 (r * max (1440 - (0 + jt.1)) 0) = r * max (1440 - (0 + jt.1)) 0 := wr_eq (by omega)
              have e3 : IntKind.wrap .i64 ((r * max (1440 - (0 + jt.1)) 0).tdiv 1440) = (r * max (1440 - (0 + jt.1)) 0).tdiv 1440 := wr_eq (by omega)
              rw [e1, e2, e3, madeA, if_neg h2, er, hj1]
            refine ⟨by decide, ?_⟩
            conv => whnf
            refine ⟨rfl, rfl, hn0, most_le (by rw [he]; simp; omega), ?_⟩
            conv => whnf
            refine cond_intro (by show (true && ((els.length + 1 == (els ++ [[int (IntKind.wrap .i64 ((IntKind.wrap .i64 (r * max (IntKind.wrap .i64 (1440 - IntKind.wrap .i64 (0 + jt.1))) 0)).tdiv 1440))]]).length) && true)) = true; simp) ?_
            conv => whnf
            have hcs : IntKind.wrap .i64 (cost + jt.2) = cost + costA s m bb a := by rw [hj2]; exact wr_eq (by omega)
            rw [← hma]
            exact ⟨(IntKind.wrap .i64 ((i : Int) + 1), els ++ [[int (madeA s 0 m bb a)]], els.length + 1, IntKind.wrap .i64 (cost + jt.2)), by kernel_rfl, ⟨i + 1, acc ++ [madeA s 0 m bb a], nx (by omega), by omega, by rw [he]; simp [hma], by simp, by simp; omega, by rw [← hb1]; simp, by simp only; rw [hcs, ← hb2]; omega, by simp only; rw [hcs]; omega, by simp only; rw [hcs]; omega⟩, by simp only; rw [nx (by omega)]; omega⟩
          · have h4 := of_decide_eq_true c4
            have hjob : jobF s bb a = (0, 0) := by rw [jobF, if_neg (by omega)]
            conv => whnf
            refine ⟨by omega, _, gz hr, ?_⟩
            conv => whnf
            have hj1 : (jobF s bb a).1 = 0 := by rw [hjob]
            have hj2 : costA s m bb a = 0 := by rw [hca, hjob]
            have hma : madeA s 0 m bb a = IntKind.wrap .i64 ((IntKind.wrap .i64 (r * max (IntKind.wrap .i64 (1440 - 0)) 0)).tdiv 1440) := by
              have q := rate_max ⟨hr0, hr1⟩ (q := max (1440 - (0 + 0)) 0) (by omega)
              have q2 := quo1440 q.1 q.2
              have e1 : IntKind.wrap .i64 (1440 - 0) = 1440 - (0 + 0) := by exact (wr_eq (by omega)).trans (by omega)
              have e2 : IntKind.wrap .i64 (r * max (1440 - (0 + 0)) 0) = r * max (1440 - (0 + 0)) 0 := wr_eq (by omega)
              have e3 : IntKind.wrap .i64 ((r * max (1440 - (0 + 0)) 0).tdiv 1440) = (r * max (1440 - (0 + 0)) 0).tdiv 1440 := wr_eq (by omega)
              rw [e1, e2, e3, madeA, if_neg h2, er, hj1]
            refine ⟨by decide, ?_⟩
            conv => whnf
            refine ⟨rfl, rfl, hn0, most_le (by rw [he]; simp; omega), ?_⟩
            conv => whnf
            refine cond_intro (by show (true && ((els.length + 1 == (els ++ [[int (IntKind.wrap .i64 ((IntKind.wrap .i64 (r * max (IntKind.wrap .i64 (1440 - 0)) 0)).tdiv 1440))]]).length) && true)) = true; simp) ?_
            conv => whnf
            have hcs : cost = cost + costA s m bb a := by rw [hj2]; omega
            rw [← hma]
            exact ⟨(IntKind.wrap .i64 ((i : Int) + 1), els ++ [[int (madeA s 0 m bb a)]], els.length + 1, cost), by kernel_rfl, ⟨i + 1, acc ++ [madeA s 0 m bb a], nx (by omega), by omega, by rw [he]; simp [hma], by simp, by simp; omega, by rw [← hb1]; simp, by simp only; rw [hcs, ← hb2]; omega, by simp only; rw [hcs]; omega, by simp only; rw [hcs]; omega⟩, by simp only; rw [nx (by omega)]; omega⟩
      · have h2 := of_decide_eq_true c2
        have hma : madeA s 0 m bb a = 0 := by rw [madeA, if_pos h2]
        have hca : costA s m bb a = M.idle := by rw [costA, if_pos h2]; simp [idleF, hM]
        have hcs : IntKind.wrap .i64 (cost + M.idle) = cost + costA s m bb a := by rw [hca, wr_eq (by omega)]
        have hmk := hMk.2.2.2.2
        conv => whnf
        refine ⟨rfl, rfl, hn0, most_le (by rw [he]; simp; omega), ?_⟩
        conv => whnf
        refine cond_intro (by show (true && ((els.length + 1 == (els ++ [[int 0]]).length) && true)) = true; simp) ?_
        conv => whnf
        exact ⟨(IntKind.wrap .i64 ((i : Int) + 1), els ++ [[int 0]], els.length + 1, IntKind.wrap .i64 (cost + M.idle)), by kernel_rfl, ⟨i + 1, acc ++ [madeA s 0 m bb a], nx (by omega), by omega, by rw [he]; simp [hma], by simp, by simp; omega, by rw [← hb1]; simp, by simp only; rw [hcs, ← hb2]; omega, by simp only; rw [hcs]; omega, by simp only; rw [hcs]; omega⟩, by simp only; rw [nx (by omega)]; omega⟩
  · have g1 := of_decide_eq_true d1
    conv => whnf
    cases d2 : decide (0 ≤ N)
    · have g2 := of_decide_eq_false d2
      rw [if_neg (by omega)] at elost
      cases elost
      conv => whnf
      refine loopB (fun (x : Int × List (List D) × Nat × Int) => ⟨mkT [(1, .d (rowD ms)), (2, .d (rowD b)), (4, .d (.fptr (cellsS s))), (8, .ptr 1 0), (9, .ptr 2 0), (10, .d (int 0)), (54, .d (rowD n)), (55, .d (int (n.map i1).length)), (56, .d (int x.1))], mkB [(1, .var [.d (.v (.slice none 0 0)), .d (int 0)]), (2, .var [.row 4 0 x.2.2.1 x.2.2.1, .d (int x.2.2.2)]), (4, .row 1 x.2.1)]⟩)
        (fun x => ∃ (i : Nat) (acc : List Int), x.1 = i ∧ i ≤ n.length ∧ x.2.1 = acc.map i1 ∧ x.2.2.1 = x.2.1.length ∧ acc.length = i ∧ acc ++ madeL s 0 (ms.drop i) (b.drop i) (n.drop i) = MADE ∧ x.2.2.2 + costL s (ms.drop i) (b.drop i) (n.drop i) = COST ∧ 0 ≤ x.2.2.2 ∧ x.2.2.2 ≤ 1000000 * (i + 1)) (fun x => (n.length - x.1).toNat) (0, [], 0, 0) (by kernel_rfl) ⟨0, [], rfl, by omega, rfl, rfl, rfl, hMADE, hCOST, (by show (0 : Int) ≤ 0; omega), (by show (0 : Int) ≤ 1000000 * (((0 : Nat) : Int) + 1); omega)⟩ ?_
      rintro ⟨_, els, nn, cost⟩ ⟨i, acc, rfl, hi, he, hn0, hac, hb1, hb2, hc0, hc1⟩
      simp only at he hn0 hb2 hc0 hc1
      conv => whnf
      rw [List.length_map]
      cases c1 : decide ((i : Int) < (n.length : Int))
      · have hi' : i = n.length := by have := of_decide_eq_false c1; omega
        have e1 : n.drop i = [] := by rw [hi']; simp
        have e2 : ms.drop i = [] := List.drop_of_length_le (by omega)
        rw [e1, e2] at hb1 hb2
        have hb1 : acc = MADE := by simpa [madeL] using hb1
        have hb2 : cost = COST := by simpa [costL] using hb2
        conv => whnf
        refine cond_intro (by show (true && ((nn == els.length) && true)) = true; simp [hn0]) ?_
        conv => whnf
        have fin : ∀ σ : St, σ.t 8 = .ptr 1 0 → σ.b 1 = .var [.row 4 0 nn nn, .d (int cost)] → σ.b 4 = .row 1 els → resA [.c 8 (.agg 2)] σ = some (.agg [rowD MADE, int COST]) := fun σ h1 h2 h3 => by
          subst hn0
          simp [resA, readRV, h1, h2, snap, h3, he, hb1, hb2, List.take_of_length_le]
        exact fin _ rfl rfl rfl
      · have hi' : i < n.length := by have := of_decide_eq_true c1; omega
        obtain ⟨a, hx⟩ := get_lt hi'
        obtain ⟨m, hy⟩ := get_lt (xs := ms) (i := i) (by omega)
        obtain ⟨bb, hz⟩ := get_lt (xs := b) (i := i) (by omega)
        have ha := hn.arts a (List.mem_of_getElem? hx)
        have hbb := hb.arts bb (List.mem_of_getElem? hz)
        have hm := hn.ms m (List.mem_of_getElem? hy)
        obtain ⟨M, hM⟩ := get_lt (xs := s.makers) (i := m.toNat) (by omega)
        have hMk := h.maker M (List.mem_of_getElem? hM)
        rw [drop_at hx, drop_at hy, drop_at hz, madeL] at hb1
        rw [drop_at hx, drop_at hy, drop_at hz, costL] at hb2
        conv => whnf
        refine ⟨by omega, _, gm hx, ?_⟩
        conv => whnf
        refine ⟨by omega, _, gm hy, ?_⟩
        conv => whnf
        refine ⟨hm.1, _, gz hM, ?_⟩
        conv => whnf
        cases c2 : decide (a < 0)
        · have h2 := of_decide_eq_false c2
          obtain ⟨M2, r, hM2, hr, er, hr0, hr1⟩ := rate_get h hm (show 0 ≤ a by omega) ha.2
          rw [hM] at hM2; cases hM2
          have hca : costA s m bb a = (jobF s bb a).2 := by rw [costA, if_neg h2]
          conv => whnf
          refine ⟨by omega, _, gm hz, ?_⟩
          conv => whnf
          cases c3 : decide (0 ≤ bb)
          · have h3 := of_decide_eq_false c3
            have hjob : jobF s bb a = (0, 0) := by rw [jobF, if_neg (by omega)]
            conv => whnf
            refine ⟨by omega, _, gz hr, ?_⟩
            conv => whnf
            have hj1 : (jobF s bb a).1 = 0 := by rw [hjob]
            have hj2 : costA s m bb a = 0 := by rw [hca, hjob]
            have hma : madeA s 0 m bb a = IntKind.wrap .i64 ((IntKind.wrap .i64 (r * max (IntKind.wrap .i64 (1440 - 0)) 0)).tdiv 1440) := by
              have q := rate_max ⟨hr0, hr1⟩ (q := max (1440 - (0 + 0)) 0) (by omega)
              have q2 := quo1440 q.1 q.2
              have e1 : IntKind.wrap .i64 (1440 - 0) = 1440 - (0 + 0) := by exact (wr_eq (by omega)).trans (by omega)
              have e2 : IntKind.wrap .i64 (r * max (1440 - (0 + 0)) 0) = r * max (1440 - (0 + 0)) 0 := wr_eq (by omega)
              have e3 : IntKind.wrap .i64 ((r * max (1440 - (0 + 0)) 0).tdiv 1440) = (r * max (1440 - (0 + 0)) 0).tdiv 1440 := wr_eq (by omega)
              rw [e1, e2, e3, madeA, if_neg h2, er, hj1]
            refine ⟨by decide, ?_⟩
            conv => whnf
            refine ⟨rfl, rfl, hn0, most_le (by rw [he]; simp; omega), ?_⟩
            conv => whnf
            refine cond_intro (by show (true && ((els.length + 1 == (els ++ [[int (IntKind.wrap .i64 ((IntKind.wrap .i64 (r * max (IntKind.wrap .i64 (1440 - 0)) 0)).tdiv 1440))]]).length) && true)) = true; simp) ?_
            conv => whnf
            have hcs : cost = cost + costA s m bb a := by rw [hj2]; omega
            rw [← hma]
            exact ⟨(IntKind.wrap .i64 ((i : Int) + 1), els ++ [[int (madeA s 0 m bb a)]], els.length + 1, cost), by kernel_rfl, ⟨i + 1, acc ++ [madeA s 0 m bb a], nx (by omega), by omega, by rw [he]; simp [hma], by simp, by simp; omega, by rw [← hb1]; simp, by simp only; rw [hcs, ← hb2]; omega, by simp only; rw [hcs]; omega, by simp only; rw [hcs]; omega⟩, by simp only; rw [nx (by omega)]; omega⟩
          · have h3 := of_decide_eq_true c3
            conv => whnf
            cases c4 : decide (bb = a)
            · have h4 := of_decide_eq_false c4
              obtain ⟨jr, jt, hjr, hjt, ej, hj⟩ := turn_get h.jobs.1 h.jobs.2 (a := bb) (b := a) ⟨h3, hbb.2⟩ ⟨by omega, ha.2⟩
              have hjob : jobF s bb a = jt := by rw [jobF, if_pos ⟨h3, h4⟩, ej]
              conv => whnf
              refine ⟨h3, _, gz hjr, ?_⟩
              conv => whnf
              refine ⟨by omega, _, gz hjt, ?_⟩
              conv => whnf
              refine ⟨h3, _, gz hjr, ?_⟩
              conv => whnf
              refine ⟨by omega, _, gz hjt, ?_⟩
              conv => whnf
              refine ⟨by omega, _, gz hr, ?_⟩
              conv => whnf
              have hj1 : (jobF s bb a).1 = jt.1 := by rw [hjob]
              have hj2 : costA s m bb a = jt.2 := by rw [hca, hjob]
              have hma : madeA s 0 m bb a = IntKind.wrap .i64 ((IntKind.wrap .i64 (r * max (IntKind.wrap .i64 (1440 - IntKind.wrap .i64 (0 + jt.1))) 0)).tdiv 1440) := by
                have q := rate_max ⟨hr0, hr1⟩ (q := max (1440 - (0 + jt.1)) 0) (by omega)
                have q2 := quo1440 q.1 q.2
                have e1 : IntKind.wrap .i64 (1440 - IntKind.wrap .i64 (0 + jt.1)) = 1440 - (0 + jt.1) := by rw [show IntKind.wrap .i64 (0 + jt.1) = 0 + jt.1 from wr_eq (by omega)]; exact (wr_eq (by omega)).trans (by omega)
                have e2 : IntKind.wrap .i64 (r * max (1440 - (0 + jt.1)) 0) = r * max (1440 - (0 + jt.1)) 0 := wr_eq (by omega)
                have e3 : IntKind.wrap .i64 ((r * max (1440 - (0 + jt.1)) 0).tdiv 1440) = (r * max (1440 - (0 + jt.1)) 0).tdiv 1440 := wr_eq (by omega)
                rw [e1, e2, e3, madeA, if_neg h2, er, hj1]
              refine ⟨by decide, ?_⟩
              conv => whnf
              refine ⟨rfl, rfl, hn0, most_le (by rw [he]; simp; omega), ?_⟩
              conv => whnf
              refine cond_intro (by show (true && ((els.length + 1 == (els ++ [[int (IntKind.wrap .i64 ((IntKind.wrap .i64 (r * max (IntKind.wrap .i64 (1440 - IntKind.wrap .i64 (0 + jt.1))) 0)).tdiv 1440))]]).length) && true)) = true; simp) ?_
              conv => whnf
              have hcs : IntKind.wrap .i64 (cost + jt.2) = cost + costA s m bb a := by rw [hj2]; exact wr_eq (by omega)
              rw [← hma]
              exact ⟨(IntKind.wrap .i64 ((i : Int) + 1), els ++ [[int (madeA s 0 m bb a)]], els.length + 1, IntKind.wrap .i64 (cost + jt.2)), by kernel_rfl, ⟨i + 1, acc ++ [madeA s 0 m bb a], nx (by omega), by omega, by rw [he]; simp [hma], by simp, by simp; omega, by rw [← hb1]; simp, by simp only; rw [hcs, ← hb2]; omega, by simp only; rw [hcs]; omega, by simp only; rw [hcs]; omega⟩, by simp only; rw [nx (by omega)]; omega⟩
            · have h4 := of_decide_eq_true c4
              have hjob : jobF s bb a = (0, 0) := by rw [jobF, if_neg (by omega)]
              conv => whnf
              refine ⟨by omega, _, gz hr, ?_⟩
              conv => whnf
              have hj1 : (jobF s bb a).1 = 0 := by rw [hjob]
              have hj2 : costA s m bb a = 0 := by rw [hca, hjob]
              have hma : madeA s 0 m bb a = IntKind.wrap .i64 ((IntKind.wrap .i64 (r * max (IntKind.wrap .i64 (1440 - 0)) 0)).tdiv 1440) := by
                have q := rate_max ⟨hr0, hr1⟩ (q := max (1440 - (0 + 0)) 0) (by omega)
                have q2 := quo1440 q.1 q.2
                have e1 : IntKind.wrap .i64 (1440 - 0) = 1440 - (0 + 0) := by exact (wr_eq (by omega)).trans (by omega)
                have e2 : IntKind.wrap .i64 (r * max (1440 - (0 + 0)) 0) = r * max (1440 - (0 + 0)) 0 := wr_eq (by omega)
                have e3 : IntKind.wrap .i64 ((r * max (1440 - (0 + 0)) 0).tdiv 1440) = (r * max (1440 - (0 + 0)) 0).tdiv 1440 := wr_eq (by omega)
                rw [e1, e2, e3, madeA, if_neg h2, er, hj1]
              refine ⟨by decide, ?_⟩
              conv => whnf
              refine ⟨rfl, rfl, hn0, most_le (by rw [he]; simp; omega), ?_⟩
              conv => whnf
              refine cond_intro (by show (true && ((els.length + 1 == (els ++ [[int (IntKind.wrap .i64 ((IntKind.wrap .i64 (r * max (IntKind.wrap .i64 (1440 - 0)) 0)).tdiv 1440))]]).length) && true)) = true; simp) ?_
              conv => whnf
              have hcs : cost = cost + costA s m bb a := by rw [hj2]; omega
              rw [← hma]
              exact ⟨(IntKind.wrap .i64 ((i : Int) + 1), els ++ [[int (madeA s 0 m bb a)]], els.length + 1, cost), by kernel_rfl, ⟨i + 1, acc ++ [madeA s 0 m bb a], nx (by omega), by omega, by rw [he]; simp [hma], by simp, by simp; omega, by rw [← hb1]; simp, by simp only; rw [hcs, ← hb2]; omega, by simp only; rw [hcs]; omega, by simp only; rw [hcs]; omega⟩, by simp only; rw [nx (by omega)]; omega⟩
        · have h2 := of_decide_eq_true c2
          have hma : madeA s 0 m bb a = 0 := by rw [madeA, if_pos h2]
          have hca : costA s m bb a = M.idle := by rw [costA, if_pos h2]; simp [idleF, hM]
          have hcs : IntKind.wrap .i64 (cost + M.idle) = cost + costA s m bb a := by rw [hca, wr_eq (by omega)]
          have hmk := hMk.2.2.2.2
          conv => whnf
          refine ⟨rfl, rfl, hn0, most_le (by rw [he]; simp; omega), ?_⟩
          conv => whnf
          refine cond_intro (by show (true && ((els.length + 1 == (els ++ [[int 0]]).length) && true)) = true; simp) ?_
          conv => whnf
          exact ⟨(IntKind.wrap .i64 ((i : Int) + 1), els ++ [[int 0]], els.length + 1, IntKind.wrap .i64 (cost + M.idle)), by kernel_rfl, ⟨i + 1, acc ++ [madeA s 0 m bb a], nx (by omega), by omega, by rw [he]; simp [hma], by simp, by simp; omega, by rw [← hb1]; simp, by simp only; rw [hcs, ← hb2]; omega, by simp only; rw [hcs]; omega, by simp only; rw [hcs]; omega⟩, by simp only; rw [nx (by omega)]; omega⟩
    · have g2 := of_decide_eq_true d2
      conv => whnf
      cases d3 : decide (B = N)
      · have g3 := of_decide_eq_false d3
        rw [if_pos ⟨g1, g2, g3⟩] at elost
        obtain ⟨cr, ⟨t1, t2⟩, hcr, hct, et, _⟩ := turn_get (n := s.cols.length) rfl h.cols (a := B) (b := N) (by omega) (by omega)
        rw [et] at elost
        cases elost
        conv => whnf
        refine ⟨g1, _, gz hcr, ?_⟩
        conv => whnf
        refine ⟨g2, _, gz hct, ?_⟩
        conv => whnf
        refine ⟨g1, _, gz hcr, ?_⟩
        conv => whnf
        refine ⟨g2, _, gz hct, ?_⟩
        conv => whnf
        refine loopB (fun (x : Int × List (List D) × Nat × Int) => ⟨mkT [(1, .d (rowD ms)), (2, .d (rowD b)), (4, .d (.fptr (cellsS s))), (8, .ptr 1 0), (9, .ptr 2 0), (10, .d (int lost)), (54, .d (rowD n)), (55, .d (int (n.map i1).length)), (56, .d (int x.1))], mkB [(1, .var [.d (.v (.slice none 0 0)), .d (int 0)]), (2, .var [.row 4 0 x.2.2.1 x.2.2.1, .d (int x.2.2.2)]), (4, .row 1 x.2.1)]⟩)
          (fun x => ∃ (i : Nat) (acc : List Int), x.1 = i ∧ i ≤ n.length ∧ x.2.1 = acc.map i1 ∧ x.2.2.1 = x.2.1.length ∧ acc.length = i ∧ acc ++ madeL s lost (ms.drop i) (b.drop i) (n.drop i) = MADE ∧ x.2.2.2 + costL s (ms.drop i) (b.drop i) (n.drop i) = COST ∧ 0 ≤ x.2.2.2 ∧ x.2.2.2 ≤ 1000000 * (i + 1)) (fun x => (n.length - x.1).toNat) (0, [], 0, lc) (by kernel_rfl) ⟨0, [], rfl, by omega, rfl, rfl, rfl, hMADE, hCOST, (by show (0 : Int) ≤ lc; omega), (by show (lc : Int) ≤ 1000000 * (((0 : Nat) : Int) + 1); omega)⟩ ?_
        rintro ⟨_, els, nn, cost⟩ ⟨i, acc, rfl, hi, he, hn0, hac, hb1, hb2, hc0, hc1⟩
        simp only at he hn0 hb2 hc0 hc1
        conv => whnf
        rw [List.length_map]
        cases c1 : decide ((i : Int) < (n.length : Int))
        · have hi' : i = n.length := by have := of_decide_eq_false c1; omega
          have e1 : n.drop i = [] := by rw [hi']; simp
          have e2 : ms.drop i = [] := List.drop_of_length_le (by omega)
          rw [e1, e2] at hb1 hb2
          have hb1 : acc = MADE := by simpa [madeL] using hb1
          have hb2 : cost = COST := by simpa [costL] using hb2
          conv => whnf
          refine cond_intro (by show (true && ((nn == els.length) && true)) = true; simp [hn0]) ?_
          conv => whnf
          have fin : ∀ σ : St, σ.t 8 = .ptr 1 0 → σ.b 1 = .var [.row 4 0 nn nn, .d (int cost)] → σ.b 4 = .row 1 els → resA [.c 8 (.agg 2)] σ = some (.agg [rowD MADE, int COST]) := fun σ h1 h2 h3 => by
            subst hn0
            simp [resA, readRV, h1, h2, snap, h3, he, hb1, hb2, List.take_of_length_le]
          exact fin _ rfl rfl rfl
        · have hi' : i < n.length := by have := of_decide_eq_true c1; omega
          obtain ⟨a, hx⟩ := get_lt hi'
          obtain ⟨m, hy⟩ := get_lt (xs := ms) (i := i) (by omega)
          obtain ⟨bb, hz⟩ := get_lt (xs := b) (i := i) (by omega)
          have ha := hn.arts a (List.mem_of_getElem? hx)
          have hbb := hb.arts bb (List.mem_of_getElem? hz)
          have hm := hn.ms m (List.mem_of_getElem? hy)
          obtain ⟨M, hM⟩ := get_lt (xs := s.makers) (i := m.toNat) (by omega)
          have hMk := h.maker M (List.mem_of_getElem? hM)
          rw [drop_at hx, drop_at hy, drop_at hz, madeL] at hb1
          rw [drop_at hx, drop_at hy, drop_at hz, costL] at hb2
          conv => whnf
          refine ⟨by omega, _, gm hx, ?_⟩
          conv => whnf
          refine ⟨by omega, _, gm hy, ?_⟩
          conv => whnf
          refine ⟨hm.1, _, gz hM, ?_⟩
          conv => whnf
          cases c2 : decide (a < 0)
          · have h2 := of_decide_eq_false c2
            obtain ⟨M2, r, hM2, hr, er, hr0, hr1⟩ := rate_get h hm (show 0 ≤ a by omega) ha.2
            rw [hM] at hM2; cases hM2
            have hca : costA s m bb a = (jobF s bb a).2 := by rw [costA, if_neg h2]
            conv => whnf
            refine ⟨by omega, _, gm hz, ?_⟩
            conv => whnf
            cases c3 : decide (0 ≤ bb)
            · have h3 := of_decide_eq_false c3
              have hjob : jobF s bb a = (0, 0) := by rw [jobF, if_neg (by omega)]
              conv => whnf
              refine ⟨by omega, _, gz hr, ?_⟩
              conv => whnf
              have hj1 : (jobF s bb a).1 = 0 := by rw [hjob]
              have hj2 : costA s m bb a = 0 := by rw [hca, hjob]
              have hma : madeA s lost m bb a = IntKind.wrap .i64 ((IntKind.wrap .i64 (r * max (IntKind.wrap .i64 (1440 - lost)) 0)).tdiv 1440) := by
                have q := rate_max ⟨hr0, hr1⟩ (q := max (1440 - (lost + 0)) 0) (by omega)
                have q2 := quo1440 q.1 q.2
                have e1 : IntKind.wrap .i64 (1440 - lost) = 1440 - (lost + 0) := by exact (wr_eq (by omega)).trans (by omega)
                have e2 : IntKind.wrap .i64 (r * max (1440 - (lost + 0)) 0) = r * max (1440 - (lost + 0)) 0 := wr_eq (by omega)
                have e3 : IntKind.wrap .i64 ((r * max (1440 - (lost + 0)) 0).tdiv 1440) = (r * max (1440 - (lost + 0)) 0).tdiv 1440 := wr_eq (by omega)
                rw [e1, e2, e3, madeA, if_neg h2, er, hj1]
              refine ⟨by decide, ?_⟩
              conv => whnf
              refine ⟨rfl, rfl, hn0, most_le (by rw [he]; simp; omega), ?_⟩
              conv => whnf
              refine cond_intro (by show (true && ((els.length + 1 == (els ++ [[int (IntKind.wrap .i64 ((IntKind.wrap .i64 (r * max (IntKind.wrap .i64 (1440 - lost)) 0)).tdiv 1440))]]).length) && true)) = true; simp) ?_
              conv => whnf
              have hcs : cost = cost + costA s m bb a := by rw [hj2]; omega
              rw [← hma]
              exact ⟨(IntKind.wrap .i64 ((i : Int) + 1), els ++ [[int (madeA s lost m bb a)]], els.length + 1, cost), by kernel_rfl, ⟨i + 1, acc ++ [madeA s lost m bb a], nx (by omega), by omega, by rw [he]; simp [hma], by simp, by simp; omega, by rw [← hb1]; simp, by simp only; rw [hcs, ← hb2]; omega, by simp only; rw [hcs]; omega, by simp only; rw [hcs]; omega⟩, by simp only; rw [nx (by omega)]; omega⟩
            · have h3 := of_decide_eq_true c3
              conv => whnf
              cases c4 : decide (bb = a)
              · have h4 := of_decide_eq_false c4
                obtain ⟨jr, jt, hjr, hjt, ej, hj⟩ := turn_get h.jobs.1 h.jobs.2 (a := bb) (b := a) ⟨h3, hbb.2⟩ ⟨by omega, ha.2⟩
                have hjob : jobF s bb a = jt := by rw [jobF, if_pos ⟨h3, h4⟩, ej]
                conv => whnf
                refine ⟨h3, _, gz hjr, ?_⟩
                conv => whnf
                refine ⟨by omega, _, gz hjt, ?_⟩
                conv => whnf
                refine ⟨h3, _, gz hjr, ?_⟩
                conv => whnf
                refine ⟨by omega, _, gz hjt, ?_⟩
                conv => whnf
                refine ⟨by omega, _, gz hr, ?_⟩
                conv => whnf
                have hj1 : (jobF s bb a).1 = jt.1 := by rw [hjob]
                have hj2 : costA s m bb a = jt.2 := by rw [hca, hjob]
                have hma : madeA s lost m bb a = IntKind.wrap .i64 ((IntKind.wrap .i64 (r * max (IntKind.wrap .i64 (1440 - IntKind.wrap .i64 (lost + jt.1))) 0)).tdiv 1440) := by
                  have q := rate_max ⟨hr0, hr1⟩ (q := max (1440 - (lost + jt.1)) 0) (by omega)
                  have q2 := quo1440 q.1 q.2
                  have e1 : IntKind.wrap .i64 (1440 - IntKind.wrap .i64 (lost + jt.1)) = 1440 - (lost + jt.1) := by rw [show IntKind.wrap .i64 (lost + jt.1) = lost + jt.1 from wr_eq (by omega)]; exact (wr_eq (by omega)).trans (by omega)
                  have e2 : IntKind.wrap .i64 (r * max (1440 - (lost + jt.1)) 0) = r * max (1440 - (lost + jt.1)) 0 := wr_eq (by omega)
                  have e3 : IntKind.wrap .i64 ((r * max (1440 - (lost + jt.1)) 0).tdiv 1440) = (r * max (1440 - (lost + jt.1)) 0).tdiv 1440 := wr_eq (by omega)
                  rw [e1, e2, e3, madeA, if_neg h2, er, hj1]
                refine ⟨by decide, ?_⟩
                conv => whnf
                refine ⟨rfl, rfl, hn0, most_le (by rw [he]; simp; omega), ?_⟩
                conv => whnf
                refine cond_intro (by show (true && ((els.length + 1 == (els ++ [[int (IntKind.wrap .i64 ((IntKind.wrap .i64 (r * max (IntKind.wrap .i64 (1440 - IntKind.wrap .i64 (lost + jt.1))) 0)).tdiv 1440))]]).length) && true)) = true; simp) ?_
                conv => whnf
                have hcs : IntKind.wrap .i64 (cost + jt.2) = cost + costA s m bb a := by rw [hj2]; exact wr_eq (by omega)
                rw [← hma]
                exact ⟨(IntKind.wrap .i64 ((i : Int) + 1), els ++ [[int (madeA s lost m bb a)]], els.length + 1, IntKind.wrap .i64 (cost + jt.2)), by kernel_rfl, ⟨i + 1, acc ++ [madeA s lost m bb a], nx (by omega), by omega, by rw [he]; simp [hma], by simp, by simp; omega, by rw [← hb1]; simp, by simp only; rw [hcs, ← hb2]; omega, by simp only; rw [hcs]; omega, by simp only; rw [hcs]; omega⟩, by simp only; rw [nx (by omega)]; omega⟩
              · have h4 := of_decide_eq_true c4
                have hjob : jobF s bb a = (0, 0) := by rw [jobF, if_neg (by omega)]
                conv => whnf
                refine ⟨by omega, _, gz hr, ?_⟩
                conv => whnf
                have hj1 : (jobF s bb a).1 = 0 := by rw [hjob]
                have hj2 : costA s m bb a = 0 := by rw [hca, hjob]
                have hma : madeA s lost m bb a = IntKind.wrap .i64 ((IntKind.wrap .i64 (r * max (IntKind.wrap .i64 (1440 - lost)) 0)).tdiv 1440) := by
                  have q := rate_max ⟨hr0, hr1⟩ (q := max (1440 - (lost + 0)) 0) (by omega)
                  have q2 := quo1440 q.1 q.2
                  have e1 : IntKind.wrap .i64 (1440 - lost) = 1440 - (lost + 0) := by exact (wr_eq (by omega)).trans (by omega)
                  have e2 : IntKind.wrap .i64 (r * max (1440 - (lost + 0)) 0) = r * max (1440 - (lost + 0)) 0 := wr_eq (by omega)
                  have e3 : IntKind.wrap .i64 ((r * max (1440 - (lost + 0)) 0).tdiv 1440) = (r * max (1440 - (lost + 0)) 0).tdiv 1440 := wr_eq (by omega)
                  rw [e1, e2, e3, madeA, if_neg h2, er, hj1]
                refine ⟨by decide, ?_⟩
                conv => whnf
                refine ⟨rfl, rfl, hn0, most_le (by rw [he]; simp; omega), ?_⟩
                conv => whnf
                refine cond_intro (by show (true && ((els.length + 1 == (els ++ [[int (IntKind.wrap .i64 ((IntKind.wrap .i64 (r * max (IntKind.wrap .i64 (1440 - lost)) 0)).tdiv 1440))]]).length) && true)) = true; simp) ?_
                conv => whnf
                have hcs : cost = cost + costA s m bb a := by rw [hj2]; omega
                rw [← hma]
                exact ⟨(IntKind.wrap .i64 ((i : Int) + 1), els ++ [[int (madeA s lost m bb a)]], els.length + 1, cost), by kernel_rfl, ⟨i + 1, acc ++ [madeA s lost m bb a], nx (by omega), by omega, by rw [he]; simp [hma], by simp, by simp; omega, by rw [← hb1]; simp, by simp only; rw [hcs, ← hb2]; omega, by simp only; rw [hcs]; omega, by simp only; rw [hcs]; omega⟩, by simp only; rw [nx (by omega)]; omega⟩
          · have h2 := of_decide_eq_true c2
            have hma : madeA s lost m bb a = 0 := by rw [madeA, if_pos h2]
            have hca : costA s m bb a = M.idle := by rw [costA, if_pos h2]; simp [idleF, hM]
            have hcs : IntKind.wrap .i64 (cost + M.idle) = cost + costA s m bb a := by rw [hca, wr_eq (by omega)]
            have hmk := hMk.2.2.2.2
            conv => whnf
            refine ⟨rfl, rfl, hn0, most_le (by rw [he]; simp; omega), ?_⟩
            conv => whnf
            refine cond_intro (by show (true && ((els.length + 1 == (els ++ [[int 0]]).length) && true)) = true; simp) ?_
            conv => whnf
            exact ⟨(IntKind.wrap .i64 ((i : Int) + 1), els ++ [[int 0]], els.length + 1, IntKind.wrap .i64 (cost + M.idle)), by kernel_rfl, ⟨i + 1, acc ++ [madeA s lost m bb a], nx (by omega), by omega, by rw [he]; simp [hma], by simp, by simp; omega, by rw [← hb1]; simp, by simp only; rw [hcs, ← hb2]; omega, by simp only; rw [hcs]; omega, by simp only; rw [hcs]; omega⟩, by simp only; rw [nx (by omega)]; omega⟩
      · have g3 := of_decide_eq_true d3
        rw [if_neg (by omega)] at elost
        cases elost
        conv => whnf
        refine loopB (fun (x : Int × List (List D) × Nat × Int) => ⟨mkT [(1, .d (rowD ms)), (2, .d (rowD b)), (4, .d (.fptr (cellsS s))), (8, .ptr 1 0), (9, .ptr 2 0), (10, .d (int 0)), (54, .d (rowD n)), (55, .d (int (n.map i1).length)), (56, .d (int x.1))], mkB [(1, .var [.d (.v (.slice none 0 0)), .d (int 0)]), (2, .var [.row 4 0 x.2.2.1 x.2.2.1, .d (int x.2.2.2)]), (4, .row 1 x.2.1)]⟩)
          (fun x => ∃ (i : Nat) (acc : List Int), x.1 = i ∧ i ≤ n.length ∧ x.2.1 = acc.map i1 ∧ x.2.2.1 = x.2.1.length ∧ acc.length = i ∧ acc ++ madeL s 0 (ms.drop i) (b.drop i) (n.drop i) = MADE ∧ x.2.2.2 + costL s (ms.drop i) (b.drop i) (n.drop i) = COST ∧ 0 ≤ x.2.2.2 ∧ x.2.2.2 ≤ 1000000 * (i + 1)) (fun x => (n.length - x.1).toNat) (0, [], 0, 0) (by kernel_rfl) ⟨0, [], rfl, by omega, rfl, rfl, rfl, hMADE, hCOST, (by show (0 : Int) ≤ 0; omega), (by show (0 : Int) ≤ 1000000 * (((0 : Nat) : Int) + 1); omega)⟩ ?_
        rintro ⟨_, els, nn, cost⟩ ⟨i, acc, rfl, hi, he, hn0, hac, hb1, hb2, hc0, hc1⟩
        simp only at he hn0 hb2 hc0 hc1
        conv => whnf
        rw [List.length_map]
        cases c1 : decide ((i : Int) < (n.length : Int))
        · have hi' : i = n.length := by have := of_decide_eq_false c1; omega
          have e1 : n.drop i = [] := by rw [hi']; simp
          have e2 : ms.drop i = [] := List.drop_of_length_le (by omega)
          rw [e1, e2] at hb1 hb2
          have hb1 : acc = MADE := by simpa [madeL] using hb1
          have hb2 : cost = COST := by simpa [costL] using hb2
          conv => whnf
          refine cond_intro (by show (true && ((nn == els.length) && true)) = true; simp [hn0]) ?_
          conv => whnf
          have fin : ∀ σ : St, σ.t 8 = .ptr 1 0 → σ.b 1 = .var [.row 4 0 nn nn, .d (int cost)] → σ.b 4 = .row 1 els → resA [.c 8 (.agg 2)] σ = some (.agg [rowD MADE, int COST]) := fun σ h1 h2 h3 => by
            subst hn0
            simp [resA, readRV, h1, h2, snap, h3, he, hb1, hb2, List.take_of_length_le]
          exact fin _ rfl rfl rfl
        · have hi' : i < n.length := by have := of_decide_eq_true c1; omega
          obtain ⟨a, hx⟩ := get_lt hi'
          obtain ⟨m, hy⟩ := get_lt (xs := ms) (i := i) (by omega)
          obtain ⟨bb, hz⟩ := get_lt (xs := b) (i := i) (by omega)
          have ha := hn.arts a (List.mem_of_getElem? hx)
          have hbb := hb.arts bb (List.mem_of_getElem? hz)
          have hm := hn.ms m (List.mem_of_getElem? hy)
          obtain ⟨M, hM⟩ := get_lt (xs := s.makers) (i := m.toNat) (by omega)
          have hMk := h.maker M (List.mem_of_getElem? hM)
          rw [drop_at hx, drop_at hy, drop_at hz, madeL] at hb1
          rw [drop_at hx, drop_at hy, drop_at hz, costL] at hb2
          conv => whnf
          refine ⟨by omega, _, gm hx, ?_⟩
          conv => whnf
          refine ⟨by omega, _, gm hy, ?_⟩
          conv => whnf
          refine ⟨hm.1, _, gz hM, ?_⟩
          conv => whnf
          cases c2 : decide (a < 0)
          · have h2 := of_decide_eq_false c2
            obtain ⟨M2, r, hM2, hr, er, hr0, hr1⟩ := rate_get h hm (show 0 ≤ a by omega) ha.2
            rw [hM] at hM2; cases hM2
            have hca : costA s m bb a = (jobF s bb a).2 := by rw [costA, if_neg h2]
            conv => whnf
            refine ⟨by omega, _, gm hz, ?_⟩
            conv => whnf
            cases c3 : decide (0 ≤ bb)
            · have h3 := of_decide_eq_false c3
              have hjob : jobF s bb a = (0, 0) := by rw [jobF, if_neg (by omega)]
              conv => whnf
              refine ⟨by omega, _, gz hr, ?_⟩
              conv => whnf
              have hj1 : (jobF s bb a).1 = 0 := by rw [hjob]
              have hj2 : costA s m bb a = 0 := by rw [hca, hjob]
              have hma : madeA s 0 m bb a = IntKind.wrap .i64 ((IntKind.wrap .i64 (r * max (IntKind.wrap .i64 (1440 - 0)) 0)).tdiv 1440) := by
                have q := rate_max ⟨hr0, hr1⟩ (q := max (1440 - (0 + 0)) 0) (by omega)
                have q2 := quo1440 q.1 q.2
                have e1 : IntKind.wrap .i64 (1440 - 0) = 1440 - (0 + 0) := by exact (wr_eq (by omega)).trans (by omega)
                have e2 : IntKind.wrap .i64 (r * max (1440 - (0 + 0)) 0) = r * max (1440 - (0 + 0)) 0 := wr_eq (by omega)
                have e3 : IntKind.wrap .i64 ((r * max (1440 - (0 + 0)) 0).tdiv 1440) = (r * max (1440 - (0 + 0)) 0).tdiv 1440 := wr_eq (by omega)
                rw [e1, e2, e3, madeA, if_neg h2, er, hj1]
              refine ⟨by decide, ?_⟩
              conv => whnf
              refine ⟨rfl, rfl, hn0, most_le (by rw [he]; simp; omega), ?_⟩
              conv => whnf
              refine cond_intro (by show (true && ((els.length + 1 == (els ++ [[int (IntKind.wrap .i64 ((IntKind.wrap .i64 (r * max (IntKind.wrap .i64 (1440 - 0)) 0)).tdiv 1440))]]).length) && true)) = true; simp) ?_
              conv => whnf
              have hcs : cost = cost + costA s m bb a := by rw [hj2]; omega
              rw [← hma]
              exact ⟨(IntKind.wrap .i64 ((i : Int) + 1), els ++ [[int (madeA s 0 m bb a)]], els.length + 1, cost), by kernel_rfl, ⟨i + 1, acc ++ [madeA s 0 m bb a], nx (by omega), by omega, by rw [he]; simp [hma], by simp, by simp; omega, by rw [← hb1]; simp, by simp only; rw [hcs, ← hb2]; omega, by simp only; rw [hcs]; omega, by simp only; rw [hcs]; omega⟩, by simp only; rw [nx (by omega)]; omega⟩
            · have h3 := of_decide_eq_true c3
              conv => whnf
              cases c4 : decide (bb = a)
              · have h4 := of_decide_eq_false c4
                obtain ⟨jr, jt, hjr, hjt, ej, hj⟩ := turn_get h.jobs.1 h.jobs.2 (a := bb) (b := a) ⟨h3, hbb.2⟩ ⟨by omega, ha.2⟩
                have hjob : jobF s bb a = jt := by rw [jobF, if_pos ⟨h3, h4⟩, ej]
                conv => whnf
                refine ⟨h3, _, gz hjr, ?_⟩
                conv => whnf
                refine ⟨by omega, _, gz hjt, ?_⟩
                conv => whnf
                refine ⟨h3, _, gz hjr, ?_⟩
                conv => whnf
                refine ⟨by omega, _, gz hjt, ?_⟩
                conv => whnf
                refine ⟨by omega, _, gz hr, ?_⟩
                conv => whnf
                have hj1 : (jobF s bb a).1 = jt.1 := by rw [hjob]
                have hj2 : costA s m bb a = jt.2 := by rw [hca, hjob]
                have hma : madeA s 0 m bb a = IntKind.wrap .i64 ((IntKind.wrap .i64 (r * max (IntKind.wrap .i64 (1440 - IntKind.wrap .i64 (0 + jt.1))) 0)).tdiv 1440) := by
                  have q := rate_max ⟨hr0, hr1⟩ (q := max (1440 - (0 + jt.1)) 0) (by omega)
                  have q2 := quo1440 q.1 q.2
                  have e1 : IntKind.wrap .i64 (1440 - IntKind.wrap .i64 (0 + jt.1)) = 1440 - (0 + jt.1) := by rw [show IntKind.wrap .i64 (0 + jt.1) = 0 + jt.1 from wr_eq (by omega)]; exact (wr_eq (by omega)).trans (by omega)
                  have e2 : IntKind.wrap .i64 (r * max (1440 - (0 + jt.1)) 0) = r * max (1440 - (0 + jt.1)) 0 := wr_eq (by omega)
                  have e3 : IntKind.wrap .i64 ((r * max (1440 - (0 + jt.1)) 0).tdiv 1440) = (r * max (1440 - (0 + jt.1)) 0).tdiv 1440 := wr_eq (by omega)
                  rw [e1, e2, e3, madeA, if_neg h2, er, hj1]
                refine ⟨by decide, ?_⟩
                conv => whnf
                refine ⟨rfl, rfl, hn0, most_le (by rw [he]; simp; omega), ?_⟩
                conv => whnf
                refine cond_intro (by show (true && ((els.length + 1 == (els ++ [[int (IntKind.wrap .i64 ((IntKind.wrap .i64 (r * max (IntKind.wrap .i64 (1440 - IntKind.wrap .i64 (0 + jt.1))) 0)).tdiv 1440))]]).length) && true)) = true; simp) ?_
                conv => whnf
                have hcs : IntKind.wrap .i64 (cost + jt.2) = cost + costA s m bb a := by rw [hj2]; exact wr_eq (by omega)
                rw [← hma]
                exact ⟨(IntKind.wrap .i64 ((i : Int) + 1), els ++ [[int (madeA s 0 m bb a)]], els.length + 1, IntKind.wrap .i64 (cost + jt.2)), by kernel_rfl, ⟨i + 1, acc ++ [madeA s 0 m bb a], nx (by omega), by omega, by rw [he]; simp [hma], by simp, by simp; omega, by rw [← hb1]; simp, by simp only; rw [hcs, ← hb2]; omega, by simp only; rw [hcs]; omega, by simp only; rw [hcs]; omega⟩, by simp only; rw [nx (by omega)]; omega⟩
              · have h4 := of_decide_eq_true c4
                have hjob : jobF s bb a = (0, 0) := by rw [jobF, if_neg (by omega)]
                conv => whnf
                refine ⟨by omega, _, gz hr, ?_⟩
                conv => whnf
                have hj1 : (jobF s bb a).1 = 0 := by rw [hjob]
                have hj2 : costA s m bb a = 0 := by rw [hca, hjob]
                have hma : madeA s 0 m bb a = IntKind.wrap .i64 ((IntKind.wrap .i64 (r * max (IntKind.wrap .i64 (1440 - 0)) 0)).tdiv 1440) := by
                  have q := rate_max ⟨hr0, hr1⟩ (q := max (1440 - (0 + 0)) 0) (by omega)
                  have q2 := quo1440 q.1 q.2
                  have e1 : IntKind.wrap .i64 (1440 - 0) = 1440 - (0 + 0) := by exact (wr_eq (by omega)).trans (by omega)
                  have e2 : IntKind.wrap .i64 (r * max (1440 - (0 + 0)) 0) = r * max (1440 - (0 + 0)) 0 := wr_eq (by omega)
                  have e3 : IntKind.wrap .i64 ((r * max (1440 - (0 + 0)) 0).tdiv 1440) = (r * max (1440 - (0 + 0)) 0).tdiv 1440 := wr_eq (by omega)
                  rw [e1, e2, e3, madeA, if_neg h2, er, hj1]
                refine ⟨by decide, ?_⟩
                conv => whnf
                refine ⟨rfl, rfl, hn0, most_le (by rw [he]; simp; omega), ?_⟩
                conv => whnf
                refine cond_intro (by show (true && ((els.length + 1 == (els ++ [[int (IntKind.wrap .i64 ((IntKind.wrap .i64 (r * max (IntKind.wrap .i64 (1440 - 0)) 0)).tdiv 1440))]]).length) && true)) = true; simp) ?_
                conv => whnf
                have hcs : cost = cost + costA s m bb a := by rw [hj2]; omega
                rw [← hma]
                exact ⟨(IntKind.wrap .i64 ((i : Int) + 1), els ++ [[int (madeA s 0 m bb a)]], els.length + 1, cost), by kernel_rfl, ⟨i + 1, acc ++ [madeA s 0 m bb a], nx (by omega), by omega, by rw [he]; simp [hma], by simp, by simp; omega, by rw [← hb1]; simp, by simp only; rw [hcs, ← hb2]; omega, by simp only; rw [hcs]; omega, by simp only; rw [hcs]; omega⟩, by simp only; rw [nx (by omega)]; omega⟩
          · have h2 := of_decide_eq_true c2
            have hma : madeA s 0 m bb a = 0 := by rw [madeA, if_pos h2]
            have hca : costA s m bb a = M.idle := by rw [costA, if_pos h2]; simp [idleF, hM]
            have hcs : IntKind.wrap .i64 (cost + M.idle) = cost + costA s m bb a := by rw [hca, wr_eq (by omega)]
            have hmk := hMk.2.2.2.2
            conv => whnf
            refine ⟨rfl, rfl, hn0, most_le (by rw [he]; simp; omega), ?_⟩
            conv => whnf
            refine cond_intro (by show (true && ((els.length + 1 == (els ++ [[int 0]]).length) && true)) = true; simp) ?_
            conv => whnf
            exact ⟨(IntKind.wrap .i64 ((i : Int) + 1), els ++ [[int 0]], els.length + 1, IntKind.wrap .i64 (cost + M.idle)), by kernel_rfl, ⟨i + 1, acc ++ [madeA s 0 m bb a], nx (by omega), by omega, by rw [he]; simp [hma], by simp, by simp; omega, by rw [← hb1]; simp, by simp only; rw [hcs, ← hb2]; omega, by simp only; rw [hcs]; omega, by simp only; rw [hcs]; omega⟩, by simp only; rw [nx (by omega)]; omega⟩
end Go.Proofs.YtbkjfjlmhlmdbaaG

/- Lists that a frame's cells own: how they lie, and what an append turns. No condition. -/
set_option linter.unusedVariables false
set_option linter.unusedSimpArgs false
set_option maxRecDepth 100000
set_option maxHeartbeats 4000000
namespace Go.Proofs.YtbkjfjlmhlmdbaaG
open Go Go.AM Go.Proofs

def sel (j : Nat) (b0 b1 b2 : ABlk) : ABlk := match j with | 0 => b0 | 1 => b1 | _ => b2
/-- A cell holds nil, or the row in the slot with its number. -/
def CellR (q j : Nat) (x : List Int) (c : AC) (b : ABlk) : Prop := (x = [] ∧ c = .d (.v (.slice none 0 0)) ∧ b = .fresh) ∨ (c = .row (q + j) 0 x.length x.length ∧ b = .row 1 (x.map i1))
structure Out (q : Nat) (xs : List (List Int)) (cs : List AC) (b0 b1 b2 : ABlk) : Prop where
  len : cs.length = xs.length
  small : xs.length ≤ 3
  cells : ∀ (j : Nat) (x : List Int) (c : AC), xs[j]? = some x → cs[j]? = some c → CellR q j x c (sel j b0 b1 b2)

theorem Out.get {q : Nat} {xs : List (List Int)} {cs : List AC} {b0 b1 b2 : ABlk} (h : Out q xs cs b0 b1 b2) {j : Nat} {x : List Int} (hx : xs[j]? = some x) : ∃ c, cs[j]? = some c ∧ CellR q j x c (sel j b0 b1 b2) ∧ j < 3 := by
  have hj := (List.getElem?_eq_some_iff.1 hx).1
  have := h.len
  have := h.small
  obtain ⟨c, hc⟩ := get_lt (xs := cs) (i := j) (by omega)
  exact ⟨c, hc, h.cells j x c hx hc, by omega⟩

theorem CellR.scr {q j : Nat} {x : List Int} {c : AC} {b : ABlk} {ls : List Nat} (h : CellR q j x c b) (hq : q + j ∈ ls) : scrC ls c = c ∧ scrB ls b = b := by
  rcases h with ⟨_, rfl, rfl⟩ | ⟨rfl, rfl⟩
  · exact ⟨rfl, rfl⟩
  · refine ⟨?_, rfl⟩
    simp [scrC, onlyC, hq]

theorem Out.scr {q : Nat} {xs : List (List Int)} {cs : List AC} {b0 b1 b2 : ABlk} {ls : List Nat} (h : Out q xs cs b0 b1 b2) (h0 : q ∈ ls) (h1 : q + 1 ∈ ls) (h2 : q + 2 ∈ ls) : cs.map (scrC ls) = cs := by
  apply List.ext_getElem (by simp)
  intro j hj1 hj2
  have hl := h.len
  have hs := h.small
  obtain ⟨x, hx⟩ := get_lt (xs := xs) (i := j) (by omega)
  have := h.cells j x cs[j] hx (by simp [hj2])
  rw [List.getElem_map]
  have hq : q + j ∈ ls := by
    have : j = 0 ∨ j = 1 ∨ j = 2 := by omega
    rcases this with rfl | rfl | rfl <;> assumption
  exact (this.scr hq).1

theorem Out.start {q n : Nat} (h : n ≤ 3) : Out q (List.replicate n []) (List.replicate n (.d (.v (.slice none 0 0)))) .fresh .fresh .fresh := by
  refine ⟨by simp, by simpa using h, fun j x c hx hc => ?_⟩
  obtain ⟨hj, rfl⟩ := List.getElem?_eq_some_iff.1 hx
  obtain ⟨_, rfl⟩ := List.getElem?_eq_some_iff.1 hc
  left
  refine ⟨by simp, by simp, ?_⟩
  have : j = 0 ∨ j = 1 ∨ j = 2 := by simp at hj; omega
  rcases this with rfl | rfl | rfl <;> rfl

/-- One more at the end of a list. -/
theorem Out.put {q : Nat} {xs : List (List Int)} {cs : List AC} {b0 b1 b2 b0' b1' b2' : ABlk} (h : Out q xs cs b0 b1 b2) {j : Nat} {x : List Int} (hx : xs[j]? = some x) {v : Int}
    (hj : sel j b0' b1' b2' = .row 1 (x.map i1 ++ [[int v]])) (ho : ∀ i, i ≠ j → i < 3 → sel i b0' b1' b2' = sel i b0 b1 b2) :
    Out q (xs.set j (x ++ [v])) (cs.take j ++ [AC.row (q + j) 0 (x.length + 1) (x.length + 1)] ++ cs.drop (j + 1)) b0' b1' b2' := by
  have hjl := (List.getElem?_eq_some_iff.1 hx).1
  have hl := h.len
  have hs := h.small
  have e : cs.take j ++ [AC.row (q + j) 0 (x.length + 1) (x.length + 1)] ++ cs.drop (j + 1) = cs.set j (.row (q + j) 0 (x.length + 1) (x.length + 1)) := by
    rw [List.set_eq_take_append_cons_drop, if_pos (by omega)]; simp
  rw [e]
  refine ⟨by simpa using hl, by simpa using hs, fun i y c hy hc => ?_⟩
  by_cases hi : i = j
  · subst hi
    rw [List.getElem?_set_self (by omega)] at hy hc
    cases hy; cases hc
    right
    exact ⟨by simp, by rw [hj]; simp⟩
  · rw [List.getElem?_set_ne (Ne.symm hi)] at hy hc
    rw [ho i hi (by have := (List.getElem?_eq_some_iff.1 hy).1; omega)]
    exact h.cells i y c hy hc

/-- What a day adds to the lists of some machines. -/
def addRow : List (List Int) → List Int → List Int → List (List Int)
  | xs, m :: ms, v :: vs => addRow (xs.set m.toNat ((xs[m.toNat]?.getD []) ++ [v])) ms vs
  | xs, _, _ => xs
theorem addRow_len : ∀ (ms vs : List Int) (xs : List (List Int)), (addRow xs ms vs).length = xs.length
  | [], vs, xs => by unfold addRow; rfl
  | m :: ms, [], xs => by unfold addRow; rfl
  | m :: ms, v :: vs, xs => by unfold addRow; rw [addRow_len ms vs]; simp
/-- A day of a furnace. -/
def dayF (s : Season) (p : List (List Int)) (ms : List Int) (st : List (List Int) × Int) (d : Nat) : List (List Int) × Int :=
  (addRow st.1 ms (workedF s ms (onF s p ms ((d : Int) - 1)) (onF s p ms (d : Int))).1, st.2 + (workedF s ms (onF s p ms ((d : Int) - 1)) (onF s p ms (d : Int))).2)
def daysF (s : Season) (p : List (List Int)) (st : List (List Int) × Int) (k : Nat) : List (List Int) × Int := (List.range s.days.toNat).foldl (dayF s p (makersF s (k : Int))) st
def madeF (s : Season) (p : List (List Int)) : List (List Int) × Int := (List.range s.ovens.length).foldl (daysF s p) (List.replicate s.makers.length [], 0)
end Go.Proofs.YtbkjfjlmhlmdbaaG

/- What all machines make, row by row. No condition. -/
set_option linter.unusedVariables false
set_option linter.unusedSimpArgs false
set_option maxRecDepth 100000
set_option maxHeartbeats 4000000
namespace Go.Proofs.YtbkjfjlmhlmdbaaG
open Go Go.AM Go.Proofs

theorem mkFrom_get {k : Int} : ∀ {ms : List Mk} {i : Nat} {x : Int}, x ∈ mkFrom k ms i ↔ ∃ j M, ms[j]? = some M ∧ M.oven = k ∧ x = (i + j : Nat)
  | [], i, x => by simp [mkFrom]
  | m :: ms, i, x => by
    have ih := @mkFrom_get k ms (i + 1) x
    unfold mkFrom
    constructor
    · intro h
      split at h
      · rename_i ho
        rcases List.mem_cons.1 h with rfl | h
        · exact ⟨0, m, rfl, ho, by simp⟩
        · obtain ⟨j, M, h1, h2, h3⟩ := ih.1 h
          exact ⟨j + 1, M, h1, h2, by omega⟩
      · obtain ⟨j, M, h1, h2, h3⟩ := ih.1 h
        exact ⟨j + 1, M, h1, h2, by omega⟩
    · rintro ⟨j, M, h1, h2, h3⟩
      cases j with
      | zero =>
        simp at h1; subst h1
        rw [if_pos h2]; simp [h3]
      | succ j =>
        have := ih.2 ⟨j, M, by simpa using h1, h2, by omega⟩
        split
        · exact List.mem_cons_of_mem _ this
        · exact this
theorem mkFrom_nodup {k : Int} : ∀ {ms : List Mk} {i : Nat}, (mkFrom k ms i).Nodup
  | [], i => by simp [mkFrom]
  | m :: ms, i => by
    unfold mkFrom
    split
    · refine List.nodup_cons.2 ⟨fun h => ?_, mkFrom_nodup⟩
      have := mkFrom_mem h; omega
    · exact mkFrom_nodup
theorem makersF_iff {s : Season} {k x : Int} : x ∈ makersF s k ↔ ∃ (j : Nat) (M : Mk), s.makers[j]? = some M ∧ M.oven = k ∧ x = j := by
  unfold makersF; rw [mkFrom_get]; simp

theorem madeL_map (s : Season) (lost : Int) (f g : Int → Int) : ∀ (ms : List Int), madeL s lost ms (ms.map f) (ms.map g) = ms.map fun m => madeA s lost m (f m) (g m)
  | [] => rfl
  | m :: ms => by simp [madeL, madeL_map s lost f g ms]

/-- What a machine makes on a day. -/
def madeD (s : Season) (p : List (List Int)) (k : Int) (m : Int) (d : Nat) : Int :=
  madeA s (lostF s (onF s p (makersF s k) ((d : Int) - 1)) (onF s p (makersF s k) (d : Int))).1 m (onA s p ((d : Int) - 1) m) (onA s p (d : Int) m)

theorem addRow_get (f : Int → Int) : ∀ (ms : List Int) (xs : List (List Int)), ms.Nodup → (∀ m ∈ ms, 0 ≤ m ∧ m < xs.length) → ∀ (i : Nat) (x : List Int), xs[i]? = some x → (addRow xs ms (ms.map f))[i]? = some (if (i : Int) ∈ ms then x ++ [f i] else x)
  | [], xs, _, _, i, x, hx => by simp [addRow, hx]
  | m :: ms, xs, hn, hm, i, x, hx => by
    have hn' := List.nodup_cons.1 hn
    have hm0 := hm m (by simp)
    simp only [List.map_cons, addRow]
    obtain ⟨y, hy⟩ := get_lt (xs := xs) (i := m.toNat) (by omega)
    rw [hy, Option.getD_some]
    by_cases e : (i : Int) = m
    · have e2 : m.toNat = i := by omega
      have hyx : y = x := by rw [e2, hx] at hy; cases hy; rfl
      rw [addRow_get f ms _ hn'.2 (fun q hq => by have := hm q (by simp [hq]); simpa using this) i (y ++ [f m]) (by rw [e2]; exact List.getElem?_set_self (by omega))]
      rw [if_neg (e ▸ hn'.1), if_pos (by simp [e]), hyx, e]
    · rw [addRow_get f ms _ hn'.2 (fun q hq => by have := hm q (by simp [hq]); simpa using this) i x (by rw [List.getElem?_set_ne (by omega)]; exact hx)]
      have : ((i : Int) ∈ m :: ms) ↔ (i : Int) ∈ ms := by simp [e]
      simp [this]

theorem dayF_get {s : Season} {p : List (List Int)} {k : Int} {xs : List (List Int)} {c : Int} (hl : xs.length = s.makers.length) (d i : Nat) (x : List Int) (hx : xs[i]? = some x) :
    (dayF s p (makersF s k) (xs, c) d).1[i]? = some (if (i : Int) ∈ makersF s k then x ++ [madeD s p k i d] else x) := by
  have h1 : (workedF s (makersF s k) (onF s p (makersF s k) ((d : Int) - 1)) (onF s p (makersF s k) (d : Int))).1 = (makersF s k).map fun m => madeD s p k m d := by
    unfold workedF
    simp only
    unfold onF
    rw [madeL_map]
    rfl
  unfold dayF
  simp only
  rw [h1]
  exact addRow_get _ _ _ mkFrom_nodup (fun m hm => by have := makersF_mem hm; omega) i x hx
theorem dayF_len {s : Season} {p : List (List Int)} {ms : List Int} {st : List (List Int) × Int} {d : Nat} : (dayF s p ms st d).1.length = st.1.length := by unfold dayF; exact addRow_len _ _ _

theorem days_get {s : Season} {p : List (List Int)} {k : Int} : ∀ (ds : List Nat) (st : List (List Int) × Int), st.1.length = s.makers.length → ∀ (i : Nat) (x : List Int), st.1[i]? = some x →
    (ds.foldl (dayF s p (makersF s k)) st).1[i]? = some (if (i : Int) ∈ makersF s k then x ++ ds.map (madeD s p k i) else x) ∧ (ds.foldl (dayF s p (makersF s k)) st).1.length = s.makers.length
  | [], st, hl, i, x, hx => by simp [hx, hl]
  | d :: ds, ⟨xs, c⟩, hl, i, x, hx => by
    have h1 := dayF_get (p := p) (k := k) (c := c) hl d i x hx
    have h2 := days_get (p := p) (k := k) ds (dayF s p (makersF s k) (xs, c) d) (dayF_len.trans hl) i _ h1
    rw [List.foldl_cons]
    refine ⟨?_, h2.2⟩
    rw [h2.1]
    split <;> simp

/-- What a machine makes, day by day. -/
def rowM (s : Season) (p : List (List Int)) (k : Int) (i : Nat) : List Int := (List.range s.days.toNat).map (madeD s p k (i : Int))
theorem ovens_get {s : Season} {p : List (List Int)} {i : Nat} {M : Mk} (hM : s.makers[i]? = some M) : ∀ (ks : List Nat), ks.Nodup → ∀ (st : List (List Int) × Int), st.1.length = s.makers.length → ∀ x, st.1[i]? = some x →
    (ks.foldl (daysF s p) st).1[i]? = some (x ++ if M.oven ∈ ks.map (fun (k : Nat) => (k : Int)) then rowM s p M.oven i else []) ∧ (ks.foldl (daysF s p) st).1.length = s.makers.length
  | [], _, st, hl, x, hx => by simp [hx, hl]
  | k :: ks, hn, st, hl, x, hx => by
    have hn' := List.nodup_cons.1 hn
    have h1 := days_get (p := p) (k := (k : Int)) (List.range s.days.toNat) st hl i x hx
    have hk : ((i : Int) ∈ makersF s (k : Int)) ↔ M.oven = (k : Int) := by
      rw [makersF_iff]
      constructor
      · rintro ⟨j, M', h2, h3, h4⟩
        have : j = i := by omega
        subst this; rw [hM] at h2; cases h2; exact h3
      · intro h2; exact ⟨i, M, hM, h2, rfl⟩
    have h2 := ovens_get (p := p) hM ks hn'.2 (daysF s p st k) h1.2 _ h1.1
    rw [List.foldl_cons]
    refine ⟨?_, h2.2⟩
    rw [h2.1]
    by_cases e : M.oven = (k : Int)
    · have h3 : ¬ M.oven ∈ ks.map (fun (k : Nat) => (k : Int)) := fun h => by
        obtain ⟨q, hq, e2⟩ := List.mem_map.1 h
        have : q = k := by omega
        exact hn'.1 (this ▸ hq)
      rw [if_pos (hk.2 e), if_neg h3, if_pos (by simp [e])]
      simp [rowM, e]
    · rw [if_neg (fun h => e (hk.1 h))]
      congr 2
      simp [e]

theorem madeF_get {s : Season} (h : Fr s) (p : List (List Int)) : (madeF s p).1.length = s.makers.length ∧ ∀ i M, s.makers[i]? = some M → (madeF s p).1[i]? = some (rowM s p M.oven i) := by
  have key : ∀ i M, s.makers[i]? = some M → (madeF s p).1[i]? = some (rowM s p M.oven i) ∧ (madeF s p).1.length = s.makers.length := fun i M hM => by
    have hi := (List.getElem?_eq_some_iff.1 hM).1
    have hk := h.maker M (List.mem_of_getElem? hM)
    have := ovens_get (p := p) hM (List.range s.ovens.length) List.nodup_range (List.replicate s.makers.length [], 0) (by simp) [] (by simp [hi])
    have hin : M.oven ∈ (List.range s.ovens.length).map (fun (k : Nat) => (k : Int)) := List.mem_map.2 ⟨M.oven.toNat, List.mem_range.2 (by omega), by omega⟩
    rw [if_pos hin] at this
    simpa [madeF] using this
  refine ⟨?_, fun i M hM => (key i M hM).1⟩
  by_cases hz : s.makers.length = 0
  · have len : ∀ (ks : List Nat) (st : List (List Int) × Int), (ks.foldl (daysF s p) st).1.length = st.1.length := fun ks => by
      induction ks with
      | nil => intro st; rfl
      | cons k ks ih =>
        intro st
        rw [List.foldl_cons, ih]
        unfold daysF
        have : ∀ (ds : List Nat) (st : List (List Int) × Int), (ds.foldl (dayF s p (makersF s (k : Int))) st).1.length = st.1.length := fun ds => by
          induction ds with
          | nil => intro st; rfl
          | cons d ds ih2 => intro st; rw [List.foldl_cons, ih2]; exact dayF_len
        exact this _ _
    unfold madeF; rw [len]; simp
  · obtain ⟨M, hM⟩ := get_lt (xs := s.makers) (i := 0) (by omega)
    exact (key 0 M hM).2
end Go.Proofs.YtbkjfjlmhlmdbaaG

/- What all machines make on all days. No condition. -/
set_option linter.unusedVariables false
set_option linter.unusedSimpArgs false
set_option maxRecDepth 100000
set_option maxHeartbeats 4000000
namespace Go.Proofs.YtbkjfjlmhlmdbaaG
open Go Go.AM Go.Proofs

theorem Out.scrAll {q : Nat} {xs : List (List Int)} {cs : List AC} {b0 b1 b2 : ABlk} {ls : List Nat} (h : Out q xs cs b0 b1 b2) (h0 : q ∈ ls) (h1 : q + 1 ∈ ls) (h2 : q + 2 ∈ ls) : Out q xs (cs.map (scrC ls)) (scrB ls b0) (scrB ls b1) (scrB ls b2) := by
  rw [h.scr h0 h1 h2]
  refine ⟨h.len, h.small, fun j x c hx hc => ?_⟩
  have hc2 := h.cells j x c hx hc
  have hj := (List.getElem?_eq_some_iff.1 hx).1
  have hs := h.small
  have hj3 : j = 0 ∨ j = 1 ∨ j = 2 := by omega
  have hq : q + j ∈ ls := by rcases hj3 with rfl | rfl | rfl <;> assumption
  have e : sel j (scrB ls b0) (scrB ls b1) (scrB ls b2) = scrB ls (sel j b0 b1 b2) := by rcases hj3 with rfl | rfl | rfl <;> rfl
  rw [e, (hc2.scr hq).2]; exact hc2
theorem sel0 {b0 b1 b2 b : ABlk} : ∀ i, i ≠ 0 → i < 3 → sel i b b1 b2 = sel i b0 b1 b2 := fun i h1 h2 => by
  have : i = 1 ∨ i = 2 := by omega
  rcases this with rfl | rfl <;> rfl
theorem sel1 {b0 b1 b2 b : ABlk} : ∀ i, i ≠ 1 → i < 3 → sel i b0 b b2 = sel i b0 b1 b2 := fun i h1 h2 => by
  have : i = 0 ∨ i = 2 := by omega
  rcases this with rfl | rfl <;> rfl
theorem sel2 {b0 b1 b2 b : ABlk} : ∀ i, i ≠ 2 → i < 3 → sel i b0 b1 b = sel i b0 b1 b2 := fun i h1 h2 => by
  have : i = 0 ∨ i = 1 := by omega
  rcases this with rfl | rfl <;> rfl
theorem madeL_len (s : Season) (lost : Int) : ∀ {ms b n : List Int}, ms.length = b.length → ms.length = n.length → (madeL s lost ms b n).length = ms.length
  | [], b, n, _, _ => by simp [madeL]
  | m :: ms, b :: bs, a :: r, h1, h2 => by
    simp only [madeL, List.length_cons]
    rw [madeL_len s lost (by simpa using h1) (by simpa using h2)]
  | _ :: _, [], _, h1, _ => by simp at h1
  | _ :: _, _ :: _, [], _, h2 => by simp at h2

theorem mapM_some {α β : Type} {f : α → Option β} {g : α → β} : ∀ {l : List α}, (∀ c ∈ l, f c = some (g c)) → l.mapM f = some (l.map g)
  | [], _ => rfl
  | c :: l, h => by
    have ih := mapM_some (f := f) (g := g) (l := l) (fun x hx => h x (List.mem_cons_of_mem _ hx))
    simp [List.mapM_cons, h c (by simp), ih]
theorem Out.snap {q : Nat} {xs : List (List Int)} {cs : List AC} {b0 b1 b2 : ABlk} (h : Out q xs cs b0 b1 b2) {b : Nat → ABlk} (e0 : b q = b0) (e1 : b (q + 1) = b1) (e2 : b (q + 2) = b2) (hne : ∀ x ∈ xs, x ≠ []) : cs.mapM (Go.AM.snap b 3) = some (xs.map rowD) := by
  have each : ∀ (j : Nat) (x : List Int) (c : AC), xs[j]? = some x → cs[j]? = some c → Go.AM.snap b 3 c = some (rowD x) := fun j x c hx hc => by
    have hs := h.small
    have hj := (List.getElem?_eq_some_iff.1 hx).1
    have hsel : sel j b0 b1 b2 = b (q + j) := by
      have : j = 0 ∨ j = 1 ∨ j = 2 := by omega
      rcases this with rfl | rfl | rfl
      · exact e0.symm
      · exact e1.symm
      · exact e2.symm
    rcases h.cells j x c hx hc with ⟨e, _, _⟩ | ⟨rfl, hb⟩
    · exact absurd e (hne x (List.mem_of_getElem? hx))
    · rw [hsel] at hb
      simp [Go.AM.snap, hb, List.take_of_length_le]
  have hl := h.len
  rw [mapM_some (g := fun c => (Go.AM.snap b 3 c).getD default) (fun c hc => by
    obtain ⟨j, hj, rfl⟩ := List.mem_iff_getElem.1 hc
    obtain ⟨x, hx⟩ := get_lt (xs := xs) (i := j) (by omega)
    rw [each j x _ hx (by simp [hj])]; rfl)]
  congr 1
  apply List.ext_getElem (by simp [hl])
  intro j h1 h2
  have hj : j < cs.length := by simpa using h1
  obtain ⟨x, hx⟩ := get_lt (xs := xs) (i := j) (by omega)
  have hxj : xs[j]'(by omega) = x := (List.getElem?_eq_some_iff.1 hx).2
  simp only [List.getElem_map, hxj]
  rw [each j x _ hx (by simp [hj])]; rfl
theorem res_out {q v n : Nat} {xs : List (List Int)} {cs : List AC} {b0 b1 b2 : ABlk} (h : Out q xs cs b0 b1 b2) (hn : n = xs.length) {cost : Int} {σ : St} {i j : Nat} (t4 : σ.t i = .vs v 0 n) (t5 : σ.t j = .d (int cost)) (ev : σ.b v = .var cs) (e0 : σ.b q = b0) (e1 : σ.b (q + 1) = b1) (e2 : σ.b (q + 2) = b2)
    (hne : ∀ x ∈ xs, x ≠ []) : resA [.t i, .t j] σ = some (.tup [planD xs, int cost]) := by
  have hl := h.len
  have h1 : [RV.t i, RV.t j].mapM (readRV σ) = some [σ.t i, σ.t j] := rfl
  have h2 : Go.AM.snap σ.b 4 (σ.t i) = some (planD xs) := by
    rw [t4]
    show (match σ.b v with | .var cs => if 0 + n ≤ cs.length then (((cs.drop 0).take n).mapM (Go.AM.snap σ.b 3)).map (fun (ds : List D) => D.list (ds.map fun d => [d])) else none | _ => none) = _
    rw [ev]
    simp only
    rw [if_pos (by omega), List.drop_zero, List.take_of_length_le (by omega), h.snap e0 e1 e2 hne]
    simp
  have h3 : Go.AM.snap σ.b 4 (σ.t j) = some (int cost) := by rw [t5]; rfl
  unfold resA
  rw [h1]
  show ([σ.t i, σ.t j].mapM (Go.AM.snap σ.b 4)).map D.tup = _
  rw [mapM2 h2 h3]; rfl
theorem costL_le {s : Season} (h : Fr s) : ∀ {ms b n : List Int}, (∀ m ∈ ms, 0 ≤ m ∧ m < s.makers.length) → Arts s b → Arts s n → 0 ≤ costL s ms b n ∧ costL s ms b n ≤ 1000000 * ms.length
  | [], b, n, _, _, _ => by simp [costL]
  | _ :: _, [], _, _, _, _ => by simp [costL]; omega
  | _ :: _, _ :: _, [], _, _, _ => by simp [costL]; omega
  | m :: ms, b :: bs, a :: r, hm, hb, ha => by
    have ih := costL_le h (ms := ms) (b := bs) (n := r) (fun x hx => hm x (by simp [hx])) (fun x hx => hb x (by simp [hx])) (fun x hx => ha x (by simp [hx]))
    have h1 : 0 ≤ costA s m b a ∧ costA s m b a ≤ 1000000 := by
      unfold costA
      split
      · obtain ⟨M, hM⟩ := get_lt (xs := s.makers) (i := m.toNat) (by have := hm m (by simp); omega)
        have := h.maker M (List.mem_of_getElem? hM)
        simp [idleF, hM]; omega
      · have := jobF_le h (hb b (by simp)).2 ⟨by omega, (ha a (by simp)).2⟩
        omega
    simp only [costL, List.length_cons]
    omega
theorem worked_le {s : Season} (h : Fr s) {ms b n : List Int} (hb : Row s ms b) (hn : Row s ms n) : 0 ≤ (workedF s ms b n).2 ∧ (workedF s ms b n).2 ≤ 11000000 := by
  have h1 := costL_le h hb.ms hb.arts hn.arts
  have h2 := lostF_le h hb.arts hn.arts
  have := hb.len
  have := hb.small
  unfold workedF
  simp only
  omega

theorem made_ok (s : Season) (h : Fr s) (h3 : s.makers.length ≤ 3) (p : List (List Int)) (hp : POk s p) : PureFn Try.prog 17 [seasonD s, planD p] (.tup [planD (madeF s p).1, int (madeF s p).2]) := by
  have hno := h.no
  have hdy := h.days
  obtain ⟨FO, hFO⟩ : ∃ FO, madeF s p = FO := ⟨_, rfl⟩
  rw [hFO]
  refine pureFn_by Try.func17 k17 rfl rfl ?_
  conv => whnf
  refine ⟨by omega, by rw [List.length_map]; unfold most; omega, ?_⟩
  conv => whnf
  refine loopB (fun (x : Int × Int × List AC × ABlk × ABlk × ABlk) => ⟨mkT [(1, .d (planD p)), (2, .d (.fptr (cellsS s))), (6, .vs 2 0 ((((s.makers.map mkL).length : Nat) : Int).toNat)), (7, .d (int x.2.1)), (20, .d (int (s.ovens.map i2).length)), (21, .d (int x.1))], mkB [(2, .var x.2.2.1), (3, x.2.2.2.1), (4, x.2.2.2.2.1), (5, x.2.2.2.2.2)]⟩)
    (fun x => ∃ (k : Nat) (xs : List (List Int)), x.1 = k ∧ k ≤ s.ovens.length ∧ Out 3 xs x.2.2.1 x.2.2.2.1 x.2.2.2.2.1 x.2.2.2.2.2 ∧ ((List.range s.ovens.length).drop k).foldl (daysF s p) (xs, x.2.1) = FO ∧ xs.length = s.makers.length ∧ (∀ y ∈ xs, y.length ≤ 140 * k) ∧ 0 ≤ x.2.1 ∧ x.2.1 ≤ 154000000 * k) (fun x => (s.ovens.length - x.1).toNat)
    (0, 0, (List.replicate ((((s.makers.map mkL).length : Nat) : Int).toNat) (zC .sl)).map (scrC [2, 3, 4, 5]), .fresh, .fresh, .fresh) (by kernel_rfl) ⟨0, List.replicate s.makers.length [], rfl, by omega, ?_, hFO, by simp, fun y hy => by simp [List.eq_of_mem_replicate hy], by simp, by simp⟩ ?_
  · have o := (Out.start (q := 3) h3).scrAll (ls := [2, 3, 4, 5]) (by simp) (by simp) (by simp)
    have e : ((((s.makers.map mkL).length : Nat) : Int).toNat) = s.makers.length := by simp
    rw [e]; exact o
  rintro ⟨_, cost, cs, b0, b1, b2⟩ ⟨k, xs, rfl, hk, out, hfo, hxl, hbnd, hc0, hc1⟩
  simp only at out hfo hxl hbnd hc0 hc1
  conv => whnf
  cases c1 : decide ((k : Int) < ((s.ovens.map i2).length : Int))
  · have hk' : k = s.ovens.length := by have := of_decide_eq_false c1; rw [List.length_map] at this; omega
    rw [List.drop_of_length_le (by simp [hk'])] at hfo
    have hfo : (xs, cost) = FO := hfo
    conv => whnf
    have hne : ∀ x ∈ xs, x ≠ [] := fun x hx => by
      obtain ⟨j, hj, rfl⟩ := List.mem_iff_getElem.1 hx
      obtain ⟨M, hM⟩ := get_lt (xs := s.makers) (i := j) (by omega)
      have h1 := (madeF_get h p).2 j M hM
      rw [hFO, ← hfo] at h1
      have h2 : xs[j] = rowM s p M.oven j := by
        obtain ⟨_, e⟩ := List.getElem?_eq_some_iff.1 h1; exact e
      rw [h2]
      intro e
      have := congrArg List.length e
      simp [rowM] at this
      omega
    rw [← hfo]
    exact res_out (q := 3) (v := 2) out (by simp [hxl]) rfl rfl rfl rfl rfl rfl hne
  · have hk' : k < s.ovens.length := by have := of_decide_eq_true c1; rw [List.length_map] at this; omega
    rw [drop_at (List.getElem?_range hk'), List.foldl_cons] at hfo
    have mk := makers_ok s h.sm (k : Int)
    have hml := Nat.le_trans (makersF_len s (k : Int)) h3
    obtain ⟨ms, hms⟩ : ∃ ms, makersF s (k : Int) = ms := ⟨_, rfl⟩
    have hmm : ∀ m ∈ ms, 0 ≤ m ∧ m < s.makers.length := fun m hm => makersF_mem (hms ▸ hm)
    rw [hms] at mk hml
    obtain ⟨FD, hFD⟩ : ∃ FD, (List.range s.days.toNat).foldl (dayF s p ms) (xs, cost) = FD := ⟨_, rfl⟩
    have hds : daysF s p (xs, cost) k = FD := by unfold daysF; rw [hms]; exact hFD
    rw [hds] at hfo
    conv => whnf
    refine ⟨_, mk, ?_⟩
    conv => whnf
    refine loopB (fun (x : Int × Int × List AC × ABlk × ABlk × ABlk) => ⟨mkT [(1, .d (planD p)), (2, .d (.fptr (cellsS s))), (6, .vs 2 0 ((((s.makers.map mkL).length : Nat) : Int).toNat)), (7, .d (int x.2.1)), (9, .d (rowD ms)), (20, .d (int (s.ovens.map i2).length)), (21, .d (int (k : Int))), (28, .d (int s.days)), (29, .d (int x.1))], mkB [(2, .var x.2.2.1), (3, x.2.2.2.1), (4, x.2.2.2.2.1), (5, x.2.2.2.2.2)]⟩)
      (fun x => ∃ (d : Nat) (xs : List (List Int)), x.1 = d ∧ (d : Int) ≤ s.days ∧ Out 3 xs x.2.2.1 x.2.2.2.1 x.2.2.2.2.1 x.2.2.2.2.2 ∧ ((List.range s.days.toNat).drop d).foldl (dayF s p ms) (xs, x.2.1) = FD ∧ xs.length = s.makers.length ∧ (∀ y ∈ xs, y.length ≤ 140 * k + 10 * d) ∧ 0 ≤ x.2.1 ∧ x.2.1 ≤ 154000000 * k + 11000000 * d) (fun x => (s.days - x.1).toNat)
      (0, cost, cs.map (scrC [2, 3, 4, 5]), scrB [2, 3, 4, 5] b0, scrB [2, 3, 4, 5] b1, scrB [2, 3, 4, 5] b2) (by kernel_rfl) ⟨0, xs, rfl, by omega, out.scrAll (by simp) (by simp) (by simp), hFD, hxl, fun y hy => by have := hbnd y hy; omega, hc0, by simp only; omega⟩ ?_
    rintro ⟨_, cost, cs, b0, b1, b2⟩ ⟨d, xs, rfl, hd, out, hf, hxl, hbnd, hc0, hc1⟩
    simp only at out hf hxl hbnd hc0 hc1
    conv => whnf
    cases c2 : decide ((d : Int) < s.days)
    · have hd' : s.days.toNat ≤ d := by have := of_decide_eq_false c2; omega
      rw [List.drop_of_length_le (by simpa using hd')] at hf
      have hf : (xs, cost) = FD := hf
      rw [← hf] at hfo
      conv => whnf
      exact ⟨(IntKind.wrap .i64 ((k : Int) + 1), cost, cs.map (scrC [2, 3, 4, 5]), scrB [2, 3, 4, 5] b0, scrB [2, 3, 4, 5] b1, scrB [2, 3, 4, 5] b2), by kernel_rfl, ⟨k + 1, xs, nx (by omega), by omega, out.scrAll (by simp) (by simp) (by simp), hfo, hxl, fun y hy => by have := hbnd y hy; omega, hc0, by simp only; omega⟩, by simp only; rw [nx (by omega)]; omega⟩
    · have hd' := of_decide_eq_true c2
      rw [drop_at (List.getElem?_range (show d < s.days.toNat by omega)), List.foldl_cons] at hf
      have on1 := on_ok s h p hp ms hmm (by omega) ((d : Int) - 1) (by omega)
      have on2 := on_ok s h p hp ms hmm (by omega) (d : Int) hd'
      have r1 := onF_row h hp hmm (by omega) (show (d : Int) - 1 < s.days by omega)
      have r2 := onF_row h hp hmm (by omega) hd'
      have wk := worked_ok s h ms _ _ r1 r2
      have wle := worked_le h r1 r2
      obtain ⟨⟨W, wc⟩, hW⟩ : ∃ w, workedF s ms (onF s p ms ((d : Int) - 1)) (onF s p ms (d : Int)) = w := ⟨_, rfl⟩
      have hWl : W.length = ms.length := by
        have := congrArg (fun w => w.1.length) hW
        simp only [workedF] at this
        rw [← this]
        exact madeL_len s _ r1.len r2.len
      have hdf : dayF s p ms (xs, cost) d = (addRow xs ms W, cost + wc) := by unfold dayF; rw [hW]
      rw [hdf] at hf
      rw [hW] at wk wle
      simp only at wk wle
      have hw1 : IntKind.wrap .i64 ((d : Int) - 1) = (d : Int) - 1 := wr_eq (by omega)
      rw [← hw1] at on1
      have hwc : IntKind.wrap .i64 (cost + wc) = cost + wc := wr_eq (by omega)
      obtain ⟨XS, hXS⟩ : ∃ XS, addRow xs ms W = XS := ⟨_, rfl⟩
      rw [hXS] at hf
      obtain ⟨B0, hB0⟩ : ∃ B0, 140 * k + 10 * d = B0 := ⟨_, rfl⟩
      rw [hB0] at hbnd
      rw [← hw1] at wk
      conv => whnf
      refine ⟨_, on1, ?_⟩
      conv => whnf
      refine ⟨_, on2, ?_⟩
      conv => whnf
      refine ⟨_, wk, ?_⟩
      conv => whnf
      refine loopB (fun (x : Int × List AC × ABlk × ABlk × ABlk) => ⟨mkT [(1, .d (planD p)), (2, .d (.fptr (cellsS s))), (6, .vs 2 0 ((((s.makers.map mkL).length : Nat) : Int).toNat)), (7, .d (int (IntKind.wrap .i64 (cost + wc)))), (9, .d (rowD ms)), (11, .ptr 1 0), (20, .d (int (s.ovens.map i2).length)), (21, .d (int (k : Int))), (28, .d (int s.days)), (29, .d (int (d : Int))), (50, .d (rowD ms)), (51, .d (int (ms.map i1).length)), (52, .d (int x.1))], mkB [(1, .var [.d (rowD W), .d (int wc)]), (2, .var x.2.1), (3, x.2.2.1), (4, x.2.2.2.1), (5, x.2.2.2.2)]⟩)
        (fun x => ∃ (i : Nat) (xs : List (List Int)), x.1 = i ∧ i ≤ ms.length ∧ Out 3 xs x.2.1 x.2.2.1 x.2.2.2.1 x.2.2.2.2 ∧ addRow xs (ms.drop i) (W.drop i) = XS ∧ xs.length = s.makers.length ∧ ∀ y ∈ xs, y.length ≤ B0 + i) (fun x => (ms.length - x.1).toNat)
        (0, cs.map (scrC [1, 2, 3, 4, 5]), scrB [1, 2, 3, 4, 5] b0, scrB [1, 2, 3, 4, 5] b1, scrB [1, 2, 3, 4, 5] b2) (by kernel_rfl) ⟨0, xs, rfl, by omega, out.scrAll (by simp) (by simp) (by simp), hXS, hxl, hbnd⟩ ?_
      rintro ⟨_, cs, b0, b1, b2⟩ ⟨i, xs, rfl, hi, out, hadd, hxl, hbnd⟩
      simp only at out hadd hxl hbnd
      conv => whnf
      cases c3 : decide ((i : Int) < ((ms.map i1).length : Int))
      · have hi' : i = ms.length := by have := of_decide_eq_false c3; rw [List.length_map] at this; omega
        rw [hi', drop_end] at hadd
        have hadd : xs = XS := by unfold addRow at hadd; exact hadd
        subst hadd
        conv => whnf
        exact ⟨(IntKind.wrap .i64 ((d : Int) + 1), IntKind.wrap .i64 (cost + wc), cs.map (scrC [2, 3, 4, 5]), scrB [2, 3, 4, 5] b0, scrB [2, 3, 4, 5] b1, scrB [2, 3, 4, 5] b2), by kernel_rfl, ⟨d + 1, xs, nx (by omega), by omega, out.scrAll (by simp) (by simp) (by simp), by simp only; rw [hwc]; exact hf, hxl, fun y hy => by have := hbnd y hy; omega, by simp only; rw [hwc]; omega, by simp only; rw [hwc]; omega⟩, by simp only; rw [nx (by omega)]; omega⟩
      · have hi' : i < ms.length := by have := of_decide_eq_true c3; rw [List.length_map] at this; omega
        obtain ⟨m, hy⟩ := get_lt hi'
        obtain ⟨v, hv⟩ := get_lt (xs := W) (i := i) (by omega)
        have hm := hmm m (List.mem_of_getElem? hy)
        obtain ⟨x, hxm⟩ := get_lt (xs := xs) (i := m.toNat) (by omega)
        obtain ⟨c, hc, hcell, hm3⟩ := out.get hxm
        have hxb := hbnd x (List.mem_of_getElem? hxm)
        rw [drop_at hy, drop_at hv, addRow, hxm] at hadd
        have hbound : ∀ y ∈ xs.set m.toNat (x ++ [v]), y.length ≤ B0 + (i + 1) := fun y hy => by
          rcases List.mem_or_eq_of_mem_set hy with h | rfl
          · have := hbnd y h; omega
          · simp; omega
        conv => whnf
        refine ⟨by omega, _, gm hy, ?_⟩
        have hm012 : m = 0 ∨ m = 1 ∨ m = 2 := by omega
        rcases hm012 with hm0 | hm0 | hm0
        · rcases hcell with hcell | hcell
          · obtain rfl : m = 0 := by omega
            obtain ⟨tl, rfl⟩ : ∃ tl, cs = c :: tl := by
              cases cs with
              | nil => simp at hc
              | cons y tl => exact ⟨tl, by simp at hc; rw [hc]⟩
            obtain ⟨rfl, rfl, hbj⟩ := hcell
            have hbj : b0 = _ := hbj
            subst hbj
            conv => whnf
            refine ⟨by omega, by rw [List.length_map]; omega, ?_⟩
            conv => whnf
            refine ⟨by omega, _, gm hv, ?_⟩
            conv => whnf
            refine ⟨3, by simp, rfl, most_le (by simp), ?_⟩
            conv => whnf
            refine ⟨by omega, by rw [List.length_map]; omega, ?_⟩
            conv => whnf
            refine ⟨(IntKind.wrap .i64 ((i : Int) + 1), (.row 3 0 (([[int v]] : List (List D)).length) (([[int v]] : List (List D)).length) :: tl).map (scrC [1, 2, 3, 4, 5]), scrB [1, 2, 3, 4, 5] (.row 1 [[int v]]), scrB [1, 2, 3, 4, 5] b1, scrB [1, 2, 3, 4, 5] b2), by kernel_rfl, ⟨i + 1, _, nx (by omega), by omega, (Out.put (q := 3) (b0' := (.row 1 [[int v]])) (b1' := b1) (b2' := b2) out hxm (v := v) (by simp [sel]) sel0).scrAll (by simp) (by simp) (by simp), by simpa using hadd, by simpa using hxl, hbound⟩, by simp only; rw [nx (by omega)]; omega⟩
          · obtain rfl : m = 0 := by omega
            obtain ⟨tl, rfl⟩ : ∃ tl, cs = c :: tl := by
              cases cs with
              | nil => simp at hc
              | cons y tl => exact ⟨tl, by simp at hc; rw [hc]⟩
            obtain ⟨rfl, hbj⟩ := hcell
            have hbj : b0 = _ := hbj
            subst hbj
            conv => whnf
            refine ⟨by omega, by rw [List.length_map]; omega, ?_⟩
            conv => whnf
            refine ⟨by omega, _, gm hv, ?_⟩
            conv => whnf
            refine ⟨3, by simp, rfl, rfl, by simp, most_le (by simp; omega), ?_⟩
            conv => whnf
            refine ⟨by omega, by rw [List.length_map]; omega, ?_⟩
            conv => whnf
            refine cond_intro (by show (true && ((((x.map i1).length + 1) == (x.map i1 ++ [[int v]]).length) && true)) = true; simp) ?_
            conv => whnf
            refine ⟨(IntKind.wrap .i64 ((i : Int) + 1), (.row 3 0 ((x.map i1).length + 1) ((x.map i1).length + 1) :: tl).map (scrC [1, 2, 3, 4, 5]), scrB [1, 2, 3, 4, 5] (.row 1 (x.map i1 ++ [[int v]])), scrB [1, 2, 3, 4, 5] b1, scrB [1, 2, 3, 4, 5] b2), by kernel_rfl, ⟨i + 1, _, nx (by omega), by omega, (by simp only [List.length_map]; exact (Out.put (q := 3) (b0' := (.row 1 (x.map i1 ++ [[int v]]))) (b1' := b1) (b2' := b2) out hxm (v := v) (by simp [sel]) sel0).scrAll (by simp) (by simp) (by simp)), by simpa using hadd, by simpa using hxl, hbound⟩, by simp only; rw [nx (by omega)]; omega⟩
        · rcases hcell with hcell | hcell
          · obtain rfl : m = 1 := by omega
            obtain ⟨c0, tl, rfl⟩ : ∃ c0 tl, cs = c0 :: c :: tl := by
              match cs, hc with
              | c0 :: y :: tl, hc => exact ⟨c0, tl, by simp at hc; rw [hc]⟩
            obtain ⟨rfl, rfl, hbj⟩ := hcell
            have hbj : b1 = _ := hbj
            subst hbj
            conv => whnf
            refine ⟨by omega, by rw [List.length_map]; omega, ?_⟩
            conv => whnf
            refine ⟨by omega, _, gm hv, ?_⟩
            conv => whnf
            refine ⟨4, by simp, rfl, most_le (by simp), ?_⟩
            conv => whnf
            refine ⟨by omega, by rw [List.length_map]; omega, ?_⟩
            conv => whnf
            refine ⟨(IntKind.wrap .i64 ((i : Int) + 1), (c0 :: .row 4 0 (([[int v]] : List (List D)).length) (([[int v]] : List (List D)).length) :: tl).map (scrC [1, 2, 3, 4, 5]), scrB [1, 2, 3, 4, 5] b0, scrB [1, 2, 3, 4, 5] (.row 1 [[int v]]), scrB [1, 2, 3, 4, 5] b2), by kernel_rfl, ⟨i + 1, _, nx (by omega), by omega, (Out.put (q := 3) (b0' := b0) (b1' := (.row 1 [[int v]])) (b2' := b2) out hxm (v := v) (by simp [sel]) sel1).scrAll (by simp) (by simp) (by simp), by simpa using hadd, by simpa using hxl, hbound⟩, by simp only; rw [nx (by omega)]; omega⟩
          · obtain rfl : m = 1 := by omega
            obtain ⟨c0, tl, rfl⟩ : ∃ c0 tl, cs = c0 :: c :: tl := by
              match cs, hc with
              | c0 :: y :: tl, hc => exact ⟨c0, tl, by simp at hc; rw [hc]⟩
            obtain ⟨rfl, hbj⟩ := hcell
            have hbj : b1 = _ := hbj
            subst hbj
            conv => whnf
            refine ⟨by omega, by rw [List.length_map]; omega, ?_⟩
            conv => whnf
            refine ⟨by omega, _, gm hv, ?_⟩
            conv => whnf
            refine ⟨4, by simp, rfl, rfl, by simp, most_le (by simp; omega), ?_⟩
            conv => whnf
            refine ⟨by omega, by rw [List.length_map]; omega, ?_⟩
            conv => whnf
            refine cond_intro (by show (true && ((((x.map i1).length + 1) == (x.map i1 ++ [[int v]]).length) && true)) = true; simp) ?_
            conv => whnf
            refine ⟨(IntKind.wrap .i64 ((i : Int) + 1), (c0 :: .row 4 0 ((x.map i1).length + 1) ((x.map i1).length + 1) :: tl).map (scrC [1, 2, 3, 4, 5]), scrB [1, 2, 3, 4, 5] b0, scrB [1, 2, 3, 4, 5] (.row 1 (x.map i1 ++ [[int v]])), scrB [1, 2, 3, 4, 5] b2), by kernel_rfl, ⟨i + 1, _, nx (by omega), by omega, (by simp only [List.length_map]; exact (Out.put (q := 3) (b0' := b0) (b1' := (.row 1 (x.map i1 ++ [[int v]]))) (b2' := b2) out hxm (v := v) (by simp [sel]) sel1).scrAll (by simp) (by simp) (by simp)), by simpa using hadd, by simpa using hxl, hbound⟩, by simp only; rw [nx (by omega)]; omega⟩
        · rcases hcell with hcell | hcell
          · obtain rfl : m = 2 := by omega
            obtain ⟨c0, c1, tl, rfl⟩ : ∃ c0 c1 tl, cs = c0 :: c1 :: c :: tl := by
              match cs, hc with
              | c0 :: c1 :: y :: tl, hc => exact ⟨c0, c1, tl, by simp at hc; rw [hc]⟩
            obtain ⟨rfl, rfl, hbj⟩ := hcell
            have hbj : b2 = _ := hbj
            subst hbj
            conv => whnf
            refine ⟨by omega, by rw [List.length_map]; omega, ?_⟩
            conv => whnf
            refine ⟨by omega, _, gm hv, ?_⟩
            conv => whnf
            refine ⟨5, by simp, rfl, most_le (by simp), ?_⟩
            conv => whnf
            refine ⟨by omega, by rw [List.length_map]; omega, ?_⟩
            conv => whnf
            refine ⟨(IntKind.wrap .i64 ((i : Int) + 1), (c0 :: c1 :: .row 5 0 (([[int v]] : List (List D)).length) (([[int v]] : List (List D)).length) :: tl).map (scrC [1, 2, 3, 4, 5]), scrB [1, 2, 3, 4, 5] b0, scrB [1, 2, 3, 4, 5] b1, scrB [1, 2, 3, 4, 5] (.row 1 [[int v]])), by kernel_rfl, ⟨i + 1, _, nx (by omega), by omega, (Out.put (q := 3) (b0' := b0) (b1' := b1) (b2' := (.row 1 [[int v]])) out hxm (v := v) (by simp [sel]) sel2).scrAll (by simp) (by simp) (by simp), by simpa using hadd, by simpa using hxl, hbound⟩, by simp only; rw [nx (by omega)]; omega⟩
          · obtain rfl : m = 2 := by omega
            obtain ⟨c0, c1, tl, rfl⟩ : ∃ c0 c1 tl, cs = c0 :: c1 :: c :: tl := by
              match cs, hc with
              | c0 :: c1 :: y :: tl, hc => exact ⟨c0, c1, tl, by simp at hc; rw [hc]⟩
            obtain ⟨rfl, hbj⟩ := hcell
            have hbj : b2 = _ := hbj
            subst hbj
            conv => whnf
            refine ⟨by omega, by rw [List.length_map]; omega, ?_⟩
            conv => whnf
            refine ⟨by omega, _, gm hv, ?_⟩
            conv => whnf
            refine ⟨5, by simp, rfl, rfl, by simp, most_le (by simp; omega), ?_⟩
            conv => whnf
            refine ⟨by omega, by rw [List.length_map]; omega, ?_⟩
            conv => whnf
            refine cond_intro (by show (true && ((((x.map i1).length + 1) == (x.map i1 ++ [[int v]]).length) && true)) = true; simp) ?_
            conv => whnf
            refine ⟨(IntKind.wrap .i64 ((i : Int) + 1), (c0 :: c1 :: .row 5 0 ((x.map i1).length + 1) ((x.map i1).length + 1) :: tl).map (scrC [1, 2, 3, 4, 5]), scrB [1, 2, 3, 4, 5] b0, scrB [1, 2, 3, 4, 5] b1, scrB [1, 2, 3, 4, 5] (.row 1 (x.map i1 ++ [[int v]]))), by kernel_rfl, ⟨i + 1, _, nx (by omega), by omega, (by simp only [List.length_map]; exact (Out.put (q := 3) (b0' := b0) (b1' := b1) (b2' := (.row 1 (x.map i1 ++ [[int v]]))) out hxm (v := v) (by simp [sel]) sel2).scrAll (by simp) (by simp) (by simp)), by simpa using hadd, by simpa using hxl, hbound⟩, by simp only; rw [nx (by omega)]; omega⟩
end Go.Proofs.YtbkjfjlmhlmdbaaG
