/- The specification's day of a furnace. No condition. -/
import Derived.Test.YtmkmegcconjgoaaP38
set_option linter.unusedVariables false
set_option linter.unusedSimpArgs false
set_option maxRecDepth 100000
set_option maxHeartbeats 4000000
namespace Go.Proofs.YtmkmegcconjgoaaG
open Go Go.AM Go.Proofs

theorem made_val {s : Season} {lost m bb a r v : Int} (h0 : 0 ≤ a) (er : rateF s m a = r) (hr : 0 ≤ r ∧ r ≤ 1000000) (hl : 0 ≤ lost ∧ lost ≤ 1440) (hj : 0 ≤ (jobF s bb a).1 ∧ (jobF s bb a).1 ≤ 1440) (hv : v = lost + (jobF s bb a).1) :
    IntKind.wrap .i64 ((IntKind.wrap .i64 (r * max (IntKind.wrap .i64 (1440 - v)) 0)).tdiv 1440) = madeA s lost m bb a := by
  have q := rate_max hr (q := max (1440 - v) 0) (by omega)
  have q2 := quo1440 q.1 q.2
  have e1 : IntKind.wrap .i64 (1440 - v) = 1440 - v := wr_eq (by omega)
  rw [e1]
  have e2 : IntKind.wrap .i64 (r * max (1440 - v) 0) = r * max (1440 - v) 0 := wr_eq (by omega)
  rw [e2]
  have e3 : IntKind.wrap .i64 ((r * max (1440 - v) 0).tdiv 1440) = (r * max (1440 - v) 0).tdiv 1440 := wr_eq (by omega)
  rw [e3, madeA, if_neg (by omega), er, hv]
@[reducible] def stDay (s : Season) (ms b n : List Int) (lost : Int) (x : Int × List (List D) × Nat × Int) : St :=
  ⟨mkT [(2, .d (rowD b)), (3, .d (rowD n)), (4, .d (.fptr (cellsS s))), (10, .d (rowD ms)), (11, .d (int x.2.2.2)), (12, .d (int lost)), (15, .row 2 0 x.2.2.1 x.2.2.1), (16, .d (int x.1))], mkB [(2, .row 1 x.2.1)]⟩
theorem day_loop (s : Season) (h : Fr s) (ms b n : List Int) (hb : Row s ms b) (hn : Row s ms n) (lost lc : Int) (hl : 0 ≤ lost ∧ lost ≤ 1440) (hlc : 0 ≤ lc ∧ lc ≤ 1000000) (MADE : List Int) (COST : Int)
    (hMADE : madeL s lost ms b n = MADE) (hCOST : lc + costL s ms b n = COST) (Q : QB) (t : Nat → AC) (b' : Nat → ABlk) (h0 : St.forget ⟨t, b'⟩ [2, 3, 4, 10, 11, 12, 15, 16] [2] = stDay s ms b n lost (0, [], 0, lc))
    (hQ : ∀ σ : St, σ.t 15 = .row 2 0 MADE.length MADE.length → σ.t 11 = .d (int COST) → σ.b 2 = .row 1 (MADE.map i1) → Q (.exit 0) σ.t σ.b) : LoopB (fun Q t b => bwp Try.prog noH true [] l93_0 Q t b) [2, 3, 4, 10, 11, 12, 15, 16] [2] Q t b' := by
  have hl1 := hb.len
  have hl2 := hn.len
  have hsm := hn.small
  refine loopB (stDay s ms b n lost)
    (fun x => ∃ (i : Nat) (acc : List Int), x.1 = i ∧ i ≤ n.length ∧ x.2.1 = acc.map i1 ∧ x.2.2.1 = x.2.1.length ∧ acc.length = i ∧ acc ++ madeL s lost (ms.drop i) (b.drop i) (n.drop i) = MADE ∧ x.2.2.2 + costL s (ms.drop i) (b.drop i) (n.drop i) = COST ∧ 0 ≤ x.2.2.2 ∧ x.2.2.2 ≤ 1000000 * (i + 1)) (fun x => (n.length - x.1).toNat) (0, [], 0, lc) h0
    ⟨0, [], rfl, by omega, rfl, rfl, rfl, hMADE, hCOST, hlc.1, (by show (lc : Int) ≤ 1000000 * (((0 : Nat) : Int) + 1); omega)⟩ ?_
  rintro ⟨_, els, nn, cost⟩ ⟨i, acc, rfl, hi, he, hn0, hac, hb1, hb2, hc0, hc1⟩
  simp only at he hn0 hb2 hc0 hc1
  conv => whnf
  rw [List.length_map]
  cases c1 : decide ((i : Int) < (ms.length : Int))
  · have hi' : i = n.length := by have := of_decide_eq_false c1; omega
    have e1 : n.drop i = [] := by rw [hi']; simp
    have e2 : ms.drop i = [] := List.drop_of_length_le (by omega)
    rw [e1, e2] at hb1 hb2
    have hb1 : acc = MADE := by simpa [madeL] using hb1
    have hb2 : cost = COST := by simpa [costL] using hb2
    subst hb1 hb2 he
    have hn1 : nn = acc.length := by simpa using hn0
    subst hn1
    conv => whnf
    exact hQ ⟨_, _⟩ rfl rfl rfl
  · have hi' : i < n.length := by have := of_decide_eq_true c1; omega
    obtain ⟨a, hx⟩ := get_lt hi'
    obtain ⟨m, hy⟩ := get_lt (xs := ms) (i := i) (by omega)
    obtain ⟨bb, hz⟩ := get_lt (xs := b) (i := i) (by omega)
    have ha := hn.arts a (List.mem_of_getElem? hx)
    have hbb := hb.arts bb (List.mem_of_getElem? hz)
    have hm := hn.ms m (List.mem_of_getElem? hy)
    obtain ⟨M, hM⟩ := get_lt (xs := s.makers) (i := m.toNat) (by omega)
    have hMk := h.maker M (List.mem_of_getElem? hM)
    rw [drop_at hx, drop_at hy, drop_at hz, madeL] at hb1
    rw [drop_at hx, drop_at hy, drop_at hz, costL] at hb2
    conv => whnf
    refine ⟨by omega, _, (by first | exact gm (by assumption) | exact gz (by assumption)), ?_⟩
    conv => whnf
    refine ⟨by omega, _, (by first | exact gm (by assumption) | exact gz (by assumption)), ?_⟩
    conv => whnf
    refine ⟨by omega, _, (by first | exact gm (by assumption) | exact gz (by assumption)), ?_⟩
    conv => whnf
    refine ⟨by omega, _, (by first | exact gm (by assumption) | exact gz (by assumption)), ?_⟩
    conv => whnf
    cases c2 : decide (a < 0)
    · have h2 := of_decide_eq_false c2
      obtain ⟨M2, r, hM2, hr, er, hr0, hr1⟩ := rate_get h hm (show 0 ≤ a by omega) ha.2
      rw [hM] at hM2; cases hM2
      have hca : costA s m bb a = (jobF s bb a).2 := by rw [costA, if_neg h2]
      have hjl := jobF_le h hbb.2 ⟨by omega, ha.2⟩
      have mv := fun (v : Int) (hv : v = lost + (jobF s bb a).1) => made_val (s := s) (m := m) (bb := bb) (v := v) (show 0 ≤ a by omega) er ⟨hr0, hr1⟩ hl ⟨hjl.1, hjl.2.1⟩ hv
      have plain : jobF s bb a = (0, 0) → ∀ (u : Int), u = madeA s lost m bb a → (IntKind.wrap .i64 ((i : Int) + 1) = ((i + 1 : Nat) : Int)) ∧ acc ++ [u] ++ madeL s lost (ms.drop (i + 1)) (b.drop (i + 1)) (n.drop (i + 1)) = MADE ∧ cost + costL s (ms.drop (i + 1)) (b.drop (i + 1)) (n.drop (i + 1)) = COST := fun hj u hu => by
        rw [hca, hj] at hb2
        exact ⟨nx (by omega), by rw [hu, ← hb1]; simp, by rw [← hb2]; simp⟩
      conv => whnf
      cases c3 : decide (0 ≤ bb)
      · have h3 := of_decide_eq_false c3
        have hjob : jobF s bb a = (0, 0) := by rw [jobF, if_neg (by omega)]
        have mv' := mv lost (by rw [hjob]; simp)
        obtain ⟨p1, p2, p3⟩ := plain hjob _ mv'
        conv => whnf
        refine ⟨by omega, _, (by first | exact gm (by assumption) | exact gz (by assumption)), ?_⟩
        conv => whnf
        refine ⟨by decide, ?_⟩
        conv => whnf
        refine ⟨rfl, rfl, hn0, most_le (by rw [he]; simp; omega), ?_⟩
        conv => whnf
        exact ⟨(IntKind.wrap .i64 ((i : Int) + 1), els ++ [[int (IntKind.wrap .i64 ((IntKind.wrap .i64 (r * max (IntKind.wrap .i64 (1440 - lost)) 0)).tdiv 1440))]], els.length + 1, cost), by kernel_rfl, ⟨i + 1, acc ++ [_], p1, by omega, by rw [he]; simp, by simp, by simp; omega, p2, p3, hc0, by simp only; omega⟩, by simp only; rw [p1]; omega⟩
      · have h3 := of_decide_eq_true c3
        conv => whnf
        cases c4 : decide (bb = a)
        · have h4 := of_decide_eq_false c4
          obtain ⟨jr, jt, hjr, hjt, ej, hj⟩ := turn_get h.jobs.1 h.jobs.2 (a := bb) (b := a) ⟨h3, hbb.2⟩ ⟨by omega, ha.2⟩
          have hjob : jobF s bb a = jt := by rw [jobF, if_pos ⟨h3, h4⟩, ej]
          have ew : IntKind.wrap .i64 (lost + jt.1) = lost + jt.1 := wr_eq (by omega)
          have mv' := mv (IntKind.wrap .i64 (lost + jt.1)) (by rw [ew, hjob])
          have ec : IntKind.wrap .i64 (cost + jt.2) = cost + jt.2 := wr_eq (by omega)
          rw [hca, hjob] at hb2
          conv => whnf
          refine ⟨by omega, _, (by first | exact gm (by assumption) | exact gz (by assumption)), ?_⟩
          conv => whnf
          refine ⟨by omega, _, (by first | exact gm (by assumption) | exact gz (by assumption)), ?_⟩
          conv => whnf
          refine ⟨by omega, _, (by first | exact gm (by assumption) | exact gz (by assumption)), ?_⟩
          conv => whnf
          refine ⟨by omega, _, (by first | exact gm (by assumption) | exact gz (by assumption)), ?_⟩
          conv => whnf
          refine ⟨by omega, _, (by first | exact gm (by assumption) | exact gz (by assumption)), ?_⟩
          conv => whnf
          refine ⟨by decide, ?_⟩
          conv => whnf
          refine ⟨rfl, rfl, hn0, most_le (by rw [he]; simp; omega), ?_⟩
          conv => whnf
          exact ⟨(IntKind.wrap .i64 ((i : Int) + 1), els ++ [[int (IntKind.wrap .i64 ((IntKind.wrap .i64 (r * max (IntKind.wrap .i64 (1440 - IntKind.wrap .i64 (lost + jt.1))) 0)).tdiv 1440))]], els.length + 1, IntKind.wrap .i64 (cost + jt.2)), by kernel_rfl,
            ⟨i + 1, acc ++ [madeA s lost m bb a], nx (by omega), by omega, by rw [he, mv']; simp, by simp, by simp; omega, by rw [← hb1]; simp, by simp only; rw [ec, ← hb2]; omega, by simp only; rw [ec]; omega, by simp only; rw [ec]; omega⟩, by simp only; rw [nx (by omega)]; omega⟩
        · have h4 := of_decide_eq_true c4
          have hjob : jobF s bb a = (0, 0) := by rw [jobF, if_neg (by omega)]
          have mv' := mv lost (by rw [hjob]; simp)
          obtain ⟨p1, p2, p3⟩ := plain hjob _ mv'
          conv => whnf
          refine ⟨by omega, _, (by first | exact gm (by assumption) | exact gz (by assumption)), ?_⟩
          conv => whnf
          refine ⟨by decide, ?_⟩
          conv => whnf
          refine ⟨rfl, rfl, hn0, most_le (by rw [he]; simp; omega), ?_⟩
          conv => whnf
          exact ⟨(IntKind.wrap .i64 ((i : Int) + 1), els ++ [[int (IntKind.wrap .i64 ((IntKind.wrap .i64 (r * max (IntKind.wrap .i64 (1440 - lost)) 0)).tdiv 1440))]], els.length + 1, cost), by kernel_rfl, ⟨i + 1, acc ++ [_], p1, by omega, by rw [he]; simp, by simp, by simp; omega, p2, p3, hc0, by simp only; omega⟩, by simp only; rw [p1]; omega⟩
    · have h2 := of_decide_eq_true c2
      have hca : costA s m bb a = M.idle := by rw [costA, if_pos h2]; simp [idleF, hM]
      have hma : madeA s lost m bb a = 0 := by rw [madeA, if_pos h2]
      have ec : IntKind.wrap .i64 (cost + M.idle) = cost + M.idle := wr_eq (by omega)
      rw [hca] at hb2
      rw [hma] at hb1
      conv => whnf
      refine ⟨rfl, rfl, hn0, most_le (by rw [he]; simp; omega), ?_⟩
      conv => whnf
      exact ⟨(IntKind.wrap .i64 ((i : Int) + 1), els ++ [[int 0]], els.length + 1, IntKind.wrap .i64 (cost + M.idle)), by kernel_rfl, ⟨i + 1, acc ++ [0], nx (by omega), by omega, by rw [he]; simp, by simp, by simp; omega, by rw [← hb1]; simp, by simp only; rw [ec, ← hb2]; omega, by simp only; rw [ec]; omega, by simp only; rw [ec]; omega⟩, by simp only; rw [nx (by omega)]; omega⟩
theorem day_ok' (s : Season) (h : Fr s) (k : Int) (ms b n : List Int) (hms : makersF s k = ms) (hb : Row s ms b) (hn : Row s ms n) : PureFn Try.prog 93 [seasonD s, int k, rowD b, rowD n] (.tup [rowD (workedF s ms b n).1, int (workedF s ms b n).2]) := by
  have hl1 := hb.len
  have hl2 := hn.len
  have hsm := hn.small
  have mk := makers_ok' s h.sm k
  rw [hms] at mk
  have lle := lostF_le h hb.arts hn.arts
  have cb := colour_ok' s b (by omega) hb.arts
  have cn := colour_ok' s n (by omega) hn.arts
  have kb := colF_lt h hb.arts
  have kn := colF_lt h hn.arts
  obtain ⟨⟨lost, lc⟩, hlost⟩ : ∃ L, lostF s b n = L := ⟨_, rfl⟩
  have elost : (lost, lc) = if 0 ≤ colF s b ∧ 0 ≤ colF s n ∧ colF s b ≠ colF s n then turnA s.cols (colF s b) (colF s n) else (0, 0) := by rw [← hlost]; rfl
  unfold workedF
  rw [hlost] at lle ⊢
  simp only at lle ⊢
  obtain ⟨MADE, hMADE⟩ : ∃ x, madeL s lost ms b n = x := ⟨_, rfl⟩
  obtain ⟨COST, hCOST⟩ : ∃ x, lc + costL s ms b n = x := ⟨_, rfl⟩
  rw [hMADE, hCOST]
  obtain ⟨B, hB⟩ : ∃ B, colF s b = B := ⟨_, rfl⟩
  obtain ⟨N, hN⟩ : ∃ N, colF s n = N := ⟨_, rfl⟩
  rw [hB] at cb kb elost
  rw [hN] at cn kn elost
  refine pureFn_by Try.func93 k93 rfl rfl ?_
  conv => whnf
  refine ⟨_, mk, ?_⟩
  conv => whnf
  refine ⟨_, cb, ?_⟩
  conv => whnf
  refine ⟨_, cn, ?_⟩
  conv => whnf
  have fin : ∀ σ : St, σ.t 8 = .row 2 0 MADE.length MADE.length → σ.t 9 = .d (int COST) → σ.b 2 = .row 1 (MADE.map i1) → resA [.t 8, .t 9] σ = some (.tup [rowD MADE, int COST]) := fun σ h1 h2 h3 => by
    have e1 : [RV.t 8, RV.t 9].mapM (readRV σ) = some [σ.t 8, σ.t 9] := rfl
    have e2 : Go.AM.snap σ.b 4 (σ.t 8) = some (rowD MADE) := by rw [h1, snap_row0 h3 (by simp)]
    have e3 : Go.AM.snap σ.b 4 (σ.t 9) = some (int COST) := by rw [h2]; rfl
    unfold resA
    rw [e1]
    show ([σ.t 8, σ.t 9].mapM (Go.AM.snap σ.b 4)).map D.tup = _
    rw [mapM2 e2 e3]; rfl
  have nope : ¬ (0 ≤ B ∧ 0 ≤ N ∧ B ≠ N) → lost = 0 ∧ lc = 0 := fun g => by rw [if_neg g] at elost; cases elost; exact ⟨rfl, rfl⟩
  have fin2 : ∀ σ : St, σ.t 15 = .row 2 0 MADE.length MADE.length → σ.t 11 = .d (int COST) → σ.b 2 = .row 1 (MADE.map i1) →
      bwp Try.prog noH true [] ((ACode.reg [⟨(some 135), .mv (.t 15), none, []⟩, ⟨(some 136), .mv (.t 11), none, []⟩, ⟨(some 8), .mv (.t 135), none, []⟩, ⟨(some 9), .mv (.t 136), none, []⟩]).seq ACode.ret)
        (fun e t b => match e with | .normal => resA r93 ⟨t, b⟩ = some (D.tup [rowD MADE, int COST]) | .ret => resA r93 ⟨t, b⟩ = some (D.tup [rowD MADE, int COST]) | _ => False) σ.t σ.b := fun σ h1 h2 h3 => by
    have g1 : evO σ.t (Opnd.t 15) = _ := h1
    have g2 : evO σ.t (Opnd.t 11) = _ := h2
    conv => whnf
    rw [g1]
    conv => whnf
    rw [show evO (fun i => bif i.beq 135 then AC.row 2 0 MADE.length MADE.length else σ.t i) (Opnd.t 11) = .d (int COST) from h2]
    conv => whnf
    exact fin ⟨_, _⟩ rfl rfl h3
  cases d1 : decide (0 ≤ B)
  · have g1 := of_decide_eq_false d1
    obtain ⟨rfl, rfl⟩ := nope (by omega)
    conv => whnf
    exact day_loop s h ms b n hb hn 0 0 (by omega) (by omega) MADE COST hMADE hCOST _ _ _ (by kernel_rfl) fin2
  · have g1 := of_decide_eq_true d1
    conv => whnf
    cases d2 : decide (0 ≤ N)
    · have g2 := of_decide_eq_false d2
      obtain ⟨rfl, rfl⟩ := nope (by omega)
      conv => whnf
      exact day_loop s h ms b n hb hn 0 0 (by omega) (by omega) MADE COST hMADE hCOST _ _ _ (by kernel_rfl) fin2
    · have g2 := of_decide_eq_true d2
      conv => whnf
      cases d3 : decide (B = N)
      · have g3 := of_decide_eq_false d3
        rw [if_pos ⟨g1, g2, g3⟩] at elost
        obtain ⟨jr, jt, hjr, hjt, ej, hj⟩ := turn_get (n := s.cols.length) rfl h.cols (a := B) (b := N) (by omega) (by omega)
        rw [ej] at elost
        have el1 : lost = jt.1 := congrArg Prod.fst elost
        have el2 : lc = jt.2 := congrArg Prod.snd elost
        subst el1 el2
        have ew : IntKind.wrap .i64 (0 + jt.2) = jt.2 := by rw [wr_eq (by omega)]; omega
        conv => whnf
        refine ⟨by omega, _, (by first | exact gm (by assumption) | exact gz (by assumption)), ?_⟩
        conv => whnf
        refine ⟨by omega, _, (by first | exact gm (by assumption) | exact gz (by assumption)), ?_⟩
        conv => whnf
        refine ⟨by omega, _, (by first | exact gm (by assumption) | exact gz (by assumption)), ?_⟩
        conv => whnf
        refine ⟨by omega, _, (by first | exact gm (by assumption) | exact gz (by assumption)), ?_⟩
        conv => whnf
        rw [ew]
        exact day_loop s h ms b n hb hn jt.1 jt.2 (by omega) (by omega) MADE COST hMADE hCOST _ _ _ (by kernel_rfl) fin2
      · have g3 := of_decide_eq_true d3
        obtain ⟨rfl, rfl⟩ := nope (by omega)
        conv => whnf
        exact day_loop s h ms b n hb hn 0 0 (by omega) (by omega) MADE COST hMADE hCOST _ _ _ (by kernel_rfl) fin2
end Go.Proofs.YtmkmegcconjgoaaG
