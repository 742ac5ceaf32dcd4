/- The program's search, walked: a plan is kept. No condition. -/
import Derived.Test.YtmkmegcconjgoaaQ14
set_option linter.unusedVariables false
set_option linter.unusedSimpArgs false
set_option maxRecDepth 100000
set_option maxHeartbeats 4000000
namespace Go.Proofs.YtmkmegcconjgoaaG
open Go Go.AM Go.Proofs

@[reducible] def LB : List Nat := [1, 2, 3, 4, 5, 6, 1000, 1001, 1002, 1003, 1004]
theorem snap_vs {s : Season} (hm3 : s.makers.length ≤ 3) {b : Nat → ABlk} {P : Plan} (hP : Shp s P) (hc : b 1000 = .var (cellsP s)) (k1 : b 1001 = blkP P 0) (k3 : b 1003 = blkP P 1) (k4 : b 1004 = blkP P 2) :
    Go.AM.snap b 4 (.vs 1000 0 (s.makers.map mkL).length) = some (planD P) := by
  have hl := hP.len
  have hml : (s.makers.map mkL).length = s.makers.length := List.length_map _
  have hcl : (cellsP s).length = s.makers.length := by simp [cellsP]
  have hrow : ∀ (i : Nat) (r : List Int), P[i]? = some r → s.days.toNat = (r.map i1).length := fun i r hr => by
    have := hP.rows r (List.mem_of_getElem? hr)
    rw [List.length_map]; omega
  have hone : ∀ i r, P[i]? = some r → b (slotOf i) = .row 1 (r.map i1) → Go.AM.snap b 3 (rowC s.days.toNat i) = some (rowD r) := fun i r hr hb => by
    have := hrow i r hr
    show (match b (slotOf i) with
      | .row _ els => if s.days.toNat = els.length ∧ 0 + s.days.toNat ≤ els.length then some (D.list ((els.drop 0).take s.days.toNat)) else none
      | _ => none) = _
    rw [hb]
    show (if s.days.toNat = (r.map i1).length ∧ 0 + s.days.toNat ≤ (r.map i1).length then some (D.list (((r.map i1).drop 0).take s.days.toNat)) else none) = _
    rw [if_pos ⟨this, by omega⟩, List.drop_zero, this, List.take_length]
  have e : Go.AM.snap b 4 (.vs 1000 0 (s.makers.map mkL).length) = (match b 1000 with
      | .var cs => if 0 + (s.makers.map mkL).length ≤ cs.length then (((cs.drop 0).take (s.makers.map mkL).length).mapM (Go.AM.snap b 3)).map fun ds => D.list (ds.map fun d => [d]) else none
      | _ => none) := rfl
  have key : (cellsP s).mapM (Go.AM.snap b 3) = some (P.map rowD) := by
    match P, hl, hone, k1, k3, k4 with
    | [], hl, _, _, _, _ =>
      have : cellsP s = [] := by unfold cellsP; rw [← hl]; rfl
      rw [this]; rfl
    | [r0], hl, hone, k1, k3, k4 =>
      have : cellsP s = [rowC s.days.toNat 0] := by unfold cellsP; rw [← hl]; rfl
      rw [this]
      simp [List.mapM_cons, hone 0 r0 rfl k1]
    | [r0, r1], hl, hone, k1, k3, k4 =>
      have : cellsP s = [rowC s.days.toNat 0, rowC s.days.toNat 1] := by unfold cellsP; rw [← hl]; rfl
      rw [this]
      simp [List.mapM_cons, hone 0 r0 rfl k1, hone 1 r1 rfl k3]
    | [r0, r1, r2], hl, hone, k1, k3, k4 =>
      have : cellsP s = [rowC s.days.toNat 0, rowC s.days.toNat 1, rowC s.days.toNat 2] := by unfold cellsP; rw [← hl]; rfl
      rw [this]
      simp [List.mapM_cons, hone 0 r0 rfl k1, hone 1 r1 rfl k3, hone 2 r2 rfl k4]
    | _ :: _ :: _ :: _ :: _, hl, _, _, _, _ => simp at hl; omega
  rw [e, hc]
  show (if 0 + (s.makers.map mkL).length ≤ (cellsP s).length then ((((cellsP s).drop 0).take (s.makers.map mkL).length).mapM (Go.AM.snap b 3)).map (fun ds => D.list (ds.map fun d => [d])) else none) = _
  rw [if_pos (by omega), List.drop_zero, List.take_of_length_le (by omega), key]
  simp only [Option.map_some, List.map_map]
  rfl
@[reducible] def cpB (s : Season) (P : Plan) (z : Int) (f : Bool) (els : List (List D)) (k : Nat) (ch : List (List D)) : Nat → ABlk := mkB [(1, .var [.row 5 0 k k]), (2, .var [.d (int z)]), (3, .var [.d (boolD f)]), (4, .dead), (5, .row 1 els), (6, .fresh), (1000, .var (cellsP s)), (1001, blkP P 0), (1002, .row 1 ch), (1003, blkP P 1), (1004, blkP P 2)]
theorem scrL (p : Plan) (i : Nat) : scrB LB (blkP p i) = blkP p i := by unfold blkP; split <;> rfl
theorem cellsP_scrL {s : Season} : (cellsP s).map (scrC LB) = cellsP s := by
  unfold cellsP
  rw [List.map_map]
  refine List.map_congr_left fun i _ => ?_
  match i with
  | 0 => rfl
  | 1 => rfl
  | _ + 2 => rfl
theorem fgtC {t T : Nat → AC} {b : Nat → ABlk} {lt : List Nat} {s : Season} {P : Plan} {z : Int} {f : Bool} {els : List (List D)} {k : Nat} {ch : List (List D)} (h1 : b 1 = .var [.row 5 0 k k]) (h2 : b 2 = .var [.d (int z)]) (h3 : b 3 = .var [.d (boolD f)]) (h4 : b 4 = .dead) (h5 : b 5 = .row 1 els) (h6 : b 6 = .fresh)
    (hc : b 1000 = .var (cellsP s)) (k1 : b 1001 = blkP P 0) (kc : b 1002 = .row 1 ch) (k3 : b 1003 = blkP P 1) (k4 : b 1004 = blkP P 2) (ht : mkT (lt.map fun i => (i, scrC LB (t i))) = T) :
    St.forget ⟨t, b⟩ lt LB = ⟨T, cpB s P z f els k ch⟩ := by
  have h2' : (St.forget ⟨t, b⟩ lt LB).t = T := ht
  have h1' : (St.forget ⟨t, b⟩ lt LB).b = cpB s P z f els k ch := by
    show mkB [(1, scrB LB (b 1)), (2, scrB LB (b 2)), (3, scrB LB (b 3)), (4, scrB LB (b 4)), (5, scrB LB (b 5)), (6, scrB LB (b 6)), (1000, scrB LB (b 1000)), (1001, scrB LB (b 1001)), (1002, scrB LB (b 1002)), (1003, scrB LB (b 1003)), (1004, scrB LB (b 1004))] = _
    rw [h1, h2, h3, h4, h5, h6, hc, k1, kc, k3, k4, scrL, scrL, scrL, show scrB LB (.var (cellsP s)) = .var (cellsP s) from by show ABlk.var ((cellsP s).map (scrC LB)) = _; rw [cellsP_scrL]]
    rfl
  calc St.forget ⟨t, b⟩ lt LB = ⟨(St.forget ⟨t, b⟩ lt LB).t, (St.forget ⟨t, b⟩ lt LB).b⟩ := rfl
    _ = _ := by rw [h1', h2']
structure AtC (s : Season) (P : Plan) (z : Int) (f : Bool) (ch : List (List D)) (n : Int) (u : St) : Prop where
  t2 : u.t 2 = .ptr 1 0
  t3 : u.t 3 = .ptr 2 0
  t4 : u.t 4 = .ptr 3 0
  t10 : u.t 10 = .d (int n)
  b1 : u.b 1 = .var [.row 5 0 (P.map rowL).length (P.map rowL).length]
  b2 : u.b 2 = .var [.d (int z)]
  b3 : u.b 3 = .var [.d (boolD f)]
  b4 : u.b 4 = .dead
  b5 : u.b 5 = .row 1 (P.map rowL)
  b6 : u.b 6 = .fresh
  bc : u.b 1000 = .var (cellsP s)
  k1 : u.b 1001 = blkP P 0
  kc : u.b 1002 = .row 1 ch
  k3 : u.b 1003 = blkP P 1
  k4 : u.b 1004 = blkP P 2
theorem copy_loop (s : Season) (hf : Fr s) (hm3 : s.makers.length ≤ 3) (P : Plan) (hP : Shp s P) (z : Int) (f : Bool) (ch : List (List D)) (n : Int) (Q : QB) (t : Nat → AC) (b' : Nat → ABlk)
    (h0 : St.forget ⟨t, b'⟩ [2, 3, 4, 10, 62, 63, 64] LB = ⟨mkT [(2, .ptr 1 0), (3, .ptr 2 0), (4, .ptr 3 0), (10, .d (int n)), (62, .vs 1000 0 (s.makers.map mkL).length), (63, .d (int ((s.makers.map mkL).length : Int))), (64, .d (int 0))], cpB s P z f [] 0 ch⟩)
    (hQ : ∀ u : St, AtC s P z f ch n u → Q (.exit 4) u.t u.b) :
    LoopB (fun Q t b => bwp Try.prog noH false [1, 2, 3, 4, 6, 1000, 1001, 1002, 1003, 1004] l31_1 Q t b) [2, 3, 4, 10, 62, 63, 64] LB Q t b' := by
  have hl := hP.len
  have hml : (s.makers.map mkL).length = s.makers.length := List.length_map _
  refine loopB (fun (x : Int × List (List D) × Nat) => ⟨mkT [(2, .ptr 1 0), (3, .ptr 2 0), (4, .ptr 3 0), (10, .d (int n)), (62, .vs 1000 0 (s.makers.map mkL).length), (63, .d (int ((s.makers.map mkL).length : Int))), (64, .d (int x.1))], cpB s P z f x.2.1 x.2.2 ch⟩)
    (fun x => ∃ i : Nat, x.1 = i ∧ i ≤ P.length ∧ x.2.1 = (P.take i).map rowL ∧ x.2.2 = x.2.1.length) (fun x => (P.length - x.1).toNat) (0, [], 0) h0 ⟨0, rfl, by omega, rfl, rfl⟩ ?_
  rintro ⟨_, els, k⟩ ⟨i, rfl, hi, he, hk⟩
  simp only at he hk
  have hel : els.length = i := by rw [he]; simp; omega
  conv => whnf
  cases c1 : decide ((i : Int) < ((s.makers.map mkL).length : Int))
  · have hi' : i = P.length := by have := of_decide_eq_false c1; omega
    rw [hi', List.take_length] at he
    subst he
    have hkl : k = (P.map rowL).length := hk
    subst hkl
    conv => whnf
    exact hQ ⟨_, _⟩ ⟨rfl, rfl, rfl, rfl, rfl, rfl, rfl, rfl, rfl, rfl, rfl, rfl, rfl, rfl, rfl⟩
  · have hi' : i < P.length := by have := of_decide_eq_true c1; omega
    obtain ⟨r, hr⟩ := get_lt hi'
    have hrl := hP.rows r (List.mem_of_getElem? hr)
    have hd := hf.days
    have htk : P.take (i + 1) = P.take i ++ [r] := by rw [List.take_add_one, hr]; rfl
    have hcell : (cellsP s)[0 + ((i : Nat) : Int).toNat]? = some (rowC s.days.toNat i) := by rw [Nat.zero_add, Int.toNat_natCast]; exact cellsP_get (by omega)
    have hn3 : i < 3 := by omega
    have hlen : s.days.toNat = (r.map i1).length := by rw [List.length_map]; omega
    conv => whnf
    refine ⟨by omega, by omega, ?_⟩
    match i, hn3, hr, hcell with
    | 0, _, hr, hcell =>
      conv => whnf
      rw [hcell]
      conv => whnf
      rw [call1 (d := rowD r) (snap_row0 (s := 1001) (esz := 1) (els := r.map i1) (by exact blkP_at hr) hlen)]
      conv => whnf
      refine ⟨_, clone_ok r (by omega), ?_⟩
      conv => whnf
      refine ⟨rfl, rfl, hk, most_le (by simp; omega), ?_⟩
      conv => whnf
      refine cond_intro (by show (true && ((els.length + 1 == (els ++ [rowL r]).length) && true)) = true; simp) ?_
      conv => whnf
      exact ⟨(IntKind.wrap .i64 (((0 : Nat) : Int) + 1), els ++ [rowL r], els.length + 1), fgtC rfl rfl rfl rfl rfl rfl rfl rfl rfl rfl rfl (by kernel_rfl), ⟨0 + 1, nx (i := 0) (by omega), by omega, by rw [he, htk, List.map_append]; rfl, by simp⟩, by show ((P.length : Int) - IntKind.wrap .i64 (((0 : Nat) : Int) + 1)).toNat < ((P.length : Int) - ((0 : Nat) : Int)).toNat; rw [nx (i := 0) (by omega)]; omega⟩
    | 1, _, hr, hcell =>
      conv => whnf
      rw [hcell]
      conv => whnf
      rw [call1 (d := rowD r) (snap_row0 (s := 1003) (esz := 1) (els := r.map i1) (by exact blkP_at hr) hlen)]
      conv => whnf
      refine ⟨_, clone_ok r (by omega), ?_⟩
      conv => whnf
      refine ⟨rfl, rfl, hk, most_le (by simp; omega), ?_⟩
      conv => whnf
      refine cond_intro (by show (true && ((els.length + 1 == (els ++ [rowL r]).length) && true)) = true; simp) ?_
      conv => whnf
      exact ⟨(IntKind.wrap .i64 (((1 : Nat) : Int) + 1), els ++ [rowL r], els.length + 1), fgtC rfl rfl rfl rfl rfl rfl rfl rfl rfl rfl rfl (by kernel_rfl), ⟨1 + 1, nx (i := 1) (by omega), by omega, by rw [he, htk, List.map_append]; rfl, by simp⟩, by show ((P.length : Int) - IntKind.wrap .i64 (((1 : Nat) : Int) + 1)).toNat < ((P.length : Int) - ((1 : Nat) : Int)).toNat; rw [nx (i := 1) (by omega)]; omega⟩
    | 2, _, hr, hcell =>
      conv => whnf
      rw [hcell]
      conv => whnf
      rw [call1 (d := rowD r) (snap_row0 (s := 1004) (esz := 1) (els := r.map i1) (by exact blkP_at hr) hlen)]
      conv => whnf
      refine ⟨_, clone_ok r (by omega), ?_⟩
      conv => whnf
      refine ⟨rfl, rfl, hk, most_le (by simp; omega), ?_⟩
      conv => whnf
      refine cond_intro (by show (true && ((els.length + 1 == (els ++ [rowL r]).length) && true)) = true; simp) ?_
      conv => whnf
      exact ⟨(IntKind.wrap .i64 (((2 : Nat) : Int) + 1), els ++ [rowL r], els.length + 1), fgtC rfl rfl rfl rfl rfl rfl rfl rfl rfl rfl rfl (by kernel_rfl), ⟨2 + 1, nx (i := 2) (by omega), by omega, by rw [he, htk, List.map_append]; rfl, by simp⟩, by show ((P.length : Int) - IntKind.wrap .i64 (((2 : Nat) : Int) + 1)).toNat < ((P.length : Int) - ((2 : Nat) : Int)).toNat; rw [nx (i := 2) (by omega)]; omega⟩
end Go.Proofs.YtmkmegcconjgoaaG
