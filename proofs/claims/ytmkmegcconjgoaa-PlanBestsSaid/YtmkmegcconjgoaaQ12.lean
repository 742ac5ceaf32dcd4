/- The program's enumeration, walked: filling in, carrying. No condition. -/
import Derived.Test.YtmkmegcconjgoaaQ11
set_option linter.unusedVariables false
set_option linter.unusedSimpArgs false
set_option maxRecDepth 100000
set_option maxHeartbeats 4000000
namespace Go.Proofs.YtmkmegcconjgoaaG
open Go Go.AM Go.Proofs

def slotOf : Nat → Nat
  | 0 => 1001
  | 1 => 1003
  | _ => 1004
def rowC (D i : Nat) : AC := .row (slotOf i) 0 D D
def blkP (p : Plan) (i : Nat) : ABlk := match p[i]? with
  | some r => .row 1 (r.map i1)
  | none => .fresh
@[reducible] def LS2 : List Nat := [1, 2, 3, 4, 6, 1000, 1001, 1002, 1003, 1004]
@[reducible] def stP (σ : Option Plan × Int) (cells : List AC) (b1 b3 b4 ch : ABlk) : Nat → ABlk := mkB [(1, .var [.d (bestD σ.1)]), (2, .var [.d (int σ.2)]), (3, .var [.d (boolD σ.1.isSome)]), (4, .dead), (6, .fresh), (1000, .var cells), (1001, b1), (1002, ch), (1003, b3), (1004, b4)]
def cellsP (s : Season) : List AC := (List.range s.makers.length).map (rowC s.days.toNat)
theorem cellsP_get {s : Season} {m : Nat} (h : m < s.makers.length) : (cellsP s)[m]? = some (rowC s.days.toNat m) := by unfold cellsP; rw [List.getElem?_map, List.getElem?_range h]; rfl
theorem cellsP_scr {s : Season} : (cellsP s).map (scrC LS2) = cellsP s := by
  unfold cellsP
  rw [List.map_map]
  refine List.map_congr_left fun i _ => ?_
  match i with
  | 0 => rfl
  | 1 => rfl
  | _ + 2 => rfl
theorem blkP_at {p : Plan} {i : Nat} {r : List Int} (h : p[i]? = some r) : blkP p i = .row 1 (r.map i1) := by unfold blkP; rw [h]
theorem blkP_set {p : Plan} {i j : Nat} {r : List Int} (h : i ≠ j) : blkP (p.set i r) j = blkP p j := by unfold blkP; rw [List.getElem?_set_ne h]
theorem blkP_self {p : Plan} {i : Nat} {r : List Int} (h : i < p.length) : blkP (p.set i r) i = .row 1 (r.map i1) := by unfold blkP; rw [List.getElem?_set_self h]
theorem rowEl (s : ABlk → ABlk) (x : ABlk) (h : ∀ els, x = .row 1 els ∨ x = .fresh → s x = x) : True := trivial
theorem scr_blk (p : Plan) (i : Nat) : scrB LS2 (blkP p i) = blkP p i := by unfold blkP; split <;> rfl
theorem fgtS {t T : Nat → AC} {b : Nat → ABlk} {lt : List Nat} {s : Season} {σ : Option Plan × Int} {p : Plan} {ch : List (List D)} (h1 : b 1 = .var [.d (bestD σ.1)]) (h2 : b 2 = .var [.d (int σ.2)]) (h3 : b 3 = .var [.d (boolD σ.1.isSome)]) (h4 : b 4 = .dead) (h6 : b 6 = .fresh)
    (hc : b 1000 = .var (cellsP s)) (k1 : b 1001 = blkP p 0) (kc : b 1002 = .row 1 ch) (k3 : b 1003 = blkP p 1) (k4 : b 1004 = blkP p 2) (ht : mkT (lt.map fun i => (i, scrC LS2 (t i))) = T) :
    St.forget ⟨t, b⟩ lt LS2 = ⟨T, stP σ (cellsP s) (blkP p 0) (blkP p 1) (blkP p 2) (.row 1 ch)⟩ := by
  have h2' : (St.forget ⟨t, b⟩ lt LS2).t = T := ht
  have h1' : (St.forget ⟨t, b⟩ lt LS2).b = stP σ (cellsP s) (blkP p 0) (blkP p 1) (blkP p 2) (.row 1 ch) := by
    show mkB [(1, scrB LS2 (b 1)), (2, scrB LS2 (b 2)), (3, scrB LS2 (b 3)), (4, scrB LS2 (b 4)), (6, scrB LS2 (b 6)), (1000, scrB LS2 (b 1000)), (1001, scrB LS2 (b 1001)), (1002, scrB LS2 (b 1002)), (1003, scrB LS2 (b 1003)), (1004, scrB LS2 (b 1004))] = _
    rw [h1, h2, h3, h4, h6, hc, k1, kc, k3, k4, scr_blk, scr_blk, scr_blk, show scrB LS2 (.var (cellsP s)) = .var (cellsP s) from by show ABlk.var ((cellsP s).map (scrC LS2)) = _; rw [cellsP_scr]]
    rfl
  calc St.forget ⟨t, b⟩ lt LS2 = ⟨(St.forget ⟨t, b⟩ lt LS2).t, (St.forget ⟨t, b⟩ lt LS2).b⟩ := rfl
    _ = _ := by rw [h1', h2']
@[reducible] def tO (s : Season) (lp : Nat) : List (Nat × AC) := [(0, .d (.v (.func (.yield lp) #[] #[]))), (1, .d (.fptr (cellsS s))), (2, .d (.fptr [planD (ofF s)])), (3, .d (.fptr [allsD (allsF s)])), (5, .vs 1000 0 (s.makers.map mkL).length), (7, .row 1002 0 (s.days.toNat * s.ovens.length) (s.days.toNat * s.ovens.length))]
theorem row_loop (s : Season) (hf : Fr s) (hm3 : s.makers.length ≤ 3) (H : Hand) (lp : Nat) (σ : Option Plan × Int) (ch : List Int) (k d : Nat) (hk : k < s.ovens.length) (hd : (d : Int) < s.days) (c : Int) (i : Int) (row : List Int) (hrow : (shiftsF s (k : Int))[c.toNat]? = some row) (hc0 : 0 ≤ c) (hrl : row.length = (makersF s (k : Int)).length) (p : Plan) (hp : Shp s p)
    (Q : QB) (t : Nat → AC) (b' : Nat → ABlk)
    (h0 : St.forget ⟨t, b'⟩ [0, 1, 2, 3, 5, 7, 9, 10, 11, 38, 39, 40, 58, 59, 60] LS2 = ⟨mkT (tO s lp ++ [(9, .d (int c)), (10, .d (int (k : Int))), (11, .d (int (d : Int))), (38, .row 1002 0 (s.days.toNat * s.ovens.length) (s.days.toNat * s.ovens.length)), (39, .d (int ((s.days.toNat * s.ovens.length : Nat) : Int))), (40, .d (int i)), (58, .d (rowD (makersF s (k : Int)))), (59, .d (int ((makersF s (k : Int)).map i1).length)), (60, .d (int 0))]), stP σ (cellsP s) (blkP p 0) (blkP p 1) (blkP p 2) (.row 1 (ch.map i1))⟩)
    (hQ : ∀ t' : Nat → AC, (mkT ([0, 1, 2, 3, 5, 7, 38, 39, 40].map fun i => (i, t' i)) = mkT (tO s lp ++ [(38, .row 1002 0 (s.days.toNat * s.ovens.length) (s.days.toNat * s.ovens.length)), (39, .d (int ((s.days.toNat * s.ovens.length : Nat) : Int))), (40, .d (int i))])) → Q (.exit 6) t' (stP σ (cellsP s) (blkP (setD d (makersF s (k : Int)) row p) 0) (blkP (setD d (makersF s (k : Int)) row p) 1) (blkP (setD d (makersF s (k : Int)) row p) 2) (.row 1 (ch.map i1)))) :
    LoopB (fun Q t b => bwp Try.prog H false [1, 2, 3, 4, 6] l31i95_1 Q t b) [0, 1, 2, 3, 5, 7, 9, 10, 11, 38, 39, 40, 58, 59, 60] LS2 Q t b' := by
  have hml := Nat.le_trans (makersF_len s (k : Int)) hm3
  have hmm : ∀ m ∈ makersF s (k : Int), 0 ≤ m ∧ m < s.makers.length := fun m hm => makersF_mem hm
  have hall := alls_get hk
  obtain ⟨ms, hms⟩ : ∃ ms, makersF s (k : Int) = ms := ⟨_, rfl⟩
  rw [hms] at hml hmm hrl h0 hQ
  obtain ⟨A, hA⟩ : ∃ A, setD d ms row p = A := ⟨_, rfl⟩
  rw [hA] at hQ
  have hml2 : (s.makers.map mkL).length = s.makers.length := List.length_map _
  refine loopB (fun (x : Int × Plan) => ⟨mkT (tO s lp ++ [(9, .d (int c)), (10, .d (int (k : Int))), (11, .d (int (d : Int))), (38, .row 1002 0 (s.days.toNat * s.ovens.length) (s.days.toNat * s.ovens.length)), (39, .d (int ((s.days.toNat * s.ovens.length : Nat) : Int))), (40, .d (int i)), (58, .d (rowD ms)), (59, .d (int (ms.map i1).length)), (60, .d (int x.1))]), stP σ (cellsP s) (blkP x.2 0) (blkP x.2 1) (blkP x.2 2) (.row 1 (ch.map i1))⟩)
    (fun x => ∃ j : Nat, x.1 = j ∧ j ≤ ms.length ∧ Shp s x.2 ∧ setD d (ms.drop j) (row.drop j) x.2 = A) (fun x => (ms.length - x.1).toNat) (0, p) h0 ⟨0, rfl, by omega, hp, hA⟩ ?_
  rintro ⟨_, q⟩ ⟨j, rfl, hj, hq, he⟩
  simp only at hq he
  have hql := hq.len
  conv => whnf
  cases c1 : decide ((j : Int) < ((ms.map i1).length : Int))
  · have hj' : j = ms.length := by have := of_decide_eq_false c1; rw [List.length_map] at this; omega
    rw [hj', drop_end] at he
    have he : q = A := he
    subst he
    conv => whnf
    exact hQ _ (by kernel_rfl)
  · have hj' : j < ms.length := by have := of_decide_eq_true c1; rw [List.length_map] at this; omega
    obtain ⟨m, hm⟩ := get_lt hj'
    obtain ⟨x, hx⟩ := get_lt (xs := row) (i := j) (by omega)
    have hmr := hmm m (List.mem_of_getElem? hm)
    obtain ⟨r, hr⟩ := get_lt (xs := q) (i := m.toNat) (by omega)
    have hrl2 := hq.rows r (List.mem_of_getElem? hr)
    rw [drop_at hm, drop_at hx, setD, getD_of hr] at he
    conv => whnf
    refine ⟨by omega, _, (by first | exact gm (by assumption) | exact gz (by assumption)), ?_⟩
    conv => whnf
    refine ⟨hmr.1, by omega, ?_⟩
    have hcell : (cellsP s)[0 + m.toNat]? = some (rowC s.days.toNat m.toNat) := by rw [Nat.zero_add]; exact cellsP_get (by omega)
    conv => whnf
    rw [hcell]
    obtain ⟨n, hn⟩ : ∃ n, m.toNat = n := ⟨_, rfl⟩
    have hn3 : n < 3 := by omega
    rw [hn] at hr he ⊢
    obtain ⟨y, hy⟩ := get_lt (xs := r) (i := d) (by omega)
    have hshp : ∀ n', n' = n → Shp s (q.set n' (r.set d x)) := fun n' e => by
      subst e
      refine ⟨by rw [List.length_set]; exact hql, fun u hu => ?_⟩
      rcases List.mem_or_eq_of_mem_set hu with h | h
      · exact hq.rows u h
      · rw [h, List.length_set]; exact hrl2
    match n, hn3 with
    | 0, _ =>
      have hself : ∀ els, els = (r.set d x).map i1 → ABlk.row 1 els = blkP (q.set 0 (r.set d x)) 0 := fun els e => by rw [blkP_self (by omega), e]
      have hst : ((r.map i1).set (0 + ((d : Nat) : Int).toNat) (List.take 0 (i1 y) ++ [int x] ++ List.drop (0 + 1) (i1 y))) = (r.set d x).map i1 := by
        rw [Nat.zero_add, Int.toNat_natCast, List.map_set]; rfl
      conv => whnf
      refine ⟨by omega, _, gm hall, ?_⟩
      conv => whnf
      refine ⟨hc0, _, gz hrow, ?_⟩
      conv => whnf
      refine ⟨by omega, _, gm hx, ?_⟩
      conv => whnf
      refine ⟨by omega, by omega, ?_⟩
      rw [blkP_at hr]
      conv => whnf
      refine ⟨by simp; omega, ?_⟩
      conv => whnf
      refine ⟨1001, by simp, ?_⟩
      conv => whnf
      refine ⟨by simp; omega, _, (by rw [Nat.zero_add]; exact gm hy), ?_⟩
      conv => whnf
      exact ⟨(IntKind.wrap .i64 ((j : Int) + 1), q.set 0 (r.set d x)), fgtS rfl rfl rfl rfl rfl rfl (hself _ hst) rfl (blkP_set (by decide)).symm (blkP_set (by decide)).symm (by kernel_rfl), ⟨j + 1, nx (by omega), by omega, hshp 0 (by omega), he⟩, by simp only; rw [nx (by omega)]; omega⟩
    | 1, _ =>
      have hself : ∀ els, els = (r.set d x).map i1 → ABlk.row 1 els = blkP (q.set 1 (r.set d x)) 1 := fun els e => by rw [blkP_self (by omega), e]
      have hst : ((r.map i1).set (0 + ((d : Nat) : Int).toNat) (List.take 0 (i1 y) ++ [int x] ++ List.drop (0 + 1) (i1 y))) = (r.set d x).map i1 := by
        rw [Nat.zero_add, Int.toNat_natCast, List.map_set]; rfl
      conv => whnf
      refine ⟨by omega, _, gm hall, ?_⟩
      conv => whnf
      refine ⟨hc0, _, gz hrow, ?_⟩
      conv => whnf
      refine ⟨by omega, _, gm hx, ?_⟩
      conv => whnf
      refine ⟨by omega, by omega, ?_⟩
      rw [blkP_at hr]
      conv => whnf
      refine ⟨by simp; omega, ?_⟩
      conv => whnf
      refine ⟨1003, by simp, ?_⟩
      conv => whnf
      refine ⟨by simp; omega, _, (by rw [Nat.zero_add]; exact gm hy), ?_⟩
      conv => whnf
      exact ⟨(IntKind.wrap .i64 ((j : Int) + 1), q.set 1 (r.set d x)), fgtS rfl rfl rfl rfl rfl rfl (blkP_set (by decide)).symm rfl (hself _ hst) (blkP_set (by decide)).symm (by kernel_rfl), ⟨j + 1, nx (by omega), by omega, hshp 1 (by omega), he⟩, by simp only; rw [nx (by omega)]; omega⟩
    | 2, _ =>
      have hself : ∀ els, els = (r.set d x).map i1 → ABlk.row 1 els = blkP (q.set 2 (r.set d x)) 2 := fun els e => by rw [blkP_self (by omega), e]
      have hst : ((r.map i1).set (0 + ((d : Nat) : Int).toNat) (List.take 0 (i1 y) ++ [int x] ++ List.drop (0 + 1) (i1 y))) = (r.set d x).map i1 := by
        rw [Nat.zero_add, Int.toNat_natCast, List.map_set]; rfl
      conv => whnf
      refine ⟨by omega, _, gm hall, ?_⟩
      conv => whnf
      refine ⟨hc0, _, gz hrow, ?_⟩
      conv => whnf
      refine ⟨by omega, _, gm hx, ?_⟩
      conv => whnf
      refine ⟨by omega, by omega, ?_⟩
      rw [blkP_at hr]
      conv => whnf
      refine ⟨by simp; omega, ?_⟩
      conv => whnf
      refine ⟨1004, by simp, ?_⟩
      conv => whnf
      refine ⟨by simp; omega, _, (by rw [Nat.zero_add]; exact gm hy), ?_⟩
      conv => whnf
      exact ⟨(IntKind.wrap .i64 ((j : Int) + 1), q.set 2 (r.set d x)), fgtS rfl rfl rfl rfl rfl rfl (blkP_set (by decide)).symm rfl (blkP_set (by decide)).symm (hself _ hst) (by kernel_rfl), ⟨j + 1, nx (by omega), by omega, hshp 2 (by omega), he⟩, by simp only; rw [nx (by omega)]; omega⟩
end Go.Proofs.YtmkmegcconjgoaaG
