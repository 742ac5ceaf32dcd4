/- The program's search, walked: empty rows. No condition. -/
import Derived.Test.YtmkmegcconjgoaaQ15
set_option linter.unusedVariables false
set_option linter.unusedSimpArgs false
set_option maxRecDepth 100000
set_option maxHeartbeats 4000000
namespace Go.Proofs.YtmkmegcconjgoaaG
open Go Go.AM Go.Proofs

@[reducible] def LS0 : List Nat := [1, 2, 3, 4, 6, 1000, 1001, 1003, 1004]
@[reducible] def rwB (cells : List AC) (p : Plan) : Nat → ABlk := mkB [(1, .var [.d nilD]), (2, .var [.d (int 0)]), (3, .var [.d (boolD false)]), (4, .dead), (6, .fresh), (1000, .var cells), (1001, blkP p 0), (1003, blkP p 1), (1004, blkP p 2)]
def cells0 (M D i : Nat) : List AC := (List.range i).map (rowC D) ++ List.replicate (M - i) (.d nilD)
theorem scr0 (p : Plan) (i : Nat) : scrB LS0 (blkP p i) = blkP p i := by unfold blkP; split <;> rfl
theorem cells0_scr {M D i : Nat} : (cells0 M D i).map (scrC LS0) = cells0 M D i := by
  unfold cells0
  rw [List.map_append, List.map_map]
  congr 1
  · refine List.map_congr_left fun i _ => ?_
    match i with
    | 0 => rfl
    | 1 => rfl
    | _ + 2 => rfl
  · rw [List.map_replicate]; rfl
theorem fgt0 {t T : Nat → AC} {b : Nat → ABlk} {lt : List Nat} {cells : List AC} {p : Plan} (h1 : b 1 = .var [.d nilD]) (h2 : b 2 = .var [.d (int 0)]) (h3 : b 3 = .var [.d (boolD false)]) (h4 : b 4 = .dead) (h6 : b 6 = .fresh)
    (hc : b 1000 = .var cells) (hs : cells.map (scrC LS0) = cells) (k1 : b 1001 = blkP p 0) (k3 : b 1003 = blkP p 1) (k4 : b 1004 = blkP p 2) (ht : mkT (lt.map fun i => (i, scrC LS0 (t i))) = T) :
    St.forget ⟨t, b⟩ lt LS0 = ⟨T, rwB cells p⟩ := by
  have h2' : (St.forget ⟨t, b⟩ lt LS0).t = T := ht
  have h1' : (St.forget ⟨t, b⟩ lt LS0).b = rwB cells p := by
    show mkB [(1, scrB LS0 (b 1)), (2, scrB LS0 (b 2)), (3, scrB LS0 (b 3)), (4, scrB LS0 (b 4)), (6, scrB LS0 (b 6)), (1000, scrB LS0 (b 1000)), (1001, scrB LS0 (b 1001)), (1003, scrB LS0 (b 1003)), (1004, scrB LS0 (b 1004))] = _
    rw [h1, h2, h3, h4, h6, hc, k1, k3, k4, scr0, scr0, scr0, show scrB LS0 (.var cells) = .var cells from by show ABlk.var (cells.map (scrC LS0)) = _; rw [hs]]
    rfl
  calc St.forget ⟨t, b⟩ lt LS0 = ⟨(St.forget ⟨t, b⟩ lt LS0).t, (St.forget ⟨t, b⟩ lt LS0).b⟩ := rfl
    _ = _ := by rw [h1', h2']
structure AtR (s : Season) (lp : Nat) (u : St) : Prop where
  t0 : u.t 0 = .d (.v (.func (.yield lp) #[] #[]))
  t1 : u.t 1 = .d (.fptr (cellsS s))
  t2 : u.t 2 = .d (.fptr [planD (ofF s)])
  t3 : u.t 3 = .d (.fptr [allsD (allsF s)])
  t5 : u.t 5 = .vs 1000 0 (s.makers.map mkL).length
  b1 : u.b 1 = .var [.d nilD]
  b2 : u.b 2 = .var [.d (int 0)]
  b3 : u.b 3 = .var [.d (boolD false)]
  b4 : u.b 4 = .dead
  b6 : u.b 6 = .fresh
  bc : u.b 1000 = .var (cellsP s)
  bn : u.b 1002 = .fresh
  k1 : u.b 1001 = blkP (blankP s) 0
  k3 : u.b 1003 = blkP (blankP s) 1
  k4 : u.b 1004 = blkP (blankP s) 2
theorem mksA_intro {σ : St} {s esz : Nat} {zs : List Z} {x : Opnd} {K : AC → (Nat → ABlk) → Prop} {n : Int} (hx : evO σ.t x = .d (.v (.int .i64 n))) (hb : σ.b s = .fresh) (h0 : 0 ≤ n) (h1 : n ≤ most)
    (hK : K (.row s 0 n.toNat n.toNat) (upd σ.b s (.row esz (List.replicate n.toNat (zs.map fun z => .v z.val))))) : mksA σ s esz zs x K := by
  unfold mksA; rw [hx, hb]; exact ⟨h0, h1, hK⟩
theorem rows_loop (s : Season) (hf : Fr s) (hm3 : s.makers.length ≤ 3) (H : Hand) (lp : Nat) (Q : QB) (t : Nat → AC) (b' : Nat → ABlk)
    (h0 : St.forget ⟨t, b'⟩ [0, 1, 2, 3, 5, 20, 21] LS0 = ⟨mkT [(0, .d (.v (.func (.yield lp) #[] #[]))), (1, .d (.fptr (cellsS s))), (2, .d (.fptr [planD (ofF s)])), (3, .d (.fptr [allsD (allsF s)])), (5, .vs 1000 0 (s.makers.map mkL).length), (20, .d (int ((s.makers.map mkL).length : Int))), (21, .d (int 0))], rwB (cells0 s.makers.length s.days.toNat 0) []⟩)
    (hQ : Q (.exit 0) (fun i => bif i.beq 22 then bC false else mkT [(0, .d (.v (.func (.yield lp) #[] #[]))), (1, .d (.fptr (cellsS s))), (2, .d (.fptr [planD (ofF s)])), (3, .d (.fptr [allsD (allsF s)])), (5, .vs 1000 0 (s.makers.map mkL).length), (20, .d (int ((s.makers.map mkL).length : Int))), (21, .d (int (s.makers.length : Int)))] i) (rwB (cellsP s) (blankP s))) :
    LoopB (fun Q t b => bwp Try.prog H false [1, 2, 3, 4, 6] l31i95_0 Q t b) [0, 1, 2, 3, 5, 20, 21] LS0 Q t b' := by
  have hml : (s.makers.map mkL).length = s.makers.length := List.length_map _
  have hd := hf.days
  refine loopB (fun (x : Int × List AC × Plan) => ⟨mkT [(0, .d (.v (.func (.yield lp) #[] #[]))), (1, .d (.fptr (cellsS s))), (2, .d (.fptr [planD (ofF s)])), (3, .d (.fptr [allsD (allsF s)])), (5, .vs 1000 0 (s.makers.map mkL).length), (20, .d (int ((s.makers.map mkL).length : Int))), (21, .d (int x.1))], rwB x.2.1 x.2.2⟩)
    (fun x => ∃ i : Nat, x.1 = i ∧ i ≤ s.makers.length ∧ x.2.1 = cells0 s.makers.length s.days.toNat i ∧ x.2.2 = List.replicate i (List.replicate s.days.toNat 0)) (fun x => (s.makers.length - x.1).toNat) (0, cells0 s.makers.length s.days.toNat 0, []) h0 ⟨0, rfl, by omega, rfl, rfl⟩ ?_
  rintro ⟨_, cs, q⟩ ⟨i, rfl, hi, hc, hq⟩
  simp only at hc hq
  conv => whnf
  cases c1 : decide ((i : Int) < ((s.makers.map mkL).length : Int))
  · have hi' : i = s.makers.length := by have := of_decide_eq_false c1; omega
    have hc : cs = cellsP s := by rw [hc, hi']; unfold cells0 cellsP; simp
    have hq : q = blankP s := by rw [hq, hi']; rfl
    subst hc hq hi'
    conv => whnf
    exact hQ
  · have hi' : i < s.makers.length := by have := of_decide_eq_true c1; omega
    have hn3 : i < 3 := by omega
    have hcl : cs.length = s.makers.length := by rw [hc]; simp [cells0]; omega
    have hnew : cs.take i ++ [rowC s.days.toNat i] ++ cs.drop (i + 1) = cells0 s.makers.length s.days.toNat (i + 1) := by
      rw [hc]
      unfold cells0
      rw [List.take_left' (by simp), List.drop_append, List.drop_of_length_le (by simp), List.range_succ, List.map_append]
      simp
      omega
    have hqn : ∀ j, blkP (List.replicate (i + 1) (List.replicate s.days.toNat (0 : Int))) j = if j = i then .row 1 ((List.replicate s.days.toNat (0 : Int)).map i1) else blkP q j := fun j => by
      rw [hq]
      unfold blkP
      simp only [List.getElem?_replicate]
      by_cases h1 : j < i
      · rw [if_pos (by omega), if_pos h1, if_neg (by omega)]
      · by_cases h2 : j = i
        · rw [if_pos (by omega), if_pos h2]
        · rw [if_neg (by omega), if_neg h1, if_neg h2]
    have hfr : blkP q i = .fresh := by rw [hq]; unfold blkP; simp
    have hko : ∀ j, j ≠ i → blkP q j = blkP (List.replicate (i + 1) (List.replicate s.days.toNat (0 : Int))) j := fun j hj => by rw [hqn, if_neg hj]
    have hki : ABlk.row 1 (List.replicate s.days.toNat [D.v (Z.val (.i .i64))]) = blkP (List.replicate (i + 1) (List.replicate s.days.toNat (0 : Int))) i := by
      rw [hqn, if_pos rfl, List.map_replicate]; rfl
    clear hqn
    conv => whnf
    match i, hn3, hi', hnew, hfr, hko, hki with
    | 0, _, hi', hnew, hfr, hko, hki =>
      refine ⟨1001, by simp, mksA_intro (n := s.days) rfl hfr (by omega) (by unfold most; omega) ?_⟩
      conv => whnf
      refine ⟨by omega, by omega, ?_⟩
      conv => whnf
      refine cond_intro (by show (true && ((s.days.toNat == (List.replicate s.days.toNat [D.v (Z.val (.i .i64))]).length) && true)) = true; simp) ?_
      conv => whnf
      refine cond_intro (decide_eq_true (by show 0 + 0 + 1 ≤ cs.length; omega)) ?_
      conv => whnf
      exact ⟨(IntKind.wrap .i64 (((0 : Nat) : Int) + 1), cells0 s.makers.length s.days.toNat (0 + 1), List.replicate (0 + 1) (List.replicate s.days.toNat 0)), fgt0 rfl rfl rfl rfl rfl (congrArg ABlk.var hnew) cells0_scr hki (hko 1 (by decide)) (hko 2 (by decide)) (by kernel_rfl), ⟨0 + 1, nx (i := 0) (by omega), by omega, rfl, rfl⟩, by show ((s.makers.length : Int) - IntKind.wrap .i64 (((0 : Nat) : Int) + 1)).toNat < ((s.makers.length : Int) - ((0 : Nat) : Int)).toNat; rw [nx (i := 0) (by omega)]; omega⟩
    | 1, _, hi', hnew, hfr, hko, hki =>
      refine ⟨1003, by simp, mksA_intro (n := s.days) rfl hfr (by omega) (by unfold most; omega) ?_⟩
      conv => whnf
      refine ⟨by omega, by omega, ?_⟩
      conv => whnf
      refine cond_intro (by show (true && ((s.days.toNat == (List.replicate s.days.toNat [D.v (Z.val (.i .i64))]).length) && true)) = true; simp) ?_
      conv => whnf
      refine cond_intro (decide_eq_true (by show 0 + 1 + 1 ≤ cs.length; omega)) ?_
      conv => whnf
      exact ⟨(IntKind.wrap .i64 (((1 : Nat) : Int) + 1), cells0 s.makers.length s.days.toNat (1 + 1), List.replicate (1 + 1) (List.replicate s.days.toNat 0)), fgt0 rfl rfl rfl rfl rfl (congrArg ABlk.var hnew) cells0_scr (hko 0 (by decide)) hki (hko 2 (by decide)) (by kernel_rfl), ⟨1 + 1, nx (i := 1) (by omega), by omega, rfl, rfl⟩, by show ((s.makers.length : Int) - IntKind.wrap .i64 (((1 : Nat) : Int) + 1)).toNat < ((s.makers.length : Int) - ((1 : Nat) : Int)).toNat; rw [nx (i := 1) (by omega)]; omega⟩
    | 2, _, hi', hnew, hfr, hko, hki =>
      refine ⟨1004, by simp, mksA_intro (n := s.days) rfl hfr (by omega) (by unfold most; omega) ?_⟩
      conv => whnf
      refine ⟨by omega, by omega, ?_⟩
      conv => whnf
      refine cond_intro (by show (true && ((s.days.toNat == (List.replicate s.days.toNat [D.v (Z.val (.i .i64))]).length) && true)) = true; simp) ?_
      conv => whnf
      refine cond_intro (decide_eq_true (by show 0 + 2 + 1 ≤ cs.length; omega)) ?_
      conv => whnf
      exact ⟨(IntKind.wrap .i64 (((2 : Nat) : Int) + 1), cells0 s.makers.length s.days.toNat (2 + 1), List.replicate (2 + 1) (List.replicate s.days.toNat 0)), fgt0 rfl rfl rfl rfl rfl (congrArg ABlk.var hnew) cells0_scr (hko 0 (by decide)) (hko 1 (by decide)) hki (by kernel_rfl), ⟨2 + 1, nx (i := 2) (by omega), by omega, rfl, rfl⟩, by show ((s.makers.length : Int) - IntKind.wrap .i64 (((2 : Nat) : Int) + 1)).toNat < ((s.makers.length : Int) - ((2 : Nat) : Int)).toNat; rw [nx (i := 2) (by omega)]; omega⟩
end Go.Proofs.YtmkmegcconjgoaaG
