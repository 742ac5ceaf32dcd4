/- The program's enumeration, walked: all shifts filled in; the next choice. No condition. -/
import Derived.Test.YtmkmegcconjgoaaQ12
set_option linter.unusedVariables false
set_option linter.unusedSimpArgs false
set_option maxRecDepth 100000
set_option maxHeartbeats 4000000
namespace Go.Proofs.YtmkmegcconjgoaaG
open Go Go.AM Go.Proofs

theorem rem_nat (i O : Nat) : ((i : Int)).tmod (O : Int) = ((i % O : Nat) : Int) := by rw [Int.tmod_eq_emod_of_nonneg (by omega)]; rfl
theorem quo_nat (i O : Nat) : ((i : Int)).tdiv (O : Int) = ((i / O : Nat) : Int) := by rw [Int.tdiv_eq_ediv_of_nonneg (by omega)]; rfl
theorem fill_loop (s : Season) (hf : Fr s) (hm3 : s.makers.length ≤ 3) (H : Hand) (lp : Nat) (σ : Option Plan × Int) (ch : List Int) (hc : OkCs s ch) (p : Plan) (hp : Shp s p)
    (Q : QB) (t : Nat → AC) (b' : Nat → ABlk)
    (h0 : St.forget ⟨t, b'⟩ [0, 1, 2, 3, 5, 7, 38, 39, 40] LS2 = ⟨mkT (tO s lp ++ [(38, .row 1002 0 (s.days.toNat * s.ovens.length) (s.days.toNat * s.ovens.length)), (39, .d (int ((s.days.toNat * s.ovens.length : Nat) : Int))), (40, .d (int 0))]), stP σ (cellsP s) (blkP p 0) (blkP p 1) (blkP p 2) (.row 1 (ch.map i1))⟩)
    (hQ : ∀ t' : Nat → AC, (mkT ([0, 1, 2, 3, 5, 7].map fun i => (i, t' i)) = mkT (tO s lp)) → Q (.exit 4) t' (stP σ (cellsP s) (blkP (planC s ch) 0) (blkP (planC s ch) 1) (blkP (planC s ch) 2) (.row 1 (ch.map i1)))) :
    LoopB (fun Q t b => bwp Try.prog H false [1, 2, 3, 4, 6] l31i95_2 Q t b) [0, 1, 2, 3, 5, 7, 38, 39, 40] LS2 Q t b' := by
  have hcl := hc.1
  have hno := hf.no
  have hdy := hf.days
  obtain ⟨A, hA⟩ : ∃ A, fillL s 0 ch p = A := ⟨_, rfl⟩
  rw [← fill_plan hf hc hp, hA] at hQ
  have hNs : s.days.toNat * s.ovens.length ≤ 14 * 3 := Nat.mul_le_mul (by omega) hno
  obtain ⟨N, hN⟩ : ∃ N, s.days.toNat * s.ovens.length = N := ⟨_, rfl⟩
  have htO : ∀ l, tO s lp ++ l = tO s lp ++ l := fun _ => rfl
  refine loopB (fun (x : Int × Plan) => ⟨mkT (tO s lp ++ [(38, .row 1002 0 (s.days.toNat * s.ovens.length) (s.days.toNat * s.ovens.length)), (39, .d (int ((s.days.toNat * s.ovens.length : Nat) : Int))), (40, .d (int x.1))]), stP σ (cellsP s) (blkP x.2 0) (blkP x.2 1) (blkP x.2 2) (.row 1 (ch.map i1))⟩)
    (fun x => ∃ i : Nat, x.1 = i ∧ i ≤ ch.length ∧ Shp s x.2 ∧ fillL s i (ch.drop i) x.2 = A) (fun x => (ch.length - x.1).toNat) (0, p) h0 ⟨0, rfl, by omega, hp, hA⟩ ?_
  rintro ⟨_, q⟩ ⟨i, rfl, hi, hq, he⟩
  simp only at hq he
  conv => whnf
  cases c1 : decide ((i : Int) < ((s.days.toNat * s.ovens.length : Nat) : Int))
  · have hi' : i = ch.length := by have := of_decide_eq_false c1; rw [← hcl] at this; omega
    rw [hi', drop_end] at he
    have he : q = A := he
    subst he
    conv => whnf
    exact hQ _ (by kernel_rfl)
  · have hi' : i < ch.length := by have := of_decide_eq_true c1; rw [← hcl] at this; omega
    obtain ⟨c, hcx⟩ := get_lt hi'
    have hok := hc.2 i c hcx
    have hO : 0 < s.ovens.length := by
      rcases Nat.eq_zero_or_pos s.ovens.length with h | h
      · rw [h, Nat.mul_zero] at hcl; omega
      · exact h
    have hk := Nat.mod_lt i hO
    have hdd : i / s.ovens.length < s.days.toNat := (Nat.div_lt_iff_lt_mul hO).2 (by omega)
    rw [drop_at hcx, fillL] at he
    unfold OkC at hok
    obtain ⟨row, hrow⟩ := get_lt (xs := shiftsF s ((i % s.ovens.length : Nat) : Int)) (i := c.toNat) (by omega)
    have hrl := (shifts_mem.1 (List.mem_of_getElem? hrow)).1
    have hst : stepF s i c q = setD (i / s.ovens.length) (makersF s ((i % s.ovens.length : Nat) : Int)) row q := by
      unfold stepF rowOf; rw [getD_of hrow]
    rw [hst] at he
    have hof : (ofF s)[i % s.ovens.length]? = some (makersF s ((i % s.ovens.length : Nat) : Int)) := by unfold ofF; rw [List.getElem?_map, List.getElem?_range hk]; rfl
    have e1 : ((i : Int)).tmod ((s.ovens.map i2).length : Int) = ((i % s.ovens.length : Nat) : Int) := by rw [List.length_map]; exact rem_nat _ _
    have e2 : IntKind.wrap .i64 (((i : Int)).tdiv ((s.ovens.map i2).length : Int)) = ((i / s.ovens.length : Nat) : Int) := by rw [List.length_map, quo_nat]; generalize i / s.ovens.length = z at hdd ⊢; exact wr_eq (by omega)
    conv => whnf
    refine ⟨by omega, by omega, ?_⟩
    conv => whnf
    refine ⟨by simp; omega, ?_⟩
    conv => whnf
    refine ⟨by simp; omega, _, (by rw [Nat.zero_add]; exact gm hcx), ?_⟩
    conv => whnf
    refine ⟨by rw [List.length_map]; omega, ?_⟩
    conv => whnf
    refine ⟨by rw [List.length_map]; omega, ?_⟩
    rw [e1, e2]
    conv => whnf
    refine ⟨by omega, _, gm hof, ?_⟩
    conv => whnf
    refine row_loop s hf hm3 H lp σ ch (i % s.ovens.length) (i / s.ovens.length) hk (by omega) c (i : Int) row hrow hok.1 hrl q hq _ _ _ ?_ ?_
    · exact fgtS rfl rfl rfl rfl rfl rfl rfl rfl rfl rfl (by kernel_rfl)
    · intro t' ht
      have g0 : t' 0 = _ := congrFun ht 0
      have g1 : t' 1 = _ := congrFun ht 1
      have g2 : t' 2 = _ := congrFun ht 2
      have g3 : t' 3 = _ := congrFun ht 3
      have g5 : t' 5 = _ := congrFun ht 5
      have g7 : t' 7 = _ := congrFun ht 7
      have g38 : t' 38 = _ := congrFun ht 38
      have g39 : t' 39 = _ := congrFun ht 39
      have g40 : t' 40 = .d (int (i : Int)) := congrFun ht 40
      conv => whnf
      rw [show evO t' (.t 40) = .d (int (i : Int)) from g40]
      conv => whnf
      refine ⟨(IntKind.wrap .i64 ((i : Int) + 1), setD (i / s.ovens.length) (makersF s ((i % s.ovens.length : Nat) : Int)) row q), fgtS rfl rfl rfl rfl rfl rfl rfl rfl rfl rfl ?_, ⟨i + 1, nx (by omega), by omega, setD_shp hq hrl, he⟩, by simp only; rw [nx (by omega)]; omega⟩
      show mkT [(0, scrC LS2 (t' 0)), (1, scrC LS2 (t' 1)), (2, scrC LS2 (t' 2)), (3, scrC LS2 (t' 3)), (5, scrC LS2 (t' 5)), (7, scrC LS2 (t' 7)), (38, scrC LS2 (t' 38)), (39, scrC LS2 (t' 39)), (40, _)] = _
      rw [g0, g1, g2, g3, g5, g7, g38, g39]
      rfl
end Go.Proofs.YtmkmegcconjgoaaG
