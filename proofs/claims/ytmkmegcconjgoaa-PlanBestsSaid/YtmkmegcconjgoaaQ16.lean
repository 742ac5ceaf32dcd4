/- The program's best plan. No condition. -/
import Derived.Test.YtmkmegcconjgoaaQ15b
set_option linter.unusedVariables false
set_option linter.unusedSimpArgs false
set_option maxRecDepth 100000
set_option maxHeartbeats 4000000
namespace Go.Proofs.YtmkmegcconjgoaaG
open Go Go.AM Go.Proofs

theorem small_of {s : Season} (hf : Fr s) {p : Plan} (hp : POk s p) : Small p := by
  have hnm := hf.nm
  have hd := hf.days
  have hl := hp.len
  have hna := hf.na
  refine ⟨by omega, fun r hr => ?_⟩
  obtain ⟨h1, h2⟩ := hp.rows r hr
  exact ⟨by omega, fun x hx => by have := h2 x hx; omega⟩
theorem call3 {t : Nat → AC} {b : Nat → ABlk} {o1 o2 o3 : Opnd} {d e f : D} (h1 : Go.AM.snap b 4 (evO t o1) = some d) (h2 : Go.AM.snap b 4 (evO t o2) = some e) (h3 : Go.AM.snap b 4 (evO t o3) = some f) : ([o1, o2, o3].map (evO t)).mapM (Go.AM.snap b 4) = some [d, e, f] := by
  simp [List.mapM_cons, h1, h2, h3]
theorem bestT_ok (s : Season) (hs : Sm s) (h3 : s.makers.length ≤ 3 ∨ 6 < s.makers.length) : PureFn Try.prog 31 [seasonD s] (bestPlan s) := by
  have ck := check_ok s hs
  unfold bestPlan
  by_cases hE : checkE s = 0
  · rw [if_neg (by omega)]
    have hf := check_fr hs hE
    have hnm := hf.nm
    have hno := hf.no
    have hdy := hf.days
    have hm3 : s.makers.length ≤ 3 := by omega
    have hal : (allsF s).length = s.ovens.length := by simp [allsF]
    have hfew := few_ok s hf (allsF s) (alls_few hf hm3)
    have hnone := anyNone_ok (allsF s) (by omega)
    have htell := plansTell_ok s hf (allsF s)
    have hpok := bestP_ok hf
    rw [hE] at ck
    rw [show ((allsF s).any fun x => decide (x.length = 0)) = noneF s from rfl] at hnone
    obtain ⟨R, hR⟩ : ∃ R, (if noneF s = true then D.tup [nilD, int 0, boolD false, int 0] else if fewF s (allsF s) = false then D.tup [nilD, int 0, boolD false, int 9] else topP s (bestP s)) = R := ⟨_, rfl⟩
    rw [hR]
    refine pureFn_by Try.func31 k31 rfl rfl ?_
    conv => whnf
    refine ⟨_, ck, ?_⟩
    conv => whnf
    refine loopB (fun (x : Int × List (List D) × Nat) => ⟨mkT [(1, .d (.fptr (cellsS s))), (2, .ptr 1 0), (3, .ptr 2 0), (4, .ptr 3 0), (5, .d (int 0)), (7, .row 4 0 x.2.2 x.2.2), (20, .d (int (s.ovens.map i2).length)), (21, .d (int x.1))], mkB [(1, .var [.d nilD]), (2, .var [.d (int 0)]), (3, .var [.d (boolD false)]), (4, .row 1 x.2.1)]⟩)
      (fun x => ∃ k : Nat, x.1 = k ∧ k ≤ s.ovens.length ∧ x.2.1 = ((allsF s).take k).map plansL ∧ x.2.2 = x.2.1.length) (fun x => (s.ovens.length - x.1).toNat) (0, [], 0) (by kernel_rfl) ⟨0, rfl, by omega, rfl, rfl⟩ ?_
    rintro ⟨_, els, n⟩ ⟨k, rfl, hk, he, hn⟩
    simp only at he hn
    conv => whnf
    cases q1 : decide ((k : Int) < ((s.ovens.map i2).length : Int))
    · have hk' : k = s.ovens.length := by have := of_decide_eq_false q1; rw [List.length_map] at this; omega
      rw [hk', ← hal, List.take_length] at he
      subst he
      conv => whnf
      rw [call2 (d := allsD (allsF s)) (e := .clo 66 [] []) (snap_row0 (s := 4) (esz := 1) (els := (allsF s).map plansL) rfl hn) rfl]
      conv => whnf
      refine ⟨_, hnone, rfl, ?_⟩
      cases c1 : noneF s
      · rw [c1, if_neg (by simp)] at hR
        conv => whnf
        rw [call2 (d := seasonD s) (e := allsD (allsF s)) rfl (snap_row0 (s := 4) (esz := 1) (els := (allsF s).map plansL) rfl hn)]
        conv => whnf
        refine ⟨_, hfew, rfl, ?_⟩
        cases c2 : fewF s (allsF s)
        · rw [c2, if_pos rfl] at hR
          rw [← hR]
          conv => whnf
          kernel_rfl
        · rw [c2, if_neg (by simp)] at hR
          conv => whnf
          refine ⟨rfl, hn, ?_⟩
          conv => whnf
          refine ⟨_, htell, ?_⟩
          conv => whnf
          intro lp
          conv => whnf
          refine ⟨by omega, by rw [List.length_map]; unfold most; omega, ?_⟩
          conv => whnf
          refine rows_loop s hf hm3 _ lp _ _ _ ?_ ?_
          · refine fgt0 rfl rfl rfl rfl rfl ?_ cells0_scr rfl rfl rfl (by kernel_rfl)
            show ABlk.var (List.replicate ((s.makers.map mkL).length : Int).toNat (zC .sl)) = _
            rw [List.length_map, Int.toNat_natCast]; rfl
          · conv => whnf
            have hNs : s.days.toNat * s.ovens.length ≤ 14 * 3 := Nat.mul_le_mul (by omega) hno
            have eN : IntKind.wrap .i64 (s.days * ((s.ovens.map i2).length : Int)) = ((s.days.toNat * s.ovens.length : Nat) : Int) := by
              have e0 : s.days * ((s.ovens.map i2).length : Int) = ((s.days.toNat * s.ovens.length : Nat) : Int) := by
                rw [List.length_map, Int.natCast_mul]; congr 1; omega
              rw [e0]
              generalize s.days.toNat * s.ovens.length = z at hNs ⊢
              exact wr_eq (by omega)
            have hsz : ∀ n ∈ sizesF s, 1 ≤ n := fun n hn => by
              obtain ⟨i, hi, rfl⟩ := List.mem_map.1 hn
              have hO : 0 < s.ovens.length := by
                rcases Nat.eq_zero_or_pos s.ovens.length with h | h
                · rw [h, Nat.mul_zero] at hi; simp at hi
                · exact h
              have h1 := c1
              unfold noneF at h1
              rw [List.any_eq_false] at h1
              have h2 := h1 _ (List.mem_of_getElem? (alls_get (Nat.mod_lt i hO)))
              simp only [decide_eq_true_eq] at h2
              omega
            have hsl : (sizesF s).length = s.days.toNat * s.ovens.length := by simp [sizesF]
            obtain ⟨horb, l0, hl0⟩ := allC_orb hsz
            have hbs := best_same hf
            have hlo : ∀ ch ∈ allC (sizesF s), OkCs s ch := fun ch h => okcs_iff.1 h
            have hin : ∀ ch ∈ allC (sizesF s), InS s (planC s ch) := fun ch h => (choices_iff hf).1 (List.mem_map_of_mem h)
            rw [eN]
            refine ⟨by omega, Int.le_trans (Int.ofNat_le.2 hNs) (by unfold most; decide), ?_⟩
            conv => whnf
            refine loopB (fun (x : List (List Int) × List Int × Plan × (Option Plan × Int)) => ⟨mkT (tO s lp), stP x.2.2.2 (cellsP s) (blkP x.2.2.1 0) (blkP x.2.2.1 1) (blkP x.2.2.1 2) (.row 1 (x.2.1.map i1))⟩)
              (fun x => ∃ pre : List (List Int), allC (sizesF s) = pre ++ x.2.1 :: x.1 ∧ Shp s x.2.2.1 ∧ x.2.2.2.1 = (pre.map (planC s)).foldl (updF s) none ∧ ∀ q, x.2.2.2.1 = some q → POk s q ∧ x.2.2.2.2 = costF s q) (fun x => x.1.length) (l0, List.replicate (s.days.toNat * s.ovens.length) 0, blankP s, (none, 0)) ?_ ⟨[], by rw [hl0, hsl]; rfl, blank_shp hf, rfl, fun q hq => by cases hq⟩ ?_
            · refine fgtS rfl rfl rfl rfl rfl rfl rfl ?_ rfl rfl (by kernel_rfl)
              show ABlk.row 1 (List.replicate (((s.days.toNat * s.ovens.length : Nat) : Int)).toNat [D.v (Z.val (.i .i64))]) = _
              rw [Int.toNat_natCast, List.map_replicate]; rfl
            rintro ⟨rest, ch, p, σ⟩ ⟨pre, hall, hp, hσ, hq⟩
            simp only at hall hp hσ hq
            have hmem : ch ∈ allC (sizesF s) := by rw [hall]; simp
            have hc := hlo ch hmem
            have hP := hin ch hmem
            have horb2 := orb_tail (hall ▸ horb)
            conv => whnf
            refine ⟨by rw [List.length_map]; exact hc.1.symm, ?_⟩
            conv => whnf
            refine fill_loop s hf hm3 _ lp σ ch hc p hp _ _ _ ?_ ?_
            · exact fgtS rfl rfl rfl rfl rfl rfl rfl rfl rfl rfl (by kernel_rfl)
            intro t' ht
            have hPs : Shp s (planC s ch) := ⟨hP.pok.len, fun r hr => (hP.pok.rows r hr).1⟩
            have hcost := cost_ok s hf hm3 (planC s ch) hP.pok
            have hord := fun q (hq : POk s q) => ordered_ok (planC s ch) q (small_of hf hP.pok) (small_of hf hq)
            obtain ⟨P, hPe⟩ : ∃ P, planC s ch = P := ⟨_, rfl⟩
            rw [hPe] at hPs hcost hord hP ⊢
            have g0 : t' 0 = .d (.v (.func (.yield lp) #[] #[])) := congrFun ht 0
            have g1 : t' 1 = .d (.fptr (cellsS s)) := congrFun ht 1
            have g2 : t' 2 = .d (.fptr [planD (ofF s)]) := congrFun ht 2
            have g3 : t' 3 = .d (.fptr [allsD (allsF s)]) := congrFun ht 3
            have g5 : t' 5 = .vs 1000 0 (s.makers.map mkL).length := congrFun ht 5
            have g7 : t' 7 = .row 1002 0 (s.days.toNat * s.ovens.length) (s.days.toNat * s.ovens.length) := congrFun ht 7
            conv => whnf
            rw [show evO t' (.t 0) = .d (.v (.func (.yield lp) #[] #[])) from g0]
            conv => whnf
            rw [show evO (fun i => bif i.beq 83 then AC.d (D.v (Value.func (Fn.yield lp) #[] #[])) else t' i) (.t 5) = .vs 1000 0 (s.makers.map mkL).length from g5]
            conv => whnf
            refine cond_intro (by
              show (onlyC LS2 (t' 0) && (onlyC LS2 (t' 1) && (onlyC LS2 (t' 2) && (onlyC LS2 (t' 3) && (onlyC LS2 (t' 5) && (onlyC LS2 (t' 7) && true)))))) = true
              rw [g0, g1, g2, g3, g5, g7]; rfl) ?_
            conv => whnf
            refine ⟨rfl, ?_⟩
            conv => whnf
            rw [call2 (d := seasonD s) (e := planD P) rfl (snap_vs hm3 hPs rfl rfl rfl rfl)]
            conv => whnf
            refine ⟨_, hcost, rfl, ?_⟩
            obtain ⟨b, z⟩ := σ
            simp only at hσ hq
            have hnext : ∀ ch', nextC (sizesF s) ch = some ch' → ∃ l, rest = ch' :: l ∧ allC (sizesF s) = (pre ++ [ch]) ++ ch' :: l ∧ ((pre ++ [ch]).map (planC s)).foldl (updF s) none = updF s b P := fun ch' hn => by
              cases rest with
              | nil => have := horb2.1 rfl; rw [hn] at this; cases this
              | cons y l =>
                have hy := horb2.2 y l rfl
                rw [hn] at hy
                cases hy
                exact ⟨l, rfl, by rw [hall]; simp, by rw [List.map_append, List.foldl_append, ← hσ]; simp [hPe]⟩
            have hlast : nextC (sizesF s) ch = none → bestP s = updF s b P := fun hn => by
              cases rest with
              | nil => rw [← hbs, hall, List.map_append, List.foldl_append, ← hσ]; simp [hPe]
              | cons y l => have hy := horb2.2 y l rfl; rw [hn] at hy; cases hy
            cases b with
            | none =>
              conv => whnf
              refine copy_loop s hf hm3 P hPs z false (ch.map i1) (costF s P) _ _ _ ?_ ?_
              · exact fgtC rfl rfl rfl rfl rfl rfl rfl rfl rfl rfl rfl (by kernel_rfl)
              intro u hu
              conv => whnf
              refine frzI [(2, .ptr 1 0), (3, .ptr 2 0), (4, .ptr 3 0), (10, .d (int (costF s P)))] [(1, .var [.row 5 0 (P.map rowL).length (P.map rowL).length]), (2, .var [.d (int z)]), (3, .var [.d (boolD false)]), (4, .dead), (5, .row 1 (P.map rowL)), (6, .fresh), (1000, .var (cellsP s)), (1001, blkP P 0), (1002, .row 1 (ch.map i1)), (1003, blkP P 1), (1004, blkP P 2)]
                [(2, .ptr 1 0), (3, .ptr 2 0), (4, .ptr 3 0), (10, .d (int (costF s P)))] [(1, .var [.d (planD P)]), (2, .var [.d (int z)]), (3, .var [.d (boolD false)]), (4, .dead), (5, .dead), (6, .fresh), (1000, .var (cellsP s)), (1001, blkP P 0), (1002, .row 1 (ch.map i1)), (1003, blkP P 1), (1004, blkP P 2)] 1 (P.map rowL)
                (fgtC hu.b1 hu.b2 hu.b3 hu.b4 hu.b5 hu.b6 hu.bc hu.k1 hu.kc hu.k3 hu.k4 (by
                  show mkT [(2, scrC LB (u.t 2)), (3, scrC LB (u.t 3)), (4, scrC LB (u.t 4)), (10, scrC LB (u.t 10))] = _
                  rw [hu.t2, hu.t3, hu.t4, hu.t10]; rfl)) rfl
                ⟨rfl, .inl rfl, rfl, .inl rfl, rfl, .inl rfl, rfl, .inl rfl, trivial⟩
                ⟨rfl, .inr (.inr ⟨_, _, rfl, rfl, .inr ⟨rfl, rfl⟩, trivial⟩), rfl, .inr (.inl rfl), rfl, .inr (.inl rfl), rfl, .inr (.inl rfl), rfl, .inl rfl, rfl, .inr (.inl rfl), rfl, .inr (.inl rfl), rfl, .inr (.inl rfl), rfl, .inr (.inl rfl), rfl, .inr (.inl rfl), rfl, .inr (.inl rfl), trivial⟩ rfl ?_
              conv => whnf
              refine next_loop s hf hm3 _ lp (some P, costF s P) P ch hc _ _ _ ?_ ?_ ?_
              · refine fgtS rfl rfl rfl rfl rfl rfl rfl rfl rfl rfl ?_
                show mkT [(0, scrC LS2 (t' 0)), (1, scrC LS2 (t' 1)), (2, scrC LS2 (t' 2)), (3, scrC LS2 (t' 3)), (5, scrC LS2 (t' 5)), (7, scrC LS2 (t' 7)), (14, _)] = _
                rw [g0, g1, g2, g3, g5, g7]; rfl
              · intro u i ch' hi hn hu
                obtain ⟨l, rfl, e1, e2⟩ := hnext ch' hn
                have hcl2 := (hlo ch' (by rw [e1]; simp)).1
                have hni : decide ((i : Int) = ((s.days.toNat * s.ovens.length : Nat) : Int)) = false := decide_eq_false (by rw [← hc.1]; omega)
                conv => whnf
                rw [show evO u.t (.t 14) = .d (int (i : Int)) from hu.t14]
                conv => whnf
                rw [show evO (fun j => bif j.beq 116 then AC.d (int (i : Int)) else u.t j) (.t 7) = .row 1002 0 (s.days.toNat * s.ovens.length) (s.days.toNat * s.ovens.length) from hu.t7]
                conv => whnf
                rw [hu.kc]
                conv => whnf
                refine ⟨by rw [List.length_map]; exact hcl2.symm, ?_⟩
                conv => whnf
                rw [hni]
                conv => whnf
                refine ⟨(l, ch', P, some P, costF s P), fgtS hu.b1 hu.b2 hu.b3 hu.b4 hu.b6 hu.bc hu.k1 hu.kc hu.k3 hu.k4 ?_, ⟨pre ++ [ch], e1, hPs, e2.symm, fun q hq => by cases hq; exact ⟨hP.pok, rfl⟩⟩, by simp⟩
                show mkT [(0, scrC LS2 (u.t 0)), (1, scrC LS2 (u.t 1)), (2, scrC LS2 (u.t 2)), (3, scrC LS2 (u.t 3)), (5, scrC LS2 (u.t 5)), (7, scrC LS2 (u.t 7))] = _
                rw [hu.t0, hu.t1, hu.t2, hu.t3, hu.t5, hu.t7]; rfl
              · intro u els hel hn hu
                have hbp := hlast hn
                have hni : decide ((ch.length : Int) = ((s.days.toNat * s.ovens.length : Nat) : Int)) = true := decide_eq_true (by rw [← hc.1])
                conv => whnf
                rw [show evO u.t (.t 14) = .d (int (ch.length : Int)) from hu.t14]
                conv => whnf
                rw [show evO (fun j => bif j.beq 116 then AC.d (int (ch.length : Int)) else u.t j) (.t 7) = .row 1002 0 (s.days.toNat * s.ovens.length) (s.days.toNat * s.ovens.length) from hu.t7]
                conv => whnf
                rw [hu.kc]
                conv => whnf
                refine ⟨by rw [hel]; exact hc.1.symm, ?_⟩
                conv => whnf
                rw [hni]
                conv => whnf
                rw [hu.b6]
                conv => whnf
                rw [hu.b1]
                conv => whnf
                rw [show maskB [1] u.b 2 = .var [.d (int (costF s P))] from hu.b2]
                conv => whnf
                rw [show maskB [1, 2] (unmaskB [1] u.b (maskB [1] u.b)) 3 = .var [.d (boolD true)] from hu.b3]
                conv => whnf
                rw [show unmaskB [1, 2] (unmaskB [1] u.b (maskB [1] u.b)) (maskB [1, 2] (unmaskB [1] u.b (maskB [1] u.b))) 1 = .var [.d (planD P)] from hu.b1]
                conv => whnf
                rw [upd_ne _ _ (by decide), show unmaskB [1, 2] (unmaskB [1] u.b (maskB [1] u.b)) (maskB [1, 2] (unmaskB [1] u.b (maskB [1] u.b))) 2 = .var [.d (int (costF s P))] from hu.b2]
                conv => whnf
                rw [upd_ne _ _ (by decide), upd_ne _ _ (by decide), show unmaskB [1, 2] (unmaskB [1] u.b (maskB [1] u.b)) (maskB [1, 2] (unmaskB [1] u.b (maskB [1] u.b))) 3 = .var [.d (boolD true)] from hu.b3]
                conv => whnf
                rw [hbp] at hR
                have hR : topP s (some P) = R := hR
                rw [← hR]
                conv => whnf
                kernel_rfl
            | some q =>
              obtain ⟨hqp, hz⟩ := hq q rfl
              subst hz
              conv => whnf
              cases c3 : decide (costF s P < costF s q)
              · conv => whnf
                cases c4 : decide (costF s P = costF s q)
                · have hU : updF s (some q) P = some q := by simp only [updF]; rw [if_neg (of_decide_eq_false c3), if_neg (fun h => of_decide_eq_false c4 h.1)]
                  conv => whnf
                  refine next_loop s hf hm3 _ lp (some q, costF s q) P ch hc _ _ _ ?_ ?_ ?_
                  · refine fgtS rfl rfl rfl rfl rfl rfl rfl rfl rfl rfl ?_
                    show mkT [(0, scrC LS2 (t' 0)), (1, scrC LS2 (t' 1)), (2, scrC LS2 (t' 2)), (3, scrC LS2 (t' 3)), (5, scrC LS2 (t' 5)), (7, scrC LS2 (t' 7)), (14, _)] = _
                    rw [g0, g1, g2, g3, g5, g7]; rfl
                  · intro u i ch' hi hn hu
                    obtain ⟨l, rfl, e1, e2⟩ := hnext ch' hn
                    have hcl2 := (hlo ch' (by rw [e1]; simp)).1
                    have hni : decide ((i : Int) = ((s.days.toNat * s.ovens.length : Nat) : Int)) = false := decide_eq_false (by rw [← hc.1]; omega)
                    conv => whnf
                    rw [show evO u.t (.t 14) = .d (int (i : Int)) from hu.t14]
                    conv => whnf
                    rw [show evO (fun j => bif j.beq 116 then AC.d (int (i : Int)) else u.t j) (.t 7) = .row 1002 0 (s.days.toNat * s.ovens.length) (s.days.toNat * s.ovens.length) from hu.t7]
                    conv => whnf
                    rw [hu.kc]
                    conv => whnf
                    refine ⟨by rw [List.length_map]; exact hcl2.symm, ?_⟩
                    conv => whnf
                    rw [hni]
                    conv => whnf
                    refine ⟨(l, ch', P, some q, costF s q), fgtS hu.b1 hu.b2 hu.b3 hu.b4 hu.b6 hu.bc hu.k1 hu.kc hu.k3 hu.k4 ?_, ⟨pre ++ [ch], e1, hPs, (e2.trans hU).symm, fun q hq => by cases hq; exact ⟨hqp, rfl⟩⟩, by simp⟩
                    show mkT [(0, scrC LS2 (u.t 0)), (1, scrC LS2 (u.t 1)), (2, scrC LS2 (u.t 2)), (3, scrC LS2 (u.t 3)), (5, scrC LS2 (u.t 5)), (7, scrC LS2 (u.t 7))] = _
                    rw [hu.t0, hu.t1, hu.t2, hu.t3, hu.t5, hu.t7]; rfl
                  · intro u els hel hn hu
                    have hbp := hlast hn
                    have hni : decide ((ch.length : Int) = ((s.days.toNat * s.ovens.length : Nat) : Int)) = true := decide_eq_true (by rw [← hc.1])
                    conv => whnf
                    rw [show evO u.t (.t 14) = .d (int (ch.length : Int)) from hu.t14]
                    conv => whnf
                    rw [show evO (fun j => bif j.beq 116 then AC.d (int (ch.length : Int)) else u.t j) (.t 7) = .row 1002 0 (s.days.toNat * s.ovens.length) (s.days.toNat * s.ovens.length) from hu.t7]
                    conv => whnf
                    rw [hu.kc]
                    conv => whnf
                    refine ⟨by rw [hel]; exact hc.1.symm, ?_⟩
                    conv => whnf
                    rw [hni]
                    conv => whnf
                    rw [hu.b6]
                    conv => whnf
                    rw [hu.b1]
                    conv => whnf
                    rw [show maskB [1] u.b 2 = .var [.d (int (costF s q))] from hu.b2]
                    conv => whnf
                    rw [show maskB [1, 2] (unmaskB [1] u.b (maskB [1] u.b)) 3 = .var [.d (boolD true)] from hu.b3]
                    conv => whnf
                    rw [show unmaskB [1, 2] (unmaskB [1] u.b (maskB [1] u.b)) (maskB [1, 2] (unmaskB [1] u.b (maskB [1] u.b))) 1 = .var [.d (planD q)] from hu.b1]
                    conv => whnf
                    rw [upd_ne _ _ (by decide), show unmaskB [1, 2] (unmaskB [1] u.b (maskB [1] u.b)) (maskB [1, 2] (unmaskB [1] u.b (maskB [1] u.b))) 2 = .var [.d (int (costF s q))] from hu.b2]
                    conv => whnf
                    rw [upd_ne _ _ (by decide), upd_ne _ _ (by decide), show unmaskB [1, 2] (unmaskB [1] u.b (maskB [1] u.b)) (maskB [1, 2] (unmaskB [1] u.b (maskB [1] u.b))) 3 = .var [.d (boolD true)] from hu.b3]
                    conv => whnf
                    rw [hbp, hU] at hR
                    have hR : topP s (some q) = R := hR
                    rw [← hR]
                    conv => whnf
                    kernel_rfl
                · conv => whnf
                  rw [call3 (d := planD P) (e := planD q) (f := .clo 70 [] []) (snap_vs hm3 hPs rfl rfl rfl rfl) rfl rfl]
                  conv => whnf
                  refine ⟨_, hord q hqp, rfl, ?_⟩
                  conv => whnf
                  cases c5 : decide (cmpL P q < 0)
                  · have hU : updF s (some q) P = some q := by simp only [updF]; rw [if_neg (of_decide_eq_false c3), if_neg (fun h => of_decide_eq_false c5 h.2)]
                    conv => whnf
                    refine next_loop s hf hm3 _ lp (some q, costF s q) P ch hc _ _ _ ?_ ?_ ?_
                    · refine fgtS rfl rfl rfl rfl rfl rfl rfl rfl rfl rfl ?_
                      show mkT [(0, scrC LS2 (t' 0)), (1, scrC LS2 (t' 1)), (2, scrC LS2 (t' 2)), (3, scrC LS2 (t' 3)), (5, scrC LS2 (t' 5)), (7, scrC LS2 (t' 7)), (14, _)] = _
                      rw [g0, g1, g2, g3, g5, g7]; rfl
                    · intro u i ch' hi hn hu
                      obtain ⟨l, rfl, e1, e2⟩ := hnext ch' hn
                      have hcl2 := (hlo ch' (by rw [e1]; simp)).1
                      have hni : decide ((i : Int) = ((s.days.toNat * s.ovens.length : Nat) : Int)) = false := decide_eq_false (by rw [← hc.1]; omega)
                      conv => whnf
                      rw [show evO u.t (.t 14) = .d (int (i : Int)) from hu.t14]
                      conv => whnf
                      rw [show evO (fun j => bif j.beq 116 then AC.d (int (i : Int)) else u.t j) (.t 7) = .row 1002 0 (s.days.toNat * s.ovens.length) (s.days.toNat * s.ovens.length) from hu.t7]
                      conv => whnf
                      rw [hu.kc]
                      conv => whnf
                      refine ⟨by rw [List.length_map]; exact hcl2.symm, ?_⟩
                      conv => whnf
                      rw [hni]
                      conv => whnf
                      refine ⟨(l, ch', P, some q, costF s q), fgtS hu.b1 hu.b2 hu.b3 hu.b4 hu.b6 hu.bc hu.k1 hu.kc hu.k3 hu.k4 ?_, ⟨pre ++ [ch], e1, hPs, (e2.trans hU).symm, fun q hq => by cases hq; exact ⟨hqp, rfl⟩⟩, by simp⟩
                      show mkT [(0, scrC LS2 (u.t 0)), (1, scrC LS2 (u.t 1)), (2, scrC LS2 (u.t 2)), (3, scrC LS2 (u.t 3)), (5, scrC LS2 (u.t 5)), (7, scrC LS2 (u.t 7))] = _
                      rw [hu.t0, hu.t1, hu.t2, hu.t3, hu.t5, hu.t7]; rfl
                    · intro u els hel hn hu
                      have hbp := hlast hn
                      have hni : decide ((ch.length : Int) = ((s.days.toNat * s.ovens.length : Nat) : Int)) = true := decide_eq_true (by rw [← hc.1])
                      conv => whnf
                      rw [show evO u.t (.t 14) = .d (int (ch.length : Int)) from hu.t14]
                      conv => whnf
                      rw [show evO (fun j => bif j.beq 116 then AC.d (int (ch.length : Int)) else u.t j) (.t 7) = .row 1002 0 (s.days.toNat * s.ovens.length) (s.days.toNat * s.ovens.length) from hu.t7]
                      conv => whnf
                      rw [hu.kc]
                      conv => whnf
                      refine ⟨by rw [hel]; exact hc.1.symm, ?_⟩
                      conv => whnf
                      rw [hni]
                      conv => whnf
                      rw [hu.b6]
                      conv => whnf
                      rw [hu.b1]
                      conv => whnf
                      rw [show maskB [1] u.b 2 = .var [.d (int (costF s q))] from hu.b2]
                      conv => whnf
                      rw [show maskB [1, 2] (unmaskB [1] u.b (maskB [1] u.b)) 3 = .var [.d (boolD true)] from hu.b3]
                      conv => whnf
                      rw [show unmaskB [1, 2] (unmaskB [1] u.b (maskB [1] u.b)) (maskB [1, 2] (unmaskB [1] u.b (maskB [1] u.b))) 1 = .var [.d (planD q)] from hu.b1]
                      conv => whnf
                      rw [upd_ne _ _ (by decide), show unmaskB [1, 2] (unmaskB [1] u.b (maskB [1] u.b)) (maskB [1, 2] (unmaskB [1] u.b (maskB [1] u.b))) 2 = .var [.d (int (costF s q))] from hu.b2]
                      conv => whnf
                      rw [upd_ne _ _ (by decide), upd_ne _ _ (by decide), show unmaskB [1, 2] (unmaskB [1] u.b (maskB [1] u.b)) (maskB [1, 2] (unmaskB [1] u.b (maskB [1] u.b))) 3 = .var [.d (boolD true)] from hu.b3]
                      conv => whnf
                      rw [hbp, hU] at hR
                      have hR : topP s (some q) = R := hR
                      rw [← hR]
                      conv => whnf
                      kernel_rfl
                  · have hU : updF s (some q) P = some P := by simp only [updF]; rw [if_neg (of_decide_eq_false c3), if_pos ⟨of_decide_eq_true c4, of_decide_eq_true c5⟩]
                    conv => whnf
                    refine copy_loop s hf hm3 P hPs (costF s q) true (ch.map i1) (costF s P) _ _ _ ?_ ?_
                    · exact fgtC rfl rfl rfl rfl rfl rfl rfl rfl rfl rfl rfl (by kernel_rfl)
                    intro u hu
                    conv => whnf
                    refine frzI [(2, .ptr 1 0), (3, .ptr 2 0), (4, .ptr 3 0), (10, .d (int (costF s P)))] [(1, .var [.row 5 0 (P.map rowL).length (P.map rowL).length]), (2, .var [.d (int (costF s q))]), (3, .var [.d (boolD true)]), (4, .dead), (5, .row 1 (P.map rowL)), (6, .fresh), (1000, .var (cellsP s)), (1001, blkP P 0), (1002, .row 1 (ch.map i1)), (1003, blkP P 1), (1004, blkP P 2)]
                      [(2, .ptr 1 0), (3, .ptr 2 0), (4, .ptr 3 0), (10, .d (int (costF s P)))] [(1, .var [.d (planD P)]), (2, .var [.d (int (costF s q))]), (3, .var [.d (boolD true)]), (4, .dead), (5, .dead), (6, .fresh), (1000, .var (cellsP s)), (1001, blkP P 0), (1002, .row 1 (ch.map i1)), (1003, blkP P 1), (1004, blkP P 2)] 1 (P.map rowL)
                      (fgtC hu.b1 hu.b2 hu.b3 hu.b4 hu.b5 hu.b6 hu.bc hu.k1 hu.kc hu.k3 hu.k4 (by
                        show mkT [(2, scrC LB (u.t 2)), (3, scrC LB (u.t 3)), (4, scrC LB (u.t 4)), (10, scrC LB (u.t 10))] = _
                        rw [hu.t2, hu.t3, hu.t4, hu.t10]; rfl)) rfl
                      ⟨rfl, .inl rfl, rfl, .inl rfl, rfl, .inl rfl, rfl, .inl rfl, trivial⟩
                      ⟨rfl, .inr (.inr ⟨_, _, rfl, rfl, .inr ⟨rfl, rfl⟩, trivial⟩), rfl, .inr (.inl rfl), rfl, .inr (.inl rfl), rfl, .inr (.inl rfl), rfl, .inl rfl, rfl, .inr (.inl rfl), rfl, .inr (.inl rfl), rfl, .inr (.inl rfl), rfl, .inr (.inl rfl), rfl, .inr (.inl rfl), rfl, .inr (.inl rfl), trivial⟩ rfl ?_
                    conv => whnf
                    refine next_loop s hf hm3 _ lp (some P, costF s P) P ch hc _ _ _ ?_ ?_ ?_
                    · refine fgtS rfl rfl rfl rfl rfl rfl rfl rfl rfl rfl ?_
                      show mkT [(0, scrC LS2 (t' 0)), (1, scrC LS2 (t' 1)), (2, scrC LS2 (t' 2)), (3, scrC LS2 (t' 3)), (5, scrC LS2 (t' 5)), (7, scrC LS2 (t' 7)), (14, _)] = _
                      rw [g0, g1, g2, g3, g5, g7]; rfl
                    · intro u i ch' hi hn hu
                      obtain ⟨l, rfl, e1, e2⟩ := hnext ch' hn
                      have hcl2 := (hlo ch' (by rw [e1]; simp)).1
                      have hni : decide ((i : Int) = ((s.days.toNat * s.ovens.length : Nat) : Int)) = false := decide_eq_false (by rw [← hc.1]; omega)
                      conv => whnf
                      rw [show evO u.t (.t 14) = .d (int (i : Int)) from hu.t14]
                      conv => whnf
                      rw [show evO (fun j => bif j.beq 116 then AC.d (int (i : Int)) else u.t j) (.t 7) = .row 1002 0 (s.days.toNat * s.ovens.length) (s.days.toNat * s.ovens.length) from hu.t7]
                      conv => whnf
                      rw [hu.kc]
                      conv => whnf
                      refine ⟨by rw [List.length_map]; exact hcl2.symm, ?_⟩
                      conv => whnf
                      rw [hni]
                      conv => whnf
                      refine ⟨(l, ch', P, some P, costF s P), fgtS hu.b1 hu.b2 hu.b3 hu.b4 hu.b6 hu.bc hu.k1 hu.kc hu.k3 hu.k4 ?_, ⟨pre ++ [ch], e1, hPs, (e2.trans hU).symm, fun q hq => by cases hq; exact ⟨hP.pok, rfl⟩⟩, by simp⟩
                      show mkT [(0, scrC LS2 (u.t 0)), (1, scrC LS2 (u.t 1)), (2, scrC LS2 (u.t 2)), (3, scrC LS2 (u.t 3)), (5, scrC LS2 (u.t 5)), (7, scrC LS2 (u.t 7))] = _
                      rw [hu.t0, hu.t1, hu.t2, hu.t3, hu.t5, hu.t7]; rfl
                    · intro u els hel hn hu
                      have hbp := hlast hn
                      have hni : decide ((ch.length : Int) = ((s.days.toNat * s.ovens.length : Nat) : Int)) = true := decide_eq_true (by rw [← hc.1])
                      conv => whnf
                      rw [show evO u.t (.t 14) = .d (int (ch.length : Int)) from hu.t14]
                      conv => whnf
                      rw [show evO (fun j => bif j.beq 116 then AC.d (int (ch.length : Int)) else u.t j) (.t 7) = .row 1002 0 (s.days.toNat * s.ovens.length) (s.days.toNat * s.ovens.length) from hu.t7]
                      conv => whnf
                      rw [hu.kc]
                      conv => whnf
                      refine ⟨by rw [hel]; exact hc.1.symm, ?_⟩
                      conv => whnf
                      rw [hni]
                      conv => whnf
                      rw [hu.b6]
                      conv => whnf
                      rw [hu.b1]
                      conv => whnf
                      rw [show maskB [1] u.b 2 = .var [.d (int (costF s P))] from hu.b2]
                      conv => whnf
                      rw [show maskB [1, 2] (unmaskB [1] u.b (maskB [1] u.b)) 3 = .var [.d (boolD true)] from hu.b3]
                      conv => whnf
                      rw [show unmaskB [1, 2] (unmaskB [1] u.b (maskB [1] u.b)) (maskB [1, 2] (unmaskB [1] u.b (maskB [1] u.b))) 1 = .var [.d (planD P)] from hu.b1]
                      conv => whnf
                      rw [upd_ne _ _ (by decide), show unmaskB [1, 2] (unmaskB [1] u.b (maskB [1] u.b)) (maskB [1, 2] (unmaskB [1] u.b (maskB [1] u.b))) 2 = .var [.d (int (costF s P))] from hu.b2]
                      conv => whnf
                      rw [upd_ne _ _ (by decide), upd_ne _ _ (by decide), show unmaskB [1, 2] (unmaskB [1] u.b (maskB [1] u.b)) (maskB [1, 2] (unmaskB [1] u.b (maskB [1] u.b))) 3 = .var [.d (boolD true)] from hu.b3]
                      conv => whnf
                      rw [hbp, hU] at hR
                      have hR : topP s (some P) = R := hR
                      rw [← hR]
                      conv => whnf
                      kernel_rfl
              · have hU : updF s (some q) P = some P := by simp only [updF]; rw [if_pos (of_decide_eq_true c3)]
                conv => whnf
                refine copy_loop s hf hm3 P hPs (costF s q) true (ch.map i1) (costF s P) _ _ _ ?_ ?_
                · exact fgtC rfl rfl rfl rfl rfl rfl rfl rfl rfl rfl rfl (by kernel_rfl)
                intro u hu
                conv => whnf
                refine frzI [(2, .ptr 1 0), (3, .ptr 2 0), (4, .ptr 3 0), (10, .d (int (costF s P)))] [(1, .var [.row 5 0 (P.map rowL).length (P.map rowL).length]), (2, .var [.d (int (costF s q))]), (3, .var [.d (boolD true)]), (4, .dead), (5, .row 1 (P.map rowL)), (6, .fresh), (1000, .var (cellsP s)), (1001, blkP P 0), (1002, .row 1 (ch.map i1)), (1003, blkP P 1), (1004, blkP P 2)]
                  [(2, .ptr 1 0), (3, .ptr 2 0), (4, .ptr 3 0), (10, .d (int (costF s P)))] [(1, .var [.d (planD P)]), (2, .var [.d (int (costF s q))]), (3, .var [.d (boolD true)]), (4, .dead), (5, .dead), (6, .fresh), (1000, .var (cellsP s)), (1001, blkP P 0), (1002, .row 1 (ch.map i1)), (1003, blkP P 1), (1004, blkP P 2)] 1 (P.map rowL)
                  (fgtC hu.b1 hu.b2 hu.b3 hu.b4 hu.b5 hu.b6 hu.bc hu.k1 hu.kc hu.k3 hu.k4 (by
                    show mkT [(2, scrC LB (u.t 2)), (3, scrC LB (u.t 3)), (4, scrC LB (u.t 4)), (10, scrC LB (u.t 10))] = _
                    rw [hu.t2, hu.t3, hu.t4, hu.t10]; rfl)) rfl
                  ⟨rfl, .inl rfl, rfl, .inl rfl, rfl, .inl rfl, rfl, .inl rfl, trivial⟩
                  ⟨rfl, .inr (.inr ⟨_, _, rfl, rfl, .inr ⟨rfl, rfl⟩, trivial⟩), rfl, .inr (.inl rfl), rfl, .inr (.inl rfl), rfl, .inr (.inl rfl), rfl, .inl rfl, rfl, .inr (.inl rfl), rfl, .inr (.inl rfl), rfl, .inr (.inl rfl), rfl, .inr (.inl rfl), rfl, .inr (.inl rfl), rfl, .inr (.inl rfl), trivial⟩ rfl ?_
                conv => whnf
                refine next_loop s hf hm3 _ lp (some P, costF s P) P ch hc _ _ _ ?_ ?_ ?_
                · refine fgtS rfl rfl rfl rfl rfl rfl rfl rfl rfl rfl ?_
                  show mkT [(0, scrC LS2 (t' 0)), (1, scrC LS2 (t' 1)), (2, scrC LS2 (t' 2)), (3, scrC LS2 (t' 3)), (5, scrC LS2 (t' 5)), (7, scrC LS2 (t' 7)), (14, _)] = _
                  rw [g0, g1, g2, g3, g5, g7]; rfl
                · intro u i ch' hi hn hu
                  obtain ⟨l, rfl, e1, e2⟩ := hnext ch' hn
                  have hcl2 := (hlo ch' (by rw [e1]; simp)).1
                  have hni : decide ((i : Int) = ((s.days.toNat * s.ovens.length : Nat) : Int)) = false := decide_eq_false (by rw [← hc.1]; omega)
                  conv => whnf
                  rw [show evO u.t (.t 14) = .d (int (i : Int)) from hu.t14]
                  conv => whnf
                  rw [show evO (fun j => bif j.beq 116 then AC.d (int (i : Int)) else u.t j) (.t 7) = .row 1002 0 (s.days.toNat * s.ovens.length) (s.days.toNat * s.ovens.length) from hu.t7]
                  conv => whnf
                  rw [hu.kc]
                  conv => whnf
                  refine ⟨by rw [List.length_map]; exact hcl2.symm, ?_⟩
                  conv => whnf
                  rw [hni]
                  conv => whnf
                  refine ⟨(l, ch', P, some P, costF s P), fgtS hu.b1 hu.b2 hu.b3 hu.b4 hu.b6 hu.bc hu.k1 hu.kc hu.k3 hu.k4 ?_, ⟨pre ++ [ch], e1, hPs, (e2.trans hU).symm, fun q hq => by cases hq; exact ⟨hP.pok, rfl⟩⟩, by simp⟩
                  show mkT [(0, scrC LS2 (u.t 0)), (1, scrC LS2 (u.t 1)), (2, scrC LS2 (u.t 2)), (3, scrC LS2 (u.t 3)), (5, scrC LS2 (u.t 5)), (7, scrC LS2 (u.t 7))] = _
                  rw [hu.t0, hu.t1, hu.t2, hu.t3, hu.t5, hu.t7]; rfl
                · intro u els hel hn hu
                  have hbp := hlast hn
                  have hni : decide ((ch.length : Int) = ((s.days.toNat * s.ovens.length : Nat) : Int)) = true := decide_eq_true (by rw [← hc.1])
                  conv => whnf
                  rw [show evO u.t (.t 14) = .d (int (ch.length : Int)) from hu.t14]
                  conv => whnf
                  rw [show evO (fun j => bif j.beq 116 then AC.d (int (ch.length : Int)) else u.t j) (.t 7) = .row 1002 0 (s.days.toNat * s.ovens.length) (s.days.toNat * s.ovens.length) from hu.t7]
                  conv => whnf
                  rw [hu.kc]
                  conv => whnf
                  refine ⟨by rw [hel]; exact hc.1.symm, ?_⟩
                  conv => whnf
                  rw [hni]
                  conv => whnf
                  rw [hu.b6]
                  conv => whnf
                  rw [hu.b1]
                  conv => whnf
                  rw [show maskB [1] u.b 2 = .var [.d (int (costF s P))] from hu.b2]
                  conv => whnf
                  rw [show maskB [1, 2] (unmaskB [1] u.b (maskB [1] u.b)) 3 = .var [.d (boolD true)] from hu.b3]
                  conv => whnf
                  rw [show unmaskB [1, 2] (unmaskB [1] u.b (maskB [1] u.b)) (maskB [1, 2] (unmaskB [1] u.b (maskB [1] u.b))) 1 = .var [.d (planD P)] from hu.b1]
                  conv => whnf
                  rw [upd_ne _ _ (by decide), show unmaskB [1, 2] (unmaskB [1] u.b (maskB [1] u.b)) (maskB [1, 2] (unmaskB [1] u.b (maskB [1] u.b))) 2 = .var [.d (int (costF s P))] from hu.b2]
                  conv => whnf
                  rw [upd_ne _ _ (by decide), upd_ne _ _ (by decide), show unmaskB [1, 2] (unmaskB [1] u.b (maskB [1] u.b)) (maskB [1, 2] (unmaskB [1] u.b (maskB [1] u.b))) 3 = .var [.d (boolD true)] from hu.b3]
                  conv => whnf
                  rw [hbp, hU] at hR
                  have hR : topP s (some P) = R := hR
                  rw [← hR]
                  conv => whnf
                  kernel_rfl
      · rw [c1, if_pos rfl] at hR
        rw [← hR]
        conv => whnf
        kernel_rfl
    · have hk' : k < s.ovens.length := by have := of_decide_eq_true q1; rw [List.length_map] at this; omega
      have hel : els.length = k := by rw [he]; simp; omega
      have hx := alls_get hk'
      have htk : (allsF s).take (k + 1) = (allsF s).take k ++ [shiftsF s (k : Int)] := by rw [List.take_add_one, hx]; rfl
      conv => whnf
      refine ⟨_, all_ok s hf (k : Int) (by omega), ?_⟩
      conv => whnf
      refine ⟨rfl, rfl, hn, most_le (by simp; omega), ?_⟩
      conv => whnf
      exact ⟨(IntKind.wrap .i64 ((k : Int) + 1), els ++ [plansL (shiftsF s (k : Int))], els.length + 1), by kernel_rfl, ⟨k + 1, nx (by omega), by omega, by rw [he, htk, List.map_append]; rfl, by simp⟩, by simp only; rw [nx (by omega)]; omega⟩
  · rw [if_pos hE]
    obtain ⟨E, hE2⟩ : ∃ E, checkE s = E := ⟨_, rfl⟩
    rw [hE2] at ck hE ⊢
    have h0 : decide (E = 0) = false := decide_eq_false hE
    refine pureFn_by Try.func31 k31 rfl rfl ?_
    conv => whnf
    refine ⟨_, ck, ?_⟩
    conv => whnf
    rw [h0]
    conv => whnf
    kernel_rfl
end Go.Proofs.YtmkmegcconjgoaaG
