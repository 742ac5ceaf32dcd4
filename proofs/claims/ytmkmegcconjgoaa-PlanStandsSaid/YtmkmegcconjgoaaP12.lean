/- The check of a season, its code. No condition. -/
import Derived.Test.YtmkmegcconjgoaaP11
set_option linter.unusedVariables false
set_option linter.unusedSimpArgs false
set_option maxRecDepth 100000
set_option maxHeartbeats 4000000
namespace Go.Proofs.YtmkmegcconjgoaaG
open Go Go.AM Go.Proofs

/-- The count of the shifts; false: there are too many. -/
def CChk : Cons (Nat × Bool) where
  go := fun σ => σ.2
  step := fun σ _ => (σ.1 + 1, decide ((σ.1 + 1) * (σ.1 + 1) ≤ 3000))
  c1 := fun σ => .var [.d (int (cond σ.2 0 9))]
  c2 := fun σ => .var [.d (int σ.1)]
  c3 := fun σ => cond σ.2 .fresh (.mark none)
  h1 := fun _ => rfl
  h2 := fun _ => rfl
  h3 := fun ⟨_, b⟩ => by cases b <;> rfl
theorem sq_le {a b : Nat} (h : a ≤ b) : a * a ≤ b * b := Nat.mul_le_mul h h
theorem CChk_all : ∀ (rs : List (List Int)) (n : Nat), n * n ≤ 3000 → if (n + rs.length) * (n + rs.length) ≤ 3000 then CChk.all rs (n, true) = (n + rs.length, true) else ∃ q, CChk.all rs (n, true) = (q, false)
  | [], n, h => by
    rw [if_pos (by simpa using h)]; rfl
  | r :: rs, n, h => by
    have e : CChk.all (r :: rs) (n, true) = CChk.all rs (n + 1, decide ((n + 1) * (n + 1) ≤ 3000)) := rfl
    rw [e]
    by_cases h1 : (n + 1) * (n + 1) ≤ 3000
    · have ih := CChk_all rs (n + 1) h1
      rw [decide_eq_true h1]
      have : n + 1 + rs.length = n + (r :: rs).length := by simp; omega
      rw [this] at ih; exact ih
    · rw [decide_eq_false h1]
      have h2 : ¬ (n + (r :: rs).length) * (n + (r :: rs).length) ≤ 3000 := fun h3 => h1 (Nat.le_trans (sq_le (by simp <;> omega)) h3)
      rw [if_neg h2]
      exact ⟨_, CChk.all_stop rfl⟩
theorem CChk_fin (rs : List (List Int)) : (rs.length * rs.length ≤ 3000 ∧ CChk.all rs (0, true) = (rs.length, true)) ∨ (3000 < rs.length * rs.length ∧ ∃ q, CChk.all rs (0, true) = (q, false)) := by
  have := CChk_all rs 0 (by decide)
  rw [Nat.zero_add] at this
  by_cases h : rs.length * rs.length ≤ 3000
  · rw [if_pos h] at this; exact .inl ⟨h, this⟩
  · rw [if_neg h] at this; exact .inr ⟨by omega, this⟩

theorem small_of_sq {n : Nat} (h : n * n ≤ 3000) : n ≤ 54 := by
  apply Nat.le_of_not_lt
  intro h1
  have : 55 * 55 ≤ n * n := sq_le h1
  omega

theorem check_ok (s : Season) (hs : Sm s) : PureFn Try.prog 19 [seasonD s] (int (checkE s)) := by
  have har := hs.arts
  have hco := hs.cols
  have hov := hs.ovens
  have c1 := articles_ok s hs
  have c2 := makersE_ok s hs
  have c3 := ordersE_ok s hs
  have c4 := turns_ok s.jobs s.arts.length (by have := hs.jobs; omega) (fun r hr => by have := hs.jobRows r hr; omega)
  have c5 := turns_ok s.cols s.cols.length (by omega) (fun r hr => by have := hs.colRows r hr; omega)
  have hfr := frame_fr hs
  obtain ⟨FE, hFE⟩ : ∃ FE, frameE s = FE := ⟨_, rfl⟩
  have eFE : FE = if withinF s.days 1 14 = false then 1 else if articlesE s ≠ 0 then articlesE s else if makersE s ≠ 0 then makersE s else if turnsF s.jobs s.arts.length = false then 1
      else if 6 < s.cols.length then 3 else if turnsF s.cols s.cols.length = false then 1 else ordersE s := hFE.symm
  have ech : checkE s = if FE ≠ 0 then FE else firstE (scopeE s) (List.range s.ovens.length) 0 := by unfold checkE; rw [hFE]
  rw [hFE] at hfr
  obtain ⟨R, hR⟩ : ∃ R, checkE s = R := ⟨_, rfl⟩
  rw [hR] at ech ⊢
  have bad : ∀ e : Int, e ≠ 0 → FE = e → R = e := fun e h0 h1 => by rw [ech, if_pos (by rw [h1]; exact h0), h1]
  obtain ⟨A, hA⟩ : ∃ A, articlesE s = A := ⟨_, rfl⟩
  obtain ⟨M, hM⟩ : ∃ M, makersE s = M := ⟨_, rfl⟩
  obtain ⟨O, hO⟩ : ∃ O, ordersE s = O := ⟨_, rfl⟩
  rw [hA] at c1 eFE
  rw [hM] at c2 eFE
  rw [hO] at c3 eFE
  refine pureFn_by Try.func19 k19 rfl rfl ?_
  conv => whnf
  refine ⟨_, within_ok _ _ _, ?_⟩
  cases w1 : withinF s.days 1 14
  · rw [bad 1 (by decide) (by rw [eFE, w1]; rfl)]
    conv => whnf
    kernel_rfl
  · rw [w1, if_neg (by simp)] at eFE
    conv => whnf
    refine ⟨_, c1, ?_⟩
    conv => whnf
    cases w2 : decide (A = 0)
    · have w2' : A ≠ 0 := of_decide_eq_false w2
      rw [bad A w2' (by rw [eFE, if_pos w2'])]
      conv => whnf
      kernel_rfl
    · have w2' : A = 0 := of_decide_eq_true w2
      rw [if_neg (by simp [w2'])] at eFE
      conv => whnf
      refine ⟨_, c2, ?_⟩
      conv => whnf
      cases w3 : decide (M = 0)
      · have w3' : M ≠ 0 := of_decide_eq_false w3
        rw [bad M w3' (by rw [eFE, if_pos w3'])]
        conv => whnf
        kernel_rfl
      · have w3' : M = 0 := of_decide_eq_true w3
        rw [if_neg (by simp [w3'])] at eFE
        conv => whnf
        rw [List.length_map]
        refine ⟨_, c4, ?_⟩
        cases w4 : turnsF s.jobs s.arts.length
        · rw [bad 1 (by decide) (by rw [eFE, w4]; rfl)]
          conv => whnf
          kernel_rfl
        · rw [w4, if_neg (by simp)] at eFE
          conv => whnf
          rw [List.length_map]
          cases w5 : decide (6 < (s.cols.length : Int))
          · have w5' : ¬ 6 < s.cols.length := by have := of_decide_eq_false w5; omega
            rw [if_neg w5'] at eFE
            conv => whnf
            rw [List.length_map]
            refine ⟨_, c5, ?_⟩
            cases w6 : turnsF s.cols s.cols.length
            · rw [bad 1 (by decide) (by rw [eFE, w6]; rfl)]
              conv => whnf
              kernel_rfl
            · rw [w6, if_neg (by simp)] at eFE
              conv => whnf
              refine ⟨_, c3, ?_⟩
              conv => whnf
              cases w7 : decide (O = 0)
              · have w7' : O ≠ 0 := of_decide_eq_false w7
                rw [bad O w7' eFE]
                conv => whnf
                kernel_rfl
              · have w7' : O = 0 := of_decide_eq_true w7
                rw [w7'] at eFE
                have h := hfr eFE
                rw [eFE, if_neg (by simp)] at ech
                conv => whnf
                refine loopB (fun (x : Int) => ⟨mkT [(1, .d (.fptr (cellsS s))), (2, .ptr 1 0), (50, .d (int (s.ovens.map i2).length)), (51, .d (int x))], mkB [(1, .var [.d (int 0)])]⟩)
                  (fun x => ∃ i : Nat, x = i ∧ i ≤ s.ovens.length ∧ firstE (scopeE s) ((List.range s.ovens.length).drop i) i = R) (fun x => (s.ovens.length - x).toNat) 0 (by kernel_rfl) ⟨0, rfl, by omega, ech.symm⟩ ?_
                rintro _ ⟨i, rfl, hi, hb⟩
                conv => whnf
                rw [List.length_map]
                cases w8 : decide ((i : Int) < (s.ovens.length : Int))
                · have hi' : i = s.ovens.length := by have := of_decide_eq_false w8; omega
                  rw [List.drop_of_length_le (by simp [hi'])] at hb
                  rw [← hb]
                  conv => whnf
                  kernel_rfl
                · have hi' : i < s.ovens.length := by have := of_decide_eq_true w8; omega
                  rw [firstE_at (List.getElem?_range hi')] at hb
                  have sh := shifts_ok s h (i : Int)
                  have hml := Nat.le_trans (makersF_len s (i : Int)) h.nm
                  obtain ⟨ms, hms⟩ : ∃ ms, makersF s (i : Int) = ms := ⟨_, rfl⟩
                  have hmm : ∀ m ∈ ms, 0 ≤ m ∧ m < s.makers.length := fun m hm => makersF_mem (hms ▸ hm)
                  obtain ⟨ALL, hALL⟩ : ∃ ALL, shiftsF s (i : Int) = ALL := ⟨_, rfl⟩
                  have hA2 : rowsF s (i : Int) ms ms.length [] = ALL := by rw [← hALL, shiftsF, hms]
                  rw [hms] at sh hml
                  rw [show scopeE s i i = if 3000 < ALL.length * ALL.length then 9 else 0 by unfold scopeE; rw [hALL]] at hb
                  conv => whnf
                  refine ⟨_, sh, ?_⟩
                  conv => whnf
                  intro lp
                  conv => whnf
                  refine ⟨by omega, by rw [List.length_map]; unfold most; omega, ?_⟩
                  conv => whnf
                  refine cond_intro (by show (true && ((((ms.map i1).length : Int).toNat == (List.replicate ((ms.map i1).length : Int).toNat [D.v (Z.val (.i .i64))]).length) && true)) = true; simp) ?_
                  conv => whnf
                  refine ⟨⟨mkT [], fst' CChk s (i : Int) ms lp ((0, true), (List.replicate ms.length (0 : Int)).map i1)⟩, _, Lie.fgt ⟨rfl, rfl, rfl, ?_, ?_, ?_⟩ (by kernel_rfl),
                    from_ok CChk s h (i : Int) ⟨by omega, by omega⟩ ms hmm hml lp _ (HM_mono _) ALL (0, true) ?_ ms.length 0 [] (List.replicate ms.length 0) (0, true) [] [] (by simp [hA2]) rfl (by simp) rfl (by simp) rfl (fun x hx => by cases hx) rfl, ?_⟩
                  · show ABlk.var [.row 1003 0 (((ms.map i1).length : Nat) : Int).toNat (((ms.map i1).length : Nat) : Int).toNat] = _
                    simp
                  · rfl
                  · show ABlk.row 1 (List.replicate (((ms.map i1).length : Nat) : Int).toNat [D.v (Z.val (.i .i64))]) = _
                    simp [Z.val]
                  · rintro rs row ⟨n, b⟩ hσ hex hgo hrl hAr
                    have hb1 : b = true := hgo
                    subst hb1
                    have hn : n * n ≤ 3000 := by
                      rcases CChk_fin rs with ⟨h1, h2⟩ | ⟨_, q, h2⟩
                      · rw [h2] at hσ; cases hσ; exact h1
                      · rw [h2] at hσ; cases hσ
                    have hn54 := small_of_sq hn
                    have hw1 : IntKind.wrap .i64 ((n : Int) + 1) = ((n + 1 : Nat) : Int) := nx (by omega)
                    have hw2 : IntKind.wrap .i64 (IntKind.wrap .i64 ((n : Int) + 1) * IntKind.wrap .i64 ((n : Int) + 1)) = (((n + 1) * (n + 1) : Nat) : Int) := by
                      rw [hw1, ← Int.natCast_mul]
                      have : (n + 1) * (n + 1) ≤ 55 * 55 := Nat.mul_le_mul (by omega) (by omega)
                      exact wr_eq (by omega)
                    refine le_HM _ _ _ _ _ _ _ (fun _ _ h => h) ?_
                    conv => whnf
                    refine ⟨rfl, ?_⟩
                    conv => whnf
                    rw [hw2]
                    cases w9 : decide (3000 < (((n + 1) * (n + 1) : Nat) : Int))
                    · have e9 : decide ((n + 1) * (n + 1) ≤ 3000) = true := decide_eq_true (by have := of_decide_eq_false w9; omega)
                      have est : CChk.step (n, true) row = (n + 1, true) := by show (n + 1, decide ((n + 1) * (n + 1) ≤ 3000)) = _; rw [e9]
                      rw [est]
                      conv => whnf
                      refine ⟨rfl, rfl, ?_, rfl, rfl, rfl, rfl⟩
                      show ABlk.var [.d (int (IntKind.wrap .i64 ((n : Int) + 1)))] = .var [.d (int ((n + 1 : Nat) : Int))]
                      rw [hw1]
                    · have e9 : decide ((n + 1) * (n + 1) ≤ 3000) = false := decide_eq_false (by have := of_decide_eq_true w9; omega)
                      have est : CChk.step (n, true) row = (n + 1, false) := by show (n + 1, decide ((n + 1) * (n + 1) ≤ 3000)) = _; rw [e9]
                      rw [est]
                      conv => whnf
                      refine ⟨rfl, rfl, ?_, rfl, rfl, rfl, rfl⟩
                      show ABlk.var [.d (int (IntKind.wrap .i64 ((n : Int) + 1)))] = .var [.d (int ((n + 1 : Nat) : Int))]
                      rw [hw1]
                  · rintro _ _ ⟨row', hl', ht', rfl, rfl⟩
                    rw [show rowsF s (i : Int) ms ms.length [] = ALL from hA2]
                    rcases CChk_fin ALL with ⟨h1, h2⟩ | ⟨h1, q, h2⟩
                    · rw [if_neg (show ¬ 3000 < ALL.length * ALL.length by omega), if_pos rfl] at hb
                      rw [h2]
                      conv => whnf
                      exact ⟨IntKind.wrap .i64 ((i : Int) + 1), by kernel_rfl, ⟨i + 1, nx (by omega), by omega, hb⟩, by rw [nx (by omega)]; omega⟩
                    · rw [if_pos h1, if_neg (by decide)] at hb
                      rw [h2, ← hb]
                      conv => whnf
                      kernel_rfl
          · have w5' : 6 < s.cols.length := by have := of_decide_eq_true w5; omega
            rw [bad 3 (by decide) (by rw [eFE, if_pos w5'])]
            conv => whnf
            kernel_rfl
end Go.Proofs.YtmkmegcconjgoaaG
