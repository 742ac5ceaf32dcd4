/- The check of a season. No condition. -/
import Derived.Test.YtbkjfjlmhlmdbaaP10
set_option linter.unusedVariables false
set_option linter.unusedSimpArgs false
set_option maxRecDepth 100000
set_option maxHeartbeats 4000000
namespace Go.Proofs.YtbkjfjlmhlmdbaaG
open Go Go.AM Go.Proofs

def frameE (s : Season) : Int :=
  if withinF s.days 1 14 = false then 1 else if articlesE s ≠ 0 then articlesE s else if makersE s ≠ 0 then makersE s else if turnsF s.jobs s.arts.length = false then 1
  else if 6 < s.cols.length then 3 else if turnsF s.cols s.cols.length = false then 1 else ordersE s
def scopeE (s : Season) (_ : Nat) (k : Nat) : Int := if 3000 < (shiftsF s k).length * (shiftsF s k).length then 9 else 0
def checkE (s : Season) : Int := if frameE s ≠ 0 then frameE s else firstE (scopeE s) (List.range s.ovens.length) 0

theorem firstE_zero {α : Type} {e : Nat → α → Int} : ∀ {xs : List α} {i : Nat}, firstE e xs i = 0 → ∀ (j : Nat) (x : α), xs[j]? = some x → e (i + j) x = 0
  | [], i, _, j, x, hx => by simp at hx
  | y :: ys, i, h, j, x, hx => by
    unfold firstE at h
    split at h
    · rename_i h0
      cases j with
      | zero => simp at hx; subst hx; exact h0
      | succ j => have := firstE_zero h j x (by simpa using hx); rwa [show i + 1 + j = i + (j + 1) by omega] at this
    · rename_i h0; exact absurd h h0
theorem firstE_mem {α : Type} {e : Nat → α → Int} {xs : List α} (h : firstE e xs 0 = 0) {x : α} (hx : x ∈ xs) : ∃ i, e i x = 0 := by
  obtain ⟨j, hj, rfl⟩ := List.mem_iff_getElem.1 hx
  exact ⟨_, firstE_zero h j _ (by simp [hj])⟩

theorem turn_iff {t : Int × Int} (h : turnOk t = true) : 0 ≤ t.1 ∧ t.1 ≤ 1440 ∧ 0 ≤ t.2 ∧ t.2 ≤ 1000000 := by
  simp only [turnOk, Bool.and_eq_true, within_iff] at h
  omega
theorem turns_iff {l : List (List (Int × Int))} {n : Nat} (h : turnsF l n = true) : l.length = n ∧ ∀ r ∈ l, r.length = n ∧ ∀ t ∈ r, 0 ≤ t.1 ∧ t.1 ≤ 1440 ∧ 0 ≤ t.2 ∧ t.2 ≤ 1000000 := by
  simp only [turnsF, Bool.and_eq_true, decide_eq_true_eq, List.all_eq_true] at h
  refine ⟨by omega, fun r hr => ?_⟩
  have := h.2 r hr
  simp only [rowOk, Bool.and_eq_true, decide_eq_true_eq, Bool.not_eq_true', List.any_eq_false] at this
  refine ⟨by omega, fun t ht => turn_iff ?_⟩
  have := this.2 t ht
  simpa using this

theorem frame_fr {s : Season} (hs : Sm s) (h : frameE s = 0) : Fr s := by
  unfold frameE at h
  split at h
  · cases h
  rename_i h1
  split at h
  · rename_i h2; exact absurd h h2
  rename_i h2
  split at h
  · rename_i h3; exact absurd h h3
  rename_i h3
  split at h
  · cases h
  rename_i h4
  split at h
  · cases h
  rename_i h5
  split at h
  · cases h
  rename_i h6
  have h2 := Decidable.not_not.1 h2
  have h3 := Decidable.not_not.1 h3
  have d := within_iff.1 (by simpa using h1)
  have j := turns_iff (by simpa using h4)
  have c := turns_iff (by simpa using h6)
  unfold articlesE at h2
  split at h2
  · cases h2
  rename_i a1
  split at h2
  · rename_i a2; exact absurd h2 a2
  rename_i a2
  split at h2
  · cases h2
  rename_i a3
  have a2 := Decidable.not_not.1 a2
  unfold makersE at h3
  split at h3
  · cases h3
  rename_i m1
  unfold ordersE at h
  split at h
  · cases h
  rename_i o1
  refine ⟨hs, d, by omega, by omega, by omega, fun a ha => ?_, fun o ho => ?_, fun m hm => ?_, j, by omega, c.2, by omega, fun o ho => ?_⟩
  · obtain ⟨i, e⟩ := firstE_mem a2 ha
    unfold artE at e
    split at e
    · cases e
    split at e
    · cases e
    split at e
    · cases e
    rename_i e3
    split at e
    · cases e
    rename_i e4
    have e3 := within_iff.1 (by simpa using e3)
    have e4 := within_iff.1 (by simpa using e4)
    omega
  · obtain ⟨i, e⟩ := firstE_mem h2 ho
    unfold ovE at e
    split at e
    · cases e
    rename_i e1
    simp at e1
    omega
  · obtain ⟨i, e⟩ := firstE_mem h3 hm
    unfold mkE at e
    split at e
    · cases e
    rename_i e1
    split at e
    · cases e
    rename_i e2
    have e1 := within_iff.1 (by simpa using e1)
    have e2 : mkBad s m = false := by simpa using e2
    simp only [mkBad, Bool.or_eq_false_iff, Bool.not_eq_false', decide_eq_true_eq, within_iff, List.any_eq_false] at e2
    refine ⟨by omega, by omega, by omega, fun r hr => ?_, by omega, by omega, by omega, by omega⟩
    have := e2.1.1.2 r hr
    exact within_iff.1 (by simpa [rateOk] using this)
  · obtain ⟨i, e⟩ := firstE_mem h ho
    unfold ordE at e
    split at e
    · cases e
    rename_i e1
    split at e
    · cases e
    split at e
    · cases e
    rename_i e3
    have e1 := within_iff.1 (by simpa using e1)
    have e3 : ordBad s o = false := by simpa using e3
    have hw : IntKind.wrap .i64 (s.days - 1) = s.days - 1 := wr_eq (by omega)
    simp only [ordBad, hw, Bool.or_eq_false_iff, Bool.not_eq_false', within_iff] at e3
    omega
end Go.Proofs.YtbkjfjlmhlmdbaaG

/- The check of a season, its code. No condition. -/
set_option linter.unusedVariables false
set_option linter.unusedSimpArgs false
set_option maxRecDepth 100000
set_option maxHeartbeats 4000000
namespace Go.Proofs.YtbkjfjlmhlmdbaaG
open Go Go.AM Go.Proofs

/-- The count of the shifts; false: there are too many. -/
def CChk : Cons (Nat × Bool) where
  go := fun σ => σ.2
  step := fun σ _ => (σ.1 + 1, decide ((σ.1 + 1) * (σ.1 + 1) ≤ 3000))
  c1 := fun σ => .var [.d (int (cond σ.2 0 9))]
  c2 := fun σ => .var [.d (int σ.1)]
  c3 := fun σ => cond σ.2 .fresh (.mark none)
  h1 := fun _ => rfl
  h2 := fun _ => rfl
  h3 := fun ⟨_, b⟩ => by cases b <;> rfl
theorem sq_le {a b : Nat} (h : a ≤ b) : a * a ≤ b * b := Nat.mul_le_mul h h
theorem CChk_all : ∀ (rs : List (List Int)) (n : Nat), n * n ≤ 3000 → if (n + rs.length) * (n + rs.length) ≤ 3000 then CChk.all rs (n, true) = (n + rs.length, true) else ∃ q, CChk.all rs (n, true) = (q, false)
  | [], n, h => by
    rw [if_pos (by simpa using h)]; rfl
  | r :: rs, n, h => by
    have e : CChk.all (r :: rs) (n, true) = CChk.all rs (n + 1, decide ((n + 1) * (n + 1) ≤ 3000)) := rfl
    rw [e]
    by_cases h1 : (n + 1) * (n + 1) ≤ 3000
    · have ih := CChk_all rs (n + 1) h1
      rw [decide_eq_true h1]
      have : n + 1 + rs.length = n + (r :: rs).length := by simp; omega
      rw [this] at ih; exact ih
    · rw [decide_eq_false h1]
      have h2 : ¬ (n + (r :: rs).length) * (n + (r :: rs).length) ≤ 3000 := fun h3 => h1 (Nat.le_trans (sq_le (by simp <;> omega)) h3)
      rw [if_neg h2]
      exact ⟨_, CChk.all_stop rfl⟩
theorem CChk_fin (rs : List (List Int)) : (rs.length * rs.length ≤ 3000 ∧ CChk.all rs (0, true) = (rs.length, true)) ∨ (3000 < rs.length * rs.length ∧ ∃ q, CChk.all rs (0, true) = (q, false)) := by
  have := CChk_all rs 0 (by decide)
  rw [Nat.zero_add] at this
  by_cases h : rs.length * rs.length ≤ 3000
  · rw [if_pos h] at this; exact .inl ⟨h, this⟩
  · rw [if_neg h] at this; exact .inr ⟨by omega, this⟩

theorem small_of_sq {n : Nat} (h : n * n ≤ 3000) : n ≤ 54 := by
  apply Nat.le_of_not_lt
  intro h1
  have : 55 * 55 ≤ n * n := sq_le h1
  omega

theorem check_ok (s : Season) (hs : Sm s) : PureFn Try.prog 49 [seasonD s] (int (checkE s)) := by
  have har := hs.arts
  have hco := hs.cols
  have hov := hs.ovens
  have c1 := articles_ok s hs
  have c2 := makersE_ok s hs
  have c3 := ordersE_ok s hs
  have c4 := turns_ok s.jobs s.arts.length (by have := hs.jobs; omega) (fun r hr => by have := hs.jobRows r hr; omega)
  have c5 := turns_ok s.cols s.cols.length (by omega) (fun r hr => by have := hs.colRows r hr; omega)
  have hfr := frame_fr hs
  obtain ⟨FE, hFE⟩ : ∃ FE, frameE s = FE := ⟨_, rfl⟩
  have eFE : FE = if withinF s.days 1 14 = false then 1 else if articlesE s ≠ 0 then articlesE s else if makersE s ≠ 0 then makersE s else if turnsF s.jobs s.arts.length = false then 1
      else if 6 < s.cols.length then 3 else if turnsF s.cols s.cols.length = false then 1 else ordersE s := hFE.symm
  have ech : checkE s = if FE ≠ 0 then FE else firstE (scopeE s) (List.range s.ovens.length) 0 := by unfold checkE; rw [hFE]
  rw [hFE] at hfr
  obtain ⟨R, hR⟩ : ∃ R, checkE s = R := ⟨_, rfl⟩
  rw [hR] at ech ⊢
  have bad : ∀ e : Int, e ≠ 0 → FE = e → R = e := fun e h0 h1 => by rw [ech, if_pos (by rw [h1]; exact h0), h1]
  obtain ⟨A, hA⟩ : ∃ A, articlesE s = A := ⟨_, rfl⟩
  obtain ⟨M, hM⟩ : ∃ M, makersE s = M := ⟨_, rfl⟩
  obtain ⟨O, hO⟩ : ∃ O, ordersE s = O := ⟨_, rfl⟩
  rw [hA] at c1 eFE
  rw [hM] at c2 eFE
  rw [hO] at c3 eFE
  refine pureFn_by Try.func49 k49 rfl rfl ?_
  conv => whnf
  refine ⟨_, within_ok _ _ _, ?_⟩
  cases w1 : withinF s.days 1 14
  · rw [bad 1 (by decide) (by rw [eFE, w1]; rfl)]
    conv => whnf
    kernel_rfl
  · rw [w1, if_neg (by simp)] at eFE
    conv => whnf
    refine ⟨_, c1, ?_⟩
    conv => whnf
    cases w2 : decide (A = 0)
    · have w2' : A ≠ 0 := of_decide_eq_false w2
      rw [bad A w2' (by rw [eFE, if_pos w2'])]
      conv => whnf
      kernel_rfl
    · have w2' : A = 0 := of_decide_eq_true w2
      rw [if_neg (by simp [w2'])] at eFE
      conv => whnf
      refine ⟨_, c2, ?_⟩
      conv => whnf
      cases w3 : decide (M = 0)
      · have w3' : M ≠ 0 := of_decide_eq_false w3
        rw [bad M w3' (by rw [eFE, if_pos w3'])]
        conv => whnf
        kernel_rfl
      · have w3' : M = 0 := of_decide_eq_true w3
        rw [if_neg (by simp [w3'])] at eFE
        conv => whnf
        rw [List.length_map]
        refine ⟨_, c4, ?_⟩
        cases w4 : turnsF s.jobs s.arts.length
        · rw [bad 1 (by decide) (by rw [eFE, w4]; rfl)]
          conv => whnf
          kernel_rfl
        · rw [w4, if_neg (by simp)] at eFE
          conv => whnf
          rw [List.length_map]
          cases w5 : decide (6 < (s.cols.length : Int))
          · have w5' : ¬ 6 < s.cols.length := by have := of_decide_eq_false w5; omega
            rw [if_neg w5'] at eFE
            conv => whnf
            rw [List.length_map]
            refine ⟨_, c5, ?_⟩
            cases w6 : turnsF s.cols s.cols.length
            · rw [bad 1 (by decide) (by rw [eFE, w6]; rfl)]
              conv => whnf
              kernel_rfl
            · rw [w6, if_neg (by simp)] at eFE
              conv => whnf
              refine ⟨_, c3, ?_⟩
              conv => whnf
              cases w7 : decide (O = 0)
              · have w7' : O ≠ 0 := of_decide_eq_false w7
                rw [bad O w7' eFE]
                conv => whnf
                kernel_rfl
              · have w7' : O = 0 := of_decide_eq_true w7
                rw [w7'] at eFE
                have h := hfr eFE
                rw [eFE, if_neg (by simp)] at ech
                conv => whnf
                refine loopB (fun (x : Int) => ⟨mkT [(1, .d (.fptr (cellsS s))), (2, .ptr 1 0), (50, .d (int (s.ovens.map i2).length)), (51, .d (int x))], mkB [(1, .var [.d (int 0)])]⟩)
                  (fun x => ∃ i : Nat, x = i ∧ i ≤ s.ovens.length ∧ firstE (scopeE s) ((List.range s.ovens.length).drop i) i = R) (fun x => (s.ovens.length - x).toNat) 0 (by kernel_rfl) ⟨0, rfl, by omega, ech.symm⟩ ?_
                rintro _ ⟨i, rfl, hi, hb⟩
                conv => whnf
                rw [List.length_map]
                cases w8 : decide ((i : Int) < (s.ovens.length : Int))
                · have hi' : i = s.ovens.length := by have := of_decide_eq_false w8; omega
                  rw [List.drop_of_length_le (by simp [hi'])] at hb
                  rw [← hb]
                  conv => whnf
                  kernel_rfl
                · have hi' : i < s.ovens.length := by have := of_decide_eq_true w8; omega
                  rw [firstE_at (List.getElem?_range hi')] at hb
                  have sh := shifts_ok s h (i : Int)
                  have hml := Nat.le_trans (makersF_len s (i : Int)) h.nm
                  obtain ⟨ms, hms⟩ : ∃ ms, makersF s (i : Int) = ms := ⟨_, rfl⟩
                  have hmm : ∀ m ∈ ms, 0 ≤ m ∧ m < s.makers.length := fun m hm => makersF_mem (hms ▸ hm)
                  obtain ⟨ALL, hALL⟩ : ∃ ALL, shiftsF s (i : Int) = ALL := ⟨_, rfl⟩
                  have hA2 : rowsF s (i : Int) ms ms.length [] = ALL := by rw [← hALL, shiftsF, hms]
                  rw [hms] at sh hml
                  rw [show scopeE s i i = if 3000 < ALL.length * ALL.length then 9 else 0 by unfold scopeE; rw [hALL]] at hb
                  conv => whnf
                  refine ⟨_, sh, ?_⟩
                  conv => whnf
                  intro lp
                  conv => whnf
                  refine ⟨by omega, by rw [List.length_map]; unfold most; omega, ?_⟩
                  conv => whnf
                  refine cond_intro (by show (true && ((((ms.map i1).length : Int).toNat == (List.replicate ((ms.map i1).length : Int).toNat [D.v (Z.val (.i .i64))]).length) && true)) = true; simp) ?_
                  conv => whnf
                  refine ⟨⟨mkT [], fst' CChk s (i : Int) ms lp ((0, true), (List.replicate ms.length (0 : Int)).map i1)⟩, _, Lie.fgt ⟨rfl, rfl, rfl, ?_, ?_, ?_⟩ (by kernel_rfl),
                    from_ok CChk s h (i : Int) ⟨by omega, by omega⟩ ms hmm hml lp _ (HM_mono _) ALL (0, true) ?_ ms.length 0 [] (List.replicate ms.length 0) (0, true) [] [] (by simp [hA2]) rfl (by simp) rfl (by simp) rfl (fun x hx => by cases hx) rfl, ?_⟩
                  · show ABlk.var [.row 1003 0 (((ms.map i1).length : Nat) : Int).toNat (((ms.map i1).length : Nat) : Int).toNat] = _
                    simp
                  · rfl
                  · show ABlk.row 1 (List.replicate (((ms.map i1).length : Nat) : Int).toNat [D.v (Z.val (.i .i64))]) = _
                    simp [Z.val]
                  · rintro rs row ⟨n, b⟩ hσ hex hgo hrl hAr
                    have hb1 : b = true := hgo
                    subst hb1
                    have hn : n * n ≤ 3000 := by
                      rcases CChk_fin rs with ⟨h1, h2⟩ | ⟨_, q, h2⟩
                      · rw [h2] at hσ; cases hσ; exact h1
                      · rw [h2] at hσ; cases hσ
                    have hn54 := small_of_sq hn
                    have hw1 : IntKind.wrap .i64 ((n : Int) + 1) = ((n + 1 : Nat) : Int) := nx (by omega)
                    have hw2 : IntKind.wrap .i64 (IntKind.wrap .i64 ((n : Int) + 1) * IntKind.wrap .i64 ((n : Int) + 1)) = (((n + 1) * (n + 1) : Nat) : Int) := by
                      rw [hw1, ← Int.natCast_mul]
                      have : (n + 1) * (n + 1) ≤ 55 * 55 := Nat.mul_le_mul (by omega) (by omega)
                      exact wr_eq (by omega)
                    refine le_HM _ _ _ _ _ _ _ (fun _ _ h => h) ?_
                    conv => whnf
                    refine ⟨rfl, ?_⟩
                    conv => whnf
                    rw [hw2]
                    cases w9 : decide (3000 < (((n + 1) * (n + 1) : Nat) : Int))
                    · have e9 : decide ((n + 1) * (n + 1) ≤ 3000) = true := decide_eq_true (by have := of_decide_eq_false w9; omega)
                      have est : CChk.step (n, true) row = (n + 1, true) := by show (n + 1, decide ((n + 1) * (n + 1) ≤ 3000)) = _; rw [e9]
                      rw [est]
                      conv => whnf
                      refine ⟨rfl, rfl, ?_, rfl, rfl, rfl, rfl⟩
                      show ABlk.var [.d (int (IntKind.wrap .i64 ((n : Int) + 1)))] = .var [.d (int ((n + 1 : Nat) : Int))]
                      rw [hw1]
                    · have e9 : decide ((n + 1) * (n + 1) ≤ 3000) = false := decide_eq_false (by have := of_decide_eq_true w9; omega)
                      have est : CChk.step (n, true) row = (n + 1, false) := by show (n + 1, decide ((n + 1) * (n + 1) ≤ 3000)) = _; rw [e9]
                      rw [est]
                      conv => whnf
                      refine ⟨rfl, rfl, ?_, rfl, rfl, rfl, rfl⟩
                      show ABlk.var [.d (int (IntKind.wrap .i64 ((n : Int) + 1)))] = .var [.d (int ((n + 1 : Nat) : Int))]
                      rw [hw1]
                  · rintro _ _ ⟨row', hl', ht', rfl, rfl⟩
                    rw [show rowsF s (i : Int) ms ms.length [] = ALL from hA2]
                    rcases CChk_fin ALL with ⟨h1, h2⟩ | ⟨h1, q, h2⟩
                    · rw [if_neg (show ¬ 3000 < ALL.length * ALL.length by omega), if_pos rfl] at hb
                      rw [h2]
                      conv => whnf
                      exact ⟨IntKind.wrap .i64 ((i : Int) + 1), by kernel_rfl, ⟨i + 1, nx (by omega), by omega, hb⟩, by rw [nx (by omega)]; omega⟩
                    · rw [if_pos h1, if_neg (by decide)] at hb
                      rw [h2, ← hb]
                      conv => whnf
                      kernel_rfl
          · have w5' : 6 < s.cols.length := by have := of_decide_eq_true w5; omega
            rw [bad 3 (by decide) (by rw [eFE, if_pos w5'])]
            conv => whnf
            kernel_rfl
end Go.Proofs.YtbkjfjlmhlmdbaaG

/- Plans: whether one may be, and whether it keeps a season. No condition. -/
set_option linter.unusedVariables false
set_option linter.unusedSimpArgs false
set_option maxRecDepth 100000
set_option maxHeartbeats 4000000
namespace Go.Proofs.YtbkjfjlmhlmdbaaG
open Go Go.AM Go.Proofs

theorem badArt_ok (s : Season) (hs : Sm s) (a : Int) : PureFn Try.prog 67 [int a, .fptr (cellsS s)] (boolD (!withinF a (-1) ((s.arts.length : Int) - 1))) := by
  have ha := hs.arts
  have hwa : IntKind.wrap .i64 (((s.arts.map artL).length : Int) - 1) = (s.arts.length : Int) - 1 := by rw [List.length_map, wr_eq (by omega)]
  refine pureFn_by Try.func67 k67 rfl rfl ?_
  conv => whnf
  refine ⟨_, within_ok _ _ _, ?_⟩
  rw [hwa]
  conv => whnf
  kernel_rfl
def planRow (s : Season) (r : List Int) : Bool := decide ((r.length : Int) = s.days) && !(r.any fun a => !withinF a (-1) ((s.arts.length : Int) - 1))
def planE (s : Season) (p : List (List Int)) : Int := if (p.length : Int) = s.makers.length then (if p.all (planRow s) = true then 0 else 1) else 1
/-- A plan is not long. -/
def SmP (p : List (List Int)) : Prop := p.length ≤ 20 ∧ ∀ r ∈ p, r.length ≤ 30

theorem checkPlan_ok (s : Season) (hs : Sm s) (p : List (List Int)) (hp : SmP p) : PureFn Try.prog 50 [seasonD s, planD p] (int (planE s p)) := by
  have hl := hp.1
  refine pureFn_by Try.func50 k50 rfl rfl ?_
  unfold planE
  obtain ⟨B, hB⟩ : ∃ B, p.all (planRow s) = B := ⟨_, rfl⟩
  rw [hB]
  conv => whnf
  rw [List.length_map, List.length_map]
  cases c0 : decide ((p.length : Int) = s.makers.length)
  · rw [if_neg (of_decide_eq_false c0)]
    conv => whnf
    kernel_rfl
  · rw [if_pos (of_decide_eq_true c0)]
    conv => whnf
    refine loopB (fun (i : Int) => ⟨mkT [(2, .d (.fptr (cellsS s))), (13, .d (planD p)), (14, .d (int (p.map rowL).length)), (15, .d (int i))], mkB []⟩)
      (fun i => ∃ k : Nat, i = k ∧ k ≤ p.length ∧ (p.drop k).all (planRow s) = B) (fun i => (p.length - i).toNat) 0 (by kernel_rfl) ⟨0, rfl, by omega, hB⟩ ?_
    rintro _ ⟨i, rfl, hi, hb⟩
    conv => whnf
    rw [List.length_map]
    cases c1 : decide ((i : Int) < (p.length : Int))
    · have hi' : i = p.length := by have := of_decide_eq_false c1; omega
      subst hi'
      rw [drop_end] at hb
      rw [← hb]
      conv => whnf
      kernel_rfl
    · have hi' : i < p.length := by have := of_decide_eq_true c1; omega
      obtain ⟨r, hx⟩ := get_lt hi'
      have hd := drop_at hx
      rw [hd, List.all_cons] at hb
      have key := any1_ok (fun a : Int => int a) r (fun a => !withinF a (-1) ((s.arts.length : Int) - 1)) 67 [.fptr (cellsS s)] (by have := hp.2 r (List.mem_of_getElem? hx); omega) (fun a _ => badArt_ok s hs a)
      have e : planRow s r = (decide ((r.length : Int) = s.days) && !(r.any fun a => !withinF a (-1) ((s.arts.length : Int) - 1))) := rfl
      rw [e] at hb
      conv => whnf
      refine ⟨by omega, _, gm hx, ?_⟩
      conv => whnf
      rw [List.length_map]
      cases c2 : decide ((r.length : Int) = s.days)
      · rw [c2] at hb
        rw [← hb]
        conv => whnf
        kernel_rfl
      · rw [c2] at hb
        conv => whnf
        refine ⟨_, key, ?_⟩
        cases c3 : (r.any fun a => !withinF a (-1) ((s.arts.length : Int) - 1))
        · rw [c3] at hb
          conv => whnf
          exact ⟨IntKind.wrap .i64 ((i : Int) + 1), by kernel_rfl, ⟨i + 1, nx (by omega), by omega, hb⟩, by rw [nx (by omega)]; omega⟩
        · rw [c3] at hb
          rw [← hb]
          conv => whnf
          kernel_rfl

/-- A plan that may be. -/
structure POk (s : Season) (p : List (List Int)) : Prop where
  len : p.length = s.makers.length
  rows : ∀ r ∈ p, (r.length : Int) = s.days ∧ Arts s r
theorem pok_of {s : Season} {p : List (List Int)} (h : planE s p = 0) : POk s p := by
  unfold planE at h
  split at h
  · rename_i h1
    split at h
    · rename_i h2
      refine ⟨by omega, fun r hr => ?_⟩
      have := List.all_eq_true.1 h2 r hr
      simp only [planRow, Bool.and_eq_true, decide_eq_true_eq, Bool.not_eq_true', List.any_eq_false] at this
      refine ⟨this.1, fun a ha => ?_⟩
      have := within_iff.1 (by simpa using this.2 a ha)
      omega
    · cases h
  · cases h

def cell (p : List (List Int)) (m d : Int) : Int := ((p[m.toNat]?).bind (·[d.toNat]?)).getD 0
def startF (s : Season) (m : Int) : Int := ((s.makers[m.toNat]?).map (·.start)).getD 0
def onA (s : Season) (p : List (List Int)) (d : Int) (m : Int) : Int := if d < 0 then startF s m else cell p m d
def onF (s : Season) (p : List (List Int)) (ms : List Int) (d : Int) : List Int := ms.map (onA s p d)

theorem cell_get {s : Season} {p : List (List Int)} (hp : POk s p) {m d : Int} (hm : 0 ≤ m ∧ m < s.makers.length) (hd : 0 ≤ d ∧ d < s.days) :
    ∃ r a, p[m.toNat]? = some r ∧ r[d.toNat]? = some a ∧ cell p m d = a ∧ -1 ≤ a ∧ a < s.arts.length := by
  have := hp.len
  obtain ⟨r, hr⟩ := get_lt (xs := p) (i := m.toNat) (by omega)
  have h1 := hp.rows r (List.mem_of_getElem? hr)
  obtain ⟨a, ha⟩ := get_lt (xs := r) (i := d.toNat) (by omega)
  exact ⟨r, a, hr, ha, by simp [cell, hr, ha], h1.2 a (List.mem_of_getElem? ha)⟩
theorem start_get {s : Season} (h : Fr s) {m : Int} (hm : 0 ≤ m ∧ m < s.makers.length) : ∃ M, s.makers[m.toNat]? = some M ∧ startF s m = M.start ∧ -1 ≤ M.start ∧ M.start < s.arts.length := by
  obtain ⟨M, hM⟩ := get_lt (xs := s.makers) (i := m.toNat) (by omega)
  have := h.maker M (List.mem_of_getElem? hM)
  exact ⟨M, hM, by simp [startF, hM], by omega, by omega⟩
theorem onA_art {s : Season} (h : Fr s) {p : List (List Int)} (hp : POk s p) {m d : Int} (hm : 0 ≤ m ∧ m < s.makers.length) (hd : d < s.days) : -1 ≤ onA s p d m ∧ onA s p d m < s.arts.length := by
  unfold onA
  split
  · obtain ⟨M, _, e, h1⟩ := start_get h hm; rw [e]; exact h1
  · obtain ⟨r, a, _, _, e, h1⟩ := cell_get hp hm ⟨by omega, hd⟩; rw [e]; exact h1
theorem onF_row {s : Season} (h : Fr s) {p : List (List Int)} (hp : POk s p) {ms : List Int} {d : Int} (hms : ∀ m ∈ ms, 0 ≤ m ∧ m < s.makers.length) (hl : ms.length ≤ 10) (hd : d < s.days) : Row s ms (onF s p ms d) :=
  ⟨by simp [onF], by simpa [onF] using hl, hms, fun a ha => by
    obtain ⟨m, hm, rfl⟩ := List.mem_map.1 ha
    exact onA_art h hp (hms m hm) hd⟩

theorem on_ok (s : Season) (h : Fr s) (p : List (List Int)) (hp : POk s p) (ms : List Int) (hms : ∀ m ∈ ms, 0 ≤ m ∧ m < s.makers.length) (hl : ms.length ≤ 10) (d : Int) (hd : d < s.days) :
    PureFn Try.prog 36 [seasonD s, planD p, rowD ms, int d] (rowD (onF s p ms d)) := by
  refine pureFn_by Try.func36 k36 rfl rfl ?_
  conv => whnf
  refine loopB (fun (x : Int × List (List D) × Nat) => ⟨mkT [(1, .d (planD p)), (3, .d (int d)), (4, .d (.fptr (cellsS s))), (9, .row 1 0 x.2.2 x.2.2), (12, .d (rowD ms)), (13, .d (int (ms.map i1).length)), (14, .d (int x.1))], mkB [(1, .row 1 x.2.1)]⟩)
    (fun x => ∃ i : Nat, x.1 = i ∧ i ≤ ms.length ∧ x.2.1 = (onF s p (ms.take i) d).map i1 ∧ x.2.2 = x.2.1.length) (fun x => (ms.length - x.1).toNat) (0, [], 0) (by kernel_rfl) ⟨0, rfl, by omega, rfl, rfl⟩ ?_
  rintro ⟨_, els, n⟩ ⟨i, rfl, hi, he, hn⟩
  simp only at he hn
  conv => whnf
  rw [List.length_map]
  cases c1 : decide ((i : Int) < (ms.length : Int))
  · have hi' : i = ms.length := by have := of_decide_eq_false c1; omega
    rw [hi', List.take_length] at he
    conv => whnf
    refine (resA_row (s := 1) (n := n) (esz := 1) (els := els) rfl rfl hn).trans ?_
    rw [he]
  · have hi' : i < ms.length := by have := of_decide_eq_true c1; omega
    obtain ⟨m, hx⟩ := get_lt hi'
    have hm := hms m (List.mem_of_getElem? hx)
    have htk : ms.take (i + 1) = ms.take i ++ [m] := by rw [List.take_add_one]; simp [hx]
    have hel : els.length = i := by rw [he]; simp [onF]; omega
    have hnew : ∀ v, onA s p d m = v → els ++ [[int v]] = (onF s p (ms.take (i + 1)) d).map i1 := fun v hv => by
      rw [htk, he]; simp [onF, hv]
    conv => whnf
    refine ⟨by omega, _, gm hx, ?_⟩
    conv => whnf
    cases c2 : decide (d < 0)
    · have h2 := of_decide_eq_false c2
      obtain ⟨r, a, hr, ha, ec, _⟩ := cell_get hp hm ⟨by omega, hd⟩
      have ho : onA s p d m = a := by unfold onA; rw [if_neg h2, ec]
      conv => whnf
      refine ⟨hm.1, _, gz hr, ?_⟩
      conv => whnf
      refine ⟨by omega, _, gz ha, ?_⟩
      conv => whnf
      refine ⟨rfl, rfl, hn, most_le (by simp; omega), ?_⟩
      conv => whnf
      exact ⟨(IntKind.wrap .i64 ((i : Int) + 1), els ++ [[int a]], els.length + 1), by kernel_rfl, ⟨i + 1, nx (by omega), by omega, hnew a ho, by simp⟩, by simp only; rw [nx (by omega)]; omega⟩
    · have h2 := of_decide_eq_true c2
      obtain ⟨M, hM, es, _⟩ := start_get h hm
      have ho : onA s p d m = M.start := by unfold onA; rw [if_pos h2, es]
      conv => whnf
      refine ⟨hm.1, _, gz hM, ?_⟩
      conv => whnf
      refine ⟨rfl, rfl, hn, most_le (by simp; omega), ?_⟩
      conv => whnf
      exact ⟨(IntKind.wrap .i64 ((i : Int) + 1), els ++ [[int M.start]], els.length + 1), by kernel_rfl, ⟨i + 1, nx (by omega), by omega, hnew _ ho, by simp⟩, by simp only; rw [nx (by omega)]; omega⟩
end Go.Proofs.YtbkjfjlmhlmdbaaG

/- Whether a plan keeps a season; the errors of both. No condition. -/
set_option linter.unusedVariables false
set_option linter.unusedSimpArgs false
set_option maxRecDepth 100000
set_option maxHeartbeats 4000000
namespace Go.Proofs.YtbkjfjlmhlmdbaaG
open Go Go.AM Go.Proofs

@[reducible] def nilD : D := .v (.slice none 0 0)
def fitD (s : Season) (p : List (List Int)) (k : Int) (d : Nat) : Bool := fitsF s k (makersF s k) (onF s p (makersF s k) (d : Int))
def keepK (s : Season) (p : List (List Int)) (k : Nat) : Bool := (List.range s.days.toNat).all (fitD s p (k : Int))
def keepsF (s : Season) (p : List (List Int)) : Bool := (List.range s.ovens.length).all (keepK s p)

theorem keeps_ok (s : Season) (h : Fr s) (p : List (List Int)) (hp : POk s p) : PureFn Try.prog 51 [seasonD s, planD p] (boolD (keepsF s p)) := by
  have hno := h.no
  have hdy := h.days
  refine pureFn_by Try.func51 k51 rfl rfl ?_
  unfold keepsF
  obtain ⟨B, hB⟩ : ∃ B, (List.range s.ovens.length).all (keepK s p) = B := ⟨_, rfl⟩
  rw [hB]
  conv => whnf
  refine loopB (fun (i : Int) => ⟨mkT [(1, .d (planD p)), (2, .d (.fptr (cellsS s))), (10, .d (int (s.ovens.map i2).length)), (11, .d (int i))], mkB []⟩)
    (fun i => ∃ k : Nat, i = k ∧ k ≤ s.ovens.length ∧ ((List.range s.ovens.length).drop k).all (keepK s p) = B) (fun i => (s.ovens.length - i).toNat) 0 (by kernel_rfl) ⟨0, rfl, by omega, hB⟩ ?_
  rintro _ ⟨i, rfl, hi, hb⟩
  conv => whnf
  rw [List.length_map]
  cases c1 : decide ((i : Int) < (s.ovens.length : Int))
  · have hi' : i = s.ovens.length := by have := of_decide_eq_false c1; omega
    rw [List.drop_of_length_le (by simp [hi'])] at hb
    rw [← hb]
    conv => whnf
    kernel_rfl
  · have hi' : i < s.ovens.length := by have := of_decide_eq_true c1; omega
    rw [drop_at (List.getElem?_range hi'), List.all_cons] at hb
    have mk := makers_ok s h.sm (i : Int)
    have hml := Nat.le_trans (makersF_len s (i : Int)) h.nm
    obtain ⟨ms, hms⟩ : ∃ ms, makersF s (i : Int) = ms := ⟨_, rfl⟩
    have hmm : ∀ m ∈ ms, 0 ≤ m ∧ m < s.makers.length := fun m hm => makersF_mem (hms ▸ hm)
    have hfd : ∀ d, fitD s p (i : Int) d = fitsF s (i : Int) ms (onF s p ms (d : Int)) := fun d => by unfold fitD; rw [hms]
    rw [hms] at mk hml
    obtain ⟨KB, hKB⟩ : ∃ KB, keepK s p i = KB := ⟨_, rfl⟩
    rw [hKB] at hb
    conv => whnf
    refine ⟨_, mk, ?_⟩
    conv => whnf
    refine loopB (fun (x : Int) => ⟨mkT [(1, .d (planD p)), (2, .d (.fptr (cellsS s))), (5, .d (int (i : Int))), (6, .d (rowD ms)), (10, .d (int s.ovens.length)), (11, .d (int (i : Int))), (18, .d (int s.days)), (19, .d (int x))], mkB []⟩)
      (fun x => ∃ k : Nat, x = k ∧ (k : Int) ≤ s.days ∧ ((List.range s.days.toNat).drop k).all (fitD s p (i : Int)) = KB) (fun x => (s.days - x).toNat) 0 (by kernel_rfl) ⟨0, rfl, by omega, hKB⟩ ?_
    rintro _ ⟨d, rfl, hd, hbd⟩
    conv => whnf
    cases c2 : decide ((d : Int) < s.days)
    · have hd' : s.days.toNat ≤ d := by have := of_decide_eq_false c2; omega
      rw [List.drop_of_length_le (by simpa using hd')] at hbd
      have hbd : KB = true := hbd.symm
      rw [hbd] at hb
      conv => whnf
      exact ⟨IntKind.wrap .i64 ((i : Int) + 1), by kernel_rfl, ⟨i + 1, nx (by omega), by omega, hb⟩, by rw [nx (by omega)]; omega⟩
    · have hd' := of_decide_eq_true c2
      rw [drop_at (List.getElem?_range (show d < s.days.toNat by omega)), List.all_cons, hfd d] at hbd
      have on := on_ok s h p hp ms hmm (by omega) (d : Int) hd'
      have ft := fits_ok s h (i : Int) ⟨by omega, by omega⟩ ms _ (onF_row h hp hmm (by omega) hd')
      conv => whnf
      refine ⟨_, on, ?_⟩
      conv => whnf
      refine ⟨_, ft, ?_⟩
      cases c3 : fitsF s (i : Int) ms (onF s p ms (d : Int))
      · rw [c3] at hbd
        have hbd : KB = false := hbd.symm
        rw [hbd] at hb
        rw [← hb]
        conv => whnf
        kernel_rfl
      · rw [c3] at hbd
        conv => whnf
        exact ⟨IntKind.wrap .i64 ((d : Int) + 1), by kernel_rfl, ⟨d + 1, nx (by omega), by omega, hbd⟩, by rw [nx (by omega)]; omega⟩

theorem fr_of {s : Season} (hs : Sm s) (h : checkE s = 0) : Fr s := by
  unfold checkE at h
  split at h
  · rename_i h1; exact absurd h h1
  · rename_i h1; exact frame_fr hs (Decidable.not_not.1 h1)

/-- What Keeps returns. -/
def keepsR (s : Season) (p : List (List Int)) : Bool × Int := if checkE s ≠ 0 then (false, checkE s) else if planE s p ≠ 0 then (false, planE s p) else (keepsF s p, 0)
theorem Keeps_ok (s : Season) (hs : Sm s) (p : List (List Int)) (hp : SmP p) : PureFn Try.prog 33 [seasonD s, planD p] (.tup [boolD (keepsR s p).1, int (keepsR s p).2]) := by
  have ch := check_ok s hs
  have pl := checkPlan_ok s hs p hp
  have hfr := fr_of hs
  unfold keepsR
  have hpk := @pok_of s p
  obtain ⟨A, hA⟩ : ∃ A, checkE s = A := ⟨_, rfl⟩
  obtain ⟨M, hM⟩ : ∃ M, planE s p = M := ⟨_, rfl⟩
  rw [hA] at ch hfr ⊢
  rw [hM] at pl hpk ⊢
  refine pureFn_by Try.func33 k33 rfl rfl ?_
  conv => whnf
  refine ⟨_, ch, ?_⟩
  conv => whnf
  cases c1 : decide (A = 0)
  · rw [if_pos (of_decide_eq_false c1)]
    conv => whnf
    kernel_rfl
  · have h1 := of_decide_eq_true c1
    rw [if_neg (by simp [h1])]
    conv => whnf
    refine ⟨_, pl, ?_⟩
    conv => whnf
    cases c2 : decide (M = 0)
    · rw [if_pos (of_decide_eq_false c2)]
      conv => whnf
      kernel_rfl
    · have h2 := of_decide_eq_true c2
      rw [if_neg (by simp [h2])]
      conv => whnf
      refine ⟨_, keeps_ok s (hfr h1) p (hpk h2), ?_⟩
      conv => whnf
      kernel_rfl

/-- The error of a plan that must keep the season. -/
def keptE (s : Season) (p : List (List Int)) : Int := if (keepsR s p).2 = 0 then (if (keepsR s p).1 = true then 0 else 8) else (keepsR s p).2
theorem kept_ok (s : Season) (hs : Sm s) (p : List (List Int)) (hp : SmP p) : PureFn Try.prog 16 [seasonD s, planD p] (int (keptE s p)) := by
  have kp := Keeps_ok s hs p hp
  unfold keptE
  obtain ⟨⟨b, e⟩, hr⟩ : ∃ r, keepsR s p = r := ⟨_, rfl⟩
  rw [hr] at kp ⊢
  refine pureFn_by Try.func16 k16 rfl rfl ?_
  conv => whnf
  refine ⟨_, kp, ?_⟩
  conv => whnf
  cases c1 : decide (e = 0)
  · rw [if_neg (of_decide_eq_false c1)]
    conv => whnf
    kernel_rfl
  · have h1 := of_decide_eq_true c1
    subst h1
    rw [if_pos rfl]
    cases b
    · conv => whnf
      kernel_rfl
    · conv => whnf
      kernel_rfl
theorem kept_zero {s : Season} (hs : Sm s) {p : List (List Int)} (h : keptE s p = 0) : Fr s ∧ POk s p ∧ keepsF s p = true := by
  unfold keptE at h
  split at h
  · rename_i h1
    split at h
    · rename_i h2
      unfold keepsR at h1 h2
      split at h1
      · rename_i h3; exact absurd h1 h3
      rename_i h3
      split at h1
      · rename_i h4; exact absurd h1 h4
      rename_i h4
      rw [if_neg h3, if_neg h4] at h2
      exact ⟨fr_of hs (Decidable.not_not.1 h3), pok_of (Decidable.not_not.1 h4), h2⟩
    · cases h
  · rename_i h1; exact absurd h h1

/-- What Shifts returns. -/
def shiftsE (s : Season) (k : Int) : Int := if checkE s ≠ 0 then checkE s else if withinF k 0 ((s.ovens.length : Int) - 1) = false then 7 else 0
end Go.Proofs.YtbkjfjlmhlmdbaaG
