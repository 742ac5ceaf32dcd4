/- The closure that goes through a furnace's shifts. No condition. -/
import Derived.Test.YtmkmegcconjgoaaP8
set_option linter.unusedVariables false
set_option linter.unusedSimpArgs false
set_option maxRecDepth 100000
set_option maxHeartbeats 4000000
namespace Go.Proofs.YtmkmegcconjgoaaG
open Go Go.AM Go.Proofs

theorem Lie.fgt {S : Type} {C : Cons S} {s : Season} {k : Int} {ms : List Int} {lp : Nat} {x : S × List (List D)} {t T : Nat → AC} {b : Nat → ABlk} {lt : List Nat} (h : Lie C s k ms lp x b) (ht : mkT (lt.map fun i => (i, scrC LS (t i))) = T) :
    St.forget ⟨t, b⟩ lt LS = ⟨T, fst' C s k ms lp x⟩ := by
  have h1 := Lie.forget C s k ms lp (t := t) h lt
  have h2 : (St.forget ⟨t, b⟩ lt LS).t = T := ht
  calc St.forget ⟨t, b⟩ lt LS = ⟨(St.forget ⟨t, b⟩ lt LS).t, (St.forget ⟨t, b⟩ lt LS).b⟩ := rfl
    _ = _ := by rw [h1, h2]

theorem from_ok {S : Type} (C : Cons S) (s : Season) (h : Fr s) (k : Int) (hk : 0 ≤ k ∧ k < s.ovens.length) (ms : List Int) (hms : ∀ m ∈ ms, 0 ≤ m ∧ m < s.makers.length) (hml : ms.length ≤ 6) (lp : Nat) (H : Hand) (hm : HLe H H) (ALL : List (List Int)) (σ0 : S)
    (hy : ∀ rs row σ, σ = C.all rs σ0 → (∃ rest, rs ++ row :: rest = ALL) → C.go σ = true → row.length = ms.length → Arts s row → H LS lp [.row 1003 0 ms.length ms.length] (fst' C s k ms lp (σ, row.map i1)) (fun y b' => y = bC (C.go (C.step σ row)) ∧ Lie C s k ms lp (C.step σ row, row.map i1) b')) :
    ∀ (d j : Nat) (pre row : List Int) (σ : S) (rs rest : List (List Int)), rs ++ (rowsF s k ms d pre ++ rest) = ALL → σ = C.all rs σ0 → j + d = ms.length → pre.length = j → row.length = ms.length → row.take j = pre → Arts s pre → C.go σ = true →
      ImpFn Try.prog H LS 86 (.d (int (j : Int)) :: fcaps s k ms lp) (fst' C s k ms lp (σ, row.map i1)) (fun y b' => ∃ row' : List Int, row'.length = ms.length ∧ row'.take j = pre ∧ y = bC (C.go (C.all (rowsF s k ms d pre) σ)) ∧ b' = fst' C s k ms lp (C.all (rowsF s k ms d pre) σ, row'.map i1)) := by
  intro d
  induction d with
  | zero =>
    intro j pre row σ rs rest hALL hσ hj hp hrl hrt hA hgo
    have hrow : row = pre := by rw [← hrt, List.take_of_length_le (by omega)]
    subst hrow
    have ft := fits_ok s h k hk ms row ⟨hrl.symm, by omega, hms, hA⟩
    refine impFn_by hm Try.func86 k86 rfl rfl ?_
    conv => whnf
    rw [List.length_map, show decide ((j : Int) = (ms.length : Int)) = true from decide_eq_true (by omega)]
    conv => whnf
    rw [call4 (d1 := seasonD s) (d2 := int k) (d3 := rowD ms) (d4 := rowD row) rfl rfl rfl (snap_row0 (s := 1003) (esz := 1) (els := row.map i1) rfl (by simp [hrl]))]
    conv => whnf
    refine ⟨_, ft, rfl, ?_⟩
    simp only [rowsF] at hALL ⊢
    cases cf : fitsF s k ms row
    · conv => whnf
      refine ⟨.d (.v (.bool true)), by kernel_rfl, row, hrl, hrt, ?_, ?_⟩
      · show _ = bC (C.go σ)
        rw [hgo]; rfl
      · show _ = fst' C s k ms lp (σ, row.map i1)
        exact Lie.forget C s k ms lp (x := (σ, row.map i1)) ⟨rfl, rfl, rfl, rfl, rfl, rfl⟩ _
    · conv => whnf
      refine hm _ _ _ _ _ _ ?_ (hy rs row σ hσ ⟨rest, by rw [cf] at hALL; exact hALL⟩ hgo hrl hA)
      rintro y b' ⟨rfl, hL⟩
      have e1 : C.all (if true = true then [row] else []) σ = C.step σ row := by simp [Cons.all, Cons.st, hgo]
      rw [e1]
      conv => whnf
      refine ⟨.d (.v (.bool (C.go (C.step σ row)))), by kernel_rfl, row, hrl, hrt, rfl, ?_⟩
      exact Lie.forget C s k ms lp hL _
  | succ d ih =>
    intro j pre row σ rs rest hALL hσ hj hp hrl hrt hA hgo
    have hna := h.na
    have hml2 := hml
    obtain ⟨FIN, hFIN⟩ : ∃ FIN, C.all (rowsF s k ms (d + 1) pre) σ = FIN := ⟨_, rfl⟩
    rw [hFIN]
    obtain ⟨F, hF⟩ : ∃ F : Nat → List (List Int), F = fun (u : Nat) => if skipF s ms pre ((u : Int) - 1) = true then [] else rowsF s k ms d (pre ++ [(u : Int) - 1]) := ⟨_, rfl⟩
    have hall : C.all (((List.range (s.arts.length + 1)).drop 0).flatMap F) σ = FIN := by rw [← hFIN, hF]; rfl
    refine impFn_by hm Try.func86 k86 rfl rfl ?_
    conv => whnf
    rw [List.length_map, show decide ((j : Int) = (ms.length : Int)) = false from decide_eq_false (by omega)]
    conv => whnf
    refine loopB (fun (x : Int × S × List (List D)) => ⟨mkT [(0, .d (int (j : Int))), (1, .d (.fptr [rowD ms])), (2, .d (.fptr (cellsS s))), (4, .ptr 1001 0), (6, .ptr 1002 0), (9, .d (int x.1))], fst' C s k ms lp x.2⟩)
      (fun x => ∃ (u : Nat) (row : List Int), x.1 = (u : Int) - 1 ∧ u ≤ s.arts.length + 1 ∧ row.length = ms.length ∧ row.take j = pre ∧ x.2.2 = row.map i1 ∧ C.go x.2.1 = true ∧ C.all (((List.range (s.arts.length + 1)).drop u).flatMap F) x.2.1 = FIN ∧ ∃ rs1, x.2.1 = C.all rs1 σ0 ∧ rs1 ++ (((List.range (s.arts.length + 1)).drop u).flatMap F ++ rest) = ALL)
      (fun x => ((s.arts.length : Int) - x.1).toNat) (-1, σ, row.map i1) (Lie.fgt ⟨rfl, rfl, rfl, rfl, rfl, rfl⟩ (by kernel_rfl)) ⟨0, row, by simp, by omega, hrl, hrt, rfl, hgo, hall, rs, hσ, by rw [← hALL, hF]; rfl⟩ ?_
    rintro ⟨a, σ1, els⟩ ⟨u, row1, ha, hu, hr1, ht1, he, hg1, hf, rs1, hrs, hA1⟩
    simp only at ha he hg1 hf hrs
    subst he
    conv => whnf
    rw [List.length_map]
    cases c1 : decide (a < (s.arts.length : Int))
    · have hu' : s.arts.length + 1 ≤ u := by have := of_decide_eq_false c1; omega
      rw [List.drop_of_length_le (by simpa using hu')] at hf
      have e2 : σ1 = FIN := hf
      subst e2
      conv => whnf
      refine ⟨.d (.v (.bool true)), by kernel_rfl, row1, hr1, ht1, ?_, ?_⟩
      · rw [hg1]; rfl
      · exact Lie.forget C s k ms lp (x := (σ1, row1.map i1)) ⟨rfl, rfl, rfl, rfl, rfl, rfl⟩ _
    · have hlt := of_decide_eq_true c1
      obtain ⟨m, hy2⟩ := get_lt (xs := ms) (i := j) (by omega)
      have hm2 := hms m (List.mem_of_getElem? hy2)
      obtain ⟨o, ho⟩ := get_lt (xs := row1) (i := j) (by omega)
      have hwa : IntKind.wrap .i64 (a + 1) = a + 1 := wr_eq (by omega)
      have hset : ABlk.row 1 ((row1.map i1).set (0 + ((j : Nat) : Int).toNat) (List.take 0 (i1 o) ++ [int a] ++ List.drop (0 + 1) (i1 o))) = .row 1 ((row1.set j a).map i1) := by
        rw [Nat.zero_add, Int.toNat_natCast, List.map_set]; rfl
      have hts : (row1.set j a).take j = pre := by rw [List.take_set_of_le (by omega)]; exact ht1
      have hts1 : (row1.set j a).take (j + 1) = pre ++ [a] := by
        rw [List.take_add_one, hts]; simp [show j < row1.length by omega]
      have hFu : F u = if skipF s ms pre a = true then [] else rowsF s k ms d (pre ++ [a]) := by rw [hF, ha]
      have hdr : (List.range (s.arts.length + 1)).drop u = u :: (List.range (s.arts.length + 1)).drop (u + 1) := drop_at (List.getElem?_range (by omega))
      rw [hdr, List.flatMap_cons, C.all_append, hFu] at hf
      rw [hdr, List.flatMap_cons, hFu] at hA1
      have hAa : Arts s (pre ++ [a]) := fun x hx => by
        rcases List.mem_append.1 hx with hx | hx
        · exact hA x hx
        · simp at hx; subst hx; omega
      have ih' := fun (e : skipF s ms pre a = false) => ih (j + 1) (pre ++ [a]) (row1.set j a) σ1 rs1 (((List.range (s.arts.length + 1)).drop (u + 1)).flatMap F ++ rest) (by rw [e, if_neg (by simp)] at hA1; rw [← hA1]; simp) hrs (by omega) (by simp [hp]) (by simp [hr1]) hts1 hAa hg1
      rw [← nx (by omega)] at ih'
      have hskA : skipF s ms pre a = true → rs1 ++ (((List.range (s.arts.length + 1)).drop (u + 1)).flatMap F ++ rest) = ALL := fun e => by rw [if_pos e] at hA1; exact hA1
      have hgoA : skipF s ms pre a = false → ∀ σ2, C.all (rowsF s k ms d (pre ++ [a])) σ1 = σ2 → ∃ rs2, σ2 = C.all rs2 σ0 ∧ rs2 ++ (((List.range (s.arts.length + 1)).drop (u + 1)).flatMap F ++ rest) = ALL := fun e σ2 e2 => by
        rw [e, if_neg (by simp)] at hA1
        exact ⟨rs1 ++ rowsF s k ms d (pre ++ [a]), by rw [C.all_append, ← hrs, e2], by rw [← hA1]; simp⟩
      have hsk : skipF s ms pre a = true → C.all (((List.range (s.arts.length + 1)).drop (u + 1)).flatMap F) σ1 = FIN := fun e => by rw [if_pos e] at hf; exact hf
      have hgo1 : skipF s ms pre a = false → ∀ σ2, C.all (rowsF s k ms d (pre ++ [a])) σ1 = σ2 → C.all (((List.range (s.arts.length + 1)).drop (u + 1)).flatMap F) σ2 = FIN := fun e σ2 e2 => by
        rw [e, if_neg (by simp), e2] at hf; exact hf
      have hmg : ms.getD pre.length 0 = m := by rw [hp]; simp [List.getD, hy2]
      have esk : skipF s ms pre a = (decide (0 ≤ a) && (decide (rateF s m a = 0) || !decide (colA s a = colF s (pre ++ [a])))) := by unfold skipF; rw [hmg]
      conv => whnf
      refine ⟨by omega, by omega, by simp [hr1], ?_⟩
      conv => whnf
      refine ⟨by simp [hr1], _, (by rw [Nat.zero_add]; exact gm ho), ?_⟩
      conv => whnf
      cases c2 : decide (0 ≤ a)
      · have esk0 : skipF s ms pre a = false := by rw [esk, c2]; rfl
        have hgo2 := hgo1 esk0
        have hgoA2 := hgoA esk0
        have ih' := ih' esk0
        conv => whnf
        refine ⟨⟨mkT [(0, .d (int (j : Int))), (1, .d (.fptr [rowD ms])), (2, .d (.fptr (cellsS s))), (4, .ptr 1001 0), (6, .ptr 1002 0), (9, .d (int a))], fst' C s k ms lp (σ1, (row1.set j a).map i1)⟩, _, Lie.fgt ⟨rfl, rfl, rfl, rfl, rfl, hset⟩ (by kernel_rfl), (le_HM H).imp ih', ?_⟩
        rintro _ _ ⟨row2, hl2, ht2, rfl, rfl⟩
        obtain ⟨σ2, hσ2⟩ : ∃ σ2, C.all (rowsF s k ms d (pre ++ [a])) σ1 = σ2 := ⟨_, rfl⟩
        rw [hσ2]
        have ht3 : row2.take j = pre := by
          have := congrArg (List.take j) ht2
          rw [List.take_take, Nat.min_eq_left (by omega), List.take_left' hp] at this
          exact this
        have hf2 := hgo2 σ2 hσ2
        cases hg2 : C.go σ2
        · have e2 : FIN = σ2 := by rw [← hf2, C.all_stop hg2]
          conv => whnf
          refine ⟨.d (.v (.bool false)), by kernel_rfl, row2, hl2, ht3, ?_, ?_⟩
          · rw [e2, hg2]; rfl
          · rw [e2]
            exact Lie.forget C s k ms lp (x := (σ2, row2.map i1)) ⟨rfl, rfl, rfl, rfl, rfl, rfl⟩ _
        · conv => whnf
          exact ⟨(IntKind.wrap .i64 (a + 1), σ2, row2.map i1), Lie.fgt ⟨rfl, rfl, rfl, rfl, rfl, rfl⟩ (by kernel_rfl), ⟨u + 1, row2, by simp only; rw [hwa]; omega, by omega, hl2, ht3, rfl, hg2, hf2, hgoA2 σ2 hσ2⟩, by simp only; rw [hwa]; omega⟩
      · have h0 := of_decide_eq_true c2
        obtain ⟨x, hax, ec, _⟩ := art_get h0 hlt
        obtain ⟨M, r, hM, hr, er, _, _⟩ := rate_get h hm2 h0 hlt
        rw [c2, er, ec] at esk
        conv => whnf
        refine ⟨by omega, _, gm hy2, ?_⟩
        conv => whnf
        refine ⟨hm2.1, _, gz hM, ?_⟩
        conv => whnf
        refine ⟨h0, _, gz hr, ?_⟩
        conv => whnf
        cases c3 : decide (r = 0)
        · rw [c3] at esk
          have cl := colour_ok s (pre ++ [a]) (by simp; omega) hAa
          have hsn : ∀ b : Nat → ABlk, b 1003 = .row 1 ((row1.set j a).map i1) → snap b 4 (.row 1003 0 (IntKind.wrap .i64 ((j : Int) + 1)).toNat ms.length) = some (rowD (pre ++ [a])) := fun b hb => by
            rw [snap_take hb (by simp [hr1]) (by rw [nx (by omega)]; simp [hr1]; omega), nx (by omega), Int.toNat_natCast, ← List.map_take, hts1]
          conv => whnf
          refine ⟨h0, _, gz hax, ?_⟩
          conv => whnf
          have hw1 : 0 ≤ IntKind.wrap .i64 ((j : Int) + 1) ∧ IntKind.wrap .i64 ((j : Int) + 1) ≤ (ms.length : Int) := by rw [nx (by omega)]; omega
          refine ⟨rfl, hw1.1, hw1.2, rfl, by simp [hr1], ?_⟩
          conv => whnf
          rw [call2 (d := seasonD s) (e := rowD (pre ++ [a])) rfl (hsn _ hset)]
          conv => whnf
          refine ⟨_, cl, rfl, ?_⟩
          conv => whnf
          cases c4 : decide (x.colour = colF s (pre ++ [a]))
          · rw [c4] at esk
            conv => whnf
            exact ⟨(IntKind.wrap .i64 (a + 1), σ1, (row1.set j a).map i1), Lie.fgt ⟨rfl, rfl, rfl, rfl, rfl, hset⟩ (by kernel_rfl), ⟨u + 1, row1.set j a, by simp only; rw [hwa]; omega, by omega, by simp [hr1], hts, rfl, hg1, hsk (by rw [esk]; rfl), rs1, hrs, hskA (by rw [esk]; rfl)⟩, by simp only; rw [hwa]; omega⟩
          · rw [c4] at esk
            have esk0 : skipF s ms pre a = false := by rw [esk]; rfl
            have hgo2 := hgo1 esk0
            have hgoA2 := hgoA esk0
            have ih' := ih' esk0
            conv => whnf
            refine ⟨⟨mkT [(0, .d (int (j : Int))), (1, .d (.fptr [rowD ms])), (2, .d (.fptr (cellsS s))), (4, .ptr 1001 0), (6, .ptr 1002 0), (9, .d (int a))], fst' C s k ms lp (σ1, (row1.set j a).map i1)⟩, _, Lie.fgt ⟨rfl, rfl, rfl, rfl, rfl, hset⟩ (by kernel_rfl), (le_HM H).imp ih', ?_⟩
            rintro _ _ ⟨row2, hl2, ht2, rfl, rfl⟩
            obtain ⟨σ2, hσ2⟩ : ∃ σ2, C.all (rowsF s k ms d (pre ++ [a])) σ1 = σ2 := ⟨_, rfl⟩
            rw [hσ2]
            have ht3 : row2.take j = pre := by
              have := congrArg (List.take j) ht2
              rw [List.take_take, Nat.min_eq_left (by omega), List.take_left' hp] at this
              exact this
            have hf2 := hgo2 σ2 hσ2
            cases hg2 : C.go σ2
            · have e2 : FIN = σ2 := by rw [← hf2, C.all_stop hg2]
              conv => whnf
              refine ⟨.d (.v (.bool false)), by kernel_rfl, row2, hl2, ht3, ?_, ?_⟩
              · rw [e2, hg2]; rfl
              · rw [e2]
                exact Lie.forget C s k ms lp (x := (σ2, row2.map i1)) ⟨rfl, rfl, rfl, rfl, rfl, rfl⟩ _
            · conv => whnf
              exact ⟨(IntKind.wrap .i64 (a + 1), σ2, row2.map i1), Lie.fgt ⟨rfl, rfl, rfl, rfl, rfl, rfl⟩ (by kernel_rfl), ⟨u + 1, row2, by simp only; rw [hwa]; omega, by omega, hl2, ht3, rfl, hg2, hf2, hgoA2 σ2 hσ2⟩, by simp only; rw [hwa]; omega⟩
        · rw [c3] at esk
          conv => whnf
          exact ⟨(IntKind.wrap .i64 (a + 1), σ1, (row1.set j a).map i1), Lie.fgt ⟨rfl, rfl, rfl, rfl, rfl, hset⟩ (by kernel_rfl), ⟨u + 1, row1.set j a, by simp only; rw [hwa]; omega, by omega, by simp [hr1], hts, rfl, hg1, hsk (by rw [esk]; rfl), rs1, hrs, hskA (by rw [esk]; rfl)⟩, by simp only; rw [hwa]; omega⟩
end Go.Proofs.YtmkmegcconjgoaaG
