/- The specification's results of a plan. No condition. -/
import Derived.Test.YtmkmegcconjgoaaP40
set_option linter.unusedVariables false
set_option linter.unusedSimpArgs false
set_option maxRecDepth 100000
set_option maxHeartbeats 4000000
namespace Go.Proofs.YtmkmegcconjgoaaG
open Go Go.AM Go.Proofs


theorem results_ok' (s : Season) (h : Fr s) (h3 : s.makers.length ≤ 3) (p : List (List Int)) (hp : POk s p) : PureFn Try.prog 61 [seasonD s, planD p] (.tup [planD (madeF s p).1, int (madeF s p).2]) := by
  have hno := h.no
  have hdy := h.days
  obtain ⟨FO, hFO⟩ : ∃ FO, madeF s p = FO := ⟨_, rfl⟩
  rw [hFO]
  refine pureFn_by Try.func61 k61 rfl rfl ?_
  conv => whnf
  refine ⟨by omega, by rw [List.length_map]; unfold most; omega, ?_⟩
  conv => whnf
  refine loopB (fun (x : Int × Int × List AC × ABlk × ABlk × ABlk) => ⟨mkT [(1, .d (planD p)), (2, .d (.fptr (cellsS s))), (6, .vs 1 0 ((((s.makers.map mkL).length : Nat) : Int).toNat)), (7, .d (int x.2.1)), (8, .d (int x.1))], mkB [(1, .var x.2.2.1), (2, x.2.2.2.1), (3, x.2.2.2.2.1), (4, x.2.2.2.2.2)]⟩)
    (fun x => ∃ (k : Nat) (xs : List (List Int)), x.1 = k ∧ k ≤ s.ovens.length ∧ Out 2 xs x.2.2.1 x.2.2.2.1 x.2.2.2.2.1 x.2.2.2.2.2 ∧ ((List.range s.ovens.length).drop k).foldl (daysF s p) (xs, x.2.1) = FO ∧ xs.length = s.makers.length ∧ (∀ y ∈ xs, y.length ≤ 140 * k) ∧ 0 ≤ x.2.1 ∧ x.2.1 ≤ 154000000 * k) (fun x => (s.ovens.length - x.1).toNat)
    (0, 0, (List.replicate ((((s.makers.map mkL).length : Nat) : Int).toNat) (zC .sl)).map (scrC [1, 2, 3, 4]), .fresh, .fresh, .fresh) (by kernel_rfl) ⟨0, List.replicate s.makers.length [], rfl, by omega, ?_, hFO, by simp, fun y hy => by simp [List.eq_of_mem_replicate hy], by simp, by simp⟩ ?_
  · have o := (Out.start (q := 2) h3).scrAll (ls := [1, 2, 3, 4]) (by simp) (by simp) (by simp)
    have e : ((((s.makers.map mkL).length : Nat) : Int).toNat) = s.makers.length := by simp
    rw [e]; exact o
  rintro ⟨_, cost, cs, b0, b1, b2⟩ ⟨k, xs, rfl, hk, out, hfo, hxl, hbnd, hc0, hc1⟩
  simp only at out hfo hxl hbnd hc0 hc1
  conv => whnf
  cases c1 : decide ((k : Int) < ((s.ovens.map i2).length : Int))
  · have hk' : k = s.ovens.length := by have := of_decide_eq_false c1; rw [List.length_map] at this; omega
    rw [List.drop_of_length_le (by simp [hk'])] at hfo
    have hfo : (xs, cost) = FO := hfo
    conv => whnf
    have hne : ∀ x ∈ xs, x ≠ [] := fun x hx => by
      obtain ⟨j, hj, rfl⟩ := List.mem_iff_getElem.1 hx
      obtain ⟨M, hM⟩ := get_lt (xs := s.makers) (i := j) (by omega)
      have h1 := (madeF_get h p).2 j M hM
      rw [hFO, ← hfo] at h1
      have h2 : xs[j] = rowM s p M.oven j := by
        obtain ⟨_, e⟩ := List.getElem?_eq_some_iff.1 h1; exact e
      rw [h2]
      intro e
      have := congrArg List.length e
      simp [rowM] at this
      omega
    rw [← hfo]
    exact res_out (q := 2) (v := 1) out (by simp [hxl]) rfl rfl rfl rfl rfl rfl hne
  · have hk' : k < s.ovens.length := by have := of_decide_eq_true c1; rw [List.length_map] at this; omega
    rw [drop_at (List.getElem?_range hk'), List.foldl_cons] at hfo
    have mk := makers_ok' s h.sm (k : Int)
    have hml := Nat.le_trans (makersF_len s (k : Int)) h3
    obtain ⟨ms, hms⟩ : ∃ ms, makersF s (k : Int) = ms := ⟨_, rfl⟩
    have hmm : ∀ m ∈ ms, 0 ≤ m ∧ m < s.makers.length := fun m hm => makersF_mem (hms ▸ hm)
    rw [hms] at mk hml
    obtain ⟨FD, hFD⟩ : ∃ FD, (List.range s.days.toNat).foldl (dayF s p ms) (xs, cost) = FD := ⟨_, rfl⟩
    have hds : daysF s p (xs, cost) k = FD := by unfold daysF; rw [hms]; exact hFD
    rw [hds] at hfo
    conv => whnf
    refine loopB (fun (x : Int × Int × List AC × ABlk × ABlk × ABlk) => ⟨mkT [(1, .d (planD p)), (2, .d (.fptr (cellsS s))), (6, .vs 1 0 ((((s.makers.map mkL).length : Nat) : Int).toNat)), (7, .d (int x.2.1)), (8, .d (int (k : Int))), (9, .d (int x.1))], mkB [(1, .var x.2.2.1), (2, x.2.2.2.1), (3, x.2.2.2.2.1), (4, x.2.2.2.2.2)]⟩)
      (fun x => ∃ (d : Nat) (xs : List (List Int)), x.1 = d ∧ (d : Int) ≤ s.days ∧ Out 2 xs x.2.2.1 x.2.2.2.1 x.2.2.2.2.1 x.2.2.2.2.2 ∧ ((List.range s.days.toNat).drop d).foldl (dayF s p ms) (xs, x.2.1) = FD ∧ xs.length = s.makers.length ∧ (∀ y ∈ xs, y.length ≤ 140 * k + 10 * d) ∧ 0 ≤ x.2.1 ∧ x.2.1 ≤ 154000000 * k + 11000000 * d) (fun x => (s.days - x.1).toNat)
      (0, cost, cs.map (scrC [1, 2, 3, 4]), scrB [1, 2, 3, 4] b0, scrB [1, 2, 3, 4] b1, scrB [1, 2, 3, 4] b2) (by kernel_rfl) ⟨0, xs, rfl, by omega, out.scrAll (by simp) (by simp) (by simp), hFD, hxl, fun y hy => by have := hbnd y hy; omega, hc0, by simp only; omega⟩ ?_
    rintro ⟨_, cost, cs, b0, b1, b2⟩ ⟨d, xs, rfl, hd, out, hf, hxl, hbnd, hc0, hc1⟩
    simp only at out hf hxl hbnd hc0 hc1
    conv => whnf
    cases c2 : decide ((d : Int) < s.days)
    · have hd' : s.days.toNat ≤ d := by have := of_decide_eq_false c2; omega
      rw [List.drop_of_length_le (by simpa using hd')] at hf
      have hf : (xs, cost) = FD := hf
      rw [← hf] at hfo
      conv => whnf
      exact ⟨(IntKind.wrap .i64 ((k : Int) + 1), cost, cs.map (scrC [1, 2, 3, 4]), scrB [1, 2, 3, 4] b0, scrB [1, 2, 3, 4] b1, scrB [1, 2, 3, 4] b2), by kernel_rfl, ⟨k + 1, xs, nx (by omega), by omega, out.scrAll (by simp) (by simp) (by simp), hfo, hxl, fun y hy => by have := hbnd y hy; omega, hc0, by simp only; omega⟩, by simp only; rw [nx (by omega)]; omega⟩
    · have hd' := of_decide_eq_true c2
      rw [drop_at (List.getElem?_range (show d < s.days.toNat by omega)), List.foldl_cons] at hf
      have on1 := shift_ok' s h p hp (k : Int) ((d : Int) - 1) (by omega)
      have on2 := shift_ok' s h p hp (k : Int) (d : Int) hd'
      have r1 := onF_row h hp hmm (by omega) (show (d : Int) - 1 < s.days by omega)
      have r2 := onF_row h hp hmm (by omega) hd'
      rw [hms] at on1 on2
      have wk := day_ok' s h (k : Int) ms _ _ hms r1 r2
      have wle := worked_le h r1 r2
      obtain ⟨⟨W, wc⟩, hW⟩ : ∃ w, workedF s ms (onF s p ms ((d : Int) - 1)) (onF s p ms (d : Int)) = w := ⟨_, rfl⟩
      have hWl : W.length = ms.length := by
        have := congrArg (fun w => w.1.length) hW
        simp only [workedF] at this
        rw [← this]
        exact madeL_len s _ r1.len r2.len
      have hdf : dayF s p ms (xs, cost) d = (addRow xs ms W, cost + wc) := by unfold dayF; rw [hW]
      rw [hdf] at hf
      rw [hW] at wk wle
      simp only at wk wle
      have hw1 : IntKind.wrap .i64 ((d : Int) - 1) = (d : Int) - 1 := wr_eq (by omega)
      rw [← hw1] at on1
      have hwc : IntKind.wrap .i64 (cost + wc) = cost + wc := wr_eq (by omega)
      obtain ⟨XS, hXS⟩ : ∃ XS, addRow xs ms W = XS := ⟨_, rfl⟩
      rw [hXS] at hf
      obtain ⟨B0, hB0⟩ : ∃ B0, 140 * k + 10 * d = B0 := ⟨_, rfl⟩
      rw [hB0] at hbnd
      rw [← hw1] at wk
      conv => whnf
      refine ⟨_, on1, ?_⟩
      conv => whnf
      refine ⟨_, on2, ?_⟩
      conv => whnf
      refine ⟨_, wk, ?_⟩
      conv => whnf
      refine ⟨_, mk, ?_⟩
      conv => whnf
      refine loopB (fun (x : Int × List AC × ABlk × ABlk × ABlk) => ⟨mkT [(1, .d (planD p)), (2, .d (.fptr (cellsS s))), (6, .vs 1 0 ((((s.makers.map mkL).length : Nat) : Int).toNat)), (7, .d (int (IntKind.wrap .i64 (cost + wc)))), (8, .d (int (k : Int))), (9, .d (int (d : Int))), (10, .d (rowD W)), (12, .d (rowD ms)), (13, .d (int x.1))], mkB [(1, .var x.2.1), (2, x.2.2.1), (3, x.2.2.2.1), (4, x.2.2.2.2)]⟩)
        (fun x => ∃ (i : Nat) (xs : List (List Int)), x.1 = i ∧ i ≤ ms.length ∧ Out 2 xs x.2.1 x.2.2.1 x.2.2.2.1 x.2.2.2.2 ∧ addRow xs (ms.drop i) (W.drop i) = XS ∧ xs.length = s.makers.length ∧ ∀ y ∈ xs, y.length ≤ B0 + i) (fun x => (ms.length - x.1).toNat)
        (0, cs.map (scrC [1, 2, 3, 4]), scrB [1, 2, 3, 4] b0, scrB [1, 2, 3, 4] b1, scrB [1, 2, 3, 4] b2) (by kernel_rfl) ⟨0, xs, rfl, by omega, out.scrAll (by simp) (by simp) (by simp), hXS, hxl, hbnd⟩ ?_
      rintro ⟨_, cs, b0, b1, b2⟩ ⟨i, xs, rfl, hi, out, hadd, hxl, hbnd⟩
      simp only at out hadd hxl hbnd
      conv => whnf
      cases c3 : decide ((i : Int) < ((ms.map i1).length : Int))
      · have hi' : i = ms.length := by have := of_decide_eq_false c3; rw [List.length_map] at this; omega
        rw [hi', drop_end] at hadd
        have hadd : xs = XS := by unfold addRow at hadd; exact hadd
        subst hadd
        conv => whnf
        exact ⟨(IntKind.wrap .i64 ((d : Int) + 1), IntKind.wrap .i64 (cost + wc), cs.map (scrC [1, 2, 3, 4]), scrB [1, 2, 3, 4] b0, scrB [1, 2, 3, 4] b1, scrB [1, 2, 3, 4] b2), by kernel_rfl, ⟨d + 1, xs, nx (by omega), by omega, out.scrAll (by simp) (by simp) (by simp), by simp only; rw [hwc]; exact hf, hxl, fun y hy => by have := hbnd y hy; omega, by simp only; rw [hwc]; omega, by simp only; rw [hwc]; omega⟩, by simp only; rw [nx (by omega)]; omega⟩
      · have hi' : i < ms.length := by have := of_decide_eq_true c3; rw [List.length_map] at this; omega
        obtain ⟨m, hy⟩ := get_lt hi'
        obtain ⟨v, hv⟩ := get_lt (xs := W) (i := i) (by omega)
        have hm := hmm m (List.mem_of_getElem? hy)
        obtain ⟨x, hxm⟩ := get_lt (xs := xs) (i := m.toNat) (by omega)
        obtain ⟨c, hc, hcell, hm3⟩ := out.get hxm
        have hxb := hbnd x (List.mem_of_getElem? hxm)
        rw [drop_at hy, drop_at hv, addRow, hxm] at hadd
        have hbound : ∀ y ∈ xs.set m.toNat (x ++ [v]), y.length ≤ B0 + (i + 1) := fun y hy => by
          rcases List.mem_or_eq_of_mem_set hy with h | rfl
          · have := hbnd y h; omega
          · simp; omega
        conv => whnf
        refine ⟨by omega, _, gm hy, ?_⟩
        conv => whnf
        refine ⟨by omega, _, gm hy, ?_⟩
        have hm012 : m = 0 ∨ m = 1 ∨ m = 2 := by omega
        rcases hm012 with hm0 | hm0 | hm0
        · rcases hcell with hcell | hcell
          · obtain rfl : m = 0 := by omega
            obtain ⟨tl, rfl⟩ : ∃ tl, cs = c :: tl := by
              cases cs with
              | nil => simp at hc
              | cons y tl => exact ⟨tl, by simp at hc; rw [hc]⟩
            obtain ⟨rfl, rfl, hbj⟩ := hcell
            have hbj : b0 = _ := hbj
            subst hbj
            conv => whnf
            refine ⟨by omega, by rw [List.length_map]; omega, ?_⟩
            conv => whnf
            refine ⟨by omega, _, gm hv, ?_⟩
            conv => whnf
            refine ⟨2, by simp, rfl, most_le (by simp), ?_⟩
            conv => whnf
            refine ⟨by omega, by rw [List.length_map]; omega, ?_⟩
            conv => whnf
            refine ⟨(IntKind.wrap .i64 ((i : Int) + 1), (.row 2 0 (([[int v]] : List (List D)).length) (([[int v]] : List (List D)).length) :: tl).map (scrC [1, 2, 3, 4]), scrB [1, 2, 3, 4] (.row 1 [[int v]]), scrB [1, 2, 3, 4] b1, scrB [1, 2, 3, 4] b2), by kernel_rfl, ⟨i + 1, _, nx (by omega), by omega, (Out.put (q := 2) (b0' := (.row 1 [[int v]])) (b1' := b1) (b2' := b2) out hxm (v := v) (by simp [sel]) sel0).scrAll (by simp) (by simp) (by simp), by simpa using hadd, by simpa using hxl, hbound⟩, by simp only; rw [nx (by omega)]; omega⟩
          · obtain rfl : m = 0 := by omega
            obtain ⟨tl, rfl⟩ : ∃ tl, cs = c :: tl := by
              cases cs with
              | nil => simp at hc
              | cons y tl => exact ⟨tl, by simp at hc; rw [hc]⟩
            obtain ⟨rfl, hbj⟩ := hcell
            have hbj : b0 = _ := hbj
            subst hbj
            conv => whnf
            refine ⟨by omega, by rw [List.length_map]; omega, ?_⟩
            conv => whnf
            refine ⟨by omega, _, gm hv, ?_⟩
            conv => whnf
            refine ⟨2, by simp, rfl, rfl, by simp, most_le (by simp; omega), ?_⟩
            conv => whnf
            refine ⟨by omega, by rw [List.length_map]; omega, ?_⟩
            conv => whnf
            refine cond_intro (by show (true && ((((x.map i1).length + 1) == (x.map i1 ++ [[int v]]).length) && true)) = true; simp) ?_
            conv => whnf
            refine ⟨(IntKind.wrap .i64 ((i : Int) + 1), (.row 2 0 ((x.map i1).length + 1) ((x.map i1).length + 1) :: tl).map (scrC [1, 2, 3, 4]), scrB [1, 2, 3, 4] (.row 1 (x.map i1 ++ [[int v]])), scrB [1, 2, 3, 4] b1, scrB [1, 2, 3, 4] b2), by kernel_rfl, ⟨i + 1, _, nx (by omega), by omega, (by simp only [List.length_map]; exact (Out.put (q := 2) (b0' := (.row 1 (x.map i1 ++ [[int v]]))) (b1' := b1) (b2' := b2) out hxm (v := v) (by simp [sel]) sel0).scrAll (by simp) (by simp) (by simp)), by simpa using hadd, by simpa using hxl, hbound⟩, by simp only; rw [nx (by omega)]; omega⟩
        · rcases hcell with hcell | hcell
          · obtain rfl : m = 1 := by omega
            obtain ⟨c0, tl, rfl⟩ : ∃ c0 tl, cs = c0 :: c :: tl := by
              match cs, hc with
              | c0 :: y :: tl, hc => exact ⟨c0, tl, by simp at hc; rw [hc]⟩
            obtain ⟨rfl, rfl, hbj⟩ := hcell
            have hbj : b1 = _ := hbj
            subst hbj
            conv => whnf
            refine ⟨by omega, by rw [List.length_map]; omega, ?_⟩
            conv => whnf
            refine ⟨by omega, _, gm hv, ?_⟩
            conv => whnf
            refine ⟨3, by simp, rfl, most_le (by simp), ?_⟩
            conv => whnf
            refine ⟨by omega, by rw [List.length_map]; omega, ?_⟩
            conv => whnf
            refine ⟨(IntKind.wrap .i64 ((i : Int) + 1), (c0 :: .row 3 0 (([[int v]] : List (List D)).length) (([[int v]] : List (List D)).length) :: tl).map (scrC [1, 2, 3, 4]), scrB [1, 2, 3, 4] b0, scrB [1, 2, 3, 4] (.row 1 [[int v]]), scrB [1, 2, 3, 4] b2), by kernel_rfl, ⟨i + 1, _, nx (by omega), by omega, (Out.put (q := 2) (b0' := b0) (b1' := (.row 1 [[int v]])) (b2' := b2) out hxm (v := v) (by simp [sel]) sel1).scrAll (by simp) (by simp) (by simp), by simpa using hadd, by simpa using hxl, hbound⟩, by simp only; rw [nx (by omega)]; omega⟩
          · obtain rfl : m = 1 := by omega
            obtain ⟨c0, tl, rfl⟩ : ∃ c0 tl, cs = c0 :: c :: tl := by
              match cs, hc with
              | c0 :: y :: tl, hc => exact ⟨c0, tl, by simp at hc; rw [hc]⟩
            obtain ⟨rfl, hbj⟩ := hcell
            have hbj : b1 = _ := hbj
            subst hbj
            conv => whnf
            refine ⟨by omega, by rw [List.length_map]; omega, ?_⟩
            conv => whnf
            refine ⟨by omega, _, gm hv, ?_⟩
            conv => whnf
            refine ⟨3, by simp, rfl, rfl, by simp, most_le (by simp; omega), ?_⟩
            conv => whnf
            refine ⟨by omega, by rw [List.length_map]; omega, ?_⟩
            conv => whnf
            refine cond_intro (by show (true && ((((x.map i1).length + 1) == (x.map i1 ++ [[int v]]).length) && true)) = true; simp) ?_
            conv => whnf
            refine ⟨(IntKind.wrap .i64 ((i : Int) + 1), (c0 :: .row 3 0 ((x.map i1).length + 1) ((x.map i1).length + 1) :: tl).map (scrC [1, 2, 3, 4]), scrB [1, 2, 3, 4] b0, scrB [1, 2, 3, 4] (.row 1 (x.map i1 ++ [[int v]])), scrB [1, 2, 3, 4] b2), by kernel_rfl, ⟨i + 1, _, nx (by omega), by omega, (by simp only [List.length_map]; exact (Out.put (q := 2) (b0' := b0) (b1' := (.row 1 (x.map i1 ++ [[int v]]))) (b2' := b2) out hxm (v := v) (by simp [sel]) sel1).scrAll (by simp) (by simp) (by simp)), by simpa using hadd, by simpa using hxl, hbound⟩, by simp only; rw [nx (by omega)]; omega⟩
        · rcases hcell with hcell | hcell
          · obtain rfl : m = 2 := by omega
            obtain ⟨c0, c1, tl, rfl⟩ : ∃ c0 c1 tl, cs = c0 :: c1 :: c :: tl := by
              match cs, hc with
              | c0 :: c1 :: y :: tl, hc => exact ⟨c0, c1, tl, by simp at hc; rw [hc]⟩
            obtain ⟨rfl, rfl, hbj⟩ := hcell
            have hbj : b2 = _ := hbj
            subst hbj
            conv => whnf
            refine ⟨by omega, by rw [List.length_map]; omega, ?_⟩
            conv => whnf
            refine ⟨by omega, _, gm hv, ?_⟩
            conv => whnf
            refine ⟨4, by simp, rfl, most_le (by simp), ?_⟩
            conv => whnf
            refine ⟨by omega, by rw [List.length_map]; omega, ?_⟩
            conv => whnf
            refine ⟨(IntKind.wrap .i64 ((i : Int) + 1), (c0 :: c1 :: .row 4 0 (([[int v]] : List (List D)).length) (([[int v]] : List (List D)).length) :: tl).map (scrC [1, 2, 3, 4]), scrB [1, 2, 3, 4] b0, scrB [1, 2, 3, 4] b1, scrB [1, 2, 3, 4] (.row 1 [[int v]])), by kernel_rfl, ⟨i + 1, _, nx (by omega), by omega, (Out.put (q := 2) (b0' := b0) (b1' := b1) (b2' := (.row 1 [[int v]])) out hxm (v := v) (by simp [sel]) sel2).scrAll (by simp) (by simp) (by simp), by simpa using hadd, by simpa using hxl, hbound⟩, by simp only; rw [nx (by omega)]; omega⟩
          · obtain rfl : m = 2 := by omega
            obtain ⟨c0, c1, tl, rfl⟩ : ∃ c0 c1 tl, cs = c0 :: c1 :: c :: tl := by
              match cs, hc with
              | c0 :: c1 :: y :: tl, hc => exact ⟨c0, c1, tl, by simp at hc; rw [hc]⟩
            obtain ⟨rfl, hbj⟩ := hcell
            have hbj : b2 = _ := hbj
            subst hbj
            conv => whnf
            refine ⟨by omega, by rw [List.length_map]; omega, ?_⟩
            conv => whnf
            refine ⟨by omega, _, gm hv, ?_⟩
            conv => whnf
            refine ⟨4, by simp, rfl, rfl, by simp, most_le (by simp; omega), ?_⟩
            conv => whnf
            refine ⟨by omega, by rw [List.length_map]; omega, ?_⟩
            conv => whnf
            refine cond_intro (by show (true && ((((x.map i1).length + 1) == (x.map i1 ++ [[int v]]).length) && true)) = true; simp) ?_
            conv => whnf
            refine ⟨(IntKind.wrap .i64 ((i : Int) + 1), (c0 :: c1 :: .row 4 0 ((x.map i1).length + 1) ((x.map i1).length + 1) :: tl).map (scrC [1, 2, 3, 4]), scrB [1, 2, 3, 4] b0, scrB [1, 2, 3, 4] b1, scrB [1, 2, 3, 4] (.row 1 (x.map i1 ++ [[int v]]))), by kernel_rfl, ⟨i + 1, _, nx (by omega), by omega, (by simp only [List.length_map]; exact (Out.put (q := 2) (b0' := b0) (b1' := b1) (b2' := (.row 1 (x.map i1 ++ [[int v]]))) out hxm (v := v) (by simp [sel]) sel2).scrAll (by simp) (by simp) (by simp)), by simpa using hadd, by simpa using hxl, hbound⟩, by simp only; rw [nx (by omega)]; omega⟩
end Go.Proofs.YtmkmegcconjgoaaG
