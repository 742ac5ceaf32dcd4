/- What all machines make on all days. No condition. -/
import Derived.Test.YtmkmegcconjgoaaP16b
set_option linter.unusedVariables false
set_option linter.unusedSimpArgs false
set_option maxRecDepth 100000
set_option maxHeartbeats 4000000
namespace Go.Proofs.YtmkmegcconjgoaaG
open Go Go.AM Go.Proofs

theorem Out.scrAll {q : Nat} {xs : List (List Int)} {cs : List AC} {b0 b1 b2 : ABlk} {ls : List Nat} (h : Out q xs cs b0 b1 b2) (h0 : q ∈ ls) (h1 : q + 1 ∈ ls) (h2 : q + 2 ∈ ls) : Out q xs (cs.map (scrC ls)) (scrB ls b0) (scrB ls b1) (scrB ls b2) := by
  rw [h.scr h0 h1 h2]
  refine ⟨h.len, h.small, fun j x c hx hc => ?_⟩
  have hc2 := h.cells j x c hx hc
  have hj := (List.getElem?_eq_some_iff.1 hx).1
  have hs := h.small
  have hj3 : j = 0 ∨ j = 1 ∨ j = 2 := by omega
  have hq : q + j ∈ ls := by rcases hj3 with rfl | rfl | rfl <;> assumption
  have e : sel j (scrB ls b0) (scrB ls b1) (scrB ls b2) = scrB ls (sel j b0 b1 b2) := by rcases hj3 with rfl | rfl | rfl <;> rfl
  rw [e, (hc2.scr hq).2]; exact hc2
theorem sel0 {b0 b1 b2 b : ABlk} : ∀ i, i ≠ 0 → i < 3 → sel i b b1 b2 = sel i b0 b1 b2 := fun i h1 h2 => by
  have : i = 1 ∨ i = 2 := by omega
  rcases this with rfl | rfl <;> rfl
theorem sel1 {b0 b1 b2 b : ABlk} : ∀ i, i ≠ 1 → i < 3 → sel i b0 b b2 = sel i b0 b1 b2 := fun i h1 h2 => by
  have : i = 0 ∨ i = 2 := by omega
  rcases this with rfl | rfl <;> rfl
theorem sel2 {b0 b1 b2 b : ABlk} : ∀ i, i ≠ 2 → i < 3 → sel i b0 b1 b = sel i b0 b1 b2 := fun i h1 h2 => by
  have : i = 0 ∨ i = 1 := by omega
  rcases this with rfl | rfl <;> rfl
theorem madeL_len (s : Season) (lost : Int) : ∀ {ms b n : List Int}, ms.length = b.length → ms.length = n.length → (madeL s lost ms b n).length = ms.length
  | [], b, n, _, _ => by simp [madeL]
  | m :: ms, b :: bs, a :: r, h1, h2 => by
    simp only [madeL, List.length_cons]
    rw [madeL_len s lost (by simpa using h1) (by simpa using h2)]
  | _ :: _, [], _, h1, _ => by simp at h1
  | _ :: _, _ :: _, [], _, h2 => by simp at h2

theorem mapM_some {α β : Type} {f : α → Option β} {g : α → β} : ∀ {l : List α}, (∀ c ∈ l, f c = some (g c)) → l.mapM f = some (l.map g)
  | [], _ => rfl
  | c :: l, h => by
    have ih := mapM_some (f := f) (g := g) (l := l) (fun x hx => h x (List.mem_cons_of_mem _ hx))
    simp [List.mapM_cons, h c (by simp), ih]
theorem Out.snap {q : Nat} {xs : List (List Int)} {cs : List AC} {b0 b1 b2 : ABlk} (h : Out q xs cs b0 b1 b2) {b : Nat → ABlk} (e0 : b q = b0) (e1 : b (q + 1) = b1) (e2 : b (q + 2) = b2) (hne : ∀ x ∈ xs, x ≠ []) : cs.mapM (Go.AM.snap b 3) = some (xs.map rowD) := by
  have each : ∀ (j : Nat) (x : List Int) (c : AC), xs[j]? = some x → cs[j]? = some c → Go.AM.snap b 3 c = some (rowD x) := fun j x c hx hc => by
    have hs := h.small
    have hj := (List.getElem?_eq_some_iff.1 hx).1
    have hsel : sel j b0 b1 b2 = b (q + j) := by
      have : j = 0 ∨ j = 1 ∨ j = 2 := by omega
      rcases this with rfl | rfl | rfl
      · exact e0.symm
      · exact e1.symm
      · exact e2.symm
    rcases h.cells j x c hx hc with ⟨e, _, _⟩ | ⟨rfl, hb⟩
    · exact absurd e (hne x (List.mem_of_getElem? hx))
    · rw [hsel] at hb
      simp [Go.AM.snap, hb, List.take_of_length_le]
  have hl := h.len
  rw [mapM_some (g := fun c => (Go.AM.snap b 3 c).getD default) (fun c hc => by
    obtain ⟨j, hj, rfl⟩ := List.mem_iff_getElem.1 hc
    obtain ⟨x, hx⟩ := get_lt (xs := xs) (i := j) (by omega)
    rw [each j x _ hx (by simp [hj])]; rfl)]
  congr 1
  apply List.ext_getElem (by simp [hl])
  intro j h1 h2
  have hj : j < cs.length := by simpa using h1
  obtain ⟨x, hx⟩ := get_lt (xs := xs) (i := j) (by omega)
  have hxj : xs[j]'(by omega) = x := (List.getElem?_eq_some_iff.1 hx).2
  simp only [List.getElem_map, hxj]
  rw [each j x _ hx (by simp [hj])]; rfl
theorem res_out {q v n : Nat} {xs : List (List Int)} {cs : List AC} {b0 b1 b2 : ABlk} (h : Out q xs cs b0 b1 b2) (hn : n = xs.length) {cost : Int} {σ : St} {i j : Nat} (t4 : σ.t i = .vs v 0 n) (t5 : σ.t j = .d (int cost)) (ev : σ.b v = .var cs) (e0 : σ.b q = b0) (e1 : σ.b (q + 1) = b1) (e2 : σ.b (q + 2) = b2)
    (hne : ∀ x ∈ xs, x ≠ []) : resA [.t i, .t j] σ = some (.tup [planD xs, int cost]) := by
  have hl := h.len
  have h1 : [RV.t i, RV.t j].mapM (readRV σ) = some [σ.t i, σ.t j] := rfl
  have h2 : Go.AM.snap σ.b 4 (σ.t i) = some (planD xs) := by
    rw [t4]
    show (match σ.b v with | .var cs => if 0 + n ≤ cs.length then (((cs.drop 0).take n).mapM (Go.AM.snap σ.b 3)).map (fun (ds : List D) => D.list (ds.map fun d => [d])) else none | _ => none) = _
    rw [ev]
    simp only
    rw [if_pos (by omega), List.drop_zero, List.take_of_length_le (by omega), h.snap e0 e1 e2 hne]
    simp
  have h3 : Go.AM.snap σ.b 4 (σ.t j) = some (int cost) := by rw [t5]; rfl
  unfold resA
  rw [h1]
  show ([σ.t i, σ.t j].mapM (Go.AM.snap σ.b 4)).map D.tup = _
  rw [mapM2 h2 h3]; rfl
theorem costL_le {s : Season} (h : Fr s) : ∀ {ms b n : List Int}, (∀ m ∈ ms, 0 ≤ m ∧ m < s.makers.length) → Arts s b → Arts s n → 0 ≤ costL s ms b n ∧ costL s ms b n ≤ 1000000 * ms.length
  | [], b, n, _, _, _ => by simp [costL]
  | _ :: _, [], _, _, _, _ => by simp [costL]; omega
  | _ :: _, _ :: _, [], _, _, _ => by simp [costL]; omega
  | m :: ms, b :: bs, a :: r, hm, hb, ha => by
    have ih := costL_le h (ms := ms) (b := bs) (n := r) (fun x hx => hm x (by simp [hx])) (fun x hx => hb x (by simp [hx])) (fun x hx => ha x (by simp [hx]))
    have h1 : 0 ≤ costA s m b a ∧ costA s m b a ≤ 1000000 := by
      unfold costA
      split
      · obtain ⟨M, hM⟩ := get_lt (xs := s.makers) (i := m.toNat) (by have := hm m (by simp); omega)
        have := h.maker M (List.mem_of_getElem? hM)
        simp [idleF, hM]; omega
      · have := jobF_le h (hb b (by simp)).2 ⟨by omega, (ha a (by simp)).2⟩
        omega
    simp only [costL, List.length_cons]
    omega
theorem worked_le {s : Season} (h : Fr s) {ms b n : List Int} (hb : Row s ms b) (hn : Row s ms n) : 0 ≤ (workedF s ms b n).2 ∧ (workedF s ms b n).2 ≤ 11000000 := by
  have h1 := costL_le h hb.ms hb.arts hn.arts
  have h2 := lostF_le h hb.arts hn.arts
  have := hb.len
  have := hb.small
  unfold workedF
  simp only
  omega

theorem made_ok (s : Season) (h : Fr s) (h3 : s.makers.length ≤ 3) (p : List (List Int)) (hp : POk s p) : PureFn Try.prog 60 [seasonD s, planD p] (.tup [planD (madeF s p).1, int (madeF s p).2]) := by
  have hno := h.no
  have hdy := h.days
  obtain ⟨FO, hFO⟩ : ∃ FO, madeF s p = FO := ⟨_, rfl⟩
  rw [hFO]
  refine pureFn_by Try.func60 k60 rfl rfl ?_
  conv => whnf
  refine ⟨by omega, by rw [List.length_map]; unfold most; omega, ?_⟩
  conv => whnf
  refine loopB (fun (x : Int × Int × List AC × ABlk × ABlk × ABlk) => ⟨mkT [(1, .d (planD p)), (2, .d (.fptr (cellsS s))), (6, .vs 2 0 ((((s.makers.map mkL).length : Nat) : Int).toNat)), (7, .d (int x.2.1)), (20, .d (int (s.ovens.map i2).length)), (21, .d (int x.1))], mkB [(2, .var x.2.2.1), (3, x.2.2.2.1), (4, x.2.2.2.2.1), (5, x.2.2.2.2.2)]⟩)
    (fun x => ∃ (k : Nat) (xs : List (List Int)), x.1 = k ∧ k ≤ s.ovens.length ∧ Out 3 xs x.2.2.1 x.2.2.2.1 x.2.2.2.2.1 x.2.2.2.2.2 ∧ ((List.range s.ovens.length).drop k).foldl (daysF s p) (xs, x.2.1) = FO ∧ xs.length = s.makers.length ∧ (∀ y ∈ xs, y.length ≤ 140 * k) ∧ 0 ≤ x.2.1 ∧ x.2.1 ≤ 154000000 * k) (fun x => (s.ovens.length - x.1).toNat)
    (0, 0, (List.replicate ((((s.makers.map mkL).length : Nat) : Int).toNat) (zC .sl)).map (scrC [2, 3, 4, 5]), .fresh, .fresh, .fresh) (by kernel_rfl) ⟨0, List.replicate s.makers.length [], rfl, by omega, ?_, hFO, by simp, fun y hy => by simp [List.eq_of_mem_replicate hy], by simp, by simp⟩ ?_
  · have o := (Out.start (q := 3) h3).scrAll (ls := [2, 3, 4, 5]) (by simp) (by simp) (by simp)
    have e : ((((s.makers.map mkL).length : Nat) : Int).toNat) = s.makers.length := by simp
    rw [e]; exact o
  rintro ⟨_, cost, cs, b0, b1, b2⟩ ⟨k, xs, rfl, hk, out, hfo, hxl, hbnd, hc0, hc1⟩
  simp only at out hfo hxl hbnd hc0 hc1
  conv => whnf
  cases c1 : decide ((k : Int) < ((s.ovens.map i2).length : Int))
  · have hk' : k = s.ovens.length := by have := of_decide_eq_false c1; rw [List.length_map] at this; omega
    rw [List.drop_of_length_le (by simp [hk'])] at hfo
    have hfo : (xs, cost) = FO := hfo
    conv => whnf
    have hne : ∀ x ∈ xs, x ≠ [] := fun x hx => by
      obtain ⟨j, hj, rfl⟩ := List.mem_iff_getElem.1 hx
      obtain ⟨M, hM⟩ := get_lt (xs := s.makers) (i := j) (by omega)
      have h1 := (madeF_get h p).2 j M hM
      rw [hFO, ← hfo] at h1
      have h2 : xs[j] = rowM s p M.oven j := by
        obtain ⟨_, e⟩ := List.getElem?_eq_some_iff.1 h1; exact e
      rw [h2]
      intro e
      have := congrArg List.length e
      simp [rowM] at this
      omega
    rw [← hfo]
    exact res_out (q := 3) (v := 2) out (by simp [hxl]) rfl rfl rfl rfl rfl rfl hne
  · have hk' : k < s.ovens.length := by have := of_decide_eq_true c1; rw [List.length_map] at this; omega
    rw [drop_at (List.getElem?_range hk'), List.foldl_cons] at hfo
    have mk := makers_ok s h.sm (k : Int)
    have hml := Nat.le_trans (makersF_len s (k : Int)) h3
    obtain ⟨ms, hms⟩ : ∃ ms, makersF s (k : Int) = ms := ⟨_, rfl⟩
    have hmm : ∀ m ∈ ms, 0 ≤ m ∧ m < s.makers.length := fun m hm => makersF_mem (hms ▸ hm)
    rw [hms] at mk hml
    obtain ⟨FD, hFD⟩ : ∃ FD, (List.range s.days.toNat).foldl (dayF s p ms) (xs, cost) = FD := ⟨_, rfl⟩
    have hds : daysF s p (xs, cost) k = FD := by unfold daysF; rw [hms]; exact hFD
    rw [hds] at hfo
    conv => whnf
    refine ⟨_, mk, ?_⟩
    conv => whnf
    refine loopB (fun (x : Int × Int × List AC × ABlk × ABlk × ABlk) => ⟨mkT [(1, .d (planD p)), (2, .d (.fptr (cellsS s))), (6, .vs 2 0 ((((s.makers.map mkL).length : Nat) : Int).toNat)), (7, .d (int x.2.1)), (9, .d (rowD ms)), (20, .d (int (s.ovens.map i2).length)), (21, .d (int (k : Int))), (28, .d (int s.days)), (29, .d (int x.1))], mkB [(2, .var x.2.2.1), (3, x.2.2.2.1), (4, x.2.2.2.2.1), (5, x.2.2.2.2.2)]⟩)
      (fun x => ∃ (d : Nat) (xs : List (List Int)), x.1 = d ∧ (d : Int) ≤ s.days ∧ Out 3 xs x.2.2.1 x.2.2.2.1 x.2.2.2.2.1 x.2.2.2.2.2 ∧ ((List.range s.days.toNat).drop d).foldl (dayF s p ms) (xs, x.2.1) = FD ∧ xs.length = s.makers.length ∧ (∀ y ∈ xs, y.length ≤ 140 * k + 10 * d) ∧ 0 ≤ x.2.1 ∧ x.2.1 ≤ 154000000 * k + 11000000 * d) (fun x => (s.days - x.1).toNat)
      (0, cost, cs.map (scrC [2, 3, 4, 5]), scrB [2, 3, 4, 5] b0, scrB [2, 3, 4, 5] b1, scrB [2, 3, 4, 5] b2) (by kernel_rfl) ⟨0, xs, rfl, by omega, out.scrAll (by simp) (by simp) (by simp), hFD, hxl, fun y hy => by have := hbnd y hy; omega, hc0, by simp only; omega⟩ ?_
    rintro ⟨_, cost, cs, b0, b1, b2⟩ ⟨d, xs, rfl, hd, out, hf, hxl, hbnd, hc0, hc1⟩
    simp only at out hf hxl hbnd hc0 hc1
    conv => whnf
    cases c2 : decide ((d : Int) < s.days)
    · have hd' : s.days.toNat ≤ d := by have := of_decide_eq_false c2; omega
      rw [List.drop_of_length_le (by simpa using hd')] at hf
      have hf : (xs, cost) = FD := hf
      rw [← hf] at hfo
      conv => whnf
      exact ⟨(IntKind.wrap .i64 ((k : Int) + 1), cost, cs.map (scrC [2, 3, 4, 5]), scrB [2, 3, 4, 5] b0, scrB [2, 3, 4, 5] b1, scrB [2, 3, 4, 5] b2), by kernel_rfl, ⟨k + 1, xs, nx (by omega), by omega, out.scrAll (by simp) (by simp) (by simp), hfo, hxl, fun y hy => by have := hbnd y hy; omega, hc0, by simp only; omega⟩, by simp only; rw [nx (by omega)]; omega⟩
    · have hd' := of_decide_eq_true c2
      rw [drop_at (List.getElem?_range (show d < s.days.toNat by omega)), List.foldl_cons] at hf
      have on1 := on_ok s h p hp ms hmm (by omega) ((d : Int) - 1) (by omega)
      have on2 := on_ok s h p hp ms hmm (by omega) (d : Int) hd'
      have r1 := onF_row h hp hmm (by omega) (show (d : Int) - 1 < s.days by omega)
      have r2 := onF_row h hp hmm (by omega) hd'
      have wk := worked_ok s h ms _ _ r1 r2
      have wle := worked_le h r1 r2
      obtain ⟨⟨W, wc⟩, hW⟩ : ∃ w, workedF s ms (onF s p ms ((d : Int) - 1)) (onF s p ms (d : Int)) = w := ⟨_, rfl⟩
      have hWl : W.length = ms.length := by
        have := congrArg (fun w => w.1.length) hW
        simp only [workedF] at this
        rw [← this]
        exact madeL_len s _ r1.len r2.len
      have hdf : dayF s p ms (xs, cost) d = (addRow xs ms W, cost + wc) := by unfold dayF; rw [hW]
      rw [hdf] at hf
      rw [hW] at wk wle
      simp only at wk wle
      have hw1 : IntKind.wrap .i64 ((d : Int) - 1) = (d : Int) - 1 := wr_eq (by omega)
      rw [← hw1] at on1
      have hwc : IntKind.wrap .i64 (cost + wc) = cost + wc := wr_eq (by omega)
      obtain ⟨XS, hXS⟩ : ∃ XS, addRow xs ms W = XS := ⟨_, rfl⟩
      rw [hXS] at hf
      obtain ⟨B0, hB0⟩ : ∃ B0, 140 * k + 10 * d = B0 := ⟨_, rfl⟩
      rw [hB0] at hbnd
      rw [← hw1] at wk
      conv => whnf
      refine ⟨_, on1, ?_⟩
      conv => whnf
      refine ⟨_, on2, ?_⟩
      conv => whnf
      refine ⟨_, wk, ?_⟩
      conv => whnf
      refine loopB (fun (x : Int × List AC × ABlk × ABlk × ABlk) => ⟨mkT [(1, .d (planD p)), (2, .d (.fptr (cellsS s))), (6, .vs 2 0 ((((s.makers.map mkL).length : Nat) : Int).toNat)), (7, .d (int (IntKind.wrap .i64 (cost + wc)))), (9, .d (rowD ms)), (11, .ptr 1 0), (20, .d (int (s.ovens.map i2).length)), (21, .d (int (k : Int))), (28, .d (int s.days)), (29, .d (int (d : Int))), (50, .d (rowD ms)), (51, .d (int (ms.map i1).length)), (52, .d (int x.1))], mkB [(1, .var [.d (rowD W), .d (int wc)]), (2, .var x.2.1), (3, x.2.2.1), (4, x.2.2.2.1), (5, x.2.2.2.2)]⟩)
        (fun x => ∃ (i : Nat) (xs : List (List Int)), x.1 = i ∧ i ≤ ms.length ∧ Out 3 xs x.2.1 x.2.2.1 x.2.2.2.1 x.2.2.2.2 ∧ addRow xs (ms.drop i) (W.drop i) = XS ∧ xs.length = s.makers.length ∧ ∀ y ∈ xs, y.length ≤ B0 + i) (fun x => (ms.length - x.1).toNat)
        (0, cs.map (scrC [1, 2, 3, 4, 5]), scrB [1, 2, 3, 4, 5] b0, scrB [1, 2, 3, 4, 5] b1, scrB [1, 2, 3, 4, 5] b2) (by kernel_rfl) ⟨0, xs, rfl, by omega, out.scrAll (by simp) (by simp) (by simp), hXS, hxl, hbnd⟩ ?_
      rintro ⟨_, cs, b0, b1, b2⟩ ⟨i, xs, rfl, hi, out, hadd, hxl, hbnd⟩
      simp only at out hadd hxl hbnd
      conv => whnf
      cases c3 : decide ((i : Int) < ((ms.map i1).length : Int))
      · have hi' : i = ms.length := by have := of_decide_eq_false c3; rw [List.length_map] at this; omega
        rw [hi', drop_end] at hadd
        have hadd : xs = XS := by unfold addRow at hadd; exact hadd
        subst hadd
        conv => whnf
        exact ⟨(IntKind.wrap .i64 ((d : Int) + 1), IntKind.wrap .i64 (cost + wc), cs.map (scrC [2, 3, 4, 5]), scrB [2, 3, 4, 5] b0, scrB [2, 3, 4, 5] b1, scrB [2, 3, 4, 5] b2), by kernel_rfl, ⟨d + 1, xs, nx (by omega), by omega, out.scrAll (by simp) (by simp) (by simp), by simp only; rw [hwc]; exact hf, hxl, fun y hy => by have := hbnd y hy; omega, by simp only; rw [hwc]; omega, by simp only; rw [hwc]; omega⟩, by simp only; rw [nx (by omega)]; omega⟩
      · have hi' : i < ms.length := by have := of_decide_eq_true c3; rw [List.length_map] at this; omega
        obtain ⟨m, hy⟩ := get_lt hi'
        obtain ⟨v, hv⟩ := get_lt (xs := W) (i := i) (by omega)
        have hm := hmm m (List.mem_of_getElem? hy)
        obtain ⟨x, hxm⟩ := get_lt (xs := xs) (i := m.toNat) (by omega)
        obtain ⟨c, hc, hcell, hm3⟩ := out.get hxm
        have hxb := hbnd x (List.mem_of_getElem? hxm)
        rw [drop_at hy, drop_at hv, addRow, hxm] at hadd
        have hbound : ∀ y ∈ xs.set m.toNat (x ++ [v]), y.length ≤ B0 + (i + 1) := fun y hy => by
          rcases List.mem_or_eq_of_mem_set hy with h | rfl
          · have := hbnd y h; omega
          · simp; omega
        conv => whnf
        refine ⟨by omega, _, gm hy, ?_⟩
        have hm012 : m = 0 ∨ m = 1 ∨ m = 2 := by omega
        rcases hm012 with hm0 | hm0 | hm0
        · rcases hcell with hcell | hcell
          · obtain rfl : m = 0 := by omega
            obtain ⟨tl, rfl⟩ : ∃ tl, cs = c :: tl := by
              cases cs with
              | nil => simp at hc
              | cons y tl => exact ⟨tl, by simp at hc; rw [hc]⟩
            obtain ⟨rfl, rfl, hbj⟩ := hcell
            have hbj : b0 = _ := hbj
            subst hbj
            conv => whnf
            refine ⟨by omega, by rw [List.length_map]; omega, ?_⟩
            conv => whnf
            refine ⟨by omega, _, gm hv, ?_⟩
            conv => whnf
            refine ⟨3, by simp, rfl, most_le (by simp), ?_⟩
            conv => whnf
            refine ⟨by omega, by rw [List.length_map]; omega, ?_⟩
            conv => whnf
            refine ⟨(IntKind.wrap .i64 ((i : Int) + 1), (.row 3 0 (([[int v]] : List (List D)).length) (([[int v]] : List (List D)).length) :: tl).map (scrC [1, 2, 3, 4, 5]), scrB [1, 2, 3, 4, 5] (.row 1 [[int v]]), scrB [1, 2, 3, 4, 5] b1, scrB [1, 2, 3, 4, 5] b2), by kernel_rfl, ⟨i + 1, _, nx (by omega), by omega, (Out.put (q := 3) (b0' := (.row 1 [[int v]])) (b1' := b1) (b2' := b2) out hxm (v := v) (by simp [sel]) sel0).scrAll (by simp) (by simp) (by simp), by simpa using hadd, by simpa using hxl, hbound⟩, by simp only; rw [nx (by omega)]; omega⟩
          · obtain rfl : m = 0 := by omega
            obtain ⟨tl, rfl⟩ : ∃ tl, cs = c :: tl := by
              cases cs with
              | nil => simp at hc
              | cons y tl => exact ⟨tl, by simp at hc; rw [hc]⟩
            obtain ⟨rfl, hbj⟩ := hcell
            have hbj : b0 = _ := hbj
            subst hbj
            conv => whnf
            refine ⟨by omega, by rw [List.length_map]; omega, ?_⟩
            conv => whnf
            refine ⟨by omega, _, gm hv, ?_⟩
            conv => whnf
            refine ⟨3, by simp, rfl, rfl, by simp, most_le (by simp; omega), ?_⟩
            conv => whnf
            refine ⟨by omega, by rw [List.length_map]; omega, ?_⟩
            conv => whnf
            refine cond_intro (by show (true && ((((x.map i1).length + 1) == (x.map i1 ++ [[int v]]).length) && true)) = true; simp) ?_
            conv => whnf
            refine ⟨(IntKind.wrap .i64 ((i : Int) + 1), (.row 3 0 ((x.map i1).length + 1) ((x.map i1).length + 1) :: tl).map (scrC [1, 2, 3, 4, 5]), scrB [1, 2, 3, 4, 5] (.row 1 (x.map i1 ++ [[int v]])), scrB [1, 2, 3, 4, 5] b1, scrB [1, 2, 3, 4, 5] b2), by kernel_rfl, ⟨i + 1, _, nx (by omega), by omega, (by simp only [List.length_map]; exact (Out.put (q := 3) (b0' := (.row 1 (x.map i1 ++ [[int v]]))) (b1' := b1) (b2' := b2) out hxm (v := v) (by simp [sel]) sel0).scrAll (by simp) (by simp) (by simp)), by simpa using hadd, by simpa using hxl, hbound⟩, by simp only; rw [nx (by omega)]; omega⟩
        · rcases hcell with hcell | hcell
          · obtain rfl : m = 1 := by omega
            obtain ⟨c0, tl, rfl⟩ : ∃ c0 tl, cs = c0 :: c :: tl := by
              match cs, hc with
              | c0 :: y :: tl, hc => exact ⟨c0, tl, by simp at hc; rw [hc]⟩
            obtain ⟨rfl, rfl, hbj⟩ := hcell
            have hbj : b1 = _ := hbj
            subst hbj
            conv => whnf
            refine ⟨by omega, by rw [List.length_map]; omega, ?_⟩
            conv => whnf
            refine ⟨by omega, _, gm hv, ?_⟩
            conv => whnf
            refine ⟨4, by simp, rfl, most_le (by simp), ?_⟩
            conv => whnf
            refine ⟨by omega, by rw [List.length_map]; omega, ?_⟩
            conv => whnf
            refine ⟨(IntKind.wrap .i64 ((i : Int) + 1), (c0 :: .row 4 0 (([[int v]] : List (List D)).length) (([[int v]] : List (List D)).length) :: tl).map (scrC [1, 2, 3, 4, 5]), scrB [1, 2, 3, 4, 5] b0, scrB [1, 2, 3, 4, 5] (.row 1 [[int v]]), scrB [1, 2, 3, 4, 5] b2), by kernel_rfl, ⟨i + 1, _, nx (by omega), by omega, (Out.put (q := 3) (b0' := b0) (b1' := (.row 1 [[int v]])) (b2' := b2) out hxm (v := v) (by simp [sel]) sel1).scrAll (by simp) (by simp) (by simp), by simpa using hadd, by simpa using hxl, hbound⟩, by simp only; rw [nx (by omega)]; omega⟩
          · obtain rfl : m = 1 := by omega
            obtain ⟨c0, tl, rfl⟩ : ∃ c0 tl, cs = c0 :: c :: tl := by
              match cs, hc with
              | c0 :: y :: tl, hc => exact ⟨c0, tl, by simp at hc; rw [hc]⟩
            obtain ⟨rfl, hbj⟩ := hcell
            have hbj : b1 = _ := hbj
            subst hbj
            conv => whnf
            refine ⟨by omega, by rw [List.length_map]; omega, ?_⟩
            conv => whnf
            refine ⟨by omega, _, gm hv, ?_⟩
            conv => whnf
            refine ⟨4, by simp, rfl, rfl, by simp, most_le (by simp; omega), ?_⟩
            conv => whnf
            refine ⟨by omega, by rw [List.length_map]; omega, ?_⟩
            conv => whnf
            refine cond_intro (by show (true && ((((x.map i1).length + 1) == (x.map i1 ++ [[int v]]).length) && true)) = true; simp) ?_
            conv => whnf
            refine ⟨(IntKind.wrap .i64 ((i : Int) + 1), (c0 :: .row 4 0 ((x.map i1).length + 1) ((x.map i1).length + 1) :: tl).map (scrC [1, 2, 3, 4, 5]), scrB [1, 2, 3, 4, 5] b0, scrB [1, 2, 3, 4, 5] (.row 1 (x.map i1 ++ [[int v]])), scrB [1, 2, 3, 4, 5] b2), by kernel_rfl, ⟨i + 1, _, nx (by omega), by omega, (by simp only [List.length_map]; exact (Out.put (q := 3) (b0' := b0) (b1' := (.row 1 (x.map i1 ++ [[int v]]))) (b2' := b2) out hxm (v := v) (by simp [sel]) sel1).scrAll (by simp) (by simp) (by simp)), by simpa using hadd, by simpa using hxl, hbound⟩, by simp only; rw [nx (by omega)]; omega⟩
        · rcases hcell with hcell | hcell
          · obtain rfl : m = 2 := by omega
            obtain ⟨c0, c1, tl, rfl⟩ : ∃ c0 c1 tl, cs = c0 :: c1 :: c :: tl := by
              match cs, hc with
              | c0 :: c1 :: y :: tl, hc => exact ⟨c0, c1, tl, by simp at hc; rw [hc]⟩
            obtain ⟨rfl, rfl, hbj⟩ := hcell
            have hbj : b2 = _ := hbj
            subst hbj
            conv => whnf
            refine ⟨by omega, by rw [List.length_map]; omega, ?_⟩
            conv => whnf
            refine ⟨by omega, _, gm hv, ?_⟩
            conv => whnf
            refine ⟨5, by simp, rfl, most_le (by simp), ?_⟩
            conv => whnf
            refine ⟨by omega, by rw [List.length_map]; omega, ?_⟩
            conv => whnf
            refine ⟨(IntKind.wrap .i64 ((i : Int) + 1), (c0 :: c1 :: .row 5 0 (([[int v]] : List (List D)).length) (([[int v]] : List (List D)).length) :: tl).map (scrC [1, 2, 3, 4, 5]), scrB [1, 2, 3, 4, 5] b0, scrB [1, 2, 3, 4, 5] b1, scrB [1, 2, 3, 4, 5] (.row 1 [[int v]])), by kernel_rfl, ⟨i + 1, _, nx (by omega), by omega, (Out.put (q := 3) (b0' := b0) (b1' := b1) (b2' := (.row 1 [[int v]])) out hxm (v := v) (by simp [sel]) sel2).scrAll (by simp) (by simp) (by simp), by simpa using hadd, by simpa using hxl, hbound⟩, by simp only; rw [nx (by omega)]; omega⟩
          · obtain rfl : m = 2 := by omega
            obtain ⟨c0, c1, tl, rfl⟩ : ∃ c0 c1 tl, cs = c0 :: c1 :: c :: tl := by
              match cs, hc with
              | c0 :: c1 :: y :: tl, hc => exact ⟨c0, c1, tl, by simp at hc; rw [hc]⟩
            obtain ⟨rfl, hbj⟩ := hcell
            have hbj : b2 = _ := hbj
            subst hbj
            conv => whnf
            refine ⟨by omega, by rw [List.length_map]; omega, ?_⟩
            conv => whnf
            refine ⟨by omega, _, gm hv, ?_⟩
            conv => whnf
            refine ⟨5, by simp, rfl, rfl, by simp, most_le (by simp; omega), ?_⟩
            conv => whnf
            refine ⟨by omega, by rw [List.length_map]; omega, ?_⟩
            conv => whnf
            refine cond_intro (by show (true && ((((x.map i1).length + 1) == (x.map i1 ++ [[int v]]).length) && true)) = true; simp) ?_
            conv => whnf
            refine ⟨(IntKind.wrap .i64 ((i : Int) + 1), (c0 :: c1 :: .row 5 0 ((x.map i1).length + 1) ((x.map i1).length + 1) :: tl).map (scrC [1, 2, 3, 4, 5]), scrB [1, 2, 3, 4, 5] b0, scrB [1, 2, 3, 4, 5] b1, scrB [1, 2, 3, 4, 5] (.row 1 (x.map i1 ++ [[int v]]))), by kernel_rfl, ⟨i + 1, _, nx (by omega), by omega, (by simp only [List.length_map]; exact (Out.put (q := 3) (b0' := b0) (b1' := b1) (b2' := (.row 1 (x.map i1 ++ [[int v]]))) out hxm (v := v) (by simp [sel]) sel2).scrAll (by simp) (by simp) (by simp)), by simpa using hadd, by simpa using hxl, hbound⟩, by simp only; rw [nx (by omega)]; omega⟩
end Go.Proofs.YtmkmegcconjgoaaG
