/- How many plans, by the specification; whether a furnace has no shift; what tells of all plans. No condition. -/
import Derived.Test.YtmkmegcconjgoaaQ2
set_option linter.unusedVariables false
set_option linter.unusedSimpArgs false
set_option maxRecDepth 100000
set_option maxHeartbeats 4000000
namespace Go.Proofs.YtmkmegcconjgoaaG
open Go Go.AM Go.Proofs

theorem shifts_few {s : Season} (h : Fr s) (h3 : s.makers.length ≤ 3) (k : Int) : (shiftsF s k).length ≤ 729 := by
  rw [shifts_gath]
  refine Nat.le_trans (gathF_len h.na) ?_
  have := Nat.le_trans (makersF_len s k) h3
  exact Nat.pow_le_pow_right (by decide) this
theorem alls_few {s : Season} (h : Fr s) (h3 : s.makers.length ≤ 3) : Few (allsF s) := ⟨by simp [allsF, h.no], fun x hx => by
  obtain ⟨k, _, rfl⟩ := List.mem_map.1 hx
  exact shifts_few h h3 _⟩
theorem alls_get {s : Season} {k : Nat} (hk : k < s.ovens.length) : (allsF s)[k]? = some (shiftsF s (k : Int)) := by unfold allsF; rw [List.getElem?_map, List.getElem?_range hk]; rfl
theorem plans_ok (s : Season) (h : Fr s) (h3 : s.makers.length ≤ 3) : PureFn Try.prog 64 [seasonD s] (int (plansN s.days.toNat (eachL (allsF s) 1) 1)) := by
  have hf := alls_few h h3
  have hfl := hf.len
  have hdy := h.days
  have her := eachL_range hf
  have hal : (allsF s).length = s.ovens.length := by simp [allsF]
  refine pureFn_by Try.func64 k64 rfl rfl ?_
  obtain ⟨E, hE⟩ : ∃ E, eachL (allsF s) 1 = E := ⟨_, rfl⟩
  rw [hE] at her ⊢
  obtain ⟨R, hR⟩ : ∃ R, plansN s.days.toNat E 1 = R := ⟨_, rfl⟩
  rw [hR]
  conv => whnf
  refine loopB (fun (x : Int × Int) => ⟨mkT [(1, .d (.fptr (cellsS s))), (3, .d (int x.2)), (4, .d (int x.1))], mkB []⟩)
    (fun x => ∃ i : Nat, x.1 = i ∧ i ≤ (allsF s).length ∧ eachL ((allsF s).drop i) x.2 = E ∧ 0 ≤ x.2 ∧ x.2 ≤ 729 ^ i) (fun x => ((allsF s).length - x.1).toNat) (0, 1) (by kernel_rfl) ⟨0, rfl, by omega, hE, by decide, by decide⟩ ?_
  rintro ⟨_, n⟩ ⟨i, rfl, hi, he, h0, h1⟩
  simp only at he h0 h1
  conv => whnf
  cases c1 : decide ((i : Int) < ((s.ovens.map i2).length : Int))
  · have hi' : i = (allsF s).length := by have := of_decide_eq_false c1; rw [List.length_map] at this; omega
    rw [hi', drop_end] at he
    have he : n = E := he
    subst he
    conv => whnf
    refine loopB (fun (x : Int × Int) => ⟨mkT [(1, .d (.fptr (cellsS s))), (3, .d (int n)), (5, .d (int x.2)), (6, .d (int x.1))], mkB []⟩)
      (fun x => ∃ d : Nat, x.1 = d ∧ (d : Int) ≤ s.days ∧ plansN (s.days.toNat - d) n x.2 = R ∧ 0 ≤ x.2 ∧ x.2 ≤ 200000 * 387420489) (fun x => (s.days - x.1).toNat) (0, 1) (by kernel_rfl) ⟨0, rfl, by omega, hR, by decide, by decide⟩ ?_
    rintro ⟨_, m⟩ ⟨d, rfl, hd, hm, m0, m1⟩
    simp only at hm m0 m1
    conv => whnf
    cases c2 : decide ((d : Int) < s.days)
    · have hd' : s.days.toNat - d = 0 := by have := of_decide_eq_false c2; omega
      rw [hd'] at hm
      have hm : m = R := hm
      subst hm
      conv => whnf
      kernel_rfl
    · have hd' := of_decide_eq_true c2
      conv => whnf
      cases c3 : decide (m ≤ 200000)
      · have h3 := of_decide_eq_false c3
        rw [plansN_stop (by omega)] at hm
        subst hm
        conv => whnf
        kernel_rfl
      · have h3 := of_decide_eq_true c3
        obtain ⟨e, he2⟩ : ∃ e, s.days.toNat - d = e + 1 := ⟨s.days.toNat - d - 1, by omega⟩
        rw [he2, plansN, if_pos (by omega)] at hm
        have p0 : 0 ≤ m * n := Int.mul_nonneg m0 h0
        have p1 : m * n ≤ 200000 * 387420489 := Int.mul_le_mul h3 (by have := pow_small (i := i) (by omega); omega) h0 (by decide)
        have ew : IntKind.wrap .i64 (m * n) = m * n := wr_eq (by omega)
        conv => whnf
        exact ⟨(IntKind.wrap .i64 ((d : Int) + 1), IntKind.wrap .i64 (m * n)), by kernel_rfl, ⟨d + 1, nx (by omega), by omega, by simp only; rw [ew, show s.days.toNat - (d + 1) = e by omega]; exact hm, by simp only; rw [ew]; exact p0, by simp only; rw [ew]; exact p1⟩, by simp only; rw [nx (by omega)]; omega⟩
  · have hi' : i < s.ovens.length := by have := of_decide_eq_true c1; rw [List.length_map] at this; omega
    have hx := alls_get hi'
    rw [drop_at hx, eachL] at he
    have st := each_step hf hx h0 h1
    have := pow_small (i := i + 1) (by omega)
    have ew : IntKind.wrap .i64 (n * (((shiftsF s (i : Int)).map rowL).length : Int)) = n * ((shiftsF s (i : Int)).length : Int) := by rw [List.length_map]; exact wr_eq (by omega)
    conv => whnf
    refine ⟨_, All_ok' s h (i : Int) (by omega), ?_⟩
    conv => whnf
    exact ⟨(IntKind.wrap .i64 ((i : Int) + 1), IntKind.wrap .i64 (n * (((shiftsF s (i : Int)).map rowL).length : Int))), by kernel_rfl, ⟨i + 1, nx (by omega), by omega, by simp only; rw [ew]; exact he, by simp only; rw [ew]; exact st.1, by simp only; rw [ew]; exact st.2⟩, by simp only; rw [nx (by omega)]; omega⟩
theorem idx94_ok {α : Type} (f1 : α → D) (xs : List α) (p : α → Bool) (g : FuncId) (caps : List D) (hl : xs.length < 1000000000) (hg : ∀ x ∈ xs, PureFn Try.prog g (f1 x :: caps) (boolD (p x))) :
    PureFn Try.prog 94 [.list (xs.map fun x => [f1 x]), .clo g [] caps] (int (idxF p xs)) := by
  refine pureFn_by Try.func94 k94 rfl rfl ?_
  conv => whnf
  refine loopB (fun (i : Int) => ⟨mkT [(0, .d (.list (xs.map fun x => [f1 x]))), (1, .d (.clo g [] caps)), (7, .d (int (xs.map fun x => [f1 x]).length)), (8, .d (int i))], mkB []⟩)
    (fun i => ∃ k : Nat, i = k ∧ k ≤ xs.length ∧ ∀ j, j < k → ∀ y, xs[j]? = some y → p y = false) (fun i => (xs.length - i).toNat) 0 (by kernel_rfl) ⟨0, rfl, by omega, fun j hj => by omega⟩ ?_
  rintro _ ⟨i, rfl, hi, hb⟩
  conv => whnf
  rw [List.length_map]
  cases c1 : decide ((i : Int) < (xs.length : Int))
  · have hi' : i = xs.length := by have := of_decide_eq_false c1; omega
    subst hi'
    rw [idx_miss hb]
    conv => whnf
    kernel_rfl
  · have hi' : i < xs.length := by have := of_decide_eq_true c1; omega
    obtain ⟨x, hx⟩ := get_lt hi'
    conv => whnf
    refine ⟨by omega, _, gm hx, ?_⟩
    conv => whnf
    refine ⟨_, hg x (List.mem_of_getElem? hx), ?_⟩
    cases c2 : p x
    · conv => whnf
      refine ⟨IntKind.wrap .i64 ((i : Int) + 1), by kernel_rfl, ⟨i + 1, nx (by omega), by omega, fun j hj y hy => ?_⟩, by rw [nx (by omega)]; omega⟩
      by_cases e : j = i
      · subst e; rw [hx] at hy; cases hy; exact c2
      · exact hb j (by omega) y hy
    · conv => whnf
      rw [idx_hit hx c2 hb]
      kernel_rfl
theorem any65_ok {α : Type} (f1 : α → D) (xs : List α) (p : α → Bool) (g : FuncId) (caps : List D) (hl : xs.length < 1000000000) (hg : ∀ x ∈ xs, PureFn Try.prog g (f1 x :: caps) (boolD (p x))) :
    PureFn Try.prog 65 [.list (xs.map fun x => [f1 x]), .clo g [] caps] (boolD (xs.any p)) := by
  rw [← idx_any]
  refine pureFn_by Try.func65 k65 rfl rfl ?_
  conv => whnf
  refine ⟨_, idx94_ok f1 xs p g caps hl hg, ?_⟩
  conv => whnf
  kernel_rfl
theorem none_ok (x : List (List Int)) : PureFn Try.prog 66 [planD x] (boolD (decide (x.length = 0))) := by
  have e : decide (x.length = 0) = decide (((x.map rowL).length : Int) = 0) := by rw [List.length_map]; simp
  rw [e]
  refine pureFn_by Try.func66 k66 rfl rfl ?_
  conv => whnf
  kernel_rfl
theorem anyNone_ok (l : List (List (List Int))) (hl : l.length ≤ 1000000) : PureFn Try.prog 65 [allsD l, .clo 66 [] []] (boolD (l.any fun x => decide (x.length = 0))) :=
  any65_ok planD l (fun x => decide (x.length = 0)) 66 [] (by omega) (fun x _ => none_ok x)
def ofF (s : Season) : List (List Int) := (List.range s.ovens.length).map fun (k : Nat) => makersF s (k : Int)
theorem plansTell_ok (s : Season) (h : Fr s) (l : List (List (List Int))) : PureFn Try.prog 68 [seasonD s, allsD l] (.clo 95 [] [.fptr (cellsS s), .fptr [planD (ofF s)], .fptr [allsD l]]) := by
  have hno := h.no
  refine pureFn_by Try.func68 k68 rfl rfl ?_
  conv => whnf
  refine loopB (fun (x : Int × List (List D) × Nat) => ⟨mkT [(2, .d (.fptr (cellsS s))), (3, .d (.fptr [allsD l])), (5, .ptr 2 0), (9, .d (int (s.ovens.map i2).length)), (10, .d (int x.1))], mkB [(2, .var [.row 3 0 x.2.2 x.2.2]), (3, .row 1 x.2.1)]⟩)
    (fun x => ∃ k : Nat, x.1 = k ∧ k ≤ s.ovens.length ∧ x.2.1 = ((List.range k).map fun (k : Nat) => makersF s (k : Int)).map rowL ∧ x.2.2 = x.2.1.length) (fun x => (s.ovens.length - x.1).toNat) (0, [], 0) (by kernel_rfl) ⟨0, rfl, by omega, rfl, rfl⟩ ?_
  rintro ⟨_, els, n⟩ ⟨k, rfl, hk, he, hn⟩
  simp only at he hn
  conv => whnf
  cases c1 : decide ((k : Int) < ((s.ovens.map i2).length : Int))
  · have hk' : k = s.ovens.length := by have := of_decide_eq_false c1; rw [List.length_map] at this; omega
    have he : els = (ofF s).map rowL := by rw [he, hk']; rfl
    conv => whnf
    have fin : ∀ (σ : St) (a c : D), σ.t 4 = .clo 95 [] [.d a, .ptr 2 0, .d c] → σ.b 2 = .var [.row 3 0 n n] → σ.b 3 = .row 1 els → resA [.t 4] σ = some (.clo 95 [] [a, .fptr [.list els], c]) := fun σ a c h1 h2 h3 => by
      subst hn
      simp [resA, readRV, h1, Go.AM.snap, h2, h3]
    rw [show planD (ofF s) = .list els by rw [he]]
    exact fin _ _ _ rfl rfl rfl
  · have hk' : k < s.ovens.length := by have := of_decide_eq_true c1; rw [List.length_map] at this; omega
    have hel : els.length = k := by rw [he]; simp
    conv => whnf
    refine ⟨_, makers_ok s h.sm (k : Int), ?_⟩
    conv => whnf
    refine ⟨rfl, rfl, hn, most_le (by simp; omega), ?_⟩
    conv => whnf
    refine cond_intro (by show (true && ((els.length + 1 == (els ++ [rowL (makersF s (k : Int))]).length) && true)) = true; simp) ?_
    conv => whnf
    refine ⟨(IntKind.wrap .i64 ((k : Int) + 1), els ++ [rowL (makersF s (k : Int))], els.length + 1), by kernel_rfl, ⟨k + 1, nx (by omega), by omega, by rw [map_range_succ, List.map_append, ← he]; rfl, by simp⟩, by simp only; rw [nx (by omega)]; omega⟩
end Go.Proofs.YtmkmegcconjgoaaG
