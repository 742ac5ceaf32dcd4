/- Whether a shift may be. No condition. -/
import Derived.Test.YtmkmegcconjgoaaP6
set_option linter.unusedVariables false
set_option linter.unusedSimpArgs false
set_option maxRecDepth 100000
set_option maxHeartbeats 4000000
namespace Go.Proofs.YtmkmegcconjgoaaG
open Go Go.AM Go.Proofs


theorem fits_ok (s : Season) (h : Fr s) (k : Int) (hk : 0 ≤ k ∧ k < s.ovens.length) (ms l : List Int) (hR : Row s ms l) : PureFn Try.prog 76 [seasonD s, int k, rowD ms, rowD l] (boolD (fitsF s k ms l)) := by
  have hl := hR.len
  have hsm := hR.small
  obtain ⟨o, hO⟩ := get_lt (xs := s.ovens) (i := k.toNat) (by omega)
  have eo : ovenA s k = o := by simp [ovenA, hO]
  have hle := decF_le h hR.ms hR.arts
  have hq := quo_le hle.1 (show decF s ms l ≤ 10000000000000 by omega)
  have ew : IntKind.wrap .i64 ((decF s ms l).tdiv 10000) = pullF s ms l := wr_eq (by omega)
  refine pureFn_by Try.func76 k76 rfl rfl ?_
  unfold fitsF
  rw [eo]
  obtain ⟨c, hc⟩ : ∃ c, colF s l = c := ⟨_, rfl⟩
  obtain ⟨B, hB⟩ : ∃ B, okRow s c ms l = B := ⟨_, rfl⟩
  rw [hc, hB]
  have cl := colour_ok s l (by omega) hR.arts
  rw [hc] at cl
  conv => whnf
  refine ⟨_, cl, ?_⟩
  conv => whnf
  refine loopB (fun (x : Int) => ⟨mkT [(1, .d (int k)), (2, .d (rowD ms)), (3, .d (rowD l)), (4, .d (.fptr (cellsS s))), (9, .d (int c)), (15, .d (rowD l)), (16, .d (int (l.map i1).length)), (17, .d (int x))], mkB []⟩)
    (fun x => ∃ i : Nat, x = i ∧ i ≤ l.length ∧ okRow s c (ms.drop i) (l.drop i) = B) (fun x => (l.length - x).toNat) 0 (by kernel_rfl) ⟨0, rfl, by omega, hB⟩ ?_
  rintro _ ⟨i, rfl, hi, hb⟩
  conv => whnf
  rw [List.length_map]
  cases c1 : decide ((i : Int) < (l.length : Int))
  · have hi' : i = l.length := by have := of_decide_eq_false c1; omega
    rw [hi', drop_end] at hb
    have hb : B = true := by
      rw [← hb]
      cases ms.drop l.length <;> simp [okRow]
    rw [hb]
    conv => whnf
    refine ⟨_, decigrams_ok s h ms l hR, ?_⟩
    conv => whnf
    refine ⟨by decide, ?_⟩
    rw [ew]
    conv => whnf
    refine ⟨hk.1, _, gz hO, ?_⟩
    conv => whnf
    refine ⟨hk.1, _, gz hO, ?_⟩
    conv => whnf
    refine ⟨_, within_ok _ _ _, ?_⟩
    conv => whnf
    kernel_rfl
  · have hi' : i < l.length := by have := of_decide_eq_true c1; omega
    obtain ⟨a, hx⟩ := get_lt hi'
    obtain ⟨m, hy⟩ := get_lt (xs := ms) (i := i) (by omega)
    have ha := hR.arts a (List.mem_of_getElem? hx)
    have hm := hR.ms m (List.mem_of_getElem? hy)
    rw [drop_at hx, drop_at hy, okRow] at hb
    conv => whnf
    refine ⟨by omega, _, gm hx, ?_⟩
    conv => whnf
    cases c2 : decide (0 ≤ a)
    · rw [c2] at hb
      conv => whnf
      exact ⟨IntKind.wrap .i64 ((i : Int) + 1), by kernel_rfl, ⟨i + 1, nx (by omega), by omega, hb⟩, by rw [nx (by omega)]; omega⟩
    · have h0 := of_decide_eq_true c2
      obtain ⟨x, hax, ec, _⟩ := art_get h0 ha.2
      obtain ⟨M, r, hM, hr, er, _, _⟩ := rate_get h hm h0 ha.2
      rw [er, ec, c2] at hb
      conv => whnf
      refine ⟨by omega, _, gm hy, ?_⟩
      conv => whnf
      refine ⟨hm.1, _, gz hM, ?_⟩
      conv => whnf
      refine ⟨h0, _, gz hr, ?_⟩
      conv => whnf
      cases c3 : decide (r = 0)
      · rw [c3] at hb
        conv => whnf
        refine ⟨h0, _, gz hax, ?_⟩
        conv => whnf
        cases c4 : decide (x.colour = c)
        · rw [c4] at hb
          rw [← hb]
          conv => whnf
          kernel_rfl
        · rw [c4] at hb
          conv => whnf
          exact ⟨IntKind.wrap .i64 ((i : Int) + 1), by kernel_rfl, ⟨i + 1, nx (by omega), by omega, hb⟩, by rw [nx (by omega)]; omega⟩
      · rw [c3] at hb
        rw [← hb]
        conv => whnf
        kernel_rfl

theorem may_ok (s : Season) (h : Fr s) (k : Int) (hk : 0 ≤ k ∧ k < s.ovens.length) (ms l : List Int) (hms : makersF s k = ms) (hR : Row s ms l) : PureFn Try.prog 77 [seasonD s, int k, rowD l] (boolD (fitsF s k ms l)) := by
  have hl := hR.len
  have hsm := hR.small
  obtain ⟨o, hO⟩ := get_lt (xs := s.ovens) (i := k.toNat) (by omega)
  have eo : ovenA s k = o := by simp [ovenA, hO]
  have hle := decF_le h hR.ms hR.arts
  have hq := quo_le hle.1 (show decF s ms l ≤ 10000000000000 by omega)
  have ew : IntKind.wrap .i64 ((decF s ms l).tdiv 10000) = pullF s ms l := wr_eq (by omega)
  refine pureFn_by Try.func77 k77 rfl rfl ?_
  unfold fitsF
  rw [eo]
  obtain ⟨c, hc⟩ : ∃ c, colF s l = c := ⟨_, rfl⟩
  obtain ⟨B, hB⟩ : ∃ B, okRow s c ms l = B := ⟨_, rfl⟩
  rw [hc, hB]
  have cl := colour_ok' s l (by omega) hR.arts
  rw [hc] at cl
  have mk := makers_ok' s h.sm k
  rw [hms] at mk
  conv => whnf
  refine ⟨_, mk, ?_⟩
  conv => whnf
  refine ⟨_, cl, ?_⟩
  conv => whnf
  refine loopB (fun (x : Int) => ⟨mkT [(1, .d (int k)), (2, .d (rowD l)), (3, .d (.fptr (cellsS s))), (7, .d (rowD ms)), (8, .d (int c)), (9, .d (int x))], mkB []⟩)
    (fun x => ∃ i : Nat, x = i ∧ i ≤ l.length ∧ okRow s c (ms.drop i) (l.drop i) = B) (fun x => (l.length - x).toNat) 0 (by kernel_rfl) ⟨0, rfl, by omega, hB⟩ ?_
  rintro _ ⟨i, rfl, hi, hb⟩
  conv => whnf
  rw [List.length_map]
  cases c1 : decide ((i : Int) < (l.length : Int))
  · have hi' : i = l.length := by have := of_decide_eq_false c1; omega
    rw [hi', drop_end] at hb
    have hb : B = true := by
      rw [← hb]
      cases ms.drop l.length <;> simp [okRow]
    rw [hb]
    conv => whnf
    refine ⟨_, pull_ok s h ms l hR, ?_⟩
    conv => whnf
    refine ⟨hk.1, _, gz hO, ?_⟩
    conv => whnf
    refine ⟨hk.1, _, gz hO, ?_⟩
    conv => whnf
    refine ⟨_, within_ok' _ _ _, ?_⟩
    conv => whnf
    kernel_rfl
  · have hi' : i < l.length := by have := of_decide_eq_true c1; omega
    obtain ⟨a, hx⟩ := get_lt hi'
    obtain ⟨m, hy⟩ := get_lt (xs := ms) (i := i) (by omega)
    have ha := hR.arts a (List.mem_of_getElem? hx)
    have hm := hR.ms m (List.mem_of_getElem? hy)
    rw [drop_at hx, drop_at hy, okRow] at hb
    conv => whnf
    refine ⟨by omega, _, gm hx, ?_⟩
    conv => whnf
    cases c2 : decide (0 ≤ a)
    · rw [c2] at hb
      conv => whnf
      exact ⟨IntKind.wrap .i64 ((i : Int) + 1), by kernel_rfl, ⟨i + 1, nx (by omega), by omega, hb⟩, by rw [nx (by omega)]; omega⟩
    · have h0 := of_decide_eq_true c2
      obtain ⟨x, hax, ec, _⟩ := art_get h0 ha.2
      obtain ⟨M, r, hM, hr, er, _, _⟩ := rate_get h hm h0 ha.2
      rw [er, ec, c2] at hb
      conv => whnf
      refine ⟨by omega, _, gm hy, ?_⟩
      conv => whnf
      refine ⟨hm.1, _, gz hM, ?_⟩
      conv => whnf
      refine ⟨h0, _, gz hr, ?_⟩
      conv => whnf
      cases c3 : decide (r = 0)
      · rw [c3] at hb
        conv => whnf
        refine ⟨h0, _, gz hax, ?_⟩
        conv => whnf
        cases c4 : decide (x.colour = c)
        · rw [c4] at hb
          rw [← hb]
          conv => whnf
          kernel_rfl
        · rw [c4] at hb
          conv => whnf
          exact ⟨IntKind.wrap .i64 ((i : Int) + 1), by kernel_rfl, ⟨i + 1, nx (by omega), by omega, hb⟩, by rw [nx (by omega)]; omega⟩
      · rw [c3] at hb
        rw [← hb]
        conv => whnf
        kernel_rfl
end Go.Proofs.YtmkmegcconjgoaaG
