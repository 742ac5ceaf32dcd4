/- What Stretches of the program returns. No condition. -/
import Derived.Test.YtgeficpcnlgnhaaC12
set_option linter.unusedVariables false
set_option linter.unusedSimpArgs false
set_option maxRecDepth 100000
namespace Go.Proofs.YtgeficpcnlgnhaaG
open Go Go.AM Go.Proofs

/-- nil is the empty list. -/
theorem pureFn_nil {P : Program} {g : FuncId} {args : List D} {y : D} (h : PureFn P g args (.tup [.v (.slice none 0 0), y])) : PureFn P g args (.tup [.list [], y]) :=
  ⟨h.1, fun ok w vs hz hR => (h.2 ok w vs hz hR).mono (by
    rintro e w' ⟨v, rfl, hv, hf⟩
    refine ⟨v, rfl, ?_, hf⟩
    cases hv with
    | tup _ vs h1 hc =>
      refine .tup _ vs (by simpa using h1) fun j hj => ?_
      match j, hj with
      | 0, _ =>
        have h0 := hc 0 (by simp)
        generalize vs.getD 0 undef = u at h0
        cases h0
        exact .empty none 0
      | 1, _ => exact hc 1 (by simp))⟩

def okSpan (s : Int × Int) : Bool := withinF s.1 (-1000000) 2000000 && withinF s.2 (-1000000) 2000000
def StretchesR (cycle home : Int) (l : List (Int × Int)) (s : Int × Int) : List Str × Int :=
  if mErr cycle home l ≠ 0 then ([], mErr cycle home l) else if okSpan s = true then (if s.2 < s.1 then ([], 0) else (stretchesF cycle home l s (max l.length 1), 0)) else ([], 1)
@[reducible] def stD (x : List Str × Int) : D := .tup [strsD x.1, int x.2]

theorem told_low {r : Int × Int} (h : Low r) : PureFn Try.prog 29 [ratD r] (ratD r) := by
  have := told_ok r (by rw [divisorF_gcd h.ri.d h.ri.i, h.g]; decide)
  rwa [lowestF_red h.ri.n h.ri.d h.ri.i, h.red] at this

theorem str_get {l : List Str} {i : Nat} (h : i < l.length) : (l.map strL)[i]? = some (strL (l.getD i ((0, 0), (0, 0)))) := by
  simp [h, List.getD]

theorem resA_row2 {σ : St} {i j s n esz : Nat} {els : List (List D)} {y : D} (h1 : σ.t i = .row s 0 n n) (h2 : σ.b s = .row esz els) (h3 : n = els.length) (h4 : σ.t j = .d y) : resA [.t i, .t j] σ = some (.tup [.list els, y]) := by
  subst h3; simp [resA, readRV, h1, snap, h2, h4]

theorem Stretches_ok (cycle home : Int) (l : List (Int × Int)) (s : Int × Int) : PureFn Try.prog 11 [int cycle, int home, knotsD l, ratD s] (stD (StretchesR cycle home l s)) := by
  unfold StretchesR
  cases h0 : decide (mErr cycle home l = 0)
  · rw [if_pos (of_decide_eq_false h0)]
    refine pureFn_nil (pureFn_by Try.func11 k11 rfl rfl ?_)
    conv => whnf
    refine ⟨_, motionError_ok _ _ _, ?_⟩
    conv => whnf
    rw [h0]
    rfl
  have h0' := of_decide_eq_true h0
  rw [if_neg (by simpa using h0')]
  unfold okSpan
  cases h1 : withinF s.1 (-1000000) 2000000
  · rw [Bool.false_and, if_neg (by simp)]
    refine pureFn_nil (pureFn_by Try.func11 k11 rfl rfl ?_)
    conv => whnf
    refine ⟨_, motionError_ok _ _ _, ?_⟩
    conv => whnf
    rw [h0]
    conv => whnf
    refine ⟨_, within_ok _ _ _, ?_⟩
    rw [h1]
    rfl
  cases h2 : withinF s.2 (-1000000) 2000000
  · rw [Bool.and_false, if_neg (by simp)]
    refine pureFn_nil (pureFn_by Try.func11 k11 rfl rfl ?_)
    conv => whnf
    refine ⟨_, motionError_ok _ _ _, ?_⟩
    conv => whnf
    rw [h0]
    conv => whnf
    refine ⟨_, within_ok _ _ _, ?_⟩
    rw [h1]
    conv => whnf
    refine ⟨_, within_ok _ _ _, ?_⟩
    rw [h2]
    rfl
  rw [Bool.and_self, if_pos rfl]
  cases h3 : decide (s.2 < s.1)
  case true =>
    rw [if_pos (of_decide_eq_true h3)]
    refine pureFn_nil (pureFn_by Try.func11 k11 rfl rfl ?_)
    conv => whnf
    refine ⟨_, motionError_ok _ _ _, ?_⟩
    conv => whnf
    rw [h0]
    conv => whnf
    refine ⟨_, within_ok _ _ _, ?_⟩
    rw [h1]
    conv => whnf
    refine ⟨_, within_ok _ _ _, ?_⟩
    rw [h2]
    conv => whnf
    rw [h3]
    rfl
  rw [if_neg (of_decide_eq_false h3)]
  have ok := okm_of h0'
  have b1 : -1000000 ≤ s.1 ∧ s.1 ≤ 2000000 := by simpa [withinF] using h1
  have b2 : -1000000 ≤ s.2 ∧ s.2 ≤ 2000000 := by simpa [withinF] using h2
  obtain ⟨low, len⟩ := stretchesF_low ok s b1 b2 (max l.length 1) (Nat.le_refl _)
  have hl := ok.len
  refine pureFn_by Try.func11 k11 rfl rfl ?_
  conv => whnf
  refine ⟨_, motionError_ok _ _ _, ?_⟩
  conv => whnf
  rw [h0]
  conv => whnf
  refine ⟨_, within_ok _ _ _, ?_⟩
  rw [h1]
  conv => whnf
  refine ⟨_, within_ok _ _ _, ?_⟩
  rw [h2]
  conv => whnf
  rw [h3]
  conv => whnf
  refine ⟨_, stretches_ok ok s b1 b2, ?_⟩
  generalize stretchesF cycle home l s (max l.length 1) = S at low len ⊢
  conv => whnf
  refine loopB (fun (x : Int × List (List D) × Nat) => ⟨mkT [(11, .row 2 0 x.2.2 x.2.2), (40, .d (strsD S)), (41, .d (int (S.map strL).length)), (42, .d (int x.1))], mkB [(2, .row 4 x.2.1)]⟩)
    (fun x => ∃ i : Nat, x.1 = i ∧ i ≤ S.length ∧ x.2.1 = (S.take i).map strL ∧ x.2.2 = x.2.1.length) (fun x => (S.length - x.1).toNat) (0, [], 0) rfl ⟨0, rfl, by omega, by simp, rfl⟩ ?_
  rintro ⟨x, els, n⟩ ⟨i, hx, hil, he, hn⟩
  simp only at hx he hn
  subst hx
  conv => whnf
  rw [List.length_map]
  cases c1 : decide ((i : Int) < (S.length : Int))
  · have c1' := of_decide_eq_false c1
    have hi : i = S.length := by omega
    conv => whnf
    refine (resA_row2 (s := 2) (n := n) (esz := 4) (els := els) (y := int 0) rfl rfl hn rfl).trans ?_
    rw [he, hi, List.take_length]
  · have c1' := of_decide_eq_true c1
    have hi : i < S.length := by omega
    have hw := next_i (i := i) (n := S.length) hi (by omega)
    have hlen : els.length = i := by rw [he]; simp; omega
    conv => whnf
    refine ⟨by omega, _, (by rw [Int.toNat_natCast]; exact str_get hi), ?_⟩
    have hx : S.getD i ((0, 0), (0, 0)) = S[i] := by simp [List.getD, hi]
    have lo := low _ (List.getElem_mem hi)
    rw [hx]
    conv => whnf
    refine ⟨_, told_low lo.f, ?_⟩
    conv => whnf
    refine ⟨_, told_low lo.t, ?_⟩
    conv => whnf
    refine ⟨rfl, ?_⟩
    conv => whnf
    refine ⟨rfl, hn, by simp [most]; omega, ?_⟩
    conv => whnf
    refine ⟨(IntKind.wrap .i64 ((i : Int) + 1), els ++ [strL S[i]], els.length + 1), rfl, ⟨i + 1, hw, hi, ?_, by simp⟩, by simp only; rw [hw]; omega⟩
    show els ++ [strL S[i]] = _
    rw [he, List.take_succ_eq_append_getElem hi, List.map_append]; rfl
end Go.Proofs.YtgeficpcnlgnhaaG
