/- Comparisons of plans; how many plans. No condition. -/
import Derived.Test.YtmkmegcconjgoaaP42
set_option linter.unusedVariables false
set_option linter.unusedSimpArgs false
set_option maxRecDepth 100000
set_option maxHeartbeats 4000000
namespace Go.Proofs.YtmkmegcconjgoaaG
open Go Go.AM Go.Proofs

def cmpG {α : Type} (c : α → α → Int) : List α → List α → Int
  | [], [] => 0
  | [], _ :: _ => -1
  | _ :: _, [] => 1
  | x :: xs, y :: ys => if c x y ≠ 0 then c x y else cmpG c xs ys
theorem cmp98_ok (xs ys : List Int) (g : FuncId) (caps : List D) (c : Int → Int → Int) (hx : xs.length ≤ 1000000) (hy : ys.length ≤ 1000000) (hg : ∀ x ∈ xs, ∀ y ∈ ys, PureFn Try.prog g (int x :: int y :: caps) (int (c x y))) :
    PureFn Try.prog 98 [rowD xs, rowD ys, .clo g [] caps] (int (cmpG c xs ys)) := by
  refine pureFn_by Try.func98 k98 rfl rfl ?_
  obtain ⟨R, hR⟩ : ∃ R, cmpG c xs ys = R := ⟨_, rfl⟩
  rw [hR]
  conv => whnf
  refine loopB (fun (x : Int) => ⟨mkT [(0, .d (rowD xs)), (1, .d (rowD ys)), (2, .d (.clo g [] caps)), (11, .d (rowD xs)), (12, .d (int (xs.map i1).length)), (13, .d (int x))], mkB []⟩)
    (fun x => ∃ i : Nat, x = i ∧ i ≤ xs.length ∧ i ≤ ys.length ∧ cmpG c (xs.drop i) (ys.drop i) = R) (fun x => (xs.length - x).toNat) 0 (by kernel_rfl) ⟨0, rfl, by omega, by omega, hR⟩ ?_
  rintro _ ⟨i, rfl, hi, hj, h⟩
  conv => whnf
  cases c1 : decide ((i : Int) < ((xs.map i1).length : Int))
  · have hi' : i = xs.length := by have := of_decide_eq_false c1; rw [List.length_map] at this; omega
    rw [hi', drop_end] at h
    conv => whnf
    cases c2 : decide (((xs.map i1).length : Int) < ((ys.map i1).length : Int))
    · have h2 : ys.length = xs.length := by have := of_decide_eq_false c2; rw [List.length_map, List.length_map] at this; omega
      rw [← h2, drop_end] at h
      have h : 0 = R := h
      rw [← h]
      conv => whnf
      kernel_rfl
    · have h2 : xs.length < ys.length := by have := of_decide_eq_true c2; rw [List.length_map, List.length_map] at this; omega
      obtain ⟨y, hy2⟩ := get_lt h2
      rw [drop_at hy2] at h
      have h : -1 = R := h
      rw [← h]
      conv => whnf
      kernel_rfl
  · have hi' : i < xs.length := by have := of_decide_eq_true c1; rw [List.length_map] at this; omega
    obtain ⟨x, hx2⟩ := get_lt hi'
    rw [drop_at hx2] at h
    conv => whnf
    refine ⟨by omega, _, (by first | exact gm (by assumption) | exact gz (by assumption)), ?_⟩
    conv => whnf
    cases c2 : decide (((ys.map i1).length : Int) ≤ (i : Int))
    · have h2 : i < ys.length := by have := of_decide_eq_false c2; rw [List.length_map] at this; omega
      obtain ⟨y, hy2⟩ := get_lt h2
      rw [drop_at hy2, cmpG] at h
      conv => whnf
      refine ⟨by omega, _, (by first | exact gm (by assumption) | exact gz (by assumption)), ?_⟩
      conv => whnf
      refine ⟨_, hg x (List.mem_of_getElem? hx2) y (List.mem_of_getElem? hy2), ?_⟩
      conv => whnf
      cases c3 : decide (c x y = 0)
      · rw [if_pos (of_decide_eq_false c3)] at h
        rw [← h]
        conv => whnf
        kernel_rfl
      · rw [if_neg (by have := of_decide_eq_true c3; omega)] at h
        conv => whnf
        exact ⟨IntKind.wrap .i64 ((i : Int) + 1), by kernel_rfl, ⟨i + 1, nx (by omega), by omega, by omega, h⟩, by rw [nx (by omega)]; omega⟩
    · have h2 : ys.length = i := by have := of_decide_eq_true c2; rw [List.length_map] at this; omega
      rw [← h2, drop_end] at h
      have h : 1 = R := h
      rw [← h]
      conv => whnf
      kernel_rfl
theorem cmp96_ok (xs ys : List (List Int)) (g : FuncId) (caps : List D) (c : List Int → List Int → Int) (hx : xs.length ≤ 1000000) (hy : ys.length ≤ 1000000) (hg : ∀ x ∈ xs, ∀ y ∈ ys, PureFn Try.prog g (rowD x :: rowD y :: caps) (int (c x y))) :
    PureFn Try.prog 96 [planD xs, planD ys, .clo g [] caps] (int (cmpG c xs ys)) := by
  refine pureFn_by Try.func96 k96 rfl rfl ?_
  obtain ⟨R, hR⟩ : ∃ R, cmpG c xs ys = R := ⟨_, rfl⟩
  rw [hR]
  conv => whnf
  refine loopB (fun (x : Int) => ⟨mkT [(0, .d (planD xs)), (1, .d (planD ys)), (2, .d (.clo g [] caps)), (11, .d (planD xs)), (12, .d (int (xs.map rowL).length)), (13, .d (int x))], mkB []⟩)
    (fun x => ∃ i : Nat, x = i ∧ i ≤ xs.length ∧ i ≤ ys.length ∧ cmpG c (xs.drop i) (ys.drop i) = R) (fun x => (xs.length - x).toNat) 0 (by kernel_rfl) ⟨0, rfl, by omega, by omega, hR⟩ ?_
  rintro _ ⟨i, rfl, hi, hj, h⟩
  conv => whnf
  cases c1 : decide ((i : Int) < ((xs.map rowL).length : Int))
  · have hi' : i = xs.length := by have := of_decide_eq_false c1; rw [List.length_map] at this; omega
    rw [hi', drop_end] at h
    conv => whnf
    cases c2 : decide (((xs.map rowL).length : Int) < ((ys.map rowL).length : Int))
    · have h2 : ys.length = xs.length := by have := of_decide_eq_false c2; rw [List.length_map, List.length_map] at this; omega
      rw [← h2, drop_end] at h
      have h : 0 = R := h
      rw [← h]
      conv => whnf
      kernel_rfl
    · have h2 : xs.length < ys.length := by have := of_decide_eq_true c2; rw [List.length_map, List.length_map] at this; omega
      obtain ⟨y, hy2⟩ := get_lt h2
      rw [drop_at hy2] at h
      have h : -1 = R := h
      rw [← h]
      conv => whnf
      kernel_rfl
  · have hi' : i < xs.length := by have := of_decide_eq_true c1; rw [List.length_map] at this; omega
    obtain ⟨x, hx2⟩ := get_lt hi'
    rw [drop_at hx2] at h
    conv => whnf
    refine ⟨by omega, _, (by first | exact gm (by assumption) | exact gz (by assumption)), ?_⟩
    conv => whnf
    cases c2 : decide (((ys.map rowL).length : Int) ≤ (i : Int))
    · have h2 : i < ys.length := by have := of_decide_eq_false c2; rw [List.length_map] at this; omega
      obtain ⟨y, hy2⟩ := get_lt h2
      rw [drop_at hy2, cmpG] at h
      conv => whnf
      refine ⟨by omega, _, (by first | exact gm (by assumption) | exact gz (by assumption)), ?_⟩
      conv => whnf
      refine ⟨_, hg x (List.mem_of_getElem? hx2) y (List.mem_of_getElem? hy2), ?_⟩
      conv => whnf
      cases c3 : decide (c x y = 0)
      · rw [if_pos (of_decide_eq_false c3)] at h
        rw [← h]
        conv => whnf
        kernel_rfl
      · rw [if_neg (by have := of_decide_eq_true c3; omega)] at h
        conv => whnf
        exact ⟨IntKind.wrap .i64 ((i : Int) + 1), by kernel_rfl, ⟨i + 1, nx (by omega), by omega, by omega, h⟩, by rw [nx (by omega)]; omega⟩
    · have h2 : ys.length = i := by have := of_decide_eq_true c2; rw [List.length_map] at this; omega
      rw [← h2, drop_end] at h
      have h : 1 = R := h
      rw [← h]
      conv => whnf
      kernel_rfl
/-- A plan whose numbers are small. -/
def Small (p : List (List Int)) : Prop := p.length ≤ 1000000 ∧ ∀ r ∈ p, r.length ≤ 1000000 ∧ ∀ x ∈ r, -1000000 ≤ x ∧ x ≤ 1000000
def cmpI : List Int → List Int → Int := cmpG fun x y => x - y
def cmpL : List (List Int) → List (List Int) → Int := cmpG cmpI
theorem minus_ok (x y : Int) (hx : -1000000 ≤ x ∧ x ≤ 1000000) (hy : -1000000 ≤ y ∧ y ≤ 1000000) : PureFn Try.prog 70 [int x, int y] (int (x - y)) := by
  have e : IntKind.wrap .i64 (x - y) = x - y := wr_eq (by omega)
  rw [← e]
  refine pureFn_by Try.func70 k70 rfl rfl ?_
  conv => whnf
  kernel_rfl
theorem ordered1_ok (x y : List Int) (hx : x.length ≤ 1000000 ∧ ∀ n ∈ x, -1000000 ≤ n ∧ n ≤ 1000000) (hy : y.length ≤ 1000000 ∧ ∀ n ∈ y, -1000000 ≤ n ∧ n ≤ 1000000) : PureFn Try.prog 97 [rowD x, rowD y, .fptr [.clo 70 [] []]] (int (cmpI x y)) := by
  refine pureFn_by Try.func97 k97 rfl rfl ?_
  conv => whnf
  refine ⟨_, cmp98_ok x y 70 [] (fun x y => x - y) hx.1 hy.1 (fun a ha b hb => minus_ok a b (hx.2 a ha) (hy.2 b hb)), ?_⟩
  conv => whnf
  kernel_rfl
theorem ordered_ok (p q : List (List Int)) (hp : Small p) (hq : Small q) : PureFn Try.prog 69 [planD p, planD q, .clo 70 [] []] (int (cmpL p q)) := by
  refine pureFn_by Try.func69 k69 rfl rfl ?_
  conv => whnf
  refine ⟨_, cmp96_ok p q 97 [.fptr [.clo 70 [] []]] cmpI hp.1 hq.1 (fun x hx y hy => ordered1_ok x y (hp.2 x hx) (hq.2 y hy)), ?_⟩
  conv => whnf
  kernel_rfl
end Go.Proofs.YtmkmegcconjgoaaG
