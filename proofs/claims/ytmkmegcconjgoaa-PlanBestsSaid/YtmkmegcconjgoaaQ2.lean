/- Which plan comes ahead; how many plans. No condition. -/
import Derived.Test.YtmkmegcconjgoaaQ1
set_option linter.unusedVariables false
set_option linter.unusedSimpArgs false
set_option maxRecDepth 100000
set_option maxHeartbeats 4000000
namespace Go.Proofs.YtmkmegcconjgoaaG
open Go Go.AM Go.Proofs

theorem least_ok (p q : List (List Int)) (hl : p.length = q.length) (hp : p.length ≤ 1000000) (hs : ∀ (i : Nat) (r s : List Int), p[i]? = some r → q[i]? = some s → r.length = s.length ∧ r.length ≤ 1000000) : PureFn Try.prog 99 [planD p, planD q] (boolD (decide (cmpL p q < 0))) := by
  refine pureFn_by Try.func99 k99 rfl rfl ?_
  obtain ⟨R, hR⟩ : ∃ R, cmpL p q = R := ⟨_, rfl⟩
  rw [hR]
  conv => whnf
  refine loopB (fun (x : Int) => ⟨mkT [(0, .d (planD p)), (1, .d (planD q)), (5, .d (int x))], mkB []⟩)
    (fun x => ∃ i : Nat, x = i ∧ i ≤ p.length ∧ cmpL (p.drop i) (q.drop i) = R) (fun x => (p.length - x).toNat) 0 (by kernel_rfl) ⟨0, rfl, by omega, hR⟩ ?_
  rintro _ ⟨i, rfl, hi, h⟩
  conv => whnf
  cases c1 : decide ((i : Int) < ((p.map rowL).length : Int))
  · have hi' : i = p.length := by have := of_decide_eq_false c1; rw [List.length_map] at this; omega
    rw [hi', drop_end, hl, drop_end] at h
    have h : 0 = R := h
    rw [← h]
    conv => whnf
    kernel_rfl
  · have hi' : i < p.length := by have := of_decide_eq_true c1; rw [List.length_map] at this; omega
    obtain ⟨r, hr⟩ := get_lt hi'
    obtain ⟨s, hq⟩ := get_lt (xs := q) (i := i) (by omega)
    obtain ⟨hrs, hrl⟩ := hs i r s hr hq
    rw [drop_at hr, drop_at hq] at h
    have h : (if cmpI r s ≠ 0 then cmpI r s else cmpL (p.drop (i + 1)) (q.drop (i + 1))) = R := h
    conv => whnf
    refine loopB (fun (x : Int) => ⟨mkT [(0, .d (planD p)), (1, .d (planD q)), (5, .d (int (i : Int))), (6, .d (int x))], mkB []⟩)
      (fun x => ∃ d : Nat, x = d ∧ d ≤ r.length ∧ cmpI (r.drop d) (s.drop d) = cmpI r s) (fun x => (r.length - x).toNat) 0 (by kernel_rfl) ⟨0, rfl, by omega, rfl⟩ ?_
    rintro _ ⟨d, rfl, hd, hc⟩
    conv => whnf
    refine ⟨by omega, _, (by first | exact gm (by assumption) | exact gz (by assumption)), ?_⟩
    conv => whnf
    cases c2 : decide ((d : Int) < ((r.map i1).length : Int))
    · have hd' : d = r.length := by have := of_decide_eq_false c2; rw [List.length_map] at this; omega
      rw [hd', drop_end, hrs, drop_end] at hc
      have hc : 0 = cmpI r s := hc
      rw [if_neg (by omega)] at h
      conv => whnf
      exact ⟨IntKind.wrap .i64 ((i : Int) + 1), by kernel_rfl, ⟨i + 1, nx (by omega), by omega, h⟩, by rw [nx (by omega)]; omega⟩
    · have hd' : d < r.length := by have := of_decide_eq_true c2; rw [List.length_map] at this; omega
      obtain ⟨x, hx⟩ := get_lt hd'
      obtain ⟨y, hy⟩ := get_lt (xs := s) (i := d) (by omega)
      rw [drop_at hx, drop_at hy] at hc
      have hc : (if x - y ≠ 0 then x - y else cmpI (r.drop (d + 1)) (s.drop (d + 1))) = cmpI r s := hc
      conv => whnf
      refine ⟨by omega, _, (by first | exact gm (by assumption) | exact gz (by assumption)), ?_⟩
      conv => whnf
      refine ⟨by omega, _, (by first | exact gm (by assumption) | exact gz (by assumption)), ?_⟩
      conv => whnf
      refine ⟨by omega, _, (by first | exact gm (by assumption) | exact gz (by assumption)), ?_⟩
      conv => whnf
      refine ⟨by omega, _, (by first | exact gm (by assumption) | exact gz (by assumption)), ?_⟩
      conv => whnf
      cases c3 : decide (x = y)
      · have h3 := of_decide_eq_false c3
        rw [if_pos (by omega)] at hc
        rw [← hc, if_pos (by omega)] at h
        have e : decide (R < 0) = decide (x < y) := by rw [← h]; simp; omega
        rw [e]
        conv => whnf
        refine ⟨by omega, _, (by first | exact gm (by assumption) | exact gz (by assumption)), ?_⟩
        conv => whnf
        refine ⟨by omega, _, (by first | exact gm (by assumption) | exact gz (by assumption)), ?_⟩
        conv => whnf
        refine ⟨by omega, _, (by first | exact gm (by assumption) | exact gz (by assumption)), ?_⟩
        conv => whnf
        refine ⟨by omega, _, (by first | exact gm (by assumption) | exact gz (by assumption)), ?_⟩
        conv => whnf
        kernel_rfl
      · have h3 := of_decide_eq_true c3
        rw [if_neg (by omega)] at hc
        conv => whnf
        exact ⟨IntKind.wrap .i64 ((d : Int) + 1), by kernel_rfl, ⟨d + 1, nx (by omega), by omega, hc⟩, by rw [nx (by omega)]; omega⟩
@[reducible] def plansL (x : List (List Int)) : List D := [planD x]
@[reducible] def allsD (l : List (List (List Int))) : D := .list (l.map plansL)
/-- The furnaces' shifts. -/
def allsF (s : Season) : List (List (List Int)) := (List.range s.ovens.length).map fun (k : Nat) => shiftsF s (k : Int)
def eachL : List (List (List Int)) → Int → Int
  | [], n => n
  | x :: l, n => eachL l (n * (x.length : Int))
def plansN : Nat → Int → Int → Int
  | 0, _, n => n
  | d + 1, e, n => if n ≤ 200000 then plansN d e (n * e) else n
theorem plansN_stop {d : Nat} {e n : Int} (h : 200000 < n) : plansN d e n = n := by
  cases d with
  | zero => rfl
  | succ d => simp only [plansN]; rw [if_neg (by omega)]
/-- The furnaces' shifts are not many. -/
structure Few (l : List (List (List Int))) : Prop where
  len : l.length ≤ 3
  el : ∀ x ∈ l, x.length ≤ 729
theorem each_step {l : List (List (List Int))} {i : Nat} {x : List (List Int)} {n : Int} (hf : Few l) (hx : l[i]? = some x) (h0 : 0 ≤ n) (h1 : n ≤ 729 ^ i) : 0 ≤ n * (x.length : Int) ∧ n * (x.length : Int) ≤ 729 ^ (i + 1) := by
  have := hf.el x (List.mem_of_getElem? hx)
  refine ⟨Int.mul_nonneg h0 (by omega), ?_⟩
  rw [Int.pow_succ]
  exact Int.mul_le_mul h1 (by omega) (by omega) (Int.le_trans h0 h1)
theorem pow_small {i : Nat} (h : i ≤ 3) : (729 : Int) ^ i ≤ 387420489 := by
  match i, h with
  | 0, _ => decide
  | 1, _ => decide
  | 2, _ => decide
  | 3, _ => decide
def fewF (s : Season) (l : List (List (List Int))) : Bool := decide (plansN s.days.toNat (eachL l 1) 1 ≤ 200000)
theorem eachL_range {l : List (List (List Int))} (hf : Few l) : 0 ≤ eachL l 1 ∧ eachL l 1 ≤ 387420489 := by
  have key : ∀ (k i : Nat) (n : Int), i + k = l.length → 0 ≤ n → n ≤ 729 ^ i → 0 ≤ eachL (l.drop i) n ∧ eachL (l.drop i) n ≤ 387420489 := fun k => by
    induction k with
    | zero =>
      intro i n hi h0 h1
      rw [show i = l.length by omega, drop_end]
      have := pow_small (i := i) (by have := hf.len; omega)
      simp only [eachL]; omega
    | succ k ih =>
      intro i n hi h0 h1
      obtain ⟨x, hx⟩ := get_lt (xs := l) (i := i) (by omega)
      rw [drop_at hx, eachL]
      have := each_step hf hx h0 h1
      exact ih (i + 1) _ (by omega) this.1 this.2
  simpa using key l.length 0 1 (by omega) (by decide) (by decide)
theorem few_ok (s : Season) (h : Fr s) (l : List (List (List Int))) (hf : Few l) : PureFn Try.prog 67 [seasonD s, allsD l] (boolD (fewF s l)) := by
  have hfl := hf.len
  have hdy := h.days
  have her := eachL_range hf
  refine pureFn_by Try.func67 k67 rfl rfl ?_
  unfold fewF
  obtain ⟨E, hE⟩ : ∃ E, eachL l 1 = E := ⟨_, rfl⟩
  rw [hE] at her ⊢
  obtain ⟨R, hR⟩ : ∃ R, plansN s.days.toNat E 1 = R := ⟨_, rfl⟩
  rw [hR]
  conv => whnf
  refine loopB (fun (x : Int × Int) => ⟨mkT [(2, .d (.fptr (cellsS s))), (5, .d (int x.2)), (9, .d (allsD l)), (10, .d (int (l.map plansL).length)), (11, .d (int x.1))], mkB []⟩)
    (fun x => ∃ i : Nat, x.1 = i ∧ i ≤ l.length ∧ eachL (l.drop i) x.2 = E ∧ 0 ≤ x.2 ∧ x.2 ≤ 729 ^ i) (fun x => (l.length - x.1).toNat) (0, 1) (by kernel_rfl) ⟨0, rfl, by omega, hE, by decide, by decide⟩ ?_
  rintro ⟨_, n⟩ ⟨i, rfl, hi, he, h0, h1⟩
  simp only at he h0 h1
  conv => whnf
  cases c1 : decide ((i : Int) < ((l.map plansL).length : Int))
  · have hi' : i = l.length := by have := of_decide_eq_false c1; rw [List.length_map] at this; omega
    rw [hi', drop_end] at he
    have he : n = E := he
    subst he
    conv => whnf
    refine loopB (fun (x : Int × Int) => ⟨mkT [(5, .d (int n)), (8, .d (int x.2)), (21, .d (int s.days)), (22, .d (int x.1))], mkB []⟩)
      (fun x => ∃ d : Nat, x.1 = d ∧ (d : Int) ≤ s.days ∧ plansN (s.days.toNat - d) n x.2 = R ∧ 0 ≤ x.2 ∧ x.2 ≤ 200000) (fun x => (s.days - x.1).toNat) (0, 1) (by kernel_rfl) ⟨0, rfl, by omega, hR, by decide, by decide⟩ ?_
    rintro ⟨_, m⟩ ⟨d, rfl, hd, hm, m0, m1⟩
    simp only at hm m0 m1
    conv => whnf
    cases c2 : decide ((d : Int) < s.days)
    · have hd' : s.days.toNat - d = 0 := by have := of_decide_eq_false c2; omega
      rw [hd'] at hm
      have hm : m = R := hm
      rw [show decide (R ≤ 200000) = true from decide_eq_true (by omega)]
      conv => whnf
      kernel_rfl
    · have hd' := of_decide_eq_true c2
      obtain ⟨e, he2⟩ : ∃ e, s.days.toNat - d = e + 1 := ⟨s.days.toNat - d - 1, by omega⟩
      rw [he2, plansN, if_pos (by omega)] at hm
      have p0 : 0 ≤ m * n := Int.mul_nonneg m0 h0
      have p1 : m * n ≤ 200000 * 387420489 := Int.mul_le_mul m1 (by have := pow_small (i := i) (by omega); omega) h0 (by decide)
      have ew : IntKind.wrap .i64 (m * n) = m * n := wr_eq (by omega)
      conv => whnf
      rw [ew]
      cases c3 : decide (200000 < m * n)
      · conv => whnf
        exact ⟨(IntKind.wrap .i64 ((d : Int) + 1), m * n), by kernel_rfl, ⟨d + 1, nx (by omega), by omega, by simp only; rw [show s.days.toNat - (d + 1) = e by omega]; exact hm, p0, by simp only; have := of_decide_eq_false c3; omega⟩, by simp only; rw [nx (by omega)]; omega⟩
      · have h3 := of_decide_eq_true c3
        rw [plansN_stop h3] at hm
        rw [show decide (R ≤ 200000) = false from decide_eq_false (by omega)]
        conv => whnf
        kernel_rfl
  · have hi' : i < l.length := by have := of_decide_eq_true c1; rw [List.length_map] at this; omega
    obtain ⟨x, hx⟩ := get_lt hi'
    rw [drop_at hx, eachL] at he
    have st := each_step hf hx h0 h1
    have := pow_small (i := i + 1) (by omega)
    have ew : IntKind.wrap .i64 (n * ((x.map rowL).length : Int)) = n * (x.length : Int) := by rw [List.length_map]; exact wr_eq (by omega)
    conv => whnf
    refine ⟨by omega, _, (by first | exact gm (by assumption) | exact gz (by assumption)), ?_⟩
    conv => whnf
    exact ⟨(IntKind.wrap .i64 ((i : Int) + 1), IntKind.wrap .i64 (n * ((x.map rowL).length : Int))), by kernel_rfl, ⟨i + 1, nx (by omega), by omega, by simp only; rw [ew]; exact he, by simp only; rw [ew]; exact st.1, by simp only; rw [ew]; exact st.2⟩, by simp only; rw [nx (by omega)]; omega⟩
end Go.Proofs.YtmkmegcconjgoaaG
