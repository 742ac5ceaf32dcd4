/- Long plans; equal lists; lists in order. No condition. -/
import Derived.Test.YtmkmegcconjgoaaP23
set_option linter.unusedVariables false
set_option linter.unusedSimpArgs false
set_option maxRecDepth 100000
set_option maxHeartbeats 4000000
namespace Go.Proofs.YtmkmegcconjgoaaG
open Go Go.AM Go.Proofs

def farF (l : List (List Int)) : Bool := decide (20 < l.length) || l.any fun r => decide (30 < r.length)
theorem far_ok (l : List (List Int)) : PureFn Try.prog 34 [planD l] (boolD (farF l)) := by
  refine pureFn_by Try.func34 k34 rfl rfl ?_
  unfold farF
  obtain ⟨A, hA⟩ : ∃ A, (l.any fun r => decide (30 < r.length)) = A := ⟨_, rfl⟩
  rw [hA]
  conv => whnf
  cases c1 : decide (20 < ((l.map rowL).length : Int))
  · have h1 : ¬ 20 < l.length := by have := of_decide_eq_false c1; rw [List.length_map] at this; omega
    rw [show decide (20 < l.length) = false from decide_eq_false h1]
    conv => whnf
    refine loopB (fun (i : Int) => ⟨mkT [(0, .d (planD l)), (3, .d (int i))], mkB []⟩)
      (fun i => ∃ k : Nat, i = k ∧ k ≤ l.length ∧ ((l.drop k).any fun r => decide (30 < r.length)) = A) (fun i => (l.length - i).toNat) 0 (by kernel_rfl) ⟨0, rfl, by omega, hA⟩ ?_
    rintro _ ⟨i, rfl, hi, hb⟩
    conv => whnf
    cases c2 : decide ((i : Int) < ((l.map rowL).length : Int))
    · have hi' : i = l.length := by have := of_decide_eq_false c2; rw [List.length_map] at this; omega
      rw [hi', drop_end] at hb
      rw [← hb]
      conv => whnf
      kernel_rfl
    · have hi' : i < l.length := by have := of_decide_eq_true c2; rw [List.length_map] at this; omega
      obtain ⟨r, hx⟩ := get_lt hi'
      rw [drop_at hx, List.any_cons] at hb
      conv => whnf
      refine ⟨by omega, _, gm hx, ?_⟩
      conv => whnf
      cases c3 : decide (30 < ((r.map i1).length : Int))
      · have h3 : ¬ 30 < r.length := by have := of_decide_eq_false c3; rw [List.length_map] at this; omega
        rw [show decide (30 < r.length) = false from decide_eq_false h3] at hb
        conv => whnf
        exact ⟨IntKind.wrap .i64 ((i : Int) + 1), by kernel_rfl, ⟨i + 1, nx (by omega), by omega, hb⟩, by rw [nx (by omega)]; omega⟩
      · have h3 : 30 < r.length := by have := of_decide_eq_true c3; rw [List.length_map] at this; omega
        rw [show decide (30 < r.length) = true from decide_eq_true h3] at hb
        rw [← hb]
        conv => whnf
        kernel_rfl
  · have h1 : 20 < l.length := by have := of_decide_eq_true c1; rw [List.length_map] at this; omega
    rw [show decide (20 < l.length) = true from decide_eq_true h1]
    conv => whnf
    kernel_rfl
theorem smp_of {l : List (List Int)} (h : farF l = false) : SmP l := by
  simp only [farF, Bool.or_eq_false_iff, decide_eq_false_iff_not, List.any_eq_false, decide_eq_true_eq] at h
  exact ⟨by omega, fun r hr => by have := h.2 r hr; omega⟩
theorem sameInts_ok (a b : List Int) (hl : a.length < 1000000000) : PureFn Try.prog 23 [rowD a, rowD b] (boolD (decide (a = b))) := by
  refine pureFn_by Try.func23 k23 rfl rfl ?_
  obtain ⟨R, hR⟩ : ∃ R, decide (a = b) = R := ⟨_, rfl⟩
  rw [hR]
  conv => whnf
  cases c1 : decide (((a.map i1).length : Int) = ((b.map i1).length : Int))
  · have h1 : a ≠ b := fun e => by subst e; simp at c1
    rw [← hR, decide_eq_false h1]
    conv => whnf
    kernel_rfl
  · have h1 : a.length = b.length := by have := of_decide_eq_true c1; rw [List.length_map, List.length_map] at this; omega
    conv => whnf
    refine loopB (fun (i : Int) => ⟨mkT [(0, .d (rowD a)), (1, .d (rowD b)), (5, .d (int i))], mkB []⟩)
      (fun i => ∃ k : Nat, i = k ∧ k ≤ a.length ∧ decide (a.drop k = b.drop k) = R) (fun i => (a.length - i).toNat) 0 (by kernel_rfl) ⟨0, rfl, by omega, hR⟩ ?_
    rintro _ ⟨i, rfl, hi, hb⟩
    conv => whnf
    cases c2 : decide ((i : Int) < ((a.map i1).length : Int))
    · have hi' : i = a.length := by have := of_decide_eq_false c2; rw [List.length_map] at this; omega
      rw [hi', drop_end, h1, drop_end] at hb
      rw [← hb]
      conv => whnf
      kernel_rfl
    · have hi' : i < a.length := by have := of_decide_eq_true c2; rw [List.length_map] at this; omega
      obtain ⟨x, hx⟩ := get_lt hi'
      obtain ⟨y, hy⟩ := get_lt (xs := b) (i := i) (by omega)
      rw [drop_at hx, drop_at hy] at hb
      conv => whnf
      refine ⟨by omega, _, gm hx, ?_⟩
      conv => whnf
      refine ⟨by omega, _, gm hy, ?_⟩
      conv => whnf
      cases c3 : decide (x = y)
      · have h3 := of_decide_eq_false c3
        have hb : false = R := by rw [← hb]; exact (decide_eq_false (fun e => h3 (by simpa using (List.cons.inj e).1))).symm
        rw [← hb]
        conv => whnf
        kernel_rfl
      · have h3 := of_decide_eq_true c3
        subst h3
        have hb : decide (a.drop (i + 1) = b.drop (i + 1)) = R := by rw [← hb]; simp
        conv => whnf
        exact ⟨IntKind.wrap .i64 ((i : Int) + 1), by kernel_rfl, ⟨i + 1, nx (by omega), by omega, hb⟩, by rw [nx (by omega)]; omega⟩
end Go.Proofs.YtmkmegcconjgoaaG
