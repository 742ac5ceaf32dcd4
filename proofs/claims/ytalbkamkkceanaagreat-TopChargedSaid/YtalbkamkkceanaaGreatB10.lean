/- The specification's names and spans. No condition. -/
import Derived.Test.YtalbkamkkceanaaGreatB9
set_option linter.unusedVariables false
set_option linter.unusedSimpArgs false
set_option maxRecDepth 100000
set_option maxHeartbeats 4000000
namespace Go.Proofs.YtalbkamkkceanaaGreatG
open Go Go.AM Go.Proofs

theorem emptyS (s : ByteArray) : (s.toList == ByteArray.toList ⟨#[]⟩) = decide (s.size = 0) := by
  have e1 : s.toList.length = s.size := by rw [ByteArray.toList_eq]; simp
  have e2 : ByteArray.toList ⟨#[]⟩ = [] := by rw [ByteArray.toList_eq]
  rw [e2]
  cases h : decide (s.size = 0)
  · have h := of_decide_eq_false h
    cases hs : s.toList with
    | nil => rw [hs] at e1; exact absurd e1.symm h
    | cons x l => rfl
  · have h := of_decide_eq_true h
    have : s.toList = [] := List.length_eq_zero_iff.1 (by omega)
    rw [this]; rfl
theorem nameR_ok (s : ByteArray) : PureFn Tryz.prog 48 [strD s] (boolD (nameF s)) := by
  refine pureFn_by Tryz.func48 k48 rfl rfl ?_
  unfold nameF
  obtain ⟨A, hA⟩ : ∃ A, ((List.range s.size).all fun i => chOk (byteAt s i)) = A := ⟨_, rfl⟩
  rw [hA]
  conv => whnf
  rw [emptyS]
  cases c1 : decide (s.size = 0)
  · have h1 : 1 ≤ s.size := by have := of_decide_eq_false c1; omega
    rw [show decide (1 ≤ s.size) = true from decide_eq_true h1]
    conv => whnf
    cases c2 : decide ((s.size : Int) > 16)
    · have h2 : s.size ≤ 16 := by have := of_decide_eq_false c2; omega
      rw [show decide (s.size ≤ 16) = true from decide_eq_true h2]
      conv => whnf
      refine ⟨by omega, by omega, ?_⟩
      conv => whnf
      cases c3 : decide (byteAt s 0 < 97)
      · rw [show decide (97 ≤ byteAt s 0) = true from decide_eq_true (by have := of_decide_eq_false c3; omega)]
        conv => whnf
        refine ⟨by omega, by omega, ?_⟩
        conv => whnf
        cases c4 : decide (byteAt s 0 > 122)
        · rw [show decide (byteAt s 0 ≤ 122) = true from decide_eq_true (by have := of_decide_eq_false c4; omega)]
          conv => whnf
          refine loopB (fun (i : Int) => ⟨mkT [(0, .d (strD s)), (3, .d (int i))], mkB []⟩)
            (fun i => ∃ k : Nat, i = k ∧ k ≤ s.size ∧ ((List.range s.size).drop k).all (fun i => chOk (byteAt s i)) = A) (fun i => (s.size - i).toNat) 0 (by kernel_rfl) ⟨0, rfl, by omega, hA⟩ ?_
          rintro _ ⟨i, rfl, hi, hb⟩
          conv => whnf
          cases c5 : decide ((i : Int) < (s.size : Int))
          · have hi' : i = s.size := by have := of_decide_eq_false c5; omega
            rw [List.drop_of_length_le (by simp [hi'])] at hb
            rw [← hb]
            conv => whnf
            kernel_rfl
          · have hi' : i < s.size := by have := of_decide_eq_true c5; omega
            have hd := drop_at (show (List.range s.size)[i]? = some i by simp [hi'])
            rw [hd, List.all_cons] at hb
            have fw : ∀ (b : Bool), ((decide (97 ≤ byteAt s i) && decide (byteAt s i ≤ 122)) || (decide (48 ≤ byteAt s i) && decide (byteAt s i ≤ 57)) || decide (byteAt s i = 45)) = b →
                (b = true → ((List.range s.size).drop (i + 1)).all (fun i => chOk (byteAt s i)) = A) ∧ (b = false → A = false) := fun b hc => by
              have hc : chOk (byteAt s i) = b := hc
              rw [hc] at hb
              refine ⟨fun e => ?_, fun e => ?_⟩
              · subst e; exact hb
              · subst e; exact hb.symm
            obtain ⟨B, hB⟩ : ∃ B, ((List.range s.size).drop (i + 1)).all (fun i => chOk (byteAt s i)) = B := ⟨_, rfl⟩
            rw [hB] at fw
            have fw2 : (B = A ∧ ((decide (97 ≤ byteAt s i) && decide (byteAt s i ≤ 122)) || (decide (48 ≤ byteAt s i) && decide (byteAt s i ≤ 57)) || decide (byteAt s i = 45)) = true) ∨ (A = false ∧ ((decide (97 ≤ byteAt s i) && decide (byteAt s i ≤ 122)) || (decide (48 ≤ byteAt s i) && decide (byteAt s i ≤ 57)) || decide (byteAt s i = 45)) = false) := by
              cases hc : ((decide (97 ≤ byteAt s i) && decide (byteAt s i ≤ 122)) || (decide (48 ≤ byteAt s i) && decide (byteAt s i ≤ 57)) || decide (byteAt s i = 45))
              · exact .inr ⟨(fw _ hc).2 rfl, rfl⟩
              · exact .inl ⟨(fw _ hc).1 rfl, rfl⟩
            clear fw hb
            conv => whnf
            refine ⟨by omega, by omega, ?_⟩
            cases a1 : decide (byteAt s (i : Int) ≥ 97) <;> cases a2 : decide (byteAt s (i : Int) ≤ 122) <;> cases a3 : decide (byteAt s (i : Int) ≥ 48) <;> cases a4 : decide (byteAt s (i : Int) ≤ 57) <;> cases a5 : decide (byteAt s (i : Int) = 45)
            all_goals
              rw [show decide (97 ≤ byteAt s (i : Int)) = _ from a1, a2, show decide (48 ≤ byteAt s (i : Int)) = _ from a3, a4, a5] at fw2
              rcases fw2 with ⟨hBA, fw2⟩ | ⟨hA0, fw2⟩ <;> first
                | (exact absurd fw2 (by decide))
                | (rw [hA0]; repeat ((conv => whnf); first | rw [a1] | rw [a2] | rw [a3] | rw [a4] | rw [a5] | refine ⟨by omega, by omega, ?_⟩)
                   (conv => whnf)
                   kernel_rfl)
                | (repeat ((conv => whnf); first | rw [a1] | rw [a2] | rw [a3] | rw [a4] | rw [a5] | refine ⟨by omega, by omega, ?_⟩)
                   (conv => whnf)
                   exact ⟨IntKind.wrap .i64 ((i : Int) + 1), by kernel_rfl, ⟨i + 1, nx (by omega), by omega, hB.trans hBA⟩, by rw [nx (by omega)]; omega⟩)
        · rw [show decide (byteAt s 0 ≤ 122) = false from decide_eq_false (by have := of_decide_eq_true c4; omega)]
          conv => whnf
          kernel_rfl
      · rw [show decide (97 ≤ byteAt s 0) = false from decide_eq_false (by have := of_decide_eq_true c3; omega)]
        conv => whnf
        kernel_rfl
    · rw [show decide (s.size ≤ 16) = false from decide_eq_false (by have := of_decide_eq_true c2; omega)]
      conv => whnf
      kernel_rfl
  · rw [show decide (1 ≤ s.size) = false from decide_eq_false (by have := of_decide_eq_true c1; omega)]
    conv => whnf
    kernel_rfl
theorem inR_ok (xs : List ByteArray) (n : ByteArray) (hl : xs.length < 1000000000) : PureFn Tryz.prog 49 [.list (xs.map s1), strD n] (boolD (xs.any fun s => s.toList == n.toList)) := by
  refine pureFn_by Tryz.func49 k49 rfl rfl ?_
  obtain ⟨A, hA⟩ : ∃ A, (xs.any fun s => s.toList == n.toList) = A := ⟨_, rfl⟩
  rw [hA]
  conv => whnf
  refine loopB (fun (i : Int) => ⟨mkT [(0, .d (.list (xs.map s1))), (1, .d (strD n)), (5, .d (int i))], mkB []⟩)
    (fun i => ∃ k : Nat, i = k ∧ k ≤ xs.length ∧ ((xs.drop k).any fun s => s.toList == n.toList) = A) (fun i => (xs.length - i).toNat) 0 (by kernel_rfl) ⟨0, rfl, by omega, hA⟩ ?_
  rintro _ ⟨i, rfl, hi, hb⟩
  conv => whnf
  cases c1 : decide ((i : Int) < ((xs.map s1).length : Int))
  · have hi' : i = xs.length := by have := of_decide_eq_false c1; rw [List.length_map] at this; omega
    rw [hi', drop_end] at hb
    rw [← hb]
    conv => whnf
    kernel_rfl
  · have hi' : i < xs.length := by have := of_decide_eq_true c1; rw [List.length_map] at this; omega
    obtain ⟨x, hx⟩ := get_lt hi'
    rw [drop_at hx, List.any_cons] at hb
    conv => whnf
    refine ⟨by omega, _, (by first | exact gm (by assumption) | exact gz (by assumption)), ?_⟩
    conv => whnf
    cases c2 : (x.toList == n.toList)
    · rw [c2] at hb
      conv => whnf
      exact ⟨IntKind.wrap .i64 ((i : Int) + 1), by kernel_rfl, ⟨i + 1, nx (by omega), by omega, by simpa using hb⟩, by rw [nx (by omega)]; omega⟩
    · rw [c2] at hb
      rw [← hb]
      conv => whnf
      kernel_rfl
end Go.Proofs.YtalbkamkkceanaaGreatG
