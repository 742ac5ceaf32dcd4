/- What the checks of a season answer: changes, articles, machines, orders. No condition. -/
import Derived.Test.YtmkmegcconjgoaaP1
set_option linter.unusedVariables false
set_option linter.unusedSimpArgs false
set_option maxRecDepth 100000
set_option maxHeartbeats 4000000
namespace Go.Proofs.YtmkmegcconjgoaaG
open Go Go.AM Go.Proofs

theorem drop_end {α : Type} {xs : List α} : xs.drop xs.length = [] := by simp
theorem drop_at {α : Type} {xs : List α} {i : Nat} {x : α} (h : xs[i]? = some x) : xs.drop i = x :: xs.drop (i + 1) := by
  obtain ⟨hi, rfl⟩ := List.getElem?_eq_some_iff.1 h
  exact List.drop_eq_getElem_cons hi
/-- The first error of a list's items. -/
def firstE {α : Type} (e : Nat → α → Int) : List α → Nat → Int
  | [], _ => 0
  | x :: xs, i => if e i x = 0 then firstE e xs (i + 1) else e i x

def turnOk (t : Int × Int) : Bool := withinF t.1 0 1440 && withinF t.2 0 1000000
theorem badTurn_ok (t : Int × Int) : PureFn Try.prog 82 [.agg [int t.1, int t.2]] (boolD (!turnOk t)) := by
  unfold turnOk
  refine pureFn_by Try.func82 k82 rfl rfl ?_
  conv => whnf
  refine ⟨_, within_ok _ _ _, ?_⟩
  cases withinF t.1 0 1440
  · conv => whnf
    kernel_rfl
  · conv => whnf
    refine ⟨_, within_ok _ _ _, ?_⟩
    conv => whnf
    kernel_rfl
def rowOk (n : Int) (r : List (Int × Int)) : Bool := decide ((r.length : Int) = n) && !(r.any fun t => !turnOk t)
def turnsF (l : List (List (Int × Int))) (n : Int) : Bool := decide ((l.length : Int) = n) && l.all (rowOk n)

theorem turns_ok (l : List (List (Int × Int))) (n : Int) (hl : l.length < 1000000000) (hr : ∀ r ∈ l, r.length < 1000000000) : PureFn Try.prog 49 [turnsD l, int n] (boolD (turnsF l n)) := by
  unfold turnsF
  refine pureFn_by Try.func49 k49 rfl rfl ?_
  conv => whnf
  rw [List.length_map]
  cases c0 : decide ((l.length : Int) = n)
  · conv => whnf
    kernel_rfl
  · conv => whnf
    refine loopB (fun (i : Int) => ⟨mkT [(1, .d (int n)), (11, .d (turnsD l)), (12, .d (int (l.map pairsL).length)), (13, .d (int i))], mkB []⟩)
      (fun i => ∃ k : Nat, i = k ∧ k ≤ l.length ∧ (l.drop k).all (rowOk n) = l.all (rowOk n)) (fun i => (l.length - i).toNat) 0 (by kernel_rfl) ⟨0, rfl, by omega, rfl⟩ ?_
    rintro _ ⟨i, rfl, hi, hb⟩
    conv => whnf
    rw [List.length_map]
    cases c1 : decide ((i : Int) < (l.length : Int))
    · have hi' : i = l.length := by have := of_decide_eq_false c1; omega
      subst hi'
      rw [drop_end] at hb
      rw [← hb]
      conv => whnf
      kernel_rfl
    · have hi' : i < l.length := by have := of_decide_eq_true c1; omega
      obtain ⟨r, hx⟩ := get_lt hi'
      have hd := drop_at hx
      rw [hd, List.all_cons] at hb
      have key := any2_ok (fun t : Int × Int => int t.1) (fun t => int t.2) r (fun t => !turnOk t) 82 [] (hr r (List.mem_of_getElem? hx)) (fun t _ => badTurn_ok t)
      have e : rowOk n r = (decide ((r.length : Int) = n) && !(r.any fun t => !turnOk t)) := rfl
      rw [e] at hb
      conv => whnf
      refine ⟨by omega, _, gm hx, ?_⟩
      conv => whnf
      rw [List.length_map]
      cases c2 : decide ((r.length : Int) = n)
      · rw [c2] at hb
        rw [← hb]
        conv => whnf
        kernel_rfl
      · rw [c2] at hb
        conv => whnf
        refine ⟨_, key, ?_⟩
        cases c3 : (r.any fun t => !turnOk t)
        · rw [c3] at hb
          conv => whnf
          exact ⟨IntKind.wrap .i64 ((i : Int) + 1), by kernel_rfl, ⟨i + 1, nx (by omega), by omega, hb⟩, by rw [nx (by omega)]; omega⟩
        · rw [c3] at hb
          rw [← hb]
          conv => whnf
          kernel_rfl

def rateOk (n : Int) : Bool := withinF n 0 1000000
theorem badRate_ok (n : Int) : PureFn Try.prog 80 [int n] (boolD (!rateOk n)) := by
  refine pureFn_by Try.func80 k80 rfl rfl ?_
  conv => whnf
  refine ⟨_, within_ok _ _ _, ?_⟩
  conv => whnf
  kernel_rfl

theorem sameArt_ok (x o : Ord) : PureFn Try.prog 84 [.agg [int x.article, int x.quantity, int x.due, int x.penalty], .fptr (ordL o)] (boolD (decide (x.article = o.article))) := by
  refine pureFn_by Try.func84 k84 rfl rfl ?_
  conv => whnf
  kernel_rfl

theorem sameName_ok (a : Art) (n : ByteArray) : PureFn Try.prog 103 [.agg [strD a.name, int a.colour, int a.weight], .fptr [strD n]] (boolD (a.name.toList == n.toList)) := by
  refine pureFn_by Try.func103 k103 rfl rfl ?_
  conv => whnf
  kernel_rfl
def articleF (s : Season) (n : ByteArray) : Int := idxF (fun a : Art => a.name.toList == n.toList) s.arts
theorem article_ok (s : Season) (hs : Sm s) (n : ByteArray) : PureFn Try.prog 79 [seasonD s, strD n] (int (articleF s n)) := by
  have key := idx3_ok (fun a : Art => strD a.name) (fun a => int a.colour) (fun a => int a.weight) s.arts (fun a => a.name.toList == n.toList) 103 [.fptr [strD n]] (by have := hs.arts; omega) (fun a _ => sameName_ok a n)
  refine pureFn_by Try.func79 k79 rfl rfl ?_
  conv => whnf
  refine ⟨_, key, ?_⟩
  conv => whnf
  kernel_rfl

def chOk (c : Int) : Bool := (decide (97 ≤ c) && decide (c ≤ 122)) || (decide (48 ≤ c) && decide (c ≤ 57)) || decide (c = 45)
def nameF (s : ByteArray) : Bool := decide (1 ≤ s.size) && decide (s.size ≤ 16) && (decide (97 ≤ byteAt s 0) && decide (byteAt s 0 ≤ 122)) && (List.range s.size).all fun i => chOk (byteAt s i)
theorem name_ok (s : ByteArray) : PureFn Try.prog 78 [strD s] (boolD (nameF s)) := by
  refine pureFn_by Try.func78 k78 rfl rfl ?_
  unfold nameF
  obtain ⟨A, hA⟩ : ∃ A, ((List.range s.size).all fun i => chOk (byteAt s i)) = A := ⟨_, rfl⟩
  rw [hA]
  conv => whnf
  cases c1 : decide ((s.size : Int) < 1)
  · have h1 : 1 ≤ s.size := by have := of_decide_eq_false c1; omega
    rw [show decide (1 ≤ s.size) = true from decide_eq_true h1]
    conv => whnf
    cases c2 : decide (16 < (s.size : Int))
    · have h2 : s.size ≤ 16 := by have := of_decide_eq_false c2; omega
      rw [show decide (s.size ≤ 16) = true from decide_eq_true h2]
      conv => whnf
      refine ⟨by omega, by omega, ?_⟩
      conv => whnf
      cases c3 : decide (byteAt s 0 < 97)
      · rw [show decide (97 ≤ byteAt s 0) = true from decide_eq_true (by have := of_decide_eq_false c3; omega)]
        conv => whnf
        refine ⟨by omega, by omega, ?_⟩
        conv => whnf
        cases c4 : decide (122 < byteAt s 0)
        · rw [show decide (byteAt s 0 ≤ 122) = true from decide_eq_true (by have := of_decide_eq_false c4; omega)]
          conv => whnf
          refine loopB (fun (i : Int) => ⟨mkT [(0, .d (strD s)), (24, .d (int s.size)), (25, .d (int i))], mkB []⟩)
            (fun i => ∃ k : Nat, i = k ∧ k ≤ s.size ∧ ((List.range s.size).drop k).all (fun i => chOk (byteAt s i)) = A) (fun i => (s.size - i).toNat) 0 (by kernel_rfl) ⟨0, rfl, by omega, hA⟩ ?_
          rintro _ ⟨i, rfl, hi, hb⟩
          conv => whnf
          cases c5 : decide ((i : Int) < (s.size : Int))
          · have hi' : i = s.size := by have := of_decide_eq_false c5; omega
            rw [List.drop_of_length_le (by simp [hi'])] at hb
            rw [← hb]
            conv => whnf
            kernel_rfl
          · have hi' : i < s.size := by have := of_decide_eq_true c5; omega
            have hd := drop_at (show (List.range s.size)[i]? = some i by simp [hi'])
            rw [hd, List.all_cons] at hb
            have fw : ∀ (b : Bool), ((decide (97 ≤ byteAt s i) && decide (byteAt s i ≤ 122)) || (decide (48 ≤ byteAt s i) && decide (byteAt s i ≤ 57)) || decide (byteAt s i = 45)) = b →
                (b = true → ((List.range s.size).drop (i + 1)).all (fun i => chOk (byteAt s i)) = A) ∧ (b = false → A = false) := fun b hc => by
              have hc : chOk (byteAt s i) = b := hc
              rw [hc] at hb
              refine ⟨fun e => ?_, fun e => ?_⟩
              · subst e; exact hb
              · subst e; exact hb.symm
            obtain ⟨B, hB⟩ : ∃ B, ((List.range s.size).drop (i + 1)).all (fun i => chOk (byteAt s i)) = B := ⟨_, rfl⟩
            rw [hB] at fw
            conv => whnf
            refine ⟨by omega, by omega, ?_⟩
            generalize byteAt s (i : Int) = c at fw ⊢
            conv => whnf
            cases a1 : decide (97 ≤ c)
            · conv => whnf
              cases a3 : decide (48 ≤ c)
              · conv => whnf
                cases a5 : decide (c = 45)
                · rw [(fw false (by rw [a1, a3, a5]; rfl)).2 rfl]
                  conv => whnf
                  kernel_rfl
                · conv => whnf
                  exact ⟨IntKind.wrap .i64 ((i : Int) + 1), by kernel_rfl, ⟨i + 1, nx (by omega), by omega, hB.trans ((fw true (by rw [a1, a3, a5]; rfl)).1 rfl)⟩, by rw [nx (by omega)]; omega⟩
              · conv => whnf
                cases a4 : decide (c ≤ 57)
                · conv => whnf
                  cases a5 : decide (c = 45)
                  · rw [(fw false (by rw [a1, a3, a4, a5]; rfl)).2 rfl]
                    conv => whnf
                    kernel_rfl
                  · conv => whnf
                    exact ⟨IntKind.wrap .i64 ((i : Int) + 1), by kernel_rfl, ⟨i + 1, nx (by omega), by omega, hB.trans ((fw true (by rw [a1, a3, a4, a5]; rfl)).1 rfl)⟩, by rw [nx (by omega)]; omega⟩
                · conv => whnf
                  exact ⟨IntKind.wrap .i64 ((i : Int) + 1), by kernel_rfl, ⟨i + 1, nx (by omega), by omega, hB.trans ((fw true (by rw [a1, a3, a4]; rfl)).1 rfl)⟩, by rw [nx (by omega)]; omega⟩
            · conv => whnf
              cases a2 : decide (c ≤ 122)
              · conv => whnf
                cases a3 : decide (48 ≤ c)
                · conv => whnf
                  cases a5 : decide (c = 45)
                  · rw [(fw false (by rw [a1, a2, a3, a5]; rfl)).2 rfl]
                    conv => whnf
                    kernel_rfl
                  · conv => whnf
                    exact ⟨IntKind.wrap .i64 ((i : Int) + 1), by kernel_rfl, ⟨i + 1, nx (by omega), by omega, hB.trans ((fw true (by rw [a1, a2, a3, a5]; rfl)).1 rfl)⟩, by rw [nx (by omega)]; omega⟩
                · conv => whnf
                  cases a4 : decide (c ≤ 57)
                  · conv => whnf
                    cases a5 : decide (c = 45)
                    · rw [(fw false (by rw [a1, a2, a3, a4, a5]; rfl)).2 rfl]
                      conv => whnf
                      kernel_rfl
                    · conv => whnf
                      exact ⟨IntKind.wrap .i64 ((i : Int) + 1), by kernel_rfl, ⟨i + 1, nx (by omega), by omega, hB.trans ((fw true (by rw [a1, a2, a3, a4, a5]; rfl)).1 rfl)⟩, by rw [nx (by omega)]; omega⟩
                  · conv => whnf
                    exact ⟨IntKind.wrap .i64 ((i : Int) + 1), by kernel_rfl, ⟨i + 1, nx (by omega), by omega, hB.trans ((fw true (by rw [a1, a2, a3, a4]; rfl)).1 rfl)⟩, by rw [nx (by omega)]; omega⟩
              · conv => whnf
                exact ⟨IntKind.wrap .i64 ((i : Int) + 1), by kernel_rfl, ⟨i + 1, nx (by omega), by omega, hB.trans ((fw true (by rw [a1, a2]; rfl)).1 rfl)⟩, by rw [nx (by omega)]; omega⟩
        · rw [show decide (byteAt s 0 ≤ 122) = false from decide_eq_false (by have := of_decide_eq_true c4; omega)]
          conv => whnf
          kernel_rfl
      · rw [show decide (97 ≤ byteAt s 0) = false from decide_eq_false (by have := of_decide_eq_true c3; omega)]
        conv => whnf
        kernel_rfl
    · rw [show decide (s.size ≤ 16) = false from decide_eq_false (by have := of_decide_eq_true c2; omega)]
      conv => whnf
      kernel_rfl
  · rw [show decide (1 ≤ s.size) = false from decide_eq_false (by have := of_decide_eq_true c1; omega)]
    conv => whnf
    kernel_rfl
end Go.Proofs.YtmkmegcconjgoaaG
