/- Whether a season is more than is looked at. No condition. -/
import Derived.Test.YtbkjfjlmhlmdbaaP25
set_option linter.unusedVariables false
set_option linter.unusedSimpArgs false
set_option maxRecDepth 100000
set_option maxHeartbeats 4000000
namespace Go.Proofs.YtbkjfjlmhlmdbaaG
open Go Go.AM Go.Proofs

def bigF (s : Season) : Bool := decide ((4 < s.arts.length ∧ s.arts.length ≤ 8) ∨ 12 < s.arts.length ∨ (3 < s.makers.length ∧ s.makers.length ≤ 6) ∨ 10 < s.makers.length ∨ 4 < s.ovens.length ∨ 20 < s.jobs.length ∨ 10 < s.cols.length ∨ 20 < s.orders.length)
def nameSum : List Art → Int → Int
  | [], n => n
  | a :: l, n => nameSum l (IntKind.wrap .i64 (n + (a.name.size : Int)))
def greatF (s : Season) : Bool := bigF s || s.makers.any (fun m => decide (20 < m.rates.length)) || s.jobs.any (fun r => decide (20 < r.length)) || s.cols.any (fun r => decide (20 < r.length)) || decide (500 < nameSum s.arts 0)
theorem great_ok (s : Season) : PureFn Try.prog 4 [seasonD s] (boolD (greatF s)) := by
  refine pureFn_by Try.func4 k4 rfl rfl ?_
  have big : ((4 < s.arts.length ∧ s.arts.length ≤ 8) ∨ 12 < s.arts.length ∨ (3 < s.makers.length ∧ s.makers.length ≤ 6) ∨ 10 < s.makers.length ∨ 4 < s.ovens.length ∨ 20 < s.jobs.length ∨ 10 < s.cols.length ∨ 20 < s.orders.length) → greatF s = true := fun h => by
    unfold greatF bigF; rw [decide_eq_true h]; rfl
  conv => whnf
  cases d1 : decide ((4 : Int) < ((s.arts.map artL).length : Int))
  · have e1 := of_decide_eq_false d1
    rw [List.length_map] at e1
    conv => whnf
    cases d2 : decide ((12 : Int) < ((s.arts.map artL).length : Int))
    · have e2 := of_decide_eq_false d2
      rw [List.length_map] at e2
      conv => whnf
      cases d3 : decide ((3 : Int) < ((s.makers.map mkL).length : Int))
      · have e3 := of_decide_eq_false d3
        rw [List.length_map] at e3
        conv => whnf
        cases d4 : decide ((10 : Int) < ((s.makers.map mkL).length : Int))
        · have e4 := of_decide_eq_false d4
          rw [List.length_map] at e4
          conv => whnf
          cases d5 : decide ((4 : Int) < ((s.ovens.map i2).length : Int))
          · have e5 := of_decide_eq_false d5
            rw [List.length_map] at e5
            conv => whnf
            cases d6 : decide ((20 : Int) < ((s.jobs.map pairsL).length : Int))
            · have e6 := of_decide_eq_false d6
              rw [List.length_map] at e6
              conv => whnf
              cases d7 : decide ((10 : Int) < ((s.cols.map pairsL).length : Int))
              · have e7 := of_decide_eq_false d7
                rw [List.length_map] at e7
                conv => whnf
                cases d8 : decide ((20 : Int) < ((s.orders.map ordL).length : Int))
                · have e8 := of_decide_eq_false d8
                  rw [List.length_map] at e8
                  conv => whnf
                  have hbg : bigF s = false := decide_eq_false (by omega)
                  obtain ⟨G, hG⟩ : ∃ G, greatF s = G := ⟨_, rfl⟩
                  have eG : G = (false || s.makers.any (fun r => decide (20 < r.rates.length)) || s.jobs.any (fun r => decide (20 < r.length)) || s.cols.any (fun r => decide (20 < r.length)) || decide (500 < nameSum s.arts 0)) := by rw [← hG]; unfold greatF; rw [hbg]
                  rw [hG]
                  clear big
                  refine loopB (fun (x : Int × Int) => ⟨mkT [(1, .d (.fptr (cellsS s))), (3, .d (int x.2)), (4, .d (int x.1))], mkB []⟩)
                    (fun x => ∃ k : Nat, x.1 = k ∧ k ≤ s.arts.length ∧ nameSum (s.arts.drop k) x.2 = nameSum s.arts 0) (fun x => (s.arts.length - x.1).toNat) (0, 0) (by kernel_rfl) ⟨0, rfl, by omega, rfl⟩ ?_
                  rintro ⟨_, n⟩ ⟨i, rfl, hi, hb⟩
                  simp only at hb
                  conv => whnf
                  cases q1 : decide ((i : Int) < ((s.arts.map artL).length : Int))
                  · have hi' : i = s.arts.length := by have := of_decide_eq_false q1; rw [List.length_map] at this; omega
                    rw [hi', drop_end] at hb
                    have hns : nameSum s.arts 0 = n := by rw [← hb]; simp [nameSum]
                    clear hb q1
                    conv => whnf
                    obtain ⟨M, hM⟩ : ∃ x, s.makers.any (fun r => decide (20 < r.rates.length)) = x := ⟨_, rfl⟩
                    rw [hM] at eG
                    refine loopB (fun (x : Int) => ⟨mkT [(1, .d (.fptr (cellsS s))), (3, .d (int n)), (5, .d (int x))], mkB []⟩)
                      (fun x => ∃ k : Nat, x = k ∧ k ≤ s.makers.length ∧ (s.makers.drop k).any (fun r => decide (20 < r.rates.length)) = M) (fun x => (s.makers.length - x).toNat) 0 (by kernel_rfl) ⟨0, rfl, by omega, hM⟩ ?_
                    rintro _ ⟨i, rfl, hi, hb⟩
                    conv => whnf
                    cases q1 : decide ((i : Int) < ((s.makers.map mkL).length : Int))
                    · have hi' : i = s.makers.length := by have := of_decide_eq_false q1; rw [List.length_map] at this; omega
                      rw [hi', drop_end] at hb
                      have hb : false = M := hb
                      rw [← hb] at eG
                      conv => whnf
                      obtain ⟨J, hJ⟩ : ∃ x, s.jobs.any (fun r => decide (20 < r.length)) = x := ⟨_, rfl⟩
                      rw [hJ] at eG
                      refine loopB (fun (x : Int) => ⟨mkT [(1, .d (.fptr (cellsS s))), (3, .d (int n)), (6, .d (int x))], mkB []⟩)
                        (fun x => ∃ k : Nat, x = k ∧ k ≤ s.jobs.length ∧ (s.jobs.drop k).any (fun r => decide (20 < r.length)) = J) (fun x => (s.jobs.length - x).toNat) 0 (by kernel_rfl) ⟨0, rfl, by omega, hJ⟩ ?_
                      rintro _ ⟨i, rfl, hi, hb⟩
                      conv => whnf
                      cases q1 : decide ((i : Int) < ((s.jobs.map pairsL).length : Int))
                      · have hi' : i = s.jobs.length := by have := of_decide_eq_false q1; rw [List.length_map] at this; omega
                        rw [hi', drop_end] at hb
                        have hb : false = J := hb
                        rw [← hb] at eG
                        conv => whnf
                        obtain ⟨C, hC⟩ : ∃ x, s.cols.any (fun r => decide (20 < r.length)) = x := ⟨_, rfl⟩
                        rw [hC] at eG
                        refine loopB (fun (x : Int) => ⟨mkT [(1, .d (.fptr (cellsS s))), (3, .d (int n)), (7, .d (int x))], mkB []⟩)
                          (fun x => ∃ k : Nat, x = k ∧ k ≤ s.cols.length ∧ (s.cols.drop k).any (fun r => decide (20 < r.length)) = C) (fun x => (s.cols.length - x).toNat) 0 (by kernel_rfl) ⟨0, rfl, by omega, hC⟩ ?_
                        rintro _ ⟨i, rfl, hi, hb⟩
                        conv => whnf
                        cases q1 : decide ((i : Int) < ((s.cols.map pairsL).length : Int))
                        · have hi' : i = s.cols.length := by have := of_decide_eq_false q1; rw [List.length_map] at this; omega
                          rw [hi', drop_end] at hb
                          have hb : false = C := hb
                          rw [← hb] at eG
                          conv => whnf
                          rw [show (500 : Int) = 500 from rfl] at eG
                          have eG2 : G = decide (500 < n) := by rw [eG, hns]; simp
                          rw [eG2]
                          conv => whnf
                          kernel_rfl
                        · have hi' : i < s.cols.length := by have := of_decide_eq_true q1; rw [List.length_map] at this; omega
                          obtain ⟨r, hx⟩ := get_lt hi'
                          rw [drop_at hx, List.any_cons] at hb
                          conv => whnf
                          refine ⟨by omega, _, gm hx, ?_⟩
                          conv => whnf
                          cases q2 : decide ((20 : Int) < ((r.map i2).length : Int))
                          · have h3 : ¬ 20 < r.length := by have := of_decide_eq_false q2; rw [List.length_map] at this; omega
                            rw [decide_eq_false h3] at hb
                            conv => whnf
                            exact ⟨IntKind.wrap .i64 ((i : Int) + 1), by kernel_rfl, ⟨i + 1, nx (by omega), by omega, hb⟩, by rw [nx (by omega)]; omega⟩
                          · have h3 : 20 < r.length := by have := of_decide_eq_true q2; rw [List.length_map] at this; omega
                            rw [decide_eq_true h3] at hb
                            have hb : true = C := hb
                            rw [← hb] at eG
                            rw [show G = true by rw [eG]; simp]
                            conv => whnf
                            kernel_rfl
                      · have hi' : i < s.jobs.length := by have := of_decide_eq_true q1; rw [List.length_map] at this; omega
                        obtain ⟨r, hx⟩ := get_lt hi'
                        rw [drop_at hx, List.any_cons] at hb
                        conv => whnf
                        refine ⟨by omega, _, gm hx, ?_⟩
                        conv => whnf
                        cases q2 : decide ((20 : Int) < ((r.map i2).length : Int))
                        · have h3 : ¬ 20 < r.length := by have := of_decide_eq_false q2; rw [List.length_map] at this; omega
                          rw [decide_eq_false h3] at hb
                          conv => whnf
                          exact ⟨IntKind.wrap .i64 ((i : Int) + 1), by kernel_rfl, ⟨i + 1, nx (by omega), by omega, hb⟩, by rw [nx (by omega)]; omega⟩
                        · have h3 : 20 < r.length := by have := of_decide_eq_true q2; rw [List.length_map] at this; omega
                          rw [decide_eq_true h3] at hb
                          have hb : true = J := hb
                          rw [← hb] at eG
                          rw [show G = true by rw [eG]; simp]
                          conv => whnf
                          kernel_rfl
                    · have hi' : i < s.makers.length := by have := of_decide_eq_true q1; rw [List.length_map] at this; omega
                      obtain ⟨r, hx⟩ := get_lt hi'
                      rw [drop_at hx, List.any_cons] at hb
                      conv => whnf
                      refine ⟨by omega, _, gm hx, ?_⟩
                      conv => whnf
                      cases q2 : decide ((20 : Int) < ((r.rates.map i1).length : Int))
                      · have h3 : ¬ 20 < r.rates.length := by have := of_decide_eq_false q2; rw [List.length_map] at this; omega
                        rw [decide_eq_false h3] at hb
                        conv => whnf
                        exact ⟨IntKind.wrap .i64 ((i : Int) + 1), by kernel_rfl, ⟨i + 1, nx (by omega), by omega, hb⟩, by rw [nx (by omega)]; omega⟩
                      · have h3 : 20 < r.rates.length := by have := of_decide_eq_true q2; rw [List.length_map] at this; omega
                        rw [decide_eq_true h3] at hb
                        have hb : true = M := hb
                        rw [← hb] at eG
                        rw [show G = true by rw [eG]; simp]
                        conv => whnf
                        kernel_rfl
                  · have hi' : i < s.arts.length := by have := of_decide_eq_true q1; rw [List.length_map] at this; omega
                    obtain ⟨a, hx⟩ := get_lt hi'
                    rw [drop_at hx, nameSum] at hb
                    conv => whnf
                    refine ⟨by omega, _, gm hx, ?_⟩
                    conv => whnf
                    exact ⟨(IntKind.wrap .i64 ((i : Int) + 1), IntKind.wrap .i64 (n + (a.name.size : Int))), by kernel_rfl, ⟨i + 1, nx (by omega), by omega, hb⟩, by simp only; rw [nx (by omega)]; omega⟩
                · have e8 := of_decide_eq_true d8
                  rw [List.length_map] at e8
                  rw [big (by omega)]
                  conv => whnf
                  kernel_rfl
              · have e7 := of_decide_eq_true d7
                rw [List.length_map] at e7
                rw [big (by omega)]
                conv => whnf
                kernel_rfl
            · have e6 := of_decide_eq_true d6
              rw [List.length_map] at e6
              rw [big (by omega)]
              conv => whnf
              kernel_rfl
          · have e5 := of_decide_eq_true d5
            rw [List.length_map] at e5
            rw [big (by omega)]
            conv => whnf
            kernel_rfl
        · have e4 := of_decide_eq_true d4
          rw [List.length_map] at e4
          rw [big (by omega)]
          conv => whnf
          kernel_rfl
      · have e3 := of_decide_eq_true d3
        rw [List.length_map] at e3
        conv => whnf
        cases d300 : decide (((s.makers.map mkL).length : Int) ≤ (6 : Int))
        · have e300 := of_decide_eq_false d300
          rw [List.length_map] at e300
          conv => whnf
          cases d9 : decide ((10 : Int) < ((s.makers.map mkL).length : Int))
          · have e9 := of_decide_eq_false d9
            rw [List.length_map] at e9
            conv => whnf
            cases d10 : decide ((4 : Int) < ((s.ovens.map i2).length : Int))
            · have e10 := of_decide_eq_false d10
              rw [List.length_map] at e10
              conv => whnf
              cases d11 : decide ((20 : Int) < ((s.jobs.map pairsL).length : Int))
              · have e11 := of_decide_eq_false d11
                rw [List.length_map] at e11
                conv => whnf
                cases d12 : decide ((10 : Int) < ((s.cols.map pairsL).length : Int))
                · have e12 := of_decide_eq_false d12
                  rw [List.length_map] at e12
                  conv => whnf
                  cases d13 : decide ((20 : Int) < ((s.orders.map ordL).length : Int))
                  · have e13 := of_decide_eq_false d13
                    rw [List.length_map] at e13
                    conv => whnf
                    have hbg : bigF s = false := decide_eq_false (by omega)
                    obtain ⟨G, hG⟩ : ∃ G, greatF s = G := ⟨_, rfl⟩
                    have eG : G = (false || s.makers.any (fun r => decide (20 < r.rates.length)) || s.jobs.any (fun r => decide (20 < r.length)) || s.cols.any (fun r => decide (20 < r.length)) || decide (500 < nameSum s.arts 0)) := by rw [← hG]; unfold greatF; rw [hbg]
                    rw [hG]
                    clear big
                    refine loopB (fun (x : Int × Int) => ⟨mkT [(1, .d (.fptr (cellsS s))), (3, .d (int x.2)), (4, .d (int x.1))], mkB []⟩)
                      (fun x => ∃ k : Nat, x.1 = k ∧ k ≤ s.arts.length ∧ nameSum (s.arts.drop k) x.2 = nameSum s.arts 0) (fun x => (s.arts.length - x.1).toNat) (0, 0) (by kernel_rfl) ⟨0, rfl, by omega, rfl⟩ ?_
                    rintro ⟨_, n⟩ ⟨i, rfl, hi, hb⟩
                    simp only at hb
                    conv => whnf
                    cases q1 : decide ((i : Int) < ((s.arts.map artL).length : Int))
                    · have hi' : i = s.arts.length := by have := of_decide_eq_false q1; rw [List.length_map] at this; omega
                      rw [hi', drop_end] at hb
                      have hns : nameSum s.arts 0 = n := by rw [← hb]; simp [nameSum]
                      clear hb q1
                      conv => whnf
                      obtain ⟨M, hM⟩ : ∃ x, s.makers.any (fun r => decide (20 < r.rates.length)) = x := ⟨_, rfl⟩
                      rw [hM] at eG
                      refine loopB (fun (x : Int) => ⟨mkT [(1, .d (.fptr (cellsS s))), (3, .d (int n)), (5, .d (int x))], mkB []⟩)
                        (fun x => ∃ k : Nat, x = k ∧ k ≤ s.makers.length ∧ (s.makers.drop k).any (fun r => decide (20 < r.rates.length)) = M) (fun x => (s.makers.length - x).toNat) 0 (by kernel_rfl) ⟨0, rfl, by omega, hM⟩ ?_
                      rintro _ ⟨i, rfl, hi, hb⟩
                      conv => whnf
                      cases q1 : decide ((i : Int) < ((s.makers.map mkL).length : Int))
                      · have hi' : i = s.makers.length := by have := of_decide_eq_false q1; rw [List.length_map] at this; omega
                        rw [hi', drop_end] at hb
                        have hb : false = M := hb
                        rw [← hb] at eG
                        conv => whnf
                        obtain ⟨J, hJ⟩ : ∃ x, s.jobs.any (fun r => decide (20 < r.length)) = x := ⟨_, rfl⟩
                        rw [hJ] at eG
                        refine loopB (fun (x : Int) => ⟨mkT [(1, .d (.fptr (cellsS s))), (3, .d (int n)), (6, .d (int x))], mkB []⟩)
                          (fun x => ∃ k : Nat, x = k ∧ k ≤ s.jobs.length ∧ (s.jobs.drop k).any (fun r => decide (20 < r.length)) = J) (fun x => (s.jobs.length - x).toNat) 0 (by kernel_rfl) ⟨0, rfl, by omega, hJ⟩ ?_
                        rintro _ ⟨i, rfl, hi, hb⟩
                        conv => whnf
                        cases q1 : decide ((i : Int) < ((s.jobs.map pairsL).length : Int))
                        · have hi' : i = s.jobs.length := by have := of_decide_eq_false q1; rw [List.length_map] at this; omega
                          rw [hi', drop_end] at hb
                          have hb : false = J := hb
                          rw [← hb] at eG
                          conv => whnf
                          obtain ⟨C, hC⟩ : ∃ x, s.cols.any (fun r => decide (20 < r.length)) = x := ⟨_, rfl⟩
                          rw [hC] at eG
                          refine loopB (fun (x : Int) => ⟨mkT [(1, .d (.fptr (cellsS s))), (3, .d (int n)), (7, .d (int x))], mkB []⟩)
                            (fun x => ∃ k : Nat, x = k ∧ k ≤ s.cols.length ∧ (s.cols.drop k).any (fun r => decide (20 < r.length)) = C) (fun x => (s.cols.length - x).toNat) 0 (by kernel_rfl) ⟨0, rfl, by omega, hC⟩ ?_
                          rintro _ ⟨i, rfl, hi, hb⟩
                          conv => whnf
                          cases q1 : decide ((i : Int) < ((s.cols.map pairsL).length : Int))
                          · have hi' : i = s.cols.length := by have := of_decide_eq_false q1; rw [List.length_map] at this; omega
                            rw [hi', drop_end] at hb
                            have hb : false = C := hb
                            rw [← hb] at eG
                            conv => whnf
                            rw [show (500 : Int) = 500 from rfl] at eG
                            have eG2 : G = decide (500 < n) := by rw [eG, hns]; simp
                            rw [eG2]
                            conv => whnf
                            kernel_rfl
                          · have hi' : i < s.cols.length := by have := of_decide_eq_true q1; rw [List.length_map] at this; omega
                            obtain ⟨r, hx⟩ := get_lt hi'
                            rw [drop_at hx, List.any_cons] at hb
                            conv => whnf
                            refine ⟨by omega, _, gm hx, ?_⟩
                            conv => whnf
                            cases q2 : decide ((20 : Int) < ((r.map i2).length : Int))
                            · have h3 : ¬ 20 < r.length := by have := of_decide_eq_false q2; rw [List.length_map] at this; omega
                              rw [decide_eq_false h3] at hb
                              conv => whnf
                              exact ⟨IntKind.wrap .i64 ((i : Int) + 1), by kernel_rfl, ⟨i + 1, nx (by omega), by omega, hb⟩, by rw [nx (by omega)]; omega⟩
                            · have h3 : 20 < r.length := by have := of_decide_eq_true q2; rw [List.length_map] at this; omega
                              rw [decide_eq_true h3] at hb
                              have hb : true = C := hb
                              rw [← hb] at eG
                              rw [show G = true by rw [eG]; simp]
                              conv => whnf
                              kernel_rfl
                        · have hi' : i < s.jobs.length := by have := of_decide_eq_true q1; rw [List.length_map] at this; omega
                          obtain ⟨r, hx⟩ := get_lt hi'
                          rw [drop_at hx, List.any_cons] at hb
                          conv => whnf
                          refine ⟨by omega, _, gm hx, ?_⟩
                          conv => whnf
                          cases q2 : decide ((20 : Int) < ((r.map i2).length : Int))
                          · have h3 : ¬ 20 < r.length := by have := of_decide_eq_false q2; rw [List.length_map] at this; omega
                            rw [decide_eq_false h3] at hb
                            conv => whnf
                            exact ⟨IntKind.wrap .i64 ((i : Int) + 1), by kernel_rfl, ⟨i + 1, nx (by omega), by omega, hb⟩, by rw [nx (by omega)]; omega⟩
                          · have h3 : 20 < r.length := by have := of_decide_eq_true q2; rw [List.length_map] at this; omega
                            rw [decide_eq_true h3] at hb
                            have hb : true = J := hb
                            rw [← hb] at eG
                            rw [show G = true by rw [eG]; simp]
                            conv => whnf
                            kernel_rfl
                      · have hi' : i < s.makers.length := by have := of_decide_eq_true q1; rw [List.length_map] at this; omega
                        obtain ⟨r, hx⟩ := get_lt hi'
                        rw [drop_at hx, List.any_cons] at hb
                        conv => whnf
                        refine ⟨by omega, _, gm hx, ?_⟩
                        conv => whnf
                        cases q2 : decide ((20 : Int) < ((r.rates.map i1).length : Int))
                        · have h3 : ¬ 20 < r.rates.length := by have := of_decide_eq_false q2; rw [List.length_map] at this; omega
                          rw [decide_eq_false h3] at hb
                          conv => whnf
                          exact ⟨IntKind.wrap .i64 ((i : Int) + 1), by kernel_rfl, ⟨i + 1, nx (by omega), by omega, hb⟩, by rw [nx (by omega)]; omega⟩
                        · have h3 : 20 < r.rates.length := by have := of_decide_eq_true q2; rw [List.length_map] at this; omega
                          rw [decide_eq_true h3] at hb
                          have hb : true = M := hb
                          rw [← hb] at eG
                          rw [show G = true by rw [eG]; simp]
                          conv => whnf
                          kernel_rfl
                    · have hi' : i < s.arts.length := by have := of_decide_eq_true q1; rw [List.length_map] at this; omega
                      obtain ⟨a, hx⟩ := get_lt hi'
                      rw [drop_at hx, nameSum] at hb
                      conv => whnf
                      refine ⟨by omega, _, gm hx, ?_⟩
                      conv => whnf
                      exact ⟨(IntKind.wrap .i64 ((i : Int) + 1), IntKind.wrap .i64 (n + (a.name.size : Int))), by kernel_rfl, ⟨i + 1, nx (by omega), by omega, hb⟩, by simp only; rw [nx (by omega)]; omega⟩
                  · have e13 := of_decide_eq_true d13
                    rw [List.length_map] at e13
                    rw [big (by omega)]
                    conv => whnf
                    kernel_rfl
                · have e12 := of_decide_eq_true d12
                  rw [List.length_map] at e12
                  rw [big (by omega)]
                  conv => whnf
                  kernel_rfl
              · have e11 := of_decide_eq_true d11
                rw [List.length_map] at e11
                rw [big (by omega)]
                conv => whnf
                kernel_rfl
            · have e10 := of_decide_eq_true d10
              rw [List.length_map] at e10
              rw [big (by omega)]
              conv => whnf
              kernel_rfl
          · have e9 := of_decide_eq_true d9
            rw [List.length_map] at e9
            rw [big (by omega)]
            conv => whnf
            kernel_rfl
        · have e300 := of_decide_eq_true d300
          rw [List.length_map] at e300
          rw [big (by omega)]
          conv => whnf
          kernel_rfl
    · have e2 := of_decide_eq_true d2
      rw [List.length_map] at e2
      rw [big (by omega)]
      conv => whnf
      kernel_rfl
  · have e1 := of_decide_eq_true d1
    rw [List.length_map] at e1
    conv => whnf
    cases d100 : decide (((s.arts.map artL).length : Int) ≤ (8 : Int))
    · have e100 := of_decide_eq_false d100
      rw [List.length_map] at e100
      conv => whnf
      cases d14 : decide ((12 : Int) < ((s.arts.map artL).length : Int))
      · have e14 := of_decide_eq_false d14
        rw [List.length_map] at e14
        conv => whnf
        cases d15 : decide ((3 : Int) < ((s.makers.map mkL).length : Int))
        · have e15 := of_decide_eq_false d15
          rw [List.length_map] at e15
          conv => whnf
          cases d16 : decide ((10 : Int) < ((s.makers.map mkL).length : Int))
          · have e16 := of_decide_eq_false d16
            rw [List.length_map] at e16
            conv => whnf
            cases d17 : decide ((4 : Int) < ((s.ovens.map i2).length : Int))
            · have e17 := of_decide_eq_false d17
              rw [List.length_map] at e17
              conv => whnf
              cases d18 : decide ((20 : Int) < ((s.jobs.map pairsL).length : Int))
              · have e18 := of_decide_eq_false d18
                rw [List.length_map] at e18
                conv => whnf
                cases d19 : decide ((10 : Int) < ((s.cols.map pairsL).length : Int))
                · have e19 := of_decide_eq_false d19
                  rw [List.length_map] at e19
                  conv => whnf
                  cases d20 : decide ((20 : Int) < ((s.orders.map ordL).length : Int))
                  · have e20 := of_decide_eq_false d20
                    rw [List.length_map] at e20
                    conv => whnf
                    have hbg : bigF s = false := decide_eq_false (by omega)
                    obtain ⟨G, hG⟩ : ∃ G, greatF s = G := ⟨_, rfl⟩
                    have eG : G = (false || s.makers.any (fun r => decide (20 < r.rates.length)) || s.jobs.any (fun r => decide (20 < r.length)) || s.cols.any (fun r => decide (20 < r.length)) || decide (500 < nameSum s.arts 0)) := by rw [← hG]; unfold greatF; rw [hbg]
                    rw [hG]
                    clear big
                    refine loopB (fun (x : Int × Int) => ⟨mkT [(1, .d (.fptr (cellsS s))), (3, .d (int x.2)), (4, .d (int x.1))], mkB []⟩)
                      (fun x => ∃ k : Nat, x.1 = k ∧ k ≤ s.arts.length ∧ nameSum (s.arts.drop k) x.2 = nameSum s.arts 0) (fun x => (s.arts.length - x.1).toNat) (0, 0) (by kernel_rfl) ⟨0, rfl, by omega, rfl⟩ ?_
                    rintro ⟨_, n⟩ ⟨i, rfl, hi, hb⟩
                    simp only at hb
                    conv => whnf
                    cases q1 : decide ((i : Int) < ((s.arts.map artL).length : Int))
                    · have hi' : i = s.arts.length := by have := of_decide_eq_false q1; rw [List.length_map] at this; omega
                      rw [hi', drop_end] at hb
                      have hns : nameSum s.arts 0 = n := by rw [← hb]; simp [nameSum]
                      clear hb q1
                      conv => whnf
                      obtain ⟨M, hM⟩ : ∃ x, s.makers.any (fun r => decide (20 < r.rates.length)) = x := ⟨_, rfl⟩
                      rw [hM] at eG
                      refine loopB (fun (x : Int) => ⟨mkT [(1, .d (.fptr (cellsS s))), (3, .d (int n)), (5, .d (int x))], mkB []⟩)
                        (fun x => ∃ k : Nat, x = k ∧ k ≤ s.makers.length ∧ (s.makers.drop k).any (fun r => decide (20 < r.rates.length)) = M) (fun x => (s.makers.length - x).toNat) 0 (by kernel_rfl) ⟨0, rfl, by omega, hM⟩ ?_
                      rintro _ ⟨i, rfl, hi, hb⟩
                      conv => whnf
                      cases q1 : decide ((i : Int) < ((s.makers.map mkL).length : Int))
                      · have hi' : i = s.makers.length := by have := of_decide_eq_false q1; rw [List.length_map] at this; omega
                        rw [hi', drop_end] at hb
                        have hb : false = M := hb
                        rw [← hb] at eG
                        conv => whnf
                        obtain ⟨J, hJ⟩ : ∃ x, s.jobs.any (fun r => decide (20 < r.length)) = x := ⟨_, rfl⟩
                        rw [hJ] at eG
                        refine loopB (fun (x : Int) => ⟨mkT [(1, .d (.fptr (cellsS s))), (3, .d (int n)), (6, .d (int x))], mkB []⟩)
                          (fun x => ∃ k : Nat, x = k ∧ k ≤ s.jobs.length ∧ (s.jobs.drop k).any (fun r => decide (20 < r.length)) = J) (fun x => (s.jobs.length - x).toNat) 0 (by kernel_rfl) ⟨0, rfl, by omega, hJ⟩ ?_
                        rintro _ ⟨i, rfl, hi, hb⟩
                        conv => whnf
                        cases q1 : decide ((i : Int) < ((s.jobs.map pairsL).length : Int))
                        · have hi' : i = s.jobs.length := by have := of_decide_eq_false q1; rw [List.length_map] at this; omega
                          rw [hi', drop_end] at hb
                          have hb : false = J := hb
                          rw [← hb] at eG
                          conv => whnf
                          obtain ⟨C, hC⟩ : ∃ x, s.cols.any (fun r => decide (20 < r.length)) = x := ⟨_, rfl⟩
                          rw [hC] at eG
                          refine loopB (fun (x : Int) => ⟨mkT [(1, .d (.fptr (cellsS s))), (3, .d (int n)), (7, .d (int x))], mkB []⟩)
                            (fun x => ∃ k : Nat, x = k ∧ k ≤ s.cols.length ∧ (s.cols.drop k).any (fun r => decide (20 < r.length)) = C) (fun x => (s.cols.length - x).toNat) 0 (by kernel_rfl) ⟨0, rfl, by omega, hC⟩ ?_
                          rintro _ ⟨i, rfl, hi, hb⟩
                          conv => whnf
                          cases q1 : decide ((i : Int) < ((s.cols.map pairsL).length : Int))
                          · have hi' : i = s.cols.length := by have := of_decide_eq_false q1; rw [List.length_map] at this; omega
                            rw [hi', drop_end] at hb
                            have hb : false = C := hb
                            rw [← hb] at eG
                            conv => whnf
                            rw [show (500 : Int) = 500 from rfl] at eG
                            have eG2 : G = decide (500 < n) := by rw [eG, hns]; simp
                            rw [eG2]
                            conv => whnf
                            kernel_rfl
                          · have hi' : i < s.cols.length := by have := of_decide_eq_true q1; rw [List.length_map] at this; omega
                            obtain ⟨r, hx⟩ := get_lt hi'
                            rw [drop_at hx, List.any_cons] at hb
                            conv => whnf
                            refine ⟨by omega, _, gm hx, ?_⟩
                            conv => whnf
                            cases q2 : decide ((20 : Int) < ((r.map i2).length : Int))
                            · have h3 : ¬ 20 < r.length := by have := of_decide_eq_false q2; rw [List.length_map] at this; omega
                              rw [decide_eq_false h3] at hb
                              conv => whnf
                              exact ⟨IntKind.wrap .i64 ((i : Int) + 1), by kernel_rfl, ⟨i + 1, nx (by omega), by omega, hb⟩, by rw [nx (by omega)]; omega⟩
                            · have h3 : 20 < r.length := by have := of_decide_eq_true q2; rw [List.length_map] at this; omega
                              rw [decide_eq_true h3] at hb
                              have hb : true = C := hb
                              rw [← hb] at eG
                              rw [show G = true by rw [eG]; simp]
                              conv => whnf
                              kernel_rfl
                        · have hi' : i < s.jobs.length := by have := of_decide_eq_true q1; rw [List.length_map] at this; omega
                          obtain ⟨r, hx⟩ := get_lt hi'
                          rw [drop_at hx, List.any_cons] at hb
                          conv => whnf
                          refine ⟨by omega, _, gm hx, ?_⟩
                          conv => whnf
                          cases q2 : decide ((20 : Int) < ((r.map i2).length : Int))
                          · have h3 : ¬ 20 < r.length := by have := of_decide_eq_false q2; rw [List.length_map] at this; omega
                            rw [decide_eq_false h3] at hb
                            conv => whnf
                            exact ⟨IntKind.wrap .i64 ((i : Int) + 1), by kernel_rfl, ⟨i + 1, nx (by omega), by omega, hb⟩, by rw [nx (by omega)]; omega⟩
                          · have h3 : 20 < r.length := by have := of_decide_eq_true q2; rw [List.length_map] at this; omega
                            rw [decide_eq_true h3] at hb
                            have hb : true = J := hb
                            rw [← hb] at eG
                            rw [show G = true by rw [eG]; simp]
                            conv => whnf
                            kernel_rfl
                      · have hi' : i < s.makers.length := by have := of_decide_eq_true q1; rw [List.length_map] at this; omega
                        obtain ⟨r, hx⟩ := get_lt hi'
                        rw [drop_at hx, List.any_cons] at hb
                        conv => whnf
                        refine ⟨by omega, _, gm hx, ?_⟩
                        conv => whnf
                        cases q2 : decide ((20 : Int) < ((r.rates.map i1).length : Int))
                        · have h3 : ¬ 20 < r.rates.length := by have := of_decide_eq_false q2; rw [List.length_map] at this; omega
                          rw [decide_eq_false h3] at hb
                          conv => whnf
                          exact ⟨IntKind.wrap .i64 ((i : Int) + 1), by kernel_rfl, ⟨i + 1, nx (by omega), by omega, hb⟩, by rw [nx (by omega)]; omega⟩
                        · have h3 : 20 < r.rates.length := by have := of_decide_eq_true q2; rw [List.length_map] at this; omega
                          rw [decide_eq_true h3] at hb
                          have hb : true = M := hb
                          rw [← hb] at eG
                          rw [show G = true by rw [eG]; simp]
                          conv => whnf
                          kernel_rfl
                    · have hi' : i < s.arts.length := by have := of_decide_eq_true q1; rw [List.length_map] at this; omega
                      obtain ⟨a, hx⟩ := get_lt hi'
                      rw [drop_at hx, nameSum] at hb
                      conv => whnf
                      refine ⟨by omega, _, gm hx, ?_⟩
                      conv => whnf
                      exact ⟨(IntKind.wrap .i64 ((i : Int) + 1), IntKind.wrap .i64 (n + (a.name.size : Int))), by kernel_rfl, ⟨i + 1, nx (by omega), by omega, hb⟩, by simp only; rw [nx (by omega)]; omega⟩
                  · have e20 := of_decide_eq_true d20
                    rw [List.length_map] at e20
                    rw [big (by omega)]
                    conv => whnf
                    kernel_rfl
                · have e19 := of_decide_eq_true d19
                  rw [List.length_map] at e19
                  rw [big (by omega)]
                  conv => whnf
                  kernel_rfl
              · have e18 := of_decide_eq_true d18
                rw [List.length_map] at e18
                rw [big (by omega)]
                conv => whnf
                kernel_rfl
            · have e17 := of_decide_eq_true d17
              rw [List.length_map] at e17
              rw [big (by omega)]
              conv => whnf
              kernel_rfl
          · have e16 := of_decide_eq_true d16
            rw [List.length_map] at e16
            rw [big (by omega)]
            conv => whnf
            kernel_rfl
        · have e15 := of_decide_eq_true d15
          rw [List.length_map] at e15
          conv => whnf
          cases d1500 : decide (((s.makers.map mkL).length : Int) ≤ (6 : Int))
          · have e1500 := of_decide_eq_false d1500
            rw [List.length_map] at e1500
            conv => whnf
            cases d21 : decide ((10 : Int) < ((s.makers.map mkL).length : Int))
            · have e21 := of_decide_eq_false d21
              rw [List.length_map] at e21
              conv => whnf
              cases d22 : decide ((4 : Int) < ((s.ovens.map i2).length : Int))
              · have e22 := of_decide_eq_false d22
                rw [List.length_map] at e22
                conv => whnf
                cases d23 : decide ((20 : Int) < ((s.jobs.map pairsL).length : Int))
                · have e23 := of_decide_eq_false d23
                  rw [List.length_map] at e23
                  conv => whnf
                  cases d24 : decide ((10 : Int) < ((s.cols.map pairsL).length : Int))
                  · have e24 := of_decide_eq_false d24
                    rw [List.length_map] at e24
                    conv => whnf
                    cases d25 : decide ((20 : Int) < ((s.orders.map ordL).length : Int))
                    · have e25 := of_decide_eq_false d25
                      rw [List.length_map] at e25
                      conv => whnf
                      have hbg : bigF s = false := decide_eq_false (by omega)
                      obtain ⟨G, hG⟩ : ∃ G, greatF s = G := ⟨_, rfl⟩
                      have eG : G = (false || s.makers.any (fun r => decide (20 < r.rates.length)) || s.jobs.any (fun r => decide (20 < r.length)) || s.cols.any (fun r => decide (20 < r.length)) || decide (500 < nameSum s.arts 0)) := by rw [← hG]; unfold greatF; rw [hbg]
                      rw [hG]
                      clear big
                      refine loopB (fun (x : Int × Int) => ⟨mkT [(1, .d (.fptr (cellsS s))), (3, .d (int x.2)), (4, .d (int x.1))], mkB []⟩)
                        (fun x => ∃ k : Nat, x.1 = k ∧ k ≤ s.arts.length ∧ nameSum (s.arts.drop k) x.2 = nameSum s.arts 0) (fun x => (s.arts.length - x.1).toNat) (0, 0) (by kernel_rfl) ⟨0, rfl, by omega, rfl⟩ ?_
                      rintro ⟨_, n⟩ ⟨i, rfl, hi, hb⟩
                      simp only at hb
                      conv => whnf
                      cases q1 : decide ((i : Int) < ((s.arts.map artL).length : Int))
                      · have hi' : i = s.arts.length := by have := of_decide_eq_false q1; rw [List.length_map] at this; omega
                        rw [hi', drop_end] at hb
                        have hns : nameSum s.arts 0 = n := by rw [← hb]; simp [nameSum]
                        clear hb q1
                        conv => whnf
                        obtain ⟨M, hM⟩ : ∃ x, s.makers.any (fun r => decide (20 < r.rates.length)) = x := ⟨_, rfl⟩
                        rw [hM] at eG
                        refine loopB (fun (x : Int) => ⟨mkT [(1, .d (.fptr (cellsS s))), (3, .d (int n)), (5, .d (int x))], mkB []⟩)
                          (fun x => ∃ k : Nat, x = k ∧ k ≤ s.makers.length ∧ (s.makers.drop k).any (fun r => decide (20 < r.rates.length)) = M) (fun x => (s.makers.length - x).toNat) 0 (by kernel_rfl) ⟨0, rfl, by omega, hM⟩ ?_
                        rintro _ ⟨i, rfl, hi, hb⟩
                        conv => whnf
                        cases q1 : decide ((i : Int) < ((s.makers.map mkL).length : Int))
                        · have hi' : i = s.makers.length := by have := of_decide_eq_false q1; rw [List.length_map] at this; omega
                          rw [hi', drop_end] at hb
                          have hb : false = M := hb
                          rw [← hb] at eG
                          conv => whnf
                          obtain ⟨J, hJ⟩ : ∃ x, s.jobs.any (fun r => decide (20 < r.length)) = x := ⟨_, rfl⟩
                          rw [hJ] at eG
                          refine loopB (fun (x : Int) => ⟨mkT [(1, .d (.fptr (cellsS s))), (3, .d (int n)), (6, .d (int x))], mkB []⟩)
                            (fun x => ∃ k : Nat, x = k ∧ k ≤ s.jobs.length ∧ (s.jobs.drop k).any (fun r => decide (20 < r.length)) = J) (fun x => (s.jobs.length - x).toNat) 0 (by kernel_rfl) ⟨0, rfl, by omega, hJ⟩ ?_
                          rintro _ ⟨i, rfl, hi, hb⟩
                          conv => whnf
                          cases q1 : decide ((i : Int) < ((s.jobs.map pairsL).length : Int))
                          · have hi' : i = s.jobs.length := by have := of_decide_eq_false q1; rw [List.length_map] at this; omega
                            rw [hi', drop_end] at hb
                            have hb : false = J := hb
                            rw [← hb] at eG
                            conv => whnf
                            obtain ⟨C, hC⟩ : ∃ x, s.cols.any (fun r => decide (20 < r.length)) = x := ⟨_, rfl⟩
                            rw [hC] at eG
                            refine loopB (fun (x : Int) => ⟨mkT [(1, .d (.fptr (cellsS s))), (3, .d (int n)), (7, .d (int x))], mkB []⟩)
                              (fun x => ∃ k : Nat, x = k ∧ k ≤ s.cols.length ∧ (s.cols.drop k).any (fun r => decide (20 < r.length)) = C) (fun x => (s.cols.length - x).toNat) 0 (by kernel_rfl) ⟨0, rfl, by omega, hC⟩ ?_
                            rintro _ ⟨i, rfl, hi, hb⟩
                            conv => whnf
                            cases q1 : decide ((i : Int) < ((s.cols.map pairsL).length : Int))
                            · have hi' : i = s.cols.length := by have := of_decide_eq_false q1; rw [List.length_map] at this; omega
                              rw [hi', drop_end] at hb
                              have hb : false = C := hb
                              rw [← hb] at eG
                              conv => whnf
                              rw [show (500 : Int) = 500 from rfl] at eG
                              have eG2 : G = decide (500 < n) := by rw [eG, hns]; simp
                              rw [eG2]
                              conv => whnf
                              kernel_rfl
                            · have hi' : i < s.cols.length := by have := of_decide_eq_true q1; rw [List.length_map] at this; omega
                              obtain ⟨r, hx⟩ := get_lt hi'
                              rw [drop_at hx, List.any_cons] at hb
                              conv => whnf
                              refine ⟨by omega, _, gm hx, ?_⟩
                              conv => whnf
                              cases q2 : decide ((20 : Int) < ((r.map i2).length : Int))
                              · have h3 : ¬ 20 < r.length := by have := of_decide_eq_false q2; rw [List.length_map] at this; omega
                                rw [decide_eq_false h3] at hb
                                conv => whnf
                                exact ⟨IntKind.wrap .i64 ((i : Int) + 1), by kernel_rfl, ⟨i + 1, nx (by omega), by omega, hb⟩, by rw [nx (by omega)]; omega⟩
                              · have h3 : 20 < r.length := by have := of_decide_eq_true q2; rw [List.length_map] at this; omega
                                rw [decide_eq_true h3] at hb
                                have hb : true = C := hb
                                rw [← hb] at eG
                                rw [show G = true by rw [eG]; simp]
                                conv => whnf
                                kernel_rfl
                          · have hi' : i < s.jobs.length := by have := of_decide_eq_true q1; rw [List.length_map] at this; omega
                            obtain ⟨r, hx⟩ := get_lt hi'
                            rw [drop_at hx, List.any_cons] at hb
                            conv => whnf
                            refine ⟨by omega, _, gm hx, ?_⟩
                            conv => whnf
                            cases q2 : decide ((20 : Int) < ((r.map i2).length : Int))
                            · have h3 : ¬ 20 < r.length := by have := of_decide_eq_false q2; rw [List.length_map] at this; omega
                              rw [decide_eq_false h3] at hb
                              conv => whnf
                              exact ⟨IntKind.wrap .i64 ((i : Int) + 1), by kernel_rfl, ⟨i + 1, nx (by omega), by omega, hb⟩, by rw [nx (by omega)]; omega⟩
                            · have h3 : 20 < r.length := by have := of_decide_eq_true q2; rw [List.length_map] at this; omega
                              rw [decide_eq_true h3] at hb
                              have hb : true = J := hb
                              rw [← hb] at eG
                              rw [show G = true by rw [eG]; simp]
                              conv => whnf
                              kernel_rfl
                        · have hi' : i < s.makers.length := by have := of_decide_eq_true q1; rw [List.length_map] at this; omega
                          obtain ⟨r, hx⟩ := get_lt hi'
                          rw [drop_at hx, List.any_cons] at hb
                          conv => whnf
                          refine ⟨by omega, _, gm hx, ?_⟩
                          conv => whnf
                          cases q2 : decide ((20 : Int) < ((r.rates.map i1).length : Int))
                          · have h3 : ¬ 20 < r.rates.length := by have := of_decide_eq_false q2; rw [List.length_map] at this; omega
                            rw [decide_eq_false h3] at hb
                            conv => whnf
                            exact ⟨IntKind.wrap .i64 ((i : Int) + 1), by kernel_rfl, ⟨i + 1, nx (by omega), by omega, hb⟩, by rw [nx (by omega)]; omega⟩
                          · have h3 : 20 < r.rates.length := by have := of_decide_eq_true q2; rw [List.length_map] at this; omega
                            rw [decide_eq_true h3] at hb
                            have hb : true = M := hb
                            rw [← hb] at eG
                            rw [show G = true by rw [eG]; simp]
                            conv => whnf
                            kernel_rfl
                      · have hi' : i < s.arts.length := by have := of_decide_eq_true q1; rw [List.length_map] at this; omega
                        obtain ⟨a, hx⟩ := get_lt hi'
                        rw [drop_at hx, nameSum] at hb
                        conv => whnf
                        refine ⟨by omega, _, gm hx, ?_⟩
                        conv => whnf
                        exact ⟨(IntKind.wrap .i64 ((i : Int) + 1), IntKind.wrap .i64 (n + (a.name.size : Int))), by kernel_rfl, ⟨i + 1, nx (by omega), by omega, hb⟩, by simp only; rw [nx (by omega)]; omega⟩
                    · have e25 := of_decide_eq_true d25
                      rw [List.length_map] at e25
                      rw [big (by omega)]
                      conv => whnf
                      kernel_rfl
                  · have e24 := of_decide_eq_true d24
                    rw [List.length_map] at e24
                    rw [big (by omega)]
                    conv => whnf
                    kernel_rfl
                · have e23 := of_decide_eq_true d23
                  rw [List.length_map] at e23
                  rw [big (by omega)]
                  conv => whnf
                  kernel_rfl
              · have e22 := of_decide_eq_true d22
                rw [List.length_map] at e22
                rw [big (by omega)]
                conv => whnf
                kernel_rfl
            · have e21 := of_decide_eq_true d21
              rw [List.length_map] at e21
              rw [big (by omega)]
              conv => whnf
              kernel_rfl
          · have e1500 := of_decide_eq_true d1500
            rw [List.length_map] at e1500
            rw [big (by omega)]
            conv => whnf
            kernel_rfl
      · have e14 := of_decide_eq_true d14
        rw [List.length_map] at e14
        rw [big (by omega)]
        conv => whnf
        kernel_rfl
    · have e100 := of_decide_eq_true d100
      rw [List.length_map] at e100
      rw [big (by omega)]
      conv => whnf
      kernel_rfl
end Go.Proofs.YtbkjfjlmhlmdbaaG

/- What the guards of the statements let in. No condition. -/
set_option linter.unusedVariables false
set_option linter.unusedSimpArgs false
set_option maxRecDepth 100000
set_option maxHeartbeats 4000000
namespace Go.Proofs.YtbkjfjlmhlmdbaaG
open Go Go.AM Go.Proofs

theorem sm_of {s : Season} (h : greatF s = false) : Sm s ∧ (s.makers.length ≤ 3 ∨ 6 < s.makers.length) := by
  simp only [greatF, Bool.or_eq_false_iff, List.any_eq_false, decide_eq_true_eq, decide_eq_false_iff_not] at h
  obtain ⟨⟨⟨⟨h1, h2⟩, h3⟩, h4⟩, h5⟩ := h
  have h1 := of_decide_eq_false h1
  refine ⟨⟨by omega, by omega, by omega, by omega, by omega, by omega, fun m hm => ?_, fun r hr => ?_, fun r hr => ?_⟩, by omega⟩
  · have := h2 m hm; omega
  · have := h3 r hr; omega
  · have := h4 r hr; omega
theorem smp_of_wide {x : Ask} (h : wideF x = false) : SmP x.plan ∧ SmP x.other ∧ x.prices.length ≤ 30 := by
  simp only [wideF, Bool.or_eq_false_iff, decide_eq_false_iff_not] at h
  exact ⟨smp_of h.1.1, smp_of h.1.2, by omega⟩
end Go.Proofs.YtbkjfjlmhlmdbaaG

/- What a furnace's machines make weighs no more than what is pulled. No condition. -/
set_option linter.unusedVariables false
set_option linter.unusedSimpArgs false
set_option maxRecDepth 100000
set_option maxHeartbeats 4000000
namespace Go.Proofs.YtbkjfjlmhlmdbaaG
open Go Go.AM Go.Proofs

theorem madeA_rate {s : Season} (h : Fr s) {lost m b a : Int} (hl : 0 ≤ lost ∧ lost ≤ 1440) (hm : 0 ≤ m ∧ m < s.makers.length) (hb : b < s.arts.length) (h0 : 0 ≤ a) (ha : a < s.arts.length) : madeA s lost m b a ≤ rateF s m a := by
  unfold madeA
  rw [if_neg (by omega)]
  obtain ⟨M, r, _, _, e, h1, h2⟩ := rate_get h hm h0 ha
  have j := jobF_le h hb ⟨h0, ha⟩
  rw [e]
  have hq : max (1440 - (lost + (jobF s b a).1)) 0 ≤ 1440 := by omega
  have hn : 0 ≤ max (1440 - (lost + (jobF s b a).1)) 0 := by omega
  have h3 : r * max (1440 - (lost + (jobF s b a).1)) 0 ≤ r * 1440 := Int.mul_le_mul_of_nonneg_left hq h1
  rw [Int.tdiv_eq_ediv_of_nonneg (Int.mul_nonneg h1 hn)]
  omega

/-- What the machines of a furnace make on a day, in decigrams. -/
def topSum (s : Season) (p : List (List Int)) (o : Int) (d : Nat) : List Mk → Nat → Int
  | [], _ => 0
  | M :: Ms, j => (if M.oven = o ∧ 0 ≤ onA s p (d : Int) (j : Int) then madeD s p o (j : Int) d * wgt s (onA s p (d : Int) (j : Int)) else 0) + topSum s p o d Ms (j + 1)

theorem top_le {s : Season} (h : Fr s) {p : List (List Int)} (po : POk s p) {o : Int} {d : Nat} (hd : (d : Int) < s.days) : ∀ (Ms : List Mk) (j : Nat), j + Ms.length ≤ s.makers.length →
    0 ≤ topSum s p o d Ms j ∧ topSum s p o d Ms j ≤ decF s (mkFrom o Ms j) ((mkFrom o Ms j).map (onA s p (d : Int))) ∧ topSum s p o d Ms j ≤ 100000000000 * Ms.length
  | [], j, _ => by simp [topSum, mkFrom, decF]
  | M :: Ms, j, hj => by
    simp only [List.length_cons] at hj
    have ih := top_le h po (o := o) hd Ms (j + 1) (by omega)
    have hjm : 0 ≤ (j : Int) ∧ (j : Int) < s.makers.length := by omega
    have a1 := onA_art h po hjm (show (d : Int) - 1 < s.days by omega)
    have a2 := onA_art h po hjm hd
    have hmm : ∀ m ∈ makersF s o, 0 ≤ m ∧ m < s.makers.length := fun m hm => makersF_mem hm
    have hml := Nat.le_trans (makersF_len s o) h.nm
    have r1 := onF_row h po hmm (by omega) (show (d : Int) - 1 < s.days by omega)
    have r2 := onF_row h po hmm (by omega) hd
    have ll := lostF_le h r1.arts r2.arts
    unfold topSum mkFrom
    by_cases ho : M.oven = o
    · rw [if_pos ho]
      simp only [List.map_cons, decF, List.length_cons]
      by_cases h0 : 0 ≤ onA s p (d : Int) (j : Int)
      · rw [if_pos ⟨ho, h0⟩, if_pos h0]
        have t1 := term_le h hjm h0 a2.2
        have m0 := madeA_le h ⟨ll.1, ll.2.1⟩ hjm a1.2 a2.2
        have m1 := madeA_rate h ⟨ll.1, ll.2.1⟩ hjm a1.2 h0 a2.2
        obtain ⟨x, hx, _, ew⟩ := art_get h0 a2.2
        have hw := h.art x (List.mem_of_getElem? hx)
        have t2 : madeD s p o (j : Int) d * wgt s (onA s p (d : Int) (j : Int)) ≤ rateF s (j : Int) (onA s p (d : Int) (j : Int)) * wgt s (onA s p (d : Int) (j : Int)) :=
          Int.mul_le_mul_of_nonneg_right m1 (by rw [ew]; omega)
        have t3 : 0 ≤ madeD s p o (j : Int) d * wgt s (onA s p (d : Int) (j : Int)) := Int.mul_nonneg m0.1 (by rw [ew]; omega)
        omega
      · rw [if_neg (fun e => h0 e.2), if_neg h0]; omega
    · rw [if_neg (fun e => ho e.1), if_neg ho]
      simp only [List.length_cons]
      omega
theorem top_lt {s : Season} (h : Fr s) {p : List (List Int)} (po : POk s p) {o : Int} {d : Nat} (hd : (d : Int) < s.days) : 0 ≤ topSum s p o d s.makers 0 ∧ topSum s p o d s.makers 0 < 10000 * (pullD s p o d + 1) := by
  have h1 := top_le h po (o := o) hd s.makers 0 (by omega)
  have hmm : ∀ m ∈ makersF s o, 0 ≤ m ∧ m < s.makers.length := fun m hm => makersF_mem hm
  have hml := Nat.le_trans (makersF_len s o) h.nm
  have r2 := onF_row h po hmm (by omega) hd
  have h2 := decF_le h r2.ms r2.arts
  have e : decF s (mkFrom o s.makers 0) ((mkFrom o s.makers 0).map (onA s p (d : Int))) = decF s (makersF s o) (onF s p (makersF s o) (d : Int)) := rfl
  rw [e] at h1
  unfold pullD pullF
  rw [Int.tdiv_eq_ediv_of_nonneg h2.1]
  omega
end Go.Proofs.YtbkjfjlmhlmdbaaG
