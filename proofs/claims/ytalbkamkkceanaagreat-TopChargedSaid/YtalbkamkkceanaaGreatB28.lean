/- A furnace of one zone, one mode and two streams: it may be, and what it pulls. No condition. -/
import Derived.Test.YtalbkamkkceanaaGreatB23
import Derived.Test.YtalbkamkkceanaaGreatGC
set_option linter.unusedVariables false
set_option linter.unusedSimpArgs false
set_option maxRecDepth 100000
set_option maxHeartbeats 4000000
namespace Go.Proofs.YtalbkamkkceanaaGreatG
open Go Go.AM Go.Proofs

theorem nameF_ok (s : ByteArray) : PureFn Tryz.prog 158 [strD s] (boolD (nameF s)) := by
  refine pureFn_by Tryz.func158 k158 rfl rfl ?_
  unfold nameF
  obtain ⟨A, hA⟩ : ∃ A, ((List.range s.size).all fun i => chOk (byteAt s i)) = A := ⟨_, rfl⟩
  rw [hA]
  conv => whnf
  cases c1 : decide ((s.size : Int) < 1)
  · have h1 : 1 ≤ s.size := by have := of_decide_eq_false c1; omega
    rw [show decide (1 ≤ s.size) = true from decide_eq_true h1]
    conv => whnf
    cases c2 : decide (16 < (s.size : Int))
    · have h2 : s.size ≤ 16 := by have := of_decide_eq_false c2; omega
      rw [show decide (s.size ≤ 16) = true from decide_eq_true h2]
      conv => whnf
      refine ⟨by omega, by omega, ?_⟩
      conv => whnf
      cases c3 : decide (byteAt s 0 < 97)
      · rw [show decide (97 ≤ byteAt s 0) = true from decide_eq_true (by have := of_decide_eq_false c3; omega)]
        conv => whnf
        refine ⟨by omega, by omega, ?_⟩
        conv => whnf
        cases c4 : decide (122 < byteAt s 0)
        · rw [show decide (byteAt s 0 ≤ 122) = true from decide_eq_true (by have := of_decide_eq_false c4; omega)]
          conv => whnf
          refine loopB (fun (i : Int) => ⟨mkT [(0, .d (strD s)), (24, .d (int s.size)), (25, .d (int i))], mkB []⟩)
            (fun i => ∃ k : Nat, i = k ∧ k ≤ s.size ∧ ((List.range s.size).drop k).all (fun i => chOk (byteAt s i)) = A) (fun i => (s.size - i).toNat) 0 (by kernel_rfl) ⟨0, rfl, by omega, hA⟩ ?_
          rintro _ ⟨i, rfl, hi, hb⟩
          conv => whnf
          cases c5 : decide ((i : Int) < (s.size : Int))
          · have hi' : i = s.size := by have := of_decide_eq_false c5; omega
            rw [List.drop_of_length_le (by simp [hi'])] at hb
            rw [← hb]
            conv => whnf
            kernel_rfl
          · have hi' : i < s.size := by have := of_decide_eq_true c5; omega
            have hd := drop_at (show (List.range s.size)[i]? = some i by simp [hi'])
            rw [hd, List.all_cons] at hb
            have fw : ∀ (b : Bool), ((decide (97 ≤ byteAt s i) && decide (byteAt s i ≤ 122)) || (decide (48 ≤ byteAt s i) && decide (byteAt s i ≤ 57)) || decide (byteAt s i = 45)) = b →
                (b = true → ((List.range s.size).drop (i + 1)).all (fun i => chOk (byteAt s i)) = A) ∧ (b = false → A = false) := fun b hc => by
              have hc : chOk (byteAt s i) = b := hc
              rw [hc] at hb
              refine ⟨fun e => ?_, fun e => ?_⟩
              · subst e; exact hb
              · subst e; exact hb.symm
            obtain ⟨B, hB⟩ : ∃ B, ((List.range s.size).drop (i + 1)).all (fun i => chOk (byteAt s i)) = B := ⟨_, rfl⟩
            rw [hB] at fw
            conv => whnf
            refine ⟨by omega, by omega, ?_⟩
            generalize byteAt s (i : Int) = c at fw ⊢
            conv => whnf
            cases a1 : decide (97 ≤ c)
            · conv => whnf
              cases a3 : decide (48 ≤ c)
              · conv => whnf
                cases a5 : decide (c = 45)
                · rw [(fw false (by rw [a1, a3, a5]; rfl)).2 rfl]
                  conv => whnf
                  kernel_rfl
                · conv => whnf
                  exact ⟨IntKind.wrap .i64 ((i : Int) + 1), by kernel_rfl, ⟨i + 1, nx (by omega), by omega, hB.trans ((fw true (by rw [a1, a3, a5]; rfl)).1 rfl)⟩, by rw [nx (by omega)]; omega⟩
              · conv => whnf
                cases a4 : decide (c ≤ 57)
                · conv => whnf
                  cases a5 : decide (c = 45)
                  · rw [(fw false (by rw [a1, a3, a4, a5]; rfl)).2 rfl]
                    conv => whnf
                    kernel_rfl
                  · conv => whnf
                    exact ⟨IntKind.wrap .i64 ((i : Int) + 1), by kernel_rfl, ⟨i + 1, nx (by omega), by omega, hB.trans ((fw true (by rw [a1, a3, a4, a5]; rfl)).1 rfl)⟩, by rw [nx (by omega)]; omega⟩
                · conv => whnf
                  exact ⟨IntKind.wrap .i64 ((i : Int) + 1), by kernel_rfl, ⟨i + 1, nx (by omega), by omega, hB.trans ((fw true (by rw [a1, a3, a4]; rfl)).1 rfl)⟩, by rw [nx (by omega)]; omega⟩
            · conv => whnf
              cases a2 : decide (c ≤ 122)
              · conv => whnf
                cases a3 : decide (48 ≤ c)
                · conv => whnf
                  cases a5 : decide (c = 45)
                  · rw [(fw false (by rw [a1, a2, a3, a5]; rfl)).2 rfl]
                    conv => whnf
                    kernel_rfl
                  · conv => whnf
                    exact ⟨IntKind.wrap .i64 ((i : Int) + 1), by kernel_rfl, ⟨i + 1, nx (by omega), by omega, hB.trans ((fw true (by rw [a1, a2, a3, a5]; rfl)).1 rfl)⟩, by rw [nx (by omega)]; omega⟩
                · conv => whnf
                  cases a4 : decide (c ≤ 57)
                  · conv => whnf
                    cases a5 : decide (c = 45)
                    · rw [(fw false (by rw [a1, a2, a3, a4, a5]; rfl)).2 rfl]
                      conv => whnf
                      kernel_rfl
                    · conv => whnf
                      exact ⟨IntKind.wrap .i64 ((i : Int) + 1), by kernel_rfl, ⟨i + 1, nx (by omega), by omega, hB.trans ((fw true (by rw [a1, a2, a3, a4, a5]; rfl)).1 rfl)⟩, by rw [nx (by omega)]; omega⟩
                  · conv => whnf
                    exact ⟨IntKind.wrap .i64 ((i : Int) + 1), by kernel_rfl, ⟨i + 1, nx (by omega), by omega, hB.trans ((fw true (by rw [a1, a2, a3, a4]; rfl)).1 rfl)⟩, by rw [nx (by omega)]; omega⟩
              · conv => whnf
                exact ⟨IntKind.wrap .i64 ((i : Int) + 1), by kernel_rfl, ⟨i + 1, nx (by omega), by omega, hB.trans ((fw true (by rw [a1, a2]; rfl)).1 rfl)⟩, by rw [nx (by omega)]; omega⟩
        · rw [show decide (byteAt s 0 ≤ 122) = false from decide_eq_false (by have := of_decide_eq_true c4; omega)]
          conv => whnf
          kernel_rfl
      · rw [show decide (97 ≤ byteAt s 0) = false from decide_eq_false (by have := of_decide_eq_true c3; omega)]
        conv => whnf
        kernel_rfl
    · rw [show decide (s.size ≤ 16) = false from decide_eq_false (by have := of_decide_eq_true c2; omega)]
      conv => whnf
      kernel_rfl
  · rw [show decide (1 ≤ s.size) = false from decide_eq_false (by have := of_decide_eq_true c1; omega)]
    conv => whnf
    kernel_rfl
theorem withinF_ok (n lo hi : Int) : PureFn Tryz.prog 89 [int n, int lo, int hi] (boolD (withinF n lo hi)) := by
  unfold withinF
  refine pureFn_by Tryz.func89 k89 rfl rfl ?_
  conv => whnf
  cases h1 : decide (lo ≤ n)
  · rfl
  · rfl
abbrev nmMelt : ByteArray := ⟨#[109, 101, 108, 116]⟩
abbrev nmDay : ByteArray := ⟨#[100, 97, 121]⟩
@[reducible] def strm (p a b : Int) : List D := [int a, int b, rowD [p]]
@[reducible] def cellsF (p : Int) : List D := [.list [[strD nmMelt, int 1000]], .list [[strD nmDay]], .list [strm p (-1) 0, strm p 0 (-1)]]
@[reducible] def furnD (p : Int) : D := .agg (cellsF p)
theorem sum121_ok (p : Int) (hp : 0 ≤ p ∧ p ≤ 1000) (g : FuncId) (caps : List D) (b1 b2 : Bool) (h1 : PureFn Tryz.prog g (.agg (strm p (-1) 0) :: caps) (boolD b1)) (h2 : PureFn Tryz.prog g (.agg (strm p 0 (-1)) :: caps) (boolD b2)) :
    PureFn Tryz.prog 121 [furnD p, int 0, .clo g [] caps] (int ((if b1 = true then p else 0) + (if b2 = true then p else 0))) := by
  refine pureFn_by Tryz.func121 k121 rfl rfl ?_
  obtain ⟨x1, hx1⟩ : ∃ x1, (if b1 = true then p else 0) = x1 := ⟨_, rfl⟩
  obtain ⟨x2, hx2⟩ : ∃ x2, (if b2 = true then p else 0) = x2 := ⟨_, rfl⟩
  rw [hx1, hx2]
  have e1 : 0 ≤ x1 ∧ x1 ≤ 1000 := by rw [← hx1]; split <;> omega
  have e2 : 0 ≤ x2 ∧ x2 ≤ 1000 := by rw [← hx2]; split <;> omega
  conv => whnf
  refine loopB (fun (x : Int × Int) => ⟨mkT [(1, .d (int 0)), (2, .d (.clo g [] caps)), (7, .d (int x.2)), (11, .d (.list [strm p (-1) 0, strm p 0 (-1)])), (12, .d (int 2)), (13, .d (int x.1))], mkB []⟩)
    (fun x => x = (0, 0) ∨ x = (1, x1) ∨ x = (2, x1 + x2)) (fun x => (2 - x.1).toNat) (0, 0) (by kernel_rfl) (.inl rfl) ?_
  rintro x (rfl | rfl | rfl)
  · conv => whnf
    refine ⟨by decide, _, rfl, ?_⟩
    conv => whnf
    refine ⟨_, h1, ?_⟩
    cases b1
    · have hx1 : 0 = x1 := hx1
      subst hx1
      conv => whnf
      exact ⟨(1, 0), by kernel_rfl, .inr (.inl rfl), by decide⟩
    · have hx1 : p = x1 := hx1
      subst hx1
      conv => whnf
      refine ⟨by decide, _, rfl, ?_⟩
      conv => whnf
      exact ⟨(1, IntKind.wrap .i64 (0 + p)), by kernel_rfl, .inr (.inl (by rw [wr_eq (by omega)]; simp)), by simp only; decide⟩
  · conv => whnf
    refine ⟨(by decide : (0 : Int) ≤ 1), _, rfl, ?_⟩
    conv => whnf
    refine ⟨_, h2, ?_⟩
    cases b2
    · have hx2 : 0 = x2 := hx2
      subst hx2
      conv => whnf
      exact ⟨(2, x1), by kernel_rfl, .inr (.inr (by simp)), by simp only; omega⟩
    · have hx2 : p = x2 := hx2
      subst hx2
      conv => whnf
      refine ⟨by decide, _, rfl, ?_⟩
      conv => whnf
      exact ⟨(2, IntKind.wrap .i64 (x1 + p)), by kernel_rfl, .inr (.inr (by rw [wr_eq (by omega)])), by simp only; omega⟩
  · conv => whnf
    kernel_rfl
theorem strTo_ok (p a b z : Int) : PureFn Tryz.prog 122 [.agg (strm p a b), .fptr [int z]] (boolD (decide (b = z))) := by
  refine pureFn_by Tryz.func122 k122 rfl rfl ?_
  conv => whnf
  kernel_rfl
theorem strFrom_ok (p a b z : Int) : PureFn Tryz.prog 162 [.agg (strm p a b), .fptr [int z]] (boolD (decide (a = z))) := by
  refine pureFn_by Tryz.func162 k162 rfl rfl ?_
  conv => whnf
  kernel_rfl
theorem inflow_ok (p : Int) (hp : 0 ≤ p ∧ p ≤ 1000) (z : Int) (hz : z = 0 ∨ z = -1) : PureFn Tryz.prog 90 [furnD p, int 0, int z] (int p) := by
  have h := sum121_ok p hp 122 [.fptr [int z]] _ _ (strTo_ok p (-1) 0 z) (strTo_ok p 0 (-1) z)
  have e : ((if decide ((0 : Int) = z) = true then p else 0) + (if decide ((-1 : Int) = z) = true then p else 0)) = p := by rcases hz with rfl | rfl <;> simp
  rw [e] at h
  refine pureFn_by Tryz.func90 k90 rfl rfl ?_
  conv => whnf
  refine ⟨_, h, ?_⟩
  conv => whnf
  kernel_rfl
theorem outflow_ok (p : Int) (hp : 0 ≤ p ∧ p ≤ 1000) : PureFn Tryz.prog 142 [furnD p, int 0, int 0] (int p) := by
  have h := sum121_ok p hp 162 [.fptr [int 0]] _ _ (strFrom_ok p (-1) 0 0) (strFrom_ok p 0 (-1) 0)
  have e : ((if decide ((-1 : Int) = 0) = true then p else 0) + (if decide ((0 : Int) = 0) = true then p else 0)) = p := by simp
  rw [e] at h
  refine pureFn_by Tryz.func142 k142 rfl rfl ?_
  conv => whnf
  refine ⟨_, h, ?_⟩
  conv => whnf
  kernel_rfl
theorem idxZone_ok (g : D) : PureFn Tryz.prog 167 [.list [], g] (int (-1)) := by
  refine pureFn_by Tryz.func167 k167 rfl rfl ?_
  conv => whnf
  refine loopB (fun (x : Int) => ⟨mkT [(0, .d (.list [])), (1, .d g), (7, .d (int 0)), (8, .d (int x))], mkB []⟩) (fun x => x = 0) (fun x => 0) 0 (by kernel_rfl) rfl ?_
  rintro _ rfl
  conv => whnf
  kernel_rfl
theorem hasZone_ok (g : D) : PureFn Tryz.prog 159 [.list [], g] (boolD false) := by
  refine pureFn_by Tryz.func159 k159 rfl rfl ?_
  conv => whnf
  refine ⟨_, idxZone_ok g, ?_⟩
  conv => whnf
  kernel_rfl
theorem nm1 : nameF nmMelt = true := by kernel_rfl
theorem nm2 : nameF nmDay = true := by kernel_rfl
theorem names_ok (p : Int) : PureFn Tryz.prog 140 [furnD p] (int 0) := by
  have n1 := nameF_ok nmMelt
  rw [nm1] at n1
  have n2 := nameF_ok nmDay
  rw [nm2] at n2
  refine pureFn_by Tryz.func140 k140 rfl rfl ?_
  conv => whnf
  refine loopB (fun (x : Int) => ⟨mkT [(1, .d (.fptr (cellsF p))), (18, .d (.list [[strD nmMelt, int 1000]])), (19, .d (int 1)), (20, .d (int x))], mkB []⟩) (fun x => x = 0 ∨ x = 1) (fun x => (1 - x).toNat) 0 (by kernel_rfl) (.inl rfl) ?_
  rintro x (rfl | rfl)
  · conv => whnf
    refine ⟨by decide, _, rfl, ?_⟩
    conv => whnf
    refine ⟨_, n1, ?_⟩
    conv => whnf
    refine ⟨by decide, by decide, by simp, fun h => absurd h (by decide), ?_⟩
    conv => whnf
    refine ⟨_, hasZone_ok (.clo 160 [] [.fptr [strD nmMelt, int 1000]]), ?_⟩
    refine ⟨rfl, ?_⟩
    conv => whnf
    refine ⟨_, withinF_ok 1000 1 1000000, ?_⟩
    conv => whnf
    exact ⟨1, by kernel_rfl, .inr rfl, by decide⟩
  · conv => whnf
    refine loopB (fun (x : Int) => ⟨mkT [(1, .d (.fptr (cellsF p))), (54, .d (.list [[strD nmDay]])), (55, .d (int 1)), (56, .d (int x))], mkB []⟩) (fun x => x = 0 ∨ x = 1) (fun x => (1 - x).toNat) 0 (by kernel_rfl) (.inl rfl) ?_
    rintro x (rfl | rfl)
    · conv => whnf
      refine ⟨by decide, _, rfl, ?_⟩
      conv => whnf
      refine ⟨_, n2, ?_⟩
      conv => whnf
      refine ⟨by decide, by decide, by simp, fun h => absurd h (by decide), ?_⟩
      conv => whnf
      refine ⟨_, hasS_ok [] nmDay (by decide), ?_⟩
      conv => whnf
      exact ⟨1, by kernel_rfl, .inr rfl, by decide⟩
    · conv => whnf
      kernel_rfl
theorem badRate2_ok (n : Int) : PureFn Tryz.prog 161 [int n] (boolD (!withinF n 0 1000000)) := by
  refine pureFn_by Tryz.func161 k161 rfl rfl ?_
  conv => whnf
  refine ⟨_, withinF_ok n 0 1000000, ?_⟩
  conv => whnf
  kernel_rfl
theorem streams_ok (p : Int) (hp : 0 ≤ p ∧ p ≤ 1000) : PureFn Tryz.prog 141 [furnD p] (int 0) := by
  have an := any1_ok int [p] (fun n => !withinF n 0 1000000) 161 [] (by simp) (fun n _ => badRate2_ok n)
  have e : ([p].any fun n => !withinF n 0 1000000) = false := by simp [withinF]; omega
  rw [e] at an
  refine pureFn_by Tryz.func141 k141 rfl rfl ?_
  conv => whnf
  refine loopB (fun (x : Int) => ⟨mkT [(1, .d (.fptr (cellsF p))), (3, .d (int 0)), (15, .d (.list [strm p (-1) 0, strm p 0 (-1)])), (16, .d (int 2)), (17, .d (int x))], mkB []⟩) (fun x => x = 0 ∨ x = 1 ∨ x = 2) (fun x => (2 - x).toNat) 0 (by kernel_rfl) (.inl rfl) ?_
  rintro x (rfl | rfl | rfl)
  · conv => whnf
    refine ⟨by decide, _, rfl, ?_⟩
    conv => whnf
    refine ⟨_, withinF_ok (-1) (-1) 0, ?_⟩
    conv => whnf
    refine ⟨_, withinF_ok 0 (-1) 0, ?_⟩
    conv => whnf
    refine ⟨_, an, ?_⟩
    conv => whnf
    exact ⟨1, by kernel_rfl, .inr (.inl rfl), by decide⟩
  · conv => whnf
    refine ⟨by decide, _, rfl, ?_⟩
    conv => whnf
    refine ⟨_, withinF_ok 0 (-1) 0, ?_⟩
    conv => whnf
    refine ⟨_, withinF_ok (-1) (-1) 0, ?_⟩
    conv => whnf
    refine ⟨_, an, ?_⟩
    conv => whnf
    exact ⟨2, by kernel_rfl, .inr (.inr rfl), by decide⟩
  · conv => whnf
    kernel_rfl
theorem furnace_ok (p : Int) (hp : 0 ≤ p ∧ p ≤ 1000) : PureFn Tryz.prog 120 [furnD p] (int 0) := by
  have o1 := outflow_ok p hp
  have i1 := inflow_ok p hp 0 (.inl rfl)
  have e1 : decide (p = p) = true := decide_eq_true rfl
  have e2 : decide (1000 < p) = false := decide_eq_false (by omega)
  refine pureFn_by Tryz.func120 k120 rfl rfl ?_
  conv => whnf
  refine ⟨_, names_ok p, ?_⟩
  conv => whnf
  refine ⟨_, streams_ok p hp, ?_⟩
  conv => whnf
  refine loopB (fun (x : Int) => ⟨mkT [(1, .d (.fptr (cellsF p))), (21, .d (int 1)), (22, .d (int x))], mkB []⟩) (fun x => x = 0 ∨ x = 1) (fun x => (1 - x).toNat) 0 (by kernel_rfl) (.inl rfl) ?_
  rintro x (rfl | rfl)
  · conv => whnf
    refine loopB (fun (x : Int) => ⟨mkT [(1, .d (.fptr (cellsF p))), (5, .d (int 0)), (21, .d (int 1)), (22, .d (int 0)), (26, .d (.list [[strD nmMelt, int 1000]])), (27, .d (int 1)), (28, .d (int x))], mkB []⟩) (fun x => x = 0 ∨ x = 1) (fun x => (1 - x).toNat) 0 (by kernel_rfl) (.inl rfl) ?_
    rintro x (rfl | rfl)
    · conv => whnf
      refine ⟨by decide, _, rfl, ?_⟩
      conv => whnf
      refine ⟨_, o1, ?_⟩
      conv => whnf
      refine ⟨_, i1, ?_⟩
      conv => whnf
      rw [e1]
      conv => whnf
      rw [e2]
      conv => whnf
      exact ⟨1, by kernel_rfl, .inr rfl, by decide⟩
    · conv => whnf
      exact ⟨1, by kernel_rfl, .inr rfl, by decide⟩
  · conv => whnf
    kernel_rfl
theorem hasMode_ok (p : Int) (hp : 0 ≤ p ∧ p ≤ 1000) : PureFn Tryz.prog 88 [furnD p, int 0] (int 0) := by
  refine pureFn_by Tryz.func88 k88 rfl rfl ?_
  conv => whnf
  refine ⟨_, furnace_ok p hp, ?_⟩
  conv => whnf
  refine ⟨_, withinF_ok 0 0 0, ?_⟩
  conv => whnf
  kernel_rfl
theorem lasts_ok (p : Int) (hp : 0 ≤ p ∧ p ≤ 1000) : PureFn Tryz.prog 44 [furnD p, int 0, int 1440] (int 0) := by
  refine pureFn_by Tryz.func44 k44 rfl rfl ?_
  conv => whnf
  refine ⟨_, hasMode_ok p hp, ?_⟩
  conv => whnf
  refine ⟨_, withinF_ok 1440 0 2000, ?_⟩
  conv => whnf
  kernel_rfl
theorem fpull_ok (p : Int) (hp : 0 ≤ p ∧ p ≤ 1000) : PureFn Tryz.prog 46 [furnD p, int 0] (int p) := by
  refine pureFn_by Tryz.func46 k46 rfl rfl ?_
  conv => whnf
  refine ⟨_, inflow_ok p hp (-1) (.inr rfl), ?_⟩
  conv => whnf
  kernel_rfl
theorem floor_eq {n d : Int} (hn : n ≤ 0) (hd : 0 < d) : (n.tmod d < 0 → n / d = n.tdiv d - 1) ∧ (¬ n.tmod d < 0 → n / d = n.tdiv d) := by
  obtain ⟨m, rfl⟩ : ∃ m, n = -m := ⟨-n, by omega⟩
  have hm : 0 ≤ m := by omega
  rw [Int.neg_tdiv, Int.neg_tmod, Int.tdiv_eq_ediv_of_nonneg hm, Int.tmod_eq_emod_of_nonneg hm]
  have h1 := Int.emod_add_mul_ediv m d
  have h2 := Int.emod_nonneg m (show d ≠ 0 by omega)
  have h3 := Int.emod_lt_of_pos m hd
  constructor
  · intro h
    refine ((Int.ediv_emod_unique (r := d - m % d) hd).2 ⟨?_, by omega, by omega⟩).1
    rw [Int.mul_sub, Int.mul_neg]; omega
  · intro h
    refine ((Int.ediv_emod_unique (r := 0) hd).2 ⟨?_, by omega, by omega⟩).1
    rw [Int.mul_neg]; omega
theorem down_ok2 (n d : Int) (hn : -9000000000000000000 ≤ n ∧ n ≤ 0) (hd : 1 ≤ d ∧ d ≤ 9000000000000000000) : PureFn Tryz.prog 91 [int n, int d] (int (n / d)) := by
  have fe := floor_eq hn.2 (show 0 < d by omega)
  have b1 : -9000000000000000000 ≤ n / d ∧ n / d ≤ 0 := by
    have h1 : n ≤ n / d := by
      refine Int.le_ediv_of_mul_le (by omega) ?_
      have := Int.mul_le_mul_of_nonneg_left (a := 1) (b := d) (c := -n) (by omega) (by omega)
      rw [Int.neg_mul, Int.neg_mul] at this
      omega
    have h2 : n / d ≤ 0 := by
      have := Int.ediv_lt_of_lt_mul (a := n) (b := 1) (c := d) (by omega) (by omega)
      omega
    omega
  have b2 : n / d ≤ n.tdiv d ∧ n.tdiv d ≤ n / d + 1 := by
    by_cases h : n.tmod d < 0
    · have := fe.1 h; omega
    · have := fe.2 h; omega
  have w1 : IntKind.wrap .i64 (n.tdiv d) = n.tdiv d := wr_eq (by omega)
  refine pureFn_by Tryz.func91 k91 rfl rfl ?_
  conv => whnf
  refine ⟨by omega, ?_⟩
  conv => whnf
  refine ⟨by omega, ?_⟩
  conv => whnf
  cases h : decide (n.tmod d < 0)
  · have := fe.2 (of_decide_eq_false h)
    have e2 : n / d = IntKind.wrap .i64 (n.tdiv d) := by rw [w1]; exact this
    rw [e2]
    conv => whnf
    kernel_rfl
  · have := fe.1 (of_decide_eq_true h)
    have e2 : n / d = IntKind.wrap .i64 (IntKind.wrap .i64 (n.tdiv d) - 1) := by rw [w1, wr_eq (by omega)]; exact this
    rw [e2]
    conv => whnf
    kernel_rfl
theorem up_ok2 (n d : Int) (hn : 0 ≤ n ∧ n ≤ 9000000000000000000) (hd : 1 ≤ d ∧ d ≤ 9000000000000000000) : PureFn Tryz.prog 47 [int n, int d] (int ((n + d - 1) / d)) := by
  have e : (n + d - 1) / d = -(-n / d) := by
    have h1 := Int.emod_add_mul_ediv (-n) d
    have h2 := Int.emod_nonneg (-n) (show d ≠ 0 by omega)
    have h3 := Int.emod_lt_of_pos (-n) (show 0 < d by omega)
    refine ((Int.ediv_emod_unique (r := d - 1 - (-n) % d) (by omega)).2 ⟨?_, by omega, by omega⟩).1
    rw [Int.mul_neg]; omega
  have dn := down_ok2 (-n) d (by omega) hd
  have b1 : -9000000000000000000 ≤ -n / d ∧ -n / d ≤ 0 := by
    have h1 : -n ≤ -n / d := by
      refine Int.le_ediv_of_mul_le (by omega) ?_
      have := Int.mul_le_mul_of_nonneg_left (a := 1) (b := d) (c := n) (by omega) (by omega)
      rw [Int.neg_mul]
      omega
    have h2 : -n / d ≤ 0 := by
      have := Int.ediv_lt_of_lt_mul (a := -n) (b := 1) (c := d) (by omega) (by omega)
      omega
    omega
  rw [e]
  have w0 : IntKind.wrap .i64 (0 - n) = -n := by rw [wr_eq (by omega)]; omega
  rw [← w0] at dn
  refine pureFn_by Tryz.func47 k47 rfl rfl ?_
  conv => whnf
  refine ⟨_, dn, ?_⟩
  have w2 : -(-n / d) = IntKind.wrap .i64 (0 - (IntKind.wrap .i64 (0 - n) / d)) := by rw [w0, wr_eq (by omega)]; omega
  rw [w2]
  conv => whnf
  kernel_rfl
end Go.Proofs.YtalbkamkkceanaaGreatG
