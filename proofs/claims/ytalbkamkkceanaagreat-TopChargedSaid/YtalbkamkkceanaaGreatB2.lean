/- A batch as pure data; searches over its lists; names. No condition. -/
import Derived.Test.YtalbkamkkceanaaGreatB1
set_option linter.unusedVariables false
set_option linter.unusedSimpArgs false
set_option maxRecDepth 100000
set_option maxHeartbeats 4000000
namespace Go.Proofs.YtalbkamkkceanaaGreatG
open Go Go.AM Go.Proofs

structure Pty where
  name : ByteArray
  coefs : List Int
  target : Int × Int
structure Bat where
  oxides : List ByteArray
  mats : List Mat
  shares : List (Int × Int)
  props : List Pty
  redox : Int × Int
  wanted : Int
@[reducible] def matL (m : Mat) : List D := [strD m.name, int m.price, int m.redox, int m.least, int m.most, int m.step, pairsD m.content]
@[reducible] def ptyL (p : Pty) : List D := [strD p.name, rowD p.coefs, int p.target.1, int p.target.2]
@[reducible] def s1 (s : ByteArray) : List D := [strD s]
@[reducible] def cellsB (b : Bat) : List D := [.list (b.oxides.map s1), .list (b.mats.map matL), pairsD b.shares, .list (b.props.map ptyL), int b.redox.1, int b.redox.2, int b.wanted]
@[reducible] def batD (b : Bat) : D := .agg (cellsB b)
/-- A batch's lists are not long. -/
structure Sb (b : Bat) : Prop where
  oxides : b.oxides.length ≤ 20
  mats : b.mats.length ≤ 20
  shares : b.shares.length ≤ 20
  props : b.props.length ≤ 20
  contents : ∀ m ∈ b.mats, m.content.length ≤ 20
  coefs : ∀ p ∈ b.props, p.coefs.length ≤ 20
theorem idxSpan_ok {α : Type} (f1 f2 : α → D) (xs : List α) (p : α → Bool) (g : FuncId) (caps : List D) (hl : xs.length < 1000000000) (hg : ∀ x ∈ xs, PureFn Tryz.prog g (.agg [f1 x, f2 x] :: caps) (boolD (p x))) :
    PureFn Tryz.prog 109 [.list (xs.map fun x => [f1 x, f2 x]), .clo g [] caps] (int (idxF p xs)) := by
  refine pureFn_by Tryz.func109 k109 rfl rfl ?_
  conv => whnf
  refine loopB (fun (i : Int) => ⟨mkT [(0, .d (.list (xs.map fun x => [f1 x, f2 x]))), (1, .d (.clo g [] caps)), (7, .d (int (xs.map fun x => [f1 x, f2 x]).length)), (8, .d (int i))], mkB []⟩)
    (fun i => ∃ k : Nat, i = k ∧ k ≤ xs.length ∧ ∀ j, j < k → ∀ y, xs[j]? = some y → p y = false) (fun i => (xs.length - i).toNat) 0 (by kernel_rfl) ⟨0, rfl, by omega, fun j hj => by omega⟩ ?_
  rintro _ ⟨i, rfl, hi, hb⟩
  conv => whnf
  rw [List.length_map]
  cases c1 : decide ((i : Int) < (xs.length : Int))
  · have hi' : i = xs.length := by have := of_decide_eq_false c1; omega
    subst hi'
    rw [idx_miss hb]
    conv => whnf
    kernel_rfl
  · have hi' : i < xs.length := by have := of_decide_eq_true c1; omega
    obtain ⟨x, hx⟩ := get_lt hi'
    conv => whnf
    refine ⟨by omega, _, (by first | exact gm (by assumption) | exact gz (by assumption)), ?_⟩
    conv => whnf
    refine ⟨_, hg x (List.mem_of_getElem? hx), ?_⟩
    cases c2 : p x
    · conv => whnf
      refine ⟨IntKind.wrap .i64 ((i : Int) + 1), by kernel_rfl, ⟨i + 1, nx (by omega), by omega, fun j hj y hy => ?_⟩, by rw [nx (by omega)]; omega⟩
      by_cases e : j = i
      · subst e; rw [hx] at hy; cases hy; exact c2
      · exact hb j (by omega) y hy
    · conv => whnf
      rw [idx_hit hx c2 hb]
      kernel_rfl
theorem anySpan_ok {α : Type} (f1 f2 : α → D) (xs : List α) (p : α → Bool) (g : FuncId) (caps : List D) (hl : xs.length < 1000000000) (hg : ∀ x ∈ xs, PureFn Tryz.prog g (.agg [f1 x, f2 x] :: caps) (boolD (p x))) :
    PureFn Tryz.prog 62 [.list (xs.map fun x => [f1 x, f2 x]), .clo g [] caps] (boolD (xs.any p)) := by
  rw [← idx_any]
  refine pureFn_by Tryz.func62 k62 rfl rfl ?_
  conv => whnf
  refine ⟨_, idxSpan_ok f1 f2 xs p g caps hl hg, ?_⟩
  conv => whnf
  kernel_rfl
theorem idxMat_ok {α : Type} (f1 f2 f3 f4 f5 f6 f7 : α → D) (xs : List α) (p : α → Bool) (g : FuncId) (caps : List D) (hl : xs.length < 1000000000) (hg : ∀ x ∈ xs, PureFn Tryz.prog g (.agg [f1 x, f2 x, f3 x, f4 x, f5 x, f6 x, f7 x] :: caps) (boolD (p x))) :
    PureFn Tryz.prog 157 [.list (xs.map fun x => [f1 x, f2 x, f3 x, f4 x, f5 x, f6 x, f7 x]), .clo g [] caps] (int (idxF p xs)) := by
  refine pureFn_by Tryz.func157 k157 rfl rfl ?_
  conv => whnf
  refine loopB (fun (i : Int) => ⟨mkT [(0, .d (.list (xs.map fun x => [f1 x, f2 x, f3 x, f4 x, f5 x, f6 x, f7 x]))), (1, .d (.clo g [] caps)), (7, .d (int (xs.map fun x => [f1 x, f2 x, f3 x, f4 x, f5 x, f6 x, f7 x]).length)), (8, .d (int i))], mkB []⟩)
    (fun i => ∃ k : Nat, i = k ∧ k ≤ xs.length ∧ ∀ j, j < k → ∀ y, xs[j]? = some y → p y = false) (fun i => (xs.length - i).toNat) 0 (by kernel_rfl) ⟨0, rfl, by omega, fun j hj => by omega⟩ ?_
  rintro _ ⟨i, rfl, hi, hb⟩
  conv => whnf
  rw [List.length_map]
  cases c1 : decide ((i : Int) < (xs.length : Int))
  · have hi' : i = xs.length := by have := of_decide_eq_false c1; omega
    subst hi'
    rw [idx_miss hb]
    conv => whnf
    kernel_rfl
  · have hi' : i < xs.length := by have := of_decide_eq_true c1; omega
    obtain ⟨x, hx⟩ := get_lt hi'
    conv => whnf
    refine ⟨by omega, _, (by first | exact gm (by assumption) | exact gz (by assumption)), ?_⟩
    conv => whnf
    refine ⟨_, hg x (List.mem_of_getElem? hx), ?_⟩
    cases c2 : p x
    · conv => whnf
      refine ⟨IntKind.wrap .i64 ((i : Int) + 1), by kernel_rfl, ⟨i + 1, nx (by omega), by omega, fun j hj y hy => ?_⟩, by rw [nx (by omega)]; omega⟩
      by_cases e : j = i
      · subst e; rw [hx] at hy; cases hy; exact c2
      · exact hb j (by omega) y hy
    · conv => whnf
      rw [idx_hit hx c2 hb]
      kernel_rfl
theorem anyMat_ok {α : Type} (f1 f2 f3 f4 f5 f6 f7 : α → D) (xs : List α) (p : α → Bool) (g : FuncId) (caps : List D) (hl : xs.length < 1000000000) (hg : ∀ x ∈ xs, PureFn Tryz.prog g (.agg [f1 x, f2 x, f3 x, f4 x, f5 x, f6 x, f7 x] :: caps) (boolD (p x))) :
    PureFn Tryz.prog 136 [.list (xs.map fun x => [f1 x, f2 x, f3 x, f4 x, f5 x, f6 x, f7 x]), .clo g [] caps] (boolD (xs.any p)) := by
  rw [← idx_any]
  refine pureFn_by Tryz.func136 k136 rfl rfl ?_
  conv => whnf
  refine ⟨_, idxMat_ok f1 f2 f3 f4 f5 f6 f7 xs p g caps hl hg, ?_⟩
  conv => whnf
  kernel_rfl
theorem idxPty_ok {α : Type} (f1 f2 f3 f4 : α → D) (xs : List α) (p : α → Bool) (g : FuncId) (caps : List D) (hl : xs.length < 1000000000) (hg : ∀ x ∈ xs, PureFn Tryz.prog g (.agg [f1 x, f2 x, f3 x, f4 x] :: caps) (boolD (p x))) :
    PureFn Tryz.prog 138 [.list (xs.map fun x => [f1 x, f2 x, f3 x, f4 x]), .clo g [] caps] (int (idxF p xs)) := by
  refine pureFn_by Tryz.func138 k138 rfl rfl ?_
  conv => whnf
  refine loopB (fun (i : Int) => ⟨mkT [(0, .d (.list (xs.map fun x => [f1 x, f2 x, f3 x, f4 x]))), (1, .d (.clo g [] caps)), (7, .d (int (xs.map fun x => [f1 x, f2 x, f3 x, f4 x]).length)), (8, .d (int i))], mkB []⟩)
    (fun i => ∃ k : Nat, i = k ∧ k ≤ xs.length ∧ ∀ j, j < k → ∀ y, xs[j]? = some y → p y = false) (fun i => (xs.length - i).toNat) 0 (by kernel_rfl) ⟨0, rfl, by omega, fun j hj => by omega⟩ ?_
  rintro _ ⟨i, rfl, hi, hb⟩
  conv => whnf
  rw [List.length_map]
  cases c1 : decide ((i : Int) < (xs.length : Int))
  · have hi' : i = xs.length := by have := of_decide_eq_false c1; omega
    subst hi'
    rw [idx_miss hb]
    conv => whnf
    kernel_rfl
  · have hi' : i < xs.length := by have := of_decide_eq_true c1; omega
    obtain ⟨x, hx⟩ := get_lt hi'
    conv => whnf
    refine ⟨by omega, _, (by first | exact gm (by assumption) | exact gz (by assumption)), ?_⟩
    conv => whnf
    refine ⟨_, hg x (List.mem_of_getElem? hx), ?_⟩
    cases c2 : p x
    · conv => whnf
      refine ⟨IntKind.wrap .i64 ((i : Int) + 1), by kernel_rfl, ⟨i + 1, nx (by omega), by omega, fun j hj y hy => ?_⟩, by rw [nx (by omega)]; omega⟩
      by_cases e : j = i
      · subst e; rw [hx] at hy; cases hy; exact c2
      · exact hb j (by omega) y hy
    · conv => whnf
      rw [idx_hit hx c2 hb]
      kernel_rfl
theorem anyPty_ok {α : Type} (f1 f2 f3 f4 : α → D) (xs : List α) (p : α → Bool) (g : FuncId) (caps : List D) (hl : xs.length < 1000000000) (hg : ∀ x ∈ xs, PureFn Tryz.prog g (.agg [f1 x, f2 x, f3 x, f4 x] :: caps) (boolD (p x))) :
    PureFn Tryz.prog 110 [.list (xs.map fun x => [f1 x, f2 x, f3 x, f4 x]), .clo g [] caps] (boolD (xs.any p)) := by
  rw [← idx_any]
  refine pureFn_by Tryz.func110 k110 rfl rfl ?_
  conv => whnf
  refine ⟨_, idxPty_ok f1 f2 f3 f4 xs p g caps hl hg, ?_⟩
  conv => whnf
  kernel_rfl
theorem idxLine_ok {α : Type} (f1 f2 : α → D) (xs : List α) (p : α → Bool) (g : FuncId) (caps : List D) (hl : xs.length < 1000000000) (hg : ∀ x ∈ xs, PureFn Tryz.prog g (.agg [f1 x, f2 x] :: caps) (boolD (p x))) :
    PureFn Tryz.prog 118 [.list (xs.map fun x => [f1 x, f2 x]), .clo g [] caps] (int (idxF p xs)) := by
  refine pureFn_by Tryz.func118 k118 rfl rfl ?_
  conv => whnf
  refine loopB (fun (i : Int) => ⟨mkT [(0, .d (.list (xs.map fun x => [f1 x, f2 x]))), (1, .d (.clo g [] caps)), (7, .d (int (xs.map fun x => [f1 x, f2 x]).length)), (8, .d (int i))], mkB []⟩)
    (fun i => ∃ k : Nat, i = k ∧ k ≤ xs.length ∧ ∀ j, j < k → ∀ y, xs[j]? = some y → p y = false) (fun i => (xs.length - i).toNat) 0 (by kernel_rfl) ⟨0, rfl, by omega, fun j hj => by omega⟩ ?_
  rintro _ ⟨i, rfl, hi, hb⟩
  conv => whnf
  rw [List.length_map]
  cases c1 : decide ((i : Int) < (xs.length : Int))
  · have hi' : i = xs.length := by have := of_decide_eq_false c1; omega
    subst hi'
    rw [idx_miss hb]
    conv => whnf
    kernel_rfl
  · have hi' : i < xs.length := by have := of_decide_eq_true c1; omega
    obtain ⟨x, hx⟩ := get_lt hi'
    conv => whnf
    refine ⟨by omega, _, (by first | exact gm (by assumption) | exact gz (by assumption)), ?_⟩
    conv => whnf
    refine ⟨_, hg x (List.mem_of_getElem? hx), ?_⟩
    cases c2 : p x
    · conv => whnf
      refine ⟨IntKind.wrap .i64 ((i : Int) + 1), by kernel_rfl, ⟨i + 1, nx (by omega), by omega, fun j hj y hy => ?_⟩, by rw [nx (by omega)]; omega⟩
      by_cases e : j = i
      · subst e; rw [hx] at hy; cases hy; exact c2
      · exact hb j (by omega) y hy
    · conv => whnf
      rw [idx_hit hx c2 hb]
      kernel_rfl
theorem anyLine_ok {α : Type} (f1 f2 : α → D) (xs : List α) (p : α → Bool) (g : FuncId) (caps : List D) (hl : xs.length < 1000000000) (hg : ∀ x ∈ xs, PureFn Tryz.prog g (.agg [f1 x, f2 x] :: caps) (boolD (p x))) :
    PureFn Tryz.prog 84 [.list (xs.map fun x => [f1 x, f2 x]), .clo g [] caps] (boolD (xs.any p)) := by
  rw [← idx_any]
  refine pureFn_by Tryz.func84 k84 rfl rfl ?_
  conv => whnf
  refine ⟨_, idxLine_ok f1 f2 xs p g caps hl hg, ?_⟩
  conv => whnf
  kernel_rfl
theorem nameB_ok (s : ByteArray) : PureFn Tryz.prog 65 [strD s] (boolD (nameF s)) := by
  refine pureFn_by Tryz.func65 k65 rfl rfl ?_
  unfold nameF
  obtain ⟨A, hA⟩ : ∃ A, ((List.range s.size).all fun i => chOk (byteAt s i)) = A := ⟨_, rfl⟩
  rw [hA]
  conv => whnf
  cases c1 : decide ((s.size : Int) < 1)
  · have h1 : 1 ≤ s.size := by have := of_decide_eq_false c1; omega
    rw [show decide (1 ≤ s.size) = true from decide_eq_true h1]
    conv => whnf
    cases c2 : decide (16 < (s.size : Int))
    · have h2 : s.size ≤ 16 := by have := of_decide_eq_false c2; omega
      rw [show decide (s.size ≤ 16) = true from decide_eq_true h2]
      conv => whnf
      refine ⟨by omega, by omega, ?_⟩
      conv => whnf
      cases c3 : decide (byteAt s 0 < 97)
      · rw [show decide (97 ≤ byteAt s 0) = true from decide_eq_true (by have := of_decide_eq_false c3; omega)]
        conv => whnf
        refine ⟨by omega, by omega, ?_⟩
        conv => whnf
        cases c4 : decide (122 < byteAt s 0)
        · rw [show decide (byteAt s 0 ≤ 122) = true from decide_eq_true (by have := of_decide_eq_false c4; omega)]
          conv => whnf
          refine loopB (fun (i : Int) => ⟨mkT [(0, .d (strD s)), (24, .d (int s.size)), (25, .d (int i))], mkB []⟩)
            (fun i => ∃ k : Nat, i = k ∧ k ≤ s.size ∧ ((List.range s.size).drop k).all (fun i => chOk (byteAt s i)) = A) (fun i => (s.size - i).toNat) 0 (by kernel_rfl) ⟨0, rfl, by omega, hA⟩ ?_
          rintro _ ⟨i, rfl, hi, hb⟩
          conv => whnf
          cases c5 : decide ((i : Int) < (s.size : Int))
          · have hi' : i = s.size := by have := of_decide_eq_false c5; omega
            rw [List.drop_of_length_le (by simp [hi'])] at hb
            rw [← hb]
            conv => whnf
            kernel_rfl
          · have hi' : i < s.size := by have := of_decide_eq_true c5; omega
            have hd := drop_at (show (List.range s.size)[i]? = some i by simp [hi'])
            rw [hd, List.all_cons] at hb
            have fw : ∀ (b : Bool), ((decide (97 ≤ byteAt s i) && decide (byteAt s i ≤ 122)) || (decide (48 ≤ byteAt s i) && decide (byteAt s i ≤ 57)) || decide (byteAt s i = 45)) = b →
                (b = true → ((List.range s.size).drop (i + 1)).all (fun i => chOk (byteAt s i)) = A) ∧ (b = false → A = false) := fun b hc => by
              have hc : chOk (byteAt s i) = b := hc
              rw [hc] at hb
              refine ⟨fun e => ?_, fun e => ?_⟩
              · subst e; exact hb
              · subst e; exact hb.symm
            obtain ⟨B, hB⟩ : ∃ B, ((List.range s.size).drop (i + 1)).all (fun i => chOk (byteAt s i)) = B := ⟨_, rfl⟩
            rw [hB] at fw
            conv => whnf
            refine ⟨by omega, by omega, ?_⟩
            generalize byteAt s (i : Int) = c at fw ⊢
            conv => whnf
            cases a1 : decide (97 ≤ c)
            · conv => whnf
              cases a3 : decide (48 ≤ c)
              · conv => whnf
                cases a5 : decide (c = 45)
                · rw [(fw false (by rw [a1, a3, a5]; rfl)).2 rfl]
                  conv => whnf
                  kernel_rfl
                · conv => whnf
                  exact ⟨IntKind.wrap .i64 ((i : Int) + 1), by kernel_rfl, ⟨i + 1, nx (by omega), by omega, hB.trans ((fw true (by rw [a1, a3, a5]; rfl)).1 rfl)⟩, by rw [nx (by omega)]; omega⟩
              · conv => whnf
                cases a4 : decide (c ≤ 57)
                · conv => whnf
                  cases a5 : decide (c = 45)
                  · rw [(fw false (by rw [a1, a3, a4, a5]; rfl)).2 rfl]
                    conv => whnf
                    kernel_rfl
                  · conv => whnf
                    exact ⟨IntKind.wrap .i64 ((i : Int) + 1), by kernel_rfl, ⟨i + 1, nx (by omega), by omega, hB.trans ((fw true (by rw [a1, a3, a4, a5]; rfl)).1 rfl)⟩, by rw [nx (by omega)]; omega⟩
                · conv => whnf
                  exact ⟨IntKind.wrap .i64 ((i : Int) + 1), by kernel_rfl, ⟨i + 1, nx (by omega), by omega, hB.trans ((fw true (by rw [a1, a3, a4]; rfl)).1 rfl)⟩, by rw [nx (by omega)]; omega⟩
            · conv => whnf
              cases a2 : decide (c ≤ 122)
              · conv => whnf
                cases a3 : decide (48 ≤ c)
                · conv => whnf
                  cases a5 : decide (c = 45)
                  · rw [(fw false (by rw [a1, a2, a3, a5]; rfl)).2 rfl]
                    conv => whnf
                    kernel_rfl
                  · conv => whnf
                    exact ⟨IntKind.wrap .i64 ((i : Int) + 1), by kernel_rfl, ⟨i + 1, nx (by omega), by omega, hB.trans ((fw true (by rw [a1, a2, a3, a5]; rfl)).1 rfl)⟩, by rw [nx (by omega)]; omega⟩
                · conv => whnf
                  cases a4 : decide (c ≤ 57)
                  · conv => whnf
                    cases a5 : decide (c = 45)
                    · rw [(fw false (by rw [a1, a2, a3, a4, a5]; rfl)).2 rfl]
                      conv => whnf
                      kernel_rfl
                    · conv => whnf
                      exact ⟨IntKind.wrap .i64 ((i : Int) + 1), by kernel_rfl, ⟨i + 1, nx (by omega), by omega, hB.trans ((fw true (by rw [a1, a2, a3, a4, a5]; rfl)).1 rfl)⟩, by rw [nx (by omega)]; omega⟩
                  · conv => whnf
                    exact ⟨IntKind.wrap .i64 ((i : Int) + 1), by kernel_rfl, ⟨i + 1, nx (by omega), by omega, hB.trans ((fw true (by rw [a1, a2, a3, a4]; rfl)).1 rfl)⟩, by rw [nx (by omega)]; omega⟩
              · conv => whnf
                exact ⟨IntKind.wrap .i64 ((i : Int) + 1), by kernel_rfl, ⟨i + 1, nx (by omega), by omega, hB.trans ((fw true (by rw [a1, a2]; rfl)).1 rfl)⟩, by rw [nx (by omega)]; omega⟩
        · rw [show decide (byteAt s 0 ≤ 122) = false from decide_eq_false (by have := of_decide_eq_true c4; omega)]
          conv => whnf
          kernel_rfl
      · rw [show decide (97 ≤ byteAt s 0) = false from decide_eq_false (by have := of_decide_eq_true c3; omega)]
        conv => whnf
        kernel_rfl
    · rw [show decide (s.size ≤ 16) = false from decide_eq_false (by have := of_decide_eq_true c2; omega)]
      conv => whnf
      kernel_rfl
  · rw [show decide (1 ≤ s.size) = false from decide_eq_false (by have := of_decide_eq_true c1; omega)]
    conv => whnf
    kernel_rfl
theorem withinB_ok (n lo hi : Int) : PureFn Tryz.prog 69 [int n, int lo, int hi] (boolD (withinF n lo hi)) := by
  unfold withinF
  refine pureFn_by Tryz.func69 k69 rfl rfl ?_
  conv => whnf
  cases h1 : decide (lo ≤ n)
  · rfl
  · rfl
def spanF (s : Int × Int) (lo hi : Int) : Bool := decide (lo ≤ s.1) && decide (s.1 ≤ s.2) && decide (s.2 ≤ hi)
theorem span_ok (s : Int × Int) (lo hi : Int) : PureFn Tryz.prog 64 [.agg (i2 s), int lo, int hi] (boolD (spanF s lo hi)) := by
  unfold spanF
  refine pureFn_by Tryz.func64 k64 rfl rfl ?_
  conv => whnf
  cases h1 : decide (lo ≤ s.1)
  · rfl
  · conv => whnf
    cases h2 : decide (s.1 ≤ s.2)
    · rfl
    · rfl
theorem span_ok' (s : Int × Int) (lo hi : Int) : PureFn Tryz.prog 51 [.agg (i2 s), int lo, int hi] (boolD (spanF s lo hi)) := by
  unfold spanF
  refine pureFn_by Tryz.func51 k51 rfl rfl ?_
  conv => whnf
  cases h1 : decide (lo ≤ s.1)
  · rfl
  · conv => whnf
    cases h2 : decide (s.1 ≤ s.2)
    · rfl
    · rfl
theorem spanF_iff {s : Int × Int} {lo hi : Int} : spanF s lo hi = true ↔ lo ≤ s.1 ∧ s.1 ≤ s.2 ∧ s.2 ≤ hi := by simp [spanF, and_assoc]
theorem badShare_ok (s : Int × Int) : PureFn Tryz.prog 63 [.agg [int s.1, int s.2]] (boolD (!spanF s 0 1000)) := by
  refine pureFn_by Tryz.func63 k63 rfl rfl ?_
  conv => whnf
  refine ⟨_, span_ok s 0 1000, ?_⟩
  cases spanF s 0 1000 <;> rfl
def coefOk (n : Int) : Bool := withinF n (-10000) 10000
theorem badCoef_ok (n : Int) : PureFn Tryz.prog 113 [int n] (boolD (!coefOk n)) := by
  unfold coefOk
  refine pureFn_by Tryz.func113 k113 rfl rfl ?_
  conv => whnf
  refine ⟨_, withinB_ok n (-10000) 10000, ?_⟩
  cases withinF n (-10000) 10000 <;> rfl
theorem matName_ok (m : Mat) : PureFn Tryz.prog 107 [.agg (matL m)] (strD m.name) := by
  refine pureFn_by Tryz.func107 k107 rfl rfl ?_
  conv => whnf
  kernel_rfl
theorem ptyName_ok (p : Pty) : PureFn Tryz.prog 67 [.agg (ptyL p)] (strD p.name) := by
  refine pureFn_by Tryz.func67 k67 rfl rfl ?_
  conv => whnf
  kernel_rfl

theorem twiceMat1_ok (l : List Mat) (i : Nat) (m x : Mat) (hm : l[i]? = some m) : PureFn Tryz.prog 137 [.agg (matL x), .fptr [.clo 107 [] []], .fptr [.list (l.map matL)], .fptr [int (i : Int)]] (boolD (x.name.toList == m.name.toList)) := by
  refine pureFn_by Tryz.func137 k137 rfl rfl ?_
  conv => whnf
  refine ⟨_, matName_ok x, ?_⟩
  conv => whnf
  refine ⟨by omega, _, (by first | exact gm (by assumption) | exact gz (by assumption)), ?_⟩
  conv => whnf
  refine ⟨_, matName_ok m, ?_⟩
  conv => whnf
  kernel_rfl
theorem twiceMat_ok (l : List Mat) (hl : l.length ≤ 1000000) (i : Nat) (m : Mat) (hm : l[i]? = some m) : PureFn Tryz.prog 106 [.list (l.map matL), int (i : Int), .clo 107 [] []] (boolD ((l.take i).any fun x => x.name.toList == m.name.toList)) := by
  have hi := (List.getElem?_eq_some_iff.1 hm).1
  have key := anyMat_ok (fun m : Mat => strD m.name) (fun m => int m.price) (fun m => int m.redox) (fun m => int m.least) (fun m => int m.most) (fun m => int m.step) (fun m => pairsD m.content) (l.take i) (fun x => x.name.toList == m.name.toList) 137
    [.fptr [.clo 107 [] []], .fptr [.list (l.map matL)], .fptr [int (i : Int)]] (by simp; omega) (fun x _ => twiceMat1_ok l i m x hm)
  have ek : (l.take i).map matL = ((l.map matL).drop (0 : Int).toNat).take ((i : Int).toNat - (0 : Int).toNat) := by simp [List.map_take]
  have key : PureFn Tryz.prog 136 [.list (((l.map matL).drop (0 : Int).toNat).take ((i : Int).toNat - (0 : Int).toNat)), .clo 137 [] [.fptr [.clo 107 [] []], .fptr [.list (l.map matL)], .fptr [int (i : Int)]]] (boolD ((l.take i).any fun x => x.name.toList == m.name.toList)) := by rw [← ek]; exact key
  refine pureFn_by Tryz.func106 k106 rfl rfl ?_
  conv => whnf
  refine ⟨by omega, by omega, by rw [List.length_map]; omega, fun _ => ?_, ?_⟩
  · obtain ⟨m0, h0⟩ := get_lt (show 0 < l.length by omega)
    show ((l.map matL).getD 0 []).length = 7
    simp [List.getD, h0]
  conv => whnf
  refine ⟨_, key, ?_⟩
  conv => whnf
  kernel_rfl
theorem twicePty1_ok (l : List Pty) (i : Nat) (m x : Pty) (hm : l[i]? = some m) : PureFn Tryz.prog 111 [.agg (ptyL x), .fptr [.clo 67 [] []], .fptr [.list (l.map ptyL)], .fptr [int (i : Int)]] (boolD (x.name.toList == m.name.toList)) := by
  refine pureFn_by Tryz.func111 k111 rfl rfl ?_
  conv => whnf
  refine ⟨_, ptyName_ok x, ?_⟩
  conv => whnf
  refine ⟨by omega, _, (by first | exact gm (by assumption) | exact gz (by assumption)), ?_⟩
  conv => whnf
  refine ⟨_, ptyName_ok m, ?_⟩
  conv => whnf
  kernel_rfl
theorem twicePty_ok (l : List Pty) (hl : l.length ≤ 1000000) (i : Nat) (m : Pty) (hm : l[i]? = some m) : PureFn Tryz.prog 66 [.list (l.map ptyL), int (i : Int), .clo 67 [] []] (boolD ((l.take i).any fun x => x.name.toList == m.name.toList)) := by
  have hi := (List.getElem?_eq_some_iff.1 hm).1
  have key := anyPty_ok (fun p : Pty => strD p.name) (fun p => rowD p.coefs) (fun p => int p.target.1) (fun p => int p.target.2) (l.take i) (fun x => x.name.toList == m.name.toList) 111
    [.fptr [.clo 67 [] []], .fptr [.list (l.map ptyL)], .fptr [int (i : Int)]] (by simp; omega) (fun x _ => twicePty1_ok l i m x hm)
  have ek : (l.take i).map ptyL = ((l.map ptyL).drop (0 : Int).toNat).take ((i : Int).toNat - (0 : Int).toNat) := by simp [List.map_take]
  have key : PureFn Tryz.prog 110 [.list (((l.map ptyL).drop (0 : Int).toNat).take ((i : Int).toNat - (0 : Int).toNat)), .clo 111 [] [.fptr [.clo 67 [] []], .fptr [.list (l.map ptyL)], .fptr [int (i : Int)]]] (boolD ((l.take i).any fun x => x.name.toList == m.name.toList)) := by rw [← ek]; exact key
  refine pureFn_by Tryz.func66 k66 rfl rfl ?_
  conv => whnf
  refine ⟨by omega, by omega, by rw [List.length_map]; omega, fun _ => ?_, ?_⟩
  · obtain ⟨m0, h0⟩ := get_lt (show 0 < l.length by omega)
    show ((l.map ptyL).getD 0 []).length = 4
    simp [List.getD, h0]
  conv => whnf
  refine ⟨_, key, ?_⟩
  conv => whnf
  kernel_rfl
end Go.Proofs.YtalbkamkkceanaaGreatG
