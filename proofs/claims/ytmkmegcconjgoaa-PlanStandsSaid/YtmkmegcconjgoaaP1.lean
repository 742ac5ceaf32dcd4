/- A season as pure data, and the lists' searches. No condition. -/
import Derived.Test.YtmkmegcconjgoaaG6
import Derived.IntWalk
set_option linter.unusedVariables false
set_option linter.unusedSimpArgs false
set_option maxRecDepth 100000
set_option maxHeartbeats 4000000
namespace Go.Proofs.YtmkmegcconjgoaaG
open Go Go.AM Go.Proofs

@[reducible] def int (n : Int) : D := .v (.int .i64 n)
@[reducible] def boolD (b : Bool) : D := .v (.bool b)
@[reducible] def strD (s : ByteArray) : D := .v (.string s)
@[reducible] def wr (n : Int) : Int := IntKind.wrap .i64 n
def I64 (n : Int) : Prop := -9223372036854775808 ≤ n ∧ n ≤ 9223372036854775807
theorem wr_in {n : Int} (h : I64 n) : wr n = n := IntWalk.i64_in n h
theorem wr_eq {n : Int} (h : -9000000000000000000 ≤ n ∧ n ≤ 9000000000000000000) : IntKind.wrap .i64 n = n := IntWalk.i64_in n (by omega)
theorem nx {i : Nat} (h : i < 1000000000000) : IntKind.wrap .i64 ((i : Int) + 1) = ((i + 1 : Nat) : Int) := by
  rw [wr_eq (by omega)]; omega
theorem gm {α β : Type} {f : α → β} {xs : List α} {i : Nat} {x : α} (h : xs[i]? = some x) : (xs.map f)[((i : Nat) : Int).toNat]? = some (f x) := by
  rw [Int.toNat_natCast]; simp [h]
theorem gz {α β : Type} {f : α → β} {xs : List α} {n : Int} {x : α} (h : xs[n.toNat]? = some x) : (xs.map f)[n.toNat]? = some (f x) := by simp [h]
theorem get_lt {α : Type} {xs : List α} {i : Nat} (h : i < xs.length) : ∃ x, xs[i]? = some x := ⟨xs[i], by simp [h]⟩
theorem dself (n : Int) : decide (n = n) = true := decide_eq_true rfl

structure Art where
  name : ByteArray
  colour : Int
  weight : Int
structure Mk where
  oven : Int
  rates : List Int
  idle : Int
  start : Int
structure Ord where
  article : Int
  quantity : Int
  due : Int
  penalty : Int
structure Season where
  days : Int
  arts : List Art
  ovens : List (Int × Int)
  makers : List Mk
  jobs : List (List (Int × Int))
  cols : List (List (Int × Int))
  orders : List Ord

@[reducible] def i1 (n : Int) : List D := [int n]
@[reducible] def rowD (r : List Int) : D := .list (r.map i1)
@[reducible] def rowL (r : List Int) : List D := [rowD r]
@[reducible] def planD (p : List (List Int)) : D := .list (p.map rowL)
@[reducible] def i2 (t : Int × Int) : List D := [int t.1, int t.2]
@[reducible] def pairsD (l : List (Int × Int)) : D := .list (l.map i2)
@[reducible] def pairsL (l : List (Int × Int)) : List D := [pairsD l]
@[reducible] def turnsD (l : List (List (Int × Int))) : D := .list (l.map pairsL)
@[reducible] def artL (a : Art) : List D := [strD a.name, int a.colour, int a.weight]
@[reducible] def mkL (m : Mk) : List D := [int m.oven, rowD m.rates, int m.idle, int m.start]
@[reducible] def ordL (o : Ord) : List D := [int o.article, int o.quantity, int o.due, int o.penalty]
@[reducible] def cellsS (s : Season) : List D := [int s.days, .list (s.arts.map artL), pairsD s.ovens, .list (s.makers.map mkL), turnsD s.jobs, turnsD s.cols, .list (s.orders.map ordL)]
@[reducible] def seasonD (s : Season) : D := .agg (cellsS s)

/-- A season's lists are not long. -/
structure Sm (s : Season) : Prop where
  arts : s.arts.length ≤ 12
  ovens : s.ovens.length ≤ 4
  makers : s.makers.length ≤ 10
  jobs : s.jobs.length ≤ 20
  cols : s.cols.length ≤ 10
  orders : s.orders.length ≤ 20
  rates : ∀ m ∈ s.makers, m.rates.length ≤ 20
  jobRows : ∀ r ∈ s.jobs, r.length ≤ 20
  colRows : ∀ r ∈ s.cols, r.length ≤ 20

def withinF (n lo hi : Int) : Bool := decide (lo ≤ n) && decide (n ≤ hi)
theorem within_ok (n lo hi : Int) : PureFn Try.prog 39 [int n, int lo, int hi] (boolD (withinF n lo hi)) := by
  unfold withinF
  refine pureFn_by Try.func39 k39 rfl rfl ?_
  conv => whnf
  cases h1 : decide (lo ≤ n)
  · rfl
  · rfl
theorem within_ok' (n lo hi : Int) : PureFn Try.prog 41 [int n, int lo, int hi] (boolD (withinF n lo hi)) := by
  unfold withinF
  refine pureFn_by Try.func41 k41 rfl rfl ?_
  conv => whnf
  cases h1 : decide (lo ≤ n)
  · rfl
  · rfl
theorem within_iff {n lo hi : Int} : withinF n lo hi = true ↔ lo ≤ n ∧ n ≤ hi := by simp [withinF]

/-- The place of the first one that is so; -1: there is none. -/
def idxF {α : Type} (p : α → Bool) (xs : List α) : Int := match xs.findIdx? p with | some i => i | none => -1
theorem idx_hit {α : Type} {p : α → Bool} {xs : List α} {i : Nat} {x : α} (hx : xs[i]? = some x) (hp : p x = true) (hb : ∀ j, j < i → ∀ y, xs[j]? = some y → p y = false) : idxF p xs = i := by
  obtain ⟨hi, rfl⟩ := List.getElem?_eq_some_iff.1 hx
  have : xs.findIdx? p = some i := by
    rw [List.findIdx?_eq_some_iff_getElem]
    exact ⟨hi, hp, fun j hj => by have := hb j hj (xs[j]'(by omega)) (by simp [show j < xs.length by omega]); simp [this]⟩
  simp [idxF, this]
theorem idx_miss {α : Type} {p : α → Bool} {xs : List α} (hb : ∀ j, j < xs.length → ∀ y, xs[j]? = some y → p y = false) : idxF p xs = -1 := by
  have : xs.findIdx? p = none := by
    rw [List.findIdx?_eq_none_iff]
    intro x hx
    obtain ⟨j, hj, rfl⟩ := List.mem_iff_getElem.1 hx
    exact hb j hj _ (by simp [hj])
  simp [idxF, this]
theorem idx_any {α : Type} (p : α → Bool) (xs : List α) : decide (0 ≤ idxF p xs) = xs.any p := by
  unfold idxF
  cases h : xs.findIdx? p with
  | none =>
    have := List.findIdx?_eq_none_iff.1 h
    have h2 : xs.any p = false := by rw [List.any_eq_false]; intro x hx; simp [this x hx]
    rw [h2]; rfl
  | some i =>
    obtain ⟨hi, hp, _⟩ := List.findIdx?_eq_some_iff_getElem.1 h
    have h2 : xs.any p = true := by rw [List.any_eq_true]; exact ⟨_, List.getElem_mem hi, hp⟩
    rw [h2]; simp

theorem idx1_ok {α : Type} (f1 : α → D) (xs : List α) (p : α → Bool) (g : FuncId) (caps : List D) (hl : xs.length < 1000000000) (hg : ∀ x ∈ xs, PureFn Try.prog g (f1 x :: caps) (boolD (p x))) :
    PureFn Try.prog 100 [.list (xs.map fun x => [f1 x]), .clo g [] caps] (int (idxF p xs)) := by
  refine pureFn_by Try.func100 k100 rfl rfl ?_
  conv => whnf
  refine loopB (fun (i : Int) => ⟨mkT [(0, .d (.list (xs.map fun x => [f1 x]))), (1, .d (.clo g [] caps)), (7, .d (int (xs.map fun x => [f1 x]).length)), (8, .d (int i))], mkB []⟩)
    (fun i => ∃ k : Nat, i = k ∧ k ≤ xs.length ∧ ∀ j, j < k → ∀ y, xs[j]? = some y → p y = false) (fun i => (xs.length - i).toNat) 0 (by kernel_rfl) ⟨0, rfl, by omega, fun j hj => by omega⟩ ?_
  rintro _ ⟨i, rfl, hi, hb⟩
  conv => whnf
  rw [List.length_map]
  cases c1 : decide ((i : Int) < (xs.length : Int))
  · have hi' : i = xs.length := by have := of_decide_eq_false c1; omega
    subst hi'
    rw [idx_miss hb]
    conv => whnf
    kernel_rfl
  · have hi' : i < xs.length := by have := of_decide_eq_true c1; omega
    obtain ⟨x, hx⟩ := get_lt hi'
    conv => whnf
    refine ⟨by omega, _, gm hx, ?_⟩
    conv => whnf
    refine ⟨_, hg x (List.mem_of_getElem? hx), ?_⟩
    cases c2 : p x
    · conv => whnf
      refine ⟨IntKind.wrap .i64 ((i : Int) + 1), by kernel_rfl, ⟨i + 1, nx (by omega), by omega, fun j hj y hy => ?_⟩, by rw [nx (by omega)]; omega⟩
      by_cases e : j = i
      · subst e; rw [hx] at hy; cases hy; exact c2
      · exact hb j (by omega) y hy
    · conv => whnf
      rw [idx_hit hx c2 hb]
      kernel_rfl
theorem idx2_ok {α : Type} (f1 f2 : α → D) (xs : List α) (p : α → Bool) (g : FuncId) (caps : List D) (hl : xs.length < 1000000000) (hg : ∀ x ∈ xs, PureFn Try.prog g (.agg [f1 x, f2 x] :: caps) (boolD (p x))) :
    PureFn Try.prog 104 [.list (xs.map fun x => [f1 x, f2 x]), .clo g [] caps] (int (idxF p xs)) := by
  refine pureFn_by Try.func104 k104 rfl rfl ?_
  conv => whnf
  refine loopB (fun (i : Int) => ⟨mkT [(0, .d (.list (xs.map fun x => [f1 x, f2 x]))), (1, .d (.clo g [] caps)), (7, .d (int (xs.map fun x => [f1 x, f2 x]).length)), (8, .d (int i))], mkB []⟩)
    (fun i => ∃ k : Nat, i = k ∧ k ≤ xs.length ∧ ∀ j, j < k → ∀ y, xs[j]? = some y → p y = false) (fun i => (xs.length - i).toNat) 0 (by kernel_rfl) ⟨0, rfl, by omega, fun j hj => by omega⟩ ?_
  rintro _ ⟨i, rfl, hi, hb⟩
  conv => whnf
  rw [List.length_map]
  cases c1 : decide ((i : Int) < (xs.length : Int))
  · have hi' : i = xs.length := by have := of_decide_eq_false c1; omega
    subst hi'
    rw [idx_miss hb]
    conv => whnf
    kernel_rfl
  · have hi' : i < xs.length := by have := of_decide_eq_true c1; omega
    obtain ⟨x, hx⟩ := get_lt hi'
    conv => whnf
    refine ⟨by omega, _, gm hx, ?_⟩
    conv => whnf
    refine ⟨_, hg x (List.mem_of_getElem? hx), ?_⟩
    cases c2 : p x
    · conv => whnf
      refine ⟨IntKind.wrap .i64 ((i : Int) + 1), by kernel_rfl, ⟨i + 1, nx (by omega), by omega, fun j hj y hy => ?_⟩, by rw [nx (by omega)]; omega⟩
      by_cases e : j = i
      · subst e; rw [hx] at hy; cases hy; exact c2
      · exact hb j (by omega) y hy
    · conv => whnf
      rw [idx_hit hx c2 hb]
      kernel_rfl
theorem idx3_ok {α : Type} (f1 f2 f3 : α → D) (xs : List α) (p : α → Bool) (g : FuncId) (caps : List D) (hl : xs.length < 1000000000) (hg : ∀ x ∈ xs, PureFn Try.prog g (.agg [f1 x, f2 x, f3 x] :: caps) (boolD (p x))) :
    PureFn Try.prog 102 [.list (xs.map fun x => [f1 x, f2 x, f3 x]), .clo g [] caps] (int (idxF p xs)) := by
  refine pureFn_by Try.func102 k102 rfl rfl ?_
  conv => whnf
  refine loopB (fun (i : Int) => ⟨mkT [(0, .d (.list (xs.map fun x => [f1 x, f2 x, f3 x]))), (1, .d (.clo g [] caps)), (7, .d (int (xs.map fun x => [f1 x, f2 x, f3 x]).length)), (8, .d (int i))], mkB []⟩)
    (fun i => ∃ k : Nat, i = k ∧ k ≤ xs.length ∧ ∀ j, j < k → ∀ y, xs[j]? = some y → p y = false) (fun i => (xs.length - i).toNat) 0 (by kernel_rfl) ⟨0, rfl, by omega, fun j hj => by omega⟩ ?_
  rintro _ ⟨i, rfl, hi, hb⟩
  conv => whnf
  rw [List.length_map]
  cases c1 : decide ((i : Int) < (xs.length : Int))
  · have hi' : i = xs.length := by have := of_decide_eq_false c1; omega
    subst hi'
    rw [idx_miss hb]
    conv => whnf
    kernel_rfl
  · have hi' : i < xs.length := by have := of_decide_eq_true c1; omega
    obtain ⟨x, hx⟩ := get_lt hi'
    conv => whnf
    refine ⟨by omega, _, gm hx, ?_⟩
    conv => whnf
    refine ⟨_, hg x (List.mem_of_getElem? hx), ?_⟩
    cases c2 : p x
    · conv => whnf
      refine ⟨IntKind.wrap .i64 ((i : Int) + 1), by kernel_rfl, ⟨i + 1, nx (by omega), by omega, fun j hj y hy => ?_⟩, by rw [nx (by omega)]; omega⟩
      by_cases e : j = i
      · subst e; rw [hx] at hy; cases hy; exact c2
      · exact hb j (by omega) y hy
    · conv => whnf
      rw [idx_hit hx c2 hb]
      kernel_rfl
theorem idx4_ok {α : Type} (f1 f2 f3 f4 : α → D) (xs : List α) (p : α → Bool) (g : FuncId) (caps : List D) (hl : xs.length < 1000000000) (hg : ∀ x ∈ xs, PureFn Try.prog g (.agg [f1 x, f2 x, f3 x, f4 x] :: caps) (boolD (p x))) :
    PureFn Try.prog 105 [.list (xs.map fun x => [f1 x, f2 x, f3 x, f4 x]), .clo g [] caps] (int (idxF p xs)) := by
  refine pureFn_by Try.func105 k105 rfl rfl ?_
  conv => whnf
  refine loopB (fun (i : Int) => ⟨mkT [(0, .d (.list (xs.map fun x => [f1 x, f2 x, f3 x, f4 x]))), (1, .d (.clo g [] caps)), (7, .d (int (xs.map fun x => [f1 x, f2 x, f3 x, f4 x]).length)), (8, .d (int i))], mkB []⟩)
    (fun i => ∃ k : Nat, i = k ∧ k ≤ xs.length ∧ ∀ j, j < k → ∀ y, xs[j]? = some y → p y = false) (fun i => (xs.length - i).toNat) 0 (by kernel_rfl) ⟨0, rfl, by omega, fun j hj => by omega⟩ ?_
  rintro _ ⟨i, rfl, hi, hb⟩
  conv => whnf
  rw [List.length_map]
  cases c1 : decide ((i : Int) < (xs.length : Int))
  · have hi' : i = xs.length := by have := of_decide_eq_false c1; omega
    subst hi'
    rw [idx_miss hb]
    conv => whnf
    kernel_rfl
  · have hi' : i < xs.length := by have := of_decide_eq_true c1; omega
    obtain ⟨x, hx⟩ := get_lt hi'
    conv => whnf
    refine ⟨by omega, _, gm hx, ?_⟩
    conv => whnf
    refine ⟨_, hg x (List.mem_of_getElem? hx), ?_⟩
    cases c2 : p x
    · conv => whnf
      refine ⟨IntKind.wrap .i64 ((i : Int) + 1), by kernel_rfl, ⟨i + 1, nx (by omega), by omega, fun j hj y hy => ?_⟩, by rw [nx (by omega)]; omega⟩
      by_cases e : j = i
      · subst e; rw [hx] at hy; cases hy; exact c2
      · exact hb j (by omega) y hy
    · conv => whnf
      rw [idx_hit hx c2 hb]
      kernel_rfl
theorem any1_ok {α : Type} (f1 : α → D) (xs : List α) (p : α → Bool) (g : FuncId) (caps : List D) (hl : xs.length < 1000000000) (hg : ∀ x ∈ xs, PureFn Try.prog g (f1 x :: caps) (boolD (p x))) :
    PureFn Try.prog 74 [.list (xs.map fun x => [f1 x]), .clo g [] caps] (boolD (xs.any p)) := by
  rw [← idx_any]
  refine pureFn_by Try.func74 k74 rfl rfl ?_
  conv => whnf
  refine ⟨_, idx1_ok f1 xs p g caps hl hg, ?_⟩
  conv => whnf
  kernel_rfl
theorem any2_ok {α : Type} (f1 f2 : α → D) (xs : List α) (p : α → Bool) (g : FuncId) (caps : List D) (hl : xs.length < 1000000000) (hg : ∀ x ∈ xs, PureFn Try.prog g (.agg [f1 x, f2 x] :: caps) (boolD (p x))) :
    PureFn Try.prog 81 [.list (xs.map fun x => [f1 x, f2 x]), .clo g [] caps] (boolD (xs.any p)) := by
  rw [← idx_any]
  refine pureFn_by Try.func81 k81 rfl rfl ?_
  conv => whnf
  refine ⟨_, idx2_ok f1 f2 xs p g caps hl hg, ?_⟩
  conv => whnf
  kernel_rfl
theorem any4_ok {α : Type} (f1 f2 f3 f4 : α → D) (xs : List α) (p : α → Bool) (g : FuncId) (caps : List D) (hl : xs.length < 1000000000) (hg : ∀ x ∈ xs, PureFn Try.prog g (.agg [f1 x, f2 x, f3 x, f4 x] :: caps) (boolD (p x))) :
    PureFn Try.prog 83 [.list (xs.map fun x => [f1 x, f2 x, f3 x, f4 x]), .clo g [] caps] (boolD (xs.any p)) := by
  rw [← idx_any]
  refine pureFn_by Try.func83 k83 rfl rfl ?_
  conv => whnf
  refine ⟨_, idx4_ok f1 f2 f3 f4 xs p g caps hl hg, ?_⟩
  conv => whnf
  kernel_rfl
end Go.Proofs.YtmkmegcconjgoaaG
