/- A season as pure data, and the lists' searches. No condition. -/
import Derived.Test.YtbkjfjlmhlmdbaaGT
import Derived.IntWalk
set_option linter.unusedVariables false
set_option linter.unusedSimpArgs false
set_option maxRecDepth 100000
set_option maxHeartbeats 4000000
namespace Go.Proofs.YtbkjfjlmhlmdbaaG
open Go Go.AM Go.Proofs

@[reducible] def int (n : Int) : D := .v (.int .i64 n)
@[reducible] def boolD (b : Bool) : D := .v (.bool b)
@[reducible] def strD (s : ByteArray) : D := .v (.string s)
@[reducible] def wr (n : Int) : Int := IntKind.wrap .i64 n
def I64 (n : Int) : Prop := -9223372036854775808 ≤ n ∧ n ≤ 9223372036854775807
theorem wr_in {n : Int} (h : I64 n) : wr n = n := IntWalk.i64_in n h
theorem wr_eq {n : Int} (h : -9000000000000000000 ≤ n ∧ n ≤ 9000000000000000000) : IntKind.wrap .i64 n = n := IntWalk.i64_in n (by omega)
theorem nx {i : Nat} (h : i < 1000000000000) : IntKind.wrap .i64 ((i : Int) + 1) = ((i + 1 : Nat) : Int) := by
  rw [wr_eq (by omega)]; omega
theorem gm {α β : Type} {f : α → β} {xs : List α} {i : Nat} {x : α} (h : xs[i]? = some x) : (xs.map f)[((i : Nat) : Int).toNat]? = some (f x) := by
  rw [Int.toNat_natCast]; simp [h]
theorem gz {α β : Type} {f : α → β} {xs : List α} {n : Int} {x : α} (h : xs[n.toNat]? = some x) : (xs.map f)[n.toNat]? = some (f x) := by simp [h]
theorem get_lt {α : Type} {xs : List α} {i : Nat} (h : i < xs.length) : ∃ x, xs[i]? = some x := ⟨xs[i], by simp [h]⟩
theorem dself (n : Int) : decide (n = n) = true := decide_eq_true rfl

structure Art where
  name : ByteArray
  colour : Int
  weight : Int
structure Mk where
  oven : Int
  rates : List Int
  idle : Int
  start : Int
structure Ord where
  article : Int
  quantity : Int
  due : Int
  penalty : Int
structure Season where
  days : Int
  arts : List Art
  ovens : List (Int × Int)
  makers : List Mk
  jobs : List (List (Int × Int))
  cols : List (List (Int × Int))
  orders : List Ord

@[reducible] def i1 (n : Int) : List D := [int n]
@[reducible] def rowD (r : List Int) : D := .list (r.map i1)
@[reducible] def rowL (r : List Int) : List D := [rowD r]
@[reducible] def planD (p : List (List Int)) : D := .list (p.map rowL)
@[reducible] def i2 (t : Int × Int) : List D := [int t.1, int t.2]
@[reducible] def pairsD (l : List (Int × Int)) : D := .list (l.map i2)
@[reducible] def pairsL (l : List (Int × Int)) : List D := [pairsD l]
@[reducible] def turnsD (l : List (List (Int × Int))) : D := .list (l.map pairsL)
@[reducible] def artL (a : Art) : List D := [strD a.name, int a.colour, int a.weight]
@[reducible] def mkL (m : Mk) : List D := [int m.oven, rowD m.rates, int m.idle, int m.start]
@[reducible] def ordL (o : Ord) : List D := [int o.article, int o.quantity, int o.due, int o.penalty]
@[reducible] def cellsS (s : Season) : List D := [int s.days, .list (s.arts.map artL), pairsD s.ovens, .list (s.makers.map mkL), turnsD s.jobs, turnsD s.cols, .list (s.orders.map ordL)]
@[reducible] def seasonD (s : Season) : D := .agg (cellsS s)

/-- A season's lists are not long. -/
structure Sm (s : Season) : Prop where
  arts : s.arts.length ≤ 12
  ovens : s.ovens.length ≤ 4
  makers : s.makers.length ≤ 10
  jobs : s.jobs.length ≤ 20
  cols : s.cols.length ≤ 10
  orders : s.orders.length ≤ 20
  rates : ∀ m ∈ s.makers, m.rates.length ≤ 20
  jobRows : ∀ r ∈ s.jobs, r.length ≤ 20
  colRows : ∀ r ∈ s.cols, r.length ≤ 20

def withinF (n lo hi : Int) : Bool := decide (lo ≤ n) && decide (n ≤ hi)
theorem within_ok (n lo hi : Int) : PureFn Try.prog 60 [int n, int lo, int hi] (boolD (withinF n lo hi)) := by
  unfold withinF
  refine pureFn_by Try.func60 k60 rfl rfl ?_
  conv => whnf
  cases h1 : decide (lo ≤ n)
  · rfl
  · rfl
theorem within_iff {n lo hi : Int} : withinF n lo hi = true ↔ lo ≤ n ∧ n ≤ hi := by simp [withinF]

/-- The place of the first one that is so; -1: there is none. -/
def idxF {α : Type} (p : α → Bool) (xs : List α) : Int := match xs.findIdx? p with | some i => i | none => -1
theorem idx_hit {α : Type} {p : α → Bool} {xs : List α} {i : Nat} {x : α} (hx : xs[i]? = some x) (hp : p x = true) (hb : ∀ j, j < i → ∀ y, xs[j]? = some y → p y = false) : idxF p xs = i := by
  obtain ⟨hi, rfl⟩ := List.getElem?_eq_some_iff.1 hx
  have : xs.findIdx? p = some i := by
    rw [List.findIdx?_eq_some_iff_getElem]
    exact ⟨hi, hp, fun j hj => by have := hb j hj (xs[j]'(by omega)) (by simp [show j < xs.length by omega]); simp [this]⟩
  simp [idxF, this]
theorem idx_miss {α : Type} {p : α → Bool} {xs : List α} (hb : ∀ j, j < xs.length → ∀ y, xs[j]? = some y → p y = false) : idxF p xs = -1 := by
  have : xs.findIdx? p = none := by
    rw [List.findIdx?_eq_none_iff]
    intro x hx
    obtain ⟨j, hj, rfl⟩ := List.mem_iff_getElem.1 hx
    exact hb j hj _ (by simp [hj])
  simp [idxF, this]
theorem idx_any {α : Type} (p : α → Bool) (xs : List α) : decide (0 ≤ idxF p xs) = xs.any p := by
  unfold idxF
  cases h : xs.findIdx? p with
  | none =>
    have := List.findIdx?_eq_none_iff.1 h
    have h2 : xs.any p = false := by rw [List.any_eq_false]; intro x hx; simp [this x hx]
    rw [h2]; rfl
  | some i =>
    obtain ⟨hi, hp, _⟩ := List.findIdx?_eq_some_iff_getElem.1 h
    have h2 : xs.any p = true := by rw [List.any_eq_true]; exact ⟨_, List.getElem_mem hi, hp⟩
    rw [h2]; simp

theorem idx1_ok {α : Type} (f1 : α → D) (xs : List α) (p : α → Bool) (g : FuncId) (caps : List D) (hl : xs.length < 1000000000) (hg : ∀ x ∈ xs, PureFn Try.prog g (f1 x :: caps) (boolD (p x))) :
    PureFn Try.prog 82 [.list (xs.map fun x => [f1 x]), .clo g [] caps] (int (idxF p xs)) := by
  refine pureFn_by Try.func82 k82 rfl rfl ?_
  conv => whnf
  refine loopB (fun (i : Int) => ⟨mkT [(0, .d (.list (xs.map fun x => [f1 x]))), (1, .d (.clo g [] caps)), (7, .d (int (xs.map fun x => [f1 x]).length)), (8, .d (int i))], mkB []⟩)
    (fun i => ∃ k : Nat, i = k ∧ k ≤ xs.length ∧ ∀ j, j < k → ∀ y, xs[j]? = some y → p y = false) (fun i => (xs.length - i).toNat) 0 (by kernel_rfl) ⟨0, rfl, by omega, fun j hj => by omega⟩ ?_
  rintro _ ⟨i, rfl, hi, hb⟩
  conv => whnf
  rw [List.length_map]
  cases c1 : decide ((i : Int) < (xs.length : Int))
  · have hi' : i = xs.length := by have := of_decide_eq_false c1; omega
    subst hi'
    rw [idx_miss hb]
    conv => whnf
    kernel_rfl
  · have hi' : i < xs.length := by have := of_decide_eq_true c1; omega
    obtain ⟨x, hx⟩ := get_lt hi'
    conv => whnf
    refine ⟨by omega, _, gm hx, ?_⟩
    conv => whnf
    refine ⟨_, hg x (List.mem_of_getElem? hx), ?_⟩
    cases c2 : p x
    · conv => whnf
      refine ⟨IntKind.wrap .i64 ((i : Int) + 1), by kernel_rfl, ⟨i + 1, nx (by omega), by omega, fun j hj y hy => ?_⟩, by rw [nx (by omega)]; omega⟩
      by_cases e : j = i
      · subst e; rw [hx] at hy; cases hy; exact c2
      · exact hb j (by omega) y hy
    · conv => whnf
      rw [idx_hit hx c2 hb]
      kernel_rfl
theorem idx2_ok {α : Type} (f1 f2 : α → D) (xs : List α) (p : α → Bool) (g : FuncId) (caps : List D) (hl : xs.length < 1000000000) (hg : ∀ x ∈ xs, PureFn Try.prog g (.agg [f1 x, f2 x] :: caps) (boolD (p x))) :
    PureFn Try.prog 86 [.list (xs.map fun x => [f1 x, f2 x]), .clo g [] caps] (int (idxF p xs)) := by
  refine pureFn_by Try.func86 k86 rfl rfl ?_
  conv => whnf
  refine loopB (fun (i : Int) => ⟨mkT [(0, .d (.list (xs.map fun x => [f1 x, f2 x]))), (1, .d (.clo g [] caps)), (7, .d (int (xs.map fun x => [f1 x, f2 x]).length)), (8, .d (int i))], mkB []⟩)
    (fun i => ∃ k : Nat, i = k ∧ k ≤ xs.length ∧ ∀ j, j < k → ∀ y, xs[j]? = some y → p y = false) (fun i => (xs.length - i).toNat) 0 (by kernel_rfl) ⟨0, rfl, by omega, fun j hj => by omega⟩ ?_
  rintro _ ⟨i, rfl, hi, hb⟩
  conv => whnf
  rw [List.length_map]
  cases c1 : decide ((i : Int) < (xs.length : Int))
  · have hi' : i = xs.length := by have := of_decide_eq_false c1; omega
    subst hi'
    rw [idx_miss hb]
    conv => whnf
    kernel_rfl
  · have hi' : i < xs.length := by have := of_decide_eq_true c1; omega
    obtain ⟨x, hx⟩ := get_lt hi'
    conv => whnf
    refine ⟨by omega, _, gm hx, ?_⟩
    conv => whnf
    refine ⟨_, hg x (List.mem_of_getElem? hx), ?_⟩
    cases c2 : p x
    · conv => whnf
      refine ⟨IntKind.wrap .i64 ((i : Int) + 1), by kernel_rfl, ⟨i + 1, nx (by omega), by omega, fun j hj y hy => ?_⟩, by rw [nx (by omega)]; omega⟩
      by_cases e : j = i
      · subst e; rw [hx] at hy; cases hy; exact c2
      · exact hb j (by omega) y hy
    · conv => whnf
      rw [idx_hit hx c2 hb]
      kernel_rfl
theorem idx3_ok {α : Type} (f1 f2 f3 : α → D) (xs : List α) (p : α → Bool) (g : FuncId) (caps : List D) (hl : xs.length < 1000000000) (hg : ∀ x ∈ xs, PureFn Try.prog g (.agg [f1 x, f2 x, f3 x] :: caps) (boolD (p x))) :
    PureFn Try.prog 84 [.list (xs.map fun x => [f1 x, f2 x, f3 x]), .clo g [] caps] (int (idxF p xs)) := by
  refine pureFn_by Try.func84 k84 rfl rfl ?_
  conv => whnf
  refine loopB (fun (i : Int) => ⟨mkT [(0, .d (.list (xs.map fun x => [f1 x, f2 x, f3 x]))), (1, .d (.clo g [] caps)), (7, .d (int (xs.map fun x => [f1 x, f2 x, f3 x]).length)), (8, .d (int i))], mkB []⟩)
    (fun i => ∃ k : Nat, i = k ∧ k ≤ xs.length ∧ ∀ j, j < k → ∀ y, xs[j]? = some y → p y = false) (fun i => (xs.length - i).toNat) 0 (by kernel_rfl) ⟨0, rfl, by omega, fun j hj => by omega⟩ ?_
  rintro _ ⟨i, rfl, hi, hb⟩
  conv => whnf
  rw [List.length_map]
  cases c1 : decide ((i : Int) < (xs.length : Int))
  · have hi' : i = xs.length := by have := of_decide_eq_false c1; omega
    subst hi'
    rw [idx_miss hb]
    conv => whnf
    kernel_rfl
  · have hi' : i < xs.length := by have := of_decide_eq_true c1; omega
    obtain ⟨x, hx⟩ := get_lt hi'
    conv => whnf
    refine ⟨by omega, _, gm hx, ?_⟩
    conv => whnf
    refine ⟨_, hg x (List.mem_of_getElem? hx), ?_⟩
    cases c2 : p x
    · conv => whnf
      refine ⟨IntKind.wrap .i64 ((i : Int) + 1), by kernel_rfl, ⟨i + 1, nx (by omega), by omega, fun j hj y hy => ?_⟩, by rw [nx (by omega)]; omega⟩
      by_cases e : j = i
      · subst e; rw [hx] at hy; cases hy; exact c2
      · exact hb j (by omega) y hy
    · conv => whnf
      rw [idx_hit hx c2 hb]
      kernel_rfl
theorem idx4_ok {α : Type} (f1 f2 f3 f4 : α → D) (xs : List α) (p : α → Bool) (g : FuncId) (caps : List D) (hl : xs.length < 1000000000) (hg : ∀ x ∈ xs, PureFn Try.prog g (.agg [f1 x, f2 x, f3 x, f4 x] :: caps) (boolD (p x))) :
    PureFn Try.prog 87 [.list (xs.map fun x => [f1 x, f2 x, f3 x, f4 x]), .clo g [] caps] (int (idxF p xs)) := by
  refine pureFn_by Try.func87 k87 rfl rfl ?_
  conv => whnf
  refine loopB (fun (i : Int) => ⟨mkT [(0, .d (.list (xs.map fun x => [f1 x, f2 x, f3 x, f4 x]))), (1, .d (.clo g [] caps)), (7, .d (int (xs.map fun x => [f1 x, f2 x, f3 x, f4 x]).length)), (8, .d (int i))], mkB []⟩)
    (fun i => ∃ k : Nat, i = k ∧ k ≤ xs.length ∧ ∀ j, j < k → ∀ y, xs[j]? = some y → p y = false) (fun i => (xs.length - i).toNat) 0 (by kernel_rfl) ⟨0, rfl, by omega, fun j hj => by omega⟩ ?_
  rintro _ ⟨i, rfl, hi, hb⟩
  conv => whnf
  rw [List.length_map]
  cases c1 : decide ((i : Int) < (xs.length : Int))
  · have hi' : i = xs.length := by have := of_decide_eq_false c1; omega
    subst hi'
    rw [idx_miss hb]
    conv => whnf
    kernel_rfl
  · have hi' : i < xs.length := by have := of_decide_eq_true c1; omega
    obtain ⟨x, hx⟩ := get_lt hi'
    conv => whnf
    refine ⟨by omega, _, gm hx, ?_⟩
    conv => whnf
    refine ⟨_, hg x (List.mem_of_getElem? hx), ?_⟩
    cases c2 : p x
    · conv => whnf
      refine ⟨IntKind.wrap .i64 ((i : Int) + 1), by kernel_rfl, ⟨i + 1, nx (by omega), by omega, fun j hj y hy => ?_⟩, by rw [nx (by omega)]; omega⟩
      by_cases e : j = i
      · subst e; rw [hx] at hy; cases hy; exact c2
      · exact hb j (by omega) y hy
    · conv => whnf
      rw [idx_hit hx c2 hb]
      kernel_rfl
theorem any1_ok {α : Type} (f1 : α → D) (xs : List α) (p : α → Bool) (g : FuncId) (caps : List D) (hl : xs.length < 1000000000) (hg : ∀ x ∈ xs, PureFn Try.prog g (f1 x :: caps) (boolD (p x))) :
    PureFn Try.prog 66 [.list (xs.map fun x => [f1 x]), .clo g [] caps] (boolD (xs.any p)) := by
  rw [← idx_any]
  refine pureFn_by Try.func66 k66 rfl rfl ?_
  conv => whnf
  refine ⟨_, idx1_ok f1 xs p g caps hl hg, ?_⟩
  conv => whnf
  kernel_rfl
theorem any2_ok {α : Type} (f1 f2 : α → D) (xs : List α) (p : α → Bool) (g : FuncId) (caps : List D) (hl : xs.length < 1000000000) (hg : ∀ x ∈ xs, PureFn Try.prog g (.agg [f1 x, f2 x] :: caps) (boolD (p x))) :
    PureFn Try.prog 76 [.list (xs.map fun x => [f1 x, f2 x]), .clo g [] caps] (boolD (xs.any p)) := by
  rw [← idx_any]
  refine pureFn_by Try.func76 k76 rfl rfl ?_
  conv => whnf
  refine ⟨_, idx2_ok f1 f2 xs p g caps hl hg, ?_⟩
  conv => whnf
  kernel_rfl
theorem any4_ok {α : Type} (f1 f2 f3 f4 : α → D) (xs : List α) (p : α → Bool) (g : FuncId) (caps : List D) (hl : xs.length < 1000000000) (hg : ∀ x ∈ xs, PureFn Try.prog g (.agg [f1 x, f2 x, f3 x, f4 x] :: caps) (boolD (p x))) :
    PureFn Try.prog 78 [.list (xs.map fun x => [f1 x, f2 x, f3 x, f4 x]), .clo g [] caps] (boolD (xs.any p)) := by
  rw [← idx_any]
  refine pureFn_by Try.func78 k78 rfl rfl ?_
  conv => whnf
  refine ⟨_, idx4_ok f1 f2 f3 f4 xs p g caps hl hg, ?_⟩
  conv => whnf
  kernel_rfl
end Go.Proofs.YtbkjfjlmhlmdbaaG

/- What the checks of a season answer: changes, articles, machines, orders. No condition. -/
set_option linter.unusedVariables false
set_option linter.unusedSimpArgs false
set_option maxRecDepth 100000
set_option maxHeartbeats 4000000
namespace Go.Proofs.YtbkjfjlmhlmdbaaG
open Go Go.AM Go.Proofs

theorem drop_end {α : Type} {xs : List α} : xs.drop xs.length = [] := by simp
theorem drop_at {α : Type} {xs : List α} {i : Nat} {x : α} (h : xs[i]? = some x) : xs.drop i = x :: xs.drop (i + 1) := by
  obtain ⟨hi, rfl⟩ := List.getElem?_eq_some_iff.1 h
  exact List.drop_eq_getElem_cons hi
/-- The first error of a list's items. -/
def firstE {α : Type} (e : Nat → α → Int) : List α → Nat → Int
  | [], _ => 0
  | x :: xs, i => if e i x = 0 then firstE e xs (i + 1) else e i x

def turnOk (t : Int × Int) : Bool := withinF t.1 0 1440 && withinF t.2 0 1000000
theorem badTurn_ok (t : Int × Int) : PureFn Try.prog 77 [.agg [int t.1, int t.2]] (boolD (!turnOk t)) := by
  unfold turnOk
  refine pureFn_by Try.func77 k77 rfl rfl ?_
  conv => whnf
  refine ⟨_, within_ok _ _ _, ?_⟩
  cases withinF t.1 0 1440
  · conv => whnf
    kernel_rfl
  · conv => whnf
    refine ⟨_, within_ok _ _ _, ?_⟩
    conv => whnf
    kernel_rfl
def rowOk (n : Int) (r : List (Int × Int)) : Bool := decide ((r.length : Int) = n) && !(r.any fun t => !turnOk t)
def turnsF (l : List (List (Int × Int))) (n : Int) : Bool := decide ((l.length : Int) = n) && l.all (rowOk n)

theorem turns_ok (l : List (List (Int × Int))) (n : Int) (hl : l.length < 1000000000) (hr : ∀ r ∈ l, r.length < 1000000000) : PureFn Try.prog 63 [turnsD l, int n] (boolD (turnsF l n)) := by
  unfold turnsF
  refine pureFn_by Try.func63 k63 rfl rfl ?_
  conv => whnf
  rw [List.length_map]
  cases c0 : decide ((l.length : Int) = n)
  · conv => whnf
    kernel_rfl
  · conv => whnf
    refine loopB (fun (i : Int) => ⟨mkT [(1, .d (int n)), (11, .d (turnsD l)), (12, .d (int (l.map pairsL).length)), (13, .d (int i))], mkB []⟩)
      (fun i => ∃ k : Nat, i = k ∧ k ≤ l.length ∧ (l.drop k).all (rowOk n) = l.all (rowOk n)) (fun i => (l.length - i).toNat) 0 (by kernel_rfl) ⟨0, rfl, by omega, rfl⟩ ?_
    rintro _ ⟨i, rfl, hi, hb⟩
    conv => whnf
    rw [List.length_map]
    cases c1 : decide ((i : Int) < (l.length : Int))
    · have hi' : i = l.length := by have := of_decide_eq_false c1; omega
      subst hi'
      rw [drop_end] at hb
      rw [← hb]
      conv => whnf
      kernel_rfl
    · have hi' : i < l.length := by have := of_decide_eq_true c1; omega
      obtain ⟨r, hx⟩ := get_lt hi'
      have hd := drop_at hx
      rw [hd, List.all_cons] at hb
      have key := any2_ok (fun t : Int × Int => int t.1) (fun t => int t.2) r (fun t => !turnOk t) 77 [] (hr r (List.mem_of_getElem? hx)) (fun t _ => badTurn_ok t)
      have e : rowOk n r = (decide ((r.length : Int) = n) && !(r.any fun t => !turnOk t)) := rfl
      rw [e] at hb
      conv => whnf
      refine ⟨by omega, _, gm hx, ?_⟩
      conv => whnf
      rw [List.length_map]
      cases c2 : decide ((r.length : Int) = n)
      · rw [c2] at hb
        rw [← hb]
        conv => whnf
        kernel_rfl
      · rw [c2] at hb
        conv => whnf
        refine ⟨_, key, ?_⟩
        cases c3 : (r.any fun t => !turnOk t)
        · rw [c3] at hb
          conv => whnf
          exact ⟨IntKind.wrap .i64 ((i : Int) + 1), by kernel_rfl, ⟨i + 1, nx (by omega), by omega, hb⟩, by rw [nx (by omega)]; omega⟩
        · rw [c3] at hb
          rw [← hb]
          conv => whnf
          kernel_rfl

def rateOk (n : Int) : Bool := withinF n 0 1000000
theorem badRate_ok (n : Int) : PureFn Try.prog 75 [int n] (boolD (!rateOk n)) := by
  refine pureFn_by Try.func75 k75 rfl rfl ?_
  conv => whnf
  refine ⟨_, within_ok _ _ _, ?_⟩
  conv => whnf
  kernel_rfl

theorem sameArt_ok (x o : Ord) : PureFn Try.prog 79 [.agg [int x.article, int x.quantity, int x.due, int x.penalty], .fptr (ordL o)] (boolD (decide (x.article = o.article))) := by
  refine pureFn_by Try.func79 k79 rfl rfl ?_
  conv => whnf
  kernel_rfl

theorem sameName_ok (a : Art) (n : ByteArray) : PureFn Try.prog 85 [.agg [strD a.name, int a.colour, int a.weight], .fptr [strD n]] (boolD (a.name.toList == n.toList)) := by
  refine pureFn_by Try.func85 k85 rfl rfl ?_
  conv => whnf
  kernel_rfl
def articleF (s : Season) (n : ByteArray) : Int := idxF (fun a : Art => a.name.toList == n.toList) s.arts
theorem article_ok (s : Season) (hs : Sm s) (n : ByteArray) : PureFn Try.prog 74 [seasonD s, strD n] (int (articleF s n)) := by
  have key := idx3_ok (fun a : Art => strD a.name) (fun a => int a.colour) (fun a => int a.weight) s.arts (fun a => a.name.toList == n.toList) 85 [.fptr [strD n]] (by have := hs.arts; omega) (fun a _ => sameName_ok a n)
  refine pureFn_by Try.func74 k74 rfl rfl ?_
  conv => whnf
  refine ⟨_, key, ?_⟩
  conv => whnf
  kernel_rfl

def chOk (c : Int) : Bool := (decide (97 ≤ c) && decide (c ≤ 122)) || (decide (48 ≤ c) && decide (c ≤ 57)) || decide (c = 45)
def nameF (s : ByteArray) : Bool := decide (1 ≤ s.size) && decide (s.size ≤ 16) && (decide (97 ≤ byteAt s 0) && decide (byteAt s 0 ≤ 122)) && (List.range s.size).all fun i => chOk (byteAt s i)
theorem name_ok (s : ByteArray) : PureFn Try.prog 73 [strD s] (boolD (nameF s)) := by
  refine pureFn_by Try.func73 k73 rfl rfl ?_
  unfold nameF
  obtain ⟨A, hA⟩ : ∃ A, ((List.range s.size).all fun i => chOk (byteAt s i)) = A := ⟨_, rfl⟩
  rw [hA]
  conv => whnf
  cases c1 : decide ((s.size : Int) < 1)
  · have h1 : 1 ≤ s.size := by have := of_decide_eq_false c1; omega
    rw [show decide (1 ≤ s.size) = true from decide_eq_true h1]
    conv => whnf
    cases c2 : decide (16 < (s.size : Int))
    · have h2 : s.size ≤ 16 := by have := of_decide_eq_false c2; omega
      rw [show decide (s.size ≤ 16) = true from decide_eq_true h2]
      conv => whnf
      refine ⟨by omega, by omega, ?_⟩
      conv => whnf
      cases c3 : decide (byteAt s 0 < 97)
      · rw [show decide (97 ≤ byteAt s 0) = true from decide_eq_true (by have := of_decide_eq_false c3; omega)]
        conv => whnf
        refine ⟨by omega, by omega, ?_⟩
        conv => whnf
        cases c4 : decide (122 < byteAt s 0)
        · rw [show decide (byteAt s 0 ≤ 122) = true from decide_eq_true (by have := of_decide_eq_false c4; omega)]
          conv => whnf
          refine loopB (fun (i : Int) => ⟨mkT [(0, .d (strD s)), (24, .d (int s.size)), (25, .d (int i))], mkB []⟩)
            (fun i => ∃ k : Nat, i = k ∧ k ≤ s.size ∧ ((List.range s.size).drop k).all (fun i => chOk (byteAt s i)) = A) (fun i => (s.size - i).toNat) 0 (by kernel_rfl) ⟨0, rfl, by omega, hA⟩ ?_
          rintro _ ⟨i, rfl, hi, hb⟩
          conv => whnf
          cases c5 : decide ((i : Int) < (s.size : Int))
          · have hi' : i = s.size := by have := of_decide_eq_false c5; omega
            rw [List.drop_of_length_le (by simp [hi'])] at hb
            rw [← hb]
            conv => whnf
            kernel_rfl
          · have hi' : i < s.size := by have := of_decide_eq_true c5; omega
            have hd := drop_at (show (List.range s.size)[i]? = some i by simp [hi'])
            rw [hd, List.all_cons] at hb
            have fw : ∀ (b : Bool), ((decide (97 ≤ byteAt s i) && decide (byteAt s i ≤ 122)) || (decide (48 ≤ byteAt s i) && decide (byteAt s i ≤ 57)) || decide (byteAt s i = 45)) = b →
                (b = true → ((List.range s.size).drop (i + 1)).all (fun i => chOk (byteAt s i)) = A) ∧ (b = false → A = false) := fun b hc => by
              have hc : chOk (byteAt s i) = b := hc
              rw [hc] at hb
              refine ⟨fun e => ?_, fun e => ?_⟩
              · subst e; exact hb
              · subst e; exact hb.symm
            obtain ⟨B, hB⟩ : ∃ B, ((List.range s.size).drop (i + 1)).all (fun i => chOk (byteAt s i)) = B := ⟨_, rfl⟩
            rw [hB] at fw
            conv => whnf
            refine ⟨by omega, by omega, ?_⟩
            generalize byteAt s (i : Int) = c at fw ⊢
            conv => whnf
            cases a1 : decide (97 ≤ c)
            · conv => whnf
              cases a3 : decide (48 ≤ c)
              · conv => whnf
                cases a5 : decide (c = 45)
                · rw [(fw false (by rw [a1, a3, a5]; rfl)).2 rfl]
                  conv => whnf
                  kernel_rfl
                · conv => whnf
                  exact ⟨IntKind.wrap .i64 ((i : Int) + 1), by kernel_rfl, ⟨i + 1, nx (by omega), by omega, hB.trans ((fw true (by rw [a1, a3, a5]; rfl)).1 rfl)⟩, by rw [nx (by omega)]; omega⟩
              · conv => whnf
                cases a4 : decide (c ≤ 57)
                · conv => whnf
                  cases a5 : decide (c = 45)
                  · rw [(fw false (by rw [a1, a3, a4, a5]; rfl)).2 rfl]
                    conv => whnf
                    kernel_rfl
                  · conv => whnf
                    exact ⟨IntKind.wrap .i64 ((i : Int) + 1), by kernel_rfl, ⟨i + 1, nx (by omega), by omega, hB.trans ((fw true (by rw [a1, a3, a4, a5]; rfl)).1 rfl)⟩, by rw [nx (by omega)]; omega⟩
                · conv => whnf
                  exact ⟨IntKind.wrap .i64 ((i : Int) + 1), by kernel_rfl, ⟨i + 1, nx (by omega), by omega, hB.trans ((fw true (by rw [a1, a3, a4]; rfl)).1 rfl)⟩, by rw [nx (by omega)]; omega⟩
            · conv => whnf
              cases a2 : decide (c ≤ 122)
              · conv => whnf
                cases a3 : decide (48 ≤ c)
                · conv => whnf
                  cases a5 : decide (c = 45)
                  · rw [(fw false (by rw [a1, a2, a3, a5]; rfl)).2 rfl]
                    conv => whnf
                    kernel_rfl
                  · conv => whnf
                    exact ⟨IntKind.wrap .i64 ((i : Int) + 1), by kernel_rfl, ⟨i + 1, nx (by omega), by omega, hB.trans ((fw true (by rw [a1, a2, a3, a5]; rfl)).1 rfl)⟩, by rw [nx (by omega)]; omega⟩
                · conv => whnf
                  cases a4 : decide (c ≤ 57)
                  · conv => whnf
                    cases a5 : decide (c = 45)
                    · rw [(fw false (by rw [a1, a2, a3, a4, a5]; rfl)).2 rfl]
                      conv => whnf
                      kernel_rfl
                    · conv => whnf
                      exact ⟨IntKind.wrap .i64 ((i : Int) + 1), by kernel_rfl, ⟨i + 1, nx (by omega), by omega, hB.trans ((fw true (by rw [a1, a2, a3, a4, a5]; rfl)).1 rfl)⟩, by rw [nx (by omega)]; omega⟩
                  · conv => whnf
                    exact ⟨IntKind.wrap .i64 ((i : Int) + 1), by kernel_rfl, ⟨i + 1, nx (by omega), by omega, hB.trans ((fw true (by rw [a1, a2, a3, a4]; rfl)).1 rfl)⟩, by rw [nx (by omega)]; omega⟩
              · conv => whnf
                exact ⟨IntKind.wrap .i64 ((i : Int) + 1), by kernel_rfl, ⟨i + 1, nx (by omega), by omega, hB.trans ((fw true (by rw [a1, a2]; rfl)).1 rfl)⟩, by rw [nx (by omega)]; omega⟩
        · rw [show decide (byteAt s 0 ≤ 122) = false from decide_eq_false (by have := of_decide_eq_true c4; omega)]
          conv => whnf
          kernel_rfl
      · rw [show decide (97 ≤ byteAt s 0) = false from decide_eq_false (by have := of_decide_eq_true c3; omega)]
        conv => whnf
        kernel_rfl
    · rw [show decide (s.size ≤ 16) = false from decide_eq_false (by have := of_decide_eq_true c2; omega)]
      conv => whnf
      kernel_rfl
  · rw [show decide (1 ≤ s.size) = false from decide_eq_false (by have := of_decide_eq_true c1; omega)]
    conv => whnf
    kernel_rfl
end Go.Proofs.YtbkjfjlmhlmdbaaG

/- What the checks of articles, furnaces and machines answer. No condition. -/
set_option linter.unusedVariables false
set_option linter.unusedSimpArgs false
set_option maxRecDepth 100000
set_option maxHeartbeats 4000000
namespace Go.Proofs.YtbkjfjlmhlmdbaaG
open Go Go.AM Go.Proofs

theorem firstE_at {α : Type} {e : Nat → α → Int} {xs : List α} {i : Nat} {x : α} (h : xs[i]? = some x) : firstE e (xs.drop i) i = if e i x = 0 then firstE e (xs.drop (i + 1)) (i + 1) else e i x := by
  rw [drop_at h]; rfl
theorem firstE_end {α : Type} {e : Nat → α → Int} {xs : List α} {i : Nat} : firstE e (xs.drop xs.length) i = 0 := by rw [drop_end]; rfl

def artE (s : Season) (i : Nat) (a : Art) : Int :=
  if nameF a.name = false then 5 else if articleF s a.name < i then 6 else if withinF a.colour 0 ((s.cols.length : Int) - 1) = false then 7 else if withinF a.weight 1 100000 = false then 1 else 0
def ovE (_ : Nat) (o : Int × Int) : Int := if (decide (o.1 < 0) || decide (o.2 < o.1) || decide (1000000 < o.2)) = true then 1 else 0
def articlesE (s : Season) : Int :=
  if 8 < s.arts.length then 3 else if firstE (artE s) s.arts 0 ≠ 0 then firstE (artE s) s.arts 0 else if 3 < s.ovens.length then 3 else firstE ovE s.ovens 0

theorem articles_ok (s : Season) (hs : Sm s) : PureFn Try.prog 61 [seasonD s] (int (articlesE s)) := by
  have ha := hs.arts
  have ho := hs.ovens
  have hc := hs.cols
  refine pureFn_by Try.func61 k61 rfl rfl ?_
  unfold articlesE
  obtain ⟨E, hE⟩ : ∃ E, firstE (artE s) s.arts 0 = E := ⟨_, rfl⟩
  obtain ⟨F, hF⟩ : ∃ F, firstE ovE s.ovens 0 = F := ⟨_, rfl⟩
  rw [hE, hF]
  conv => whnf
  rw [List.length_map]
  cases c1 : decide (8 < (s.arts.length : Int))
  · have h1 : ¬ 8 < s.arts.length := by have := of_decide_eq_false c1; omega
    rw [if_neg h1]
    conv => whnf
    refine loopB (fun (i : Int) => ⟨mkT [(1, .d (.fptr (cellsS s))), (12, .d (.list (s.arts.map artL))), (13, .d (int (s.arts.map artL).length)), (14, .d (int i))], mkB []⟩)
      (fun i => ∃ k : Nat, i = k ∧ k ≤ s.arts.length ∧ firstE (artE s) (s.arts.drop k) k = E) (fun i => (s.arts.length - i).toNat) 0 (by kernel_rfl) ⟨0, rfl, by omega, hE⟩ ?_
    rintro _ ⟨i, rfl, hi, hb⟩
    conv => whnf
    rw [List.length_map]
    cases c2 : decide ((i : Int) < (s.arts.length : Int))
    · have hi' : i = s.arts.length := by have := of_decide_eq_false c2; omega
      subst hi'
      rw [firstE_end] at hb
      rw [if_neg (by simp [← hb])]
      conv => whnf
      rw [List.length_map]
      cases c3 : decide (3 < (s.ovens.length : Int))
      · have h3 : ¬ 3 < s.ovens.length := by have := of_decide_eq_false c3; omega
        rw [if_neg h3]
        conv => whnf
        refine loopB (fun (i : Int) => ⟨mkT [(51, .d (pairsD s.ovens)), (52, .d (int (s.ovens.map i2).length)), (53, .d (int i))], mkB []⟩)
          (fun i => ∃ k : Nat, i = k ∧ k ≤ s.ovens.length ∧ firstE ovE (s.ovens.drop k) k = F) (fun i => (s.ovens.length - i).toNat) 0 (by kernel_rfl) ⟨0, rfl, by omega, hF⟩ ?_
        rintro _ ⟨j, rfl, hj, hbj⟩
        conv => whnf
        rw [List.length_map]
        cases c4 : decide ((j : Int) < (s.ovens.length : Int))
        · have hj' : j = s.ovens.length := by have := of_decide_eq_false c4; omega
          subst hj'
          rw [firstE_end] at hbj
          rw [← hbj]
          conv => whnf
          kernel_rfl
        · have hj' : j < s.ovens.length := by have := of_decide_eq_true c4; omega
          obtain ⟨o, hx⟩ := get_lt hj'
          rw [firstE_at hx] at hbj
          have fw : ∀ b, (decide (o.1 < 0) || decide (o.2 < o.1) || decide (1000000 < o.2)) = b → (if b = true then F = 1 else firstE ovE (s.ovens.drop (j + 1)) (j + 1) = F) := fun b h => by
            have : ovE j o = if b = true then 1 else 0 := by unfold ovE; rw [h]
            rw [this] at hbj
            clear this h
            cases b
            · exact hbj
            · exact hbj.symm
          conv => whnf
          refine ⟨by omega, _, gm hx, ?_⟩
          conv => whnf
          cases c5 : decide (o.1 < 0)
          · conv => whnf
            cases c6 : decide (o.2 < o.1)
            · conv => whnf
              cases c7 : decide (1000000 < o.2)
              · conv => whnf
                exact ⟨IntKind.wrap .i64 ((j : Int) + 1), by kernel_rfl, ⟨j + 1, nx (by omega), by omega, fw false (by rw [c5, c6, c7]; rfl)⟩, by rw [nx (by omega)]; omega⟩
              · rw [fw true (by rw [c5, c6, c7]; rfl)]
                conv => whnf
                kernel_rfl
            · rw [fw true (by rw [c5, c6]; rfl)]
              conv => whnf
              kernel_rfl
          · rw [fw true (by rw [c5]; rfl)]
            conv => whnf
            kernel_rfl
      · have h3 : 3 < s.ovens.length := by have := of_decide_eq_true c3; omega
        rw [if_pos h3]
        conv => whnf
        kernel_rfl
    · have hi' : i < s.arts.length := by have := of_decide_eq_true c2; omega
      obtain ⟨a, hx⟩ := get_lt hi'
      rw [firstE_at hx] at hb
      have hwc : IntKind.wrap .i64 (((s.cols.map pairsL).length : Int) - 1) = (s.cols.length : Int) - 1 := by rw [List.length_map, wr_eq (by omega)]
      have hbad : ∀ e : Int, e ≠ 0 → artE s i a = e → E = e ∧ E ≠ 0 := fun e h0 h => by rw [h, if_neg h0] at hb; exact ⟨hb.symm, hb ▸ h0⟩
      have ex : artE s i a = (if nameF a.name = false then 5 else if articleF s a.name < i then 6 else if withinF a.colour 0 ((s.cols.length : Int) - 1) = false then 7 else if withinF a.weight 1 100000 = false then 1 else 0) := rfl
      have nm := name_ok a.name
      have ar := article_ok s hs a.name
      conv => whnf
      refine ⟨by omega, _, gm hx, ?_⟩
      conv => whnf
      refine ⟨_, nm, ?_⟩
      cases c3 : nameF a.name
      · obtain ⟨h1, h2⟩ := hbad 5 (by decide) (by rw [ex, c3]; rfl)
        rw [if_pos h2, h1]
        conv => whnf
        kernel_rfl
      · conv => whnf
        refine ⟨_, ar, ?_⟩
        conv => whnf
        cases c4 : decide (articleF s a.name < (i : Int))
        · have h4 : ¬ articleF s a.name < (i : Int) := of_decide_eq_false c4
          conv => whnf
          refine ⟨_, within_ok _ _ _, ?_⟩
          rw [hwc]
          cases c5 : withinF a.colour 0 ((s.cols.length : Int) - 1)
          · obtain ⟨h1, h2⟩ := hbad 7 (by decide) (by rw [ex, c3, c5, if_neg (by simp), if_neg h4]; rfl)
            rw [if_pos h2, h1]
            conv => whnf
            kernel_rfl
          · conv => whnf
            refine ⟨_, within_ok _ _ _, ?_⟩
            cases c6 : withinF a.weight 1 100000
            · obtain ⟨h1, h2⟩ := hbad 1 (by decide) (by rw [ex, c3, c5, c6, if_neg (by simp), if_neg h4]; rfl)
              rw [if_pos h2, h1]
              conv => whnf
              kernel_rfl
            · have h0 : artE s i a = 0 := by rw [ex, c3, c5, c6, if_neg (by simp), if_neg h4]; rfl
              rw [if_pos h0] at hb
              conv => whnf
              exact ⟨IntKind.wrap .i64 ((i : Int) + 1), by kernel_rfl, ⟨i + 1, nx (by omega), by omega, hb⟩, by rw [nx (by omega)]; omega⟩
        · have h4 : articleF s a.name < (i : Int) := of_decide_eq_true c4
          obtain ⟨h1, h2⟩ := hbad 6 (by decide) (by rw [ex, c3, if_neg (by simp), if_pos h4])
          rw [if_pos h2, h1]
          conv => whnf
          kernel_rfl
  · have h1 : 8 < s.arts.length := by have := of_decide_eq_true c1; omega
    rw [if_pos h1]
    conv => whnf
    kernel_rfl
end Go.Proofs.YtbkjfjlmhlmdbaaG

/- What the checks of machines and orders answer. No condition. -/
set_option linter.unusedVariables false
set_option linter.unusedSimpArgs false
set_option maxRecDepth 100000
set_option maxHeartbeats 4000000
namespace Go.Proofs.YtbkjfjlmhlmdbaaG
open Go Go.AM Go.Proofs

def mkBad (s : Season) (m : Mk) : Bool :=
  !decide ((m.rates.length : Int) = s.arts.length) || m.rates.any (fun n => !rateOk n) || !withinF m.idle 0 1000000 || !withinF m.start (-1) ((s.arts.length : Int) - 1)
def mkE (s : Season) (_ : Nat) (m : Mk) : Int := if withinF m.oven 0 ((s.ovens.length : Int) - 1) = false then 7 else if mkBad s m = true then 1 else 0
def makersE (s : Season) : Int := if 6 < s.makers.length then 3 else firstE (mkE s) s.makers 0

theorem makersE_ok (s : Season) (hs : Sm s) : PureFn Try.prog 62 [seasonD s] (int (makersE s)) := by
  have ha := hs.arts
  have ho := hs.ovens
  have hm := hs.makers
  refine pureFn_by Try.func62 k62 rfl rfl ?_
  unfold makersE
  obtain ⟨E, hE⟩ : ∃ E, firstE (mkE s) s.makers 0 = E := ⟨_, rfl⟩
  rw [hE]
  conv => whnf
  rw [List.length_map]
  cases c1 : decide (6 < (s.makers.length : Int))
  · have h1 : ¬ 6 < s.makers.length := by have := of_decide_eq_false c1; omega
    rw [if_neg h1]
    conv => whnf
    refine loopB (fun (i : Int) => ⟨mkT [(1, .d (.fptr (cellsS s))), (10, .d (.list (s.makers.map mkL))), (11, .d (int (s.makers.map mkL).length)), (12, .d (int i))], mkB []⟩)
      (fun i => ∃ k : Nat, i = k ∧ k ≤ s.makers.length ∧ firstE (mkE s) (s.makers.drop k) k = E) (fun i => (s.makers.length - i).toNat) 0 (by kernel_rfl) ⟨0, rfl, by omega, hE⟩ ?_
    rintro _ ⟨i, rfl, hi, hb⟩
    conv => whnf
    rw [List.length_map]
    cases c2 : decide ((i : Int) < (s.makers.length : Int))
    · have hi' : i = s.makers.length := by have := of_decide_eq_false c2; omega
      subst hi'
      rw [firstE_end] at hb
      rw [← hb]
      conv => whnf
      kernel_rfl
    · have hi' : i < s.makers.length := by have := of_decide_eq_true c2; omega
      obtain ⟨m, hx⟩ := get_lt hi'
      rw [firstE_at hx] at hb
      have hwo : IntKind.wrap .i64 (((s.ovens.map i2).length : Int) - 1) = (s.ovens.length : Int) - 1 := by rw [List.length_map, wr_eq (by omega)]
      have hwa : IntKind.wrap .i64 (((s.arts.map artL).length : Int) - 1) = (s.arts.length : Int) - 1 := by rw [List.length_map, wr_eq (by omega)]
      have hrl := hs.rates m (List.mem_of_getElem? hx)
      have key := any1_ok (fun n : Int => int n) m.rates (fun n => !rateOk n) 75 [] (by omega) (fun n _ => badRate_ok n)
      have fw : ∀ b, withinF m.oven 0 ((s.ovens.length : Int) - 1) = true → mkBad s m = b → (if b = true then E = 1 else firstE (mkE s) (s.makers.drop (i + 1)) (i + 1) = E) := fun b h0 h => by
        have : mkE s i m = if b = true then 1 else 0 := by unfold mkE; rw [h, h0]; rfl
        rw [this] at hb
        clear this h
        cases b
        · exact hb
        · exact hb.symm
      have e : mkBad s m = (!decide ((m.rates.length : Int) = s.arts.length) || m.rates.any (fun n => !rateOk n) || !withinF m.idle 0 1000000 || !withinF m.start (-1) ((s.arts.length : Int) - 1)) := rfl
      rw [e] at fw
      conv => whnf
      refine ⟨by omega, _, gm hx, ?_⟩
      conv => whnf
      refine ⟨_, within_ok _ _ _, ?_⟩
      rw [hwo]
      cases c3 : withinF m.oven 0 ((s.ovens.length : Int) - 1)
      · have : mkE s i m = 7 := by unfold mkE; rw [c3]; rfl
        rw [this, if_neg (by decide)] at hb
        rw [← hb]
        conv => whnf
        kernel_rfl
      · have fw := fun b => fw b c3
        conv => whnf
        rw [List.length_map, List.length_map]
        cases c4 : decide ((m.rates.length : Int) = s.arts.length)
        · rw [fw true (by rw [c4]; rfl)]
          conv => whnf
          kernel_rfl
        · conv => whnf
          refine ⟨_, key, ?_⟩
          cases c5 : m.rates.any (fun n => !rateOk n)
          · conv => whnf
            refine ⟨_, within_ok _ _ _, ?_⟩
            cases c6 : withinF m.idle 0 1000000
            · rw [fw true (by rw [c4, c5, c6]; rfl)]
              conv => whnf
              kernel_rfl
            · conv => whnf
              refine ⟨_, within_ok _ _ _, ?_⟩
              rw [hwa]
              cases c7 : withinF m.start (-1) ((s.arts.length : Int) - 1)
              · rw [fw true (by rw [c4, c5, c6, c7]; rfl)]
                conv => whnf
                kernel_rfl
              · conv => whnf
                exact ⟨IntKind.wrap .i64 ((i : Int) + 1), by kernel_rfl, ⟨i + 1, nx (by omega), by omega, fw false (by rw [c4, c5, c6, c7]; rfl)⟩, by rw [nx (by omega)]; omega⟩
          · rw [fw true (by rw [c4, c5]; rfl)]
            conv => whnf
            kernel_rfl
  · have h1 : 6 < s.makers.length := by have := of_decide_eq_true c1; omega
    rw [if_pos h1]
    conv => whnf
    kernel_rfl

def ordBad (s : Season) (o : Ord) : Bool := !withinF o.quantity 0 1000000 || !withinF o.due 0 (IntKind.wrap .i64 (s.days - 1)) || !withinF o.penalty 0 1000000
def ordE (s : Season) (i : Nat) (o : Ord) : Int :=
  if withinF o.article 0 ((s.arts.length : Int) - 1) = false then 7 else if (s.orders.take i).any (fun x => decide (x.article = o.article)) = true then 6 else if ordBad s o = true then 1 else 0
def ordersE (s : Season) : Int := if s.arts.length < s.orders.length then 3 else firstE (ordE s) s.orders 0

theorem ordersE_ok (s : Season) (hs : Sm s) : PureFn Try.prog 64 [seasonD s] (int (ordersE s)) := by
  have ha := hs.arts
  have hm := hs.orders
  refine pureFn_by Try.func64 k64 rfl rfl ?_
  unfold ordersE
  obtain ⟨E, hE⟩ : ∃ E, firstE (ordE s) s.orders 0 = E := ⟨_, rfl⟩
  rw [hE]
  conv => whnf
  rw [List.length_map, List.length_map]
  cases c1 : decide ((s.arts.length : Int) < (s.orders.length : Int))
  · have h1 : ¬ s.arts.length < s.orders.length := by have := of_decide_eq_false c1; omega
    rw [if_neg h1]
    conv => whnf
    refine loopB (fun (i : Int) => ⟨mkT [(1, .d (.fptr (cellsS s))), (13, .d (.list (s.orders.map ordL))), (14, .d (int (s.orders.map ordL).length)), (15, .d (int i))], mkB []⟩)
      (fun i => ∃ k : Nat, i = k ∧ k ≤ s.orders.length ∧ firstE (ordE s) (s.orders.drop k) k = E) (fun i => (s.orders.length - i).toNat) 0 (by kernel_rfl) ⟨0, rfl, by omega, hE⟩ ?_
    rintro _ ⟨i, rfl, hi, hb⟩
    conv => whnf
    rw [List.length_map]
    cases c2 : decide ((i : Int) < (s.orders.length : Int))
    · have hi' : i = s.orders.length := by have := of_decide_eq_false c2; omega
      subst hi'
      rw [firstE_end] at hb
      rw [← hb]
      conv => whnf
      kernel_rfl
    · have hi' : i < s.orders.length := by have := of_decide_eq_true c2; omega
      obtain ⟨o, hx⟩ := get_lt hi'
      rw [firstE_at hx] at hb
      have hwa : IntKind.wrap .i64 (((s.arts.map artL).length : Int) - 1) = (s.arts.length : Int) - 1 := by rw [List.length_map, wr_eq (by omega)]
      have key := any4_ok (fun x : Ord => int x.article) (fun x => int x.quantity) (fun x => int x.due) (fun x => int x.penalty) (s.orders.take i) (fun x => decide (x.article = o.article)) 79 [.fptr (ordL o)] (by simp; omega) (fun x _ => sameArt_ok x o)
      have ek : (s.orders.take i).map ordL = ((s.orders.map ordL).drop (0 : Int).toNat).take ((i : Int).toNat - (0 : Int).toNat) := by simp [List.map_take]
      have key : PureFn Try.prog 78 [.list (((s.orders.map ordL).drop (0 : Int).toNat).take ((i : Int).toNat - (0 : Int).toNat)), .clo 79 [] [.fptr (ordL o)]] (boolD ((s.orders.take i).any fun x => decide (x.article = o.article))) := by rw [← ek]; exact key
      have fw : ∀ b, withinF o.article 0 ((s.arts.length : Int) - 1) = true → (s.orders.take i).any (fun x => decide (x.article = o.article)) = false → ordBad s o = b → (if b = true then E = 1 else firstE (ordE s) (s.orders.drop (i + 1)) (i + 1) = E) := fun b h0 h1 h => by
        have : ordE s i o = if b = true then 1 else 0 := by unfold ordE; rw [h, h0, h1]; rfl
        rw [this] at hb
        clear this h
        cases b
        · exact hb
        · exact hb.symm
      have e : ordBad s o = (!withinF o.quantity 0 1000000 || !withinF o.due 0 (IntKind.wrap .i64 (s.days - 1)) || !withinF o.penalty 0 1000000) := rfl
      rw [e] at fw
      conv => whnf
      refine ⟨by omega, _, gm hx, ?_⟩
      conv => whnf
      refine ⟨_, within_ok _ _ _, ?_⟩
      rw [hwa]
      cases c3 : withinF o.article 0 ((s.arts.length : Int) - 1)
      · have : ordE s i o = 7 := by unfold ordE; rw [c3]; rfl
        rw [this, if_neg (by decide)] at hb
        rw [← hb]
        conv => whnf
        kernel_rfl
      · conv => whnf
        refine ⟨by omega, by omega, by rw [List.length_map]; omega, fun _ => ?_, ?_⟩
        · obtain ⟨o0, h0⟩ := get_lt (show 0 < s.orders.length by omega)
          show ((s.orders.map ordL).getD 0 []).length = 4
          simp [List.getD, h0]
        conv => whnf
        refine ⟨_, key, rfl, ?_⟩
        cases c4 : (s.orders.take i).any (fun x => decide (x.article = o.article))
        · have fw := fun b => fw b c3 c4
          conv => whnf
          refine ⟨_, within_ok _ _ _, ?_⟩
          cases c5 : withinF o.quantity 0 1000000
          · rw [fw true (by rw [c5]; rfl)]
            conv => whnf
            kernel_rfl
          · conv => whnf
            refine ⟨_, within_ok _ _ _, ?_⟩
            cases c6 : withinF o.due 0 (IntKind.wrap .i64 (s.days - 1))
            · rw [fw true (by rw [c5, c6]; rfl)]
              conv => whnf
              kernel_rfl
            · conv => whnf
              refine ⟨_, within_ok _ _ _, ?_⟩
              cases c7 : withinF o.penalty 0 1000000
              · rw [fw true (by rw [c5, c6, c7]; rfl)]
                conv => whnf
                kernel_rfl
              · conv => whnf
                exact ⟨IntKind.wrap .i64 ((i : Int) + 1), by kernel_rfl, ⟨i + 1, nx (by omega), by omega, fw false (by rw [c5, c6, c7]; rfl)⟩, by rw [nx (by omega)]; omega⟩
        · have : ordE s i o = 6 := by unfold ordE; rw [c3, c4]; rfl
          rw [this, if_neg (by decide)] at hb
          rw [← hb]
          conv => whnf
          kernel_rfl
  · have h1 : s.arts.length < s.orders.length := by have := of_decide_eq_true c1; omega
    rw [if_pos h1]
    conv => whnf
    kernel_rfl
end Go.Proofs.YtbkjfjlmhlmdbaaG

/- A furnace's machines; the colour of a shift. No condition. -/
set_option linter.unusedVariables false
set_option linter.unusedSimpArgs false
set_option maxRecDepth 100000
set_option maxHeartbeats 4000000
namespace Go.Proofs.YtbkjfjlmhlmdbaaG
open Go Go.AM Go.Proofs

theorem resA_row {σ : St} {i s n esz : Nat} {els : List (List D)} (h1 : σ.t i = .row s 0 n n) (h2 : σ.b s = .row esz els) (h3 : n = els.length) : resA [.t i] σ = some (.list els) := by
  subst h3; simp [resA, readRV, h1, snap, h2]
theorem most_le {n : Nat} (h : n ≤ 1000000) : n ≤ most := by unfold most; omega

def mkFrom (k : Int) : List Mk → Nat → List Int
  | [], _ => []
  | m :: ms, i => if m.oven = k then (i : Int) :: mkFrom k ms (i + 1) else mkFrom k ms (i + 1)
def makersF (s : Season) (k : Int) : List Int := mkFrom k s.makers 0
theorem mkFrom_mem {k : Int} : ∀ {ms : List Mk} {i : Nat} {x : Int}, x ∈ mkFrom k ms i → (i : Int) ≤ x ∧ x < (i + ms.length : Nat)
  | [], i, x, h => by simp [mkFrom] at h
  | m :: ms, i, x, h => by
    unfold mkFrom at h
    split at h
    · rcases List.mem_cons.1 h with rfl | h
      · simp; omega
      · have := mkFrom_mem h; simp at this ⊢; omega
    · have := mkFrom_mem h; simp at this ⊢; omega
theorem mkFrom_len {k : Int} : ∀ {ms : List Mk} {i : Nat}, (mkFrom k ms i).length ≤ ms.length
  | [], i => by simp [mkFrom]
  | m :: ms, i => by
    unfold mkFrom
    have := mkFrom_len (k := k) (ms := ms) (i := i + 1)
    split <;> simp <;> omega
theorem makersF_len (s : Season) (k : Int) : (makersF s k).length ≤ s.makers.length := mkFrom_len
theorem makersF_mem {s : Season} {k x : Int} (h : x ∈ makersF s k) : 0 ≤ x ∧ x < s.makers.length := by
  have := mkFrom_mem h; simp at this; omega

theorem makers_ok (s : Season) (hs : Sm s) (k : Int) : PureFn Try.prog 34 [seasonD s, int k] (rowD (makersF s k)) := by
  have hm := hs.makers
  refine pureFn_by Try.func34 k34 rfl rfl ?_
  conv => whnf
  refine loopB (fun (x : Int × List (List D) × Nat) => ⟨mkT [(1, .d (int k)), (5, .row 2 0 x.2.2 x.2.2), (9, .d (.list (s.makers.map mkL))), (10, .d (int (s.makers.map mkL).length)), (11, .d (int x.1))], mkB [(2, .row 1 x.2.1)]⟩)
    (fun x => ∃ (i : Nat) (acc : List Int), x.1 = i ∧ i ≤ s.makers.length ∧ x.2.1 = acc.map i1 ∧ x.2.2 = x.2.1.length ∧ acc ++ mkFrom k (s.makers.drop i) i = makersF s k) (fun x => (s.makers.length - x.1).toNat) (0, [], 0) (by kernel_rfl) ⟨0, [], rfl, by omega, rfl, rfl, rfl⟩ ?_
  rintro ⟨_, els, n⟩ ⟨i, acc, rfl, hi, he, hn, hb⟩
  simp only at he hn
  conv => whnf
  rw [List.length_map]
  cases c1 : decide ((i : Int) < (s.makers.length : Int))
  · have hi' : i = s.makers.length := by have := of_decide_eq_false c1; omega
    rw [hi', drop_end] at hb
    simp only [mkFrom, List.append_nil] at hb
    conv => whnf
    refine (resA_row (s := 2) (n := n) (esz := 1) (els := els) rfl rfl hn).trans ?_
    rw [he, hb]
  · have hi' : i < s.makers.length := by have := of_decide_eq_true c1; omega
    obtain ⟨m, hx⟩ := get_lt hi'
    rw [drop_at hx, mkFrom] at hb
    have hlen : acc.length ≤ 10 := by
      have := congrArg List.length hb
      have h2 := makersF_len s k
      split at this <;> simp at this <;> omega
    conv => whnf
    refine ⟨by omega, _, gm hx, ?_⟩
    conv => whnf
    cases c2 : decide (m.oven = k)
    · have h2 := of_decide_eq_false c2
      rw [if_neg h2] at hb
      conv => whnf
      exact ⟨(IntKind.wrap .i64 ((i : Int) + 1), els, n), by kernel_rfl, ⟨i + 1, acc, nx (by omega), by omega, he, hn, hb⟩, by simp only; rw [nx (by omega)]; omega⟩
    · have h2 := of_decide_eq_true c2
      rw [if_pos h2] at hb
      conv => whnf
      refine ⟨rfl, rfl, hn, most_le (by rw [he]; simp; omega), ?_⟩
      conv => whnf
      exact ⟨(IntKind.wrap .i64 ((i : Int) + 1), els ++ [[int (i : Int)]], els.length + 1), by kernel_rfl, ⟨i + 1, acc ++ [(i : Int)], nx (by omega), by omega, by rw [he]; simp, by simp, by simpa using hb⟩, by simp only; rw [nx (by omega)]; omega⟩

def colA (s : Season) (a : Int) : Int := ((s.arts[a.toNat]?).map (·.colour)).getD 0
def wgt (s : Season) (a : Int) : Int := ((s.arts[a.toNat]?).map (·.weight)).getD 0
def rateF (s : Season) (m a : Int) : Int := ((s.makers[m.toNat]?).bind (·.rates[a.toNat]?)).getD 0
def colF (s : Season) : List Int → Int
  | [] => -1
  | a :: r => if 0 ≤ a then colA s a else colF s r
/-- A shift's articles are the season's. -/
def Arts (s : Season) (l : List Int) : Prop := ∀ a ∈ l, -1 ≤ a ∧ a < s.arts.length

theorem art_get {s : Season} {a : Int} (h0 : 0 ≤ a) (h : a < s.arts.length) : ∃ x, s.arts[a.toNat]? = some x ∧ colA s a = x.colour ∧ wgt s a = x.weight := by
  obtain ⟨x, hx⟩ := get_lt (xs := s.arts) (i := a.toNat) (by omega)
  exact ⟨x, hx, by simp [colA, hx], by simp [wgt, hx]⟩

theorem colour_ok (s : Season) (l : List Int) (hl : l.length < 1000000) (hA : Arts s l) : PureFn Try.prog 52 [seasonD s, rowD l] (int (colF s l)) := by
  refine pureFn_by Try.func52 k52 rfl rfl ?_
  conv => whnf
  refine loopB (fun (x : Int) => ⟨mkT [(2, .d (.fptr (cellsS s))), (7, .d (rowD l)), (8, .d (int (l.map i1).length)), (9, .d (int x))], mkB []⟩)
    (fun x => ∃ i : Nat, x = i ∧ i ≤ l.length ∧ colF s (l.drop i) = colF s l) (fun x => (l.length - x).toNat) 0 (by kernel_rfl) ⟨0, rfl, by omega, rfl⟩ ?_
  rintro _ ⟨i, rfl, hi, hb⟩
  conv => whnf
  rw [List.length_map]
  cases c1 : decide ((i : Int) < (l.length : Int))
  · have hi' : i = l.length := by have := of_decide_eq_false c1; omega
    rw [hi', drop_end] at hb
    rw [← hb]
    conv => whnf
    kernel_rfl
  · have hi' : i < l.length := by have := of_decide_eq_true c1; omega
    obtain ⟨a, hx⟩ := get_lt hi'
    have ha := hA a (List.mem_of_getElem? hx)
    rw [drop_at hx, colF] at hb
    conv => whnf
    refine ⟨by omega, _, gm hx, ?_⟩
    conv => whnf
    cases c2 : decide (0 ≤ a)
    · rw [if_neg (of_decide_eq_false c2)] at hb
      conv => whnf
      exact ⟨IntKind.wrap .i64 ((i : Int) + 1), by kernel_rfl, ⟨i + 1, nx (by omega), by omega, hb⟩, by rw [nx (by omega)]; omega⟩
    · have h0 := of_decide_eq_true c2
      obtain ⟨x, hax, hc, _⟩ := art_get h0 ha.2
      rw [if_pos h0, hc] at hb
      rw [← hb]
      conv => whnf
      refine ⟨h0, _, gz hax, ?_⟩
      conv => whnf
      kernel_rfl

end Go.Proofs.YtbkjfjlmhlmdbaaG
