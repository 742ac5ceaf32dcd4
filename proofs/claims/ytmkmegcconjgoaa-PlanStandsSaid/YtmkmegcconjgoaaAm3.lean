/- The abstract machine, part 3: operations on abstract values; the check of an operation against the dump's. No condition. -/
import Derived.Test.YtmkmegcconjgoaaAm2
import Derived.Laws.Cells
import Derived.Laws.CopyRow
set_option linter.unusedVariables false
set_option linter.unusedSimpArgs false
namespace Go.AM
open Go

inductive Opnd where
  | t (n : Nat)
  | i (k : IntKind) (n : Int)
  | bl (x : Bool)
  | s (x : ByteArray)
  | nil
  | f (g : FuncId)
  | niface
  | nf
  | np

/-- A type's shape: one cell, or so many in an aggregate. -/
inductive Sh where
  | one
  | agg (n : Nat)
  deriving DecidableEq

/-- A cell of a type's zero value. -/
inductive Z where
  | i (k : IntKind)
  | bl
  | s
  | sl
  | p
  | fn
  | ni
  | mp
  | any

def Z.val : Z → Value
  | .i k => .int k 0
  | .bl => .bool false
  | .s => .string ByteArray.empty
  | .sl => .slice none 0 0
  | .p => .pointer none
  | .fn => .nilFunc
  | .ni => .nilIface
  | .mp => .map none
  | .any => .nilIface

inductive AOp where
  | mv (x : Opnd)
  | pick (c x y : Opnd)
  | bin (op : BinOp) (x y : Opnd)
  | eqb (neg : Bool) (x y : Opnd)
  | eqs (neg : Bool) (n : Nat) (ls : List (Nat × Nat)) (x y : Opnd)
  | neg (x : Opnd)
  | xr (x : Opnd)
  | not (x : Opnd)
  | ld (sh : Sh) (x : Opnd) (av : List Nat)
  | st (s : Nat) (sh : Sh) (x y : Opnd)
  | alloc (s : Nat) (sh : Sh) (zs : List Z)
  | box (s : Nat) (sh : Sh) (x : Opnd)
  | boxd (sh : Sh) (x : Opnd)
  | fad (off : Nat) (x : Opnd)
  | fld (sh : Sh) (off : Nat) (x : Opnd)
  | ixa (esz : Nat) (x i : Opnd)
  | ixp (n esz : Nat) (x i : Opnd)
  | ixs (x i : Opnd)
  | ixv (sh : Sh) (n esz : Nat) (x i : Opnd)
  | ext (x : Opnd) (k : Nat)
  | build (zs : List Z) (ps : List (Nat × Sh × Opnd))
  | bsl (esz : Nat) (sh : Sh) (ps : List Opnd)
  | len (str : Bool) (x : Opnd)
  | mx (x : Opnd) (ys : List Opnd)
  | mn (x : Opnd) (ys : List Opnd)
  | cv (k : IntKind) (x : Opnd)
  | mkf (g : FuncId) (first caps : List Opnd)
  | mki (t : TypeId) (x : Opnd)
  | call (g : FuncId) (xs : List Opnd)
  | callv (x : Opnd) (xs : List Opnd)
  | app (s : Nat) (esz : Nat) (x y : Opnd)
  | appd (ss : List Nat) (esz : Nat) (x y : Opnd)
  | eqn (neg : Bool) (x : Opnd)
  | mvf (s : Nat) (x : Opnd)
  | appz (s : Nat) (esz : Nat) (x y : Opnd)
  | bslr (s esz : Nat) (sh : Sh) (ps : List Opnd)
  | mkv (s : Nat) (z : Z) (x : Opnd)
  | calln (g : FuncId) (xs : List Opnd)
  | icall (lt ls : List Nat) (g : FuncId) (xs : List Opnd)
  | icallv (lt ls : List Nat) (x : Opnd) (xs : List Opnd)
  | mks (s : Nat) (esz : Nat) (zs : List Z) (x : Opnd)
  | slc (esz : Nat) (x : Opnd) (lo hi : Option Opnd)
  | sls (x : Opnd) (lo hi : Option Opnd)
  | nilrow (s : Nat) (esz : Nat)
  | yield (lt pr : List Nat) (x : Opnd) (xs : List Opnd)
  | bad

def evO (t : Nat → AC) : Opnd → AC
  | .t n => t n
  | .i k n => .d (.v (.int k n))
  | .bl x => .d (.v (.bool x))
  | .s x => .d (.v (.string x))
  | .nil => .d (.v (.slice none 0 0))
  | .f g => .d (.clo g [] [])
  | .niface => .d (.v .nilIface)
  | .nf => .d (.v .nilFunc)
  | .np => .d (.v (.pointer none))

def chkO : Operand → Opnd → Bool
  | .tmp t, .t t' => t == t'
  | .const (.int k n), .i k' n' => decide (k = k') && decide (n = n')
  | .const (.bool x), .bl y => x == y
  | .const (.string x), .s y => decide (x = y)
  | .const (.slice none 0 0), .nil => true
  | .const .nilIface, .niface => true
  | .const .nilFunc, .nf => true
  | .const (.pointer none), .np => true
  | .func g, .f g' => g == g'
  | _, _ => false

theorem chkO_sound {X : Ctx} {σ : St} {m : Nat → Loc} {a : Act} {w : World} (h : Rel X σ m a w) : ∀ {x : Operand} {y : Opnd}, chkO x y = true → RelC (X.ok m) w σ.b m (evO σ.t y) (a.eval x)
  | .tmp t, .t t', e => by simp [chkO] at e; subst e; exact h.tmps t
  | .const (.int k n), .i k' n', e => by simp [chkO] at e; obtain ⟨rfl, rfl⟩ := e; exact .d (.v _)
  | .const (.bool x), .bl y, e => by simp [chkO] at e; subst e; exact .d (.v _)
  | .const (.string x), .s y, e => by simp [chkO] at e; subst e; exact .d (.v _)
  | .const (.slice none 0 0), .nil, _ => .d (.v _)
  | .const .nilIface, .niface, _ => .d (.v _)
  | .const .nilFunc, .nf, _ => .d (.v _)
  | .const (.pointer none), .np, _ => .d (.v _)
  | .func g, .f g', e => by simp [chkO] at e; subst e; exact .d (.clo g [] [] #[] #[] rfl rfl (fun j hj => by cases hj) (fun j hj => by cases hj))

def chkOs : List Operand → List Opnd → Bool
  | [], [] => true
  | x :: xs, y :: ys => chkO x y && chkOs xs ys
  | _, _ => false

def isAggT (P : Program) (t : TypeId) : Option Bool :=
  match P.underlying t with
  | some (.struct _) => some true
  | some (.array _ _) => some true
  | some _ => some false
  | none => none
def sizeIs (P : Program) (t : TypeId) (n : Nat) : Bool := match P.info? t with | some i => i.size == n | none => false

/-- A type has that shape. -/
def chkSh (P : Program) (t : TypeId) (sh : Sh) : Bool :=
  match sh with
  | .agg n => isAggT P t == some true && sizeIs P t n
  | .one => isAggT P t == some false && sizeIs P t 1

def oneV : Value → Bool := Value.oneCell'
def oneD : D → Bool
  | .v x => x.oneCell'
  | .agg _ => false
  | .tup _ => false
  | _ => true
/-- Does it surely lie in one cell? -/
def oneC : AC → Bool
  | .d x => oneD x
  | .agg _ => false
  | .tup _ => false
  | .junk => false
  | .row _ _ _ _ => false
  | .ptr _ _ => false
  | .rptr _ _ _ _ => false
  | .vs _ _ _ => false
  | .clo _ _ _ => true

theorem oneD_val {ok : Nat → Prop} {w : World} {x : D} {v : Value} (h : RelD ok w x v) (ho : oneD x = true) : v.oneCell' = true := by
  cases h <;> first | rfl | exact ho | (simp [oneD] at ho)

/-- Does a row or a pointer still stand? (Then it lies in one cell.) -/
def standsB (b : Nat → ABlk) : AC → Bool
  | .row s _ _ tot => match b s with | .row _ els => tot == els.length | _ => false
  | .ptr s _ => match b s with | .var _ => true | _ => false
  | .rptr s _ _ tot => match b s with | .row _ els => tot == els.length | _ => false
  | .vs s _ _ => match b s with | .var _ => true | _ => false
  | x => oneC x

theorem stands_val {ok : Nat → Prop} {w : World} {b : Nat → ABlk} {m : Nat → Loc} {x : AC} {v : Value} (h : RelC ok w b m x v) (ho : standsB b x = true) : v.oneCell' = true := by
  cases h with
  | d h => exact oneD_val h ho
  | row => rfl
  | rowNil => rfl
  | rowStale s off len tot esz els v hb hlt => simp [standsB, hb] at ho; omega
  | rowDead s off len tot v hb => simp [standsB, hb] at ho
  | ptr => rfl
  | ptrDead s off v hb => simp [standsB, hb] at ho
  | rptr => rfl
  | rptrStale s i j tot esz els v hb hlt => simp [standsB, hb] at ho; omega
  | rptrDead s i j tot v hb => simp [standsB, hb] at ho
  | vs => rfl
  | vsDead s off len v hb => simp [standsB, hb] at ho
  | clo => rfl
  | agg => simp [standsB, oneC] at ho
  | tup => simp [standsB, oneC] at ho
  | junk => simp [standsB, oneC] at ho

/-- The cells of a value of a shape. -/
def cellsC (sh : Sh) (x : AC) : Option (List AC) :=
  match sh, x with
  | .agg n, .agg cs => if cs.length = n then some cs else none
  | .agg n, .d (.agg cs) => if cs.length = n then some (cs.map .d) else none
  | .agg _, _ => none
  | .one, .agg _ => none
  | .one, .d (.agg _) => none
  | .one, x => some [x]

theorem cells_of_one {v : Value} (h : v.oneCell' = true) : v.cells = #[v] := by cases v <;> first | rfl | (simp [Value.oneCell'] at h)

/-- A value's cells, as they read. -/
theorem cellsC_sound {ok : Nat → Prop} {w : World} {b : Nat → ABlk} {m : Nat → Loc} {sh : Sh} {x : AC} {v : Value} {cs : List AC} (h : RelC ok w b m x v) (hc : cellsC sh x = some cs)
    (h1 : ∀ c ∈ cs, standsB b c = true) : v.cells.size = cs.length ∧ (∀ j (hj : j < cs.length), RelC ok w b m (cs[j]) (v.cells.getD j undef)) ∧ (∀ u ∈ v.cells.toList, u.oneCell' = true) := by
  have key : ∀ vs : Array Value, vs.size = cs.length → (∀ j (hj : j < cs.length), RelC ok w b m (cs[j]) (vs.getD j undef)) →
      vs.size = cs.length ∧ (∀ j (hj : j < cs.length), RelC ok w b m (cs[j]) (vs.getD j undef)) ∧ (∀ u ∈ vs.toList, u.oneCell' = true) := fun vs hs hr => by
    refine ⟨hs, hr, fun u hu => ?_⟩
    obtain ⟨j, hj, rfl⟩ := List.mem_iff_getElem.1 hu
    have hj' : j < cs.length := by rw [← hs]; simpa using hj
    have := hr j hj'
    have hv := stands_val this (h1 _ (List.getElem_mem _))
    have hj2 : j < vs.size := by simpa using hj
    simpa [Array.getD, hj2] using hv
  unfold cellsC at hc
  split at hc
  · rename_i n cs'
    split at hc <;> cases hc
    cases h with
    | agg _ vs hs hr => exact key vs hs hr
  · rename_i n cs'
    split at hc <;> cases hc
    cases h with
    | d h =>
      cases h with
      | agg _ vs hs hr => exact key vs (by simp [hs]) (fun j hj => by rw [List.getElem_map]; exact .d (hr j (by simpa using hj)))
  · cases hc
  · cases hc
  · cases hc
  · cases hc
    have hv := stands_val h (h1 _ (by simp))
    rw [cells_of_one hv]
    exact key #[v] rfl (fun j hj => by
      have : j = 0 := by simp at hj; omega
      subst this; exact h)

end Go.AM
