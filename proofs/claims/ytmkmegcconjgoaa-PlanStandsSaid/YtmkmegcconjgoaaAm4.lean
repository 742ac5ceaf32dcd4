/- The abstract machine, part 4: what a function's contract says; what an operation does; its check against the dump's. No condition. -/
import Derived.Test.YtmkmegcconjgoaaAm3
set_option linter.unusedVariables false
set_option linter.unusedSimpArgs false
namespace Go.AM
open Go

/-- Function g has a body and is entered. -/
def Enters (P : Program) (g : FuncId) : Prop := ∃ fn, P.funcs[g]? = some fn ∧ (fn.name == "runtime.NumGoroutine") = false ∧ fn.body.isNone = false

/-- **The contract of a function without effect**: called with values that read as 'args', it returns a value that reads as 'res'; nothing that was there turns. -/
def PureFn (P : Program) (g : FuncId) (args : List D) (res : D) : Prop :=
  Enters P g ∧ ∀ (ok : Nat → Prop) (w : World) (vs : Array Value), vs.size = args.length → (∀ j (hj : j < args.length), RelD ok w (args[j]) (vs.getD j undef)) →
    Calls P g vs w fun e w' => ∃ v, e = .returned v ∧ RelD (fun k => ok k ∨ w.heap.size ≤ k) w' res v ∧ Foot (fun _ => False) w w'

/-- **The contract of a function without effect whose result lies in new memory.** -/
def FnNew (P : Program) (g : FuncId) (args : List D) (res : D) : Prop :=
  Enters P g ∧ ∀ (w : World) (vs : Array Value), vs.size = args.length → (∀ j (hj : j < args.length), RelD (fun _ => True) w (args[j]) (vs.getD j undef)) →
    Calls P g vs w fun e w' => ∃ v, e = .returned v ∧ RelD (fun k => w.heap.size ≤ k) w' res v ∧ Foot (fun _ => False) w w'

/-- Does it lead to no memory? -/
def flatD : D → Bool
  | .v _ => true
  | .agg cs => cs.all fun | .v _ => true | _ => false
  | .tup cs => cs.all fun | .v _ => true | .agg ds => ds.all (fun | .v _ => true | _ => false) | _ => false
  | .list xs => xs.isEmpty
  | _ => false

def isPure : AC → Bool
  | .d _ => true
  | .agg cs => cs.all fun | .d _ => true | _ => false
  | _ => false

/-- A value as pure data, as things stand. -/
def snap (b : Nat → ABlk) : Nat → AC → Option D
  | 0, _ => none
  | n + 1, x =>
    match x with
    | .d y => some y
    | .row s off len tot => match b s with
      | .row _ els => if tot = els.length ∧ off + len ≤ els.length then some (.list ((els.drop off).take len)) else none
      | _ => none
    | .ptr s off => match b s with
      | .var cs => ((cs.drop off).mapM (snap b n)).map .fptr
      | _ => none
    | .vs s off len => match b s with
      | .var cs => if off + len ≤ cs.length then (((cs.drop off).take len).mapM (snap b n)).map fun ds => .list (ds.map fun d => [d]) else none
      | _ => none
    | .clo g first caps => (caps.mapM (snap b n)).map (.clo g first)
    | .agg cs => (cs.mapM (snap b n)).map .agg
    | _ => none

def bitsA (op : BinOp) (k : IntKind) (x y : Int) : Int :=
  let a := BitVec.ofInt k.bits x
  let b := BitVec.ofInt k.bits y
  match op with
  | .and => k.wrap (a &&& b).toNat
  | .or => k.wrap (a ||| b).toNat
  | .xor => k.wrap (a ^^^ b).toNat
  | _ => k.wrap (a &&& ~~~b).toNat

@[reducible] def iC (k : IntKind) (n : Int) : AC := .d (.v (.int k n))
@[reducible] def bC (x : Bool) : AC := .d (.v (.bool x))

def intA (op : BinOp) (k : IntKind) (a : Int) (k' : IntKind) (b : Int) (K : AC → Prop) : Prop :=
  match op with
  | .add => k = k' ∧ K (iC k (k.wrap (a + b)))
  | .sub => k = k' ∧ K (iC k (k.wrap (a - b)))
  | .mul => k = k' ∧ K (iC k (k.wrap (a * b)))
  | .quo => k = k' ∧ b ≠ 0 ∧ K (iC k (k.wrap (a.tdiv b)))
  | .rem => k = k' ∧ b ≠ 0 ∧ K (iC k (a.tmod b))
  | .and => k = k' ∧ K (iC k (bitsA .and k a b))
  | .or => k = k' ∧ K (iC k (bitsA .or k a b))
  | .xor => k = k' ∧ K (iC k (bitsA .xor k a b))
  | .andNot => k = k' ∧ K (iC k (bitsA .andNot k a b))
  | .shl => 0 ≤ b ∧ K (iC k (k.wrap (a * 2 ^ (min b.toNat k.bits))))
  | .shr => 0 ≤ b ∧ K (iC k (a.fdiv (2 ^ (min b.toNat k.bits))))
  | .eql => k = k' ∧ K (bC (decide (a = b)))
  | .neq => k = k' ∧ K (bC (!decide (a = b)))
  | .lss => k = k' ∧ K (bC (decide (a < b)))
  | .leq => k = k' ∧ K (bC (decide (a ≤ b)))
  | .gtr => k = k' ∧ K (bC (decide (b < a)))
  | .geq => k = k' ∧ K (bC (decide (b ≤ a)))

def strA (op : BinOp) (a b : ByteArray) (K : AC → Prop) : Prop :=
  match op with
  | .add => ((a.size + b.size : Nat) : Int) ≤ IntKind.i64.max ∧ K (.d (.v (.string (a ++ b))))
  | .eql => K (bC (a.toList == b.toList))
  | .neq => K (bC (!(a.toList == b.toList)))
  | .lss => K (bC (Op.bytesLess a.toList b.toList))
  | .leq => K (bC (Op.bytesLess a.toList b.toList || a.toList == b.toList))
  | .gtr => K (bC (!(Op.bytesLess a.toList b.toList || a.toList == b.toList)))
  | .geq => K (bC (!(Op.bytesLess a.toList b.toList)))
  | _ => False

def binA (op : BinOp) (x y : AC) (K : AC → Prop) : Prop :=
  match x, y with
  | .d (.v (.int k a)), .d (.v (.int k' b)) => intA op k a k' b K
  | .d (.v (.string a)), .d (.v (.string b)) => strA op a b K
  | _, _ => False

theorem run_intA {P : Program} {w : World} {op : BinOp} {t : TypeId} {k k' : IntKind} {a b : Int} {K : AC → Prop} (h : intA op k a k' b K) :
    ∃ v, K (.d (.v v)) ∧ (binOp op t (.int k a) (.int k' b)).run P w = .ok v w := by
  cases op <;> simp only [intA] at h
  case shl => obtain ⟨h0, h⟩ := h; exact ⟨_, h, by simp [binOp, Op.shift, Int.not_lt.2 h0]⟩
  case shr => obtain ⟨h0, h⟩ := h; exact ⟨_, h, by simp [binOp, Op.shift, Int.not_lt.2 h0]⟩
  case quo => obtain ⟨rfl, h0, h⟩ := h; exact ⟨_, h, by simp [binOp, Op.intDiv, h0]⟩
  case rem => obtain ⟨rfl, h0, h⟩ := h; exact ⟨_, h, by simp [binOp, Op.intDiv, h0]⟩
  case and => obtain ⟨rfl, h⟩ := h; exact ⟨_, h, by simp [binOp, Op.intBits, bitsA]⟩
  case or => obtain ⟨rfl, h⟩ := h; exact ⟨_, h, by simp [binOp, Op.intBits, bitsA]⟩
  case xor => obtain ⟨rfl, h⟩ := h; exact ⟨_, h, by simp [binOp, Op.intBits, bitsA]⟩
  case andNot => obtain ⟨rfl, h⟩ := h; exact ⟨_, h, by simp [binOp, Op.intBits, bitsA]⟩
  case add => obtain ⟨rfl, h⟩ := h; exact ⟨_, h, by simp [binOp, Op.intArith]⟩
  case sub => obtain ⟨rfl, h⟩ := h; exact ⟨_, h, by simp [binOp, Op.intArith]⟩
  case mul => obtain ⟨rfl, h⟩ := h; exact ⟨_, h, by simp [binOp, Op.intArith]⟩
  all_goals (obtain ⟨rfl, h⟩ := h; exact ⟨_, h, by simp [binOp, Op.intCmp]; try rfl⟩)

theorem run_strA {P : Program} {w : World} {op : BinOp} {t : TypeId} {a b : ByteArray} {K : AC → Prop} (h : strA op a b K) :
    ∃ v, K (.d (.v v)) ∧ (binOp op t (.string a) (.string b)).run P w = .ok v w := by
  cases op <;> simp only [strA] at h
  case add => obtain ⟨h0, h⟩ := h; exact ⟨_, h, by simp only [binOp, Op.stringOp]; rw [if_neg (by omega)]; rfl⟩
  all_goals exact ⟨_, h, by simp [binOp, Op.stringOp]⟩

theorem run_eqGuard_int (P : Program) (w : World) (op : BinOp) (t : TypeId) (xo yo : Operand) (k : IntKind) (a : Int) (k' : IntKind) (b : Int) : (eqGuard op t xo yo (.int k a) (.int k' b)).run P w = .ok () w := by
  unfold eqGuard; cases op <;> simp
theorem run_eqGuard_str (P : Program) (w : World) (op : BinOp) (t : TypeId) (xo yo : Operand) (a b : ByteArray) : (eqGuard op t xo yo (.string a) (.string b)).run P w = .ok () w := by
  unfold eqGuard; cases op <;> simp

theorem run_binA {P : Program} {ok : Nat → Prop} {w : World} {b : Nat → ABlk} {m : Nat → Loc} {op : BinOp} {t : TypeId} {xo yo : Operand} {x y : AC} {u v : Value} {K : AC → Prop}
    (h : binA op x y K) (hx : RelC ok w b m x u) (hy : RelC ok w b m y v) :
    ∃ r, K (.d (.v r)) ∧ (do eqGuard op t xo yo u v; binOp op t u v : Sem Value).run P w = .ok r w := by
  unfold binA at h
  split at h
  · cases hx with | d hx => cases hx; cases hy with | d hy =>
      cases hy
      obtain ⟨r, hr, hrun⟩ := run_intA (P := P) (w := w) (t := t) h
      exact ⟨r, hr, by rw [Sem.run_bind, run_eqGuard_int]; exact hrun⟩
  · cases hx with | d hx => cases hx; cases hy with | d hy =>
      cases hy
      obtain ⟨r, hr, hrun⟩ := run_strA (P := P) (w := w) (t := t) h
      exact ⟨r, hr, by rw [Sem.run_bind, run_eqGuard_str]; exact hrun⟩
  · exact h.elim

def aggOf : AC → Option (List AC)
  | .agg cs => some cs
  | .d (.agg cs) => some (cs.map .d)
  | _ => none

/-- Are two cells equal? (0: numbers, 1: Bools, 2: strings) -/
def eqLeaf : Nat → AC → AC → Option Bool
  | 0, .d (.v (.int k a)), .d (.v (.int k' b)) => if k = k' then some (decide (a = b)) else none
  | 1, .d (.v (.bool a)), .d (.v (.bool b)) => some (a == b)
  | 2, .d (.v (.string a)), .d (.v (.string b)) => some (a.toList == b.toList)
  | _, _, _ => none
/-- Are all those cells equal? -/
def eqLeaves (cs ds : List AC) : List (Nat × Nat) → Option Bool
  | [] => some true
  | (o, k) :: os => match cs[o]?, ds[o]? with
    | some a, some b => match eqLeaf k a b, eqLeaves cs ds os with
      | some r, some s => some (r && s)
      | _, _ => none
    | _, _ => none

def zC (z : Z) : AC := .d (.v z.val)

/-- A literal's cells: zero values, and the parts' over them. -/
def fillC (b : Nat → ABlk) (t : Nat → AC) : List AC → List (Nat × Sh × Opnd) → Option (List AC)
  | cs, [] => some cs
  | cs, (off, sh, x) :: ps =>
    match cellsC sh (evO t x) with
    | some us => if us.all (standsB b) = true ∧ off + us.length ≤ cs.length then fillC b t (cs.take off ++ us ++ cs.drop (off + us.length)) ps else none
    | none => none

def toDs : List AC → Option (List D)
  | [] => some []
  | .d x :: cs => (toDs cs).map (x :: ·)
  | _ :: _ => none

/-- A slice literal's elements. -/
def elsC (b : Nat → ABlk) (t : Nat → AC) (sh : Sh) : List Opnd → Option (List (List D))
  | [] => some []
  | x :: xs =>
    match cellsC sh (evO t x) with
    | some us => if us.all (standsB b) = true then (match toDs us, elsC b t sh xs with | some ds, some es => some (ds :: es) | _, _ => none) else none
    | none => none

def mx2 (mn : Bool) : AC → AC → Option AC
  | .d (.v (.int k a)), .d (.v (.int k' b)) => if k = k' then some (match mn with | true => iC k (min a b) | false => iC k (max a b)) else none
  | _, _ => none
def maxC (mn : Bool) : AC → List AC → Option AC
  | x, [] => some x
  | x, y :: ys => match mx2 mn x y with | some z => maxC mn z ys | none => none

def byteAt (s : ByteArray) (n : Int) : Int := ((s.data.toList.getD n.toNat 0).toNat : Int)

/-- What an append adds. -/
def addsC (b : Nat → ABlk) : AC → Option (List (List D))
  | .d (.list ys) => some ys
  | .d (.v (.slice none 0 0)) => some []
  | .row s off len tot => match b s with
    | .row _ els => if tot = els.length ∧ off + len ≤ els.length then some ((els.drop off).take len) else none
    | _ => none
  | _ => none

def most : Nat := 2 ^ 32

def boundI (t : Nat → AC) (x : Option Opnd) (dflt : Int) (K : Int → Prop) : Prop :=
  match x with
  | none => K dflt
  | some o => match evO t o with
    | .d (.v (.int _ n)) => K n
    | _ => False

/-- What an append does. -/
def appA (σ : St) (s esz : Nat) (x y : Opnd) (K : AC → (Nat → ABlk) → Prop) : Prop :=
  match addsC σ.b (evO σ.t y) with
  | none => False
  | some ys => ys.all (fun e => e.length == esz) = true ∧ (match evO σ.t x with
    | .row s' off len tot => s' = s ∧ off = 0 ∧ len = tot ∧ (match σ.b s with
      | .row esz' els => esz' = esz ∧ tot = els.length ∧ els.length + ys.length ≤ most ∧
          K (.row s 0 (els.length + ys.length) (els.length + ys.length)) (upd σ.b s (.row esz (els ++ ys)))
      | _ => False)
    | .d (.v (.slice none 0 0)) => (match σ.b s with
      | .fresh => ys.length ≤ most ∧ K (.row s 0 ys.length ys.length) (upd σ.b s (.row esz ys))
      | _ => False)
    | _ => False)

/-- An append whose result is frozen. -/
def appZ (σ : St) (s esz : Nat) (x y : Opnd) (K : AC → (Nat → ABlk) → Prop) : Prop :=
  match addsC σ.b (evO σ.t y) with
  | none => False
  | some ys => ys.all (fun e => e.length == esz) = true ∧ (match evO σ.t x with
    | .row s' off len tot => s' = s ∧ off = 0 ∧ len = tot ∧ (match σ.b s with
      | .row esz' els => esz' = esz ∧ tot = els.length ∧ els.length + ys.length ≤ most ∧ K (.d (.list (els ++ ys))) (upd σ.b s .dead)
      | _ => False)
    | .d (.v (.slice none 0 0)) => (match σ.b s with
      | .fresh => ys.length ≤ most ∧ K (.d (.list ys)) (upd σ.b s .dead)
      | _ => False)
    | _ => False)

/-- **What an operation does**: the value that it yields and the slots behind it go to K. -/
def opA (P : Program) (op : AOp) (σ : St) (K : AC → (Nat → ABlk) → Prop) : Prop :=
  match op with
  | .mv x => K (evO σ.t x) σ.b
  | .pick c x y => match evO σ.t c with
    | .d (.v (.bool c)) => (c = true → K (evO σ.t x) σ.b) ∧ (c = false → K (evO σ.t y) σ.b)
    | _ => False
  | .bin op x y => binA op (evO σ.t x) (evO σ.t y) fun r => K r σ.b
  | .eqb neg x y => match evO σ.t x, evO σ.t y with
    | .d (.v (.bool a)), .d (.v (.bool c)) => K (bC (if neg then !(a == c) else a == c)) σ.b
    | _, _ => False
  | .eqs neg n ls x y => match aggOf (evO σ.t x), aggOf (evO σ.t y) with
    | some cs, some ds => cs.length = n ∧ ds.length = n ∧ (match eqLeaves cs ds ls with
      | some r => K (bC (if neg then !r else r)) σ.b
      | none => False)
    | _, _ => False
  | .neg x => match evO σ.t x with
    | .d (.v (.int k n)) => K (iC k (k.wrap (0 - n))) σ.b
    | _ => False
  | .xr x => match evO σ.t x with
    | .d (.v (.int k n)) => K (iC k (bitsA .xor k (if k.signed then -1 else k.max) n)) σ.b
    | _ => False
  | .not x => match evO σ.t x with
    | .d (.v (.bool a)) => K (bC (!a)) σ.b
    | _ => False
  | .ld sh x av => match evO σ.t x with
    | .ptr s off => s ∉ av ∧ (match σ.b s with
      | .var cs => (match sh with
        | .one => (match cs[off]? with | some c => K c σ.b | none => False)
        | .agg n => off + n ≤ cs.length ∧ K (.agg ((cs.drop off).take n)) σ.b)
      | _ => False)
    | .d (.fptr cs) => (match sh with
      | .one => (match cs with | c :: _ => K (.d c) σ.b | [] => False)
      | .agg n => n ≤ cs.length ∧ K (.d (.agg (cs.take n))) σ.b)
    | .rptr s i j tot => s ∉ av ∧ (match σ.b s with
      | .row _ els => tot = els.length ∧ i < els.length ∧ (match sh with
        | .one => (match (els.getD i [])[j]? with | some c => K (.d c) σ.b | none => False)
        | .agg n => j + n ≤ (els.getD i []).length ∧ K (.d (.agg (((els.getD i []).drop j).take n))) σ.b)
      | _ => False)
    | _ => False
  | .st s sh x y => match evO σ.t x, cellsC sh (evO σ.t y) with
    | .ptr s' off, some us => s' = s ∧ us.all (standsB σ.b) = true ∧ (match σ.b s with
      | .var cs => off + us.length ≤ cs.length ∧ K (.d (.v undef)) (upd σ.b s (.var (cs.take off ++ us ++ cs.drop (off + us.length))))
      | _ => False)
    | .rptr s' i j tot, some us => s' = s ∧ us.all (standsB σ.b) = true ∧ (match σ.b s, toDs us with
      | .row esz els, some ds => tot = els.length ∧ i < els.length ∧ j + ds.length ≤ (els.getD i []).length ∧
          K (.d (.v undef)) (upd σ.b s (.row esz (els.set i ((els.getD i []).take j ++ ds ++ (els.getD i []).drop (j + ds.length)))))
      | _, _ => False)
    | _, _ => False
  | .alloc s _ zs => match σ.b s with
    | .fresh => K (.ptr s 0) (upd σ.b s (.var (zs.map zC)))
    | _ => False
  | .box s sh x => match σ.b s, cellsC sh (evO σ.t x) with
    | .fresh, some us => us.all (standsB σ.b) = true ∧ K (.ptr s 0) (upd σ.b s (.var us))
    | _, _ => False
  | .boxd sh x => match cellsC sh (evO σ.t x) with
    | some us => (match toDs us with
      | some ds => ds.all oneD = true ∧ K (.d (.fptr ds)) σ.b
      | none => False)
    | none => False
  | .fad off x => match evO σ.t x with
    | .ptr s o => (match σ.b s with | .var _ => K (.ptr s (o + off)) σ.b | _ => False)
    | .d (.fptr cs) => K (.d (.fptr (cs.drop off))) σ.b
    | .rptr s i j tot => (match σ.b s with | .row _ els => tot = els.length ∧ K (.rptr s i (j + off) tot) σ.b | _ => False)
    | _ => False
  | .fld sh off x => match evO σ.t x with
    | .agg cs => (match sh with
      | .one => (match cs[off]? with | some c => K c σ.b | none => False)
      | .agg n => off + n ≤ cs.length ∧ K (.agg ((cs.drop off).take n)) σ.b)
    | .d (.agg cs) => (match sh with
      | .one => (match cs[off]? with | some c => K (.d c) σ.b | none => False)
      | .agg n => off + n ≤ cs.length ∧ K (.d (.agg ((cs.drop off).take n))) σ.b)
    | _ => False
  | .ixa esz x i => match evO σ.t x, evO σ.t i with
    | .d (.list xs), .d (.v (.int _ n)) => 0 ≤ n ∧ n < xs.length ∧ (xs.getD n.toNat []).length = esz ∧ K (.d (.fptr (xs.getD n.toNat []))) σ.b
    | .row s off len tot, .d (.v (.int _ n)) => 0 ≤ n ∧ n < len ∧ (match σ.b s with
      | .row esz' els => esz' = esz ∧ tot = els.length ∧ K (.rptr s (off + n.toNat) 0 tot) σ.b
      | _ => False)
    | .vs s off len, .d (.v (.int _ n)) => esz = 1 ∧ 0 ≤ n ∧ n < len ∧ (match σ.b s with | .var _ => K (.ptr s (off + n.toNat)) σ.b | _ => False)
    | _, _ => False
  | .ixp n esz x i => match evO σ.t x, evO σ.t i with
    | .ptr s off, .d (.v (.int _ k)) => 0 ≤ k ∧ k < n ∧ (match σ.b s with | .var _ => K (.ptr s (off + k.toNat * esz)) σ.b | _ => False)
    | _, _ => False
  | .ixs x i => match evO σ.t x, evO σ.t i with
    | .d (.v (.string s)), .d (.v (.int _ n)) => 0 ≤ n ∧ n < s.size ∧ K (iC .u8 (byteAt s n)) σ.b
    | _, _ => False
  | .ixv sh n esz x i => match evO σ.t x, evO σ.t i with
    | .agg cs, .d (.v (.int _ k)) => 0 ≤ k ∧ k < n ∧ (match sh with
      | .one => (match cs[k.toNat * esz]? with | some c => K c σ.b | none => False)
      | .agg q => k.toNat * esz + q ≤ cs.length ∧ K (.agg ((cs.drop (k.toNat * esz)).take q)) σ.b)
    | .d (.agg cs), .d (.v (.int _ k)) => 0 ≤ k ∧ k < n ∧ (match sh with
      | .one => (match cs[k.toNat * esz]? with | some c => K (.d c) σ.b | none => False)
      | .agg q => k.toNat * esz + q ≤ cs.length ∧ K (.d (.agg ((cs.drop (k.toNat * esz)).take q))) σ.b)
    | _, _ => False
  | .ext x k => match evO σ.t x with
    | .tup vs => (match vs[k]? with | some c => K c σ.b | none => False)
    | .d (.tup vs) => (match vs[k]? with | some c => K (.d c) σ.b | none => False)
    | _ => False
  | .build zs ps => match fillC σ.b σ.t (zs.map zC) ps with
    | some cs => K (.agg cs) σ.b
    | none => False
  | .bsl esz sh ps => match elsC σ.b σ.t sh ps with
    | some es => es.all (fun e => e.length == esz) = true ∧ K (.d (.list es)) σ.b
    | none => False
  | .len str x => match evO σ.t x with
    | .d (.list xs) => str = false ∧ K (iC .i64 xs.length) σ.b
    | .d (.v (.slice none 0 0)) => str = false ∧ K (iC .i64 0) σ.b
    | .d (.v (.string s)) => str = true ∧ K (iC .i64 s.size) σ.b
    | .row s _ len tot => str = false ∧ (match σ.b s with | .row _ els => tot = els.length ∧ K (iC .i64 len) σ.b | _ => False)
    | .vs s _ len => str = false ∧ (match σ.b s with | .var _ => K (iC .i64 len) σ.b | _ => False)
    | _ => False
  | .mx x ys => match maxC false (evO σ.t x) (ys.map (evO σ.t)) with
    | some r => K r σ.b
    | none => False
  | .mn x ys => match maxC true (evO σ.t x) (ys.map (evO σ.t)) with
    | some r => K r σ.b
    | none => False
  | .cv k x => match evO σ.t x with
    | .d (.v (.int _ n)) => K (iC k (k.wrap n)) σ.b
    | _ => False
  | .mkf g first caps => match toDs (first.map (evO σ.t)), toDs (caps.map (evO σ.t)) with
    | some f, some c => K (.d (.clo g f c)) σ.b
    | some f, none => K (.clo g f (caps.map (evO σ.t))) σ.b
    | _, _ => False
  | .mki t x => match evO σ.t x with
    | .d (.v u) => u.oneCell' = true ∧ K (.d (.v (.iface t u))) σ.b
    | _ => False
  | .call g xs => match (xs.map (evO σ.t)).mapM (snap σ.b 4) with
    | some ds => ∃ res, PureFn P g ds res ∧ ((xs.map (evO σ.t)).all isPure = true ∨ flatD res = true) ∧ K (.d res) σ.b
    | none => False
  | .callv x xs => match snap σ.b 4 (evO σ.t x), (xs.map (evO σ.t)).mapM (snap σ.b 4) with
    | some (.clo g first caps), some ds => ∃ res, PureFn P g (first ++ ds ++ caps) res ∧ ((evO σ.t x :: xs.map (evO σ.t)).all isPure = true ∨ flatD res = true) ∧ K (.d res) σ.b
    | _, _ => False
  | .app s esz x y => appA σ s esz x y K
  | .appd ss esz x y => ∃ s, s ∈ ss ∧ appA σ s esz x y K
  | .mks s esz zs x => match evO σ.t x, σ.b s with
    | .d (.v (.int .i64 n)), .fresh => 0 ≤ n ∧ n ≤ most ∧ K (.row s 0 n.toNat n.toNat) (upd σ.b s (.row esz (List.replicate n.toNat (zs.map fun z => .v z.val))))
    | _, _ => False
  | .slc esz x lo hi => match evO σ.t x with
    | .d (.list xs) => boundI σ.t lo 0 fun l => boundI σ.t hi xs.length fun h => 0 ≤ l ∧ l ≤ h ∧ h ≤ xs.length ∧ (l < h → (xs.getD l.toNat []).length = esz) ∧ K (.d (.list ((xs.drop l.toNat).take (h.toNat - l.toNat)))) σ.b
    | .row s off len tot => lo = none ∧ boundI σ.t hi len fun h => 0 ≤ h ∧ h ≤ len ∧ (match σ.b s with | .row esz' els => esz' = esz ∧ tot = els.length ∧ K (.row s off h.toNat tot) σ.b | _ => False)
    | _ => False
  | .sls x lo hi => match evO σ.t x with
    | .d (.v (.string s)) => boundI σ.t lo 0 fun l => boundI σ.t hi s.size fun h => 0 ≤ l ∧ l ≤ h ∧ h ≤ s.size ∧ K (.d (.v (.string (s.extract l.toNat h.toNat)))) σ.b
    | _ => False
  | .nilrow s esz => match σ.b s with
    | .fresh => K (.row s 0 0 0) (upd σ.b s (.row esz []))
    | _ => False
  | .eqn neg x => match evO σ.t x with
    | .d (.v (.slice none 0 0)) => K (bC (!neg)) σ.b
    | .d (.list (_ :: _)) => K (bC neg) σ.b
    | _ => False
  | .mvf s x => match evO σ.t x with
    | .row s' off len tot => s' = s ∧ off = 0 ∧ len = tot ∧ (match σ.b s with
      | .row _ els => tot = els.length ∧ K (.d (.list els)) (upd σ.b s .dead)
      | _ => False)
    | _ => False
  | .appz s esz x y => appZ σ s esz x y K
  | .bslr s esz sh ps => match elsC σ.b σ.t sh ps, σ.b s with
    | some es, .fresh => es.all (fun e => e.length == esz) = true ∧ K (.row s 0 es.length es.length) (upd σ.b s (.row esz es))
    | _, _ => False
  | .mkv s z x => match evO σ.t x, σ.b s with
    | .d (.v (.int .i64 n)), .fresh => 0 ≤ n ∧ n ≤ most ∧ K (.vs s 0 n.toNat) (upd σ.b s (.var (List.replicate n.toNat (zC z))))
    | _, _ => False
  | .calln g xs => match (xs.map (evO σ.t)).mapM (snap σ.b 4) with
    | some ds => ∃ res, FnNew P g ds res ∧ K (.d res) σ.b
    | none => False
  | .yield _ _ _ _ => False
  | .icall _ _ _ _ => False
  | .icallv _ _ _ _ => False
  | .bad => False

/-! ### The check of an operation against the dump's -/
def chkZ : Value → Z → Bool
  | .int k n, .i k' => decide (k = k') && decide (n = 0)
  | .bool x, .bl => !x
  | .string x, .s => decide (x = ByteArray.empty)
  | .slice none 0 0, .sl => true
  | .pointer none, .p => true
  | .nilFunc, .fn => true
  | .nilIface, .ni => true
  | .map none, .mp => true
  | _, _ => false
def chkZs : List Value → List Z → Bool
  | [], [] => true
  | x :: xs, z :: zs => chkZ x z && chkZs xs zs
  | _, _ => false

theorem chkZ_val : ∀ {x : Value} {z : Z}, chkZ x z = true → x = z.val
  | .int k n, .i k', h => by simp [chkZ] at h; obtain ⟨rfl, rfl⟩ := h; rfl
  | .bool x, .bl, h => by simp [chkZ] at h; subst h; rfl
  | .string x, .s, h => by simp [chkZ] at h; subst h; rfl
  | .slice none 0 0, .sl, _ => rfl
  | .pointer none, .p, _ => rfl
  | .nilFunc, .fn, _ => rfl
  | .nilIface, .ni, _ => rfl
  | .map none, .mp, _ => rfl
theorem chkZs_val : ∀ {xs : List Value} {zs : List Z}, chkZs xs zs = true → xs = zs.map Z.val
  | [], [], _ => rfl
  | x :: xs, z :: zs, h => by simp [chkZs] at h; rw [chkZ_val h.1, chkZs_val h.2]; rfl

def zeroOf (P : Program) (t : TypeId) : Option Value := (P.info? t).bind (·.zero)
def chkZero (P : Program) (t : TypeId) (zs : List Z) : Bool := match zeroOf P t with | some z => chkZs z.cells.toList zs | none => false
def bytesSmall (P : Program) (t : TypeId) : Bool := match P.info? t with | some i => decide (i.bytes ≤ 4096) && (match i.zero with | some z => z.cells.size == i.size | none => false) | none => false

/-- A literal's parts: each at its place in the type. -/
def chkParts (P : Program) (place : Nat → Option (Nat × TypeId)) : List (Nat × Operand) → List (Nat × Sh × Opnd) → Bool
  | [], [] => true
  | (i, x) :: ps, (off, sh, y) :: qs => (match place i with | some (o, t) => o == off && chkSh P t sh | none => false) && chkO x y && chkParts P place ps qs
  | _, _ => false
def chkEls (P : Program) : Nat → List (Nat × Operand) → List Opnd → Bool
  | _, [], [] => true
  | n, (i, x) :: ps, y :: qs => i == n && chkO x y && chkEls P (n + 1) ps qs
  | _, _, _ => false
def chkOpt : Option Operand → Option Opnd → Bool
  | none, none => true
  | some x, some y => chkO x y
  | _, _ => false

/-- Where a struct's leaves lie: numbers, strings, Bools. -/
def leavesOf (P : Program) : Nat → TypeId → Nat → Option (List (Nat × Nat))
  | 0, _, _ => none
  | f + 1, t, off => match P.underlying t with
    | some (.int _) => some [(off, 0)]
    | some .bool => some [(off, 1)]
    | some .string => some [(off, 2)]
    | some (.struct fs) => match P.info? t with
      | none => none
      | some i => if P.stoodInHeld t then none else fs.toList.foldr (fun fl acc => match P.info? fl.type, acc with
        | some j, some b => if fl.name == "_" || decide (i.size < fl.offset + j.size) || j.size == 0 then none else (match leavesOf P f fl.type (off + fl.offset) with | some a => some (a ++ b) | none => none)
        | _, _ => none) (some [])
    | _ => none

def chkA (P : Program) (op : Op) (aop : AOp) : Bool :=
  match aop, op with
  | .mv y, .move x => chkO x y
  | .mv y, .assign x => chkO x y
  | .nilrow _ _, .assign (.const (.slice none 0 0)) => true
  | .nilrow _ _, .move (.const (.slice none 0 0)) => true
  | .pick c x y, .pick c' x' y' => chkO c' c && chkO x' x && chkO y' y
  | .bin op x y, .binOp op' _ x' y' _ => decide (op = op') && chkO x' x && chkO y' y
  | .eqb neg x y, .binOp op' t x' y' _ => decide (op' = if neg then BinOp.neq else .eql) && (match P.underlying t with | some .bool => true | _ => false) && chkO x' x && chkO y' y
  | .eqs neg n ls x y, .binOp op' t x' y' _ => decide (op' = if neg then BinOp.neq else .eql) && chkSh P t (.agg n) && !P.eqGuardType P.depth t && leavesOf P 8 t 0 == some ls && chkO x' x && chkO y' y
  | .neg x, .unOp .neg _ x' => chkO x' x
  | .xr x, .unOp .xor _ x' => chkO x' x
  | .not x, .unOp .not _ x' => chkO x' x
  | .ld sh x _, .load t x' => chkSh P t sh && chkO x' x
  | .st _ sh x y, .store t x' y' => chkSh P t sh && chkO x' x && chkO y' y
  | .alloc _ _ zs, .alloc t => chkZero P t zs
  | .box _ _ x, .box _ x' => chkO x' x
  | .boxd _ x, .box _ x' => chkO x' x
  | .fad off x, .fieldAddr t x' f => (match P.underlying t with
      | some (.struct fs) => (match fs[f]? with | some fl => fl.offset == off && !sizeIs P fl.type 0 && (P.info? fl.type).isSome | none => false)
      | _ => false) && chkO x' x
  | .fld sh off x, .field t x' f => (match P.underlying t with
      | some (.struct fs) => (match fs[f]? with | some fl => fl.offset == off && chkSh P fl.type sh | none => false)
      | _ => false) && chkO x' x
  | .ixa esz x i, .indexAddr t x' i' => (match P.underlying t with | some (.slice e) => sizeIs P e esz | _ => false) && chkO x' x && chkO i' i
  | .ixp n esz x i, .indexAddr t x' i' => (match P.underlying t with | some (.array n' e) => n == n' && sizeIs P e esz | _ => false) && chkO x' x && chkO i' i
  | .ixs x i, .index t x' i' => (match P.underlying t with | some .string => true | _ => false) && chkO x' x && chkO i' i
  | .ixv sh n esz x i, .index t x' i' => (match P.underlying t with | some (.array n' e) => n == n' && sizeIs P e esz && chkSh P e sh | _ => false) && chkO x' x && chkO i' i
  | .ext x k, .extract x' k' => k == k' && chkO x' x
  | .build zs ps, .build t ps' => chkZero P t zs && (match P.underlying t with
      | some (.struct fs) => (fs.toList.mapM (fun f => (P.info? f.type).map fun i => (f.offset, i.size))).isSome && chkParts P (fun i => (fs[i]?).map fun f => (f.offset, f.type)) ps'.toList ps
      | some (.array _ e) => (match P.info? e with | some i => chkParts P (fun j => some (j * i.size, e)) ps'.toList ps | none => false)
      | _ => false)
  | .bsl esz sh xs, .buildSlice t n ps => (match P.underlying t with
      | some (.slice e) => sizeIs P e esz && chkSh P e sh && (zeroOf P e).isSome
      | _ => false) && n == xs.length && decide (n * esz ≤ 16777216) && chkEls P 0 ps.toList xs
  | .len str x, .call c => (match c.callee, c.args.toList, c.argTypes.toList with
      | .builtin .len, [x'], [t] => chkO x' x && (match P.underlying t, str with | some .string, true => true | some (.slice _), false => true | _, _ => false)
      | _, _, _ => false)
  | .mx x ys, .call c => (match c.callee, c.args.toList with | .builtin .max, x' :: ys' => chkO x' x && chkOs ys' ys | _, _ => false)
  | .mn x ys, .call c => (match c.callee, c.args.toList with | .builtin .min, x' :: ys' => chkO x' x && chkOs ys' ys | _, _ => false)
  | .cv k x, .convert s t x' => (match P.underlying s, P.underlying t with | some (.int _), some (.int k') => decide (k = k') | _, _ => false) && chkO x' x
  | .mkf g f c, .makeFunc (.func g') f' c' => g == g' && chkOs f'.toList f && chkOs c'.toList c
  | .mki t x, .makeInterface t' x' => t == t' && (match P.underlying t with | some (.interface _) => false | some _ => true | none => false) && chkO x' x
  | .call g xs, .call c => (match c.callee with | .value (.func g') => g == g' && chkOs c.args.toList xs | _ => false)
  | .callv x xs, .call c => (match c.callee with | .value x' => chkO x' x && chkOs c.args.toList xs | _ => false)
  | .yield _ _ x xs, .call c => (match c.callee with | .value x' => chkO x' x && chkOs c.args.toList xs | _ => false)
  | .app _ esz x y, .call c => (match c.callee, c.args.toList, c.argTypes.toList with
      | .builtin .append, [x', y'], [t, u] => chkO x' x && chkO y' y && (match P.underlying t with | some (.slice e) => sizeIs P e esz && bytesSmall P e | _ => false) &&
          (match P.underlying u with | some (.slice _) => true | _ => false)
      | _, _, _ => false)
  | .appd _ esz x y, .call c => (match c.callee, c.args.toList, c.argTypes.toList with
      | .builtin .append, [x', y'], [t, u] => chkO x' x && chkO y' y && (match P.underlying t with | some (.slice e) => sizeIs P e esz && bytesSmall P e | _ => false) &&
          (match P.underlying u with | some (.slice _) => true | _ => false)
      | _, _, _ => false)
  | .appz _ esz x y, .call c => (match c.callee, c.args.toList, c.argTypes.toList with
      | .builtin .append, [x', y'], [t, u] => chkO x' x && chkO y' y && (match P.underlying t with | some (.slice e) => sizeIs P e esz && bytesSmall P e | _ => false) &&
          (match P.underlying u with | some (.slice _) => true | _ => false)
      | _, _, _ => false)
  | .mvf _ x, .move x' => chkO x' x
  | .mvf _ x, .assign x' => chkO x' x
  | .mks _ esz zs x, .makeSlice t l c => (match P.underlying t with | some (.slice e) => sizeIs P e esz && bytesSmall P e && chkZero P e zs && zs.length == esz | _ => false) && chkO l x && chkO c x
  | .slc esz x lo hi, .slice t x' lo' hi' none => (match P.underlying t with | some (.slice e) => sizeIs P e esz | _ => false) && chkO x' x && chkOpt lo' lo && chkOpt hi' hi
  | .sls x lo hi, .slice t x' lo' hi' none => (match P.underlying t with | some .string => true | _ => false) && chkO x' x && chkOpt lo' lo && chkOpt hi' hi
  | .eqn neg x, .binOp op' t x' y' _ => decide (op' = if neg then BinOp.neq else .eql) && (match P.underlying t with | some (.slice _) => true | _ => false) && chkO x' x && (match y' with | .const (.slice none 0 0) => true | _ => false)
  | .bslr _ esz sh xs, .buildSlice t n ps => (match P.underlying t with
      | some (.slice e) => sizeIs P e esz && chkSh P e sh && (zeroOf P e).isSome
      | _ => false) && n == xs.length && decide (n * esz ≤ 16777216) && chkEls P 0 ps.toList xs
  | .mkv _ z x, .makeSlice t l c => (match P.underlying t with | some (.slice e) => sizeIs P e 1 && bytesSmall P e && chkZero P e [z] | _ => false) && chkO l x && chkO c x
  | .calln g xs, .call c => (match c.callee with | .value (.func g') => g == g' && chkOs c.args.toList xs | _ => false)
  | .icall _ _ g xs, .call c => (match c.callee with | .value (.func g') => g == g' && chkOs c.args.toList xs | _ => false)
  | .icallv _ _ x xs, .call c => (match c.callee with | .value x' => chkO x' x && chkOs c.args.toList xs | _ => false)
  | .bad, _ => true
  | _, _ => false

end Go.AM
