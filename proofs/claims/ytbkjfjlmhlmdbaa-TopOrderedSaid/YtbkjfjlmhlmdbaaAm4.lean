/- The abstract machine, part 1: abstract data, abstract cells, and how they read in memory. No condition. -/
import Derived.RangeFuncIn
import Derived.RangeFuncCalls
import Derived.RangeFuncRecord
import Derived.OrdersIn
import Derived.Below
import Derived.KernelRfl
import Derived.Laws.Sem
import Derived.Laws.Cells
import Derived.Laws.CopyRow
set_option linter.unusedVariables false
set_option linter.unusedSimpArgs false
namespace Go.AM

/-- Pure data: what no frame will write again. A cell's content, or a value. -/
inductive D where
  | v (x : Value)
  | list (xs : List (List D))
  | fptr (cs : List D)
  | clo (f : FuncId) (first caps : List D)
  | agg (cs : List D)
  | tup (vs : List D)
  deriving Inhabited

/-- A value reads as pure data: what it leads to lies in blocks that are 'ok'. -/
inductive RelD (ok : Nat → Prop) (w : World) : D → Value → Prop
  | v (x : Value) : RelD ok w (.v x) x
  | empty (a : Option Addr) (cap : Nat) : RelD ok w (.list []) (.slice a 0 cap)
  | list (xs : List (List D)) (B off cap esz : Nat) (f : Nat → Nat → Value) (hok : ok B) (hB : B < w.heap.size) (hcap : xs.length ≤ cap)
      (hsz : ∀ i (h : i < xs.length), (xs[i]).length = esz)
      (hc : ∀ i j, i < xs.length → j < esz → w.cell? ⟨B, off + (i * esz + j), none⟩ = some (f i j)) (h1 : ∀ i j, i < xs.length → j < esz → (f i j).oneCell' = true)
      (hr : ∀ i j (hi : i < xs.length) (hj : j < (xs[i]).length), RelD ok w ((xs[i])[j]) (f i j)) :
      RelD ok w (.list xs) (.slice (some ⟨B, off, none⟩) xs.length cap)
  | fptr (cs : List D) (B off : Nat) (f : Nat → Value) (hok : ok B) (hB : B < w.heap.size)
      (hc : ∀ j, j < cs.length → w.cell? ⟨B, off + j, none⟩ = some (f j)) (h1 : ∀ j, j < cs.length → (f j).oneCell' = true)
      (hr : ∀ j (hj : j < cs.length), RelD ok w (cs[j]) (f j)) :
      RelD ok w (.fptr cs) (.pointer (some ⟨B, off, none⟩))
  | clo (g : FuncId) (first caps : List D) (vf vc : Array Value) (h1 : vf.size = first.length) (h2 : vc.size = caps.length)
      (hf : ∀ j (hj : j < first.length), RelD ok w (first[j]) (vf.getD j undef))
      (hc : ∀ j (hj : j < caps.length), RelD ok w (caps[j]) (vc.getD j undef)) :
      RelD ok w (.clo g first caps) (.func (.func g) vf vc)
  | agg (cs : List D) (vs : Array Value) (h1 : vs.size = cs.length)
      (hc : ∀ j (hj : j < cs.length), RelD ok w (cs[j]) (vs.getD j undef)) : RelD ok w (.agg cs) (.agg vs)
  | tup (cs : List D) (vs : Array Value) (h1 : vs.size = cs.length)
      (hc : ∀ j (hj : j < cs.length), RelD ok w (cs[j]) (vs.getD j undef)) : RelD ok w (.tup cs) (.tuple vs)

theorem RelD.mono {ok ok' : Nat → Prop} {w w' : World} (hz : w.heap.size ≤ w'.heap.size)
    (h : ∀ b o u, ok b → w.cell? ⟨b, o, none⟩ = some u → w'.cell? ⟨b, o, none⟩ = some u) (hk : ∀ b, b < w.heap.size → ok b → ok' b)
    {x : D} {v : Value} (hr : RelD ok w x v) : RelD ok' w' x v := by
  induction hr with
  | v x => exact .v x
  | empty a cap => exact .empty a cap
  | list xs B off cap esz f hok hB hcap hsz hc h1 hr ih =>
    exact .list xs B off cap esz f (hk _ hB hok) (Nat.lt_of_lt_of_le hB hz) hcap hsz (fun i j hi hj => h _ _ _ hok (hc i j hi hj)) h1 ih
  | fptr cs B off f hok hB hc h1 hr ih => exact .fptr cs B off f (hk _ hB hok) (Nat.lt_of_lt_of_le hB hz) (fun j hj => h _ _ _ hok (hc j hj)) h1 ih
  | clo g first caps vf vc h1 h2 hf hc ih1 ih2 => exact .clo g first caps vf vc h1 h2 ih1 ih2
  | agg cs vs h1 hc ih => exact .agg cs vs h1 ih
  | tup cs vs h1 hc ih => exact .tup cs vs h1 ih

/-- What a frame's temporary or variable holds. 's': a slot of the frame. -/
inductive AC where
  | d (x : D)
  | row (s off len tot : Nat)
  | ptr (s off : Nat)
  | rptr (s i j tot : Nat)
  | vs (s off len : Nat)
  | clo (f : FuncId) (first : List D) (caps : List AC)
  | agg (cs : List AC)
  | tup (vs : List AC)
  | junk
  deriving Inhabited

/-- A frame's slot: never used; given up; a variable; a slice's array that the frame made; a jump that a loop over a function has pending (none: a return). -/
inductive ABlk where
  | fresh
  | dead
  | var (cs : List AC)
  | row (esz : Nat) (els : List (List D))
  | mark (e : Option Nat)
  deriving Inhabited

structure Loc where
  live : Bool
  blk : Nat
  cap : Nat

/-- A value reads as what a frame holds, over the frame's slots b, which lie at m. -/
inductive RelC (ok : Nat → Prop) (w : World) (b : Nat → ABlk) (m : Nat → Loc) : AC → Value → Prop
  | d {x : D} {v : Value} (h : RelD ok w x v) : RelC ok w b m (.d x) v
  | row (s off len esz : Nat) (els : List (List D)) (hb : b s = .row esz els) (hl : (m s).live = true) (hle : off + len ≤ els.length) :
      RelC ok w b m (.row s off len els.length) (.slice (some ⟨(m s).blk, off * esz, none⟩) len ((m s).cap - off))
  | rowNil (s esz : Nat) (hb : b s = .row esz []) (hl : (m s).live = false) : RelC ok w b m (.row s 0 0 0) (.slice none 0 0)
  | rowStale (s off len tot esz : Nat) (els : List (List D)) (v : Value) (hb : b s = .row esz els) (hlt : tot < els.length) : RelC ok w b m (.row s off len tot) v
  | rowDead (s off len tot : Nat) (v : Value) (hb : b s = .dead) : RelC ok w b m (.row s off len tot) v
  | ptr (s off : Nat) (cs : List AC) (hb : b s = .var cs) : RelC ok w b m (.ptr s off) (.pointer (some ⟨(m s).blk, off, none⟩))
  | ptrDead (s off : Nat) (v : Value) (hb : b s = .dead) : RelC ok w b m (.ptr s off) v
  | rptr (s i j esz : Nat) (els : List (List D)) (hb : b s = .row esz els) (hl : (m s).live = true) (hi : i < els.length) :
      RelC ok w b m (.rptr s i j els.length) (.pointer (some ⟨(m s).blk, i * esz + j, none⟩))
  | rptrStale (s i j tot esz : Nat) (els : List (List D)) (v : Value) (hb : b s = .row esz els) (hlt : tot < els.length) : RelC ok w b m (.rptr s i j tot) v
  | rptrDead (s i j tot : Nat) (v : Value) (hb : b s = .dead) : RelC ok w b m (.rptr s i j tot) v
  | vs (s off len cap : Nat) (cs : List AC) (hb : b s = .var cs) (hcap : len ≤ cap) : RelC ok w b m (.vs s off len) (.slice (some ⟨(m s).blk, off, none⟩) len cap)
  | vsDead (s off len : Nat) (v : Value) (hb : b s = .dead) : RelC ok w b m (.vs s off len) v
  | clo (g : FuncId) (first : List D) (caps : List AC) (vf vc : Array Value) (h1 : vf.size = first.length) (h2 : vc.size = caps.length)
      (hf : ∀ j (hj : j < first.length), RelD ok w (first[j]) (vf.getD j undef))
      (hc : ∀ j (hj : j < caps.length), RelC ok w b m (caps[j]) (vc.getD j undef)) :
      RelC ok w b m (.clo g first caps) (.func (.func g) vf vc)
  | agg (cs : List AC) (vs : Array Value) (h1 : vs.size = cs.length)
      (hc : ∀ j (hj : j < cs.length), RelC ok w b m (cs[j]) (vs.getD j undef)) : RelC ok w b m (.agg cs) (.agg vs)
  | tup (cs : List AC) (vs : Array Value) (h1 : vs.size = cs.length)
      (hc : ∀ j (hj : j < cs.length), RelC ok w b m (cs[j]) (vs.getD j undef)) : RelC ok w b m (.tup cs) (.tuple vs)
  | junk (v : Value) : RelC ok w b m .junk v

/-- How a slot may turn so that what refers to it stays true. -/
inductive Turns (b b' : ABlk) (m m' : Loc) : Prop
  | same (hb : b = b') (hm : m = m')
  | fresh (hb : b = .fresh)
  | dead (hb : b' = .dead)
  | var (cs cs' : List AC) (hb : b = .var cs) (hb' : b' = .var cs') (hm : m = m')
  | rowSet (esz : Nat) (els els' : List (List D)) (hb : b = .row esz els) (hb' : b' = .row esz els') (hlen : els'.length = els.length) (hm : m = m')
  | rowGrow (esz : Nat) (els els' : List (List D)) (hb : b = .row esz els) (hb' : b' = .row esz els') (hlen : els.length < els'.length)
  | mark (q : Option Nat) (hb : b = .mark q)

theorem RelC.mono {ok ok' : Nat → Prop} {w w' : World} {b b' : Nat → ABlk} {m m' : Nat → Loc} (hz : w.heap.size ≤ w'.heap.size)
    (h : ∀ b o u, ok b → w.cell? ⟨b, o, none⟩ = some u → w'.cell? ⟨b, o, none⟩ = some u) (hk : ∀ b, b < w.heap.size → ok b → ok' b)
    (ht : ∀ s, Turns (b s) (b' s) (m s) (m' s)) {x : AC} {v : Value} (hr : RelC ok w b m x v) : RelC ok' w' b' m' x v := by
  induction hr with
  | d hx => exact .d (hx.mono hz h hk)
  | junk v => exact .junk v
  | clo g first caps vf vc h1 h2 hf hc ih => exact .clo g first caps vf vc h1 h2 (fun j hj => (hf j hj).mono hz h hk) ih
  | agg cs vs h1 hc ih => exact .agg cs vs h1 ih
  | tup cs vs h1 hc ih => exact .tup cs vs h1 ih
  | row s off len esz els hb hl hle =>
    rcases ht s with ⟨e1, e2⟩ | e | e | ⟨cs, cs', e, _, _⟩ | ⟨z, l, l', e1, e2, e3, e4⟩ | ⟨z, l, l', e1, e2, e3⟩ | ⟨_, e⟩
    · rw [e2]; exact .row s off len esz els (e1 ▸ hb) (e2 ▸ hl) hle
    · rw [hb] at e; cases e
    · exact .rowDead _ _ _ _ _ e
    · rw [hb] at e; cases e
    · rw [hb] at e1; cases e1
      rw [e4, ← e3]; exact .row s off len esz l' e2 (e4 ▸ hl) (by omega)
    · rw [hb] at e1; cases e1
      exact .rowStale _ _ _ _ _ _ _ e2 e3
    · rw [hb] at e; cases e
  | rowNil s esz hb hl =>
    rcases ht s with ⟨e1, e2⟩ | e | e | ⟨cs, cs', e, _, _⟩ | ⟨z, l, l', e1, e2, e3, e4⟩ | ⟨z, l, l', e1, e2, e3⟩ | ⟨_, e⟩
    · exact .rowNil s esz (e1 ▸ hb) (e2 ▸ hl)
    · rw [hb] at e; cases e
    · exact .rowDead _ _ _ _ _ e
    · rw [hb] at e; cases e
    · rw [hb] at e1; cases e1
      have : l' = [] := List.length_eq_zero_iff.1 e3
      subst this
      exact .rowNil s esz e2 (e4 ▸ hl)
    · rw [hb] at e1; cases e1
      exact .rowStale _ _ _ _ _ _ _ e2 e3
    · rw [hb] at e; cases e
  | rowStale s off len tot esz els v hb hlt =>
    rcases ht s with ⟨e1, e2⟩ | e | e | ⟨cs, cs', e, _, _⟩ | ⟨z, l, l', e1, e2, e3, e4⟩ | ⟨z, l, l', e1, e2, e3⟩ | ⟨_, e⟩
    · exact .rowStale _ _ _ _ _ _ _ (e1 ▸ hb) hlt
    · rw [hb] at e; cases e
    · exact .rowDead _ _ _ _ _ e
    · rw [hb] at e; cases e
    · rw [hb] at e1; cases e1
      exact .rowStale _ _ _ _ _ _ _ e2 (by omega)
    · rw [hb] at e1; cases e1
      exact .rowStale _ _ _ _ _ _ _ e2 (by omega)
    · rw [hb] at e; cases e
  | rowDead s off len tot v hb =>
    rcases ht s with ⟨e1, e2⟩ | e | e | ⟨cs, cs', e, _, _⟩ | ⟨z, l, l', e1, e2, e3, e4⟩ | ⟨z, l, l', e1, e2, e3⟩ | ⟨_, e⟩
    · exact .rowDead _ _ _ _ _ (e1 ▸ hb)
    · rw [hb] at e; cases e
    · exact .rowDead _ _ _ _ _ e
    · rw [hb] at e; cases e
    · rw [hb] at e1; cases e1
    · rw [hb] at e1; cases e1
    · rw [hb] at e; cases e
  | ptr s off cs hb =>
    rcases ht s with ⟨e1, e2⟩ | e | e | ⟨cs, cs', e, e', e2⟩ | ⟨z, l, l', e1, e2, e3, e4⟩ | ⟨z, l, l', e1, e2, e3⟩ | ⟨_, e⟩
    · rw [e2]; exact .ptr s off cs (e1 ▸ hb)
    · rw [hb] at e; cases e
    · exact .ptrDead _ _ _ e
    · rw [e2]; exact .ptr s off cs' e'
    · rw [hb] at e1; cases e1
    · rw [hb] at e1; cases e1
    · rw [hb] at e; cases e
  | ptrDead s off v hb =>
    rcases ht s with ⟨e1, e2⟩ | e | e | ⟨cs, cs', e, e', e2⟩ | ⟨z, l, l', e1, e2, e3, e4⟩ | ⟨z, l, l', e1, e2, e3⟩ | ⟨_, e⟩
    · exact .ptrDead _ _ _ (e1 ▸ hb)
    · rw [hb] at e; cases e
    · exact .ptrDead _ _ _ e
    · rw [hb] at e; cases e
    · rw [hb] at e1; cases e1
    · rw [hb] at e1; cases e1
    · rw [hb] at e; cases e
  | vs s off len cap cs hb hcap =>
    rcases ht s with ⟨e1, e2⟩ | e | e | ⟨cs, cs', e, e', e2⟩ | ⟨z, l, l', e1, e2, e3, e4⟩ | ⟨z, l, l', e1, e2, e3⟩ | ⟨_, e⟩
    · rw [e2]; exact .vs s off len cap cs (e1 ▸ hb) hcap
    · rw [hb] at e; cases e
    · exact .vsDead _ _ _ _ e
    · rw [e2]; exact .vs s off len cap cs' e' hcap
    · rw [hb] at e1; cases e1
    · rw [hb] at e1; cases e1
    · rw [hb] at e; cases e
  | vsDead s off len v hb =>
    rcases ht s with ⟨e1, e2⟩ | e | e | ⟨cs, cs', e, e', e2⟩ | ⟨z, l, l', e1, e2, e3, e4⟩ | ⟨z, l, l', e1, e2, e3⟩ | ⟨_, e⟩
    · exact .vsDead _ _ _ _ (e1 ▸ hb)
    · rw [hb] at e; cases e
    · exact .vsDead _ _ _ _ e
    · rw [hb] at e; cases e
    · rw [hb] at e1; cases e1
    · rw [hb] at e1; cases e1
    · rw [hb] at e; cases e
  | rptr s i j esz els hb hl hi =>
    rcases ht s with ⟨e1, e2⟩ | e | e | ⟨cs, cs', e, _, _⟩ | ⟨z, l, l', e1, e2, e3, e4⟩ | ⟨z, l, l', e1, e2, e3⟩ | ⟨_, e⟩
    · rw [e2]; exact .rptr s i j esz els (e1 ▸ hb) (e2 ▸ hl) hi
    · rw [hb] at e; cases e
    · exact .rptrDead _ _ _ _ _ e
    · rw [hb] at e; cases e
    · rw [hb] at e1; cases e1
      rw [e4, ← e3]; exact .rptr s i j esz l' e2 (e4 ▸ hl) (by omega)
    · rw [hb] at e1; cases e1
      exact .rptrStale _ _ _ _ _ _ _ e2 e3
    · rw [hb] at e; cases e
  | rptrStale s i j tot esz els v hb hlt =>
    rcases ht s with ⟨e1, e2⟩ | e | e | ⟨cs, cs', e, _, _⟩ | ⟨z, l, l', e1, e2, e3, e4⟩ | ⟨z, l, l', e1, e2, e3⟩ | ⟨_, e⟩
    · exact .rptrStale _ _ _ _ _ _ _ (e1 ▸ hb) hlt
    · rw [hb] at e; cases e
    · exact .rptrDead _ _ _ _ _ e
    · rw [hb] at e; cases e
    · rw [hb] at e1; cases e1
      exact .rptrStale _ _ _ _ _ _ _ e2 (by omega)
    · rw [hb] at e1; cases e1
      exact .rptrStale _ _ _ _ _ _ _ e2 (by omega)
    · rw [hb] at e; cases e
  | rptrDead s i j tot v hb =>
    rcases ht s with ⟨e1, e2⟩ | e | e | ⟨cs, cs', e, _, _⟩ | ⟨z, l, l', e1, e2, e3, e4⟩ | ⟨z, l, l', e1, e2, e3⟩ | ⟨_, e⟩
    · exact .rptrDead _ _ _ _ _ (e1 ▸ hb)
    · rw [hb] at e; cases e
    · exact .rptrDead _ _ _ _ _ e
    · rw [hb] at e; cases e
    · rw [hb] at e1; cases e1
    · rw [hb] at e1; cases e1
    · rw [hb] at e; cases e

end Go.AM

/- The abstract machine, part 2: a frame's state, how it lies in memory, and what steps keep. No condition. -/
set_option linter.unusedVariables false
set_option linter.unusedSimpArgs false
namespace Go.AM

structure St where
  t : Nat → AC
  b : Nat → ABlk

def upd {α : Type} (f : Nat → α) (i : Nat) (v : α) : Nat → α := fun j => if j = i then v else f j
@[simp] theorem upd_same {α : Type} (f : Nat → α) (i : Nat) (v : α) : upd f i v i = v := by simp [upd]
theorem upd_ne {α : Type} (f : Nat → α) {i j : Nat} (v : α) (h : j ≠ i) : upd f i v j = f j := by simp [upd, h]

def St.put (σ : St) (dst : Option Nat) (y : AC) : St :=
  match dst with
  | some d => ⟨upd σ.t d y, σ.b⟩
  | none => σ

/-- What a call may have turned: the blocks in C, and what is new. -/
structure Foot (C : Nat → Prop) (w w' : World) : Prop where
  os : w'.os = w.os
  tape : w'.tape = w.tape
  output : w'.output = w.output
  size : w.heap.size ≤ w'.heap.size
  block : ∀ k, k < w.heap.size → ¬ C k → w'.heap[k]? = w.heap[k]?

theorem Foot.refl (C : Nat → Prop) (w : World) : Foot C w w := ⟨rfl, rfl, rfl, Nat.le_refl _, fun _ _ _ => rfl⟩
theorem Foot.trans {C : Nat → Prop} {a b c : World} (h : Foot C a b) (k : Foot C b c) : Foot C a c :=
  ⟨k.os.trans h.os, k.tape.trans h.tape, k.output.trans h.output, Nat.le_trans h.size k.size, fun i hi hc => (k.block i (Nat.lt_of_lt_of_le hi h.size) hc).trans (h.block i hi hc)⟩
theorem Foot.below {w w' : World} (h : Foot (fun _ => False) w w') : Go.RowKit.Below w.heap.size w w' := ⟨h.os, h.tape, h.output, h.size, fun k hk => h.block k hk (fun h => h)⟩
theorem Foot.of_below {w w' : World} (h : Go.RowKit.Below w.heap.size w w') (C : Nat → Prop) : Foot C w w' := ⟨h.os, h.tape, h.output, h.size, fun k hk _ => h.block k hk⟩
theorem Foot.drawn (C : Nat → Prop) (w : World) (n : Nat) : Foot C w { w with drawn := n } := ⟨rfl, rfl, rfl, Nat.le_refl _, fun _ _ _ => rfl⟩

/-- What is pending in a loop over a function: none: a return. -/
def markCode : Option Nat → Code
  | none => .ret
  | some id => .exit id

/-- A loop over a function whose iterator is the frame: where its mark is kept, where its record lies, and the record when it is ready. -/
structure LoopI where
  p : Nat
  l : Nat
  r : Loop

def LoopI.obj (i : LoopI) : ABlk → Obj
  | .mark q => .loop { i.r with state := .done, pending := some (markCode q) }
  | _ => .loop i.r

structure Ctx where
  ok0 : Nat → Prop
  C : Nat → Prop
  w0 : World
  n : Nat
  gs : List (AC × Value) := []
  fx : List (Nat × Obj) := []
  lp : Option LoopI := none
  pr : List Nat := []
  nm : Bool := false
  df : List Deferred := []

/-- The frame's deferred calls are marks of loops over functions in whose rounds nothing was deferred. -/
def Marks (base : Nat) (df : List Deferred) (ds : List Deferred) (w : World) : Prop :=
  ∃ Ds : List Nat, ds = Ds.map (fun D => { target := .collected D, args := #[] }) ++ df ∧ Ds.Nodup ∧ ∀ D ∈ Ds, base ≤ D ∧ w.heap[D]? = some (.deferred (some []))

mutual
/-- Does it lead to those slots alone? -/
def onlyC (ls : List Nat) : AC → Bool
  | .d _ => true
  | .row s _ _ _ => ls.contains s
  | .ptr s _ => ls.contains s
  | .rptr s _ _ _ => ls.contains s
  | .vs s _ _ => ls.contains s
  | .clo _ _ caps => onlyCs ls caps
  | .agg cs => onlyCs ls cs
  | .tup cs => onlyCs ls cs
  | .junk => true
def onlyCs (ls : List Nat) : List AC → Bool
  | [] => true
  | c :: cs => onlyC ls c && onlyCs ls cs
end

def Ctx.ok (X : Ctx) (m : Nat → Loc) (k : Nat) : Prop := (X.ok0 k ∨ X.w0.heap.size ≤ k) ∧ ∀ s, (m s).live = true → (m s).blk ≠ k

/-- How a slot lies in memory. -/
def SlotOK (ok : Nat → Prop) (w : World) (b : Nat → ABlk) (m : Nat → Loc) (s : Nat) : Prop :=
  match b s with
  | .fresh => (m s).live = false
  | .dead => (m s).live = false
  | .mark _ => (m s).live = false
  | .var cs => (m s).live = true ∧ ∃ c e, w.heap[(m s).blk]? = some (.cells c e (0, 0)) ∧ c.size = cs.length ∧
      (∀ i, i < cs.length → (c.getD i undef).oneCell' = true) ∧ ∀ i (h : i < cs.length), RelC ok w b m (cs[i]) (c.getD i undef)
  | .row esz els => (m s).live = false ∧ els = [] ∨ (m s).live = true ∧ ∃ c e, w.heap[(m s).blk]? = some (.cells c e (0, 0)) ∧ c.size = (m s).cap * esz ∧
      els.length ≤ (m s).cap ∧ (∀ i (h : i < els.length), (els[i]).length = esz) ∧ (∀ k, k < els.length * esz → (c.getD k undef).oneCell' = true) ∧
      ∀ i j (hi : i < els.length) (hj : j < (els[i]).length), RelD ok w ((els[i])[j]) (c.getD (i * esz + j) undef)

structure Rel (X : Ctx) (σ : St) (m : Nat → Loc) (a : Act) (w : World) : Prop where
  defers : Marks X.w0.heap.size X.df a.defers w ∧ (X.nm = true → a.defers = [])
  size : a.tmps.size = X.n
  tmps : ∀ i, RelC (X.ok m) w σ.b m (σ.t i) (a.tmps.getD i undef)
  slots : ∀ s, SlotOK (X.ok m) w σ.b m s
  inj : ∀ s s', (m s).live = true → (m s').live = true → (m s).blk = (m s').blk → s = s'
  own : ∀ s, (m s).live = true → X.w0.heap.size ≤ (m s).blk
  foot : Foot X.C X.w0 w
  ghosts : ∀ p ∈ X.gs, RelC (X.ok m) w σ.b m p.1 p.2 ∧ onlyC X.pr p.1 = true
  fixed : ∀ p ∈ X.fx, w.heap[p.1]? = some p.2 ∧ p.2.isCells = false
  loop : ∀ i, X.lp = some i → w.heap[i.l]? = some (i.obj (σ.b i.p)) ∧ i.p ∈ X.pr

theorem LoopI.notCells (i : LoopI) (b : ABlk) : (i.obj b).isCells = false := by cases b <;> rfl

section
variable {X : Ctx} {σ : St} {m : Nat → Loc} {a : Act} {w : World}

theorem SlotOK.blkLt {ok : Nat → Prop} {b : Nat → ABlk} {s : Nat} (h : SlotOK ok w b m s) (hl : (m s).live = true) : (m s).blk < w.heap.size := by
  unfold SlotOK at h
  have lt : ∀ {o : Obj}, w.heap[(m s).blk]? = some o → (m s).blk < w.heap.size := fun h => (Array.getElem?_eq_some_iff.1 h).1
  split at h
  · rw [hl] at h; cases h
  · rw [hl] at h; cases h
  · rw [hl] at h; cases h
  · obtain ⟨_, c, e, h, _⟩ := h; exact lt h
  · rcases h with ⟨h, _⟩ | ⟨_, c, e, h, _⟩
    · rw [hl] at h; cases h
    · exact lt h

/-- A live slot's block holds cells. -/
theorem SlotOK.cells {ok : Nat → Prop} {b : Nat → ABlk} {s : Nat} (h : SlotOK ok w b m s) (hl : (m s).live = true) : ∃ o, w.heap[(m s).blk]? = some o ∧ o.isCells = true := by
  unfold SlotOK at h
  split at h
  · rw [hl] at h; cases h
  · rw [hl] at h; cases h
  · rw [hl] at h; cases h
  · obtain ⟨_, c, e, h, _⟩ := h; exact ⟨_, h, rfl⟩
  · rcases h with ⟨h, _⟩ | ⟨_, c, e, h, _⟩
    · rw [hl] at h; cases h
    · exact ⟨_, h, rfl⟩

theorem Rel.notLive (h : Rel X σ m a w) {s k : Nat} {o : Obj} (hl : (m s).live = true) (hk : w.heap[k]? = some o) (ho : o.isCells = false) : k ≠ (m s).blk := fun e => by
  obtain ⟨o', h1, h2⟩ := (h.slots s).cells hl
  rw [← e, hk] at h1; cases h1; rw [ho] at h2; cases h2

theorem heap_lt {w : World} {k : Nat} {o : Obj} (h : w.heap[k]? = some o) : k < w.heap.size := (Array.getElem?_eq_some_iff.1 h).1

theorem Marks.keep {base : Nat} {df ds : List Deferred} {w w' : World} (h : Marks base df ds w) (hk : ∀ (k : Nat) (o : Obj), w.heap[k]? = some o → o.isCells = false → w'.heap[k]? = some o) : Marks base df ds w' := by
  obtain ⟨Ds, h1, h2, h3⟩ := h
  exact ⟨Ds, h1, h2, fun D hD => ⟨(h3 D hD).1, hk _ _ (h3 D hD).2 rfl⟩⟩

theorem Rel.blkLt (h : Rel X σ m a w) {s : Nat} (hl : (m s).live = true) : (m s).blk < w.heap.size := (h.slots s).blkLt hl

/-- A slot's relation under a change of the world that leaves the slot's own block alone. -/
theorem SlotOK.mono {ok ok' : Nat → Prop} {w w' : World} {b b' : Nat → ABlk} {m m' : Nat → Loc} {s : Nat} (hz : w.heap.size ≤ w'.heap.size)
    (h : ∀ b o u, ok b → w.cell? ⟨b, o, none⟩ = some u → w'.cell? ⟨b, o, none⟩ = some u) (hk : ∀ b, b < w.heap.size → ok b → ok' b)
    (ht : ∀ s, Turns (b s) (b' s) (m s) (m' s)) (hb : b' s = b s) (hm : m' s = m s) (hw : (m s).live = true → w'.heap[(m s).blk]? = w.heap[(m s).blk]?)
    (hs : SlotOK ok w b m s) : SlotOK ok' w' b' m' s := by
  unfold SlotOK at *
  rw [hb, hm]
  split at hs
  · exact hs
  · exact hs
  · exact hs
  · obtain ⟨hl, c, e, h1, h2, h2', h3⟩ := hs
    exact ⟨hl, c, e, (hw hl).trans h1, h2, h2', fun i hi => (h3 i hi).mono hz h hk ht⟩
  · rcases hs with hs | ⟨hl, c, e, h1, h2, h3, h4, h4', h5⟩
    · exact .inl hs
    · exact .inr ⟨hl, c, e, (hw hl).trans h1, h2, h3, h4, h4', fun i j hi hj => (h5 i j hi hj).mono hz h hk⟩

theorem cell_lt {w : World} {p : Addr} {u : Value} (h : w.cell? p = some u) : p.block < w.heap.size := World.block_lt_of_cell? w p h
theorem cell_same {w w' : World} {p : Addr} (h : w'.heap[p.block]? = w.heap[p.block]?) : w'.cell? p = w.cell? p := by
  unfold World.cell?; rw [h]

/-- A step that turns no block that was there: what a draw, a new block, a call of a pure function do. -/
theorem Rel.grow (h : Rel X σ m a w) {w' : World} (hf : Foot (fun _ => False) w w') : Rel X σ m a w' := by
  have hc : ∀ (b o : Nat) (u : Value), X.ok m b → w.cell? ⟨b, o, none⟩ = some u → w'.cell? ⟨b, o, none⟩ = some u := fun b o u _ hu => by
    have := cell_lt hu
    rw [cell_same (w := w)]
    · exact hu
    · exact hf.block b this (fun h => h)
  have keep : ∀ (k : Nat) (o : Obj), w.heap[k]? = some o → o.isCells = false → w'.heap[k]? = some o := fun k o hk _ => (hf.block k (heap_lt hk) (fun h => h)).trans hk
  refine ⟨⟨h.defers.1.keep keep, h.defers.2⟩, h.size, fun i => (h.tmps i).mono hf.size hc (fun _ _ h => h) (fun s => .same rfl rfl), fun s => ?_, h.inj, h.own, ?_,
    fun p hp => ⟨(h.ghosts p hp).1.mono hf.size hc (fun _ _ h => h) (fun s => .same rfl rfl), (h.ghosts p hp).2⟩, fun p hp => ⟨keep _ _ (h.fixed p hp).1 (h.fixed p hp).2, (h.fixed p hp).2⟩, fun i hi => ⟨keep _ _ (h.loop i hi).1 (i.notCells _), (h.loop i hi).2⟩⟩
  · exact (h.slots s).mono hf.size hc (fun _ _ h => h) (fun s => .same rfl rfl) rfl rfl (fun hl => hf.block _ (h.blkLt hl) (fun h => h))
  · exact h.foot.trans ⟨hf.os, hf.tape, hf.output, hf.size, fun k hk _ => hf.block k hk (fun h => h)⟩

/-- A temporary is written. -/
theorem Rel.put (h : Rel X σ m a w) {y : AC} {v : Value} (hy : RelC (X.ok m) w σ.b m y v) (dst : Option Nat) (hd : ∀ d, dst = some d → d < X.n) : Rel X (σ.put dst y) m (a.put dst v) w := by
  cases dst with
  | none => exact h
  | some d =>
    refine ⟨h.defers, by simp [Act.put, h.size], fun i => ?_, h.slots, h.inj, h.own, h.foot, h.ghosts, h.fixed, h.loop⟩
    simp only [St.put, Act.put]
    by_cases hi : i = d
    · subst hi
      rw [upd_same]
      have hs : i < a.tmps.size := by rw [h.size]; exact hd i rfl
      simpa [Array.getD, hs] using hy
    · rw [upd_ne _ _ hi]
      have : (a.tmps.setIfInBounds d v).getD i undef = a.tmps.getD i undef := by
        simp only [Array.getD_eq_getD_getElem?]
        rw [Array.getElem?_setIfInBounds_ne (by omega)]
      rw [this]
      exact h.tmps i

/-- One slot turns: its block is written, or another one takes its place; nothing else that was there turns. -/
structure Turn (X : Ctx) (σ : St) (m : Nat → Loc) (w : World) (s : Nat) (bs : ABlk) (l : Loc) (w' : World) : Prop where
  os : w'.os = w.os
  tape : w'.tape = w.tape
  output : w'.output = w.output
  size : w.heap.size ≤ w'.heap.size
  block : ∀ k, k < w.heap.size → ((m s).live = true → k ≠ (m s).blk) → w'.heap[k]? = w.heap[k]?
  turns : Turns (σ.b s) bs (m s) l
  place : l.live = true → ((m s).live = true ∧ l.blk = (m s).blk) ∨ w.heap.size ≤ l.blk

theorem Turn.all {s : Nat} {bs : ABlk} {l : Loc} {w' : World} (ht : Turn X σ m w s bs l w') : ∀ s', Turns (σ.b s') (upd σ.b s bs s') (m s') (upd m s l s') := fun s' => by
  by_cases e : s' = s
  · subst e; rw [upd_same, upd_same]; exact ht.turns
  · rw [upd_ne _ _ e, upd_ne _ _ e]; exact .same rfl rfl

theorem Turn.cells {s : Nat} {bs : ABlk} {l : Loc} {w' : World} (ht : Turn X σ m w s bs l w') (b o : Nat) (u : Value) (hb : X.ok m b) (hu : w.cell? ⟨b, o, none⟩ = some u) : w'.cell? ⟨b, o, none⟩ = some u := by
  have := cell_lt hu
  rw [cell_same (w := w)]
  · exact hu
  · exact ht.block b this (fun hl e => hb.2 s hl e.symm)

theorem Turn.oks {s : Nat} {bs : ABlk} {l : Loc} {w' : World} (ht : Turn X σ m w s bs l w') (b : Nat) (hlt : b < w.heap.size) (hb : X.ok m b) : X.ok (upd m s l) b := by
  refine ⟨hb.1, fun s' hl => ?_⟩
  by_cases e : s' = s
  · subst e
    rw [upd_same] at hl ⊢
    rcases ht.place hl with ⟨h1, h2⟩ | h1
    · rw [h2]; exact hb.2 _ h1
    · omega
  · rw [upd_ne _ _ e] at hl ⊢
    exact hb.2 s' hl

theorem Turn.relC {s : Nat} {bs : ABlk} {l : Loc} {w' : World} (ht : Turn X σ m w s bs l w') {x : AC} {v : Value} (h : RelC (X.ok m) w σ.b m x v) :
    RelC (X.ok (upd m s l)) w' (upd σ.b s bs) (upd m s l) x v := h.mono ht.size ht.cells ht.oks ht.all

theorem Turn.relD {s : Nat} {bs : ABlk} {l : Loc} {w' : World} (ht : Turn X σ m w s bs l w') {x : D} {v : Value} (h : RelD (X.ok m) w x v) :
    RelD (X.ok (upd m s l)) w' x v := h.mono ht.size ht.cells ht.oks

theorem Rel.turn (h : Rel X σ m a w) {s : Nat} {bs : ABlk} {l : Loc} {w' : World} (ht : Turn X σ m w s bs l w') (hm : ∀ q, σ.b s ≠ .mark q ∧ bs ≠ .mark q)
    (hs : SlotOK (X.ok (upd m s l)) w' (upd σ.b s bs) (upd m s l) s) : Rel X ⟨σ.t, upd σ.b s bs⟩ (upd m s l) a w' := by
  have hz : X.w0.heap.size ≤ w.heap.size := h.foot.size
  have keep : ∀ (k : Nat) (o : Obj), w.heap[k]? = some o → o.isCells = false → w'.heap[k]? = some o := fun k o hk ho => (ht.block k (heap_lt hk) (fun hl => h.notLive hl hk ho)).trans hk
  refine ⟨⟨h.defers.1.keep keep, h.defers.2⟩, h.size, fun i => ht.relC (h.tmps i), fun s' => ?_, fun s1 s2 h1 h2 h3 => ?_, fun s' hl => ?_, ?_,
    fun p hp => ⟨ht.relC (h.ghosts p hp).1, (h.ghosts p hp).2⟩, fun p hp => ⟨keep _ _ (h.fixed p hp).1 (h.fixed p hp).2, (h.fixed p hp).2⟩, fun i hi => ⟨?_, (h.loop i hi).2⟩⟩
  · by_cases e : s' = s
    · subst e; exact hs
    · refine (h.slots s').mono ht.size ht.cells ht.oks ht.all (upd_ne _ _ e) (upd_ne _ _ e) (fun hl => ht.block _ (h.blkLt hl) (fun hl' e' => e (h.inj _ _ hl hl' e')))
  · by_cases e1 : s1 = s
    · by_cases e2 : s2 = s
      · rw [e1, e2]
      · subst e1
        rw [upd_same] at h1 h3
        rw [upd_ne _ _ e2] at h2 h3
        rcases ht.place h1 with ⟨k1, k2⟩ | k1
        · exact h.inj _ _ k1 h2 (k2 ▸ h3)
        · have := h.blkLt h2; omega
    · by_cases e2 : s2 = s
      · subst e2
        rw [upd_same] at h2 h3
        rw [upd_ne _ _ e1] at h1 h3
        rcases ht.place h2 with ⟨k1, k2⟩ | k1
        · exact h.inj _ _ h1 k1 (k2 ▸ h3)
        · have := h.blkLt h1; omega
      · rw [upd_ne _ _ e1] at h1 h3
        rw [upd_ne _ _ e2] at h2 h3
        exact h.inj _ _ h1 h2 h3
  · by_cases e : s' = s
    · subst e
      rw [upd_same] at hl ⊢
      rcases ht.place hl with ⟨k1, k2⟩ | k1
      · rw [k2]; exact h.own _ k1
      · omega
    · rw [upd_ne _ _ e] at hl ⊢; exact h.own _ hl
  · refine ⟨ht.os.trans h.foot.os, ht.tape.trans h.foot.tape, ht.output.trans h.foot.output, Nat.le_trans hz ht.size, fun k hk hC => ?_⟩
    refine (ht.block k (by omega) (fun hl e => ?_)).trans (h.foot.block k hk hC)
    have k1 := h.own s hl
    omega
  · have e1 : i.obj (upd σ.b s bs i.p) = i.obj (σ.b i.p) := by
      by_cases e : i.p = s
      · rw [e, upd_same]
        have nm : ∀ q, σ.b s ≠ .mark q ∧ bs ≠ .mark q := hm
        have o1 : ∀ {x : ABlk}, (∀ q, x ≠ .mark q) → i.obj x = .loop i.r := fun {x} hx => by
          cases x <;> first | rfl | exact absurd rfl (hx _)
        rw [o1 (fun q => (nm q).1), o1 (fun q => (nm q).2)]
      · rw [upd_ne _ _ e]
    rw [e1]
    exact keep _ _ (h.loop i hi).1 (i.notCells _)

end
end Go.AM

/- The abstract machine, part 3: operations on abstract values; the check of an operation against the dump's. No condition. -/
set_option linter.unusedVariables false
set_option linter.unusedSimpArgs false
namespace Go.AM
open Go

inductive Opnd where
  | t (n : Nat)
  | i (k : IntKind) (n : Int)
  | bl (x : Bool)
  | s (x : ByteArray)
  | nil
  | f (g : FuncId)
  | niface
  | nf
  | np

/-- A type's shape: one cell, or so many in an aggregate. -/
inductive Sh where
  | one
  | agg (n : Nat)
  deriving DecidableEq

/-- A cell of a type's zero value. -/
inductive Z where
  | i (k : IntKind)
  | bl
  | s
  | sl
  | p
  | fn
  | ni
  | mp
  | any

def Z.val : Z → Value
  | .i k => .int k 0
  | .bl => .bool false
  | .s => .string ByteArray.empty
  | .sl => .slice none 0 0
  | .p => .pointer none
  | .fn => .nilFunc
  | .ni => .nilIface
  | .mp => .map none
  | .any => .nilIface

inductive AOp where
  | mv (x : Opnd)
  | pick (c x y : Opnd)
  | bin (op : BinOp) (x y : Opnd)
  | eqb (neg : Bool) (x y : Opnd)
  | eqs (neg : Bool) (n : Nat) (ls : List (Nat × Nat)) (x y : Opnd)
  | neg (x : Opnd)
  | xr (x : Opnd)
  | not (x : Opnd)
  | ld (sh : Sh) (x : Opnd) (av : List Nat)
  | st (s : Nat) (sh : Sh) (x y : Opnd)
  | alloc (s : Nat) (sh : Sh) (zs : List Z)
  | box (s : Nat) (sh : Sh) (x : Opnd)
  | boxd (sh : Sh) (x : Opnd)
  | fad (off : Nat) (x : Opnd)
  | fld (sh : Sh) (off : Nat) (x : Opnd)
  | ixa (esz : Nat) (x i : Opnd)
  | ixp (n esz : Nat) (x i : Opnd)
  | ixs (x i : Opnd)
  | ixv (sh : Sh) (n esz : Nat) (x i : Opnd)
  | ext (x : Opnd) (k : Nat)
  | build (zs : List Z) (ps : List (Nat × Sh × Opnd))
  | bsl (esz : Nat) (sh : Sh) (ps : List Opnd)
  | len (str : Bool) (x : Opnd)
  | mx (x : Opnd) (ys : List Opnd)
  | mn (x : Opnd) (ys : List Opnd)
  | cv (k : IntKind) (x : Opnd)
  | mkf (g : FuncId) (first caps : List Opnd)
  | mki (t : TypeId) (x : Opnd)
  | call (g : FuncId) (xs : List Opnd)
  | callv (x : Opnd) (xs : List Opnd)
  | app (s : Nat) (esz : Nat) (x y : Opnd)
  | appd (ss : List Nat) (esz : Nat) (x y : Opnd)
  | eqn (neg : Bool) (x : Opnd)
  | nck (x : Opnd)
  | isn (neg : Bool) (x : Opnd)
  | tas (t : TypeId) (x : Opnd)
  | mkia (t : TypeId) (x : Opnd)
  | mvf (s : Nat) (x : Opnd)
  | appz (s : Nat) (esz : Nat) (x y : Opnd)
  | bslr (s esz : Nat) (sh : Sh) (ps : List Opnd)
  | mkv (s : Nat) (z : Z) (x : Opnd)
  | calln (g : FuncId) (xs : List Opnd)
  | icall (lt ls : List Nat) (g : FuncId) (xs : List Opnd)
  | icallv (lt ls : List Nat) (x : Opnd) (xs : List Opnd)
  | callz (lt ls S : List Nat) (g : FuncId) (xs : List Opnd)
  | mks (s : Nat) (esz : Nat) (zs : List Z) (x : Opnd)
  | std (ss : List Nat) (sh : Sh) (x y : Opnd)
  | mksd (ss : List Nat) (esz : Nat) (zs : List Z) (x : Opnd)
  | mksz (s : Nat) (esz : Nat) (zs : List Z) (x : Opnd)
  | slc (esz : Nat) (x : Opnd) (lo hi : Option Opnd)
  | sls (x : Opnd) (lo hi : Option Opnd)
  | nilrow (s : Nat) (esz : Nat)
  | yield (lt pr : List Nat) (x : Opnd) (xs : List Opnd)
  | bad

def evO (t : Nat → AC) : Opnd → AC
  | .t n => t n
  | .i k n => .d (.v (.int k n))
  | .bl x => .d (.v (.bool x))
  | .s x => .d (.v (.string x))
  | .nil => .d (.v (.slice none 0 0))
  | .f g => .d (.clo g [] [])
  | .niface => .d (.v .nilIface)
  | .nf => .d (.v .nilFunc)
  | .np => .d (.v (.pointer none))

def chkO : Operand → Opnd → Bool
  | .tmp t, .t t' => t == t'
  | .const (.int k n), .i k' n' => decide (k = k') && decide (n = n')
  | .const (.bool x), .bl y => x == y
  | .const (.string x), .s y => decide (x = y)
  | .const (.slice none 0 0), .nil => true
  | .const .nilIface, .niface => true
  | .const .nilFunc, .nf => true
  | .const (.pointer none), .np => true
  | .func g, .f g' => g == g'
  | _, _ => false

theorem chkO_sound {X : Ctx} {σ : St} {m : Nat → Loc} {a : Act} {w : World} (h : Rel X σ m a w) : ∀ {x : Operand} {y : Opnd}, chkO x y = true → RelC (X.ok m) w σ.b m (evO σ.t y) (a.eval x)
  | .tmp t, .t t', e => by simp [chkO] at e; subst e; exact h.tmps t
  | .const (.int k n), .i k' n', e => by simp [chkO] at e; obtain ⟨rfl, rfl⟩ := e; exact .d (.v _)
  | .const (.bool x), .bl y, e => by simp [chkO] at e; subst e; exact .d (.v _)
  | .const (.string x), .s y, e => by simp [chkO] at e; subst e; exact .d (.v _)
  | .const (.slice none 0 0), .nil, _ => .d (.v _)
  | .const .nilIface, .niface, _ => .d (.v _)
  | .const .nilFunc, .nf, _ => .d (.v _)
  | .const (.pointer none), .np, _ => .d (.v _)
  | .func g, .f g', e => by simp [chkO] at e; subst e; exact .d (.clo g [] [] #[] #[] rfl rfl (fun j hj => by cases hj) (fun j hj => by cases hj))

def chkOs : List Operand → List Opnd → Bool
  | [], [] => true
  | x :: xs, y :: ys => chkO x y && chkOs xs ys
  | _, _ => false

def isAggT (P : Program) (t : TypeId) : Option Bool :=
  match P.underlying t with
  | some (.struct _) => some true
  | some (.array _ _) => some true
  | some _ => some false
  | none => none
def sizeIs (P : Program) (t : TypeId) (n : Nat) : Bool := match P.info? t with | some i => i.size == n | none => false

/-- A type has that shape. -/
def chkSh (P : Program) (t : TypeId) (sh : Sh) : Bool :=
  match sh with
  | .agg n => isAggT P t == some true && sizeIs P t n
  | .one => isAggT P t == some false && sizeIs P t 1

def oneV : Value → Bool := Value.oneCell'
def oneD : D → Bool
  | .v x => x.oneCell'
  | .agg _ => false
  | .tup _ => false
  | _ => true
/-- Does it surely lie in one cell? -/
def oneC : AC → Bool
  | .d x => oneD x
  | .agg _ => false
  | .tup _ => false
  | .junk => false
  | .row _ _ _ _ => false
  | .ptr _ _ => false
  | .rptr _ _ _ _ => false
  | .vs _ _ _ => false
  | .clo _ _ _ => true

theorem oneD_val {ok : Nat → Prop} {w : World} {x : D} {v : Value} (h : RelD ok w x v) (ho : oneD x = true) : v.oneCell' = true := by
  cases h <;> first | rfl | exact ho | (simp [oneD] at ho)

/-- Does a row or a pointer still stand? (Then it lies in one cell.) -/
def standsB (b : Nat → ABlk) : AC → Bool
  | .row s _ _ tot => match b s with | .row _ els => tot == els.length | _ => false
  | .ptr s _ => match b s with | .var _ => true | _ => false
  | .rptr s _ _ tot => match b s with | .row _ els => tot == els.length | _ => false
  | .vs s _ _ => match b s with | .var _ => true | _ => false
  | x => oneC x

theorem stands_val {ok : Nat → Prop} {w : World} {b : Nat → ABlk} {m : Nat → Loc} {x : AC} {v : Value} (h : RelC ok w b m x v) (ho : standsB b x = true) : v.oneCell' = true := by
  cases h with
  | d h => exact oneD_val h ho
  | row => rfl
  | rowNil => rfl
  | rowStale s off len tot esz els v hb hlt => simp [standsB, hb] at ho; omega
  | rowDead s off len tot v hb => simp [standsB, hb] at ho
  | ptr => rfl
  | ptrDead s off v hb => simp [standsB, hb] at ho
  | rptr => rfl
  | rptrStale s i j tot esz els v hb hlt => simp [standsB, hb] at ho; omega
  | rptrDead s i j tot v hb => simp [standsB, hb] at ho
  | vs => rfl
  | vsDead s off len v hb => simp [standsB, hb] at ho
  | clo => rfl
  | agg => simp [standsB, oneC] at ho
  | tup => simp [standsB, oneC] at ho
  | junk => simp [standsB, oneC] at ho

/-- The cells of a value of a shape. -/
def cellsC (sh : Sh) (x : AC) : Option (List AC) :=
  match sh, x with
  | .agg n, .agg cs => if cs.length = n then some cs else none
  | .agg n, .d (.agg cs) => if cs.length = n then some (cs.map .d) else none
  | .agg _, _ => none
  | .one, .agg _ => none
  | .one, .d (.agg _) => none
  | .one, x => some [x]

theorem cells_of_one {v : Value} (h : v.oneCell' = true) : v.cells = #[v] := by cases v <;> first | rfl | (simp [Value.oneCell'] at h)

/-- A value's cells, as they read. -/
theorem cellsC_sound {ok : Nat → Prop} {w : World} {b : Nat → ABlk} {m : Nat → Loc} {sh : Sh} {x : AC} {v : Value} {cs : List AC} (h : RelC ok w b m x v) (hc : cellsC sh x = some cs)
    (h1 : ∀ c ∈ cs, standsB b c = true) : v.cells.size = cs.length ∧ (∀ j (hj : j < cs.length), RelC ok w b m (cs[j]) (v.cells.getD j undef)) ∧ (∀ u ∈ v.cells.toList, u.oneCell' = true) := by
  have key : ∀ vs : Array Value, vs.size = cs.length → (∀ j (hj : j < cs.length), RelC ok w b m (cs[j]) (vs.getD j undef)) →
      vs.size = cs.length ∧ (∀ j (hj : j < cs.length), RelC ok w b m (cs[j]) (vs.getD j undef)) ∧ (∀ u ∈ vs.toList, u.oneCell' = true) := fun vs hs hr => by
    refine ⟨hs, hr, fun u hu => ?_⟩
    obtain ⟨j, hj, rfl⟩ := List.mem_iff_getElem.1 hu
    have hj' : j < cs.length := by rw [← hs]; simpa using hj
    have := hr j hj'
    have hv := stands_val this (h1 _ (List.getElem_mem _))
    have hj2 : j < vs.size := by simpa using hj
    simpa [Array.getD, hj2] using hv
  unfold cellsC at hc
  split at hc
  · rename_i n cs'
    split at hc <;> cases hc
    cases h with
    | agg _ vs hs hr => exact key vs hs hr
  · rename_i n cs'
    split at hc <;> cases hc
    cases h with
    | d h =>
      cases h with
      | agg _ vs hs hr => exact key vs (by simp [hs]) (fun j hj => by rw [List.getElem_map]; exact .d (hr j (by simpa using hj)))
  · cases hc
  · cases hc
  · cases hc
  · cases hc
    have hv := stands_val h (h1 _ (by simp))
    rw [cells_of_one hv]
    exact key #[v] rfl (fun j hj => by
      have : j = 0 := by simp at hj; omega
      subst this; exact h)

end Go.AM

/- The abstract machine, part 4: what a function's contract says; what an operation does; its check against the dump's. No condition. -/
set_option linter.unusedVariables false
set_option linter.unusedSimpArgs false
namespace Go.AM
open Go

/-- Function g has a body and is entered. -/
def Enters (P : Program) (g : FuncId) : Prop := ∃ fn, P.funcs[g]? = some fn ∧ (fn.name == "runtime.NumGoroutine") = false ∧ fn.body.isNone = false

/-- **The contract of a function without effect**: called with values that read as 'args', it returns a value that reads as 'res'; nothing that was there turns. -/
def PureFn (P : Program) (g : FuncId) (args : List D) (res : D) : Prop :=
  Enters P g ∧ ∀ (ok : Nat → Prop) (w : World) (vs : Array Value), vs.size = args.length → (∀ j (hj : j < args.length), RelD ok w (args[j]) (vs.getD j undef)) →
    Calls P g vs w fun e w' => ∃ v, e = .returned v ∧ RelD (fun k => ok k ∨ w.heap.size ≤ k) w' res v ∧ Foot (fun _ => False) w w'

/-- **The contract of a function without effect whose result lies in new memory.** -/
def FnNew (P : Program) (g : FuncId) (args : List D) (res : D) : Prop :=
  Enters P g ∧ ∀ (w : World) (vs : Array Value), vs.size = args.length → (∀ j (hj : j < args.length), RelD (fun _ => True) w (args[j]) (vs.getD j undef)) →
    Calls P g vs w fun e w' => ∃ v, e = .returned v ∧ RelD (fun k => w.heap.size ≤ k) w' res v ∧ Foot (fun _ => False) w w'

/-- Does it lead to no memory? -/
def flatD : D → Bool
  | .v _ => true
  | .agg cs => cs.all fun | .v _ => true | _ => false
  | .tup cs => cs.all fun | .v _ => true | .agg ds => ds.all (fun | .v _ => true | _ => false) | _ => false
  | .list xs => xs.isEmpty
  | _ => false

def isPure : AC → Bool
  | .d _ => true
  | .agg cs => cs.all fun | .d _ => true | _ => false
  | _ => false

/-- A value as pure data, as things stand. -/
def snap (b : Nat → ABlk) : Nat → AC → Option D
  | 0, _ => none
  | n + 1, x =>
    match x with
    | .d y => some y
    | .row s off len tot => match b s with
      | .row _ els => if tot = els.length ∧ off + len ≤ els.length then some (.list ((els.drop off).take len)) else none
      | _ => none
    | .ptr s off => match b s with
      | .var cs => ((cs.drop off).mapM (snap b n)).map .fptr
      | _ => none
    | .vs s off len => match b s with
      | .var cs => if off + len ≤ cs.length then (((cs.drop off).take len).mapM (snap b n)).map fun ds => .list (ds.map fun d => [d]) else none
      | _ => none
    | .clo g first caps => (caps.mapM (snap b n)).map (.clo g first)
    | .agg cs => (cs.mapM (snap b n)).map .agg
    | _ => none

def bitsA (op : BinOp) (k : IntKind) (x y : Int) : Int :=
  let a := BitVec.ofInt k.bits x
  let b := BitVec.ofInt k.bits y
  match op with
  | .and => k.wrap (a &&& b).toNat
  | .or => k.wrap (a ||| b).toNat
  | .xor => k.wrap (a ^^^ b).toNat
  | _ => k.wrap (a &&& ~~~b).toNat

@[reducible] def iC (k : IntKind) (n : Int) : AC := .d (.v (.int k n))
@[reducible] def bC (x : Bool) : AC := .d (.v (.bool x))

def intA (op : BinOp) (k : IntKind) (a : Int) (k' : IntKind) (b : Int) (K : AC → Prop) : Prop :=
  match op with
  | .add => k = k' ∧ K (iC k (k.wrap (a + b)))
  | .sub => k = k' ∧ K (iC k (k.wrap (a - b)))
  | .mul => k = k' ∧ K (iC k (k.wrap (a * b)))
  | .quo => k = k' ∧ b ≠ 0 ∧ K (iC k (k.wrap (a.tdiv b)))
  | .rem => k = k' ∧ b ≠ 0 ∧ K (iC k (a.tmod b))
  | .and => k = k' ∧ K (iC k (bitsA .and k a b))
  | .or => k = k' ∧ K (iC k (bitsA .or k a b))
  | .xor => k = k' ∧ K (iC k (bitsA .xor k a b))
  | .andNot => k = k' ∧ K (iC k (bitsA .andNot k a b))
  | .shl => 0 ≤ b ∧ K (iC k (k.wrap (a * 2 ^ (min b.toNat k.bits))))
  | .shr => 0 ≤ b ∧ K (iC k (a.fdiv (2 ^ (min b.toNat k.bits))))
  | .eql => k = k' ∧ K (bC (decide (a = b)))
  | .neq => k = k' ∧ K (bC (!decide (a = b)))
  | .lss => k = k' ∧ K (bC (decide (a < b)))
  | .leq => k = k' ∧ K (bC (decide (a ≤ b)))
  | .gtr => k = k' ∧ K (bC (decide (b < a)))
  | .geq => k = k' ∧ K (bC (decide (b ≤ a)))

def strA (op : BinOp) (a b : ByteArray) (K : AC → Prop) : Prop :=
  match op with
  | .add => ((a.size + b.size : Nat) : Int) ≤ IntKind.i64.max ∧ K (.d (.v (.string (a ++ b))))
  | .eql => K (bC (a.toList == b.toList))
  | .neq => K (bC (!(a.toList == b.toList)))
  | .lss => K (bC (Op.bytesLess a.toList b.toList))
  | .leq => K (bC (Op.bytesLess a.toList b.toList || a.toList == b.toList))
  | .gtr => K (bC (!(Op.bytesLess a.toList b.toList || a.toList == b.toList)))
  | .geq => K (bC (!(Op.bytesLess a.toList b.toList)))
  | _ => False

def binA (op : BinOp) (x y : AC) (K : AC → Prop) : Prop :=
  match x, y with
  | .d (.v (.int k a)), .d (.v (.int k' b)) => intA op k a k' b K
  | .d (.v (.string a)), .d (.v (.string b)) => strA op a b K
  | _, _ => False

theorem run_intA {P : Program} {w : World} {op : BinOp} {t : TypeId} {k k' : IntKind} {a b : Int} {K : AC → Prop} (h : intA op k a k' b K) :
    ∃ v, K (.d (.v v)) ∧ (binOp op t (.int k a) (.int k' b)).run P w = .ok v w := by
  cases op <;> simp only [intA] at h
  case shl => obtain ⟨h0, h⟩ := h; exact ⟨_, h, by simp [binOp, Op.shift, Int.not_lt.2 h0]⟩
  case shr => obtain ⟨h0, h⟩ := h; exact ⟨_, h, by simp [binOp, Op.shift, Int.not_lt.2 h0]⟩
  case quo => obtain ⟨rfl, h0, h⟩ := h; exact ⟨_, h, by simp [binOp, Op.intDiv, h0]⟩
  case rem => obtain ⟨rfl, h0, h⟩ := h; exact ⟨_, h, by simp [binOp, Op.intDiv, h0]⟩
  case and => obtain ⟨rfl, h⟩ := h; exact ⟨_, h, by simp [binOp, Op.intBits, bitsA]⟩
  case or => obtain ⟨rfl, h⟩ := h; exact ⟨_, h, by simp [binOp, Op.intBits, bitsA]⟩
  case xor => obtain ⟨rfl, h⟩ := h; exact ⟨_, h, by simp [binOp, Op.intBits, bitsA]⟩
  case andNot => obtain ⟨rfl, h⟩ := h; exact ⟨_, h, by simp [binOp, Op.intBits, bitsA]⟩
  case add => obtain ⟨rfl, h⟩ := h; exact ⟨_, h, by simp [binOp, Op.intArith]⟩
  case sub => obtain ⟨rfl, h⟩ := h; exact ⟨_, h, by simp [binOp, Op.intArith]⟩
  case mul => obtain ⟨rfl, h⟩ := h; exact ⟨_, h, by simp [binOp, Op.intArith]⟩
  all_goals (obtain ⟨rfl, h⟩ := h; exact ⟨_, h, by simp [binOp, Op.intCmp]; try rfl⟩)

theorem run_strA {P : Program} {w : World} {op : BinOp} {t : TypeId} {a b : ByteArray} {K : AC → Prop} (h : strA op a b K) :
    ∃ v, K (.d (.v v)) ∧ (binOp op t (.string a) (.string b)).run P w = .ok v w := by
  cases op <;> simp only [strA] at h
  case add => obtain ⟨h0, h⟩ := h; exact ⟨_, h, by simp only [binOp, Op.stringOp]; rw [if_neg (by omega)]; rfl⟩
  all_goals exact ⟨_, h, by simp [binOp, Op.stringOp]⟩

theorem run_eqGuard_int (P : Program) (w : World) (op : BinOp) (t : TypeId) (xo yo : Operand) (k : IntKind) (a : Int) (k' : IntKind) (b : Int) : (eqGuard op t xo yo (.int k a) (.int k' b)).run P w = .ok () w := by
  unfold eqGuard; cases op <;> simp
theorem run_eqGuard_str (P : Program) (w : World) (op : BinOp) (t : TypeId) (xo yo : Operand) (a b : ByteArray) : (eqGuard op t xo yo (.string a) (.string b)).run P w = .ok () w := by
  unfold eqGuard; cases op <;> simp

theorem run_binA {P : Program} {ok : Nat → Prop} {w : World} {b : Nat → ABlk} {m : Nat → Loc} {op : BinOp} {t : TypeId} {xo yo : Operand} {x y : AC} {u v : Value} {K : AC → Prop}
    (h : binA op x y K) (hx : RelC ok w b m x u) (hy : RelC ok w b m y v) :
    ∃ r, K (.d (.v r)) ∧ (do eqGuard op t xo yo u v; binOp op t u v : Sem Value).run P w = .ok r w := by
  unfold binA at h
  split at h
  · cases hx with | d hx => cases hx; cases hy with | d hy =>
      cases hy
      obtain ⟨r, hr, hrun⟩ := run_intA (P := P) (w := w) (t := t) h
      exact ⟨r, hr, by rw [Sem.run_bind, run_eqGuard_int]; exact hrun⟩
  · cases hx with | d hx => cases hx; cases hy with | d hy =>
      cases hy
      obtain ⟨r, hr, hrun⟩ := run_strA (P := P) (w := w) (t := t) h
      exact ⟨r, hr, by rw [Sem.run_bind, run_eqGuard_str]; exact hrun⟩
  · exact h.elim

def aggOf : AC → Option (List AC)
  | .agg cs => some cs
  | .d (.agg cs) => some (cs.map .d)
  | _ => none

/-- Are two cells equal? (0: numbers, 1: Bools, 2: strings) -/
def eqLeaf : Nat → AC → AC → Option Bool
  | 0, .d (.v (.int k a)), .d (.v (.int k' b)) => if k = k' then some (decide (a = b)) else none
  | 1, .d (.v (.bool a)), .d (.v (.bool b)) => some (a == b)
  | 2, .d (.v (.string a)), .d (.v (.string b)) => some (a.toList == b.toList)
  | _, _, _ => none
/-- Are all those cells equal? -/
def eqLeaves (cs ds : List AC) : List (Nat × Nat) → Option Bool
  | [] => some true
  | (o, k) :: os => match cs[o]?, ds[o]? with
    | some a, some b => match eqLeaf k a b, eqLeaves cs ds os with
      | some r, some s => some (r && s)
      | _, _ => none
    | _, _ => none

def zC (z : Z) : AC := .d (.v z.val)

/-- A literal's cells: zero values, and the parts' over them. -/
def fillC (b : Nat → ABlk) (t : Nat → AC) : List AC → List (Nat × Sh × Opnd) → Option (List AC)
  | cs, [] => some cs
  | cs, (off, sh, x) :: ps =>
    match cellsC sh (evO t x) with
    | some us => if us.all (standsB b) = true ∧ off + us.length ≤ cs.length then fillC b t (cs.take off ++ us ++ cs.drop (off + us.length)) ps else none
    | none => none

def toDs : List AC → Option (List D)
  | [] => some []
  | .d x :: cs => (toDs cs).map (x :: ·)
  | _ :: _ => none

/-- A slice literal's elements. -/
def elsC (b : Nat → ABlk) (t : Nat → AC) (sh : Sh) : List Opnd → Option (List (List D))
  | [] => some []
  | x :: xs =>
    match cellsC sh (evO t x) with
    | some us => if us.all (standsB b) = true then (match toDs us, elsC b t sh xs with | some ds, some es => some (ds :: es) | _, _ => none) else none
    | none => none

def mx2 (mn : Bool) : AC → AC → Option AC
  | .d (.v (.int k a)), .d (.v (.int k' b)) => if k = k' then some (match mn with | true => iC k (min a b) | false => iC k (max a b)) else none
  | _, _ => none
def maxC (mn : Bool) : AC → List AC → Option AC
  | x, [] => some x
  | x, y :: ys => match mx2 mn x y with | some z => maxC mn z ys | none => none

def byteAt (s : ByteArray) (n : Int) : Int := ((s.data.toList.getD n.toNat 0).toNat : Int)

/-- What an append adds. -/
def addsC (b : Nat → ABlk) : AC → Option (List (List D))
  | .d (.list ys) => some ys
  | .d (.v (.slice none 0 0)) => some []
  | .row s off len tot => match b s with
    | .row _ els => if tot = els.length ∧ off + len ≤ els.length then some ((els.drop off).take len) else none
    | _ => none
  | _ => none

def most : Nat := 2 ^ 32

def boundI (t : Nat → AC) (x : Option Opnd) (dflt : Int) (K : Int → Prop) : Prop :=
  match x with
  | none => K dflt
  | some o => match evO t o with
    | .d (.v (.int _ n)) => K n
    | _ => False

/-- What an append does. -/
def appA (σ : St) (s esz : Nat) (x y : Opnd) (K : AC → (Nat → ABlk) → Prop) : Prop :=
  match addsC σ.b (evO σ.t y) with
  | none => False
  | some ys => ys.all (fun e => e.length == esz) = true ∧ (match evO σ.t x with
    | .row s' off len tot => s' = s ∧ off = 0 ∧ len = tot ∧ (match σ.b s with
      | .row esz' els => esz' = esz ∧ tot = els.length ∧ els.length + ys.length ≤ most ∧
          K (.row s 0 (els.length + ys.length) (els.length + ys.length)) (upd σ.b s (.row esz (els ++ ys)))
      | _ => False)
    | .d (.v (.slice none 0 0)) => (match σ.b s with
      | .fresh => ys.length ≤ most ∧ K (.row s 0 ys.length ys.length) (upd σ.b s (.row esz ys))
      | _ => False)
    | _ => False)

/-- An append whose result is frozen. -/
def appZ (σ : St) (s esz : Nat) (x y : Opnd) (K : AC → (Nat → ABlk) → Prop) : Prop :=
  match addsC σ.b (evO σ.t y) with
  | none => False
  | some ys => ys.all (fun e => e.length == esz) = true ∧ (match evO σ.t x with
    | .row s' off len tot => s' = s ∧ off = 0 ∧ len = tot ∧ (match σ.b s with
      | .row esz' els => esz' = esz ∧ tot = els.length ∧ els.length + ys.length ≤ most ∧ K (.d (.list (els ++ ys))) (upd σ.b s .dead)
      | _ => False)
    | .d (.v (.slice none 0 0)) => (match σ.b s with
      | .fresh => ys.length ≤ most ∧ K (.d (.list ys)) (upd σ.b s .dead)
      | _ => False)
    | _ => False)
/-- A store whose slot is chosen at the step. -/
def stA (σ : St) (s : Nat) (sh : Sh) (x y : Opnd) (K : AC → (Nat → ABlk) → Prop) : Prop :=
  match evO σ.t x, cellsC sh (evO σ.t y) with
    | .ptr s' off, some us => s' = s ∧ us.all (standsB σ.b) = true ∧ (match σ.b s with
      | .var cs => off + us.length ≤ cs.length ∧ K (.d (.v undef)) (upd σ.b s (.var (cs.take off ++ us ++ cs.drop (off + us.length))))
      | _ => False)
    | .rptr s' i j tot, some us => s' = s ∧ us.all (standsB σ.b) = true ∧ (match σ.b s, toDs us with
      | .row esz els, some ds => tot = els.length ∧ i < els.length ∧ j + ds.length ≤ (els.getD i []).length ∧
          K (.d (.v undef)) (upd σ.b s (.row esz (els.set i ((els.getD i []).take j ++ ds ++ (els.getD i []).drop (j + ds.length)))))
      | _, _ => False)
    | _, _ => False
/-- A row of zeros whose slot is chosen at the step. -/
def mksA (σ : St) (s esz : Nat) (zs : List Z) (x : Opnd) (K : AC → (Nat → ABlk) → Prop) : Prop :=
  match evO σ.t x, σ.b s with
    | .d (.v (.int .i64 n)), .fresh => 0 ≤ n ∧ n ≤ most ∧ K (.row s 0 n.toNat n.toNat) (upd σ.b s (.row esz (List.replicate n.toNat (zs.map fun z => .v z.val))))
    | _, _ => False

/-- Values that stand as they are. -/
def flatVs : List AC → Option (List Value)
  | [] => some []
  | .d (.v v) :: cs => (flatVs cs).map (v :: ·)
  | _ :: _ => none

/-- **What an operation does**: the value that it yields and the slots behind it go to K. -/
def opA (P : Program) (op : AOp) (σ : St) (K : AC → (Nat → ABlk) → Prop) : Prop :=
  match op with
  | .mv x => K (evO σ.t x) σ.b
  | .pick c x y => match evO σ.t c with
    | .d (.v (.bool c)) => (c = true → K (evO σ.t x) σ.b) ∧ (c = false → K (evO σ.t y) σ.b)
    | _ => False
  | .bin op x y => binA op (evO σ.t x) (evO σ.t y) fun r => K r σ.b
  | .eqb neg x y => match evO σ.t x, evO σ.t y with
    | .d (.v (.bool a)), .d (.v (.bool c)) => K (bC (if neg then !(a == c) else a == c)) σ.b
    | _, _ => False
  | .eqs neg n ls x y => match aggOf (evO σ.t x), aggOf (evO σ.t y) with
    | some cs, some ds => cs.length = n ∧ ds.length = n ∧ (match eqLeaves cs ds ls with
      | some r => K (bC (if neg then !r else r)) σ.b
      | none => False)
    | _, _ => False
  | .neg x => match evO σ.t x with
    | .d (.v (.int k n)) => K (iC k (k.wrap (0 - n))) σ.b
    | _ => False
  | .xr x => match evO σ.t x with
    | .d (.v (.int k n)) => K (iC k (bitsA .xor k (if k.signed then -1 else k.max) n)) σ.b
    | _ => False
  | .not x => match evO σ.t x with
    | .d (.v (.bool a)) => K (bC (!a)) σ.b
    | _ => False
  | .ld sh x av => match evO σ.t x with
    | .ptr s off => s ∉ av ∧ (match σ.b s with
      | .var cs => (match sh with
        | .one => (match cs[off]? with | some c => K c σ.b | none => False)
        | .agg n => off + n ≤ cs.length ∧ K (.agg ((cs.drop off).take n)) σ.b)
      | _ => False)
    | .d (.fptr cs) => (match sh with
      | .one => (match cs with | c :: _ => K (.d c) σ.b | [] => False)
      | .agg n => n ≤ cs.length ∧ K (.d (.agg (cs.take n))) σ.b)
    | .rptr s i j tot => s ∉ av ∧ (match σ.b s with
      | .row _ els => tot = els.length ∧ i < els.length ∧ (match sh with
        | .one => (match (els.getD i [])[j]? with | some c => K (.d c) σ.b | none => False)
        | .agg n => j + n ≤ (els.getD i []).length ∧ K (.d (.agg (((els.getD i []).drop j).take n))) σ.b)
      | _ => False)
    | _ => False
  | .st s sh x y => match evO σ.t x, cellsC sh (evO σ.t y) with
    | .ptr s' off, some us => s' = s ∧ us.all (standsB σ.b) = true ∧ (match σ.b s with
      | .var cs => off + us.length ≤ cs.length ∧ K (.d (.v undef)) (upd σ.b s (.var (cs.take off ++ us ++ cs.drop (off + us.length))))
      | _ => False)
    | .rptr s' i j tot, some us => s' = s ∧ us.all (standsB σ.b) = true ∧ (match σ.b s, toDs us with
      | .row esz els, some ds => tot = els.length ∧ i < els.length ∧ j + ds.length ≤ (els.getD i []).length ∧
          K (.d (.v undef)) (upd σ.b s (.row esz (els.set i ((els.getD i []).take j ++ ds ++ (els.getD i []).drop (j + ds.length)))))
      | _, _ => False)
    | _, _ => False
  | .alloc s _ zs => match σ.b s with
    | .fresh => K (.ptr s 0) (upd σ.b s (.var (zs.map zC)))
    | _ => False
  | .box s sh x => match σ.b s, cellsC sh (evO σ.t x) with
    | .fresh, some us => us.all (standsB σ.b) = true ∧ K (.ptr s 0) (upd σ.b s (.var us))
    | _, _ => False
  | .boxd sh x => match cellsC sh (evO σ.t x) with
    | some us => (match toDs us with
      | some ds => ds.all oneD = true ∧ K (.d (.fptr ds)) σ.b
      | none => False)
    | none => False
  | .fad off x => match evO σ.t x with
    | .ptr s o => (match σ.b s with | .var _ => K (.ptr s (o + off)) σ.b | _ => False)
    | .d (.fptr cs) => K (.d (.fptr (cs.drop off))) σ.b
    | .rptr s i j tot => (match σ.b s with | .row _ els => tot = els.length ∧ K (.rptr s i (j + off) tot) σ.b | _ => False)
    | _ => False
  | .fld sh off x => match evO σ.t x with
    | .agg cs => (match sh with
      | .one => (match cs[off]? with | some c => K c σ.b | none => False)
      | .agg n => off + n ≤ cs.length ∧ K (.agg ((cs.drop off).take n)) σ.b)
    | .d (.agg cs) => (match sh with
      | .one => (match cs[off]? with | some c => K (.d c) σ.b | none => False)
      | .agg n => off + n ≤ cs.length ∧ K (.d (.agg ((cs.drop off).take n))) σ.b)
    | _ => False
  | .ixa esz x i => match evO σ.t x, evO σ.t i with
    | .d (.list xs), .d (.v (.int _ n)) => 0 ≤ n ∧ n < xs.length ∧ (xs.getD n.toNat []).length = esz ∧ K (.d (.fptr (xs.getD n.toNat []))) σ.b
    | .row s off len tot, .d (.v (.int _ n)) => 0 ≤ n ∧ n < len ∧ (match σ.b s with
      | .row esz' els => esz' = esz ∧ tot = els.length ∧ K (.rptr s (off + n.toNat) 0 tot) σ.b
      | _ => False)
    | .vs s off len, .d (.v (.int _ n)) => esz = 1 ∧ 0 ≤ n ∧ n < len ∧ (match σ.b s with | .var _ => K (.ptr s (off + n.toNat)) σ.b | _ => False)
    | _, _ => False
  | .ixp n esz x i => match evO σ.t x, evO σ.t i with
    | .ptr s off, .d (.v (.int _ k)) => 0 ≤ k ∧ k < n ∧ (match σ.b s with | .var _ => K (.ptr s (off + k.toNat * esz)) σ.b | _ => False)
    | _, _ => False
  | .ixs x i => match evO σ.t x, evO σ.t i with
    | .d (.v (.string s)), .d (.v (.int _ n)) => 0 ≤ n ∧ n < s.size ∧ K (iC .u8 (byteAt s n)) σ.b
    | _, _ => False
  | .ixv sh n esz x i => match evO σ.t x, evO σ.t i with
    | .agg cs, .d (.v (.int _ k)) => 0 ≤ k ∧ k < n ∧ (match sh with
      | .one => (match cs[k.toNat * esz]? with | some c => K c σ.b | none => False)
      | .agg q => k.toNat * esz + q ≤ cs.length ∧ K (.agg ((cs.drop (k.toNat * esz)).take q)) σ.b)
    | .d (.agg cs), .d (.v (.int _ k)) => 0 ≤ k ∧ k < n ∧ (match sh with
      | .one => (match cs[k.toNat * esz]? with | some c => K (.d c) σ.b | none => False)
      | .agg q => k.toNat * esz + q ≤ cs.length ∧ K (.d (.agg ((cs.drop (k.toNat * esz)).take q))) σ.b)
    | _, _ => False
  | .ext x k => match evO σ.t x with
    | .tup vs => (match vs[k]? with | some c => K c σ.b | none => False)
    | .d (.tup vs) => (match vs[k]? with | some c => K (.d c) σ.b | none => False)
    | _ => False
  | .build zs ps => match fillC σ.b σ.t (zs.map zC) ps with
    | some cs => K (.agg cs) σ.b
    | none => False
  | .bsl esz sh ps => match elsC σ.b σ.t sh ps with
    | some es => es.all (fun e => e.length == esz) = true ∧ K (.d (.list es)) σ.b
    | none => False
  | .len str x => match evO σ.t x with
    | .d (.list xs) => str = false ∧ K (iC .i64 xs.length) σ.b
    | .d (.v (.slice none 0 0)) => str = false ∧ K (iC .i64 0) σ.b
    | .d (.v (.string s)) => str = true ∧ K (iC .i64 s.size) σ.b
    | .row s _ len tot => str = false ∧ (match σ.b s with | .row _ els => tot = els.length ∧ K (iC .i64 len) σ.b | _ => False)
    | .vs s _ len => str = false ∧ (match σ.b s with | .var _ => K (iC .i64 len) σ.b | _ => False)
    | _ => False
  | .mx x ys => match maxC false (evO σ.t x) (ys.map (evO σ.t)) with
    | some r => K r σ.b
    | none => False
  | .mn x ys => match maxC true (evO σ.t x) (ys.map (evO σ.t)) with
    | some r => K r σ.b
    | none => False
  | .cv k x => match evO σ.t x with
    | .d (.v (.int _ n)) => K (iC k (k.wrap n)) σ.b
    | _ => False
  | .mkf g first caps => match toDs (first.map (evO σ.t)), toDs (caps.map (evO σ.t)) with
    | some f, some c => K (.d (.clo g f c)) σ.b
    | some f, none => K (.clo g f (caps.map (evO σ.t))) σ.b
    | _, _ => False
  | .isn neg x => match evO σ.t x with
    | .d (.v .nilIface) => K (bC (!neg)) σ.b
    | .d (.v (.iface _ _)) => K (bC neg) σ.b
    | _ => False
  | .tas t x => match evO σ.t x with
    | .d (.v (.iface t' (.agg vs))) => t' = t ∧ K (.tup [.agg (vs.toList.map fun v => .d (.v v)), bC true]) σ.b
    | _ => False
  | .mkia t x => match evO σ.t x with
    | .agg cs => match flatVs cs with
      | some vs => K (.d (.v (.iface t (.agg vs.toArray)))) σ.b
      | none => False
    | _ => False
  | .mki t x => match evO σ.t x with
    | .d (.v u) => u.oneCell' = true ∧ K (.d (.v (.iface t u))) σ.b
    | _ => False
  | .call g xs => match (xs.map (evO σ.t)).mapM (snap σ.b 4) with
    | some ds => ∃ res, PureFn P g ds res ∧ ((xs.map (evO σ.t)).all isPure = true ∨ flatD res = true) ∧ K (.d res) σ.b
    | none => False
  | .callv x xs => match snap σ.b 4 (evO σ.t x), (xs.map (evO σ.t)).mapM (snap σ.b 4) with
    | some (.clo g first caps), some ds => ∃ res, PureFn P g (first ++ ds ++ caps) res ∧ ((evO σ.t x :: xs.map (evO σ.t)).all isPure = true ∨ flatD res = true) ∧ K (.d res) σ.b
    | _, _ => False
  | .app s esz x y => appA σ s esz x y K
  | .appd ss esz x y => ∃ s, s ∈ ss ∧ appA σ s esz x y K
  | .mks s esz zs x => match evO σ.t x, σ.b s with
    | .d (.v (.int .i64 n)), .fresh => 0 ≤ n ∧ n ≤ most ∧ K (.row s 0 n.toNat n.toNat) (upd σ.b s (.row esz (List.replicate n.toNat (zs.map fun z => .v z.val))))
    | _, _ => False
  | .std ss sh x y => ∃ s, s ∈ ss ∧ stA σ s sh x y K
  | .mksd ss esz zs x => ∃ s, s ∈ ss ∧ mksA σ s esz zs x K
  | .mksz s esz zs x => match evO σ.t x, σ.b s with
    | .d (.v (.int .i64 n)), .fresh => 0 ≤ n ∧ n ≤ most ∧ K (.d (.list (List.replicate n.toNat (zs.map fun z => .v z.val)))) (upd σ.b s .dead)
    | _, _ => False
  | .slc esz x lo hi => match evO σ.t x with
    | .d (.list xs) => boundI σ.t lo 0 fun l => boundI σ.t hi xs.length fun h => 0 ≤ l ∧ l ≤ h ∧ h ≤ xs.length ∧ (l < h → (xs.getD l.toNat []).length = esz) ∧ K (.d (.list ((xs.drop l.toNat).take (h.toNat - l.toNat)))) σ.b
    | .row s off len tot => lo = none ∧ boundI σ.t hi len fun h => 0 ≤ h ∧ h ≤ len ∧ (match σ.b s with | .row esz' els => esz' = esz ∧ tot = els.length ∧ K (.row s off h.toNat tot) σ.b | _ => False)
    | _ => False
  | .sls x lo hi => match evO σ.t x with
    | .d (.v (.string s)) => boundI σ.t lo 0 fun l => boundI σ.t hi s.size fun h => 0 ≤ l ∧ l ≤ h ∧ h ≤ s.size ∧ K (.d (.v (.string (s.extract l.toNat h.toNat)))) σ.b
    | _ => False
  | .nilrow s esz => match σ.b s with
    | .fresh => K (.row s 0 0 0) (upd σ.b s (.row esz []))
    | _ => False
  | .nck x => match evO σ.t x with
    | .ptr s off => (match σ.b s with | .var _ => K (.ptr s off) σ.b | _ => False)
    | .d (.fptr cs) => K (.d (.fptr cs)) σ.b
    | _ => False
  | .eqn neg x => match evO σ.t x with
    | .d (.v (.slice none 0 0)) => K (bC (!neg)) σ.b
    | .d (.list (_ :: _)) => K (bC neg) σ.b
    | _ => False
  | .mvf s x => match evO σ.t x with
    | .row s' off len tot => s' = s ∧ off = 0 ∧ len = tot ∧ (match σ.b s with
      | .row _ els => tot = els.length ∧ K (.d (.list els)) (upd σ.b s .dead)
      | _ => False)
    | _ => False
  | .appz s esz x y => appZ σ s esz x y K
  | .bslr s esz sh ps => match elsC σ.b σ.t sh ps, σ.b s with
    | some es, .fresh => es.all (fun e => e.length == esz) = true ∧ K (.row s 0 es.length es.length) (upd σ.b s (.row esz es))
    | _, _ => False
  | .mkv s z x => match evO σ.t x, σ.b s with
    | .d (.v (.int .i64 n)), .fresh => 0 ≤ n ∧ n ≤ most ∧ K (.vs s 0 n.toNat) (upd σ.b s (.var (List.replicate n.toNat (zC z))))
    | _, _ => False
  | .calln g xs => match (xs.map (evO σ.t)).mapM (snap σ.b 4) with
    | some ds => ∃ res, FnNew P g ds res ∧ K (.d res) σ.b
    | none => False
  | .yield _ _ _ _ => False
  | .icall _ _ _ _ => False
  | .icallv _ _ _ _ => False
  | .callz _ _ _ _ _ => False
  | .bad => False

/-! ### The check of an operation against the dump's -/
def chkZ : Value → Z → Bool
  | .int k n, .i k' => decide (k = k') && decide (n = 0)
  | .bool x, .bl => !x
  | .string x, .s => decide (x = ByteArray.empty)
  | .slice none 0 0, .sl => true
  | .pointer none, .p => true
  | .nilFunc, .fn => true
  | .nilIface, .ni => true
  | .map none, .mp => true
  | _, _ => false
def chkZs : List Value → List Z → Bool
  | [], [] => true
  | x :: xs, z :: zs => chkZ x z && chkZs xs zs
  | _, _ => false

theorem chkZ_val : ∀ {x : Value} {z : Z}, chkZ x z = true → x = z.val
  | .int k n, .i k', h => by simp [chkZ] at h; obtain ⟨rfl, rfl⟩ := h; rfl
  | .bool x, .bl, h => by simp [chkZ] at h; subst h; rfl
  | .string x, .s, h => by simp [chkZ] at h; subst h; rfl
  | .slice none 0 0, .sl, _ => rfl
  | .pointer none, .p, _ => rfl
  | .nilFunc, .fn, _ => rfl
  | .nilIface, .ni, _ => rfl
  | .map none, .mp, _ => rfl
theorem chkZs_val : ∀ {xs : List Value} {zs : List Z}, chkZs xs zs = true → xs = zs.map Z.val
  | [], [], _ => rfl
  | x :: xs, z :: zs, h => by simp [chkZs] at h; rw [chkZ_val h.1, chkZs_val h.2]; rfl

def zeroOf (P : Program) (t : TypeId) : Option Value := (P.info? t).bind (·.zero)
def chkZero (P : Program) (t : TypeId) (zs : List Z) : Bool := match zeroOf P t with | some z => chkZs z.cells.toList zs | none => false
def bytesSmall (P : Program) (t : TypeId) : Bool := match P.info? t with | some i => decide (i.bytes ≤ 4096) && (match i.zero with | some z => z.cells.size == i.size | none => false) | none => false

/-- A literal's parts: each at its place in the type. -/
def chkParts (P : Program) (place : Nat → Option (Nat × TypeId)) : List (Nat × Operand) → List (Nat × Sh × Opnd) → Bool
  | [], [] => true
  | (i, x) :: ps, (off, sh, y) :: qs => (match place i with | some (o, t) => o == off && chkSh P t sh | none => false) && chkO x y && chkParts P place ps qs
  | _, _ => false
def chkEls (P : Program) : Nat → List (Nat × Operand) → List Opnd → Bool
  | _, [], [] => true
  | n, (i, x) :: ps, y :: qs => i == n && chkO x y && chkEls P (n + 1) ps qs
  | _, _, _ => false
def chkOpt : Option Operand → Option Opnd → Bool
  | none, none => true
  | some x, some y => chkO x y
  | _, _ => false

/-- Where a struct's leaves lie: numbers, strings, Bools. -/
def leavesOf (P : Program) : Nat → TypeId → Nat → Option (List (Nat × Nat))
  | 0, _, _ => none
  | f + 1, t, off => match P.underlying t with
    | some (.int _) => some [(off, 0)]
    | some .bool => some [(off, 1)]
    | some .string => some [(off, 2)]
    | some (.struct fs) => match P.info? t with
      | none => none
      | some i => if P.stoodInHeld t then none else fs.toList.foldr (fun fl acc => match P.info? fl.type, acc with
        | some j, some b => if fl.name == "_" || decide (i.size < fl.offset + j.size) || j.size == 0 then none else (match leavesOf P f fl.type (off + fl.offset) with | some a => some (a ++ b) | none => none)
        | _, _ => none) (some [])
    | _ => none

def chkA (P : Program) (op : Op) (aop : AOp) : Bool :=
  match aop, op with
  | .mv y, .move x => chkO x y
  | .mv y, .assign x => chkO x y
  | .nilrow _ _, .assign (.const (.slice none 0 0)) => true
  | .nilrow _ _, .move (.const (.slice none 0 0)) => true
  | .pick c x y, .pick c' x' y' => chkO c' c && chkO x' x && chkO y' y
  | .bin op x y, .binOp op' _ x' y' _ => decide (op = op') && chkO x' x && chkO y' y
  | .eqb neg x y, .binOp op' t x' y' _ => decide (op' = if neg then BinOp.neq else .eql) && (match P.underlying t with | some .bool => true | _ => false) && chkO x' x && chkO y' y
  | .eqs neg n ls x y, .binOp op' t x' y' _ => decide (op' = if neg then BinOp.neq else .eql) && chkSh P t (.agg n) && !P.eqGuardType P.depth t && leavesOf P 8 t 0 == some ls && chkO x' x && chkO y' y
  | .neg x, .unOp .neg _ x' => chkO x' x
  | .xr x, .unOp .xor _ x' => chkO x' x
  | .not x, .unOp .not _ x' => chkO x' x
  | .ld sh x _, .load t x' => chkSh P t sh && chkO x' x
  | .st _ sh x y, .store t x' y' => chkSh P t sh && chkO x' x && chkO y' y
  | .std _ sh x y, .store t x' y' => chkSh P t sh && chkO x' x && chkO y' y
  | .alloc _ _ zs, .alloc t => chkZero P t zs
  | .box _ _ x, .box _ x' => chkO x' x
  | .boxd _ x, .box _ x' => chkO x' x
  | .fad off x, .fieldAddr t x' f => (match P.underlying t with
      | some (.struct fs) => (match fs[f]? with | some fl => fl.offset == off && !sizeIs P fl.type 0 && (P.info? fl.type).isSome | none => false)
      | _ => false) && chkO x' x
  | .fld sh off x, .field t x' f => (match P.underlying t with
      | some (.struct fs) => (match fs[f]? with | some fl => fl.offset == off && chkSh P fl.type sh | none => false)
      | _ => false) && chkO x' x
  | .ixa esz x i, .indexAddr t x' i' => (match P.underlying t with | some (.slice e) => sizeIs P e esz | _ => false) && chkO x' x && chkO i' i
  | .ixp n esz x i, .indexAddr t x' i' => (match P.underlying t with | some (.array n' e) => n == n' && sizeIs P e esz | _ => false) && chkO x' x && chkO i' i
  | .ixs x i, .index t x' i' => (match P.underlying t with | some .string => true | _ => false) && chkO x' x && chkO i' i
  | .ixv sh n esz x i, .index t x' i' => (match P.underlying t with | some (.array n' e) => n == n' && sizeIs P e esz && chkSh P e sh | _ => false) && chkO x' x && chkO i' i
  | .ext x k, .extract x' k' => k == k' && chkO x' x
  | .build zs ps, .build t ps' => chkZero P t zs && (match P.underlying t with
      | some (.struct fs) => (fs.toList.mapM (fun f => (P.info? f.type).map fun i => (f.offset, i.size))).isSome && chkParts P (fun i => (fs[i]?).map fun f => (f.offset, f.type)) ps'.toList ps
      | some (.array _ e) => (match P.info? e with | some i => chkParts P (fun j => some (j * i.size, e)) ps'.toList ps | none => false)
      | _ => false)
  | .bsl esz sh xs, .buildSlice t n ps => (match P.underlying t with
      | some (.slice e) => sizeIs P e esz && chkSh P e sh && (zeroOf P e).isSome
      | _ => false) && n == xs.length && decide (n * esz ≤ 16777216) && chkEls P 0 ps.toList xs
  | .len str x, .call c => (match c.callee, c.args.toList, c.argTypes.toList with
      | .builtin .len, [x'], [t] => chkO x' x && (match P.underlying t, str with | some .string, true => true | some (.slice _), false => true | _, _ => false)
      | _, _, _ => false)
  | .mx x ys, .call c => (match c.callee, c.args.toList with | .builtin .max, x' :: ys' => chkO x' x && chkOs ys' ys | _, _ => false)
  | .mn x ys, .call c => (match c.callee, c.args.toList with | .builtin .min, x' :: ys' => chkO x' x && chkOs ys' ys | _, _ => false)
  | .cv k x, .convert s t x' => (match P.underlying s, P.underlying t with | some (.int _), some (.int k') => decide (k = k') | _, _ => false) && chkO x' x
  | .mkf g f c, .makeFunc (.func g') f' c' => g == g' && chkOs f'.toList f && chkOs c'.toList c
  | .isn neg x, .binOp op' t x' y' _ => decide (op' = if neg then BinOp.neq else .eql) && (match P.underlying t with | some (.interface _) => true | _ => false) && chkO x' x && (match y' with | .const .nilIface => true | _ => false)
  | .tas t x, .typeAssert x' _ t' ok => t == t' && ok && (match P.underlying t with | some (.interface _) => false | some _ => true | none => false) && chkO x' x
  | .mkia t x, .makeInterface t' x' => t == t' && (match P.underlying t with | some (.interface _) => false | some _ => true | none => false) && chkO x' x
  | .mki t x, .makeInterface t' x' => t == t' && (match P.underlying t with | some (.interface _) => false | some _ => true | none => false) && chkO x' x
  | .call g xs, .call c => (match c.callee with | .value (.func g') => g == g' && chkOs c.args.toList xs | _ => false)
  | .callv x xs, .call c => (match c.callee with | .value x' => chkO x' x && chkOs c.args.toList xs | _ => false)
  | .yield _ _ x xs, .call c => (match c.callee with | .value x' => chkO x' x && chkOs c.args.toList xs | _ => false)
  | .app _ esz x y, .call c => (match c.callee, c.args.toList, c.argTypes.toList with
      | .builtin .append, [x', y'], [t, u] => chkO x' x && chkO y' y && (match P.underlying t with | some (.slice e) => sizeIs P e esz && bytesSmall P e | _ => false) &&
          (match P.underlying u with | some (.slice _) => true | _ => false)
      | _, _, _ => false)
  | .appd _ esz x y, .call c => (match c.callee, c.args.toList, c.argTypes.toList with
      | .builtin .append, [x', y'], [t, u] => chkO x' x && chkO y' y && (match P.underlying t with | some (.slice e) => sizeIs P e esz && bytesSmall P e | _ => false) &&
          (match P.underlying u with | some (.slice _) => true | _ => false)
      | _, _, _ => false)
  | .appz _ esz x y, .call c => (match c.callee, c.args.toList, c.argTypes.toList with
      | .builtin .append, [x', y'], [t, u] => chkO x' x && chkO y' y && (match P.underlying t with | some (.slice e) => sizeIs P e esz && bytesSmall P e | _ => false) &&
          (match P.underlying u with | some (.slice _) => true | _ => false)
      | _, _, _ => false)
  | .mvf _ x, .move x' => chkO x' x
  | .mvf _ x, .assign x' => chkO x' x
  | .mks _ esz zs x, .makeSlice t l c => (match P.underlying t with | some (.slice e) => sizeIs P e esz && bytesSmall P e && chkZero P e zs && zs.length == esz | _ => false) && chkO l x && chkO c x
  | .mksd _ esz zs x, .makeSlice t l c => (match P.underlying t with | some (.slice e) => sizeIs P e esz && bytesSmall P e && chkZero P e zs && zs.length == esz | _ => false) && chkO l x && chkO c x
  | .mksz _ esz zs x, .makeSlice t l c => (match P.underlying t with | some (.slice e) => sizeIs P e esz && bytesSmall P e && chkZero P e zs && zs.length == esz | _ => false) && chkO l x && chkO c x
  | .slc esz x lo hi, .slice t x' lo' hi' none => (match P.underlying t with | some (.slice e) => sizeIs P e esz | _ => false) && chkO x' x && chkOpt lo' lo && chkOpt hi' hi
  | .sls x lo hi, .slice t x' lo' hi' none => (match P.underlying t with | some .string => true | _ => false) && chkO x' x && chkOpt lo' lo && chkOpt hi' hi
  | .nck x, .nilCheck x' => chkO x' x
  | .eqn neg x, .binOp op' t x' y' _ => decide (op' = if neg then BinOp.neq else .eql) && (match P.underlying t with | some (.slice _) => true | _ => false) && chkO x' x && (match y' with | .const (.slice none 0 0) => true | _ => false)
  | .bslr _ esz sh xs, .buildSlice t n ps => (match P.underlying t with
      | some (.slice e) => sizeIs P e esz && chkSh P e sh && (zeroOf P e).isSome
      | _ => false) && n == xs.length && decide (n * esz ≤ 16777216) && chkEls P 0 ps.toList xs
  | .mkv _ z x, .makeSlice t l c => (match P.underlying t with | some (.slice e) => sizeIs P e 1 && bytesSmall P e && chkZero P e [z] | _ => false) && chkO l x && chkO c x
  | .calln g xs, .call c => (match c.callee with | .value (.func g') => g == g' && chkOs c.args.toList xs | _ => false)
  | .icall _ _ g xs, .call c => (match c.callee with | .value (.func g') => g == g' && chkOs c.args.toList xs | _ => false)
  | .callz _ _ _ g xs, .call c => (match c.callee with | .value (.func g') => g == g' && chkOs c.args.toList xs | _ => false)
  | .icallv _ _ x xs, .call c => (match c.callee with | .value x' => chkO x' x && chkOs c.args.toList xs | _ => false)
  | .bad, _ => true
  | _, _ => false

end Go.AM
