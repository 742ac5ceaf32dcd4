/- The abstract machine, part 1: abstract data, abstract cells, and how they read in memory. No condition. -/
import Derived.RangeFuncIn
import Derived.RangeFuncCalls
import Derived.RangeFuncRecord
import Derived.OrdersIn
import Derived.Below
import Derived.KernelRfl
import Derived.Laws.Sem
set_option linter.unusedVariables false
set_option linter.unusedSimpArgs false
namespace Go.AM

/-- Pure data: what no frame will write again. A cell's content, or a value. -/
inductive D where
  | v (x : Value)
  | list (xs : List (List D))
  | fptr (cs : List D)
  | clo (f : FuncId) (first caps : List D)
  | agg (cs : List D)
  | tup (vs : List D)
  deriving Inhabited

/-- A value reads as pure data: what it leads to lies in blocks that are 'ok'. -/
inductive RelD (ok : Nat → Prop) (w : World) : D → Value → Prop
  | v (x : Value) : RelD ok w (.v x) x
  | empty (a : Option Addr) (cap : Nat) : RelD ok w (.list []) (.slice a 0 cap)
  | list (xs : List (List D)) (B off cap esz : Nat) (f : Nat → Nat → Value) (hok : ok B) (hB : B < w.heap.size) (hcap : xs.length ≤ cap)
      (hsz : ∀ i (h : i < xs.length), (xs[i]).length = esz)
      (hc : ∀ i j, i < xs.length → j < esz → w.cell? ⟨B, off + (i * esz + j), none⟩ = some (f i j)) (h1 : ∀ i j, i < xs.length → j < esz → (f i j).oneCell' = true)
      (hr : ∀ i j (hi : i < xs.length) (hj : j < (xs[i]).length), RelD ok w ((xs[i])[j]) (f i j)) :
      RelD ok w (.list xs) (.slice (some ⟨B, off, none⟩) xs.length cap)
  | fptr (cs : List D) (B off : Nat) (f : Nat → Value) (hok : ok B) (hB : B < w.heap.size)
      (hc : ∀ j, j < cs.length → w.cell? ⟨B, off + j, none⟩ = some (f j)) (h1 : ∀ j, j < cs.length → (f j).oneCell' = true)
      (hr : ∀ j (hj : j < cs.length), RelD ok w (cs[j]) (f j)) :
      RelD ok w (.fptr cs) (.pointer (some ⟨B, off, none⟩))
  | clo (g : FuncId) (first caps : List D) (vf vc : Array Value) (h1 : vf.size = first.length) (h2 : vc.size = caps.length)
      (hf : ∀ j (hj : j < first.length), RelD ok w (first[j]) (vf.getD j undef))
      (hc : ∀ j (hj : j < caps.length), RelD ok w (caps[j]) (vc.getD j undef)) :
      RelD ok w (.clo g first caps) (.func (.func g) vf vc)
  | agg (cs : List D) (vs : Array Value) (h1 : vs.size = cs.length)
      (hc : ∀ j (hj : j < cs.length), RelD ok w (cs[j]) (vs.getD j undef)) : RelD ok w (.agg cs) (.agg vs)
  | tup (cs : List D) (vs : Array Value) (h1 : vs.size = cs.length)
      (hc : ∀ j (hj : j < cs.length), RelD ok w (cs[j]) (vs.getD j undef)) : RelD ok w (.tup cs) (.tuple vs)

theorem RelD.mono {ok ok' : Nat → Prop} {w w' : World} (hz : w.heap.size ≤ w'.heap.size)
    (h : ∀ b o u, ok b → w.cell? ⟨b, o, none⟩ = some u → w'.cell? ⟨b, o, none⟩ = some u) (hk : ∀ b, b < w.heap.size → ok b → ok' b)
    {x : D} {v : Value} (hr : RelD ok w x v) : RelD ok' w' x v := by
  induction hr with
  | v x => exact .v x
  | empty a cap => exact .empty a cap
  | list xs B off cap esz f hok hB hcap hsz hc h1 hr ih =>
    exact .list xs B off cap esz f (hk _ hB hok) (Nat.lt_of_lt_of_le hB hz) hcap hsz (fun i j hi hj => h _ _ _ hok (hc i j hi hj)) h1 ih
  | fptr cs B off f hok hB hc h1 hr ih => exact .fptr cs B off f (hk _ hB hok) (Nat.lt_of_lt_of_le hB hz) (fun j hj => h _ _ _ hok (hc j hj)) h1 ih
  | clo g first caps vf vc h1 h2 hf hc ih1 ih2 => exact .clo g first caps vf vc h1 h2 ih1 ih2
  | agg cs vs h1 hc ih => exact .agg cs vs h1 ih
  | tup cs vs h1 hc ih => exact .tup cs vs h1 ih

/-- What a frame's temporary or variable holds. 's': a slot of the frame. -/
inductive AC where
  | d (x : D)
  | row (s off len tot : Nat)
  | ptr (s off : Nat)
  | rptr (s i j tot : Nat)
  | vs (s off len : Nat)
  | clo (f : FuncId) (first : List D) (caps : List AC)
  | agg (cs : List AC)
  | tup (vs : List AC)
  | junk
  deriving Inhabited

/-- A frame's slot: never used; given up; a variable; a slice's array that the frame made; a jump that a loop over a function has pending (none: a return). -/
inductive ABlk where
  | fresh
  | dead
  | var (cs : List AC)
  | row (esz : Nat) (els : List (List D))
  | mark (e : Option Nat)
  deriving Inhabited

structure Loc where
  live : Bool
  blk : Nat
  cap : Nat

/-- A value reads as what a frame holds, over the frame's slots b, which lie at m. -/
inductive RelC (ok : Nat → Prop) (w : World) (b : Nat → ABlk) (m : Nat → Loc) : AC → Value → Prop
  | d {x : D} {v : Value} (h : RelD ok w x v) : RelC ok w b m (.d x) v
  | row (s off len esz : Nat) (els : List (List D)) (hb : b s = .row esz els) (hl : (m s).live = true) (hle : off + len ≤ els.length) :
      RelC ok w b m (.row s off len els.length) (.slice (some ⟨(m s).blk, off * esz, none⟩) len ((m s).cap - off))
  | rowNil (s esz : Nat) (hb : b s = .row esz []) (hl : (m s).live = false) : RelC ok w b m (.row s 0 0 0) (.slice none 0 0)
  | rowStale (s off len tot esz : Nat) (els : List (List D)) (v : Value) (hb : b s = .row esz els) (hlt : tot < els.length) : RelC ok w b m (.row s off len tot) v
  | rowDead (s off len tot : Nat) (v : Value) (hb : b s = .dead) : RelC ok w b m (.row s off len tot) v
  | ptr (s off : Nat) (cs : List AC) (hb : b s = .var cs) : RelC ok w b m (.ptr s off) (.pointer (some ⟨(m s).blk, off, none⟩))
  | ptrDead (s off : Nat) (v : Value) (hb : b s = .dead) : RelC ok w b m (.ptr s off) v
  | rptr (s i j esz : Nat) (els : List (List D)) (hb : b s = .row esz els) (hl : (m s).live = true) (hi : i < els.length) :
      RelC ok w b m (.rptr s i j els.length) (.pointer (some ⟨(m s).blk, i * esz + j, none⟩))
  | rptrStale (s i j tot esz : Nat) (els : List (List D)) (v : Value) (hb : b s = .row esz els) (hlt : tot < els.length) : RelC ok w b m (.rptr s i j tot) v
  | rptrDead (s i j tot : Nat) (v : Value) (hb : b s = .dead) : RelC ok w b m (.rptr s i j tot) v
  | vs (s off len cap : Nat) (cs : List AC) (hb : b s = .var cs) (hcap : len ≤ cap) : RelC ok w b m (.vs s off len) (.slice (some ⟨(m s).blk, off, none⟩) len cap)
  | vsDead (s off len : Nat) (v : Value) (hb : b s = .dead) : RelC ok w b m (.vs s off len) v
  | clo (g : FuncId) (first : List D) (caps : List AC) (vf vc : Array Value) (h1 : vf.size = first.length) (h2 : vc.size = caps.length)
      (hf : ∀ j (hj : j < first.length), RelD ok w (first[j]) (vf.getD j undef))
      (hc : ∀ j (hj : j < caps.length), RelC ok w b m (caps[j]) (vc.getD j undef)) :
      RelC ok w b m (.clo g first caps) (.func (.func g) vf vc)
  | agg (cs : List AC) (vs : Array Value) (h1 : vs.size = cs.length)
      (hc : ∀ j (hj : j < cs.length), RelC ok w b m (cs[j]) (vs.getD j undef)) : RelC ok w b m (.agg cs) (.agg vs)
  | tup (cs : List AC) (vs : Array Value) (h1 : vs.size = cs.length)
      (hc : ∀ j (hj : j < cs.length), RelC ok w b m (cs[j]) (vs.getD j undef)) : RelC ok w b m (.tup cs) (.tuple vs)
  | junk (v : Value) : RelC ok w b m .junk v

/-- How a slot may turn so that what refers to it stays true. -/
inductive Turns (b b' : ABlk) (m m' : Loc) : Prop
  | same (hb : b = b') (hm : m = m')
  | fresh (hb : b = .fresh)
  | dead (hb : b' = .dead)
  | var (cs cs' : List AC) (hb : b = .var cs) (hb' : b' = .var cs') (hm : m = m')
  | rowSet (esz : Nat) (els els' : List (List D)) (hb : b = .row esz els) (hb' : b' = .row esz els') (hlen : els'.length = els.length) (hm : m = m')
  | rowGrow (esz : Nat) (els els' : List (List D)) (hb : b = .row esz els) (hb' : b' = .row esz els') (hlen : els.length < els'.length)
  | mark (q : Option Nat) (hb : b = .mark q)

theorem RelC.mono {ok ok' : Nat → Prop} {w w' : World} {b b' : Nat → ABlk} {m m' : Nat → Loc} (hz : w.heap.size ≤ w'.heap.size)
    (h : ∀ b o u, ok b → w.cell? ⟨b, o, none⟩ = some u → w'.cell? ⟨b, o, none⟩ = some u) (hk : ∀ b, b < w.heap.size → ok b → ok' b)
    (ht : ∀ s, Turns (b s) (b' s) (m s) (m' s)) {x : AC} {v : Value} (hr : RelC ok w b m x v) : RelC ok' w' b' m' x v := by
  induction hr with
  | d hx => exact .d (hx.mono hz h hk)
  | junk v => exact .junk v
  | clo g first caps vf vc h1 h2 hf hc ih => exact .clo g first caps vf vc h1 h2 (fun j hj => (hf j hj).mono hz h hk) ih
  | agg cs vs h1 hc ih => exact .agg cs vs h1 ih
  | tup cs vs h1 hc ih => exact .tup cs vs h1 ih
  | row s off len esz els hb hl hle =>
    rcases ht s with ⟨e1, e2⟩ | e | e | ⟨cs, cs', e, _, _⟩ | ⟨z, l, l', e1, e2, e3, e4⟩ | ⟨z, l, l', e1, e2, e3⟩ | ⟨_, e⟩
    · rw [e2]; exact .row s off len esz els (e1 ▸ hb) (e2 ▸ hl) hle
    · rw [hb] at e; cases e
    · exact .rowDead _ _ _ _ _ e
    · rw [hb] at e; cases e
    · rw [hb] at e1; cases e1
      rw [e4, ← e3]; exact .row s off len esz l' e2 (e4 ▸ hl) (by omega)
    · rw [hb] at e1; cases e1
      exact .rowStale _ _ _ _ _ _ _ e2 e3
    · rw [hb] at e; cases e
  | rowNil s esz hb hl =>
    rcases ht s with ⟨e1, e2⟩ | e | e | ⟨cs, cs', e, _, _⟩ | ⟨z, l, l', e1, e2, e3, e4⟩ | ⟨z, l, l', e1, e2, e3⟩ | ⟨_, e⟩
    · exact .rowNil s esz (e1 ▸ hb) (e2 ▸ hl)
    · rw [hb] at e; cases e
    · exact .rowDead _ _ _ _ _ e
    · rw [hb] at e; cases e
    · rw [hb] at e1; cases e1
      have : l' = [] := List.length_eq_zero_iff.1 e3
      subst this
      exact .rowNil s esz e2 (e4 ▸ hl)
    · rw [hb] at e1; cases e1
      exact .rowStale _ _ _ _ _ _ _ e2 e3
    · rw [hb] at e; cases e
  | rowStale s off len tot esz els v hb hlt =>
    rcases ht s with ⟨e1, e2⟩ | e | e | ⟨cs, cs', e, _, _⟩ | ⟨z, l, l', e1, e2, e3, e4⟩ | ⟨z, l, l', e1, e2, e3⟩ | ⟨_, e⟩
    · exact .rowStale _ _ _ _ _ _ _ (e1 ▸ hb) hlt
    · rw [hb] at e; cases e
    · exact .rowDead _ _ _ _ _ e
    · rw [hb] at e; cases e
    · rw [hb] at e1; cases e1
      exact .rowStale _ _ _ _ _ _ _ e2 (by omega)
    · rw [hb] at e1; cases e1
      exact .rowStale _ _ _ _ _ _ _ e2 (by omega)
    · rw [hb] at e; cases e
  | rowDead s off len tot v hb =>
    rcases ht s with ⟨e1, e2⟩ | e | e | ⟨cs, cs', e, _, _⟩ | ⟨z, l, l', e1, e2, e3, e4⟩ | ⟨z, l, l', e1, e2, e3⟩ | ⟨_, e⟩
    · exact .rowDead _ _ _ _ _ (e1 ▸ hb)
    · rw [hb] at e; cases e
    · exact .rowDead _ _ _ _ _ e
    · rw [hb] at e; cases e
    · rw [hb] at e1; cases e1
    · rw [hb] at e1; cases e1
    · rw [hb] at e; cases e
  | ptr s off cs hb =>
    rcases ht s with ⟨e1, e2⟩ | e | e | ⟨cs, cs', e, e', e2⟩ | ⟨z, l, l', e1, e2, e3, e4⟩ | ⟨z, l, l', e1, e2, e3⟩ | ⟨_, e⟩
    · rw [e2]; exact .ptr s off cs (e1 ▸ hb)
    · rw [hb] at e; cases e
    · exact .ptrDead _ _ _ e
    · rw [e2]; exact .ptr s off cs' e'
    · rw [hb] at e1; cases e1
    · rw [hb] at e1; cases e1
    · rw [hb] at e; cases e
  | ptrDead s off v hb =>
    rcases ht s with ⟨e1, e2⟩ | e | e | ⟨cs, cs', e, e', e2⟩ | ⟨z, l, l', e1, e2, e3, e4⟩ | ⟨z, l, l', e1, e2, e3⟩ | ⟨_, e⟩
    · exact .ptrDead _ _ _ (e1 ▸ hb)
    · rw [hb] at e; cases e
    · exact .ptrDead _ _ _ e
    · rw [hb] at e; cases e
    · rw [hb] at e1; cases e1
    · rw [hb] at e1; cases e1
    · rw [hb] at e; cases e
  | vs s off len cap cs hb hcap =>
    rcases ht s with ⟨e1, e2⟩ | e | e | ⟨cs, cs', e, e', e2⟩ | ⟨z, l, l', e1, e2, e3, e4⟩ | ⟨z, l, l', e1, e2, e3⟩ | ⟨_, e⟩
    · rw [e2]; exact .vs s off len cap cs (e1 ▸ hb) hcap
    · rw [hb] at e; cases e
    · exact .vsDead _ _ _ _ e
    · rw [e2]; exact .vs s off len cap cs' e' hcap
    · rw [hb] at e1; cases e1
    · rw [hb] at e1; cases e1
    · rw [hb] at e; cases e
  | vsDead s off len v hb =>
    rcases ht s with ⟨e1, e2⟩ | e | e | ⟨cs, cs', e, e', e2⟩ | ⟨z, l, l', e1, e2, e3, e4⟩ | ⟨z, l, l', e1, e2, e3⟩ | ⟨_, e⟩
    · exact .vsDead _ _ _ _ (e1 ▸ hb)
    · rw [hb] at e; cases e
    · exact .vsDead _ _ _ _ e
    · rw [hb] at e; cases e
    · rw [hb] at e1; cases e1
    · rw [hb] at e1; cases e1
    · rw [hb] at e; cases e
  | rptr s i j esz els hb hl hi =>
    rcases ht s with ⟨e1, e2⟩ | e | e | ⟨cs, cs', e, _, _⟩ | ⟨z, l, l', e1, e2, e3, e4⟩ | ⟨z, l, l', e1, e2, e3⟩ | ⟨_, e⟩
    · rw [e2]; exact .rptr s i j esz els (e1 ▸ hb) (e2 ▸ hl) hi
    · rw [hb] at e; cases e
    · exact .rptrDead _ _ _ _ _ e
    · rw [hb] at e; cases e
    · rw [hb] at e1; cases e1
      rw [e4, ← e3]; exact .rptr s i j esz l' e2 (e4 ▸ hl) (by omega)
    · rw [hb] at e1; cases e1
      exact .rptrStale _ _ _ _ _ _ _ e2 e3
    · rw [hb] at e; cases e
  | rptrStale s i j tot esz els v hb hlt =>
    rcases ht s with ⟨e1, e2⟩ | e | e | ⟨cs, cs', e, _, _⟩ | ⟨z, l, l', e1, e2, e3, e4⟩ | ⟨z, l, l', e1, e2, e3⟩ | ⟨_, e⟩
    · exact .rptrStale _ _ _ _ _ _ _ (e1 ▸ hb) hlt
    · rw [hb] at e; cases e
    · exact .rptrDead _ _ _ _ _ e
    · rw [hb] at e; cases e
    · rw [hb] at e1; cases e1
      exact .rptrStale _ _ _ _ _ _ _ e2 (by omega)
    · rw [hb] at e1; cases e1
      exact .rptrStale _ _ _ _ _ _ _ e2 (by omega)
    · rw [hb] at e; cases e
  | rptrDead s i j tot v hb =>
    rcases ht s with ⟨e1, e2⟩ | e | e | ⟨cs, cs', e, _, _⟩ | ⟨z, l, l', e1, e2, e3, e4⟩ | ⟨z, l, l', e1, e2, e3⟩ | ⟨_, e⟩
    · exact .rptrDead _ _ _ _ _ (e1 ▸ hb)
    · rw [hb] at e; cases e
    · exact .rptrDead _ _ _ _ _ e
    · rw [hb] at e; cases e
    · rw [hb] at e1; cases e1
    · rw [hb] at e1; cases e1
    · rw [hb] at e; cases e

end Go.AM
