/- The abstract machine, part 2: a frame's state, how it lies in memory, and what steps keep. No condition. -/
import Derived.Test.YtmkmegcconjgoaaAm1
set_option linter.unusedVariables false
set_option linter.unusedSimpArgs false
namespace Go.AM

structure St where
  t : Nat → AC
  b : Nat → ABlk

def upd {α : Type} (f : Nat → α) (i : Nat) (v : α) : Nat → α := fun j => if j = i then v else f j
@[simp] theorem upd_same {α : Type} (f : Nat → α) (i : Nat) (v : α) : upd f i v i = v := by simp [upd]
theorem upd_ne {α : Type} (f : Nat → α) {i j : Nat} (v : α) (h : j ≠ i) : upd f i v j = f j := by simp [upd, h]

def St.put (σ : St) (dst : Option Nat) (y : AC) : St :=
  match dst with
  | some d => ⟨upd σ.t d y, σ.b⟩
  | none => σ

/-- What a call may have turned: the blocks in C, and what is new. -/
structure Foot (C : Nat → Prop) (w w' : World) : Prop where
  os : w'.os = w.os
  tape : w'.tape = w.tape
  output : w'.output = w.output
  size : w.heap.size ≤ w'.heap.size
  block : ∀ k, k < w.heap.size → ¬ C k → w'.heap[k]? = w.heap[k]?

theorem Foot.refl (C : Nat → Prop) (w : World) : Foot C w w := ⟨rfl, rfl, rfl, Nat.le_refl _, fun _ _ _ => rfl⟩
theorem Foot.trans {C : Nat → Prop} {a b c : World} (h : Foot C a b) (k : Foot C b c) : Foot C a c :=
  ⟨k.os.trans h.os, k.tape.trans h.tape, k.output.trans h.output, Nat.le_trans h.size k.size, fun i hi hc => (k.block i (Nat.lt_of_lt_of_le hi h.size) hc).trans (h.block i hi hc)⟩
theorem Foot.below {w w' : World} (h : Foot (fun _ => False) w w') : Go.RowKit.Below w.heap.size w w' := ⟨h.os, h.tape, h.output, h.size, fun k hk => h.block k hk (fun h => h)⟩
theorem Foot.of_below {w w' : World} (h : Go.RowKit.Below w.heap.size w w') (C : Nat → Prop) : Foot C w w' := ⟨h.os, h.tape, h.output, h.size, fun k hk _ => h.block k hk⟩
theorem Foot.drawn (C : Nat → Prop) (w : World) (n : Nat) : Foot C w { w with drawn := n } := ⟨rfl, rfl, rfl, Nat.le_refl _, fun _ _ _ => rfl⟩

/-- What is pending in a loop over a function: none: a return. -/
def markCode : Option Nat → Code
  | none => .ret
  | some id => .exit id

/-- A loop over a function whose iterator is the frame: where its mark is kept, where its record lies, and the record when it is ready. -/
structure LoopI where
  p : Nat
  l : Nat
  r : Loop

def LoopI.obj (i : LoopI) : ABlk → Obj
  | .mark q => .loop { i.r with state := .done, pending := some (markCode q) }
  | _ => .loop i.r

structure Ctx where
  ok0 : Nat → Prop
  C : Nat → Prop
  w0 : World
  n : Nat
  gs : List (AC × Value) := []
  fx : List (Nat × Obj) := []
  lp : Option LoopI := none
  pr : List Nat := []
  nm : Bool := false

/-- The frame's deferred calls are marks of loops over functions in whose rounds nothing was deferred. -/
def Marks (base : Nat) (ds : List Deferred) (w : World) : Prop :=
  ∃ Ds : List Nat, ds = Ds.map (fun D => { target := .collected D, args := #[] }) ∧ Ds.Nodup ∧ ∀ D ∈ Ds, base ≤ D ∧ w.heap[D]? = some (.deferred (some []))

mutual
/-- Does it lead to those slots alone? -/
def onlyC (ls : List Nat) : AC → Bool
  | .d _ => true
  | .row s _ _ _ => ls.contains s
  | .ptr s _ => ls.contains s
  | .rptr s _ _ _ => ls.contains s
  | .vs s _ _ => ls.contains s
  | .clo _ _ caps => onlyCs ls caps
  | .agg cs => onlyCs ls cs
  | .tup cs => onlyCs ls cs
  | .junk => true
def onlyCs (ls : List Nat) : List AC → Bool
  | [] => true
  | c :: cs => onlyC ls c && onlyCs ls cs
end

def Ctx.ok (X : Ctx) (m : Nat → Loc) (k : Nat) : Prop := (X.ok0 k ∨ X.w0.heap.size ≤ k) ∧ ∀ s, (m s).live = true → (m s).blk ≠ k

/-- How a slot lies in memory. -/
def SlotOK (ok : Nat → Prop) (w : World) (b : Nat → ABlk) (m : Nat → Loc) (s : Nat) : Prop :=
  match b s with
  | .fresh => (m s).live = false
  | .dead => (m s).live = false
  | .mark _ => (m s).live = false
  | .var cs => (m s).live = true ∧ ∃ c e, w.heap[(m s).blk]? = some (.cells c e (0, 0)) ∧ c.size = cs.length ∧
      (∀ i, i < cs.length → (c.getD i undef).oneCell' = true) ∧ ∀ i (h : i < cs.length), RelC ok w b m (cs[i]) (c.getD i undef)
  | .row esz els => (m s).live = false ∧ els = [] ∨ (m s).live = true ∧ ∃ c e, w.heap[(m s).blk]? = some (.cells c e (0, 0)) ∧ c.size = (m s).cap * esz ∧
      els.length ≤ (m s).cap ∧ (∀ i (h : i < els.length), (els[i]).length = esz) ∧ (∀ k, k < els.length * esz → (c.getD k undef).oneCell' = true) ∧
      ∀ i j (hi : i < els.length) (hj : j < (els[i]).length), RelD ok w ((els[i])[j]) (c.getD (i * esz + j) undef)

structure Rel (X : Ctx) (σ : St) (m : Nat → Loc) (a : Act) (w : World) : Prop where
  defers : Marks X.w0.heap.size a.defers w ∧ (X.nm = true → a.defers = [])
  size : a.tmps.size = X.n
  tmps : ∀ i, RelC (X.ok m) w σ.b m (σ.t i) (a.tmps.getD i undef)
  slots : ∀ s, SlotOK (X.ok m) w σ.b m s
  inj : ∀ s s', (m s).live = true → (m s').live = true → (m s).blk = (m s').blk → s = s'
  own : ∀ s, (m s).live = true → X.w0.heap.size ≤ (m s).blk
  foot : Foot X.C X.w0 w
  ghosts : ∀ p ∈ X.gs, RelC (X.ok m) w σ.b m p.1 p.2 ∧ onlyC X.pr p.1 = true
  fixed : ∀ p ∈ X.fx, w.heap[p.1]? = some p.2 ∧ p.2.isCells = false
  loop : ∀ i, X.lp = some i → w.heap[i.l]? = some (i.obj (σ.b i.p)) ∧ i.p ∈ X.pr

theorem LoopI.notCells (i : LoopI) (b : ABlk) : (i.obj b).isCells = false := by cases b <;> rfl

section
variable {X : Ctx} {σ : St} {m : Nat → Loc} {a : Act} {w : World}

theorem SlotOK.blkLt {ok : Nat → Prop} {b : Nat → ABlk} {s : Nat} (h : SlotOK ok w b m s) (hl : (m s).live = true) : (m s).blk < w.heap.size := by
  unfold SlotOK at h
  have lt : ∀ {o : Obj}, w.heap[(m s).blk]? = some o → (m s).blk < w.heap.size := fun h => (Array.getElem?_eq_some_iff.1 h).1
  split at h
  · rw [hl] at h; cases h
  · rw [hl] at h; cases h
  · rw [hl] at h; cases h
  · obtain ⟨_, c, e, h, _⟩ := h; exact lt h
  · rcases h with ⟨h, _⟩ | ⟨_, c, e, h, _⟩
    · rw [hl] at h; cases h
    · exact lt h

/-- A live slot's block holds cells. -/
theorem SlotOK.cells {ok : Nat → Prop} {b : Nat → ABlk} {s : Nat} (h : SlotOK ok w b m s) (hl : (m s).live = true) : ∃ o, w.heap[(m s).blk]? = some o ∧ o.isCells = true := by
  unfold SlotOK at h
  split at h
  · rw [hl] at h; cases h
  · rw [hl] at h; cases h
  · rw [hl] at h; cases h
  · obtain ⟨_, c, e, h, _⟩ := h; exact ⟨_, h, rfl⟩
  · rcases h with ⟨h, _⟩ | ⟨_, c, e, h, _⟩
    · rw [hl] at h; cases h
    · exact ⟨_, h, rfl⟩

theorem Rel.notLive (h : Rel X σ m a w) {s k : Nat} {o : Obj} (hl : (m s).live = true) (hk : w.heap[k]? = some o) (ho : o.isCells = false) : k ≠ (m s).blk := fun e => by
  obtain ⟨o', h1, h2⟩ := (h.slots s).cells hl
  rw [← e, hk] at h1; cases h1; rw [ho] at h2; cases h2

theorem heap_lt {w : World} {k : Nat} {o : Obj} (h : w.heap[k]? = some o) : k < w.heap.size := (Array.getElem?_eq_some_iff.1 h).1

theorem Marks.keep {base : Nat} {ds : List Deferred} {w w' : World} (h : Marks base ds w) (hk : ∀ (k : Nat) (o : Obj), w.heap[k]? = some o → o.isCells = false → w'.heap[k]? = some o) : Marks base ds w' := by
  obtain ⟨Ds, h1, h2, h3⟩ := h
  exact ⟨Ds, h1, h2, fun D hD => ⟨(h3 D hD).1, hk _ _ (h3 D hD).2 rfl⟩⟩

theorem Rel.blkLt (h : Rel X σ m a w) {s : Nat} (hl : (m s).live = true) : (m s).blk < w.heap.size := (h.slots s).blkLt hl

/-- A slot's relation under a change of the world that leaves the slot's own block alone. -/
theorem SlotOK.mono {ok ok' : Nat → Prop} {w w' : World} {b b' : Nat → ABlk} {m m' : Nat → Loc} {s : Nat} (hz : w.heap.size ≤ w'.heap.size)
    (h : ∀ b o u, ok b → w.cell? ⟨b, o, none⟩ = some u → w'.cell? ⟨b, o, none⟩ = some u) (hk : ∀ b, b < w.heap.size → ok b → ok' b)
    (ht : ∀ s, Turns (b s) (b' s) (m s) (m' s)) (hb : b' s = b s) (hm : m' s = m s) (hw : (m s).live = true → w'.heap[(m s).blk]? = w.heap[(m s).blk]?)
    (hs : SlotOK ok w b m s) : SlotOK ok' w' b' m' s := by
  unfold SlotOK at *
  rw [hb, hm]
  split at hs
  · exact hs
  · exact hs
  · exact hs
  · obtain ⟨hl, c, e, h1, h2, h2', h3⟩ := hs
    exact ⟨hl, c, e, (hw hl).trans h1, h2, h2', fun i hi => (h3 i hi).mono hz h hk ht⟩
  · rcases hs with hs | ⟨hl, c, e, h1, h2, h3, h4, h4', h5⟩
    · exact .inl hs
    · exact .inr ⟨hl, c, e, (hw hl).trans h1, h2, h3, h4, h4', fun i j hi hj => (h5 i j hi hj).mono hz h hk⟩

theorem cell_lt {w : World} {p : Addr} {u : Value} (h : w.cell? p = some u) : p.block < w.heap.size := World.block_lt_of_cell? w p h
theorem cell_same {w w' : World} {p : Addr} (h : w'.heap[p.block]? = w.heap[p.block]?) : w'.cell? p = w.cell? p := by
  unfold World.cell?; rw [h]

/-- A step that turns no block that was there: what a draw, a new block, a call of a pure function do. -/
theorem Rel.grow (h : Rel X σ m a w) {w' : World} (hf : Foot (fun _ => False) w w') : Rel X σ m a w' := by
  have hc : ∀ (b o : Nat) (u : Value), X.ok m b → w.cell? ⟨b, o, none⟩ = some u → w'.cell? ⟨b, o, none⟩ = some u := fun b o u _ hu => by
    have := cell_lt hu
    rw [cell_same (w := w)]
    · exact hu
    · exact hf.block b this (fun h => h)
  have keep : ∀ (k : Nat) (o : Obj), w.heap[k]? = some o → o.isCells = false → w'.heap[k]? = some o := fun k o hk _ => (hf.block k (heap_lt hk) (fun h => h)).trans hk
  refine ⟨⟨h.defers.1.keep keep, h.defers.2⟩, h.size, fun i => (h.tmps i).mono hf.size hc (fun _ _ h => h) (fun s => .same rfl rfl), fun s => ?_, h.inj, h.own, ?_,
    fun p hp => ⟨(h.ghosts p hp).1.mono hf.size hc (fun _ _ h => h) (fun s => .same rfl rfl), (h.ghosts p hp).2⟩, fun p hp => ⟨keep _ _ (h.fixed p hp).1 (h.fixed p hp).2, (h.fixed p hp).2⟩, fun i hi => ⟨keep _ _ (h.loop i hi).1 (i.notCells _), (h.loop i hi).2⟩⟩
  · exact (h.slots s).mono hf.size hc (fun _ _ h => h) (fun s => .same rfl rfl) rfl rfl (fun hl => hf.block _ (h.blkLt hl) (fun h => h))
  · exact h.foot.trans ⟨hf.os, hf.tape, hf.output, hf.size, fun k hk _ => hf.block k hk (fun h => h)⟩

/-- A temporary is written. -/
theorem Rel.put (h : Rel X σ m a w) {y : AC} {v : Value} (hy : RelC (X.ok m) w σ.b m y v) (dst : Option Nat) (hd : ∀ d, dst = some d → d < X.n) : Rel X (σ.put dst y) m (a.put dst v) w := by
  cases dst with
  | none => exact h
  | some d =>
    refine ⟨h.defers, by simp [Act.put, h.size], fun i => ?_, h.slots, h.inj, h.own, h.foot, h.ghosts, h.fixed, h.loop⟩
    simp only [St.put, Act.put]
    by_cases hi : i = d
    · subst hi
      rw [upd_same]
      have hs : i < a.tmps.size := by rw [h.size]; exact hd i rfl
      simpa [Array.getD, hs] using hy
    · rw [upd_ne _ _ hi]
      have : (a.tmps.setIfInBounds d v).getD i undef = a.tmps.getD i undef := by
        simp only [Array.getD_eq_getD_getElem?]
        rw [Array.getElem?_setIfInBounds_ne (by omega)]
      rw [this]
      exact h.tmps i

/-- One slot turns: its block is written, or another one takes its place; nothing else that was there turns. -/
structure Turn (X : Ctx) (σ : St) (m : Nat → Loc) (w : World) (s : Nat) (bs : ABlk) (l : Loc) (w' : World) : Prop where
  os : w'.os = w.os
  tape : w'.tape = w.tape
  output : w'.output = w.output
  size : w.heap.size ≤ w'.heap.size
  block : ∀ k, k < w.heap.size → ((m s).live = true → k ≠ (m s).blk) → w'.heap[k]? = w.heap[k]?
  turns : Turns (σ.b s) bs (m s) l
  place : l.live = true → ((m s).live = true ∧ l.blk = (m s).blk) ∨ w.heap.size ≤ l.blk

theorem Turn.all {s : Nat} {bs : ABlk} {l : Loc} {w' : World} (ht : Turn X σ m w s bs l w') : ∀ s', Turns (σ.b s') (upd σ.b s bs s') (m s') (upd m s l s') := fun s' => by
  by_cases e : s' = s
  · subst e; rw [upd_same, upd_same]; exact ht.turns
  · rw [upd_ne _ _ e, upd_ne _ _ e]; exact .same rfl rfl

theorem Turn.cells {s : Nat} {bs : ABlk} {l : Loc} {w' : World} (ht : Turn X σ m w s bs l w') (b o : Nat) (u : Value) (hb : X.ok m b) (hu : w.cell? ⟨b, o, none⟩ = some u) : w'.cell? ⟨b, o, none⟩ = some u := by
  have := cell_lt hu
  rw [cell_same (w := w)]
  · exact hu
  · exact ht.block b this (fun hl e => hb.2 s hl e.symm)

theorem Turn.oks {s : Nat} {bs : ABlk} {l : Loc} {w' : World} (ht : Turn X σ m w s bs l w') (b : Nat) (hlt : b < w.heap.size) (hb : X.ok m b) : X.ok (upd m s l) b := by
  refine ⟨hb.1, fun s' hl => ?_⟩
  by_cases e : s' = s
  · subst e
    rw [upd_same] at hl ⊢
    rcases ht.place hl with ⟨h1, h2⟩ | h1
    · rw [h2]; exact hb.2 _ h1
    · omega
  · rw [upd_ne _ _ e] at hl ⊢
    exact hb.2 s' hl

theorem Turn.relC {s : Nat} {bs : ABlk} {l : Loc} {w' : World} (ht : Turn X σ m w s bs l w') {x : AC} {v : Value} (h : RelC (X.ok m) w σ.b m x v) :
    RelC (X.ok (upd m s l)) w' (upd σ.b s bs) (upd m s l) x v := h.mono ht.size ht.cells ht.oks ht.all

theorem Turn.relD {s : Nat} {bs : ABlk} {l : Loc} {w' : World} (ht : Turn X σ m w s bs l w') {x : D} {v : Value} (h : RelD (X.ok m) w x v) :
    RelD (X.ok (upd m s l)) w' x v := h.mono ht.size ht.cells ht.oks

theorem Rel.turn (h : Rel X σ m a w) {s : Nat} {bs : ABlk} {l : Loc} {w' : World} (ht : Turn X σ m w s bs l w') (hm : ∀ q, σ.b s ≠ .mark q ∧ bs ≠ .mark q)
    (hs : SlotOK (X.ok (upd m s l)) w' (upd σ.b s bs) (upd m s l) s) : Rel X ⟨σ.t, upd σ.b s bs⟩ (upd m s l) a w' := by
  have hz : X.w0.heap.size ≤ w.heap.size := h.foot.size
  have keep : ∀ (k : Nat) (o : Obj), w.heap[k]? = some o → o.isCells = false → w'.heap[k]? = some o := fun k o hk ho => (ht.block k (heap_lt hk) (fun hl => h.notLive hl hk ho)).trans hk
  refine ⟨⟨h.defers.1.keep keep, h.defers.2⟩, h.size, fun i => ht.relC (h.tmps i), fun s' => ?_, fun s1 s2 h1 h2 h3 => ?_, fun s' hl => ?_, ?_,
    fun p hp => ⟨ht.relC (h.ghosts p hp).1, (h.ghosts p hp).2⟩, fun p hp => ⟨keep _ _ (h.fixed p hp).1 (h.fixed p hp).2, (h.fixed p hp).2⟩, fun i hi => ⟨?_, (h.loop i hi).2⟩⟩
  · by_cases e : s' = s
    · subst e; exact hs
    · refine (h.slots s').mono ht.size ht.cells ht.oks ht.all (upd_ne _ _ e) (upd_ne _ _ e) (fun hl => ht.block _ (h.blkLt hl) (fun hl' e' => e (h.inj _ _ hl hl' e')))
  · by_cases e1 : s1 = s
    · by_cases e2 : s2 = s
      · rw [e1, e2]
      · subst e1
        rw [upd_same] at h1 h3
        rw [upd_ne _ _ e2] at h2 h3
        rcases ht.place h1 with ⟨k1, k2⟩ | k1
        · exact h.inj _ _ k1 h2 (k2 ▸ h3)
        · have := h.blkLt h2; omega
    · by_cases e2 : s2 = s
      · subst e2
        rw [upd_same] at h2 h3
        rw [upd_ne _ _ e1] at h1 h3
        rcases ht.place h2 with ⟨k1, k2⟩ | k1
        · exact h.inj _ _ h1 k1 (k2 ▸ h3)
        · have := h.blkLt h1; omega
      · rw [upd_ne _ _ e1] at h1 h3
        rw [upd_ne _ _ e2] at h2 h3
        exact h.inj _ _ h1 h2 h3
  · by_cases e : s' = s
    · subst e
      rw [upd_same] at hl ⊢
      rcases ht.place hl with ⟨k1, k2⟩ | k1
      · rw [k2]; exact h.own _ k1
      · omega
    · rw [upd_ne _ _ e] at hl ⊢; exact h.own _ hl
  · refine ⟨ht.os.trans h.foot.os, ht.tape.trans h.foot.tape, ht.output.trans h.foot.output, Nat.le_trans hz ht.size, fun k hk hC => ?_⟩
    refine (ht.block k (by omega) (fun hl e => ?_)).trans (h.foot.block k hk hC)
    have k1 := h.own s hl
    omega
  · have e1 : i.obj (upd σ.b s bs i.p) = i.obj (σ.b i.p) := by
      by_cases e : i.p = s
      · rw [e, upd_same]
        have nm : ∀ q, σ.b s ≠ .mark q ∧ bs ≠ .mark q := hm
        have o1 : ∀ {x : ABlk}, (∀ q, x ≠ .mark q) → i.obj x = .loop i.r := fun {x} hx => by
          cases x <;> first | rfl | exact absurd rfl (hx _)
        rw [o1 (fun q => (nm q).1), o1 (fun q => (nm q).2)]
      · rw [upd_ne _ _ e]
    rw [e1]
    exact keep _ _ (h.loop i hi).1 (i.notCells _)

end
end Go.AM
