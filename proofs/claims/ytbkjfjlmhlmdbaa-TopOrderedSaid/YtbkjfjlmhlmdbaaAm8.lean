/- The abstract machine, part 5: each operation does what the abstract one says: those that leave memory alone. No condition. -/
import Derived.Test.YtbkjfjlmhlmdbaaAm4
import Derived.Laws.Tables
set_option linter.unusedVariables false
set_option linter.unusedSimpArgs false
namespace Go.AM
open Go

/-- The operation yields a value in a world that R takes; or it calls a function that does. -/
def Gives (P : Program) (o : Oper) (a : Act) (w : World) (R : Value → World → Prop) : Prop :=
  (∃ v w', R v w' ∧ ((execOp a.eval o).run P w = .ok (.value v) w' ∨ ((execOp a.eval o).run P w = .ok .skip w' ∧ v = undef))) ∨
  (∃ g vs, (execOp a.eval o).run P w = .ok (.enter g vs) w ∧ Calls P g vs w fun e w' => ∃ v, e = .returned v ∧ R v w')

def Post (X : Ctx) (σ : St) (a : Act) (K : AC → (Nat → ABlk) → Prop) (v : Value) (w' : World) : Prop :=
  ∃ y b' m', K y b' ∧ Rel X ⟨σ.t, b'⟩ m' a w' ∧ RelC (X.ok m') w' b' m' y v

section
variable {P : Program} {X : Ctx} {σ : St} {m : Nat → Loc} {a : Act} {w : World} {o : Oper} {K : AC → (Nat → ABlk) → Prop}

theorem gives_pure {y : AC} {v : Value} (hr : Rel X σ m a w) (hrun : (execOp a.eval o).run P w = .ok (.value v) w) (hk : K y σ.b) (hy : RelC (X.ok m) w σ.b m y v) : Gives P o a w (Post X σ a K) :=
  .inl ⟨v, w, ⟨y, σ.b, m, hk, hr, hy⟩, .inl hrun⟩

theorem relC_int {ok : Nat → Prop} {b : Nat → ABlk} {k : IntKind} {n : Int} {v : Value} (h : RelC ok w b m (.d (.v (.int k n))) v) : v = .int k n := by cases h with | d h => cases h; rfl
theorem relC_v {ok : Nat → Prop} {b : Nat → ABlk} {x v : Value} (h : RelC ok w b m (.d (.v x)) v) : v = x := by cases h with | d h => cases h; rfl

theorem op_mv {x : Opnd} (hc : chkA P o.op (.mv x) = true) (h : opA P (.mv x) σ K) (hr : Rel X σ m a w) : Gives P o a w (Post X σ a K) := by
  cases hop : o.op <;> rw [hop] at hc <;> simp [chkA] at hc
  all_goals exact gives_pure hr (by simp [execOp, hop]) h (chkO_sound hr hc)

theorem op_pick {c x y : Opnd} (hc : chkA P o.op (.pick c x y) = true) (h : opA P (.pick c x y) σ K) (hr : Rel X σ m a w) : Gives P o a w (Post X σ a K) := by
  cases hop : o.op <;> rw [hop] at hc <;> simp [chkA] at hc
  obtain ⟨⟨h1, h2⟩, h3⟩ := hc
  simp only [opA] at h
  split at h
  · rename_i t ht
    have hv := relC_v (ht ▸ chkO_sound hr h1)
    cases t with
    | true => exact gives_pure hr (by simp [execOp, hop, hv, asBool]) (h.1 rfl) (chkO_sound hr h2)
    | false => exact gives_pure hr (by simp [execOp, hop, hv, asBool]) (h.2 rfl) (chkO_sound hr h3)
  · exact h.elim

theorem op_bin {op : BinOp} {x y : Opnd} (hc : chkA P o.op (.bin op x y) = true) (h : opA P (.bin op x y) σ K) (hr : Rel X σ m a w) : Gives P o a w (Post X σ a K) := by
  cases hop : o.op <;> rw [hop] at hc <;> simp [chkA] at hc
  rename_i op' t x' y' t'
  obtain ⟨⟨rfl, h2⟩, h3⟩ := hc
  obtain ⟨r, hk, hrun⟩ := run_binA (P := P) (t := t) (xo := x') (yo := y') h (chkO_sound hr h2) (chkO_sound hr h3)
  refine gives_pure hr ?_ hk (.d (.v r))
  simp only [execOp, hop]
  rw [Sem.run_bind, hrun]; rfl

theorem run_underlying' {t : TypeId} {d : TypeDesc} (h : P.underlying t = some d) (w : World) : (underlying t).run P w = .ok d w := by
  simp [underlying, h]

theorem op_eqb {neg : Bool} {x y : Opnd} (hc : chkA P o.op (.eqb neg x y) = true) (h : opA P (.eqb neg x y) σ K) (hr : Rel X σ m a w) : Gives P o a w (Post X σ a K) := by
  cases hop : o.op <;> rw [hop] at hc <;> simp only [chkA, Bool.false_eq_true, Bool.and_eq_true, decide_eq_true_eq] at hc
  rename_i op' t x' y' t'
  obtain ⟨⟨⟨rfl, h0⟩, h2⟩, h3⟩ := hc
  simp only [opA] at h
  split at h
  · rename_i p q hp hq
    have e1 := relC_v (hp ▸ chkO_sound hr h2)
    have e2 := relC_v (hq ▸ chkO_sound hr h3)
    have hu : P.underlying t = some .bool := by
      revert h0; split
      · intro _; assumption
      · intro h0; cases h0
    have hrun : (Op.equal t (.bool p) (.bool q)).run P w = .ok (p == q) w := by
      show (Op.equalIn (9999 + 1) t (.bool p) (.bool q)).run P w = _
      rw [Op.equalIn, Sem.run_bind, run_underlying' hu]; rfl
    have hg : (eqGuard (if neg = true then .neq else .eql) t x' y' (.bool p) (.bool q)).run P w = .ok () w := by
      cases neg <;> simp [eqGuard]
    refine gives_pure hr ?_ h (.d (.v _))
    simp only [execOp, hop, e1, e2, Sem.run_bind, hg, Result.andThen_ok]
    cases neg <;> simp [binOp, hrun]
  · exact h.elim

theorem run_eqn {neg : Bool} {x : Opnd} (hc : chkA P o.op (.eqn neg x) = true) (hr : Rel X σ m a w) : ∃ x', RelC (X.ok m) w σ.b m (evO σ.t x) (a.eval x') ∧ (∀ c, o.op ≠ .defer c) ∧
    ∀ {r : Bool} {A : Option Addr} {len cap : Nat}, a.eval x' = .slice A len cap → A.isNone = r → (execOp a.eval o).run P w = .ok (.value (.bool (if neg then !r else r))) w := by
  cases hop : o.op <;> rw [hop] at hc <;> simp only [chkA, Bool.false_eq_true, Bool.and_eq_true, decide_eq_true_eq] at hc
  rename_i op' t x' y' t'
  obtain ⟨⟨⟨rfl, h0⟩, h2⟩, h3⟩ := hc
  have hy : a.eval y' = .slice none 0 0 := by
    split at h3
    · rfl
    · cases h3
  obtain ⟨e, hu⟩ : ∃ e, P.underlying t = some (.slice e) := by
    revert h0; split
    · rename_i e hu; intro _; exact ⟨e, hu⟩
    · intro h0; cases h0
  refine ⟨x', chkO_sound hr h2, fun c e => (by cases e), fun {r A len cap} e1 e2 => ?_⟩
  have hrun : (Op.equal t (.slice A len cap) (.slice none 0 0)).run P w = .ok r w := by
    show (Op.equalIn (9999 + 1) t (.slice A len cap) (.slice none 0 0)).run P w = _
    cases A <;> simp at e2 <;> subst e2 <;> rw [Op.equalIn, Sem.run_bind, run_underlying' hu] <;> rfl
  have hg : (eqGuard (if neg = true then .neq else .eql) t x' y' (.slice A len cap) (.slice none 0 0)).run P w = .ok () w := by
    cases neg <;> simp [eqGuard]
  simp only [execOp, hop, e1, hy, Sem.run_bind, hg, Result.andThen_ok]
  cases neg <;> simp [binOp, hrun]

theorem op_eqn {neg : Bool} {x : Opnd} (hc : chkA P o.op (.eqn neg x) = true) (h : opA P (.eqn neg x) σ K) (hr : Rel X σ m a w) : Gives P o a w (Post X σ a K) := by
  obtain ⟨x', hR, _, key⟩ := run_eqn hc hr
  simp only [opA] at h
  split at h
  · rename_i hx
    have e1 := relC_v (hx ▸ hR)
    refine gives_pure hr (key e1 rfl) h ?_
    cases neg <;> exact .d (.v _)
  · rename_i d ds hx
    rw [hx] at hR
    generalize hv : a.eval x' = v at hR
    cases hR with
    | d hD =>
      cases hD with
      | list =>
        refine gives_pure hr (key hv rfl) h ?_
        cases neg <;> exact .d (.v _)
  · exact h.elim

theorem op_neg {x : Opnd} (hc : chkA P o.op (.neg x) = true) (h : opA P (.neg x) σ K) (hr : Rel X σ m a w) : Gives P o a w (Post X σ a K) := by
  cases hop : o.op <;> rw [hop] at hc <;> try (simp [chkA] at hc; done)
  rename_i u t x'
  cases u <;> simp [chkA] at hc
  simp only [opA] at h
  split at h
  · rename_i k n hn
    have e := relC_v (hn ▸ chkO_sound hr hc)
    exact gives_pure hr (by simp [execOp, hop, e, Op.unary, Op.intArith]) h (.d (.v _))
  · exact h.elim

theorem op_xr {x : Opnd} (hc : chkA P o.op (.xr x) = true) (h : opA P (.xr x) σ K) (hr : Rel X σ m a w) : Gives P o a w (Post X σ a K) := by
  cases hop : o.op <;> rw [hop] at hc <;> try (simp [chkA] at hc; done)
  rename_i u t x'
  cases u <;> simp [chkA] at hc
  simp only [opA] at h
  split at h
  · rename_i k n hn
    have e := relC_v (hn ▸ chkO_sound hr hc)
    exact gives_pure hr (by simp [execOp, hop, e, Op.unary, Op.intBits, bitsA]) h (.d (.v _))
  · exact h.elim

theorem op_not {x : Opnd} (hc : chkA P o.op (.not x) = true) (h : opA P (.not x) σ K) (hr : Rel X σ m a w) : Gives P o a w (Post X σ a K) := by
  cases hop : o.op <;> rw [hop] at hc <;> try (simp [chkA] at hc; done)
  rename_i u t x'
  cases u <;> simp [chkA] at hc
  simp only [opA] at h
  split at h
  · rename_i n hn
    have e := relC_v (hn ▸ chkO_sound hr hc)
    exact gives_pure hr (by simp [execOp, hop, e, Op.unary]) h (.d (.v _))
  · exact h.elim

/-! ### Shapes -/
theorem sizeIs_run {t : TypeId} {n : Nat} (h : sizeIs P t n = true) (w : World) : (sizeOf t).run P w = .ok n w := by
  unfold sizeIs at h
  split at h
  · rename_i i hi; simp at h; subst h; simp [sizeOf, typeInfo, hi]
  · cases h
theorem isAggT_run {t : TypeId} {x : Bool} (h : isAggT P t = some x) (w : World) : (isAgg t).run P w = .ok x w := by
  unfold isAggT at h
  split at h
  · rename_i hu; cases h; simp [isAgg, run_underlying' hu]
  · rename_i hu; cases h; simp [isAgg, run_underlying' hu]
  · rename_i d n1 n2 hu; cases h
    simp only [isAgg, Sem.run_bind, run_underlying' hu, Result.andThen_ok]
    cases d <;> first | rfl | exact absurd rfl (n1 _) | exact absurd rfl (n2 _ _) | exact (n1 _ rfl).elim | exact (n2 _ _ rfl).elim
  · cases h
theorem chkSh_agg {t : TypeId} {n : Nat} (h : chkSh P t (.agg n) = true) : (∀ w, (isAgg t).run P w = .ok true w) ∧ ∀ w, (sizeOf t).run P w = .ok n w := by
  simp [chkSh] at h
  exact ⟨isAggT_run h.1, sizeIs_run h.2⟩
theorem chkSh_one {t : TypeId} (h : chkSh P t .one = true) : (∀ w, (isAgg t).run P w = .ok false w) ∧ ∀ w, (sizeOf t).run P w = .ok 1 w := by
  simp [chkSh] at h
  exact ⟨isAggT_run h.1, sizeIs_run h.2⟩

theorem add_plain (B o n : Nat) : (⟨B, o, none⟩ : Addr).add n = ⟨B, o + n, none⟩ := by unfold Addr.add; split <;> simp_all

theorem run_load_cells {t : TypeId} {n : Nat} (h : chkSh P t (.agg n) = true) {B o : Nat} {f : Nat → Value} (hf : ∀ j, j < n → w.cell? ⟨B, o + j, none⟩ = some (f j)) :
    (loadVar t ⟨B, o, none⟩).run P w = .ok (.agg ((List.range n).map f).toArray) w := by
  obtain ⟨h1, h2⟩ := chkSh_agg h
  have := run_loadCells (P := P) w ⟨B, o, none⟩ n f (fun j hj => by rw [add_plain]; exact hf j hj)
  simp only [loadVar, Sem.run_bind, h1, Result.andThen_ok, if_true, h2, this, Sem.run_map, Sem.run_pure]

theorem run_load_one {t : TypeId} (h : chkSh P t .one = true) {p : Addr} {v : Value} (hf : w.cell? p = some v) : (loadVar t p).run P w = .ok v w := by
  obtain ⟨h1, _⟩ := chkSh_one h
  simp only [loadVar, Sem.run_bind, h1, Result.andThen_ok, Bool.false_eq_true, if_false, run_load, hf]

theorem cell_of {B o : Nat} {c : Array Value} {e : TypeId} (hh : w.heap[B]? = some (.cells c e (0, 0))) (ho : o < c.size) : w.cell? ⟨B, o, none⟩ = some (c.getD o undef) := by
  simp [World.cell?, hh, Array.getD, ho]

theorem getD_range {n : Nat} {f : Nat → Value} {j : Nat} (hj : j < n) : (((List.range n).map f).toArray).getD j undef = f j := by
  simp [Array.getD, hj]

theorem slot_var {s : Nat} {cs : List AC} (hr : Rel X σ m a w) (hb : σ.b s = .var cs) : (m s).live = true ∧ ∃ c e, w.heap[(m s).blk]? = some (.cells c e (0, 0)) ∧ c.size = cs.length ∧
      (∀ i, i < cs.length → (c.getD i undef).oneCell' = true) ∧ ∀ i (h : i < cs.length), RelC (X.ok m) w σ.b m (cs[i]) (c.getD i undef) := by
  have := hr.slots s; unfold SlotOK at this; rw [hb] at this; exact this

theorem slot_row {s esz : Nat} {els : List (List D)} (hr : Rel X σ m a w) (hb : σ.b s = .row esz els) : (m s).live = false ∧ els = [] ∨ (m s).live = true ∧ ∃ c e, w.heap[(m s).blk]? = some (.cells c e (0, 0)) ∧ c.size = (m s).cap * esz ∧
      els.length ≤ (m s).cap ∧ (∀ i (h : i < els.length), (els[i]).length = esz) ∧ (∀ k, k < els.length * esz → (c.getD k undef).oneCell' = true) ∧
      ∀ i j (hi : i < els.length) (hj : j < (els[i]).length), RelD (X.ok m) w ((els[i])[j]) (c.getD (i * esz + j) undef) := by
  have := hr.slots s; unfold SlotOK at this; rw [hb] at this; exact this

theorem pos_lt {i n j esz : Nat} (hi : i < n) (hj : j < esz) : i * esz + j < n * esz := by
  have : (i + 1) * esz ≤ n * esz := Nat.mul_le_mul_right _ hi
  rw [Nat.add_mul] at this; omega

theorem op_ld {sh : Sh} {x : Opnd} {av : List Nat} (hc : chkA P o.op (.ld sh x av) = true) (h : opA P (.ld sh x av) σ K) (hr : Rel X σ m a w) : Gives P o a w (Post X σ a K) := by
  cases hop : o.op <;> rw [hop] at hc <;> simp [chkA] at hc
  rename_i t x'
  obtain ⟨hsh, hx⟩ := hc
  have hR := chkO_sound hr hx
  have hex : ∀ {p : Addr} {v : Value}, a.eval x' = .pointer (some p) → (loadVar t p).run P w = .ok v w → (execOp a.eval o).run P w = .ok (.value v) w := fun e1 e2 => by
    simp [execOp, hop, e1, Instr.loadAt, Instr.sureAddr, e2]
  simp only [opA] at h
  split at h
  · rename_i s off hs
    obtain ⟨_, h⟩ := h
    rw [hs] at hR
    split at h
    · rename_i cs hb
      obtain ⟨hl, c, e, hh, hz, hone, hcs⟩ := slot_var hr hb
      have hp : a.eval x' = .pointer (some ⟨(m s).blk, off, none⟩) := by
        generalize a.eval x' = v at hR
        cases hR with
        | ptr => rfl
        | ptrDead _ _ _ hb' => rw [hb] at hb'; cases hb'
      split at h
      · split at h
        · rename_i u hu
          obtain ⟨hlt, rfl⟩ := List.getElem?_eq_some_iff.1 hu
          exact gives_pure hr (hex hp (run_load_one hsh (cell_of hh (by omega)))) h (hcs off hlt)
        · exact h.elim
      · rename_i n
        obtain ⟨hle, h⟩ := h
        refine gives_pure hr (hex hp (run_load_cells hsh (f := fun j => c.getD (off + j) undef) (fun j hj => cell_of hh (by omega)))) h (.agg _ _ (by simp; omega) fun j hj => ?_)
        have hj' : j < n := by simp at hj; omega
        rw [getD_range hj']
        simpa using hcs (off + j) (by omega)
    · exact h.elim
  · rename_i cs hs
    rw [hs] at hR
    generalize hv : a.eval x' = v at hR
    cases hR with
    | d hD =>
      cases hD with
      | fptr _ B off f hok hB hcell hone hrel =>
        split at h
        · cases cs with
          | nil => exact h.elim
          | cons c cs =>
            exact gives_pure hr (hex hv (run_load_one hsh (hcell 0 (by simp)))) h (.d (hrel 0 (by simp)))
        · rename_i n
          obtain ⟨hle, h⟩ := h
          refine gives_pure hr (hex hv (run_load_cells hsh (f := f) (fun j hj => hcell j (by omega)))) h (.d (.agg _ _ (by simp; omega) fun j hj => ?_))
          have hj' : j < n := by simp at hj; omega
          rw [getD_range hj']
          simpa using hrel j (by omega)
  · rename_i s i j tot hs
    obtain ⟨_, h⟩ := h
    rw [hs] at hR
    split at h
    · rename_i esz els hb
      obtain ⟨ht, hi, h⟩ := h
      rcases slot_row hr hb with ⟨_, he⟩ | ⟨hl, c, e, hh, hz, hcap, hel, hone, hcs⟩
      · subst he; simp at hi
      have hp : a.eval x' = .pointer (some ⟨(m s).blk, i * esz + j, none⟩) := by
        generalize a.eval x' = v at hR
        cases hR with
        | rptr _ _ _ esz' els' hb' => rw [hb] at hb'; cases hb'; rfl
        | rptrStale _ _ _ _ esz' els' _ hb' hlt => rw [hb] at hb'; cases hb'; omega
        | rptrDead _ _ _ _ _ hb' => rw [hb] at hb'; cases hb'
      have hgd : els.getD i [] = els[i] := by simp [List.getD, hi]
      have hle := hel i hi
      rw [hgd] at h
      split at h
      · split at h
        · rename_i u hu
          obtain ⟨hlt, rfl⟩ := List.getElem?_eq_some_iff.1 hu
          refine gives_pure hr (hex hp (run_load_one hsh (cell_of hh ?_))) h (.d (hcs i j hi hlt))
          rw [hz]; exact pos_lt (by omega) (by omega)
        · exact h.elim
      · rename_i n
        obtain ⟨hle2, h⟩ := h
        refine gives_pure hr (hex hp (run_load_cells hsh (f := fun q => c.getD (i * esz + j + q) undef) (fun q hq => cell_of hh ?_))) h (.d (.agg _ _ (by simp; omega) fun q hq => ?_))
        · rw [hz]; have := pos_lt (i := i) (n := (m s).cap) (j := j + q) (esz := esz) (by omega) (by omega); omega
        · have hq' : q < n := by simp at hq; omega
          rw [getD_range hq']
          have := hcs i (j + q) hi (by omega)
          simpa [Nat.add_assoc] using this
    · exact h.elim
  · exact h.elim

end
end Go.AM

/- The abstract machine, part 6: places, parts, lengths: operations that leave memory alone. No condition. -/
set_option linter.unusedVariables false
set_option linter.unusedSimpArgs false
namespace Go.AM
open Go
section
variable {P : Program} {X : Ctx} {σ : St} {m : Nat → Loc} {a : Act} {w : World} {o : Oper} {K : AC → (Nat → ABlk) → Prop}

theorem run_typeInfo_some {t : TypeId} {i : TypeInfo} (h : P.info? t = some i) (w : World) : (typeInfo t).run P w = .ok i w := by simp [typeInfo, h]

/-- A pointer to a variable that stands. -/
theorem ptr_val {s off : Nat} {cs : List AC} {v : Value} (hR : RelC (X.ok m) w σ.b m (.ptr s off) v) (hb : σ.b s = .var cs) : v = .pointer (some ⟨(m s).blk, off, none⟩) := by
  cases hR with
  | ptr => rfl
  | ptrDead _ _ _ hb' => rw [hb] at hb'; cases hb'
theorem op_nck {x : Opnd} (hc : chkA P o.op (.nck x) = true) (h : opA P (.nck x) σ K) (hr : Rel X σ m a w) : Gives P o a w (Post X σ a K) := by
  cases hop : o.op <;> rw [hop] at hc <;> simp [chkA] at hc
  rename_i x'
  have hR := chkO_sound hr hc
  simp only [opA] at h
  split at h <;> try (exact h.elim)
  · rename_i s off hx
    split at h <;> try (exact h.elim)
    rename_i cs hb
    rw [hx] at hR
    have hv := ptr_val hR hb
    rw [hv] at hR
    exact gives_pure hr (by simp [execOp, hop, hv]) h hR
  · rename_i cs hx
    rw [hx] at hR
    generalize hv : a.eval x' = v at hR
    cases hR with
    | d hD =>
      have hD0 := hD
      cases hD with
      | fptr _ B off f => exact gives_pure hr (by simp [execOp, hop, hv]) h (.d hD0)
theorem rptr_val {s i j tot esz : Nat} {els : List (List D)} {v : Value} (hR : RelC (X.ok m) w σ.b m (.rptr s i j tot) v) (hb : σ.b s = .row esz els) (ht : tot = els.length) :
    v = .pointer (some ⟨(m s).blk, i * esz + j, none⟩) ∧ (m s).live = true ∧ i < els.length := by
  cases hR with
  | rptr _ _ _ esz' els' hb' hl hi => rw [hb] at hb'; cases hb'; exact ⟨rfl, hl, hi⟩
  | rptrStale _ _ _ _ esz' els' _ hb' hlt => rw [hb] at hb'; cases hb'; omega
  | rptrDead _ _ _ _ _ hb' => rw [hb] at hb'; cases hb'

theorem vs_val {s off len : Nat} {cs : List AC} {v : Value} (hR : RelC (X.ok m) w σ.b m (.vs s off len) v) (hb : σ.b s = .var cs) : ∃ cap, len ≤ cap ∧ v = .slice (some ⟨(m s).blk, off, none⟩) len cap := by
  cases hR with
  | vs _ _ _ cap _ _ hcap => exact ⟨cap, hcap, rfl⟩
  | vsDead _ _ _ _ hb' => rw [hb] at hb'; cases hb'

theorem op_fad {off : Nat} {x : Opnd} (hc : chkA P o.op (.fad off x) = true) (h : opA P (.fad off x) σ K) (hr : Rel X σ m a w) : Gives P o a w (Post X σ a K) := by
  cases hop : o.op <;> rw [hop] at hc <;> simp only [chkA, Bool.false_eq_true, Bool.and_eq_true] at hc
  rename_i t x' f
  obtain ⟨hf, hx⟩ := hc
  split at hf <;> try (cases hf; done)
  rename_i fs hu
  split at hf <;> try (cases hf; done)
  rename_i fl hfl
  simp only [Bool.and_eq_true, beq_iff_eq, Bool.not_eq_true'] at hf
  obtain ⟨⟨rfl, hz⟩, hs⟩ := hf
  obtain ⟨i, hi⟩ := Option.isSome_iff_exists.1 hs
  have hne : i.size ≠ 0 := by simpa [sizeIs, hi] using hz
  have hR := chkO_sound hr hx
  have hex : ∀ {B o' : Nat}, a.eval x' = .pointer (some ⟨B, o', none⟩) → (execOp a.eval o).run P w = .ok (.value (.pointer (some ⟨B, o' + fl.offset, none⟩))) w := fun e1 => by
    simp [execOp, hop, e1, Instr.fieldAt, run_underlying' hu, hfl, Instr.sureAddr, fieldPlace, sizeOf, run_typeInfo_some hi, hne, add_plain]
  simp only [opA] at h
  split at h
  · rename_i s off hs'
    rw [hs'] at hR
    split at h <;> try (exact h.elim)
    rename_i cs hb
    exact gives_pure hr (hex (ptr_val hR hb)) h (.ptr _ _ cs hb)
  · rename_i cs hs'
    rw [hs'] at hR
    generalize hv : a.eval x' = v at hR
    cases hR with
    | d hD =>
      cases hD with
      | fptr _ B off f hok hB hcell hone hrel =>
        refine gives_pure hr (hex hv) h (.d (.fptr _ B _ (fun j => f (fl.offset + j)) hok hB (fun j hj => ?_) (fun j hj => ?_) (fun j hj => ?_)))
        · rw [Nat.add_assoc]; exact hcell _ (by simp at hj; omega)
        · exact hone _ (by simp at hj; omega)
        · simpa using hrel (fl.offset + j) (by simp at hj; omega)
  · rename_i s i' j tot hs'
    rw [hs'] at hR
    split at h <;> try (exact h.elim)
    rename_i esz els hb
    obtain ⟨ht, h⟩ := h
    obtain ⟨hv, hl, hi'⟩ := rptr_val hR hb ht
    refine gives_pure hr (hex hv) h ?_
    subst ht
    have := RelC.rptr (ok := X.ok m) (w := w) (b := σ.b) (m := m) s i' (j + fl.offset) esz els hb hl hi'
    rwa [← Nat.add_assoc] at this
  · exact h.elim

/-- A part of an aggregate. -/
theorem run_part_one {t : TypeId} (h : chkSh P t .one = true) {cs : Array Value} {off : Nat} (ho : off < cs.size) : (part t cs off).run P w = .ok (cs.getD off undef) w := by
  obtain ⟨h1, _⟩ := chkSh_one h
  simp [part, h1, ho, Array.getD]
theorem run_part_agg {t : TypeId} {n : Nat} (h : chkSh P t (.agg n) = true) (cs : Array Value) (off : Nat) : (part t cs off).run P w = .ok (.agg (cs.extract off (off + n))) w := by
  obtain ⟨h1, h2⟩ := chkSh_agg h
  simp [part, h1, h2]
theorem getD_extract {cs : Array Value} {off n j : Nat} (h : off + n ≤ cs.size) (hj : j < n) : (cs.extract off (off + n)).getD j undef = cs.getD (off + j) undef := by
  simp [Array.getD, show off + j < cs.size by omega, Nat.min_eq_left h, hj]

/-- What a part of an aggregate reads as. -/
theorem part_gives {sh : Sh} {t : TypeId} (hsh : chkSh P t sh = true) {off : Nat} {v : Value} {cs : List AC} {vs : Array Value} (hv : v = .agg vs) (hz : vs.size = cs.length)
    (hrel : ∀ j (hj : j < cs.length), RelC (X.ok m) w σ.b m (cs[j]) (vs.getD j undef)) {Q : AC → Prop}
    (h : match sh with
      | .one => (match cs[off]? with | some c => Q c | none => False)
      | .agg n => off + n ≤ cs.length ∧ Q (.agg ((cs.drop off).take n))) :
    ∃ y u, Q y ∧ (part t vs off).run P w = .ok u w ∧ RelC (X.ok m) w σ.b m y u := by
  cases sh with
  | one =>
    simp only at h
    split at h
    · rename_i c hu
      obtain ⟨hlt, rfl⟩ := List.getElem?_eq_some_iff.1 hu
      exact ⟨_, _, h, run_part_one hsh (by omega), hrel off hlt⟩
    · exact h.elim
  | agg n =>
    obtain ⟨hle, h⟩ := h
    refine ⟨_, _, h, run_part_agg hsh vs off, .agg _ _ (by simp; omega) fun j hj => ?_⟩
    have hj' : j < n := by simp at hj; omega
    rw [getD_extract (by omega) hj']
    simpa using hrel (off + j) (by omega)
theorem part_givesD {sh : Sh} {t : TypeId} (hsh : chkSh P t sh = true) {off : Nat} {v : Value} {cs : List D} {vs : Array Value} (hv : v = .agg vs) (hz : vs.size = cs.length)
    (hrel : ∀ j (hj : j < cs.length), RelD (X.ok m) w (cs[j]) (vs.getD j undef)) {Q : AC → Prop}
    (h : match sh with
      | .one => (match cs[off]? with | some c => Q (.d c) | none => False)
      | .agg n => off + n ≤ cs.length ∧ Q (.d (.agg ((cs.drop off).take n)))) :
    ∃ y u, Q y ∧ (part t vs off).run P w = .ok u w ∧ RelC (X.ok m) w σ.b m y u := by
  cases sh with
  | one =>
    simp only at h
    split at h
    · rename_i c hu
      obtain ⟨hlt, rfl⟩ := List.getElem?_eq_some_iff.1 hu
      exact ⟨_, _, h, run_part_one hsh (by omega), .d (hrel off hlt)⟩
    · exact h.elim
  | agg n =>
    obtain ⟨hle, h⟩ := h
    refine ⟨_, _, h, run_part_agg hsh vs off, .d (.agg _ _ (by simp; omega) fun j hj => ?_)⟩
    have hj' : j < n := by simp at hj; omega
    rw [getD_extract (by omega) hj']
    simpa using hrel (off + j) (by omega)

theorem op_fld {sh : Sh} {off : Nat} {x : Opnd} (hc : chkA P o.op (.fld sh off x) = true) (h : opA P (.fld sh off x) σ K) (hr : Rel X σ m a w) : Gives P o a w (Post X σ a K) := by
  cases hop : o.op <;> rw [hop] at hc <;> simp only [chkA, Bool.false_eq_true, Bool.and_eq_true] at hc
  rename_i t x' f
  obtain ⟨hf, hx⟩ := hc
  split at hf <;> try (cases hf; done)
  rename_i fs hu
  split at hf <;> try (cases hf; done)
  rename_i fl hfl
  simp only [Bool.and_eq_true, beq_iff_eq] at hf
  obtain ⟨rfl, hsh⟩ := hf
  have hR := chkO_sound hr hx
  have hex : ∀ {vs : Array Value} {u : Value}, a.eval x' = .agg vs → (part fl.type vs fl.offset).run P w = .ok u w → (execOp a.eval o).run P w = .ok (.value u) w := fun e1 e2 => by
    simp [execOp, hop, e1, Instr.field, run_underlying' hu, hfl, asAgg, e2]
  simp only [opA] at h
  split at h
  · rename_i cs hs'
    rw [hs'] at hR
    generalize hv : a.eval x' = v at hR
    cases hR with
    | agg _ vs hz hrel =>
      obtain ⟨y, u, hk, hrun, hy⟩ := part_gives (Q := fun y => K y σ.b) hsh rfl hz hrel h
      exact gives_pure hr (hex hv hrun) hk hy
  · rename_i cs hs'
    rw [hs'] at hR
    generalize hv : a.eval x' = v at hR
    cases hR with
    | d hD =>
      cases hD with
      | agg _ vs hz hrel =>
        obtain ⟨y, u, hk, hrun, hy⟩ := part_givesD (Q := fun y => K y σ.b) (σ := σ) hsh rfl hz hrel h
        exact gives_pure hr (hex hv hrun) hk hy
  · exact h.elim

theorem row_val {s off len tot esz : Nat} {els : List (List D)} {v : Value} (hR : RelC (X.ok m) w σ.b m (.row s off len tot) v) (hb : σ.b s = .row esz els) (ht : tot = els.length) :
    ((m s).live = true ∧ off + len ≤ els.length ∧ v = .slice (some ⟨(m s).blk, off * esz, none⟩) len ((m s).cap - off)) ∨ ((m s).live = false ∧ off = 0 ∧ len = 0 ∧ v = .slice none 0 0 ∧ els = []) := by
  cases hR with
  | row _ _ _ esz' els' hb' hl hle => rw [hb] at hb'; cases hb'; exact .inl ⟨hl, hle, rfl⟩
  | rowNil _ esz' hb' hl => rw [hb] at hb'; cases hb'; exact .inr ⟨hl, rfl, rfl, rfl, rfl⟩
  | rowStale _ _ _ _ esz' els' _ hb' hlt => rw [hb] at hb'; cases hb'; omega
  | rowDead _ _ _ _ _ hb' => rw [hb] at hb'; cases hb'

theorem op_ixa {esz : Nat} {x i : Opnd} (hc : chkA P o.op (.ixa esz x i) = true) (h : opA P (.ixa esz x i) σ K) (hr : Rel X σ m a w) : Gives P o a w (Post X σ a K) := by
  cases hop : o.op <;> rw [hop] at hc <;> simp only [chkA, Bool.false_eq_true, Bool.and_eq_true] at hc
  rename_i t x' i'
  obtain ⟨⟨hf, hx⟩, hi⟩ := hc
  split at hf <;> try (cases hf; done)
  rename_i e hu
  have hsz := sizeIs_run hf w
  have hR := chkO_sound hr hx
  have hex : ∀ {B o' len cap : Nat} {k : IntKind} {n : Int}, a.eval x' = .slice (some ⟨B, o', none⟩) len cap → a.eval i' = .int k n → 0 ≤ n → n < len →
      (execOp a.eval o).run P w = .ok (.value (.pointer (some ⟨B, o' + n.toNat * esz, none⟩))) w := fun e1 e2 h1 h2 => by
    simp [execOp, hop, e1, e2, Instr.indexAt, asIntOf, run_underlying' hu, h1, h2, hsz, add_plain]
  simp only [opA] at h
  split at h
  · rename_i xs k n hxs hn
    have hi2 := relC_v (hn ▸ chkO_sound hr hi)
    rw [hxs] at hR
    obtain ⟨h1, h2, h3, h⟩ := h
    generalize hv : a.eval x' = v at hR
    have hlt : n.toNat < xs.length := by omega
    have hgd : xs.getD n.toNat [] = xs[n.toNat] := by simp [List.getD, hlt]
    rw [hgd] at h h3
    cases hR with
    | d hD =>
      cases hD with
      | empty => simp at h2; omega
      | list _ B off cap esz' f hok hB hcap hsz' hcell hone hrel =>
        have : esz' = esz := by rw [← h3, hsz' _ hlt]
        subst this
        exact gives_pure hr (hex hv hi2 h1 h2) h (.d (.fptr _ B _ (fun j => f n.toNat j) hok hB (fun j hj => by rw [Nat.add_assoc]; exact hcell _ _ hlt (by rw [h3] at hj; exact hj)) (fun j hj => hone _ _ hlt (by rw [h3] at hj; exact hj)) (fun j hj => hrel _ _ hlt hj)))
  · rename_i s off len tot k n hxs hn
    have hi2 := relC_v (hn ▸ chkO_sound hr hi)
    rw [hxs] at hR
    obtain ⟨h1, h2, h⟩ := h
    split at h <;> try (exact h.elim)
    rename_i esz' els hb
    obtain ⟨rfl, ht, h⟩ := h
    rcases row_val hR hb ht with ⟨hl, hle, hv⟩ | ⟨_, _, hl0, _, _⟩
    · subst ht
      refine gives_pure hr (hex hv hi2 h1 h2) h ?_
      have := RelC.rptr (ok := X.ok m) (w := w) (b := σ.b) (m := m) s (off + n.toNat) 0 esz' els hb hl (by omega)
      rwa [Nat.add_mul] at this
    · omega
  · rename_i s off len k n hxs hn
    have hi2 := relC_v (hn ▸ chkO_sound hr hi)
    rw [hxs] at hR
    obtain ⟨rfl, h1, h2, h⟩ := h
    split at h <;> try (exact h.elim)
    rename_i cs hb
    obtain ⟨cap, hcap, hv⟩ := vs_val hR hb
    refine gives_pure hr (hex hv hi2 h1 h2) h ?_
    rw [Nat.mul_one]
    exact .ptr s _ cs hb
  · exact h.elim

theorem op_ixp {n esz : Nat} {x i : Opnd} (hc : chkA P o.op (.ixp n esz x i) = true) (h : opA P (.ixp n esz x i) σ K) (hr : Rel X σ m a w) : Gives P o a w (Post X σ a K) := by
  cases hop : o.op <;> rw [hop] at hc <;> simp only [chkA, Bool.false_eq_true, Bool.and_eq_true] at hc
  rename_i t x' i'
  obtain ⟨⟨hf, hx⟩, hi⟩ := hc
  split at hf <;> try (cases hf; done)
  rename_i n' e hu
  simp only [Bool.and_eq_true, beq_iff_eq] at hf
  obtain ⟨rfl, hf⟩ := hf
  have hsz := sizeIs_run hf w
  have hR := chkO_sound hr hx
  simp only [opA] at h
  split at h
  · rename_i s off k q hxs hn
    have hi2 := relC_v (hn ▸ chkO_sound hr hi)
    rw [hxs] at hR
    obtain ⟨h1, h2, h⟩ := h
    split at h <;> try (exact h.elim)
    rename_i cs hb
    have hv := ptr_val hR hb
    refine gives_pure hr ?_ h (.ptr _ _ cs hb)
    simp [execOp, hop, hv, hi2, Instr.indexAt, asIntOf, run_underlying' hu, Instr.sureAddr, h1, h2, hsz, add_plain]
  · exact h.elim

theorem op_ixs {x i : Opnd} (hc : chkA P o.op (.ixs x i) = true) (h : opA P (.ixs x i) σ K) (hr : Rel X σ m a w) : Gives P o a w (Post X σ a K) := by
  cases hop : o.op <;> rw [hop] at hc <;> simp only [chkA, Bool.false_eq_true, Bool.and_eq_true] at hc
  rename_i t x' i'
  obtain ⟨⟨hf, hx⟩, hi⟩ := hc
  split at hf <;> try (cases hf; done)
  rename_i hu
  simp only [opA] at h
  split at h
  · rename_i s k n hxs hn
    have hi2 := relC_v (hn ▸ chkO_sound hr hi)
    have hv := relC_v (hxs ▸ chkO_sound hr hx)
    obtain ⟨h1, h2, h⟩ := h
    have hlt : n.toNat < s.size := by omega
    refine gives_pure hr ?_ h (.d (.v _))
    have hb : byteAt s n = ((s[n.toNat]).toNat : Int) := by
      unfold byteAt
      congr 2
      have h3 : n.toNat < s.data.size := hlt
      simp only [List.getD, ByteArray.getElem_eq_getElem_data, Array.getElem?_toList]
      rw [Array.getElem?_eq_getElem h3]; rfl
    simp [execOp, hop, hv, hi2, Instr.index, asIntOf, run_underlying' hu, h1, hlt, hb]
  · exact h.elim

theorem op_ext {x : Opnd} {k : Nat} (hc : chkA P o.op (.ext x k) = true) (h : opA P (.ext x k) σ K) (hr : Rel X σ m a w) : Gives P o a w (Post X σ a K) := by
  cases hop : o.op <;> rw [hop] at hc <;> simp only [chkA, Bool.false_eq_true, Bool.and_eq_true, beq_iff_eq] at hc
  rename_i x' k'
  obtain ⟨rfl, hx⟩ := hc
  have hR := chkO_sound hr hx
  have hex : ∀ {vs : Array Value}, a.eval x' = .tuple vs → k < vs.size → (execOp a.eval o).run P w = .ok (.value (vs.getD k undef)) w := fun e1 e2 => by
    simp [execOp, hop, e1, Instr.extract, e2, Array.getD]
  simp only [opA] at h
  split at h
  · rename_i cs hs'
    rw [hs'] at hR
    generalize hv : a.eval x' = v at hR
    split at h <;> try (exact h.elim)
    rename_i c hu
    obtain ⟨hlt, rfl⟩ := List.getElem?_eq_some_iff.1 hu
    cases hR with
    | tup _ vs hz hrel => exact gives_pure hr (hex hv (by omega)) h (hrel k hlt)
  · rename_i cs hs'
    rw [hs'] at hR
    generalize hv : a.eval x' = v at hR
    split at h <;> try (exact h.elim)
    rename_i c hu
    obtain ⟨hlt, rfl⟩ := List.getElem?_eq_some_iff.1 hu
    cases hR with
    | d hD => cases hD with
      | tup _ vs hz hrel => exact gives_pure hr (hex hv (by omega)) h (.d (hrel k hlt))
  · exact h.elim

theorem op_len {str : Bool} {x : Opnd} (hc : chkA P o.op (.len str x) = true) (h : opA P (.len str x) σ K) (hr : Rel X σ m a w) : Gives P o a w (Post X σ a K) := by
  cases hop : o.op <;> rw [hop] at hc <;> simp only [chkA, Bool.false_eq_true] at hc
  rename_i c
  split at hc <;> try (cases hc; done)
  rename_i x' t hcal hargs hty
  simp only [Bool.and_eq_true] at hc
  obtain ⟨hx, hu⟩ := hc
  have hR := chkO_sound hr hx
  have ha : c.args = #[x'] := by apply Array.ext'; simpa using hargs
  have hat : c.argTypes = #[t] := by apply Array.ext'; simpa using hty
  have hex : ∀ {u : Value}, (Builtin.len_ #[t] o.type #[a.eval x']).run P w = .ok u w → (execOp a.eval o).run P w = .ok (.value u) w := fun e => by
    simp [execOp, hop, resolve, hcal, ha, hat, invoke, builtin, e]
  have hs : ∀ {e : TypeId} {b : Option Addr} {n cap : Nat}, P.underlying t = some (.slice e) → a.eval x' = .slice b n cap → (execOp a.eval o).run P w = .ok (.value (.int .i64 n)) w := fun h1 h2 =>
    hex (by simp [Builtin.len_, run_underlying' h1, h2, goInt])
  have hstr : str = false → ∃ e, P.underlying t = some (.slice e) := fun e => by
    subst e; revert hu; split <;> intro hu <;> first | (rename_i h1; cases h1; done) | exact ⟨_, by assumption⟩ | (cases hu; done)
  simp only [opA] at h
  split at h
  · rename_i xs hxs
    obtain ⟨rfl, h⟩ := h
    obtain ⟨e, hue⟩ := hstr rfl
    rw [hxs] at hR
    generalize hv : a.eval x' = v at hR
    cases hR with
    | d hD => cases hD with
      | empty => exact gives_pure hr (hs hue hv) h (.d (.v _))
      | list => exact gives_pure hr (hs hue hv) h (.d (.v _))
  · rename_i hxs
    obtain ⟨rfl, h⟩ := h
    obtain ⟨e, hue⟩ := hstr rfl
    exact gives_pure hr (hs hue (relC_v (hxs ▸ hR))) h (.d (.v _))
  · rename_i s hxs
    obtain ⟨rfl, h⟩ := h
    have hue : P.underlying t = some .string := by
      revert hu; split <;> intro hu <;> first | (rename_i h1; cases h1; done) | assumption | cases hu
    exact gives_pure hr (hex (by simp [Builtin.len_, run_underlying' hue, relC_v (hxs ▸ hR), goInt])) h (.d (.v _))
  · rename_i s off len tot hxs
    obtain ⟨rfl, h⟩ := h
    obtain ⟨e, hue⟩ := hstr rfl
    rw [hxs] at hR
    split at h <;> try (exact h.elim)
    rename_i esz els hb
    obtain ⟨ht, h⟩ := h
    rcases row_val hR hb ht with ⟨_, _, hv⟩ | ⟨_, _, hl0, hv, _⟩
    · exact gives_pure hr (hs hue hv) h (.d (.v _))
    · subst hl0; exact gives_pure hr (hs hue hv) h (.d (.v _))
  · rename_i s off len hxs
    obtain ⟨rfl, h⟩ := h
    obtain ⟨e, hue⟩ := hstr rfl
    rw [hxs] at hR
    split at h <;> try (exact h.elim)
    rename_i cs hb
    obtain ⟨cap, _, hv⟩ := vs_val hR hb
    exact gives_pure hr (hs hue hv) h (.d (.v _))
  · exact h.elim

end
end Go.AM

/- The abstract machine, part 7: literals, conversions, slices of slices. No condition. -/
set_option linter.unusedVariables false
set_option linter.unusedSimpArgs false
namespace Go.AM
open Go
section
variable {P : Program} {X : Ctx} {σ : St} {m : Nat → Loc} {a : Act} {w : World} {o : Oper} {K : AC → (Nat → ABlk) → Prop}

theorem op_ixv {sh : Sh} {n esz : Nat} {x i : Opnd} (hc : chkA P o.op (.ixv sh n esz x i) = true) (h : opA P (.ixv sh n esz x i) σ K) (hr : Rel X σ m a w) : Gives P o a w (Post X σ a K) := by
  cases hop : o.op <;> rw [hop] at hc <;> simp only [chkA, Bool.false_eq_true, Bool.and_eq_true] at hc
  rename_i t x' i'
  obtain ⟨⟨hf, hx⟩, hi⟩ := hc
  split at hf <;> try (cases hf; done)
  rename_i n' e hu
  simp only [Bool.and_eq_true, beq_iff_eq] at hf
  obtain ⟨⟨rfl, hf⟩, hsh⟩ := hf
  have hsz := sizeIs_run hf w
  have hR := chkO_sound hr hx
  have hex : ∀ {vs : Array Value} {u : Value} {k : IntKind} {q : Int}, a.eval x' = .agg vs → a.eval i' = .int k q → 0 ≤ q → q < n → (part e vs (q.toNat * esz)).run P w = .ok u w → (execOp a.eval o).run P w = .ok (.value u) w := fun e1 e2 h1 h2 h3 => by
    simp [execOp, hop, e1, e2, Instr.index, run_underlying' hu, asIntOf, h1, h2, hsz, h3]
  simp only [opA] at h
  split at h
  · rename_i cs k q hs' hq
    have hi2 := relC_v (hq ▸ chkO_sound hr hi)
    rw [hs'] at hR
    obtain ⟨h1, h2, h⟩ := h
    generalize hv : a.eval x' = v at hR
    cases hR with
    | agg _ vs hz hrel =>
      obtain ⟨y, u, hk, hrun, hy⟩ := part_gives (Q := fun y => K y σ.b) hsh rfl hz hrel h
      exact gives_pure hr (hex hv hi2 h1 h2 hrun) hk hy
  · rename_i cs k q hs' hq
    have hi2 := relC_v (hq ▸ chkO_sound hr hi)
    rw [hs'] at hR
    obtain ⟨h1, h2, h⟩ := h
    generalize hv : a.eval x' = v at hR
    cases hR with
    | d hD =>
      cases hD with
      | agg _ vs hz hrel =>
        obtain ⟨y, u, hk, hrun, hy⟩ := part_givesD (Q := fun y => K y σ.b) (σ := σ) hsh rfl hz hrel h
        exact gives_pure hr (hex hv hi2 h1 h2 hrun) hk hy
  · exact h.elim

theorem chkOs_len : ∀ {xs : List Operand} {ys : List Opnd}, chkOs xs ys = true → xs.length = ys.length
  | [], [], _ => rfl
  | x :: xs, y :: ys, h => by simp [chkOs] at h; simp [chkOs_len h.2]
theorem chkOs_get (hr : Rel X σ m a w) : ∀ {xs : List Operand} {ys : List Opnd}, chkOs xs ys = true → ∀ j (hj : j < ys.length), RelC (X.ok m) w σ.b m (evO σ.t ys[j]) ((xs.map a.eval).getD j undef)
  | [], [], _, j, hj => by cases hj
  | x :: xs, y :: ys, h, j, hj => by
    simp [chkOs] at h
    cases j with
    | zero => simpa using chkO_sound hr h.1
    | succ j => simpa using chkOs_get hr h.2 j (by simpa using hj)

theorem run_mx2 {mn : Bool} {x y z : AC} {u v : Value} {ok : Nat → Prop} {b : Nat → ABlk} (h : mx2 mn x y = some z) (hx : RelC ok w b m x u) (hy : RelC ok w b m y v) :
    ∃ r, (if mn then Builtin.min2 u v else Builtin.max2 u v).run P w = .ok r w ∧ RelC ok w b m z r := by
  unfold mx2 at h
  split at h <;> try (cases h; done)
  rename_i k p k' q
  split at h <;> try (cases h; done)
  rename_i hk; subst hk; cases h
  have e1 := relC_v hx
  have e2 := relC_v hy
  subst e1; subst e2
  cases mn
  · refine ⟨_, ?_, .d (.v _)⟩
    simp only [Bool.false_eq_true, if_false, Builtin.max2, Sem.run_pure]
    congr 2
    rw [Int.max_def]; split <;> split <;> first | rfl | omega
  · refine ⟨_, ?_, .d (.v _)⟩
    simp only [if_true, Builtin.min2, Sem.run_pure]
    congr 2
    rw [Int.min_def]; split <;> split <;> first | rfl | omega

theorem run_maxC {mn : Bool} : ∀ {ys : List AC} {x r : AC} {u : Value} {us : List Value} {ok : Nat → Prop} {b : Nat → ABlk}, maxC mn x ys = some r → RelC ok w b m x u → us.length = ys.length →
    (∀ j (hj : j < ys.length), RelC ok w b m (ys[j]) (us.getD j undef)) → ∃ v, (us.foldlM (fun u v => if mn then Builtin.min2 u v else Builtin.max2 u v) u : Sem Value).run P w = .ok v w ∧ RelC ok w b m r v
  | [], x, r, u, us, ok, b, h, hx, hl, hy => by
    cases us with
    | nil => simp [maxC] at h; subst h; exact ⟨u, by simp, hx⟩
    | cons => simp at hl
  | y :: ys, x, r, u, us, ok, b, h, hx, hl, hy => by
    cases us with
    | nil => simp at hl
    | cons u' us =>
      unfold maxC at h
      split at h <;> try (cases h; done)
      rename_i z hz
      have hy0 : RelC ok w b m y u' := hy 0 (by simp)
      obtain ⟨v, hv, hrel⟩ := run_mx2 (P := P) hz hx hy0
      obtain ⟨v2, hv2, hrel2⟩ := run_maxC (us := us) h hrel (by simpa using hl) (fun j hj => hy (j + 1) (by simpa using hj))
      refine ⟨v2, ?_, hrel2⟩
      rw [List.foldlM_cons, Sem.run_bind, hv]
      exact hv2

theorem op_mx {x : Opnd} {ys : List Opnd} (hc : chkA P o.op (.mx x ys) = true) (h : opA P (.mx x ys) σ K) (hr : Rel X σ m a w) : Gives P o a w (Post X σ a K) := by
  cases hop : o.op <;> rw [hop] at hc <;> simp only [chkA, Bool.false_eq_true] at hc
  rename_i c
  split at hc <;> try (cases hc; done)
  rename_i x' ys' hcal hargs
  simp only [Bool.and_eq_true] at hc
  simp only [opA] at h
  split at h <;> try (exact h.elim)
  rename_i r hm
  obtain ⟨v, hv, hrel⟩ := run_maxC (P := P) (mn := false) (us := ys'.map a.eval) hm (chkO_sound hr hc.1) (by simp [chkOs_len hc.2]) (fun j hj => by simpa using chkOs_get hr hc.2 j (by simpa using hj))
  simp only [Bool.false_eq_true, if_false] at hv
  refine gives_pure hr ?_ h hrel
  have ha : c.args = (x' :: ys').toArray := by apply Array.ext'; simpa using hargs
  have : (Builtin.max_ c.argTypes o.type (c.args.map a.eval)).run P w = .ok v w := by
    rw [ha]
    simp only [Builtin.max_, List.map_toArray, List.map_cons]
    exact hv
  simp [execOp, hop, resolve, hcal, invoke, builtin, this]

theorem op_mn {x : Opnd} {ys : List Opnd} (hc : chkA P o.op (.mn x ys) = true) (h : opA P (.mn x ys) σ K) (hr : Rel X σ m a w) : Gives P o a w (Post X σ a K) := by
  cases hop : o.op <;> rw [hop] at hc <;> simp only [chkA, Bool.false_eq_true] at hc
  rename_i c
  split at hc <;> try (cases hc; done)
  rename_i x' ys' hcal hargs
  simp only [Bool.and_eq_true] at hc
  simp only [opA] at h
  split at h <;> try (exact h.elim)
  rename_i r hm
  obtain ⟨v, hv, hrel⟩ := run_maxC (P := P) (mn := true) (us := ys'.map a.eval) hm (chkO_sound hr hc.1) (by simp [chkOs_len hc.2]) (fun j hj => by simpa using chkOs_get hr hc.2 j (by simpa using hj))
  simp only [if_true] at hv
  refine gives_pure hr ?_ h hrel
  have ha : c.args = (x' :: ys').toArray := by apply Array.ext'; simpa using hargs
  have : (Builtin.min_ c.argTypes o.type (c.args.map a.eval)).run P w = .ok v w := by
    rw [ha]
    simp only [Builtin.min_, List.map_toArray, List.map_cons]
    exact hv
  simp [execOp, hop, resolve, hcal, invoke, builtin, this]

theorem op_cv {k : IntKind} {x : Opnd} (hc : chkA P o.op (.cv k x) = true) (h : opA P (.cv k x) σ K) (hr : Rel X σ m a w) : Gives P o a w (Post X σ a K) := by
  cases hop : o.op <;> rw [hop] at hc <;> simp only [chkA, Bool.false_eq_true, Bool.and_eq_true] at hc
  rename_i s t x'
  obtain ⟨hf, hx⟩ := hc
  split at hf <;> try (cases hf; done)
  rename_i k1 k2 hu1 hu2
  simp at hf; subst hf
  simp only [opA] at h
  split at h <;> try (exact h.elim)
  rename_i k3 n hn
  have e := relC_v (hn ▸ chkO_sound hr hx)
  exact gives_pure hr (by simp [execOp, hop, e, convert, run_underlying' hu1, run_underlying' hu2, Conv.intToInt]) h (.d (.v _))

theorem op_mki {t : TypeId} {x : Opnd} (hc : chkA P o.op (.mki t x) = true) (h : opA P (.mki t x) σ K) (hr : Rel X σ m a w) : Gives P o a w (Post X σ a K) := by
  cases hop : o.op <;> rw [hop] at hc <;> simp only [chkA, Bool.false_eq_true, Bool.and_eq_true, beq_iff_eq] at hc
  rename_i t' x'
  obtain ⟨⟨rfl, hf⟩, hx⟩ := hc
  simp only [opA] at h
  split at h <;> try (exact h.elim)
  rename_i u hn
  have e := relC_v (hn ▸ chkO_sound hr hx)
  refine gives_pure hr ?_ h.2 (.d (.v _))
  split at hf <;> try (cases hf; done)
  rename_i d hnot hu
  simp only [execOp, hop, e, Instr.makeInterface, Sem.run_bind, run_underlying' hu, Result.andThen_ok]
  cases d <;> first | rfl | exact absurd rfl (hnot _) | exact (hnot _ rfl).elim

theorem flatVs_get : ∀ {cs : List AC} {vs : List Value}, flatVs cs = some vs → cs = vs.map fun v => .d (.v v)
  | [], vs, h => by simp [flatVs] at h; subst h; rfl
  | c :: cs, vs, h => by
    unfold flatVs at h
    split at h
    · rename_i e; cases e
    · rename_i v cs' e
      cases e
      cases hc : flatVs cs with
      | none => rw [hc] at h; cases h
      | some us =>
        rw [hc] at h
        cases h
        rw [flatVs_get hc]; rfl
    · cases h

theorem op_mkia {t : TypeId} {x : Opnd} (hc : chkA P o.op (.mkia t x) = true) (h : opA P (.mkia t x) σ K) (hr : Rel X σ m a w) : Gives P o a w (Post X σ a K) := by
  cases hop : o.op <;> rw [hop] at hc <;> simp only [chkA, Bool.false_eq_true, Bool.and_eq_true, beq_iff_eq] at hc
  rename_i t' x'
  obtain ⟨⟨rfl, hf⟩, hx⟩ := hc
  simp only [opA] at h
  split at h <;> try (exact h.elim)
  rename_i cs hn
  split at h <;> try (exact h.elim)
  rename_i vs hvs
  have hR := hn ▸ chkO_sound hr hx
  have e : a.eval x' = .agg vs.toArray := by
    have hcs := flatVs_get hvs
    subst hcs
    generalize hv : a.eval x' = u at hR
    cases hR with
    | agg _ us h1 h2 =>
      congr 1
      have hl : us.size = vs.length := by simpa using h1
      apply Array.ext
      · simpa using hl
      · intro i h3 h4
        have := relC_v (by have := h2 i (by simpa using h4); simpa using this)
        simpa [Array.getD, h3] using this
  refine gives_pure hr ?_ h (.d (.v _))
  split at hf <;> try (cases hf; done)
  rename_i d hnot hu
  simp only [execOp, hop, e, Instr.makeInterface, Sem.run_bind, run_underlying' hu, Result.andThen_ok]
  cases d <;> first | rfl | exact absurd rfl (hnot _) | exact (hnot _ rfl).elim

theorem op_isn {neg : Bool} {x : Opnd} (hc : chkA P o.op (.isn neg x) = true) (h : opA P (.isn neg x) σ K) (hr : Rel X σ m a w) : Gives P o a w (Post X σ a K) := by
  cases hop : o.op <;> rw [hop] at hc <;> simp only [chkA, Bool.false_eq_true, Bool.and_eq_true, decide_eq_true_eq] at hc
  rename_i op' t x' y' t'
  obtain ⟨⟨⟨rfl, h0⟩, h2⟩, h3⟩ := hc
  have hy : y' = .const .nilIface := by
    split at h3
    · rfl
    · cases h3
  subst hy
  obtain ⟨ms, hu⟩ : ∃ e, P.underlying t = some (.interface e) := by
    revert h0; split
    · rename_i e hu; intro _; exact ⟨e, hu⟩
    · intro h0; cases h0
  have he : a.eval (.const .nilIface) = .nilIface := rfl
  simp only [opA] at h
  split at h <;> try (exact h.elim)
  · rename_i hx
    have e1 := relC_v (hx ▸ chkO_sound hr h2)
    have hrun : (Op.equal t .nilIface .nilIface).run P w = .ok true w := by
      show (Op.equalIn (9999 + 1) t _ _).run P w = _
      rw [Op.equalIn, Sem.run_bind, run_underlying' hu]; rfl
    have hg : (eqGuard (if neg = true then .neq else .eql) t x' (.const .nilIface) .nilIface .nilIface).run P w = .ok () w := by
      cases neg <;> simp [eqGuard]
    refine gives_pure hr ?_ h (.d (.v _))
    simp only [execOp, hop, e1, he, Sem.run_bind, hg, Result.andThen_ok]
    cases neg <;> simp [binOp, hrun]
  · rename_i t1 u hx
    have e1 := relC_v (hx ▸ chkO_sound hr h2)
    have hrun : (Op.equal t (.iface t1 u) .nilIface).run P w = .ok false w := by
      show (Op.equalIn (9999 + 1) t _ _).run P w = _
      rw [Op.equalIn, Sem.run_bind, run_underlying' hu]; rfl
    have hg : (eqGuard (if neg = true then .neq else .eql) t x' (.const .nilIface) (.iface t1 u) .nilIface).run P w = .ok () w := by
      cases neg <;> simp [eqGuard]
    refine gives_pure hr ?_ h (.d (.v _))
    simp only [execOp, hop, e1, he, Sem.run_bind, hg, Result.andThen_ok]
    cases neg <;> simp [binOp, hrun]

theorem op_tas {t : TypeId} {x : Opnd} (hc : chkA P o.op (.tas t x) = true) (h : opA P (.tas t x) σ K) (hr : Rel X σ m a w) : Gives P o a w (Post X σ a K) := by
  cases hop : o.op <;> rw [hop] at hc <;> simp only [chkA, Bool.false_eq_true, Bool.and_eq_true, beq_iff_eq] at hc
  rename_i x' xt t' ok
  obtain ⟨⟨⟨rfl, rfl⟩, hf⟩, hx⟩ := hc
  simp only [opA] at h
  split at h <;> try (exact h.elim)
  rename_i t1 vs hn
  obtain ⟨rfl, h⟩ := h
  have e := relC_v (hn ▸ chkO_sound hr hx)
  refine gives_pure (v := .tuple #[.agg vs, .bool true]) hr ?_ h (.tup _ _ (by simp) fun j hj => ?_)
  · split at hf <;> try (cases hf; done)
    rename_i d hnot hu
    simp only [execOp, hop, e, Instr.typeAssert, Sem.run_bind, run_underlying' hu, Result.andThen_ok]
    cases d <;> first | exact absurd rfl (hnot _) | exact (hnot _ rfl).elim | simp
  · have hA : RelC (X.ok m) w σ.b m (.agg (vs.toList.map fun v => .d (.v v))) (.agg vs) := by
      refine .agg _ _ (by simp) (fun i hi => ?_)
      have hi' : i < vs.size := by simpa using hi
      have e : vs.getD i undef = vs[i] := by simp [Array.getD, hi']
      simp only [List.getElem_map, Array.getElem_toList]
      rw [e]
      exact .d (.v _)
    cases j with
    | zero => exact hA
    | succ j =>
      cases j with
      | zero => exact .d (.v _)
      | succ j => exfalso; simp at hj; omega

theorem toDs_get : ∀ {cs : List AC} {ds : List D}, toDs cs = some ds → cs = ds.map .d
  | [], ds, h => by simp [toDs] at h; subst h; rfl
  | c :: cs, ds, h => by
    cases c with
    | d x =>
      simp only [toDs] at h
      cases hd : toDs cs with
      | none => simp [hd] at h
      | some ds' => simp [hd] at h; subst h; rw [toDs_get hd]; rfl
    | _ => simp [toDs] at h

theorem relC_d {ok : Nat → Prop} {b : Nat → ABlk} {x : D} {v : Value} (h : RelC ok w b m (.d x) v) : RelD ok w x v := by cases h; assumption

theorem op_mkf {g : FuncId} {first caps : List Opnd} (hc : chkA P o.op (.mkf g first caps) = true) (h : opA P (.mkf g first caps) σ K) (hr : Rel X σ m a w) : Gives P o a w (Post X σ a K) := by
  cases hop : o.op <;> rw [hop] at hc <;> try (simp only [chkA, Bool.false_eq_true] at hc; done)
  rename_i fn f' c'
  cases fn <;> simp only [chkA, Bool.false_eq_true, Bool.and_eq_true, beq_iff_eq] at hc
  obtain ⟨⟨rfl, hf⟩, hcp⟩ := hc
  have hrun : (execOp a.eval o).run P w = .ok (.value (.func (.func g) (f'.map a.eval) (c'.map a.eval))) w := by simp [execOp, hop, Instr.makeFunc]
  have key : ∀ {xs : Array Operand} {ys : List Opnd}, chkOs xs.toList ys = true → (xs.map a.eval).size = ys.length ∧ ∀ j (hj : j < ys.length), RelC (X.ok m) w σ.b m (evO σ.t ys[j]) ((xs.map a.eval).getD j undef) := fun hxy => by
    refine ⟨by simpa using chkOs_len hxy, fun j hj => ?_⟩
    have := chkOs_get hr hxy j hj
    have e : ∀ xs : Array Operand, (List.map a.eval xs.toList).getD j undef = (xs.map a.eval).getD j undef := fun xs => by
      simp [List.getD, Array.getD_eq_getD_getElem?]
    rwa [e] at this
  obtain ⟨k1, k2⟩ := key hf
  obtain ⟨k3, k4⟩ := key hcp
  have kD : ∀ {ys : List Opnd} {ds : List D} {vs : Array Value}, toDs (ys.map (evO σ.t)) = some ds → vs.size = ys.length → (∀ j (hj : j < ys.length), RelC (X.ok m) w σ.b m (evO σ.t ys[j]) (vs.getD j undef)) →
      vs.size = ds.length ∧ ∀ j (hj : j < ds.length), RelD (X.ok m) w (ds[j]) (vs.getD j undef) := fun {ys ds vs} hd hz hrel => by
    have he := toDs_get hd
    have hlen : ys.length = ds.length := by have := congrArg List.length he; simpa using this
    refine ⟨hz.trans hlen, fun j hj => relC_d (b := σ.b) (m := m) ?_⟩
    have := hrel j (by omega)
    have e2 : evO σ.t (ys[j]'(by omega)) = .d (ds[j]) := by
      have := congrArg (fun l => l[j]?) he
      simp [hj, show j < ys.length by omega] at this
      exact this
    rwa [e2] at this
  simp only [opA] at h
  split at h
  · rename_i f c h1 h2
    obtain ⟨z1, r1⟩ := kD h1 k1 k2
    obtain ⟨z2, r2⟩ := kD h2 k3 k4
    exact gives_pure hr hrun h (.d (.clo _ _ _ _ _ z1 z2 r1 r2))
  · rename_i f h1 h2
    obtain ⟨z1, r1⟩ := kD h1 k1 k2
    exact gives_pure hr hrun h (.clo _ _ _ _ _ z1 (by simpa using k3) r1 (fun j hj => by simpa using k4 j (by simpa using hj)))
  · exact h.elim

/-! ### Slices of slices -/
theorem run_bound {x : Operand} {y : Opnd} (hxy : chkO x y = true) (hr : Rel X σ m a w) {dflt : Int} {Q : Int → Prop} (h : boundI σ.t (some y) dflt Q) : ∃ k n, a.eval x = .int k n ∧ Q n := by
  simp only [boundI] at h
  split at h
  · rename_i k n hn; exact ⟨k, n, relC_v (hn ▸ chkO_sound hr hxy), h⟩
  · exact h.elim

theorem run_sliceBound {k : IntKind} {n : Int} {y : Nat} {code : BoundsCode} (h0 : 0 ≤ n) (h1 : n ≤ y) : (Instr.sliceBound (.int k n) y code).run P w = .ok n.toNat w := by
  simp [Instr.sliceBound, asIntOf, h0, h1]

theorem run_bounds (hr : Rel X σ m a w) {lo' hi' : Option Operand} {lo hi : Option Opnd} (h1 : chkOpt lo' lo = true) (h2 : chkOpt hi' hi = true) {len cap : Nat} {isS : Bool} (hcap : len ≤ cap) {Q : Int → Int → Prop}
    (h : boundI σ.t lo 0 fun l => boundI σ.t hi len fun h => 0 ≤ l ∧ l ≤ h ∧ h ≤ len ∧ Q l h) :
    ∃ l h : Int, 0 ≤ l ∧ l ≤ h ∧ h ≤ len ∧ Q l h ∧ (Instr.sliceBounds isS len cap (lo'.map a.eval) (hi'.map a.eval) none).run P w = .ok (l.toNat, h.toNat, cap) w := by
  have hH : ∀ l : Int, (boundI σ.t hi len fun h => 0 ≤ l ∧ l ≤ h ∧ h ≤ len ∧ Q l h) → ∃ h : Int, 0 ≤ l ∧ l ≤ h ∧ h ≤ len ∧ Q l h ∧
      ((hi' = none ∧ h = len) ∨ ∃ x k, hi' = some x ∧ a.eval x = .int k h) := fun l hh => by
    cases hi' with
    | none => cases hi with
      | none => simp only [boundI] at hh; exact ⟨_, hh.1, hh.2.1, hh.2.2.1, hh.2.2.2, .inl ⟨rfl, rfl⟩⟩
      | some => simp [chkOpt] at h2
    | some x => cases hi with
      | none => simp [chkOpt] at h2
      | some y =>
        obtain ⟨k, n, e, q⟩ := run_bound h2 hr hh
        exact ⟨n, q.1, q.2.1, q.2.2.1, q.2.2.2, .inr ⟨x, k, rfl, e⟩⟩
  have hL : ∃ l : Int, (boundI σ.t hi len fun h => 0 ≤ l ∧ l ≤ h ∧ h ≤ len ∧ Q l h) ∧ ((lo' = none ∧ l = 0) ∨ ∃ x k, lo' = some x ∧ a.eval x = .int k l) := by
    cases lo' with
    | none => cases lo with
      | none => exact ⟨0, h, .inl ⟨rfl, rfl⟩⟩
      | some => simp [chkOpt] at h1
    | some x => cases lo with
      | none => simp [chkOpt] at h1
      | some y => obtain ⟨k, n, e, q⟩ := run_bound h1 hr h; exact ⟨n, q, .inr ⟨x, k, rfl, e⟩⟩
  obtain ⟨l, hl, hlo⟩ := hL
  obtain ⟨q, h0, hle, hlen, hq, hhi⟩ := hH l hl
  refine ⟨l, q, h0, hle, hlen, hq, ?_⟩
  rcases hhi with ⟨rfl, rfl⟩ | ⟨x, k, rfl, ex⟩ <;> rcases hlo with ⟨rfl, rfl⟩ | ⟨y, k2, rfl, ey⟩
  · simp [Instr.sliceBounds]
  · have hb := run_sliceBound (P := P) (w := w) (k := k2) (n := l) (y := len) (code := .sliceB) h0 (by omega)
    simp [Instr.sliceBounds, ey, hb]
  · have hb : ∀ code, (Instr.sliceBound (.int k q) cap code).run P w = .ok q.toNat w := fun code => run_sliceBound (by omega) (by omega)
    simp [Instr.sliceBounds, ex, hb]
  · have hb : ∀ code, (Instr.sliceBound (.int k q) cap code).run P w = .ok q.toNat w := fun code => run_sliceBound (by omega) (by omega)
    have hb2 : ∀ code, (Instr.sliceBound (.int k2 l) q.toNat code).run P w = .ok l.toNat w := fun code => run_sliceBound h0 (by omega)
    simp [Instr.sliceBounds, ex, ey, hb, hb2]

theorem op_slc {esz : Nat} {x : Opnd} {lo hi : Option Opnd} (hc : chkA P o.op (.slc esz x lo hi) = true) (h : opA P (.slc esz x lo hi) σ K) (hr : Rel X σ m a w) : Gives P o a w (Post X σ a K) := by
  cases hop : o.op <;> rw [hop] at hc <;> try (simp only [chkA, Bool.false_eq_true] at hc; done)
  rename_i t x' lo' hi' mx
  cases mx <;> simp only [chkA, Bool.false_eq_true, Bool.and_eq_true] at hc
  obtain ⟨⟨⟨hf, hx⟩, h1⟩, h2⟩ := hc
  split at hf <;> try (cases hf; done)
  rename_i e hu
  have hsz := sizeIs_run hf w
  have hR := chkO_sound hr hx
  have hex : ∀ {A : Option Addr} {len cap l q : Nat}, a.eval x' = .slice A len cap → (Instr.sliceBounds true len cap (lo'.map a.eval) (hi'.map a.eval) none).run P w = .ok (l, q, cap) w →
      (execOp a.eval o).run P w = .ok (.value (.slice (if cap = l then A else A.map (·.add (l * esz))) (q - l) (cap - l))) w := fun e1 e2 => by
    have e2' : (Instr.sliceBounds true _ _ (lo'.map a.eval) (hi'.map a.eval) (Option.map a.eval none)).run P w = _ := e2
    simp only [execOp, hop, e1, Instr.sliceAt, Instr.slice, Sem.run_bind, run_underlying' hu, Result.andThen_ok, e2', hsz, Sem.run_pure]
  simp only [opA] at h
  split at h <;> try (exact h.elim)
  · rename_i xs hxs
    rw [hxs] at hR
    generalize hv : a.eval x' = v at hR
    cases hR with
    | d hD =>
      cases hD with
      | empty A cap =>
        obtain ⟨l, q, h0, hle, hlen, hq, hrun⟩ := run_bounds (P := P) (isS := true) hr h1 h2 (Nat.zero_le cap) (by simpa using h)
        simp at hlen
        have e0 : l = 0 := by omega
        have e1 : q = 0 := by omega
        subst e0; subst e1
        refine gives_pure hr (hex hv hrun) hq.2 ?_
        simp
        exact .d (.empty _ _)
      | list _ B off cap esz' f hok hB hcap hsz' hcell hone hrel =>
        obtain ⟨l, q, h0, hle, hlen, ⟨hes, hq⟩, hrun⟩ := run_bounds (P := P) (isS := true) hr h1 h2 hcap h
        refine gives_pure hr (hex hv hrun) hq (.d ?_)
        by_cases he : l = q
        · subst he
          simp only [Nat.sub_self, List.take_zero]
          exact .empty _ _
        · have hlt : l.toNat < q.toNat := by omega
          have hne : ¬ cap = l.toNat := by omega
          rw [if_neg hne]
          have hesz : esz' = esz := by
            have e1 := hes (by omega)
            have hl2 : l.toNat < xs.length := by omega
            have e2 := hsz' l.toNat hl2
            have e3 : xs.getD l.toNat [] = xs[l.toNat] := by simp [List.getD, hl2]
            rw [e3] at e1; omega
          subst hesz
          simp only [Option.map_some, add_plain]
          have hlen2 : ((xs.drop l.toNat).take (q.toNat - l.toNat)).length = q.toNat - l.toNat := by simp; omega
          have := RelD.list (ok := X.ok m) (w := w) ((xs.drop l.toNat).take (q.toNat - l.toNat)) B (off + l.toNat * esz') (cap - l.toNat) esz' (fun i j => f (l.toNat + i) j) hok hB (by omega)
            (fun j hj => by simpa using hsz' (l.toNat + j) (by simp at hj; omega))
            (fun j k hj hk => by
              have := hcell (l.toNat + j) k (by simp at hj; omega) hk
              rwa [Nat.add_mul, Nat.add_assoc (l.toNat * esz'), ← Nat.add_assoc off] at this)
            (fun j k hj hk => hone (l.toNat + j) k (by simp at hj; omega) hk)
            (fun j k hj hk => by simpa using hrel (l.toNat + j) k (by simp at hj; omega) (by simpa using hk))
          rwa [hlen2] at this
  · rename_i s off len tot hxs
    rw [hxs] at hR
    obtain ⟨rfl, h⟩ := h
    have hlo : lo' = none := by cases lo' with
      | none => rfl
      | some => simp [chkOpt] at h1
    subst hlo
    generalize hv : a.eval x' = v at hR
    have hb' : ∃ els, σ.b s = .row esz els ∧ tot = els.length := by
      have : ∀ {q : Int → Prop}, (boundI σ.t hi len fun h => 0 ≤ h ∧ h ≤ len ∧ q h) → ∃ h, q h := fun {q} hh => by
        unfold boundI at hh
        split at hh
        · exact ⟨_, hh.2.2⟩
        · split at hh
          · exact ⟨_, hh.2.2⟩
          · exact hh.elim
      obtain ⟨n, hn⟩ := this h
      split at hn <;> try (exact hn.elim)
      rename_i esz' els hb
      obtain ⟨rfl, ht, _⟩ := hn
      exact ⟨els, hb, ht⟩
    obtain ⟨els, hb, ht⟩ := hb'
    simp only [hb] at h
    have hcap : ∃ A cap, v = .slice A len cap ∧ len ≤ cap ∧ ∀ n, n ≤ len → RelC (X.ok m) w σ.b m (.row s off n tot) (.slice A n cap) ∧ (∀ k, A.map (·.add (0 * k)) = A) := by
      rcases row_val hR hb ht with ⟨hl, hle, rfl⟩ | ⟨hl, rfl, rfl, rfl, rfl⟩
      · rcases slot_row hr hb with ⟨hl', _⟩ | ⟨_, c, e', hh, hz, hcap, _⟩
        · rw [hl] at hl'; cases hl'
        · refine ⟨_, _, rfl, by omega, fun n hn => ⟨?_, fun k => by simp [add_plain]⟩⟩
          rw [ht]; exact .row s off n esz els hb hl (by omega)
      · refine ⟨none, 0, rfl, by omega, fun n hn => ⟨?_, fun k => rfl⟩⟩
        have : n = 0 := by omega
        subst this
        rw [ht]; exact .rowNil s esz hb hl
    obtain ⟨A, cap, rfl, hc1, hrel⟩ := hcap
    obtain ⟨l, q, h0, hle, hlen, ⟨rfl, hq⟩, hrun⟩ := run_bounds (P := P) (isS := true) (w := w) (Q := fun l h => l = 0 ∧ K (.row s off h.toNat tot) σ.b) (lo := none) hr h1 h2 hc1 (by
      simp only [boundI] at h ⊢
      split at h
      · exact ⟨Int.le_refl _, h.1, h.2.1, trivial, h.2.2.2.2⟩
      · split at h
        · exact ⟨Int.le_refl _, h.1, h.2.1, trivial, h.2.2.2.2⟩
        · exact h.elim)
    refine gives_pure hr (hex hv hrun) hq ?_
    have := hrel q.toNat (by omega)
    have e0 : (0 : Int).toNat = 0 := rfl
    rw [e0, this.2, ite_self, Nat.sub_zero, Nat.sub_zero]
    exact this.1

theorem op_sls {x : Opnd} {lo hi : Option Opnd} (hc : chkA P o.op (.sls x lo hi) = true) (h : opA P (.sls x lo hi) σ K) (hr : Rel X σ m a w) : Gives P o a w (Post X σ a K) := by
  cases hop : o.op <;> rw [hop] at hc <;> try (simp only [chkA, Bool.false_eq_true] at hc; done)
  rename_i t x' lo' hi' mx
  cases mx <;> simp only [chkA, Bool.false_eq_true, Bool.and_eq_true] at hc
  obtain ⟨⟨⟨hf, hx⟩, h1⟩, h2⟩ := hc
  split at hf <;> try (cases hf; done)
  rename_i hu
  have hR := chkO_sound hr hx
  simp only [opA] at h
  split at h <;> try (exact h.elim)
  rename_i s hxs
  have hv := relC_v (hxs ▸ hR)
  obtain ⟨l, q, h0, hle, hlen, hq, hrun⟩ := run_bounds (P := P) (isS := false) hr h1 h2 (Nat.le_refl s.size) h
  refine gives_pure hr ?_ hq (.d (.v _))
  have e2' : (Instr.sliceBounds false s.size s.size (lo'.map a.eval) (hi'.map a.eval) none).run P w = _ := hrun
  simp only [execOp, hop, hv, Instr.sliceAt, Instr.slice, Sem.run_bind, run_underlying' hu, Result.andThen_ok, Option.map_none, Option.isSome_none, Bool.false_eq_true, if_false, e2', Sem.run_pure]
end
end Go.AM

/- The abstract machine, part 8: literals; stores; new variables and rows. No condition. -/
set_option linter.unusedVariables false
set_option linter.unusedSimpArgs false
namespace Go.AM
open Go
section
variable {P : Program} {X : Ctx} {σ : St} {m : Nat → Loc} {a : Act} {w : World} {o : Oper} {K : AC → (Nat → ABlk) → Prop}

/-- Cells of memory read as cells of the abstract machine. -/
def RelA (ok : Nat → Prop) (w : World) (b : Nat → ABlk) (m : Nat → Loc) (acs : List AC) (cs : Array Value) : Prop :=
  cs.size = acs.length ∧ ∀ j (hj : j < acs.length), RelC ok w b m (acs[j]) (cs.getD j undef)

theorem foldSet_size (off : Nat) : ∀ (us : List Value) (j : Nat) (cs : Array Value), ((us.zipIdx j).foldl (fun cs (x : Value × Nat) => cs.setIfInBounds (off + x.2) x.1) cs).size = cs.size
  | [], _, _ => rfl
  | u :: us, j, cs => by rw [List.zipIdx_cons, List.foldl_cons, foldSet_size off us]; simp

theorem foldSet_getD (off : Nat) : ∀ (us : List Value) (j : Nat) (cs : Array Value) (k : Nat), off + j + us.length ≤ cs.size →
    ((us.zipIdx j).foldl (fun cs (x : Value × Nat) => cs.setIfInBounds (off + x.2) x.1) cs).getD k undef = if off + j ≤ k ∧ k < off + j + us.length then us.getD (k - (off + j)) undef else cs.getD k undef
  | [], j, cs, k, _ => by simp; intro h1 h2; omega
  | u :: us, j, cs, k, hz => by
    rw [List.zipIdx_cons, List.foldl_cons, foldSet_getD off us (j + 1) _ k (by simp at hz ⊢; omega)]
    simp only [List.length_cons] at hz ⊢
    by_cases h1 : k = off + j
    · subst h1
      rw [if_neg (by omega), if_pos (by omega)]
      simp [Array.getD, show off + j < cs.size by omega]
    · by_cases h2 : off + j + 1 ≤ k ∧ k < off + j + 1 + us.length
      · rw [if_pos (by omega), if_pos (by omega)]
        have : k - (off + j) = (k - (off + (j + 1))) + 1 := by omega
        rw [this]; rfl
      · rw [if_neg (by omega), if_neg (by omega)]
        simp only [Array.getD_eq_getD_getElem?]
        rw [Array.getElem?_setIfInBounds_ne (by omega)]

/-- A stretch of cells is written. -/
theorem RelA.splice {ok : Nat → Prop} {b : Nat → ABlk} {acs us : List AC} {cs vs : Array Value} {off : Nat} (h : RelA ok w b m acs cs) (hu : RelA ok w b m us vs) (hle : off + us.length ≤ acs.length) {cs' : Array Value}
    (hz : cs'.size = cs.size) (hg : ∀ k, cs'.getD k undef = if off ≤ k ∧ k < off + us.length then vs.getD (k - off) undef else cs.getD k undef) :
    RelA ok w b m (acs.take off ++ us ++ acs.drop (off + us.length)) cs' := by
  obtain ⟨h1, h2⟩ := h
  obtain ⟨h3, h4⟩ := hu
  have hlen : (acs.take off ++ us ++ acs.drop (off + us.length)).length = acs.length := by simp; omega
  refine ⟨by rw [hlen, hz, h1], fun k hk => ?_⟩
  rw [hlen] at hk
  rw [hg]
  by_cases hc : off ≤ k ∧ k < off + us.length
  · rw [if_pos hc]
    have := h4 (k - off) (by omega)
    have e : (acs.take off ++ us ++ acs.drop (off + us.length))[k]'(by rw [hlen]; exact hk) = us[k - off]'(by omega) := by
      rw [List.getElem_append_left (by simp; omega), List.getElem_append_right (by simp; omega)]
      congr 1
      simp; omega
    rw [e]; exact this
  · rw [if_neg hc]
    have := h2 k hk
    have e : (acs.take off ++ us ++ acs.drop (off + us.length))[k]'(by rw [hlen]; exact hk) = acs[k] := by
      by_cases hlt : k < off
      · rw [List.getElem_append_left (by simp; omega), List.getElem_append_left (by simp; omega)]
        simp
      · rw [List.getElem_append_right (by simp; omega)]
        simp only [List.getElem_drop]
        congr 1
        simp; omega
    rw [e]; exact this

theorem cells_relA {sh : Sh} {x : AC} {v : Value} {cs : List AC} {ok : Nat → Prop} {b : Nat → ABlk} (h : RelC ok w b m x v) (hc : cellsC sh x = some cs) (h1 : cs.all (standsB b) = true) :
    RelA ok w b m cs v.cells ∧ ∀ u ∈ v.cells.toList, u.oneCell' = true := by
  obtain ⟨k1, k2, k3⟩ := cellsC_sound h hc (by simpa using h1)
  exact ⟨⟨k1, k2⟩, k3⟩

theorem cellsC_len {n : Nat} {x : AC} {us : List AC} (h : cellsC (.agg n) x = some us) : us.length = n := by
  cases x with
  | agg cs => simp only [cellsC] at h; split at h <;> cases h; assumption
  | d y =>
    cases y <;> simp only [cellsC] at h <;> try (cases h; done)
    split at h <;> cases h; simpa
  | _ => simp [cellsC] at h
theorem cellsC_len1 {x : AC} {us : List AC} (h : cellsC .one x = some us) : us.length = 1 := by
  cases x with
  | agg cs => simp [cellsC] at h
  | d y => cases y <;> simp [cellsC] at h <;> (subst h; rfl)
  | _ => simp [cellsC] at h; subst h; rfl
theorem chkSh_size {t : TypeId} {sh : Sh} {x : AC} {us : List AC} (hsh : chkSh P t sh = true) (hc : cellsC sh x = some us) : sizeIs P t us.length = true := by
  cases sh with
  | agg n => rw [cellsC_len hc]; simp [chkSh] at hsh; exact hsh.2
  | one => rw [cellsC_len1 hc]; simp [chkSh] at hsh; exact hsh.2

theorem fill_rel (hr : Rel X σ m a w) {place : Nat → Option (Nat × TypeId)} {pl : Nat → Option (Nat × Nat)} (hp : ∀ i o t n, place i = some (o, t) → sizeIs P t n = true → pl i = some (o, n)) :
    ∀ (ps : List (Nat × Operand)) (qs : List (Nat × Sh × Opnd)) (acs acs' : List AC) (cs : Array Value), chkParts P place ps qs = true → RelA (X.ok m) w σ.b m acs cs → fillC σ.b σ.t acs qs = some acs' →
      ∃ cs', Instr.fill pl cs (ps.map fun x => (x.1, a.eval x.2)) = some cs' ∧ RelA (X.ok m) w σ.b m acs' cs'
  | [], [], acs, acs', cs, _, h, hf => by simp [fillC] at hf; subst hf; exact ⟨cs, rfl, h⟩
  | [], _ :: _, _, _, _, hc, _, _ => by simp [chkParts] at hc
  | _ :: _, [], _, _, _, hc, _, _ => by simp [chkParts] at hc
  | (i, x) :: ps, (off, sh, y) :: qs, acs, acs', cs, hc, h, hf => by
    simp only [chkParts, Bool.and_eq_true] at hc
    obtain ⟨⟨hpl, hx⟩, hrest⟩ := hc
    split at hpl <;> try (cases hpl; done)
    rename_i o' t hpi
    simp only [Bool.and_eq_true, beq_iff_eq] at hpl
    obtain ⟨rfl, hsh⟩ := hpl
    simp only [fillC] at hf
    split at hf <;> try (cases hf; done)
    rename_i us hus
    split at hf <;> try (cases hf; done)
    rename_i hcond
    obtain ⟨hst, hle⟩ := hcond
    have hR := chkO_sound hr hx
    obtain ⟨hA, _⟩ := cells_relA hR hus hst
    have hsz := hp i o' t _ hpi (chkSh_size hsh hus)
    have hle2 : o' + (a.eval x).cells.size ≤ cs.size := by rw [hA.1, h.1]; exact hle
    simp only [List.map_cons, Instr.fill, hsz]
    rw [if_neg (by simp [hA.1]; rw [← hA.1]; omega)]
    refine fill_rel hr hp ps qs _ acs' _ hrest (RelA.splice h hA hle ?_ fun k => ?_) hf
    · rw [← Array.foldl_toList, Array.toList_zipIdx]; exact foldSet_size _ _ _ _
    · rw [← Array.foldl_toList, Array.toList_zipIdx]
      have := foldSet_getD o' (a.eval x).cells.toList 0 cs k (by simpa using hle2)
      simp only [Nat.add_zero, Array.length_toList, hA.1] at this
      refine this.trans ?_
      simp [List.getD, Array.getD_eq_getD_getElem?]

theorem zero_rel {ok : Nat → Prop} {b : Nat → ABlk} {t : TypeId} {zs : List Z} (h : chkZero P t zs = true) : ∃ i z, P.info? t = some i ∧ i.zero = some z ∧ RelA ok w b m (zs.map zC) z.cells := by
  unfold chkZero zeroOf at h
  split at h <;> try (cases h; done)
  rename_i z hz
  cases hi : P.info? t with
  | none => simp [hi] at hz
  | some i =>
    simp [hi] at hz
    have he := chkZs_val h
    refine ⟨i, z, rfl, hz, ?_, fun j hj => ?_⟩
    · have := congrArg List.length he; simpa using this
    · have hj' : j < zs.length := by simpa using hj
      have e : z.cells.getD j undef = (zs[j]).val := by
        have := congrArg (fun l => l[j]?) he
        simp [hj'] at this
        simp [Array.getD_eq_getD_getElem?, this]
      rw [e]; simp only [List.getElem_map]; exact .d (.v _)

theorem Z.val_one (z : Z) : z.val.oneCell' = true := by cases z <;> rfl
theorem zero_one {t : TypeId} {zs : List Z} {i : TypeInfo} {z : Value} (h : chkZero P t zs = true) (hi : P.info? t = some i) (hz : i.zero = some z) : ∀ u ∈ z.cells.toList, u.oneCell' = true := by
  unfold chkZero zeroOf at h
  simp only [hi, Option.bind_some, hz] at h
  intro u hu
  rw [chkZs_val h] at hu
  obtain ⟨q, _, rfl⟩ := List.mem_map.1 hu
  exact q.val_one
theorem one_getD {vs : Array Value} (h : ∀ u ∈ vs.toList, u.oneCell' = true) {k : Nat} (hk : k < vs.size) : (vs.getD k undef).oneCell' = true := by
  have : vs.getD k undef = vs[k] := by simp [Array.getD, hk]
  rw [this]; exact h _ (by simp)

theorem op_build {zs : List Z} {ps : List (Nat × Sh × Opnd)} (hc : chkA P o.op (.build zs ps) = true) (h : opA P (.build zs ps) σ K) (hr : Rel X σ m a w) : Gives P o a w (Post X σ a K) := by
  cases hop : o.op <;> rw [hop] at hc <;> simp only [chkA, Bool.false_eq_true, Bool.and_eq_true] at hc
  rename_i t ps'
  obtain ⟨hz, hc⟩ := hc
  simp only [opA] at h
  split at h <;> try (exact h.elim)
  rename_i acs' hf
  obtain ⟨it, z, hit, hiz, hA⟩ := zero_rel (P := P) (w := w) (m := m) (ok := X.ok m) (b := σ.b) hz
  have key : ∃ cs', P.built t (ps'.toList.map fun x => (x.1, a.eval x.2)) = some cs' ∧ RelA (X.ok m) w σ.b m acs' cs' := by
    split at hc
    · rename_i fs hu
      simp only [Bool.and_eq_true] at hc
      obtain ⟨places, hpl⟩ := Option.isSome_iff_exists.1 hc.1
      obtain ⟨cs', h1, h2⟩ := fill_rel (P := P) hr (pl := (places.toArray[·]?)) (fun i o' t' n hi hn => by
        cases hfi : fs[i]? with
        | none => simp [hfi] at hi
        | some f =>
          simp [hfi] at hi
          obtain ⟨rfl, rfl⟩ := hi
          have hmap : ∀ (l : List Field) (ps : List (Nat × Nat)), l.mapM (fun (f : Field) => (P.info? f.type).map fun i => (f.offset, i.size)) = some ps → ∀ (j : Nat) (f : Field), l[j]? = some f → ∃ i, P.info? f.type = some i ∧ ps[j]? = some (f.offset, i.size) := by
            intro l
            induction l with
            | nil => intro ps _ j f hj; simp at hj
            | cons g l ih =>
              intro ps hps j f hj
              simp only [List.mapM_cons, Option.bind_eq_bind, Option.pure_def] at hps
              cases hi : P.info? g.type with
              | none => simp [hi] at hps
              | some i =>
                cases hr : l.mapM (fun f => (P.info? f.type).map fun i => (f.offset, i.size)) with
                | none => simp [hi, hr] at hps
                | some rest =>
                  simp [hi, hr] at hps
                  subst hps
                  cases j with
                  | zero => simp at hj; subst hj; exact ⟨i, hi, rfl⟩
                  | succ j => simpa using ih rest hr j f (by simpa using hj)
          obtain ⟨i', hi', hpi⟩ := hmap _ _ hpl i f (by simpa using hfi)
          simp [sizeIs, hi'] at hn
          subst hn
          simpa using hpi) ps'.toList ps _ acs' _ hc.2 hA hf
      exact ⟨cs', by simp only [Program.built, hit, hu, hiz, hpl]; exact h1, h2⟩
    · rename_i n e hu
      split at hc <;> try (cases hc; done)
      rename_i ie hie
      obtain ⟨cs', h1, h2⟩ := fill_rel (P := P) hr (pl := fun i => some (i * ie.size, ie.size)) (fun i o' t' n hi hn => by
        simp at hi; obtain ⟨rfl, rfl⟩ := hi
        simp [sizeIs, hie] at hn; subst hn; rfl) ps'.toList ps _ acs' _ hc hA hf
      exact ⟨cs', by simp [Program.built, hit, hu, hiz, hie, h1], h2⟩
    · cases hc
  obtain ⟨cs', h1, h2⟩ := key
  refine gives_pure hr ?_ h (.agg _ _ h2.1 h2.2)
  have := run_build (P := P) w t (ps'.map fun (i, x) => (i, a.eval x)) cs' (by rw [Array.toList_map]; exact h1)
  simp only [execOp, hop, Sem.run_bind, this]; rfl

end
end Go.AM
