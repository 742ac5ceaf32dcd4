/- The abstract machine, part 5: each operation does what the abstract one says: those that leave memory alone. No condition. -/
import Derived.Test.YtmkmegcconjgoaaAm4
set_option linter.unusedVariables false
set_option linter.unusedSimpArgs false
namespace Go.AM
open Go

/-- The operation yields a value in a world that R takes; or it calls a function that does. -/
def Gives (P : Program) (o : Oper) (a : Act) (w : World) (R : Value → World → Prop) : Prop :=
  (∃ v w', R v w' ∧ ((execOp a.eval o).run P w = .ok (.value v) w' ∨ ((execOp a.eval o).run P w = .ok .skip w' ∧ v = undef))) ∨
  (∃ g vs, (execOp a.eval o).run P w = .ok (.enter g vs) w ∧ Calls P g vs w fun e w' => ∃ v, e = .returned v ∧ R v w')

def Post (X : Ctx) (σ : St) (a : Act) (K : AC → (Nat → ABlk) → Prop) (v : Value) (w' : World) : Prop :=
  ∃ y b' m', K y b' ∧ Rel X ⟨σ.t, b'⟩ m' a w' ∧ RelC (X.ok m') w' b' m' y v

section
variable {P : Program} {X : Ctx} {σ : St} {m : Nat → Loc} {a : Act} {w : World} {o : Oper} {K : AC → (Nat → ABlk) → Prop}

theorem gives_pure {y : AC} {v : Value} (hr : Rel X σ m a w) (hrun : (execOp a.eval o).run P w = .ok (.value v) w) (hk : K y σ.b) (hy : RelC (X.ok m) w σ.b m y v) : Gives P o a w (Post X σ a K) :=
  .inl ⟨v, w, ⟨y, σ.b, m, hk, hr, hy⟩, .inl hrun⟩

theorem relC_int {ok : Nat → Prop} {b : Nat → ABlk} {k : IntKind} {n : Int} {v : Value} (h : RelC ok w b m (.d (.v (.int k n))) v) : v = .int k n := by cases h with | d h => cases h; rfl
theorem relC_v {ok : Nat → Prop} {b : Nat → ABlk} {x v : Value} (h : RelC ok w b m (.d (.v x)) v) : v = x := by cases h with | d h => cases h; rfl

theorem op_mv {x : Opnd} (hc : chkA P o.op (.mv x) = true) (h : opA P (.mv x) σ K) (hr : Rel X σ m a w) : Gives P o a w (Post X σ a K) := by
  cases hop : o.op <;> rw [hop] at hc <;> simp [chkA] at hc
  all_goals exact gives_pure hr (by simp [execOp, hop]) h (chkO_sound hr hc)

theorem op_pick {c x y : Opnd} (hc : chkA P o.op (.pick c x y) = true) (h : opA P (.pick c x y) σ K) (hr : Rel X σ m a w) : Gives P o a w (Post X σ a K) := by
  cases hop : o.op <;> rw [hop] at hc <;> simp [chkA] at hc
  obtain ⟨⟨h1, h2⟩, h3⟩ := hc
  simp only [opA] at h
  split at h
  · rename_i t ht
    have hv := relC_v (ht ▸ chkO_sound hr h1)
    cases t with
    | true => exact gives_pure hr (by simp [execOp, hop, hv, asBool]) (h.1 rfl) (chkO_sound hr h2)
    | false => exact gives_pure hr (by simp [execOp, hop, hv, asBool]) (h.2 rfl) (chkO_sound hr h3)
  · exact h.elim

theorem op_bin {op : BinOp} {x y : Opnd} (hc : chkA P o.op (.bin op x y) = true) (h : opA P (.bin op x y) σ K) (hr : Rel X σ m a w) : Gives P o a w (Post X σ a K) := by
  cases hop : o.op <;> rw [hop] at hc <;> simp [chkA] at hc
  rename_i op' t x' y' t'
  obtain ⟨⟨rfl, h2⟩, h3⟩ := hc
  obtain ⟨r, hk, hrun⟩ := run_binA (P := P) (t := t) (xo := x') (yo := y') h (chkO_sound hr h2) (chkO_sound hr h3)
  refine gives_pure hr ?_ hk (.d (.v r))
  simp only [execOp, hop]
  rw [Sem.run_bind, hrun]; rfl

theorem run_underlying' {t : TypeId} {d : TypeDesc} (h : P.underlying t = some d) (w : World) : (underlying t).run P w = .ok d w := by
  simp [underlying, h]

theorem op_eqb {neg : Bool} {x y : Opnd} (hc : chkA P o.op (.eqb neg x y) = true) (h : opA P (.eqb neg x y) σ K) (hr : Rel X σ m a w) : Gives P o a w (Post X σ a K) := by
  cases hop : o.op <;> rw [hop] at hc <;> simp only [chkA, Bool.false_eq_true, Bool.and_eq_true, decide_eq_true_eq] at hc
  rename_i op' t x' y' t'
  obtain ⟨⟨⟨rfl, h0⟩, h2⟩, h3⟩ := hc
  simp only [opA] at h
  split at h
  · rename_i p q hp hq
    have e1 := relC_v (hp ▸ chkO_sound hr h2)
    have e2 := relC_v (hq ▸ chkO_sound hr h3)
    have hu : P.underlying t = some .bool := by
      revert h0; split
      · intro _; assumption
      · intro h0; cases h0
    have hrun : (Op.equal t (.bool p) (.bool q)).run P w = .ok (p == q) w := by
      show (Op.equalIn (9999 + 1) t (.bool p) (.bool q)).run P w = _
      rw [Op.equalIn, Sem.run_bind, run_underlying' hu]; rfl
    have hg : (eqGuard (if neg = true then .neq else .eql) t x' y' (.bool p) (.bool q)).run P w = .ok () w := by
      cases neg <;> simp [eqGuard]
    refine gives_pure hr ?_ h (.d (.v _))
    simp only [execOp, hop, e1, e2, Sem.run_bind, hg, Result.andThen_ok]
    cases neg <;> simp [binOp, hrun]
  · exact h.elim

theorem run_eqn {neg : Bool} {x : Opnd} (hc : chkA P o.op (.eqn neg x) = true) (hr : Rel X σ m a w) : ∃ x', RelC (X.ok m) w σ.b m (evO σ.t x) (a.eval x') ∧ (∀ c, o.op ≠ .defer c) ∧
    ∀ {r : Bool} {A : Option Addr} {len cap : Nat}, a.eval x' = .slice A len cap → A.isNone = r → (execOp a.eval o).run P w = .ok (.value (.bool (if neg then !r else r))) w := by
  cases hop : o.op <;> rw [hop] at hc <;> simp only [chkA, Bool.false_eq_true, Bool.and_eq_true, decide_eq_true_eq] at hc
  rename_i op' t x' y' t'
  obtain ⟨⟨⟨rfl, h0⟩, h2⟩, h3⟩ := hc
  have hy : a.eval y' = .slice none 0 0 := by
    split at h3
    · rfl
    · cases h3
  obtain ⟨e, hu⟩ : ∃ e, P.underlying t = some (.slice e) := by
    revert h0; split
    · rename_i e hu; intro _; exact ⟨e, hu⟩
    · intro h0; cases h0
  refine ⟨x', chkO_sound hr h2, fun c e => (by cases e), fun {r A len cap} e1 e2 => ?_⟩
  have hrun : (Op.equal t (.slice A len cap) (.slice none 0 0)).run P w = .ok r w := by
    show (Op.equalIn (9999 + 1) t (.slice A len cap) (.slice none 0 0)).run P w = _
    cases A <;> simp at e2 <;> subst e2 <;> rw [Op.equalIn, Sem.run_bind, run_underlying' hu] <;> rfl
  have hg : (eqGuard (if neg = true then .neq else .eql) t x' y' (.slice A len cap) (.slice none 0 0)).run P w = .ok () w := by
    cases neg <;> simp [eqGuard]
  simp only [execOp, hop, e1, hy, Sem.run_bind, hg, Result.andThen_ok]
  cases neg <;> simp [binOp, hrun]

theorem op_eqn {neg : Bool} {x : Opnd} (hc : chkA P o.op (.eqn neg x) = true) (h : opA P (.eqn neg x) σ K) (hr : Rel X σ m a w) : Gives P o a w (Post X σ a K) := by
  obtain ⟨x', hR, _, key⟩ := run_eqn hc hr
  simp only [opA] at h
  split at h
  · rename_i hx
    have e1 := relC_v (hx ▸ hR)
    refine gives_pure hr (key e1 rfl) h ?_
    cases neg <;> exact .d (.v _)
  · rename_i d ds hx
    rw [hx] at hR
    generalize hv : a.eval x' = v at hR
    cases hR with
    | d hD =>
      cases hD with
      | list =>
        refine gives_pure hr (key hv rfl) h ?_
        cases neg <;> exact .d (.v _)
  · exact h.elim

theorem op_neg {x : Opnd} (hc : chkA P o.op (.neg x) = true) (h : opA P (.neg x) σ K) (hr : Rel X σ m a w) : Gives P o a w (Post X σ a K) := by
  cases hop : o.op <;> rw [hop] at hc <;> try (simp [chkA] at hc; done)
  rename_i u t x'
  cases u <;> simp [chkA] at hc
  simp only [opA] at h
  split at h
  · rename_i k n hn
    have e := relC_v (hn ▸ chkO_sound hr hc)
    exact gives_pure hr (by simp [execOp, hop, e, Op.unary, Op.intArith]) h (.d (.v _))
  · exact h.elim

theorem op_xr {x : Opnd} (hc : chkA P o.op (.xr x) = true) (h : opA P (.xr x) σ K) (hr : Rel X σ m a w) : Gives P o a w (Post X σ a K) := by
  cases hop : o.op <;> rw [hop] at hc <;> try (simp [chkA] at hc; done)
  rename_i u t x'
  cases u <;> simp [chkA] at hc
  simp only [opA] at h
  split at h
  · rename_i k n hn
    have e := relC_v (hn ▸ chkO_sound hr hc)
    exact gives_pure hr (by simp [execOp, hop, e, Op.unary, Op.intBits, bitsA]) h (.d (.v _))
  · exact h.elim

theorem op_not {x : Opnd} (hc : chkA P o.op (.not x) = true) (h : opA P (.not x) σ K) (hr : Rel X σ m a w) : Gives P o a w (Post X σ a K) := by
  cases hop : o.op <;> rw [hop] at hc <;> try (simp [chkA] at hc; done)
  rename_i u t x'
  cases u <;> simp [chkA] at hc
  simp only [opA] at h
  split at h
  · rename_i n hn
    have e := relC_v (hn ▸ chkO_sound hr hc)
    exact gives_pure hr (by simp [execOp, hop, e, Op.unary]) h (.d (.v _))
  · exact h.elim

/-! ### Shapes -/
theorem sizeIs_run {t : TypeId} {n : Nat} (h : sizeIs P t n = true) (w : World) : (sizeOf t).run P w = .ok n w := by
  unfold sizeIs at h
  split at h
  · rename_i i hi; simp at h; subst h; simp [sizeOf, typeInfo, hi]
  · cases h
theorem isAggT_run {t : TypeId} {x : Bool} (h : isAggT P t = some x) (w : World) : (isAgg t).run P w = .ok x w := by
  unfold isAggT at h
  split at h
  · rename_i hu; cases h; simp [isAgg, run_underlying' hu]
  · rename_i hu; cases h; simp [isAgg, run_underlying' hu]
  · rename_i d n1 n2 hu; cases h
    simp only [isAgg, Sem.run_bind, run_underlying' hu, Result.andThen_ok]
    cases d <;> first | rfl | exact absurd rfl (n1 _) | exact absurd rfl (n2 _ _) | exact (n1 _ rfl).elim | exact (n2 _ _ rfl).elim
  · cases h
theorem chkSh_agg {t : TypeId} {n : Nat} (h : chkSh P t (.agg n) = true) : (∀ w, (isAgg t).run P w = .ok true w) ∧ ∀ w, (sizeOf t).run P w = .ok n w := by
  simp [chkSh] at h
  exact ⟨isAggT_run h.1, sizeIs_run h.2⟩
theorem chkSh_one {t : TypeId} (h : chkSh P t .one = true) : (∀ w, (isAgg t).run P w = .ok false w) ∧ ∀ w, (sizeOf t).run P w = .ok 1 w := by
  simp [chkSh] at h
  exact ⟨isAggT_run h.1, sizeIs_run h.2⟩

theorem add_plain (B o n : Nat) : (⟨B, o, none⟩ : Addr).add n = ⟨B, o + n, none⟩ := by unfold Addr.add; split <;> simp_all

theorem run_load_cells {t : TypeId} {n : Nat} (h : chkSh P t (.agg n) = true) {B o : Nat} {f : Nat → Value} (hf : ∀ j, j < n → w.cell? ⟨B, o + j, none⟩ = some (f j)) :
    (loadVar t ⟨B, o, none⟩).run P w = .ok (.agg ((List.range n).map f).toArray) w := by
  obtain ⟨h1, h2⟩ := chkSh_agg h
  have := run_loadCells (P := P) w ⟨B, o, none⟩ n f (fun j hj => by rw [add_plain]; exact hf j hj)
  simp only [loadVar, Sem.run_bind, h1, Result.andThen_ok, if_true, h2, this, Sem.run_map, Sem.run_pure]

theorem run_load_one {t : TypeId} (h : chkSh P t .one = true) {p : Addr} {v : Value} (hf : w.cell? p = some v) : (loadVar t p).run P w = .ok v w := by
  obtain ⟨h1, _⟩ := chkSh_one h
  simp only [loadVar, Sem.run_bind, h1, Result.andThen_ok, Bool.false_eq_true, if_false, run_load, hf]

theorem cell_of {B o : Nat} {c : Array Value} {e : TypeId} (hh : w.heap[B]? = some (.cells c e (0, 0))) (ho : o < c.size) : w.cell? ⟨B, o, none⟩ = some (c.getD o undef) := by
  simp [World.cell?, hh, Array.getD, ho]

theorem getD_range {n : Nat} {f : Nat → Value} {j : Nat} (hj : j < n) : (((List.range n).map f).toArray).getD j undef = f j := by
  simp [Array.getD, hj]

theorem slot_var {s : Nat} {cs : List AC} (hr : Rel X σ m a w) (hb : σ.b s = .var cs) : (m s).live = true ∧ ∃ c e, w.heap[(m s).blk]? = some (.cells c e (0, 0)) ∧ c.size = cs.length ∧
      (∀ i, i < cs.length → (c.getD i undef).oneCell' = true) ∧ ∀ i (h : i < cs.length), RelC (X.ok m) w σ.b m (cs[i]) (c.getD i undef) := by
  have := hr.slots s; unfold SlotOK at this; rw [hb] at this; exact this

theorem slot_row {s esz : Nat} {els : List (List D)} (hr : Rel X σ m a w) (hb : σ.b s = .row esz els) : (m s).live = false ∧ els = [] ∨ (m s).live = true ∧ ∃ c e, w.heap[(m s).blk]? = some (.cells c e (0, 0)) ∧ c.size = (m s).cap * esz ∧
      els.length ≤ (m s).cap ∧ (∀ i (h : i < els.length), (els[i]).length = esz) ∧ (∀ k, k < els.length * esz → (c.getD k undef).oneCell' = true) ∧
      ∀ i j (hi : i < els.length) (hj : j < (els[i]).length), RelD (X.ok m) w ((els[i])[j]) (c.getD (i * esz + j) undef) := by
  have := hr.slots s; unfold SlotOK at this; rw [hb] at this; exact this

theorem pos_lt {i n j esz : Nat} (hi : i < n) (hj : j < esz) : i * esz + j < n * esz := by
  have : (i + 1) * esz ≤ n * esz := Nat.mul_le_mul_right _ hi
  rw [Nat.add_mul] at this; omega

theorem op_ld {sh : Sh} {x : Opnd} {av : List Nat} (hc : chkA P o.op (.ld sh x av) = true) (h : opA P (.ld sh x av) σ K) (hr : Rel X σ m a w) : Gives P o a w (Post X σ a K) := by
  cases hop : o.op <;> rw [hop] at hc <;> simp [chkA] at hc
  rename_i t x'
  obtain ⟨hsh, hx⟩ := hc
  have hR := chkO_sound hr hx
  have hex : ∀ {p : Addr} {v : Value}, a.eval x' = .pointer (some p) → (loadVar t p).run P w = .ok v w → (execOp a.eval o).run P w = .ok (.value v) w := fun e1 e2 => by
    simp [execOp, hop, e1, Instr.loadAt, Instr.sureAddr, e2]
  simp only [opA] at h
  split at h
  · rename_i s off hs
    obtain ⟨_, h⟩ := h
    rw [hs] at hR
    split at h
    · rename_i cs hb
      obtain ⟨hl, c, e, hh, hz, hone, hcs⟩ := slot_var hr hb
      have hp : a.eval x' = .pointer (some ⟨(m s).blk, off, none⟩) := by
        generalize a.eval x' = v at hR
        cases hR with
        | ptr => rfl
        | ptrDead _ _ _ hb' => rw [hb] at hb'; cases hb'
      split at h
      · split at h
        · rename_i u hu
          obtain ⟨hlt, rfl⟩ := List.getElem?_eq_some_iff.1 hu
          exact gives_pure hr (hex hp (run_load_one hsh (cell_of hh (by omega)))) h (hcs off hlt)
        · exact h.elim
      · rename_i n
        obtain ⟨hle, h⟩ := h
        refine gives_pure hr (hex hp (run_load_cells hsh (f := fun j => c.getD (off + j) undef) (fun j hj => cell_of hh (by omega)))) h (.agg _ _ (by simp; omega) fun j hj => ?_)
        have hj' : j < n := by simp at hj; omega
        rw [getD_range hj']
        simpa using hcs (off + j) (by omega)
    · exact h.elim
  · rename_i cs hs
    rw [hs] at hR
    generalize hv : a.eval x' = v at hR
    cases hR with
    | d hD =>
      cases hD with
      | fptr _ B off f hok hB hcell hone hrel =>
        split at h
        · cases cs with
          | nil => exact h.elim
          | cons c cs =>
            exact gives_pure hr (hex hv (run_load_one hsh (hcell 0 (by simp)))) h (.d (hrel 0 (by simp)))
        · rename_i n
          obtain ⟨hle, h⟩ := h
          refine gives_pure hr (hex hv (run_load_cells hsh (f := f) (fun j hj => hcell j (by omega)))) h (.d (.agg _ _ (by simp; omega) fun j hj => ?_))
          have hj' : j < n := by simp at hj; omega
          rw [getD_range hj']
          simpa using hrel j (by omega)
  · rename_i s i j tot hs
    obtain ⟨_, h⟩ := h
    rw [hs] at hR
    split at h
    · rename_i esz els hb
      obtain ⟨ht, hi, h⟩ := h
      rcases slot_row hr hb with ⟨_, he⟩ | ⟨hl, c, e, hh, hz, hcap, hel, hone, hcs⟩
      · subst he; simp at hi
      have hp : a.eval x' = .pointer (some ⟨(m s).blk, i * esz + j, none⟩) := by
        generalize a.eval x' = v at hR
        cases hR with
        | rptr _ _ _ esz' els' hb' => rw [hb] at hb'; cases hb'; rfl
        | rptrStale _ _ _ _ esz' els' _ hb' hlt => rw [hb] at hb'; cases hb'; omega
        | rptrDead _ _ _ _ _ hb' => rw [hb] at hb'; cases hb'
      have hgd : els.getD i [] = els[i] := by simp [List.getD, hi]
      have hle := hel i hi
      rw [hgd] at h
      split at h
      · split at h
        · rename_i u hu
          obtain ⟨hlt, rfl⟩ := List.getElem?_eq_some_iff.1 hu
          refine gives_pure hr (hex hp (run_load_one hsh (cell_of hh ?_))) h (.d (hcs i j hi hlt))
          rw [hz]; exact pos_lt (by omega) (by omega)
        · exact h.elim
      · rename_i n
        obtain ⟨hle2, h⟩ := h
        refine gives_pure hr (hex hp (run_load_cells hsh (f := fun q => c.getD (i * esz + j + q) undef) (fun q hq => cell_of hh ?_))) h (.d (.agg _ _ (by simp; omega) fun q hq => ?_))
        · rw [hz]; have := pos_lt (i := i) (n := (m s).cap) (j := j + q) (esz := esz) (by omega) (by omega); omega
        · have hq' : q < n := by simp at hq; omega
          rw [getD_range hq']
          have := hcs i (j + q) hi (by omega)
          simpa [Nat.add_assoc] using this
    · exact h.elim
  · exact h.elim

end
end Go.AM
