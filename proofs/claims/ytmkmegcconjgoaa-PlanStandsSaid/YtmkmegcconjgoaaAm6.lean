/- The abstract machine, part 6: places, parts, lengths: operations that leave memory alone. No condition. -/
import Derived.Test.YtmkmegcconjgoaaAm5
set_option linter.unusedVariables false
set_option linter.unusedSimpArgs false
namespace Go.AM
open Go
section
variable {P : Program} {X : Ctx} {σ : St} {m : Nat → Loc} {a : Act} {w : World} {o : Oper} {K : AC → (Nat → ABlk) → Prop}

theorem run_typeInfo_some {t : TypeId} {i : TypeInfo} (h : P.info? t = some i) (w : World) : (typeInfo t).run P w = .ok i w := by simp [typeInfo, h]

/-- A pointer to a variable that stands. -/
theorem ptr_val {s off : Nat} {cs : List AC} {v : Value} (hR : RelC (X.ok m) w σ.b m (.ptr s off) v) (hb : σ.b s = .var cs) : v = .pointer (some ⟨(m s).blk, off, none⟩) := by
  cases hR with
  | ptr => rfl
  | ptrDead _ _ _ hb' => rw [hb] at hb'; cases hb'
theorem rptr_val {s i j tot esz : Nat} {els : List (List D)} {v : Value} (hR : RelC (X.ok m) w σ.b m (.rptr s i j tot) v) (hb : σ.b s = .row esz els) (ht : tot = els.length) :
    v = .pointer (some ⟨(m s).blk, i * esz + j, none⟩) ∧ (m s).live = true ∧ i < els.length := by
  cases hR with
  | rptr _ _ _ esz' els' hb' hl hi => rw [hb] at hb'; cases hb'; exact ⟨rfl, hl, hi⟩
  | rptrStale _ _ _ _ esz' els' _ hb' hlt => rw [hb] at hb'; cases hb'; omega
  | rptrDead _ _ _ _ _ hb' => rw [hb] at hb'; cases hb'

theorem vs_val {s off len : Nat} {cs : List AC} {v : Value} (hR : RelC (X.ok m) w σ.b m (.vs s off len) v) (hb : σ.b s = .var cs) : ∃ cap, len ≤ cap ∧ v = .slice (some ⟨(m s).blk, off, none⟩) len cap := by
  cases hR with
  | vs _ _ _ cap _ _ hcap => exact ⟨cap, hcap, rfl⟩
  | vsDead _ _ _ _ hb' => rw [hb] at hb'; cases hb'

theorem op_fad {off : Nat} {x : Opnd} (hc : chkA P o.op (.fad off x) = true) (h : opA P (.fad off x) σ K) (hr : Rel X σ m a w) : Gives P o a w (Post X σ a K) := by
  cases hop : o.op <;> rw [hop] at hc <;> simp only [chkA, Bool.false_eq_true, Bool.and_eq_true] at hc
  rename_i t x' f
  obtain ⟨hf, hx⟩ := hc
  split at hf <;> try (cases hf; done)
  rename_i fs hu
  split at hf <;> try (cases hf; done)
  rename_i fl hfl
  simp only [Bool.and_eq_true, beq_iff_eq, Bool.not_eq_true'] at hf
  obtain ⟨⟨rfl, hz⟩, hs⟩ := hf
  obtain ⟨i, hi⟩ := Option.isSome_iff_exists.1 hs
  have hne : i.size ≠ 0 := by simpa [sizeIs, hi] using hz
  have hR := chkO_sound hr hx
  have hex : ∀ {B o' : Nat}, a.eval x' = .pointer (some ⟨B, o', none⟩) → (execOp a.eval o).run P w = .ok (.value (.pointer (some ⟨B, o' + fl.offset, none⟩))) w := fun e1 => by
    simp [execOp, hop, e1, Instr.fieldAt, run_underlying' hu, hfl, Instr.sureAddr, fieldPlace, sizeOf, run_typeInfo_some hi, hne, add_plain]
  simp only [opA] at h
  split at h
  · rename_i s off hs'
    rw [hs'] at hR
    split at h <;> try (exact h.elim)
    rename_i cs hb
    exact gives_pure hr (hex (ptr_val hR hb)) h (.ptr _ _ cs hb)
  · rename_i cs hs'
    rw [hs'] at hR
    generalize hv : a.eval x' = v at hR
    cases hR with
    | d hD =>
      cases hD with
      | fptr _ B off f hok hB hcell hone hrel =>
        refine gives_pure hr (hex hv) h (.d (.fptr _ B _ (fun j => f (fl.offset + j)) hok hB (fun j hj => ?_) (fun j hj => ?_) (fun j hj => ?_)))
        · rw [Nat.add_assoc]; exact hcell _ (by simp at hj; omega)
        · exact hone _ (by simp at hj; omega)
        · simpa using hrel (fl.offset + j) (by simp at hj; omega)
  · rename_i s i' j tot hs'
    rw [hs'] at hR
    split at h <;> try (exact h.elim)
    rename_i esz els hb
    obtain ⟨ht, h⟩ := h
    obtain ⟨hv, hl, hi'⟩ := rptr_val hR hb ht
    refine gives_pure hr (hex hv) h ?_
    subst ht
    have := RelC.rptr (ok := X.ok m) (w := w) (b := σ.b) (m := m) s i' (j + fl.offset) esz els hb hl hi'
    rwa [← Nat.add_assoc] at this
  · exact h.elim

/-- A part of an aggregate. -/
theorem run_part_one {t : TypeId} (h : chkSh P t .one = true) {cs : Array Value} {off : Nat} (ho : off < cs.size) : (part t cs off).run P w = .ok (cs.getD off undef) w := by
  obtain ⟨h1, _⟩ := chkSh_one h
  simp [part, h1, ho, Array.getD]
theorem run_part_agg {t : TypeId} {n : Nat} (h : chkSh P t (.agg n) = true) (cs : Array Value) (off : Nat) : (part t cs off).run P w = .ok (.agg (cs.extract off (off + n))) w := by
  obtain ⟨h1, h2⟩ := chkSh_agg h
  simp [part, h1, h2]
theorem getD_extract {cs : Array Value} {off n j : Nat} (h : off + n ≤ cs.size) (hj : j < n) : (cs.extract off (off + n)).getD j undef = cs.getD (off + j) undef := by
  simp [Array.getD, show off + j < cs.size by omega, Nat.min_eq_left h, hj]

/-- What a part of an aggregate reads as. -/
theorem part_gives {sh : Sh} {t : TypeId} (hsh : chkSh P t sh = true) {off : Nat} {v : Value} {cs : List AC} {vs : Array Value} (hv : v = .agg vs) (hz : vs.size = cs.length)
    (hrel : ∀ j (hj : j < cs.length), RelC (X.ok m) w σ.b m (cs[j]) (vs.getD j undef)) {Q : AC → Prop}
    (h : match sh with
      | .one => (match cs[off]? with | some c => Q c | none => False)
      | .agg n => off + n ≤ cs.length ∧ Q (.agg ((cs.drop off).take n))) :
    ∃ y u, Q y ∧ (part t vs off).run P w = .ok u w ∧ RelC (X.ok m) w σ.b m y u := by
  cases sh with
  | one =>
    simp only at h
    split at h
    · rename_i c hu
      obtain ⟨hlt, rfl⟩ := List.getElem?_eq_some_iff.1 hu
      exact ⟨_, _, h, run_part_one hsh (by omega), hrel off hlt⟩
    · exact h.elim
  | agg n =>
    obtain ⟨hle, h⟩ := h
    refine ⟨_, _, h, run_part_agg hsh vs off, .agg _ _ (by simp; omega) fun j hj => ?_⟩
    have hj' : j < n := by simp at hj; omega
    rw [getD_extract (by omega) hj']
    simpa using hrel (off + j) (by omega)
theorem part_givesD {sh : Sh} {t : TypeId} (hsh : chkSh P t sh = true) {off : Nat} {v : Value} {cs : List D} {vs : Array Value} (hv : v = .agg vs) (hz : vs.size = cs.length)
    (hrel : ∀ j (hj : j < cs.length), RelD (X.ok m) w (cs[j]) (vs.getD j undef)) {Q : AC → Prop}
    (h : match sh with
      | .one => (match cs[off]? with | some c => Q (.d c) | none => False)
      | .agg n => off + n ≤ cs.length ∧ Q (.d (.agg ((cs.drop off).take n)))) :
    ∃ y u, Q y ∧ (part t vs off).run P w = .ok u w ∧ RelC (X.ok m) w σ.b m y u := by
  cases sh with
  | one =>
    simp only at h
    split at h
    · rename_i c hu
      obtain ⟨hlt, rfl⟩ := List.getElem?_eq_some_iff.1 hu
      exact ⟨_, _, h, run_part_one hsh (by omega), .d (hrel off hlt)⟩
    · exact h.elim
  | agg n =>
    obtain ⟨hle, h⟩ := h
    refine ⟨_, _, h, run_part_agg hsh vs off, .d (.agg _ _ (by simp; omega) fun j hj => ?_)⟩
    have hj' : j < n := by simp at hj; omega
    rw [getD_extract (by omega) hj']
    simpa using hrel (off + j) (by omega)

theorem op_fld {sh : Sh} {off : Nat} {x : Opnd} (hc : chkA P o.op (.fld sh off x) = true) (h : opA P (.fld sh off x) σ K) (hr : Rel X σ m a w) : Gives P o a w (Post X σ a K) := by
  cases hop : o.op <;> rw [hop] at hc <;> simp only [chkA, Bool.false_eq_true, Bool.and_eq_true] at hc
  rename_i t x' f
  obtain ⟨hf, hx⟩ := hc
  split at hf <;> try (cases hf; done)
  rename_i fs hu
  split at hf <;> try (cases hf; done)
  rename_i fl hfl
  simp only [Bool.and_eq_true, beq_iff_eq] at hf
  obtain ⟨rfl, hsh⟩ := hf
  have hR := chkO_sound hr hx
  have hex : ∀ {vs : Array Value} {u : Value}, a.eval x' = .agg vs → (part fl.type vs fl.offset).run P w = .ok u w → (execOp a.eval o).run P w = .ok (.value u) w := fun e1 e2 => by
    simp [execOp, hop, e1, Instr.field, run_underlying' hu, hfl, asAgg, e2]
  simp only [opA] at h
  split at h
  · rename_i cs hs'
    rw [hs'] at hR
    generalize hv : a.eval x' = v at hR
    cases hR with
    | agg _ vs hz hrel =>
      obtain ⟨y, u, hk, hrun, hy⟩ := part_gives (Q := fun y => K y σ.b) hsh rfl hz hrel h
      exact gives_pure hr (hex hv hrun) hk hy
  · rename_i cs hs'
    rw [hs'] at hR
    generalize hv : a.eval x' = v at hR
    cases hR with
    | d hD =>
      cases hD with
      | agg _ vs hz hrel =>
        obtain ⟨y, u, hk, hrun, hy⟩ := part_givesD (Q := fun y => K y σ.b) (σ := σ) hsh rfl hz hrel h
        exact gives_pure hr (hex hv hrun) hk hy
  · exact h.elim

theorem row_val {s off len tot esz : Nat} {els : List (List D)} {v : Value} (hR : RelC (X.ok m) w σ.b m (.row s off len tot) v) (hb : σ.b s = .row esz els) (ht : tot = els.length) :
    ((m s).live = true ∧ off + len ≤ els.length ∧ v = .slice (some ⟨(m s).blk, off * esz, none⟩) len ((m s).cap - off)) ∨ ((m s).live = false ∧ off = 0 ∧ len = 0 ∧ v = .slice none 0 0 ∧ els = []) := by
  cases hR with
  | row _ _ _ esz' els' hb' hl hle => rw [hb] at hb'; cases hb'; exact .inl ⟨hl, hle, rfl⟩
  | rowNil _ esz' hb' hl => rw [hb] at hb'; cases hb'; exact .inr ⟨hl, rfl, rfl, rfl, rfl⟩
  | rowStale _ _ _ _ esz' els' _ hb' hlt => rw [hb] at hb'; cases hb'; omega
  | rowDead _ _ _ _ _ hb' => rw [hb] at hb'; cases hb'

theorem op_ixa {esz : Nat} {x i : Opnd} (hc : chkA P o.op (.ixa esz x i) = true) (h : opA P (.ixa esz x i) σ K) (hr : Rel X σ m a w) : Gives P o a w (Post X σ a K) := by
  cases hop : o.op <;> rw [hop] at hc <;> simp only [chkA, Bool.false_eq_true, Bool.and_eq_true] at hc
  rename_i t x' i'
  obtain ⟨⟨hf, hx⟩, hi⟩ := hc
  split at hf <;> try (cases hf; done)
  rename_i e hu
  have hsz := sizeIs_run hf w
  have hR := chkO_sound hr hx
  have hex : ∀ {B o' len cap : Nat} {k : IntKind} {n : Int}, a.eval x' = .slice (some ⟨B, o', none⟩) len cap → a.eval i' = .int k n → 0 ≤ n → n < len →
      (execOp a.eval o).run P w = .ok (.value (.pointer (some ⟨B, o' + n.toNat * esz, none⟩))) w := fun e1 e2 h1 h2 => by
    simp [execOp, hop, e1, e2, Instr.indexAt, asIntOf, run_underlying' hu, h1, h2, hsz, add_plain]
  simp only [opA] at h
  split at h
  · rename_i xs k n hxs hn
    have hi2 := relC_v (hn ▸ chkO_sound hr hi)
    rw [hxs] at hR
    obtain ⟨h1, h2, h3, h⟩ := h
    generalize hv : a.eval x' = v at hR
    have hlt : n.toNat < xs.length := by omega
    have hgd : xs.getD n.toNat [] = xs[n.toNat] := by simp [List.getD, hlt]
    rw [hgd] at h h3
    cases hR with
    | d hD =>
      cases hD with
      | empty => simp at h2; omega
      | list _ B off cap esz' f hok hB hcap hsz' hcell hone hrel =>
        have : esz' = esz := by rw [← h3, hsz' _ hlt]
        subst this
        exact gives_pure hr (hex hv hi2 h1 h2) h (.d (.fptr _ B _ (fun j => f n.toNat j) hok hB (fun j hj => by rw [Nat.add_assoc]; exact hcell _ _ hlt (by rw [h3] at hj; exact hj)) (fun j hj => hone _ _ hlt (by rw [h3] at hj; exact hj)) (fun j hj => hrel _ _ hlt hj)))
  · rename_i s off len tot k n hxs hn
    have hi2 := relC_v (hn ▸ chkO_sound hr hi)
    rw [hxs] at hR
    obtain ⟨h1, h2, h⟩ := h
    split at h <;> try (exact h.elim)
    rename_i esz' els hb
    obtain ⟨rfl, ht, h⟩ := h
    rcases row_val hR hb ht with ⟨hl, hle, hv⟩ | ⟨_, _, hl0, _, _⟩
    · subst ht
      refine gives_pure hr (hex hv hi2 h1 h2) h ?_
      have := RelC.rptr (ok := X.ok m) (w := w) (b := σ.b) (m := m) s (off + n.toNat) 0 esz' els hb hl (by omega)
      rwa [Nat.add_mul] at this
    · omega
  · rename_i s off len k n hxs hn
    have hi2 := relC_v (hn ▸ chkO_sound hr hi)
    rw [hxs] at hR
    obtain ⟨rfl, h1, h2, h⟩ := h
    split at h <;> try (exact h.elim)
    rename_i cs hb
    obtain ⟨cap, hcap, hv⟩ := vs_val hR hb
    refine gives_pure hr (hex hv hi2 h1 h2) h ?_
    rw [Nat.mul_one]
    exact .ptr s _ cs hb
  · exact h.elim

theorem op_ixp {n esz : Nat} {x i : Opnd} (hc : chkA P o.op (.ixp n esz x i) = true) (h : opA P (.ixp n esz x i) σ K) (hr : Rel X σ m a w) : Gives P o a w (Post X σ a K) := by
  cases hop : o.op <;> rw [hop] at hc <;> simp only [chkA, Bool.false_eq_true, Bool.and_eq_true] at hc
  rename_i t x' i'
  obtain ⟨⟨hf, hx⟩, hi⟩ := hc
  split at hf <;> try (cases hf; done)
  rename_i n' e hu
  simp only [Bool.and_eq_true, beq_iff_eq] at hf
  obtain ⟨rfl, hf⟩ := hf
  have hsz := sizeIs_run hf w
  have hR := chkO_sound hr hx
  simp only [opA] at h
  split at h
  · rename_i s off k q hxs hn
    have hi2 := relC_v (hn ▸ chkO_sound hr hi)
    rw [hxs] at hR
    obtain ⟨h1, h2, h⟩ := h
    split at h <;> try (exact h.elim)
    rename_i cs hb
    have hv := ptr_val hR hb
    refine gives_pure hr ?_ h (.ptr _ _ cs hb)
    simp [execOp, hop, hv, hi2, Instr.indexAt, asIntOf, run_underlying' hu, Instr.sureAddr, h1, h2, hsz, add_plain]
  · exact h.elim

theorem op_ixs {x i : Opnd} (hc : chkA P o.op (.ixs x i) = true) (h : opA P (.ixs x i) σ K) (hr : Rel X σ m a w) : Gives P o a w (Post X σ a K) := by
  cases hop : o.op <;> rw [hop] at hc <;> simp only [chkA, Bool.false_eq_true, Bool.and_eq_true] at hc
  rename_i t x' i'
  obtain ⟨⟨hf, hx⟩, hi⟩ := hc
  split at hf <;> try (cases hf; done)
  rename_i hu
  simp only [opA] at h
  split at h
  · rename_i s k n hxs hn
    have hi2 := relC_v (hn ▸ chkO_sound hr hi)
    have hv := relC_v (hxs ▸ chkO_sound hr hx)
    obtain ⟨h1, h2, h⟩ := h
    have hlt : n.toNat < s.size := by omega
    refine gives_pure hr ?_ h (.d (.v _))
    have hb : byteAt s n = ((s[n.toNat]).toNat : Int) := by
      unfold byteAt
      congr 2
      have h3 : n.toNat < s.data.size := hlt
      simp only [List.getD, ByteArray.getElem_eq_getElem_data, Array.getElem?_toList]
      rw [Array.getElem?_eq_getElem h3]; rfl
    simp [execOp, hop, hv, hi2, Instr.index, asIntOf, run_underlying' hu, h1, hlt, hb]
  · exact h.elim

theorem op_ext {x : Opnd} {k : Nat} (hc : chkA P o.op (.ext x k) = true) (h : opA P (.ext x k) σ K) (hr : Rel X σ m a w) : Gives P o a w (Post X σ a K) := by
  cases hop : o.op <;> rw [hop] at hc <;> simp only [chkA, Bool.false_eq_true, Bool.and_eq_true, beq_iff_eq] at hc
  rename_i x' k'
  obtain ⟨rfl, hx⟩ := hc
  have hR := chkO_sound hr hx
  have hex : ∀ {vs : Array Value}, a.eval x' = .tuple vs → k < vs.size → (execOp a.eval o).run P w = .ok (.value (vs.getD k undef)) w := fun e1 e2 => by
    simp [execOp, hop, e1, Instr.extract, e2, Array.getD]
  simp only [opA] at h
  split at h
  · rename_i cs hs'
    rw [hs'] at hR
    generalize hv : a.eval x' = v at hR
    split at h <;> try (exact h.elim)
    rename_i c hu
    obtain ⟨hlt, rfl⟩ := List.getElem?_eq_some_iff.1 hu
    cases hR with
    | tup _ vs hz hrel => exact gives_pure hr (hex hv (by omega)) h (hrel k hlt)
  · rename_i cs hs'
    rw [hs'] at hR
    generalize hv : a.eval x' = v at hR
    split at h <;> try (exact h.elim)
    rename_i c hu
    obtain ⟨hlt, rfl⟩ := List.getElem?_eq_some_iff.1 hu
    cases hR with
    | d hD => cases hD with
      | tup _ vs hz hrel => exact gives_pure hr (hex hv (by omega)) h (.d (hrel k hlt))
  · exact h.elim

theorem op_len {str : Bool} {x : Opnd} (hc : chkA P o.op (.len str x) = true) (h : opA P (.len str x) σ K) (hr : Rel X σ m a w) : Gives P o a w (Post X σ a K) := by
  cases hop : o.op <;> rw [hop] at hc <;> simp only [chkA, Bool.false_eq_true] at hc
  rename_i c
  split at hc <;> try (cases hc; done)
  rename_i x' t hcal hargs hty
  simp only [Bool.and_eq_true] at hc
  obtain ⟨hx, hu⟩ := hc
  have hR := chkO_sound hr hx
  have ha : c.args = #[x'] := by apply Array.ext'; simpa using hargs
  have hat : c.argTypes = #[t] := by apply Array.ext'; simpa using hty
  have hex : ∀ {u : Value}, (Builtin.len_ #[t] o.type #[a.eval x']).run P w = .ok u w → (execOp a.eval o).run P w = .ok (.value u) w := fun e => by
    simp [execOp, hop, resolve, hcal, ha, hat, invoke, builtin, e]
  have hs : ∀ {e : TypeId} {b : Option Addr} {n cap : Nat}, P.underlying t = some (.slice e) → a.eval x' = .slice b n cap → (execOp a.eval o).run P w = .ok (.value (.int .i64 n)) w := fun h1 h2 =>
    hex (by simp [Builtin.len_, run_underlying' h1, h2, goInt])
  have hstr : str = false → ∃ e, P.underlying t = some (.slice e) := fun e => by
    subst e; revert hu; split <;> intro hu <;> first | (rename_i h1; cases h1; done) | exact ⟨_, by assumption⟩ | (cases hu; done)
  simp only [opA] at h
  split at h
  · rename_i xs hxs
    obtain ⟨rfl, h⟩ := h
    obtain ⟨e, hue⟩ := hstr rfl
    rw [hxs] at hR
    generalize hv : a.eval x' = v at hR
    cases hR with
    | d hD => cases hD with
      | empty => exact gives_pure hr (hs hue hv) h (.d (.v _))
      | list => exact gives_pure hr (hs hue hv) h (.d (.v _))
  · rename_i hxs
    obtain ⟨rfl, h⟩ := h
    obtain ⟨e, hue⟩ := hstr rfl
    exact gives_pure hr (hs hue (relC_v (hxs ▸ hR))) h (.d (.v _))
  · rename_i s hxs
    obtain ⟨rfl, h⟩ := h
    have hue : P.underlying t = some .string := by
      revert hu; split <;> intro hu <;> first | (rename_i h1; cases h1; done) | assumption | cases hu
    exact gives_pure hr (hex (by simp [Builtin.len_, run_underlying' hue, relC_v (hxs ▸ hR), goInt])) h (.d (.v _))
  · rename_i s off len tot hxs
    obtain ⟨rfl, h⟩ := h
    obtain ⟨e, hue⟩ := hstr rfl
    rw [hxs] at hR
    split at h <;> try (exact h.elim)
    rename_i esz els hb
    obtain ⟨ht, h⟩ := h
    rcases row_val hR hb ht with ⟨_, _, hv⟩ | ⟨_, _, hl0, hv, _⟩
    · exact gives_pure hr (hs hue hv) h (.d (.v _))
    · subst hl0; exact gives_pure hr (hs hue hv) h (.d (.v _))
  · rename_i s off len hxs
    obtain ⟨rfl, h⟩ := h
    obtain ⟨e, hue⟩ := hstr rfl
    rw [hxs] at hR
    split at h <;> try (exact h.elim)
    rename_i cs hb
    obtain ⟨cap, _, hv⟩ := vs_val hR hb
    exact gives_pure hr (hs hue hv) h (.d (.v _))
  · exact h.elim

end
end Go.AM
