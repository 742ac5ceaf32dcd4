/- The abstract machine, part 8: literals; stores; new variables and rows. No condition. -/
import Derived.Test.YtmkmegcconjgoaaAm7
import Derived.Laws.Tables
set_option linter.unusedVariables false
set_option linter.unusedSimpArgs false
namespace Go.AM
open Go
section
variable {P : Program} {X : Ctx} {σ : St} {m : Nat → Loc} {a : Act} {w : World} {o : Oper} {K : AC → (Nat → ABlk) → Prop}

/-- Cells of memory read as cells of the abstract machine. -/
def RelA (ok : Nat → Prop) (w : World) (b : Nat → ABlk) (m : Nat → Loc) (acs : List AC) (cs : Array Value) : Prop :=
  cs.size = acs.length ∧ ∀ j (hj : j < acs.length), RelC ok w b m (acs[j]) (cs.getD j undef)

theorem foldSet_size (off : Nat) : ∀ (us : List Value) (j : Nat) (cs : Array Value), ((us.zipIdx j).foldl (fun cs (x : Value × Nat) => cs.setIfInBounds (off + x.2) x.1) cs).size = cs.size
  | [], _, _ => rfl
  | u :: us, j, cs => by rw [List.zipIdx_cons, List.foldl_cons, foldSet_size off us]; simp

theorem foldSet_getD (off : Nat) : ∀ (us : List Value) (j : Nat) (cs : Array Value) (k : Nat), off + j + us.length ≤ cs.size →
    ((us.zipIdx j).foldl (fun cs (x : Value × Nat) => cs.setIfInBounds (off + x.2) x.1) cs).getD k undef = if off + j ≤ k ∧ k < off + j + us.length then us.getD (k - (off + j)) undef else cs.getD k undef
  | [], j, cs, k, _ => by simp; intro h1 h2; omega
  | u :: us, j, cs, k, hz => by
    rw [List.zipIdx_cons, List.foldl_cons, foldSet_getD off us (j + 1) _ k (by simp at hz ⊢; omega)]
    simp only [List.length_cons] at hz ⊢
    by_cases h1 : k = off + j
    · subst h1
      rw [if_neg (by omega), if_pos (by omega)]
      simp [Array.getD, show off + j < cs.size by omega]
    · by_cases h2 : off + j + 1 ≤ k ∧ k < off + j + 1 + us.length
      · rw [if_pos (by omega), if_pos (by omega)]
        have : k - (off + j) = (k - (off + (j + 1))) + 1 := by omega
        rw [this]; rfl
      · rw [if_neg (by omega), if_neg (by omega)]
        simp only [Array.getD_eq_getD_getElem?]
        rw [Array.getElem?_setIfInBounds_ne (by omega)]

/-- A stretch of cells is written. -/
theorem RelA.splice {ok : Nat → Prop} {b : Nat → ABlk} {acs us : List AC} {cs vs : Array Value} {off : Nat} (h : RelA ok w b m acs cs) (hu : RelA ok w b m us vs) (hle : off + us.length ≤ acs.length) {cs' : Array Value}
    (hz : cs'.size = cs.size) (hg : ∀ k, cs'.getD k undef = if off ≤ k ∧ k < off + us.length then vs.getD (k - off) undef else cs.getD k undef) :
    RelA ok w b m (acs.take off ++ us ++ acs.drop (off + us.length)) cs' := by
  obtain ⟨h1, h2⟩ := h
  obtain ⟨h3, h4⟩ := hu
  have hlen : (acs.take off ++ us ++ acs.drop (off + us.length)).length = acs.length := by simp; omega
  refine ⟨by rw [hlen, hz, h1], fun k hk => ?_⟩
  rw [hlen] at hk
  rw [hg]
  by_cases hc : off ≤ k ∧ k < off + us.length
  · rw [if_pos hc]
    have := h4 (k - off) (by omega)
    have e : (acs.take off ++ us ++ acs.drop (off + us.length))[k]'(by rw [hlen]; exact hk) = us[k - off]'(by omega) := by
      rw [List.getElem_append_left (by simp; omega), List.getElem_append_right (by simp; omega)]
      congr 1
      simp; omega
    rw [e]; exact this
  · rw [if_neg hc]
    have := h2 k hk
    have e : (acs.take off ++ us ++ acs.drop (off + us.length))[k]'(by rw [hlen]; exact hk) = acs[k] := by
      by_cases hlt : k < off
      · rw [List.getElem_append_left (by simp; omega), List.getElem_append_left (by simp; omega)]
        simp
      · rw [List.getElem_append_right (by simp; omega)]
        simp only [List.getElem_drop]
        congr 1
        simp; omega
    rw [e]; exact this

theorem cells_relA {sh : Sh} {x : AC} {v : Value} {cs : List AC} {ok : Nat → Prop} {b : Nat → ABlk} (h : RelC ok w b m x v) (hc : cellsC sh x = some cs) (h1 : cs.all (standsB b) = true) :
    RelA ok w b m cs v.cells ∧ ∀ u ∈ v.cells.toList, u.oneCell' = true := by
  obtain ⟨k1, k2, k3⟩ := cellsC_sound h hc (by simpa using h1)
  exact ⟨⟨k1, k2⟩, k3⟩

theorem cellsC_len {n : Nat} {x : AC} {us : List AC} (h : cellsC (.agg n) x = some us) : us.length = n := by
  cases x with
  | agg cs => simp only [cellsC] at h; split at h <;> cases h; assumption
  | d y =>
    cases y <;> simp only [cellsC] at h <;> try (cases h; done)
    split at h <;> cases h; simpa
  | _ => simp [cellsC] at h
theorem cellsC_len1 {x : AC} {us : List AC} (h : cellsC .one x = some us) : us.length = 1 := by
  cases x with
  | agg cs => simp [cellsC] at h
  | d y => cases y <;> simp [cellsC] at h <;> (subst h; rfl)
  | _ => simp [cellsC] at h; subst h; rfl
theorem chkSh_size {t : TypeId} {sh : Sh} {x : AC} {us : List AC} (hsh : chkSh P t sh = true) (hc : cellsC sh x = some us) : sizeIs P t us.length = true := by
  cases sh with
  | agg n => rw [cellsC_len hc]; simp [chkSh] at hsh; exact hsh.2
  | one => rw [cellsC_len1 hc]; simp [chkSh] at hsh; exact hsh.2

theorem fill_rel (hr : Rel X σ m a w) {place : Nat → Option (Nat × TypeId)} {pl : Nat → Option (Nat × Nat)} (hp : ∀ i o t n, place i = some (o, t) → sizeIs P t n = true → pl i = some (o, n)) :
    ∀ (ps : List (Nat × Operand)) (qs : List (Nat × Sh × Opnd)) (acs acs' : List AC) (cs : Array Value), chkParts P place ps qs = true → RelA (X.ok m) w σ.b m acs cs → fillC σ.b σ.t acs qs = some acs' →
      ∃ cs', Instr.fill pl cs (ps.map fun x => (x.1, a.eval x.2)) = some cs' ∧ RelA (X.ok m) w σ.b m acs' cs'
  | [], [], acs, acs', cs, _, h, hf => by simp [fillC] at hf; subst hf; exact ⟨cs, rfl, h⟩
  | [], _ :: _, _, _, _, hc, _, _ => by simp [chkParts] at hc
  | _ :: _, [], _, _, _, hc, _, _ => by simp [chkParts] at hc
  | (i, x) :: ps, (off, sh, y) :: qs, acs, acs', cs, hc, h, hf => by
    simp only [chkParts, Bool.and_eq_true] at hc
    obtain ⟨⟨hpl, hx⟩, hrest⟩ := hc
    split at hpl <;> try (cases hpl; done)
    rename_i o' t hpi
    simp only [Bool.and_eq_true, beq_iff_eq] at hpl
    obtain ⟨rfl, hsh⟩ := hpl
    simp only [fillC] at hf
    split at hf <;> try (cases hf; done)
    rename_i us hus
    split at hf <;> try (cases hf; done)
    rename_i hcond
    obtain ⟨hst, hle⟩ := hcond
    have hR := chkO_sound hr hx
    obtain ⟨hA, _⟩ := cells_relA hR hus hst
    have hsz := hp i o' t _ hpi (chkSh_size hsh hus)
    have hle2 : o' + (a.eval x).cells.size ≤ cs.size := by rw [hA.1, h.1]; exact hle
    simp only [List.map_cons, Instr.fill, hsz]
    rw [if_neg (by simp [hA.1]; rw [← hA.1]; omega)]
    refine fill_rel hr hp ps qs _ acs' _ hrest (RelA.splice h hA hle ?_ fun k => ?_) hf
    · rw [← Array.foldl_toList, Array.toList_zipIdx]; exact foldSet_size _ _ _ _
    · rw [← Array.foldl_toList, Array.toList_zipIdx]
      have := foldSet_getD o' (a.eval x).cells.toList 0 cs k (by simpa using hle2)
      simp only [Nat.add_zero, Array.length_toList, hA.1] at this
      refine this.trans ?_
      simp [List.getD, Array.getD_eq_getD_getElem?]

theorem zero_rel {ok : Nat → Prop} {b : Nat → ABlk} {t : TypeId} {zs : List Z} (h : chkZero P t zs = true) : ∃ i z, P.info? t = some i ∧ i.zero = some z ∧ RelA ok w b m (zs.map zC) z.cells := by
  unfold chkZero zeroOf at h
  split at h <;> try (cases h; done)
  rename_i z hz
  cases hi : P.info? t with
  | none => simp [hi] at hz
  | some i =>
    simp [hi] at hz
    have he := chkZs_val h
    refine ⟨i, z, rfl, hz, ?_, fun j hj => ?_⟩
    · have := congrArg List.length he; simpa using this
    · have hj' : j < zs.length := by simpa using hj
      have e : z.cells.getD j undef = (zs[j]).val := by
        have := congrArg (fun l => l[j]?) he
        simp [hj'] at this
        simp [Array.getD_eq_getD_getElem?, this]
      rw [e]; simp only [List.getElem_map]; exact .d (.v _)

theorem Z.val_one (z : Z) : z.val.oneCell' = true := by cases z <;> rfl
theorem zero_one {t : TypeId} {zs : List Z} {i : TypeInfo} {z : Value} (h : chkZero P t zs = true) (hi : P.info? t = some i) (hz : i.zero = some z) : ∀ u ∈ z.cells.toList, u.oneCell' = true := by
  unfold chkZero zeroOf at h
  simp only [hi, Option.bind_some, hz] at h
  intro u hu
  rw [chkZs_val h] at hu
  obtain ⟨q, _, rfl⟩ := List.mem_map.1 hu
  exact q.val_one
theorem one_getD {vs : Array Value} (h : ∀ u ∈ vs.toList, u.oneCell' = true) {k : Nat} (hk : k < vs.size) : (vs.getD k undef).oneCell' = true := by
  have : vs.getD k undef = vs[k] := by simp [Array.getD, hk]
  rw [this]; exact h _ (by simp)

theorem op_build {zs : List Z} {ps : List (Nat × Sh × Opnd)} (hc : chkA P o.op (.build zs ps) = true) (h : opA P (.build zs ps) σ K) (hr : Rel X σ m a w) : Gives P o a w (Post X σ a K) := by
  cases hop : o.op <;> rw [hop] at hc <;> simp only [chkA, Bool.false_eq_true, Bool.and_eq_true] at hc
  rename_i t ps'
  obtain ⟨hz, hc⟩ := hc
  simp only [opA] at h
  split at h <;> try (exact h.elim)
  rename_i acs' hf
  obtain ⟨it, z, hit, hiz, hA⟩ := zero_rel (P := P) (w := w) (m := m) (ok := X.ok m) (b := σ.b) hz
  have key : ∃ cs', P.built t (ps'.toList.map fun x => (x.1, a.eval x.2)) = some cs' ∧ RelA (X.ok m) w σ.b m acs' cs' := by
    split at hc
    · rename_i fs hu
      simp only [Bool.and_eq_true] at hc
      obtain ⟨places, hpl⟩ := Option.isSome_iff_exists.1 hc.1
      obtain ⟨cs', h1, h2⟩ := fill_rel (P := P) hr (pl := (places.toArray[·]?)) (fun i o' t' n hi hn => by
        cases hfi : fs[i]? with
        | none => simp [hfi] at hi
        | some f =>
          simp [hfi] at hi
          obtain ⟨rfl, rfl⟩ := hi
          have hmap : ∀ (l : List Field) (ps : List (Nat × Nat)), l.mapM (fun (f : Field) => (P.info? f.type).map fun i => (f.offset, i.size)) = some ps → ∀ (j : Nat) (f : Field), l[j]? = some f → ∃ i, P.info? f.type = some i ∧ ps[j]? = some (f.offset, i.size) := by
            intro l
            induction l with
            | nil => intro ps _ j f hj; simp at hj
            | cons g l ih =>
              intro ps hps j f hj
              simp only [List.mapM_cons, Option.bind_eq_bind, Option.pure_def] at hps
              cases hi : P.info? g.type with
              | none => simp [hi] at hps
              | some i =>
                cases hr : l.mapM (fun f => (P.info? f.type).map fun i => (f.offset, i.size)) with
                | none => simp [hi, hr] at hps
                | some rest =>
                  simp [hi, hr] at hps
                  subst hps
                  cases j with
                  | zero => simp at hj; subst hj; exact ⟨i, hi, rfl⟩
                  | succ j => simpa using ih rest hr j f (by simpa using hj)
          obtain ⟨i', hi', hpi⟩ := hmap _ _ hpl i f (by simpa using hfi)
          simp [sizeIs, hi'] at hn
          subst hn
          simpa using hpi) ps'.toList ps _ acs' _ hc.2 hA hf
      exact ⟨cs', by simp only [Program.built, hit, hu, hiz, hpl]; exact h1, h2⟩
    · rename_i n e hu
      split at hc <;> try (cases hc; done)
      rename_i ie hie
      obtain ⟨cs', h1, h2⟩ := fill_rel (P := P) hr (pl := fun i => some (i * ie.size, ie.size)) (fun i o' t' n hi hn => by
        simp at hi; obtain ⟨rfl, rfl⟩ := hi
        simp [sizeIs, hie] at hn; subst hn; rfl) ps'.toList ps _ acs' _ hc hA hf
      exact ⟨cs', by simp [Program.built, hit, hu, hiz, hie, h1], h2⟩
    · cases hc
  obtain ⟨cs', h1, h2⟩ := key
  refine gives_pure hr ?_ h (.agg _ _ h2.1 h2.2)
  have := run_build (P := P) w t (ps'.map fun (i, x) => (i, a.eval x)) cs' (by rw [Array.toList_map]; exact h1)
  simp only [execOp, hop, Sem.run_bind, this]; rfl

end
end Go.AM
