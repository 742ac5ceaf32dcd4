/- The abstract machine, part 9: stores; new variables and rows. No condition. -/
import Derived.Test.YtbkjfjlmhlmdbaaAm8
import Derived.Laws.AppendOwn
import Derived.Great.BuildSlice
import Derived.IntWalk
import Derived.Laws.StructEq
set_option linter.unusedVariables false
set_option linter.unusedSimpArgs false
namespace Go.AM
open Go
section
variable {P : Program} {X : Ctx} {σ : St} {m : Nat → Loc} {a : Act} {w : World} {o : Oper} {K : AC → (Nat → ABlk) → Prop}

theorem gives_at {y : AC} {v : Value} {b' : Nat → ABlk} {m' : Nat → Loc} {w' : World} (hrun : (execOp a.eval o).run P w = .ok (.value v) w' ∨ ((execOp a.eval o).run P w = .ok .skip w' ∧ v = undef))
    (hk : K y b') (hr : Rel X ⟨σ.t, b'⟩ m' a w') (hy : RelC (X.ok m') w' b' m' y v) : Gives P o a w (Post X σ a K) :=
  .inl ⟨v, w', ⟨y, b', m', hk, hr, hy⟩, hrun⟩

/-- The slot's block is written in place. -/
theorem turn_set {s : Nat} {bs : ABlk} {cs : Array Value} (hr : Rel X σ m a w) (ht : Turns (σ.b s) bs (m s) (m s)) (hl : (m s).live = true) : Turn X σ m w s bs (m s) (w.setRow (m s).blk cs) where
  os := rfl
  tape := rfl
  output := rfl
  size := by simp
  block := fun k hk hne => setRow_other _ _ _ _ (hne hl)
  turns := ht
  place := fun h => .inl ⟨h, rfl⟩

/-- A new block takes the slot's place. -/
theorem turn_new {s : Nat} {bs : ABlk} {l : Loc} {ob : Obj} {w' : World} (hw : w' = w.alloc ob ∨ w' = w.drew.alloc ob) (ht : Turns (σ.b s) bs (m s) l) (hb : l.blk = w.heap.size) : Turn X σ m w s bs l w' where
  os := by rcases hw with rfl | rfl <;> rfl
  tape := by rcases hw with rfl | rfl <;> rfl
  output := by rcases hw with rfl | rfl <;> rfl
  size := by rcases hw with rfl | rfl <;> simp
  block := fun k hk _ => by rcases hw with rfl | rfl <;> exact Go.RowKit.Below.heap_alloc _ _ _ hk
  turns := ht
  place := fun _ => .inr (by omega)

theorem heap_new (w : World) (ob : Obj) : (w.alloc ob).heap[w.heap.size]? = some ob := by show (w.heap.push ob)[w.heap.size]? = _; simp

theorem upd_self {α : Type} (f : Nat → α) (i : Nat) : upd f i (f i) = f := by
  funext j; unfold upd; split
  · subst_vars; rfl
  · rfl

theorem run_storeVar_at {t : TypeId} {g off : Nat} {cur : Array Value} {e : TypeId} {v : Value} (hg : w.heap[g]? = some (.cells cur e (0, 0))) (hz : sizeIs P t v.cells.size = true) (hle : off + v.cells.size ≤ cur.size) (h1 : ∀ u ∈ v.cells.toList, u.oneCell' = true) :
    (storeVar t ⟨g, off, none⟩ v).run P w = .ok () (w.setRow g (cur.toList.take off ++ v.cells.toList ++ cur.toList.drop (off + v.cells.size)).toArray) := by
  have := run_storeCells_at P g off e v.cells.toList 0 cur w hg (by simpa using hle) h1
  simp only [Nat.add_zero, Array.length_toList] at this
  simp only [storeVar, Sem.run_bind, sizeIs_run hz, Result.andThen_ok, ne_eq, not_true_eq_false, if_false, this]

theorem splice_getD {cur : Array Value} {vs : Array Value} {off : Nat} (hle : off + vs.size ≤ cur.size) (k : Nat) :
    ((cur.toList.take off ++ vs.toList ++ cur.toList.drop (off + vs.size)).toArray).getD k undef = if off ≤ k ∧ k < off + vs.size then vs.getD (k - off) undef else cur.getD k undef := by
  simp only [Array.getD_eq_getD_getElem?, List.getElem?_toArray]
  by_cases hc : off ≤ k ∧ k < off + vs.size
  · rw [if_pos hc, List.getElem?_append_left (by simp; omega), List.getElem?_append_right (by simp; omega)]
    simp [Nat.min_eq_left (show off ≤ cur.size by omega)]
  · rw [if_neg hc]
    by_cases hlt : k < off
    · rw [List.getElem?_append_left (by simp; omega), List.getElem?_append_left (by simp; omega)]
      simp [List.getElem?_take, hlt]
    · rw [List.getElem?_append_right (by simp; omega)]
      simp only [List.length_append, List.length_take, Array.length_toList, List.getElem?_drop, Nat.min_eq_left (show off ≤ cur.size by omega), Array.getElem?_toList]
      congr 2; omega
theorem splice_size {cur : Array Value} {vs : Array Value} {off : Nat} (hle : off + vs.size ≤ cur.size) :
    ((cur.toList.take off ++ vs.toList ++ cur.toList.drop (off + vs.size)).toArray).size = cur.size := by
  simp; omega

theorem op_st {s : Nat} {sh : Sh} {x y : Opnd} (hc : chkA P o.op (.st s sh x y) = true) (h : opA P (.st s sh x y) σ K) (hr : Rel X σ m a w) : Gives P o a w (Post X σ a K) := by
  cases hop : o.op <;> rw [hop] at hc <;> simp only [chkA, Bool.false_eq_true, Bool.and_eq_true] at hc
  rename_i t x' y'
  obtain ⟨⟨hsh, hx⟩, hy⟩ := hc
  have hRx := chkO_sound hr hx
  have hRy := chkO_sound hr hy
  have hex : ∀ {B off : Nat} {w' : World}, a.eval x' = .pointer (some ⟨B, off, none⟩) → (storeVar t ⟨B, off, none⟩ (a.eval y')).run P w = .ok () w' → (execOp a.eval o).run P w = .ok .skip w' := fun e1 e2 => by
    simp [execOp, hop, e1, Instr.storeAt, Instr.sureAddr, e2]
  simp only [opA] at h
  split at h
  · rename_i s' off us hs' hus
    obtain ⟨rfl, hst, h⟩ := h
    rw [hs'] at hRx
    split at h <;> try (exact h.elim)
    rename_i cs hb
    obtain ⟨hle, h⟩ := h
    obtain ⟨hA, h1⟩ := cells_relA hRy hus hst
    obtain ⟨hl, c, e, hh, hz, hone, hcs⟩ := slot_var hr hb
    have hsz := chkSh_size hsh hus
    rw [← hA.1] at hsz
    have hle2 : off + (a.eval y').cells.size ≤ c.size := by rw [hA.1, hz]; exact hle
    have hrun := hex (ptr_val hRx hb) (run_storeVar_at hh hsz hle2 h1)
    have ht : Turn X σ m w s' (.var (cs.take off ++ us ++ cs.drop (off + us.length))) (m s') _ := turn_set (cs := (c.toList.take off ++ (a.eval y').cells.toList ++ c.toList.drop (off + (a.eval y').cells.size)).toArray) hr (.var cs _ hb rfl rfl) hl
    have hspl := RelA.splice (ok := X.ok m) (w := w) (b := σ.b) (m := m) ⟨hz, hcs⟩ hA hle (splice_size hle2) (fun k => by rw [splice_getD hle2, hA.1])
    refine gives_at (m' := upd m s' (m s')) (.inr ⟨hrun, rfl⟩) h (hr.turn ht (fun q => ⟨by simp [hb], by simp⟩) ?_) (.d (.v _))
    unfold SlotOK
    rw [upd_same, upd_same]
    refine ⟨hl, _, e, setRow_heap _ _ _ _ _ _ hh, hspl.1, fun i hi => ?_, fun i hi => ht.relC (hspl.2 i hi)⟩
    rw [splice_getD hle2]
    split
    · exact one_getD h1 (by omega)
    · exact hone i (by have := hspl.1; rw [splice_size hle2] at this; omega)
  · rename_i s' i j tot us hs' hus
    obtain ⟨rfl, hst, h⟩ := h
    rw [hs'] at hRx
    split at h <;> try (exact h.elim)
    rename_i esz els ds hb hds
    obtain ⟨ht0, hi, hle, h⟩ := h
    obtain ⟨hA, h1⟩ := cells_relA hRy hus hst
    obtain ⟨hv, hl, _⟩ := rptr_val hRx hb ht0
    rcases slot_row hr hb with ⟨hnl, _⟩ | ⟨_, c, e, hh, hz, hcap, hel, hone, hcs⟩
    · rw [hl] at hnl; cases hnl
    have hgd : els.getD i [] = els[i] := by simp [List.getD, hi]
    rw [hgd] at hle h
    have hlen := hel i hi
    have husds := toDs_get hds
    have hul : us.length = ds.length := by rw [husds]; simp
    have hsz := chkSh_size hsh hus
    rw [← hA.1] at hsz
    have hposs : (i + 1) * esz ≤ (m s').cap * esz := Nat.mul_le_mul_right _ (by omega)
    rw [Nat.add_mul] at hposs
    have hle2 : i * esz + j + (a.eval y').cells.size ≤ c.size := by rw [hA.1, hz]; omega
    have hrun := hex hv (run_storeVar_at hh hsz hle2 h1)
    have hlen3 : (els[i].take j ++ ds ++ els[i].drop (j + ds.length)).length = els[i].length := by simp; omega
    have ht : Turn X σ m w s' (.row esz (els.set i (els[i].take j ++ ds ++ els[i].drop (j + ds.length)))) (m s') _ :=
      turn_set (cs := (c.toList.take (i * esz + j) ++ (a.eval y').cells.toList ++ c.toList.drop (i * esz + j + (a.eval y').cells.size)).toArray) hr (.rowSet esz els _ hb rfl (by simp) rfl) hl
    refine gives_at (m' := upd m s' (m s')) (.inr ⟨hrun, rfl⟩) h (hr.turn ht (fun q => ⟨by simp [hb], by simp⟩) ?_) (.d (.v _))
    unfold SlotOK
    rw [upd_same, upd_same]
    refine .inr ⟨hl, _, e, setRow_heap _ _ _ _ _ _ hh, (splice_size hle2).trans hz, by simpa using hcap, fun i' hi' => ?_, fun k hk => ?_, fun i' j' hi' hj' => ht.relD ?_⟩
    · rw [List.getElem_set]; split
      · rw [hlen3, hlen]
      · exact hel i' (by simpa using hi')
    · rw [splice_getD hle2]
      split
      · exact one_getD h1 (by omega)
      · exact hone k (by simpa using hk)
    · have hi'' : i' < els.length := by simpa using hi'
      rw [splice_getD hle2]
      by_cases e1 : i = i'
      · subst e1
        have hjl : j' < esz := by simp [List.getElem_set] at hj'; omega
        by_cases hc2 : j ≤ j' ∧ j' < j + ds.length
        · rw [if_pos (by rw [hA.1, hul]; omega)]
          have hu := hA.2 (j' - j) (by omega)
          have e2 : us[j' - j]'(by omega) = .d (ds[j' - j]'(by omega)) := by simp [husds]
          rw [e2] at hu
          have := relC_d hu
          have e3 : (els.set i (els[i].take j ++ ds ++ els[i].drop (j + ds.length)))[i][j'] = ds[j' - j]'(by omega) := by
            simp only [List.getElem_set_self]
            rw [List.getElem_append_left (by simp; omega), List.getElem_append_right (by simp; omega)]
            congr 1; simp; omega
          rw [e3]
          have e4 : i * esz + j' - (i * esz + j) = j' - j := by omega
          rw [e4]; exact this
        · rw [if_neg (by rw [hA.1, hul]; omega)]
          have := hcs i j' hi (by omega)
          have e3 : (els.set i (els[i].take j ++ ds ++ els[i].drop (j + ds.length)))[i][j'] = els[i][j']'(by omega) := by
            simp only [List.getElem_set_self]
            by_cases hlt : j' < j
            · rw [List.getElem_append_left (by simp; omega), List.getElem_append_left (by simp; omega)]; simp
            · rw [List.getElem_append_right (by simp; omega)]
              simp only [List.getElem_drop]; congr 1; simp; omega
          rw [e3]; exact this
      · have hj'' : j' < (els[i']).length := by simpa [List.getElem_set, e1] using hj'
        have hjl := hel i' hi''
        have hne : ¬ (i * esz + j ≤ i' * esz + j' ∧ i' * esz + j' < i * esz + j + (a.eval y').cells.size) := by
          rw [hA.1, hul]
          rcases Nat.lt_or_gt_of_ne e1 with hlt | hlt
          · have : (i + 1) * esz ≤ i' * esz := Nat.mul_le_mul_right _ hlt
            rw [Nat.add_mul] at this; omega
          · have : (i' + 1) * esz ≤ i * esz := Nat.mul_le_mul_right _ hlt
            rw [Nat.add_mul] at this; omega
        rw [if_neg hne]
        have := hcs i' j' hi'' hj''
        simpa [List.getElem_set, e1] using this
  · exact h.elim

theorem op_alloc {s : Nat} {sh : Sh} {zs : List Z} (hc : chkA P o.op (.alloc s sh zs) = true) (h : opA P (.alloc s sh zs) σ K) (hr : Rel X σ m a w) : Gives P o a w (Post X σ a K) := by
  cases hop : o.op <;> rw [hop] at hc <;> simp only [chkA, Bool.false_eq_true] at hc
  rename_i t
  simp only [opA] at h
  split at h <;> try (exact h.elim)
  rename_i hb
  obtain ⟨i, z, hi, hz, hA⟩ := zero_rel (P := P) (w := w) (m := m) (ok := X.ok m) (b := σ.b) hc
  have hrun : (execOp a.eval o).run P w = .ok (.value (.pointer (some ⟨w.heap.size, 0, none⟩))) (w.alloc (.cells z.cells t)) := by
    simp [execOp, hop, Instr.alloc, zeroValue, run_typeInfo_some hi, hz, newVar, newRow]
  have ht : Turn X σ m w s (.var (zs.map zC)) ⟨true, w.heap.size, 0⟩ _ := turn_new (ob := .cells z.cells t) (.inl rfl) (.fresh hb) rfl
  refine gives_at (m' := upd m s ⟨true, w.heap.size, 0⟩) (.inl hrun) h (hr.turn ht (fun q => ⟨by simp [hb], by simp⟩) ?_) ?_
  · unfold SlotOK
    rw [upd_same, upd_same]
    exact ⟨rfl, _, t, heap_new _ _, hA.1, fun i hj => one_getD (zero_one hc hi hz) (by rw [hA.1]; exact hj), fun i hi => ht.relC (hA.2 i hi)⟩
  · have := RelC.ptr (ok := X.ok (upd m s ⟨true, w.heap.size, 0⟩)) (w := w.alloc (.cells z.cells t)) (b := upd σ.b s (.var (zs.map zC))) (m := upd m s ⟨true, w.heap.size, 0⟩) s 0 _ (upd_same _ _ _)
    rwa [upd_same] at this

theorem op_box {s : Nat} {sh : Sh} {x : Opnd} (hc : chkA P o.op (.box s sh x) = true) (h : opA P (.box s sh x) σ K) (hr : Rel X σ m a w) : Gives P o a w (Post X σ a K) := by
  cases hop : o.op <;> rw [hop] at hc <;> simp only [chkA, Bool.false_eq_true] at hc
  rename_i t x'
  have hR := chkO_sound hr hc
  simp only [opA] at h
  split at h <;> try (exact h.elim)
  rename_i us hb hus
  obtain ⟨hst, h⟩ := h
  obtain ⟨hA, h1⟩ := cells_relA hR hus hst
  have hrun : (execOp a.eval o).run P w = .ok (.value (.pointer (some ⟨w.heap.size, 0, none⟩))) (w.alloc (.cells (a.eval x').cells t)) := by
    simp [execOp, hop, Instr.box, newVar, newRow]
  have ht : Turn X σ m w s (.var us) ⟨true, w.heap.size, 0⟩ _ := turn_new (ob := .cells (a.eval x').cells t) (.inl rfl) (.fresh hb) rfl
  refine gives_at (m' := upd m s ⟨true, w.heap.size, 0⟩) (.inl hrun) h (hr.turn ht (fun q => ⟨by simp [hb], by simp⟩) ?_) ?_
  · unfold SlotOK
    rw [upd_same, upd_same]
    exact ⟨rfl, _, t, heap_new _ _, hA.1, fun i hj => one_getD h1 (by rw [hA.1]; exact hj), fun i hi => ht.relC (hA.2 i hi)⟩
  · have := RelC.ptr (ok := X.ok (upd m s ⟨true, w.heap.size, 0⟩)) (w := w.alloc (.cells (a.eval x').cells t)) (b := upd σ.b s (.var us)) (m := upd m s ⟨true, w.heap.size, 0⟩) s 0 _ (upd_same _ _ _)
    rwa [upd_same] at this

theorem op_nilrow {s esz : Nat} (hc : chkA P o.op (.nilrow s esz) = true) (h : opA P (.nilrow s esz) σ K) (hr : Rel X σ m a w) : Gives P o a w (Post X σ a K) := by
  have hrun : (execOp a.eval o).run P w = .ok (.value (.slice none 0 0)) w := by
    unfold chkA at hc
    split at hc <;> first | (rename_i e1 e2; cases e1; simp [execOp, e2, Act.eval]; done) | (rename_i e1 e2; cases e1; done) | (rename_i e1; cases e1; done) | skip
    all_goals first | (cases hc; done) | skip
    all_goals (rename_i e1 e2; rw [e2] at *; simp [execOp, Act.eval] at *; done)
  simp only [opA] at h
  split at h <;> try (exact h.elim)
  rename_i hb
  have hnl : (m s).live = false := by have := hr.slots s; unfold SlotOK at this; rw [hb] at this; exact this
  have ht : Turn X σ m w s (.row esz []) ⟨false, 0, 0⟩ w := ⟨rfl, rfl, rfl, Nat.le_refl _, fun _ _ _ => rfl, .fresh hb, fun h => by cases h⟩
  refine gives_at (m' := upd m s ⟨false, 0, 0⟩) (.inl hrun) h (hr.turn ht (fun q => ⟨by simp [hb], by simp⟩) ?_) ?_
  · unfold SlotOK
    rw [upd_same, upd_same]
    exact .inl ⟨rfl, rfl⟩
  · exact .rowNil s esz (upd_same _ _ _) (by rw [upd_same])

end
end Go.AM

/- The abstract machine, part 10: slice literals, make, append. No condition. -/
set_option linter.unusedVariables false
set_option linter.unusedSimpArgs false
namespace Go.AM
open Go
section
variable {P : Program} {X : Ctx} {σ : St} {m : Nat → Loc} {a : Act} {w : World} {o : Oper} {K : AC → (Nat → ABlk) → Prop}

theorem foot_alloc (C : Nat → Prop) (w : World) (ob : Obj) : Foot C w (w.alloc ob) := ⟨rfl, rfl, rfl, by simp, fun k hk _ => Go.RowKit.Below.heap_alloc _ _ _ hk⟩
theorem foot_drew (C : Nat → Prop) (w : World) : Foot C w w.drew := ⟨rfl, rfl, rfl, Nat.le_refl _, fun _ _ _ => rfl⟩

/-- A block that no slot has, laid since the frame began, is 'ok'. -/
theorem ok_new (hr : Rel X σ m a w) : X.ok m w.heap.size := ⟨.inr hr.foot.size, fun s hl e => by have := hr.blkLt hl; omega⟩

theorem fill_els (hr : Rel X σ m a w) {e : TypeId} {sh : Sh} {esz : Nat} (hsh : chkSh P e sh = true) (hsz : sizeIs P e esz = true) :
    ∀ (ps : List (Nat × Operand)) (xs : List Opnd) (n : Nat) (es : List (List D)) (cs : Array Value), chkEls P n ps xs = true → elsC σ.b σ.t sh xs = some es → (n + xs.length) * esz ≤ cs.size →
      ∃ cs', Instr.fill (fun i => some (i * esz, esz)) cs (ps.map fun x => (x.1, a.eval x.2)) = some cs' ∧ cs'.size = cs.size ∧ es.length = xs.length ∧ (∀ k, k < n * esz → cs'.getD k undef = cs.getD k undef) ∧
        (∀ i (hi : i < es.length), (es[i]).length = esz) ∧ (∀ k, n * esz ≤ k → k < (n + es.length) * esz → (cs'.getD k undef).oneCell' = true) ∧ ∀ i j (hi : i < es.length) (hj : j < (es[i]).length), RelD (X.ok m) w ((es[i])[j]) (cs'.getD ((n + i) * esz + j) undef)
  | [], [], n, es, cs, _, hE, _ => by simp [elsC] at hE; subst hE; exact ⟨cs, rfl, rfl, rfl, fun _ _ => rfl, fun i hi => by simp at hi, fun k h1 h2 => by simp at h2; omega, fun i j hi => by simp at hi⟩
  | [], _ :: _, _, _, _, h, _, _ => by simp [chkEls] at h
  | _ :: _, [], _, _, _, h, _, _ => by simp [chkEls] at h
  | (i0, x) :: ps, y :: xs, n, es, cs, hc, hE, hle => by
    simp only [chkEls, Bool.and_eq_true, beq_iff_eq] at hc
    obtain ⟨⟨rfl, hx⟩, hrest⟩ := hc
    simp only [elsC] at hE
    split at hE <;> try (cases hE; done)
    rename_i us hus
    split at hE <;> try (cases hE; done)
    rename_i hst
    split at hE <;> try (cases hE; done)
    rename_i ds es' hds hes'
    cases hE
    have hR := chkO_sound hr hx
    obtain ⟨hA, hAone⟩ := cells_relA hR hus hst
    have hul : us.length = esz := by
      have h1 := chkSh_size hsh hus
      unfold sizeIs at h1 hsz
      split at h1 <;> try (cases h1; done)
      rename_i i hi; rw [hi] at hsz; simp at h1 hsz; omega
    have hdl : ds.length = esz := by have := toDs_get hds; have := congrArg List.length this; simp at this; omega
    have hvz : (a.eval x).cells.size = esz := hA.1.trans hul
    simp only [List.length_cons] at hle
    have hle1 : i0 * esz + esz ≤ cs.size := by have : (i0 + 1) * esz ≤ (i0 + (xs.length + 1)) * esz := Nat.mul_le_mul_right _ (by omega); rw [Nat.add_mul] at this; omega
    have hz1 := foldSet_size (i0 * esz) (a.eval x).cells.toList 0 cs
    obtain ⟨cs', h1, h2, h3, h4, h5, h5', h6⟩ := fill_els hr hsh hsz ps xs (i0 + 1) es' (((a.eval x).cells.toList.zipIdx 0).foldl (fun cs (x : Value × Nat) => cs.setIfInBounds (i0 * esz + x.2) x.1) cs) hrest hes' (by rw [hz1]; rw [show i0 + 1 + xs.length = i0 + (xs.length + 1) by omega]; exact hle)
    refine ⟨cs', ?_, h2.trans hz1, by simp [h3], fun k hk => ?_, fun i hi => ?_, fun k hk1 hk2 => ?_, fun i j hi hj => ?_⟩
    · simp only [List.map_cons, Instr.fill]
      rw [if_neg (by simp [hvz]; omega)]
      rw [← Array.foldl_toList, Array.toList_zipIdx]
      exact h1
    · rw [h4 k (by rw [Nat.add_mul]; omega), foldSet_getD _ _ _ _ _ (by simpa [hvz] using hle1), if_neg (by simp; omega)]
    · cases i with
      | zero => exact hdl
      | succ i => exact h5 i (by simpa using hi)
    · by_cases hlt : k < (i0 + 1) * esz
      · rw [h4 k hlt, foldSet_getD _ _ _ _ _ (by simpa [hvz] using hle1), if_pos (by rw [Nat.add_mul] at hlt; simp [hvz]; omega)]
        have := one_getD hAone (k := k - i0 * esz) (by rw [Nat.add_mul] at hlt; omega)
        simpa [List.getD, Array.getD_eq_getD_getElem?] using this
      · exact h5' k (by omega) (by rw [show i0 + 1 + es'.length = i0 + (ds :: es').length by simp; omega]; exact hk2)
    · cases i with
      | zero =>
        have hj' : j < ds.length := hj
        have e0 : cs'.getD ((i0 + 0) * esz + j) undef = (a.eval x).cells.getD j undef := by
          rw [Nat.add_zero, h4 _ (by rw [Nat.add_mul]; omega), foldSet_getD _ _ _ _ _ (by simpa [hvz] using hle1), if_pos (by simp [hvz]; omega)]
          simp [List.getD, Array.getD_eq_getD_getElem?]
        rw [e0]
        have hu := hA.2 j (by omega)
        have e2 : us[j]'(by omega) = .d (ds[j]) := by simp [toDs_get hds]
        rw [e2] at hu
        exact relC_d hu
      | succ i =>
        have := h6 i j (by simpa using hi) hj
        rwa [show i0 + 1 + i = i0 + (i + 1) by omega] at this

theorem op_bsl {esz : Nat} {sh : Sh} {xs : List Opnd} (hc : chkA P o.op (.bsl esz sh xs) = true) (h : opA P (.bsl esz sh xs) σ K) (hr : Rel X σ m a w) : Gives P o a w (Post X σ a K) := by
  cases hop : o.op <;> rw [hop] at hc <;> simp only [chkA, Bool.false_eq_true, Bool.and_eq_true, beq_iff_eq, decide_eq_true_eq] at hc
  rename_i t n ps
  obtain ⟨⟨⟨hf, rfl⟩, hsm⟩, hE⟩ := hc
  split at hf <;> try (cases hf; done)
  rename_i e hu
  simp only [Bool.and_eq_true] at hf
  obtain ⟨⟨hsz, hsh⟩, hz⟩ := hf
  obtain ⟨z, hz⟩ := Option.isSome_iff_exists.1 hz
  simp only [opA] at h
  split at h <;> try (exact h.elim)
  rename_i es hes
  obtain ⟨_, h⟩ := h
  obtain ⟨ie, hie, hiz⟩ : ∃ ie, P.info? e = some ie ∧ ie.zero = some z := by
    unfold zeroOf at hz
    cases hi : P.info? e with
    | none => simp [hi] at hz
    | some i => exact ⟨i, rfl, by simpa [hi] using hz⟩
  have hisz : ie.size = esz := by simpa [sizeIs, hie] using hsz
  obtain ⟨cs', h1, h2, h3, _, h5, h5', h6⟩ := fill_els (P := P) hr hsh hsz ps.toList xs 0 es ((Array.range (xs.length * esz)).map (z.cells[· % z.cells.size]!)) hE hes (by simp)
  have hmap : (ps.map fun (x : Nat × Operand) => (x.1, a.eval x.2)).toList = ps.toList.map fun x => (x.1, a.eval x.2) := by simp
  have hrun : (execOp a.eval o).run P w = .ok (.value (.slice (some ⟨w.heap.size, 0, none⟩) xs.length xs.length)) (w.alloc (.cells cs' e)) := by
    by_cases hpos : xs.length * ie.size = 0
    · have hcs : cs' = #[] := by
        have : cs'.size = 0 := by rw [h2]; simp; rw [← hisz]; exact hpos
        exact Array.eq_empty_of_size_eq_zero this
      have hr0 : (Array.range (xs.length * esz)).map (z.cells[· % z.cells.size]!) = #[] := by rw [← hisz, hpos]; simp
      rw [hr0] at h1
      have h1' := h1
      rw [← hmap] at h1'
      simp only [execOp, hop, Instr.buildSlice, Sem.run_bind, run_underlying' hu, Result.andThen_ok, sizeOf, run_typeInfo_some hie, Sem.run_pure, hpos]
      have hne : ¬ (0 > 2 ^ 24) := by omega
      have hr1 : (Array.range 0).map ((#[] : Array Value)[· % (#[] : Array Value).size]!) = #[] := by simp
      have h1'' : Instr.fill (fun i => some (i * ie.size, ie.size)) ((Array.range 0).map ((#[] : Array Value)[· % (#[] : Array Value).size]!)) ((ps.map fun x => (x.1, a.eval x.2)).toList) = some cs' := by rw [hr1, hisz]; exact h1'
      have hrg : Array.range 0 = #[] := by simp [Array.range]
      rw [← hisz] at h1
      simp [hrg, h1, newRow, zeroValue, run_typeInfo_some hie, hiz]
    · have := run_buildSlice (P := P) w t e xs.length (ps.map fun (i, x) => (i, a.eval x)) cs' ie z hu hie hiz (by rw [hisz]; omega) hpos (by rw [hisz]; rw [← hmap] at h1; exact h1)
      simp only [execOp, hop, Sem.run_bind, this]; rfl
  have hfoot := foot_alloc (fun _ => False) w (.cells cs' e)
  refine gives_at (m' := m) (.inl hrun) h (hr.grow hfoot) (.d ?_)
  have hmono : ∀ {x : D} {v : Value}, RelD (X.ok m) w x v → RelD (X.ok m) (w.alloc (.cells cs' e)) x v := fun hx => hx.mono hfoot.size (fun b o' u _ hu => by
    rw [cell_same (w := w)]
    · exact hu
    · exact hfoot.block b (cell_lt hu) (fun h => h)) (fun _ _ h => h)
  rw [← h3]
  refine .list es w.heap.size 0 es.length esz (fun i j => cs'.getD (i * esz + j) undef) (ok_new hr) (by simp) (Nat.le_refl _) h5 (fun i j hi hj => ?_) (fun i j hi hj => h5' _ (by simp) (by rw [Nat.zero_add]; exact pos_lt hi hj)) (fun i j hi hj => hmono (by simpa using h6 i j hi hj))
  rw [Nat.zero_add]
  refine cell_of (heap_new w _) ?_
  rw [h2]; simp; rw [← h3]; exact pos_lt hi hj

theorem op_bslr {s esz : Nat} {sh : Sh} {xs : List Opnd} (hc : chkA P o.op (.bslr s esz sh xs) = true) (h : opA P (.bslr s esz sh xs) σ K) (hr : Rel X σ m a w) : Gives P o a w (Post X σ a K) := by
  cases hop : o.op <;> rw [hop] at hc <;> simp only [chkA, Bool.false_eq_true, Bool.and_eq_true, beq_iff_eq, decide_eq_true_eq] at hc
  rename_i t n ps
  obtain ⟨⟨⟨hf, rfl⟩, hsm⟩, hE⟩ := hc
  split at hf <;> try (cases hf; done)
  rename_i e hu
  simp only [Bool.and_eq_true] at hf
  obtain ⟨⟨hsz, hsh⟩, hz⟩ := hf
  obtain ⟨z, hz⟩ := Option.isSome_iff_exists.1 hz
  simp only [opA] at h
  split at h <;> try (exact h.elim)
  rename_i es hes hb
  obtain ⟨_, h⟩ := h
  obtain ⟨ie, hie, hiz⟩ : ∃ ie, P.info? e = some ie ∧ ie.zero = some z := by
    unfold zeroOf at hz
    cases hi : P.info? e with
    | none => simp [hi] at hz
    | some i => exact ⟨i, rfl, by simpa [hi] using hz⟩
  have hisz : ie.size = esz := by simpa [sizeIs, hie] using hsz
  obtain ⟨cs', h1, h2, h3, _, h5, h5', h6⟩ := fill_els (P := P) hr hsh hsz ps.toList xs 0 es ((Array.range (xs.length * esz)).map (z.cells[· % z.cells.size]!)) hE hes (by simp)
  have hmap : (ps.map fun (x : Nat × Operand) => (x.1, a.eval x.2)).toList = ps.toList.map fun x => (x.1, a.eval x.2) := by simp
  have hrun : (execOp a.eval o).run P w = .ok (.value (.slice (some ⟨w.heap.size, 0, none⟩) xs.length xs.length)) (w.alloc (.cells cs' e)) := by
    by_cases hpos : xs.length * ie.size = 0
    · have hcs : cs' = #[] := by
        have : cs'.size = 0 := by rw [h2]; simp; rw [← hisz]; exact hpos
        exact Array.eq_empty_of_size_eq_zero this
      have hr0 : (Array.range (xs.length * esz)).map (z.cells[· % z.cells.size]!) = #[] := by rw [← hisz, hpos]; simp
      rw [hr0] at h1
      have h1' := h1
      rw [← hmap] at h1'
      simp only [execOp, hop, Instr.buildSlice, Sem.run_bind, run_underlying' hu, Result.andThen_ok, sizeOf, run_typeInfo_some hie, Sem.run_pure, hpos]
      have hne : ¬ (0 > 2 ^ 24) := by omega
      have hr1 : (Array.range 0).map ((#[] : Array Value)[· % (#[] : Array Value).size]!) = #[] := by simp
      have h1'' : Instr.fill (fun i => some (i * ie.size, ie.size)) ((Array.range 0).map ((#[] : Array Value)[· % (#[] : Array Value).size]!)) ((ps.map fun x => (x.1, a.eval x.2)).toList) = some cs' := by rw [hr1, hisz]; exact h1'
      have hrg : Array.range 0 = #[] := by simp [Array.range]
      rw [← hisz] at h1
      simp [hrg, h1, newRow, zeroValue, run_typeInfo_some hie, hiz]
    · have := run_buildSlice (P := P) w t e xs.length (ps.map fun (i, x) => (i, a.eval x)) cs' ie z hu hie hiz (by rw [hisz]; omega) hpos (by rw [hisz]; rw [← hmap] at h1; exact h1)
      simp only [execOp, hop, Sem.run_bind, this]; rfl
  have ht : Turn X σ m w s (.row esz es) ⟨true, w.heap.size, es.length⟩ _ := turn_new (ob := .cells cs' e) (.inl rfl) (.fresh hb) rfl
  rw [← h3] at hrun
  refine gives_at (m' := upd m s ⟨true, w.heap.size, es.length⟩) (.inl hrun) h (hr.turn ht (fun q => ⟨by simp [hb], by simp⟩) ?_) ?_
  · unfold SlotOK
    rw [upd_same, upd_same]
    refine .inr ⟨rfl, cs', e, heap_new _ _, by rw [h2]; simp [h3], Nat.le_refl _, h5, fun k hk => h5' k (by simp) (by simpa using hk), fun i j hi hj => ht.relD (by simpa using h6 i j hi hj)⟩
  · have := RelC.row (ok := X.ok (upd m s ⟨true, w.heap.size, es.length⟩)) (w := w.alloc (.cells cs' e)) (b := upd σ.b s (.row esz es)) (m := upd m s ⟨true, w.heap.size, es.length⟩) s 0 es.length esz es (upd_same _ _ _) (by rw [upd_same]) (by simp)
    rw [upd_same] at this
    simpa using this

theorem op_boxd {sh : Sh} {x : Opnd} (hc : chkA P o.op (.boxd sh x) = true) (h : opA P (.boxd sh x) σ K) (hr : Rel X σ m a w) : Gives P o a w (Post X σ a K) := by
  cases hop : o.op <;> rw [hop] at hc <;> simp only [chkA, Bool.false_eq_true] at hc
  rename_i t x'
  have hR := chkO_sound hr hc
  simp only [opA] at h
  split at h <;> try (exact h.elim)
  rename_i us hus
  split at h <;> try (exact h.elim)
  rename_i ds hds
  obtain ⟨hst, h⟩ := h
  have hud := toDs_get hds
  have hst' : us.all (standsB σ.b) = true := by
    rw [List.all_eq_true] at hst ⊢
    intro c hc
    rw [hud] at hc
    obtain ⟨y, hy, rfl⟩ := List.mem_map.1 hc
    exact hst y hy
  obtain ⟨hA, h1⟩ := cells_relA hR hus hst'
  have hrun : (execOp a.eval o).run P w = .ok (.value (.pointer (some ⟨w.heap.size, 0, none⟩))) (w.alloc (.cells (a.eval x').cells t)) := by
    simp [execOp, hop, Instr.box, newVar, newRow]
  have hfoot := foot_alloc (fun _ => False) w (.cells (a.eval x').cells t)
  have hlen : us.length = ds.length := by rw [hud]; simp
  refine gives_at (m' := m) (.inl hrun) h (hr.grow hfoot) (.d ?_)
  refine .fptr ds w.heap.size 0 (fun j => (a.eval x').cells.getD j undef) (ok_new hr) (by simp) (fun j hj => ?_) (fun j hj => one_getD h1 (by rw [hA.1]; omega)) (fun j hj => ?_)
  · rw [Nat.zero_add]; exact cell_of (heap_new w _) (by rw [hA.1]; omega)
  · have := hA.2 j (by omega)
    have e2 : us[j]'(by omega) = .d (ds[j]) := by simp [hud]
    rw [e2] at this
    exact (relC_d this).mono hfoot.size (fun b o' u _ hu => by
      rw [cell_same (w := w)]
      · exact hu
      · exact hfoot.block b (cell_lt hu) (fun h => h)) (fun _ _ h => h)

theorem op_mks {s esz : Nat} {zs : List Z} {x : Opnd} (hc : chkA P o.op (.mks s esz zs x) = true) (h : opA P (.mks s esz zs x) σ K) (hr : Rel X σ m a w) : Gives P o a w (Post X σ a K) := by
  cases hop : o.op <;> rw [hop] at hc <;> simp only [chkA, Bool.false_eq_true, Bool.and_eq_true] at hc
  rename_i t l c
  obtain ⟨⟨hf, hl⟩, hcc⟩ := hc
  split at hf <;> try (cases hf; done)
  rename_i e hu
  simp only [Bool.and_eq_true, beq_iff_eq] at hf
  obtain ⟨⟨⟨hsz, hby⟩, hz⟩, hzl⟩ := hf
  simp only [opA] at h
  split at h <;> try (exact h.elim)
  rename_i n hn hb
  obtain ⟨h0, hmost, h⟩ := h
  have el := relC_v (hn ▸ chkO_sound hr hl)
  have ec := relC_v (hn ▸ chkO_sound hr hcc)
  obtain ⟨i, z, hi, hiz, hA⟩ := zero_rel (P := P) (w := w) (m := m) (ok := X.ok m) (b := σ.b) hz
  have hisz : i.size = esz := by simpa [sizeIs, hi] using hsz
  have hbytes : i.bytes ≤ 4096 := by simp [bytesSmall, hi] at hby; exact hby.1
  have hzz : z.cells.size = esz := by rw [hA.1]; simpa using hzl
  have hmost' : n ≤ 4294967296 := by simpa [most] using hmost
  have hwrap : IntKind.i64.wrap n = n := IntWalk.i64_in n ⟨by omega, by omega⟩
  have hmul : (i.bytes : Int) * n ≤ 281474976710656 := by
    have h1 : (i.bytes : Int) * n ≤ 4096 * n := Int.mul_le_mul_of_nonneg_right (by omega) h0
    omega
  obtain ⟨cs, hcs⟩ : ∃ cs, cs = (Array.range (n.toNat * esz)).map (z.cells[· % z.cells.size]!) := ⟨_, rfl⟩
  have hrun : (execOp a.eval o).run P w = .ok (.value (.slice (some ⟨w.heap.size, 0, none⟩) n.toNat n.toNat)) (w.alloc (.cells cs e)) := by
    have hnb : ¬ (281474976710656 < (i.bytes : Int) * n) := by omega
    have hnl : ¬ n < 0 := by omega
    by_cases hz0 : n.toNat * esz = 0
    · have : cs = #[] := by rw [hcs, hz0]; simp
      subst this
      have hrg : Array.range 0 = #[] := by simp [Array.range]
      simp [hrg, execOp, hop, el, ec, Instr.makeSlice, run_underlying' hu, asInt, asIntOf, run_typeInfo_some hi, hwrap, hnb, hnl, sizeOf, hisz, hz0, newRow]
    · simp [execOp, hop, el, ec, Instr.makeSlice, run_underlying' hu, asInt, asIntOf, run_typeInfo_some hi, hwrap, hnb, hnl, sizeOf, hisz, hz0, newRow, zeroValue, hiz, hcs]
  have ht : Turn X σ m w s (.row esz (List.replicate n.toNat (zs.map fun z => .v z.val))) ⟨true, w.heap.size, n.toNat⟩ _ := turn_new (ob := .cells cs e) (.inl rfl) (.fresh hb) rfl
  refine gives_at (m' := upd m s ⟨true, w.heap.size, n.toNat⟩) (.inl hrun) h (hr.turn ht (fun q => ⟨by simp [hb], by simp⟩) ?_) ?_
  · unfold SlotOK
    rw [upd_same, upd_same]
    refine .inr ⟨rfl, _, e, heap_new _ _, by simp [hcs], by simp, fun i hi => by simpa using hzl, fun k hk => ?_, fun i j hi hj => ?_⟩
    · have hk' : k < n.toNat * esz := by simpa using hk
      have hpos : 0 < esz := by rcases Nat.eq_zero_or_pos esz with h | h; · subst h; simp at hk'
                                · exact h
      have e1 : cs.getD k undef = z.cells.getD (k % z.cells.size) undef := by
        have hlt : k % z.cells.size < z.cells.size := Nat.mod_lt _ (by omega)
        simp [hcs, Array.getD, hk', hlt]
      rw [e1]; exact one_getD (zero_one hz hi hiz) (Nat.mod_lt _ (by omega))
    have hi' : i < n.toNat := by simpa using hi
    have hj' : j < zs.length := by simpa using hj
    have e1 : cs.getD (i * esz + j) undef = z.cells.getD j undef := by
      have hlt := pos_lt hi' (show j < esz by omega)
      have hmod : (i * esz + j) % z.cells.size = j := by rw [hzz, Nat.add_comm, Nat.add_mul_mod_self_right, Nat.mod_eq_of_lt (by omega)]
      simp [hcs, Array.getD, hlt, hmod, show j < z.cells.size by omega]
    rw [e1]
    have := hA.2 j (by simpa using hj')
    simp only [List.getElem_replicate, List.getElem_map] at this ⊢
    exact ht.relD (relC_d this)
  · have := RelC.row (ok := X.ok (upd m s ⟨true, w.heap.size, n.toNat⟩)) (w := w.alloc (.cells cs e)) (b := upd σ.b s (.row esz (List.replicate n.toNat (zs.map fun z => .v z.val)))) (m := upd m s ⟨true, w.heap.size, n.toNat⟩) s 0 n.toNat esz _ (upd_same _ _ _) (by rw [upd_same]) (by simp)
    rw [upd_same] at this
    simpa using this

theorem op_mkv {s : Nat} {z0 : Z} {x : Opnd} (hc : chkA P o.op (.mkv s z0 x) = true) (h : opA P (.mkv s z0 x) σ K) (hr : Rel X σ m a w) : Gives P o a w (Post X σ a K) := by
  cases hop : o.op <;> rw [hop] at hc <;> simp only [chkA, Bool.false_eq_true, Bool.and_eq_true] at hc
  rename_i t l c
  obtain ⟨⟨hf, hl⟩, hcc⟩ := hc
  split at hf <;> try (cases hf; done)
  rename_i e hu
  simp only [Bool.and_eq_true, beq_iff_eq] at hf
  obtain ⟨⟨hsz, hby⟩, hz⟩ := hf
  have hzl : ([z0] : List Z).length = 1 := rfl
  obtain ⟨esz, hesz⟩ : ∃ esz : Nat, esz = 1 := ⟨1, rfl⟩
  rw [← hesz] at hsz hzl
  simp only [opA] at h
  split at h <;> try (exact h.elim)
  rename_i n hn hb
  obtain ⟨h0, hmost, h⟩ := h
  have el := relC_v (hn ▸ chkO_sound hr hl)
  have ec := relC_v (hn ▸ chkO_sound hr hcc)
  obtain ⟨i, z, hi', hiz, hA⟩ := zero_rel (P := P) (w := w) (m := m) (ok := X.ok m) (b := σ.b) hz
  have hisz : i.size = esz := by simpa [sizeIs, hi'] using hsz
  have hbytes : i.bytes ≤ 4096 := by simp [bytesSmall, hi'] at hby; exact hby.1
  have hzz : z.cells.size = esz := by rw [hA.1]; simpa using hzl
  have hmost' : n ≤ 4294967296 := by simpa [most] using hmost
  have hwrap : IntKind.i64.wrap n = n := IntWalk.i64_in n ⟨by omega, by omega⟩
  have hmul : (i.bytes : Int) * n ≤ 281474976710656 := by
    have h1 : (i.bytes : Int) * n ≤ 4096 * n := Int.mul_le_mul_of_nonneg_right (by omega) h0
    omega
  obtain ⟨cs, hcs⟩ : ∃ cs, cs = (Array.range (n.toNat * esz)).map (z.cells[· % z.cells.size]!) := ⟨_, rfl⟩
  have hrun : (execOp a.eval o).run P w = .ok (.value (.slice (some ⟨w.heap.size, 0, none⟩) n.toNat n.toNat)) (w.alloc (.cells cs e)) := by
    have hnb : ¬ (281474976710656 < (i.bytes : Int) * n) := by omega
    have hnl : ¬ n < 0 := by omega
    by_cases hz0 : n.toNat * esz = 0
    · have : cs = #[] := by rw [hcs, hz0]; simp
      subst this
      have hrg : Array.range 0 = #[] := by simp [Array.range]
      simp [hrg, execOp, hop, el, ec, Instr.makeSlice, run_underlying' hu, asInt, asIntOf, run_typeInfo_some hi', hwrap, hnb, hnl, sizeOf, hisz, hz0, newRow]
    · simp [execOp, hop, el, ec, Instr.makeSlice, run_underlying' hu, asInt, asIntOf, run_typeInfo_some hi', hwrap, hnb, hnl, sizeOf, hisz, hz0, newRow, zeroValue, hiz, hcs]
  have ht : Turn X σ m w s (.var (List.replicate n.toNat (zC z0))) ⟨true, w.heap.size, n.toNat⟩ _ := turn_new (ob := .cells cs e) (.inl rfl) (.fresh hb) rfl
  have hcz : cs.size = n.toNat := by simp [hcs, hesz]
  have hz1 : z.cells.size = 1 := by omega
  have hcell : ∀ i, i < n.toNat → cs.getD i undef = z.cells.getD 0 undef := fun i hi => by
    have hmod : i % 1 = 0 := by omega
    simp [hcs, Array.getD, hesz, hi, hz1, hmod]
  refine gives_at (m' := upd m s ⟨true, w.heap.size, n.toNat⟩) (.inl hrun) h (hr.turn ht (fun q => ⟨by simp [hb], by simp⟩) ?_) ?_
  · unfold SlotOK
    rw [upd_same, upd_same]
    refine ⟨rfl, cs, e, heap_new _ _, by simp [hcz], fun i hi => ?_, fun i hi => ?_⟩
    · rw [hcell i (by simpa using hi)]
      exact one_getD (zero_one hz hi' hiz) (by omega)
    · rw [hcell i (by simpa using hi)]
      have := hA.2 0 (by simp)
      simp only [List.getElem_replicate]
      exact ht.relC (by simpa using this)
  · have := RelC.vs (ok := X.ok (upd m s ⟨true, w.heap.size, n.toNat⟩)) (w := w.alloc (.cells cs e)) (b := upd σ.b s (.var (List.replicate n.toNat (zC z0)))) (m := upd m s ⟨true, w.heap.size, n.toNat⟩) s 0 n.toNat n.toNat _ (upd_same _ _ _) (Nat.le_refl _)
    rw [upd_same] at this
    exact this

end
end Go.AM

/- The abstract machine, part 11: append. No condition. -/
set_option linter.unusedVariables false
set_option linter.unusedSimpArgs false
namespace Go.AM
open Go
section
variable {P : Program} {X : Ctx} {σ : St} {m : Nat → Loc} {a : Act} {w : World} {o : Oper} {K : AC → (Nat → ABlk) → Prop}

theorem run_app_room {t u e e2 ty : TypeId} {i : TypeInfo} (hu : P.underlying t = some (.slice e)) (huu : P.underlying u = some (.slice e2)) (hi : P.info? e = some i)
    {base xb : Option Addr} {sLen sCap n xc : Nat} {news : Array Value} (hn : (Builtin.firstCells i.size n (.slice xb n xc)).run P w = .ok news w) (hroom : sLen + n ≤ sCap) :
    (Builtin.append_ #[t, u] ty #[.slice base sLen sCap, .slice xb n xc]).run P w =
      (match base with
      | some b => (storeCells (b.add (sLen * i.size)) news.toList).run P w
      | none => .ok () w).andThen fun _ w' => .ok (.slice base (sLen + n) sCap) w' := by
  cases base with
  | none => simp [Builtin.append_, run_underlying' hu, run_underlying' huu, sizeOf, run_typeInfo_some hi, Builtin.lenOf, hroom, hn]
  | some b => simp [Builtin.append_, run_underlying' hu, run_underlying' huu, sizeOf, run_typeInfo_some hi, Builtin.lenOf, hroom, hn]

theorem run_app_grow {t u e e2 ty : TypeId} {i : TypeInfo} {z : Value} (hu : P.underlying t = some (.slice e)) (huu : P.underlying u = some (.slice e2)) (hi : P.info? e = some i) (hz : i.zero = some z) (hby : i.bytes ≤ 4096)
    {base xb : Option Addr} {sLen sCap n xc : Nat} {olds news : Array Value} (ho : (Builtin.firstCells i.size sLen (.slice base sLen sCap)).run P w.drew = .ok olds w.drew)
    (hn : (Builtin.firstCells i.size n (.slice xb n xc)).run P w.drew = .ok news w.drew) (hroom : sCap < sLen + n) (hmost : sLen + n ≤ most) :
    ∃ cap', sLen + n ≤ cap' ∧ (Builtin.append_ #[t, u] ty #[.slice base sLen sCap, .slice xb n xc]).run P w =
      .ok (.slice (some ⟨w.heap.size, 0, none⟩) (sLen + n) cap') (w.drew.alloc (.cells (olds ++ news ++ Builtin.zeroCells z.cells (cap' - (sLen + n))) e)) := by
  have hm : sLen + n ≤ 4294967296 := hmost
  have hn' : ¬ (sLen + n ≤ sCap) := by omega
  have h63' : ¬ (9223372036854775807 < ((sLen : Int) + (n : Int))) := by omega
  have hnc := nextslicecap_le hroom
  have h48' : ¬ (281474976710656 < Builtin.nextslicecap (sLen + n) sCap * i.bytes) := by
    have h1 : Builtin.nextslicecap (sLen + n) sCap * i.bytes ≤ (2 * (sLen + n)) * 4096 := Nat.mul_le_mul hnc hby
    omega
  refine ⟨grownCap w (sLen + n) sCap e, by simp only [grownCap, Question.cut]; omega, ?_⟩
  simp [Builtin.append_, run_underlying' hu, run_underlying' huu, sizeOf, run_typeInfo_some hi, zeroValue, hz, Builtin.lenOf, hn', h63', h48', Question.forced, hn, ho, newRow, grownCap]

/-- A value whose cells can be read as the elements of a slice. -/
structure Reads (P : Program) (ok : Nat → Prop) (w : World) (esz : Nat) (v : Value) (es : List (List D)) (cells : Array Value) : Prop where
  ex : ∃ b cap, v = .slice b es.length cap
  size : cells.size = es.length * esz
  lens : ∀ i (hi : i < es.length), (es[i]).length = esz
  rel : ∀ i j (hi : i < es.length) (hj : j < (es[i]).length), RelD ok w ((es[i])[j]) (cells.getD (i * esz + j) undef)
  one : ∀ k, k < es.length * esz → (cells.getD k undef).oneCell' = true
  first : ∀ w' : World, (∀ k, k < w.heap.size → w'.heap[k]? = w.heap[k]?) → (Builtin.firstCells esz es.length v).run P w' = .ok cells w'

theorem getD_rangeN {n : Nat} {f : Nat → Value} {j : Nat} (hj : j < n) : (((List.range n).map f).toArray).getD j undef = f j := by
  simp [Array.getD, hj]

theorem reads_cells {ok : Nat → Prop} {esz : Nat} {es : List (List D)} {B off cap : Nat} (hB : B < w.heap.size) (hl : ∀ i (hi : i < es.length), (es[i]).length = esz) {f : Nat → Nat → Value}
    (hc : ∀ i j, i < es.length → j < esz → w.cell? ⟨B, off + (i * esz + j), none⟩ = some (f i j)) (h1 : ∀ i j, i < es.length → j < esz → (f i j).oneCell' = true) (hr : ∀ i j (hi : i < es.length) (hj : j < (es[i]).length), RelD ok w ((es[i])[j]) (f i j)) :
    ∃ cells, Reads P ok w esz (.slice (some ⟨B, off, none⟩) es.length cap) es cells := by
  have hdiv : ∀ i j, j < esz → (i * esz + j) / esz = i ∧ (i * esz + j) % esz = j := fun i j hj => by
    constructor
    · rw [Nat.add_comm, Nat.add_mul_div_right _ _ (by omega), Nat.div_eq_of_lt hj, Nat.zero_add]
    · rw [Nat.add_comm, Nat.add_mul_mod_self_right, Nat.mod_eq_of_lt hj]
  refine ⟨((List.range (es.length * esz)).map fun k => f (k / esz) (k % esz)).toArray, ⟨_, _, rfl⟩, by simp, hl, fun i j hi hj => ?_, fun k hk => ?_, fun w' hw' => ?_⟩
  · have hj' := hl i hi
    rw [getD_rangeN (pos_lt hi (by omega))]
    obtain ⟨e1, e2⟩ := hdiv i j (by omega)
    rw [e1, e2]; exact hr i j hi hj
  · rw [getD_rangeN hk]
    have hpos : 0 < esz := by rcases Nat.eq_zero_or_pos esz with h | h; · subst h; simp at hk
                              · exact h
    exact h1 _ _ (Nat.div_lt_of_lt_mul (by rw [Nat.mul_comm]; exact hk)) (Nat.mod_lt _ hpos)
  · refine run_loadCells (P := P) w' ⟨B, off, none⟩ (es.length * esz) (fun k => f (k / esz) (k % esz)) (fun k hk => ?_)
    have hpos : 0 < esz := by rcases Nat.eq_zero_or_pos esz with h | h; · subst h; simp at hk
                              · exact h
    have h1 : k / esz < es.length := Nat.div_lt_of_lt_mul (by rw [Nat.mul_comm]; exact hk)
    have h2 : k % esz < esz := Nat.mod_lt _ hpos
    have h3 : k / esz * esz + k % esz = k := by rw [Nat.mul_comm]; exact Nat.div_add_mod k esz
    have := hc _ _ h1 h2
    rw [h3] at this
    rw [add_plain, cell_same (w := w) (hw' _ hB)]
    exact this

theorem reads_nil {ok : Nat → Prop} {esz : Nat} {b : Option Addr} {cap : Nat} : Reads P ok w esz (.slice b 0 cap) [] #[] where
  ex := ⟨b, cap, rfl⟩
  size := by simp
  lens := fun i hi => by simp at hi
  rel := fun i j hi => by simp at hi
  one := fun k hk => by simp at hk
  first := fun w' _ => by cases b <;> simp [Builtin.firstCells, loadCells, loadCellsFrom]

theorem reads_row (hr : Rel X σ m a w) {s off len tot esz : Nat} {els : List (List D)} {v : Value} (hR : RelC (X.ok m) w σ.b m (.row s off len tot) v) (hb : σ.b s = .row esz els) (ht : tot = els.length) (hle : off + len ≤ els.length) :
    ∃ cells, Reads P (X.ok m) w esz v ((els.drop off).take len) cells := by
  rcases row_val hR hb ht with ⟨hl, _, rfl⟩ | ⟨_, h0, h1, rfl, rfl⟩
  · rcases slot_row hr hb with ⟨hnl, _⟩ | ⟨_, c, e, hh, hz, hcap, hel, hone, hcs⟩
    · rw [hl] at hnl; cases hnl
    have hlen : ((els.drop off).take len).length = len := by simp; omega
    have := reads_cells (P := P) (ok := X.ok m) (w := w) (esz := esz) (es := (els.drop off).take len) (B := (m s).blk) (off := off * esz) (cap := (m s).cap - off) (hr.blkLt hl)
      (fun i hi => by simpa using hel (off + i) (by omega)) (f := fun i j => c.getD ((off + i) * esz + j) undef)
      (fun i j hi hj => by
        rw [hlen] at hi
        rw [← Nat.add_assoc, ← Nat.add_mul]
        exact cell_of hh (by rw [hz]; exact pos_lt (by omega) hj))
      (fun i j hi hj => hone _ (pos_lt (by omega) hj))
      (fun i j hi hj => by simpa using hcs (off + i) j (by omega) (by simpa using hj))
    rwa [hlen] at this
  · subst h0; subst h1; exact ⟨#[], reads_nil⟩

theorem adds_reads (hr : Rel X σ m a w) {y : AC} {v : Value} {esz : Nat} {es : List (List D)} (hR : RelC (X.ok m) w σ.b m y v) (hy : addsC σ.b y = some es) (hl : es.all (fun e => e.length == esz) = true) :
    ∃ cells, Reads P (X.ok m) w esz v es cells := by
  have hl' : ∀ i (hi : i < es.length), (es[i]).length = esz := fun i hi => by
    have := List.all_eq_true.1 hl _ (List.getElem_mem hi); simpa using this
  unfold addsC at hy
  split at hy
  · cases hy
    cases hR with
    | d hD =>
      cases hD with
      | empty => exact ⟨#[], reads_nil⟩
      | list _ B off cap esz' f hok hB hcap hsz' hcell hone hrel =>
        cases es with
        | nil => exact ⟨#[], reads_nil⟩
        | cons e0 es0 =>
          have : esz' = esz := by rw [← hsz' 0 (by simp), hl' 0 (by simp)]
          subst this
          exact reads_cells hB hl' hcell hone hrel
  · cases hy
    rw [relC_v hR]; exact ⟨#[], reads_nil⟩
  · rename_i s off len tot
    split at hy <;> try (cases hy; done)
    rename_i esz' els hb
    split at hy <;> try (cases hy; done)
    rename_i hc
    cases hy
    obtain ⟨cells, hrd⟩ := reads_row (P := P) hr hR hb hc.1 hc.2
    by_cases h0 : ((els.drop off).take len) = []
    · rw [h0]
      obtain ⟨b, cap, hv⟩ := hrd.ex
      rw [h0] at hv; rw [hv]; exact ⟨#[], reads_nil⟩
    · have hp : 0 < ((els.drop off).take len).length := List.length_pos_iff.2 h0
      have : esz' = esz := by rw [← hrd.lens 0 hp, hl' 0 hp]
      subst this
      exact ⟨cells, hrd⟩
  · cases hy

theorem zeroCells_size (z : Array Value) (n : Nat) : (Builtin.zeroCells z n).size = n * z.size := by simp [Builtin.zeroCells]

/-- The elements of a row behind an append. -/
theorem app_cells {ok : Nat → Prop} {w' : World} {esz : Nat} {els ys : List (List D)} {c : Array Value} (hel : ∀ i (hi : i < els.length), (els[i]).length = esz) (hys : ∀ i (hi : i < ys.length), (ys[i]).length = esz)
    (h1 : ∀ i j (hi : i < els.length) (hj : j < (els[i]).length), RelD ok w' ((els[i])[j]) (c.getD (i * esz + j) undef))
    (h2 : ∀ i j (hi : i < ys.length) (hj : j < (ys[i]).length), RelD ok w' ((ys[i])[j]) (c.getD ((els.length + i) * esz + j) undef)) :
    (∀ i (hi : i < (els ++ ys).length), ((els ++ ys)[i]).length = esz) ∧ ∀ i j (hi : i < (els ++ ys).length) (hj : j < ((els ++ ys)[i]).length), RelD ok w' (((els ++ ys)[i])[j]) (c.getD (i * esz + j) undef) := by
  refine ⟨fun i hi => ?_, fun i j hi hj => ?_⟩
  · by_cases hlt : i < els.length
    · rw [List.getElem_append_left hlt]; exact hel i hlt
    · rw [List.getElem_append_right (by omega)]; exact hys _ _
  · by_cases hlt : i < els.length
    · have := h1 i j hlt (by rwa [List.getElem_append_left hlt] at hj)
      simpa [List.getElem_append_left hlt] using this
    · have hlen : i - els.length < ys.length := by simp at hi; omega
      have := h2 (i - els.length) j hlen (by rwa [List.getElem_append_right (by omega)] at hj)
      rw [show els.length + (i - els.length) = i by omega] at this
      simpa [List.getElem_append_right (show els.length ≤ i by omega)] using this

theorem getD_append_left {x y : Array Value} {k : Nat} (h : k < x.size) : (x ++ y).getD k undef = x.getD k undef := by
  simp [Array.getD_eq_getD_getElem?, Array.getElem?_append_left h]
theorem getD_append_right {x y : Array Value} {k : Nat} (h : x.size ≤ k) : (x ++ y).getD k undef = y.getD (k - x.size) undef := by
  simp [Array.getD_eq_getD_getElem?, Array.getElem?_append_right h]

theorem drew_heap (w : World) : ∀ k, k < w.heap.size → w.drew.heap[k]? = w.heap[k]? := fun _ _ => rfl

/-- A new array holds the old elements and the new ones. -/
theorem app_new (hr : Rel X σ m a w) {s esz : Nat} {els ys : List (List D)} {olds news zs : Array Value} {e : TypeId} {bs : ABlk} {vo vn : Value} (hO : Reads P (X.ok m) w esz vo els olds) (hN : Reads P (X.ok m) w esz vn ys news)
    (hb : σ.b s = bs) (hbs : bs = .fresh ∨ (bs = .row esz els ∧ (els.length < (els ++ ys).length ∨ ((els ++ ys).length = els.length ∧ False)))) {cap' : Nat} (hcap : els.length + ys.length ≤ cap') (hz : zs.size = (cap' - (els.length + ys.length)) * esz) :
    Rel X ⟨σ.t, upd σ.b s (.row esz (els ++ ys))⟩ (upd m s ⟨true, w.heap.size, cap'⟩) a (w.drew.alloc (.cells (olds ++ news ++ zs) e)) ∧
    RelC (X.ok (upd m s ⟨true, w.heap.size, cap'⟩)) (w.drew.alloc (.cells (olds ++ news ++ zs) e)) (upd σ.b s (.row esz (els ++ ys))) (upd m s ⟨true, w.heap.size, cap'⟩)
      (.row s 0 (els.length + ys.length) (els.length + ys.length)) (.slice (some ⟨w.heap.size, 0, none⟩) (els.length + ys.length) cap') := by
  have ht : Turn X σ m w s (.row esz (els ++ ys)) ⟨true, w.heap.size, cap'⟩ _ := turn_new (ob := .cells (olds ++ news ++ zs) e) (.inr rfl) (by
    rcases hbs with h | ⟨h, h2 | h2⟩
    · exact .fresh (hb.trans h)
    · exact .rowGrow esz els _ (hb.trans h) rfl h2
    · exact h2.2.elim) rfl
  have ho := hO.size
  have hn := hN.size
  refine ⟨hr.turn ht (fun q => ⟨by rw [hb]; intro e; rcases hbs with h | h <;> simp [e] at h, by simp⟩) ?_, ?_⟩
  · unfold SlotOK
    rw [upd_same, upd_same]
    obtain ⟨k1, k2⟩ := app_cells (ok := X.ok (upd m s ⟨true, w.heap.size, cap'⟩)) (w' := w.drew.alloc (.cells (olds ++ news ++ zs) e)) (c := olds ++ news ++ zs) hO.lens hN.lens
      (fun i j hi hj => by
        have := pos_lt hi (show j < esz by have := hO.lens i hi; omega)
        have e1 : (olds ++ news ++ zs).getD (i * esz + j) undef = olds.getD (i * esz + j) undef := by rw [Array.append_assoc, getD_append_left (by omega)]
        rw [e1]
        exact ht.relD (hO.rel i j hi hj))
      (fun i j hi hj => by
        have h1 := pos_lt hi (show j < esz by have := hN.lens i hi; omega)
        have e1 : (olds ++ news ++ zs).getD ((els.length + i) * esz + j) undef = news.getD (i * esz + j) undef := by
          rw [Array.append_assoc, Nat.add_mul, getD_append_right (by omega), getD_append_left (by omega)]
          rw [show els.length * esz + i * esz + j - olds.size = i * esz + j by omega]
        rw [e1]
        exact ht.relD (hN.rel i j hi hj))
    refine .inr ⟨rfl, _, e, heap_new w.drew _, ?_, by simpa using hcap, k1, fun k hk => ?_, k2⟩
    · have hc : cap' = els.length + ys.length + (cap' - (els.length + ys.length)) := by omega
      have hm : cap' * esz = els.length * esz + ys.length * esz + (cap' - (els.length + ys.length)) * esz := by rw [← Nat.add_mul, ← Nat.add_mul, ← hc]
      simp only [Array.size_append]; omega
    · have hk' : k < els.length * esz + ys.length * esz := by rw [← Nat.add_mul]; simpa using hk
      by_cases hlt : k < els.length * esz
      · rw [Array.append_assoc, getD_append_left (by omega)]; exact hO.one k hlt
      · rw [Array.append_assoc, getD_append_right (by omega), getD_append_left (by omega)]; exact hN.one _ (by omega)
  · have := RelC.row (ok := X.ok (upd m s ⟨true, w.heap.size, cap'⟩)) (w := w.drew.alloc (.cells (olds ++ news ++ zs) e)) (b := upd σ.b s (.row esz (els ++ ys))) (m := upd m s ⟨true, w.heap.size, cap'⟩) s 0 (els.length + ys.length) esz (els ++ ys) (upd_same _ _ _) (by rw [upd_same]) (by simp)
    rw [upd_same] at this
    simpa using this

theorem op_app {s esz : Nat} {x y : Opnd} (hc : chkA P o.op (.app s esz x y) = true) (h : opA P (.app s esz x y) σ K) (hr : Rel X σ m a w) : Gives P o a w (Post X σ a K) := by
  cases hop : o.op <;> rw [hop] at hc <;> simp only [chkA, Bool.false_eq_true] at hc
  rename_i c
  split at hc <;> try (cases hc; done)
  rename_i x' y' t u hcal hargs hty
  simp only [Bool.and_eq_true] at hc
  obtain ⟨⟨⟨hx, hy⟩, hf⟩, hu2⟩ := hc
  split at hf <;> try (cases hf; done)
  rename_i e hu
  split at hu2 <;> try (cases hu2; done)
  rename_i e2 huu
  simp only [Bool.and_eq_true] at hf
  obtain ⟨hsz, hby⟩ := hf
  obtain ⟨i, hi, hisz, hbytes, z, hz, hzz⟩ : ∃ i, P.info? e = some i ∧ i.size = esz ∧ i.bytes ≤ 4096 ∧ ∃ z, i.zero = some z ∧ z.cells.size = esz := by
    unfold sizeIs at hsz; unfold bytesSmall at hby
    split at hsz <;> try (cases hsz; done)
    rename_i i hi
    rw [hi] at hby
    simp at hsz hby
    obtain ⟨z, hz⟩ : ∃ z, i.zero = some z := by cases h : i.zero <;> simp [h] at hby; exact ⟨_, rfl⟩
    simp [hz] at hby
    exact ⟨i, hi, hsz, hby.1, z, hz, by omega⟩
  have hRx := chkO_sound hr hx
  have hRy := chkO_sound hr hy
  have ha : c.args = #[x', y'] := by apply Array.ext'; simpa using hargs
  have hat : c.argTypes = #[t, u] := by apply Array.ext'; simpa using hty
  have hex : ∀ {v : Value} {w' : World}, (Builtin.append_ #[t, u] o.type #[a.eval x', a.eval y']).run P w = .ok v w' → (execOp a.eval o).run P w = .ok (.value v) w' := fun e => by
    simp [execOp, hop, resolve, hcal, ha, hat, invoke, builtin, e]
  simp only [opA, appA] at h
  split at h <;> try (exact h.elim)
  rename_i ys hys
  obtain ⟨hall, h⟩ := h
  obtain ⟨news, hN⟩ := adds_reads (P := P) hr hRy hys hall
  obtain ⟨yb, yc, hyv⟩ := hN.ex
  have hfy : ∀ w' : World, (∀ k, k < w.heap.size → w'.heap[k]? = w.heap[k]?) → (Builtin.firstCells i.size ys.length (.slice yb ys.length yc)).run P w' = .ok news w' := fun w' hw' => by
    have := hN.first w' hw'; rw [hyv] at this; rw [hisz]; exact this
  have hnewsone : ∀ v ∈ news.toList, v.oneCell' = true := fun v hv => by
    obtain ⟨k, hk, rfl⟩ := List.mem_iff_getElem.1 hv
    have hk' : k < news.size := by simpa using hk
    have := hN.one k (by rw [← hN.size]; exact hk')
    simpa [Array.getD, hk'] using this
  have hzc : ∀ q, (Builtin.zeroCells z.cells q).size = q * esz := fun q => by rw [zeroCells_size, hzz]
  split at h
  · -- onto a row
    rename_i s' off len tot hxs
    obtain ⟨rfl, rfl, rfl, h⟩ := h
    rw [hxs] at hRx
    split at h <;> try (exact h.elim)
    rename_i esz' els hb
    obtain ⟨rfl, ht, hmost, h⟩ := h
    have hold := reads_row (P := P) hr hRx hb ht (by omega)
    rw [ht] at hold
    simp only [List.drop_zero, List.take_length] at hold
    obtain ⟨olds, hO⟩ := hold
    rcases row_val hRx hb ht with ⟨hl, _, hxv⟩ | ⟨hnl, _, hl0, hxv, hnil⟩
    · -- it has an array
      subst ht
      simp only [Nat.zero_mul, Nat.sub_zero] at hxv
      rcases slot_row hr hb with ⟨hnl, _⟩ | ⟨_, cc, e', hh, hzz', hcap, hel, hone, hcs⟩
      · rw [hl] at hnl; cases hnl
      by_cases hroom : els.length + ys.length ≤ (m s').cap
      · -- there is room
        have hle : els.length * esz' + news.size ≤ cc.size := by
          have : (els.length + ys.length) * esz' ≤ (m s').cap * esz' := Nat.mul_le_mul_right _ hroom
          rw [Nat.add_mul] at this
          rw [hN.size, hzz']; omega
        have hst := run_storeCells_at P (m s').blk (els.length * esz') e' news.toList 0 cc w hh (by simpa using hle) hnewsone
        simp only [Nat.add_zero, Array.length_toList] at hst
        obtain ⟨c2, hc2⟩ : ∃ c2, c2 = (cc.toList.take (els.length * esz') ++ news.toList ++ cc.toList.drop (els.length * esz' + news.size)).toArray := ⟨_, rfl⟩
        have hrun : (execOp a.eval o).run P w = .ok (.value (.slice (some ⟨(m s').blk, 0, none⟩) (els.length + ys.length) (m s').cap)) (w.setRow (m s').blk c2) := by
          refine hex ?_
          rw [hxv, hyv, run_app_room hu huu hi (hfy w (fun _ _ => rfl)) hroom]
          simp only [add_plain, Nat.zero_add, hisz, hst, Result.andThen_ok, hc2]
        have htn : Turns (σ.b s') (.row esz' (els ++ ys)) (m s') (m s') := by
          by_cases hy0 : ys = []
          · subst hy0; simp only [List.append_nil]; exact .same hb rfl
          · exact .rowGrow esz' els _ hb rfl (by have := List.length_pos_iff.2 hy0; simp; omega)
        have ht : Turn X σ m w s' (.row esz' (els ++ ys)) (m s') _ := turn_set (cs := c2) hr htn hl
        have hgd : ∀ k, c2.getD k undef = if els.length * esz' ≤ k ∧ k < els.length * esz' + news.size then news.getD (k - els.length * esz') undef else cc.getD k undef := fun k => by rw [hc2]; exact splice_getD hle k
        obtain ⟨k1, k2⟩ := app_cells (ok := X.ok (upd m s' (m s'))) (w' := w.setRow (m s').blk c2) (c := c2) hel hN.lens
          (fun i j hi hj => by
            have := pos_lt hi (show j < esz' by have := hel i hi; omega)
            rw [hgd, if_neg (by omega)]
            exact ht.relD (hcs i j hi hj))
          (fun i j hi hj => by
            have h1 := pos_lt hi (show j < esz' by have := hN.lens i hi; omega)
            rw [hgd, if_pos (by rw [Nat.add_mul, hN.size]; omega)]
            have := ht.relD (hN.rel i j hi hj)
            rwa [show (els.length + i) * esz' + j - els.length * esz' = i * esz' + j by rw [Nat.add_mul]; omega])
        refine gives_at (m' := upd m s' (m s')) (.inl hrun) h (hr.turn ht (fun q => ⟨by simp [hb], by simp⟩) ?_) ?_
        · unfold SlotOK
          rw [upd_same, upd_same]
          refine .inr ⟨hl, _, e', setRow_heap _ _ _ _ _ _ hh, by rw [hc2, splice_size hle, hzz'], by simpa using hroom, k1, fun k hk => ?_, k2⟩
          have hk' : k < els.length * esz' + ys.length * esz' := by rw [← Nat.add_mul]; simpa using hk
          rw [hgd]
          split
          · exact hN.one _ (by have := hN.size; omega)
          · exact hone k (by have := hN.size; omega)
        · have := RelC.row (ok := X.ok (upd m s' (m s'))) (w := w.setRow (m s').blk c2) (b := upd σ.b s' (.row esz' (els ++ ys))) (m := upd m s' (m s')) s' 0 (els.length + ys.length) esz' (els ++ ys) (upd_same _ _ _) (by rw [upd_same]; exact hl) (by simp)
          rw [upd_same] at this
          simpa using this
      · have hfo : (Builtin.firstCells i.size els.length (.slice (some ⟨(m s').blk, 0, none⟩) els.length (m s').cap)).run P w.drew = .ok olds w.drew := by
          have := hO.first w.drew (drew_heap w); rw [hxv] at this; rw [hisz]; exact this
        obtain ⟨cap', hcap', hrun⟩ := run_app_grow (ty := o.type) hu huu hi hz hbytes hfo (hfy w.drew (drew_heap w)) (by omega) hmost
        have hlt : els.length < (els ++ ys).length := by simp; omega
        obtain ⟨r1, r2⟩ := app_new (P := P) (e := e) hr hO hN hb (.inr ⟨rfl, .inl hlt⟩) hcap' (hzc _)
        exact gives_at (.inl (hex (by rw [hxv, hyv]; exact hrun))) h r1 r2
    · -- a nil row
      subst hnil
      subst hl0
      by_cases hy0 : ys = []
      · subst hy0
        have hrun : (execOp a.eval o).run P w = .ok (.value (.slice none 0 0)) w := by
          refine hex ?_
          rw [hxv, hyv, run_app_room hu huu hi (hfy w (fun _ _ => rfl)) (by simp)]
          rfl
        have hb' : upd σ.b s' (.row esz' ([] ++ [])) = σ.b := by rw [List.append_nil, ← hb]; exact upd_self _ _
        rw [hb'] at h
        exact gives_pure hr hrun h (.rowNil s' esz' hb hnl)
      · have hlt := List.length_pos_iff.2 hy0
        have hfo : (Builtin.firstCells i.size 0 (.slice none 0 0)).run P w.drew = .ok #[] w.drew := by simp [Builtin.firstCells]
        obtain ⟨cap', hcap', hrun⟩ := run_app_grow (ty := o.type) hu huu hi hz hbytes hfo (hfy w.drew (drew_heap w)) (by omega) (by simpa using hmost)
        obtain ⟨r1, r2⟩ := app_new (P := P) (e := e) (vo := .slice none 0 0) (els := []) (olds := #[]) hr reads_nil hN hb (.inr ⟨rfl, .inl (by simp; omega)⟩) (by simpa using hcap') (hzc _)
        exact gives_at (.inl (hex (by rw [hxv, hyv]; exact hrun))) h r1 r2
  · -- onto nil
    rename_i hxs
    have hxv := relC_v (hxs ▸ hRx)
    split at h <;> try (exact h.elim)
    rename_i hb
    obtain ⟨hmost, h⟩ := h
    by_cases hy0 : ys = []
    · subst hy0
      have hrun : (execOp a.eval o).run P w = .ok (.value (.slice none 0 0)) w := by
        refine hex ?_
        rw [hxv, hyv, run_app_room hu huu hi (hfy w (fun _ _ => rfl)) (by simp)]
        rfl
      have hnl : (m s).live = false := by have := hr.slots s; unfold SlotOK at this; rw [hb] at this; exact this
      have ht : Turn X σ m w s (.row esz []) ⟨false, 0, 0⟩ w := ⟨rfl, rfl, rfl, Nat.le_refl _, fun _ _ _ => rfl, .fresh hb, fun h => by cases h⟩
      refine gives_at (m' := upd m s ⟨false, 0, 0⟩) (.inl hrun) h (hr.turn ht (fun q => ⟨by simp [hb], by simp⟩) ?_) ?_
      · unfold SlotOK
        rw [upd_same, upd_same]
        exact .inl ⟨rfl, rfl⟩
      · exact .rowNil s esz (upd_same _ _ _) (by rw [upd_same])
    · have hlt := List.length_pos_iff.2 hy0
      have hfo : (Builtin.firstCells i.size 0 (.slice none 0 0)).run P w.drew = .ok #[] w.drew := by simp [Builtin.firstCells]
      obtain ⟨cap', hcap', hrun⟩ := run_app_grow (ty := o.type) hu huu hi hz hbytes hfo (hfy w.drew (drew_heap w)) (by omega) (by simpa using hmost)
      obtain ⟨r1, r2⟩ := app_new (P := P) (e := e) (vo := .slice none 0 0) (els := []) (olds := #[]) hr reads_nil hN hb (.inl rfl) (by simpa using hcap') (hzc _)
      simp only [List.length_nil, Nat.zero_add, List.nil_append] at r1 r2 hrun
      exact gives_at (.inl (hex (by rw [hxv, hyv]; exact hrun))) h r1 r2
  · exact h.elim

theorem op_appd {ss : List Nat} {esz : Nat} {x y : Opnd} (hc : chkA P o.op (.appd ss esz x y) = true) (h : opA P (.appd ss esz x y) σ K) (hr : Rel X σ m a w) : Gives P o a w (Post X σ a K) := by
  obtain ⟨s, _, h⟩ := h
  exact op_app (s := s) (x := x) (y := y) (esz := esz) (by cases hop : o.op <;> rw [hop] at hc <;> simp only [chkA, Bool.false_eq_true] at hc ⊢; exact hc) h hr

theorem op_std {ss : List Nat} {sh : Sh} {x y : Opnd} (hc : chkA P o.op (.std ss sh x y) = true) (h : opA P (.std ss sh x y) σ K) (hr : Rel X σ m a w) : Gives P o a w (Post X σ a K) := by
  obtain ⟨s, _, h⟩ := h
  exact op_st (s := s) (x := x) (y := y) (sh := sh) (by cases hop : o.op <;> rw [hop] at hc <;> simp only [chkA, Bool.false_eq_true] at hc ⊢; exact hc) h hr
theorem op_mksd {ss : List Nat} {esz : Nat} {zs : List Z} {x : Opnd} (hc : chkA P o.op (.mksd ss esz zs x) = true) (h : opA P (.mksd ss esz zs x) σ K) (hr : Rel X σ m a w) : Gives P o a w (Post X σ a K) := by
  obtain ⟨s, _, h⟩ := h
  exact op_mks (s := s) (x := x) (esz := esz) (zs := zs) (by cases hop : o.op <;> rw [hop] at hc <;> simp only [chkA, Bool.false_eq_true] at hc ⊢; exact hc) h hr

/-- A row is given up: what it is of is pure data from then on. -/
theorem freeze {t : Nat → AC} {b : Nat → ABlk} (hr : Rel X ⟨t, b⟩ m a w) {s esz : Nat} {els : List (List D)} {v : Value} (hb : b s = .row esz els) (hR : RelC (X.ok m) w b m (.row s 0 els.length els.length) v) :
    ∃ m', Rel X ⟨t, upd b s .dead⟩ m' a w ∧ RelC (X.ok m') w (upd b s .dead) m' (.d (.list els)) v := by
  have ht : Turn X ⟨t, b⟩ m w s .dead ⟨false, 0, 0⟩ w := ⟨rfl, rfl, rfl, Nat.le_refl _, fun _ _ _ => rfl, .dead rfl, fun h => by cases h⟩
  refine ⟨upd m s ⟨false, 0, 0⟩, hr.turn ht (fun q => ⟨by simp [hb], by simp⟩) ?_, .d ?_⟩
  · unfold SlotOK
    simp only [upd_same]
  · have h0 := row_val (σ := ⟨t, b⟩) hR hb rfl
    rcases h0 with ⟨hl, _, rfl⟩ | ⟨_, _, _, rfl, rfl⟩
    · rcases slot_row (σ := ⟨t, b⟩) hr hb with ⟨hl', _⟩ | ⟨_, c, e, hh, hz, hcap, hel, hone, hcs⟩
      · rw [hl] at hl'; cases hl'
      · have hok : X.ok (upd m s ⟨false, 0, 0⟩) (m s).blk := by
          refine ⟨.inr (hr.own s hl), fun s' hl2 => ?_⟩
          by_cases e : s' = s
          · subst e; rw [upd_same] at hl2; cases hl2
          · rw [upd_ne _ _ e] at hl2 ⊢; exact fun e' => e (hr.inj _ _ hl2 hl e')
        have hlt : ∀ i j, i < els.length → j < esz → i * esz + j < c.size := fun i j hi hj => by rw [hz]; exact pos_lt (by omega) hj
        refine .list els (m s).blk (0 * esz) _ esz (fun i j => c.getD (i * esz + j) undef) hok (hr.blkLt hl) (by omega) hel (fun i j hi hj => ?_) (fun i j hi hj => hone _ (pos_lt hi hj)) (fun i j hi hj => ht.relD (hcs i j hi hj))
        rw [Nat.zero_mul, Nat.zero_add]; exact cell_of hh (hlt i j hi hj)
    · exact .empty _ _

theorem post_freeze {K' : AC → (Nat → ABlk) → Prop} {v : Value} {w' : World} (h : Post X σ a K' v w') (hk : ∀ y b', K' y b' → ∃ s esz els, y = .row s 0 els.length els.length ∧ b' s = .row esz els ∧ K (.d (.list els)) (upd b' s .dead)) : Post X σ a K v w' := by
  obtain ⟨y, b', m', hK, hr, hy⟩ := h
  obtain ⟨s, esz, els, rfl, hb, hK⟩ := hk _ _ hK
  obtain ⟨m2, hr2, hy2⟩ := freeze hr hb hy
  exact ⟨_, _, m2, hK, hr2, hy2⟩

theorem Gives.mono {R R' : Value → World → Prop} (h : Gives P o a w R) (hk : ∀ v w', R v w' → R' v w') : Gives P o a w R' := by
  rcases h with ⟨v, w', hr, hrun⟩ | ⟨g, vs, hrun, hc⟩
  · exact .inl ⟨v, w', hk _ _ hr, hrun⟩
  · refine .inr ⟨g, vs, hrun, ?_⟩
    refine callsIn_wide.1 ((callsIn_wide.2 hc : CallsIn Fence.wide 0 P g vs w _).mono ?_)
    rintro e w' ⟨v, rfl, hr⟩
    exact ⟨v, rfl, hk _ _ hr⟩

theorem op_mvf {s : Nat} {x : Opnd} (hc : chkA P o.op (.mvf s x) = true) (h : opA P (.mvf s x) σ K) (hr : Rel X σ m a w) : Gives P o a w (Post X σ a K) := by
  cases hop : o.op <;> rw [hop] at hc <;> simp [chkA] at hc
  all_goals
    have hR := chkO_sound hr hc
    simp only [opA] at h
    split at h <;> try (exact h.elim)
    rename_i s' off len tot hx
    obtain ⟨rfl, rfl, rfl, h⟩ := h
    split at h <;> try (exact h.elim)
    rename_i esz els hb
    obtain ⟨rfl, h⟩ := h
    rw [hx] at hR
    obtain ⟨m', hr', hy⟩ := freeze hr hb hR
    exact .inl ⟨_, w, ⟨_, _, m', h, hr', hy⟩, .inl (by simp [execOp, hop])⟩

theorem op_mksz {s esz : Nat} {zs : List Z} {x : Opnd} (hc : chkA P o.op (.mksz s esz zs x) = true) (h : opA P (.mksz s esz zs x) σ K) (hr : Rel X σ m a w) : Gives P o a w (Post X σ a K) := by
  have hc' : chkA P o.op (.mks s esz zs x) = true := by
    cases hop : o.op <;> rw [hop] at hc <;> simpa only [chkA] using hc
  refine (op_mks (K := fun y' b' => ∃ els, y' = .row s 0 els.length els.length ∧ b' = upd σ.b s (.row esz els) ∧ K (.d (.list els)) (upd σ.b s .dead)) hc' ?_ hr).mono (fun v w' hp => post_freeze hp ?_)
  · simp only [opA] at h ⊢
    split at h <;> try (exact h.elim)
    exact ⟨h.1, h.2.1, _, by simp, rfl, h.2.2⟩
  · rintro y' b' ⟨els, rfl, rfl, hK⟩
    refine ⟨s, esz, els, rfl, upd_same _ _ _, ?_⟩
    have : upd (upd σ.b s (.row esz els)) s .dead = upd σ.b s .dead := by
      funext i; unfold upd; split <;> rfl
    rw [this]; exact hK

theorem op_appz {s esz : Nat} {x y : Opnd} (hc : chkA P o.op (.appz s esz x y) = true) (h : opA P (.appz s esz x y) σ K) (hr : Rel X σ m a w) : Gives P o a w (Post X σ a K) := by
  have hc' : chkA P o.op (.app s esz x y) = true := by
    cases hop : o.op <;> rw [hop] at hc <;> simpa only [chkA] using hc
  refine (op_app (K := fun y' b' => ∃ els, y' = .row s 0 els.length els.length ∧ b' = upd σ.b s (.row esz els) ∧ K (.d (.list els)) (upd σ.b s .dead)) hc' ?_ hr).mono (fun v w' hp => post_freeze hp ?_)
  · simp only [opA, appZ] at h
    simp only [opA, appA]
    split at h <;> try (exact h.elim)
    rename_i ys hy
    obtain ⟨h1, h⟩ := h
    refine ⟨h1, ?_⟩
    split at h <;> try (exact h.elim)
    · rename_i s' off len tot hx
      obtain ⟨rfl, rfl, rfl, h⟩ := h
      split at h <;> try (exact h.elim)
      rename_i esz' els hb
      obtain ⟨rfl, rfl, h2, h⟩ := h
      exact ⟨rfl, rfl, rfl, rfl, rfl, h2, els ++ ys, by simp, rfl, h⟩
    · rename_i hx
      split at h <;> try (exact h.elim)
      rename_i hb
      exact ⟨h.1, ys, rfl, rfl, h.2⟩
  · rintro y' b' ⟨els, rfl, rfl, hK⟩
    refine ⟨s, esz, els, rfl, upd_same _ _ _, ?_⟩
    have : upd (upd σ.b s (.row esz els)) s .dead = upd σ.b s .dead := by
      funext i; unfold upd; split <;> rfl
    rw [this]; exact hK

end
end Go.AM

/- The abstract machine, part 11b: equality of structs. No condition. -/
set_option linter.unusedVariables false
set_option linter.unusedSimpArgs false
namespace Go.AM
open Go
section
variable {P : Program} {X : Ctx} {σ : St} {m : Nat → Loc} {a : Act} {w : World} {o : Oper} {K : AC → (Nat → ABlk) → Prop}

/-- v is the value of type t at an offset of cells. -/
def ValAt (P : Program) (xs : Array Value) (t : TypeId) (off : Nat) (v : Value) : Prop :=
  (∃ i, P.info? t = some i ∧ isAggT P t = some true ∧ off + i.size ≤ xs.size ∧ v = .agg (xs.extract off (off + i.size))) ∨ (isAggT P t = some false ∧ off < xs.size ∧ v = xs.getD off undef)

theorem valAt_part {xs : Array Value} {t : TypeId} {off : Nat} {v : Value} (h : ValAt P xs t off v) {b n : Nat} (hb : off = b + n) {q : Nat} (hq : b + q ≤ xs.size) {j : TypeInfo} (hj : P.info? t = some j) (hnq : n + j.size ≤ q) (h1 : 1 ≤ j.size) :
    (part t (xs.extract b (b + q)) n).run P w = .ok v w := by
  have hs : sizeIs P t j.size = true := by simp [sizeIs, hj]
  rcases h with ⟨i, hi, ht, hle, rfl⟩ | ⟨ht, hlt, rfl⟩
  · rw [hj] at hi; cases hi
    unfold part
    simp only [Sem.run_bind, isAggT_run ht, Result.andThen_ok, if_true, sizeIs_run hs, Sem.run_pure]
    rw [Array.extract_extract]
    have e1 : b + n = off := hb.symm
    have e2 : min (b + (n + j.size)) (b + q) = off + j.size := by omega
    rw [e1, e2]
  · unfold part
    simp only [Sem.run_bind, isAggT_run ht, Result.andThen_ok, Bool.false_eq_true, if_false]
    have hn : n < q := by omega
    have : (xs.extract b (b + q))[n]? = some (xs.getD off undef) := by
      rw [Array.getElem?_extract]
      have : n < min (b + q) xs.size - b := by omega
      rw [if_pos this]
      subst hb
      simp [Array.getD, hlt]
    rw [this]; rfl

theorem eqLeaf_sound {ok : Nat → Prop} {b : Nat → ABlk} {x y : AC} {u v : Value} {r : Bool} {k : Nat} (hx : RelC ok w b m x u) (hy : RelC ok w b m y v) (h : eqLeaf k x y = some r) {t : TypeId} {d : Nat}
    (hu : (k = 0 ∧ ∃ q, P.underlying t = some (.int q)) ∨ k = 1 ∧ P.underlying t = some .bool ∨ k = 2 ∧ P.underlying t = some .string) : (Op.equalIn (d + 1) t u v).run P w = .ok r w := by
  unfold eqLeaf at h
  split at h
  · rename_i k p k' q
    split at h <;> cases h
    rename_i e; subst e
    have e1 := relC_v hx
    have e2 := relC_v hy
    subst e1; subst e2
    rcases hu with ⟨_, k2, hu⟩ | ⟨e, _⟩ | ⟨e, _⟩
    · rw [Op.equalIn, Sem.run_bind, run_underlying' hu]; simp; rfl
    · cases e
    · cases e
  · cases h
    have e1 := relC_v hx
    have e2 := relC_v hy
    subst e1; subst e2
    rcases hu with ⟨e, _⟩ | ⟨_, hu⟩ | ⟨e, _⟩
    · cases e
    · rw [Op.equalIn, Sem.run_bind, run_underlying' hu]; rfl
    · cases e
  · cases h
    have e1 := relC_v hx
    have e2 := relC_v hy
    subst e1; subst e2
    rcases hu with ⟨e, _⟩ | ⟨e, _⟩ | ⟨_, hu⟩
    · cases e
    · cases e
    · rw [Op.equalIn, Sem.run_bind, run_underlying' hu, ← beq_toListBytes]; rfl
  · cases h

theorem eqLeaves_append {cs ds : List AC} : ∀ {l l' : List (Nat × Nat)} {r : Bool}, eqLeaves cs ds (l ++ l') = some r → ∃ p q, eqLeaves cs ds l = some p ∧ eqLeaves cs ds l' = some q ∧ r = (p && q)
  | [], l', r, h => ⟨true, r, rfl, h, by simp⟩
  | (o, k) :: l, l', r, h => by
    simp only [List.cons_append, eqLeaves] at h ⊢
    split at h <;> try (cases h; done)
    rename_i a b ha hb
    split at h <;> try (cases h; done)
    rename_i r1 s1 h1 h2
    obtain ⟨p, q, e1, e2, e3⟩ := eqLeaves_append h2
    cases h
    refine ⟨r1 && p, q, by rw [h1, e1], e2, by rw [e3, Bool.and_assoc]⟩

theorem eq_sound {ok : Nat → Prop} {b : Nat → ABlk} {xs ys : Array Value} {cs ds : List AC} (hx : ∀ j (hj : j < cs.length), RelC ok w b m (cs[j]) (xs.getD j undef)) (hy : ∀ j (hj : j < ds.length), RelC ok w b m (ds[j]) (ys.getD j undef)) :
    ∀ (f : Nat) (t : TypeId) (off : Nat) (ls : List (Nat × Nat)) (r : Bool) (u v : Value) (d : Nat), leavesOf P f t off = some ls → f ≤ d → ValAt P xs t off u → ValAt P ys t off v → eqLeaves cs ds ls = some r → (Op.equalIn d t u v).run P w = .ok r w := by
  intro f
  induction f with
  | zero => intro t off ls r u v d h; simp [leavesOf] at h
  | succ f ih =>
    intro t off ls r u v d h hd hu hv he
    obtain ⟨d, rfl⟩ : ∃ e, d = e + 1 := ⟨d - 1, by omega⟩
    have leaf : ∀ k, ls = [(off, k)] → isAggT P t = some false → ((k = 0 ∧ ∃ q, P.underlying t = some (.int q)) ∨ k = 1 ∧ P.underlying t = some .bool ∨ k = 2 ∧ P.underlying t = some .string) → (Op.equalIn (d + 1) t u v).run P w = .ok r w := fun k hl ht hk => by
      subst hl
      simp only [eqLeaves] at he
      split at he <;> try (cases he; done)
      rename_i p q hp hq
      split at he <;> try (cases he; done)
      rename_i r1 s1 h1 h2
      cases h2; cases he
      rw [Bool.and_true]
      obtain ⟨l1, rfl⟩ := List.getElem?_eq_some_iff.1 hp
      obtain ⟨l2, rfl⟩ := List.getElem?_eq_some_iff.1 hq
      rcases hu with ⟨_, _, e, _⟩ | ⟨_, _, rfl⟩
      · rw [ht] at e; cases e
      rcases hv with ⟨_, _, e, _⟩ | ⟨_, _, rfl⟩
      · rw [ht] at e; cases e
      exact eqLeaf_sound (hx _ l1) (hy _ l2) h1 hk
    unfold leavesOf at h
    split at h
    · rename_i q hq; cases h; exact leaf 0 rfl (by simp [isAggT, hq]) (.inl ⟨rfl, q, hq⟩)
    · rename_i hq; cases h; exact leaf 1 rfl (by simp [isAggT, hq]) (.inr (.inl ⟨rfl, hq⟩))
    · rename_i hq; cases h; exact leaf 2 rfl (by simp [isAggT, hq]) (.inr (.inr ⟨rfl, hq⟩))
    · rename_i fs hq
      split at h <;> try (cases h; done)
      rename_i i hi
      split at h <;> try (cases h; done)
      rename_i hst
      have ht : isAggT P t = some true := by simp [isAggT, hq]
      obtain ⟨i1, hi1, _, hle1, rfl⟩ := hu.resolve_right fun e => by rw [ht] at e; cases e.1
      obtain ⟨i2, hi2, _, hle2, rfl⟩ := hv.resolve_right fun e => by rw [ht] at e; cases e.1
      rw [hi] at hi1 hi2; cases hi1; cases hi2
      have hfo : P.fieldsOf t = fs := by simp [Program.fieldsOf, hq]
      rw [run_equalIn_struct (P := P) w d t _ _ (by rw [hfo]; exact hq) (by simpa using hst), hfo]
      generalize fs.toList = fl at h
      clear leaf hfo hq
      induction fl generalizing ls r with
      | nil => simp at h; subst h; simp [eqLeaves] at he; subst he; simp [Op.eqFields]
      | cons g fl ihf =>
        simp only [List.foldr_cons] at h
        split at h <;> try (cases h; done)
        rename_i j lb hj hlb
        split at h <;> try (cases h; done)
        rename_i hcond
        simp only [Bool.or_eq_true, not_or, decide_eq_true_eq, beq_iff_eq] at hcond
        obtain ⟨⟨hn, hsz⟩, h0⟩ := hcond
        split at h <;> try (cases h; done)
        rename_i la hla
        cases h
        obtain ⟨p, q, e1, e2, rfl⟩ := eqLeaves_append he
        have mk : ∀ (zs : Array Value), off + i.size ≤ zs.size → ∃ z, ValAt P zs g.type (off + g.offset) z := fun zs hz => by
          cases hag : isAggT P g.type with
          | none =>
            exfalso
            cases f with
            | zero => simp [leavesOf] at hla
            | succ f =>
              unfold leavesOf at hla
              unfold isAggT at hag
              split at hla <;> simp_all
          | some ag => cases ag with
            | true => exact ⟨_, .inl ⟨j, hj, hag, by omega, rfl⟩⟩
            | false => exact ⟨_, .inr ⟨hag, by omega, rfl⟩⟩
        obtain ⟨zx, hzx⟩ := mk xs hle1
        obtain ⟨zy, hzy⟩ := mk ys hle2
        have px := valAt_part (w := w) hzx rfl hle1 hj (by omega) (by omega)
        have py := valAt_part (w := w) hzy rfl hle2 hj (by omega) (by omega)
        have hr := ih g.type (off + g.offset) la p zx zy d hla (by omega) hzx hzy e1
        have hrest := ihf lb q e2 hlb
        simp only [Op.eqFields, if_pos hn, Sem.run_bind, px, py, hr, Result.andThen_ok]
        cases p
        · simp
        · simpa using hrest
    · cases h

theorem aggOf_sound {ok : Nat → Prop} {b : Nat → ABlk} {x : AC} {u : Value} {cs : List AC} (hx : RelC ok w b m x u) (h : aggOf x = some cs) : ∃ vs : Array Value, u = .agg vs ∧ vs.size = cs.length ∧ ∀ j (hj : j < cs.length), RelC ok w b m (cs[j]) (vs.getD j undef) := by
  unfold aggOf at h
  split at h
  · cases h; cases hx with | agg _ vs h1 hc => exact ⟨vs, rfl, h1, hc⟩
  · cases h
    cases hx with
    | d hx => cases hx with
      | agg _ vs h1 hc => exact ⟨vs, rfl, by simp [h1], fun j hj => by rw [List.getElem_map]; exact .d (hc j (by simpa using hj))⟩
  · cases h

theorem op_eqs {neg : Bool} {n : Nat} {ls : List (Nat × Nat)} {x y : Opnd} (hc : chkA P o.op (.eqs neg n ls x y) = true) (h : opA P (.eqs neg n ls x y) σ K) (hr : Rel X σ m a w) : Gives P o a w (Post X σ a K) := by
  cases hop : o.op <;> rw [hop] at hc <;> simp only [chkA, Bool.false_eq_true, Bool.and_eq_true, decide_eq_true_eq] at hc
  rename_i op' t x' y' t'
  obtain ⟨⟨⟨⟨⟨rfl, hsh⟩, hg⟩, hls⟩, h2⟩, h3⟩ := hc
  simp only [beq_iff_eq] at hls
  simp only [opA] at h
  split at h <;> try (exact h.elim)
  rename_i cs ds hcs hds
  obtain ⟨hlen1, hlen2, h⟩ := h
  split at h <;> try (exact h.elim)
  rename_i r hrr
  obtain ⟨xs, e1, hxs, hX⟩ := aggOf_sound (chkO_sound hr h2) hcs
  obtain ⟨ys, e2, hys, hY⟩ := aggOf_sound (chkO_sound hr h3) hds
  simp only [chkSh, Bool.and_eq_true, beq_iff_eq] at hsh
  obtain ⟨hag, hsz⟩ := hsh
  have hi : ∃ i, P.info? t = some i ∧ i.size = n := by
    unfold sizeIs at hsz
    split at hsz
    · rename_i i hi; exact ⟨i, hi, by simpa using hsz⟩
    · cases hsz
  obtain ⟨i, hi, hin⟩ := hi
  have v1 : ValAt P xs t 0 (.agg xs) := .inl ⟨i, hi, hag, by omega, by rw [show 0 + i.size = xs.size by omega]; simp⟩
  have v2 : ValAt P ys t 0 (.agg ys) := .inl ⟨i, hi, hag, by omega, by rw [show 0 + i.size = ys.size by omega]; simp⟩
  have hrun : (Op.equal t (.agg xs) (.agg ys)).run P w = .ok r w := eq_sound hX hY 8 t 0 ls r _ _ Op.maxDepth hls (by decide) v1 v2 hrr
  have hge : (eqGuard (if neg = true then .neq else .eql) t x' y' (.agg xs) (.agg ys)).run P w = .ok () w := by
    have hg' : P.eqGuardType P.depth t = false := by simpa using hg
    cases neg <;> simp [eqGuard, hg']
  refine gives_pure hr ?_ h (.d (.v _))
  simp only [execOp, hop, e1, e2, Sem.run_bind, hge, Result.andThen_ok]
  cases neg <;> simp [binOp, hrun]

end
end Go.AM

/- The abstract machine, part 12: calls; every operation does what the abstract one says. No condition. -/
set_option linter.unusedVariables false
set_option linter.unusedSimpArgs false
namespace Go.AM
open Go
section
variable {P : Program} {X : Ctx} {σ : St} {m : Nat → Loc} {a : Act} {w : World} {o : Oper} {K : AC → (Nat → ABlk) → Prop}

theorem run_callFunc {g : FuncId} (h : Enters P g) (vs : Array Value) (w : World) : (callFunc g vs).run P w = .ok (.enter g vs) w := by
  obtain ⟨fn, h1, h2, h3⟩ := h
  have h2' : ¬ fn.name = "runtime.NumGoroutine" := by simpa using h2
  have h3' : ¬ fn.body = none := by intro e; simp [e] at h3
  simp [callFunc, h1, h2', h3']

/-- What leads to no memory reads alike in all worlds. -/
theorem flat_rel {ok ok' : Nat → Prop} {w w' : World} {x : D} {v : Value} (hf : flatD x = true) (h : RelD ok w x v) : RelD ok' w' x v := by
  have hv : ∀ {y : D} {u : Value}, (match y with | .v _ => true | _ => false) = true → RelD ok w y u → RelD ok' w' y u := fun {y u} hy hr => by
    cases hr <;> first | exact .v _ | (simp at hy)
  cases h with
  | v => exact .v _
  | empty => exact .empty _ _
  | list xs B off cap esz f hok hB hcap hsz hc h1 hr =>
    simp [flatD] at hf; subst hf; exact .empty _ _
  | fptr => simp [flatD] at hf
  | clo => simp [flatD] at hf
  | agg cs vs h1 hc =>
    simp only [flatD, List.all_eq_true] at hf
    exact .agg cs vs h1 fun j hj => hv (hf _ (List.getElem_mem hj)) (hc j hj)
  | tup cs vs h1 hc =>
    simp only [flatD, List.all_eq_true] at hf
    refine .tup cs vs h1 fun j hj => ?_
    have h2 := hf _ (List.getElem_mem hj)
    have h3 := hc j hj
    generalize cs[j] = y at h2 h3 ⊢
    generalize vs.getD j undef = u at h3 ⊢
    cases h3 with
    | v => exact .v _
    | agg ds us k1 k2 =>
      simp only [List.all_eq_true] at h2
      exact .agg ds us k1 fun q hq => hv (h2 _ (List.getElem_mem hq)) (k2 q hq)
    | _ => simp at h2

theorem mapM_get {α β : Type} {f : α → Option β} : ∀ {xs : List α} {ys : List β}, xs.mapM f = some ys → ys.length = xs.length ∧ ∀ j (hj : j < xs.length) (hj' : j < ys.length), f (xs[j]) = some (ys[j])
  | [], ys, h => by simp at h; subst h; exact ⟨rfl, fun j hj => by simp at hj⟩
  | x :: xs, ys, h => by
    simp only [List.mapM_cons, Option.bind_eq_bind, Option.pure_def] at h
    cases hx : f x with
    | none => simp [hx] at h
    | some y =>
      cases hxs : xs.mapM f with
      | none => simp [hx, hxs] at h
      | some ys' =>
        simp [hx, hxs] at h
        subst h
        obtain ⟨h1, h2⟩ := mapM_get hxs
        refine ⟨by simp [h1], fun j hj hj' => ?_⟩
        cases j with
        | zero => exact hx
        | succ j => exact h2 j (by simpa using hj) (by simpa using hj')

/-- A snapshot reads as the value does. -/
theorem snap_rel' (hr : Rel X σ m a w) {ok' : Nat → Prop} (ho : ∀ k, X.ok m k → ok' k) (hs : ∀ s, (m s).live = true → ok' (m s).blk) : ∀ (n : Nat) {x : AC} {y : D} {v : Value}, snap σ.b n x = some y → RelC (X.ok m) w σ.b m x v → RelD ok' w y v
  | 0, x, y, v, h, _ => by simp [snap] at h
  | n + 1, x, y, v, h, hR => by
    simp only [snap] at h
    split at h
    · cases h
      cases hR with
      | d hD => exact hD.mono (Nat.le_refl _) (fun _ _ _ _ h => h) (fun k _ h => ho k h)
    · rename_i s off len tot
      split at h <;> try (cases h; done)
      rename_i esz els hb
      split at h <;> try (cases h; done)
      rename_i hc
      cases h
      rcases row_val hR hb hc.1 with ⟨hl, hle, rfl⟩ | ⟨hnl, rfl, rfl, rfl, rfl⟩
      · rcases slot_row hr hb with ⟨hnl, _⟩ | ⟨_, c, e, hh, hz, hcap, hel, hone, hcs⟩
        · rw [hl] at hnl; cases hnl
        have hlen : ((els.drop off).take len).length = len := by simp; omega
        have := RelD.list (ok := ok') (w := w) ((els.drop off).take len) (m s).blk (off * esz) ((m s).cap - off) esz (fun i j => c.getD ((off + i) * esz + j) undef) (hs s hl) (hr.blkLt hl) (by omega)
          (fun i hi => by simpa using hel (off + i) (by omega))
          (fun i j hi hj => by
            rw [hlen] at hi
            rw [← Nat.add_assoc, ← Nat.add_mul]
            exact cell_of hh (by rw [hz]; exact pos_lt (by omega) hj))
          (fun i j hi hj => hone _ (pos_lt (by omega) hj))
          (fun i j hi hj => by
            have := hcs (off + i) j (by omega) (by simpa using hj)
            have := this.mono (ok' := ok') (Nat.le_refl _) (fun _ _ _ _ h => h) (fun k _ h => ho k h)
            simpa using this)
        rwa [hlen] at this
      · simp; exact .empty _ _
    · rename_i s off
      split at h <;> try (cases h; done)
      rename_i cs hb
      simp only [Option.map_eq_some_iff] at h
      obtain ⟨ds, hds, rfl⟩ := h
      obtain ⟨hl, c, e, hh, hz, hone, hcs⟩ := slot_var hr hb
      rw [ptr_val hR hb]
      obtain ⟨h1, h2⟩ := mapM_get hds
      have hlen : (cs.drop off).length = cs.length - off := by simp
      refine .fptr ds (m s).blk off (fun j => c.getD (off + j) undef) (hs s hl) (hr.blkLt hl) (fun j hj => cell_of hh (by omega)) (fun j hj => hone _ (by omega)) (fun j hj => ?_)
      have e1 := h2 j (by omega) hj
      have e2 := hcs (off + j) (by omega)
      refine snap_rel' hr ho hs n e1 ?_
      simpa using e2
    · rename_i s off len
      split at h <;> try (cases h; done)
      rename_i cs hb
      split at h <;> try (cases h; done)
      rename_i hle
      simp only [Option.map_eq_some_iff] at h
      obtain ⟨ds, hds, rfl⟩ := h
      obtain ⟨hl, c, e, hh, hz, hone, hcs⟩ := slot_var hr hb
      obtain ⟨cap, hcap, rfl⟩ := vs_val hR hb
      obtain ⟨h1, h2⟩ := mapM_get hds
      have hlen : ((cs.drop off).take len).length = len := by simp; omega
      have hdl : ds.length = len := by omega
      have := RelD.list (ok := ok') (w := w) (ds.map fun d => [d]) (m s).blk off cap 1 (fun i j => c.getD (off + (i * 1 + j)) undef) (hs s hl) (hr.blkLt hl) (by simp; omega)
        (fun i hi => by simp)
        (fun i j hi hj => cell_of hh (by simp at hi; omega))
        (fun i j hi hj => hone _ (by simp at hi; omega))
        (fun i j hi hj => by
          simp only [List.getElem_map, List.length_cons, List.length_nil] at hj ⊢
          have hj0 : j = 0 := by omega
          subst hj0
          have hi' : i < ds.length := by simpa using hi
          have e1 := h2 i (by omega) hi'
          have e2 := hcs (off + i) (by omega)
          refine snap_rel' hr ho hs n e1 ?_
          simpa using e2)
      simpa [hdl] using this
    · rename_i g first caps
      simp only [Option.map_eq_some_iff] at h
      obtain ⟨ds, hds, rfl⟩ := h
      obtain ⟨h1, h2⟩ := mapM_get hds
      cases hR with
      | clo _ _ _ vf vc k1 k2 kf kc =>
        refine .clo g first ds vf vc k1 (by omega) (fun j hj => (kf j hj).mono (Nat.le_refl _) (fun _ _ _ _ h => h) (fun k _ h => ho k h)) (fun j hj => ?_)
        exact snap_rel' hr ho hs n (h2 j (by omega) hj) (kc j (by omega))
    · rename_i cs
      simp only [Option.map_eq_some_iff] at h
      obtain ⟨ds, hds, rfl⟩ := h
      obtain ⟨h1, h2⟩ := mapM_get hds
      cases hR with
      | agg _ vs k1 kc =>
        exact .agg ds vs (by omega) (fun j hj => snap_rel' hr ho hs n (h2 j (by omega) hj) (kc j (by omega)))
    · cases h

theorem snap_rel (hr : Rel X σ m a w) (n : Nat) {x : AC} {y : D} {v : Value} (h : snap σ.b n x = some y) (hR : RelC (X.ok m) w σ.b m x v) : RelD (fun _ => True) w y v :=
  snap_rel' hr (fun _ _ => trivial) (fun _ _ => trivial) n h hR

/-- A snapshot of what is pure reads in 'ok' blocks. -/
theorem snap_pure {n : Nat} {x : AC} {y : D} {v : Value} (h : snap σ.b (n + 2) x = some y) (hp : isPure x = true) (hR : RelC (X.ok m) w σ.b m x v) : RelD (X.ok m) w y v := by
  cases x with
  | d z => simp [snap] at h; subst h; exact relC_d hR
  | agg cs =>
    simp only [isPure, List.all_eq_true] at hp
    simp only [snap, Option.map_eq_some_iff] at h
    obtain ⟨ds, hds, rfl⟩ := h
    obtain ⟨h1, h2⟩ := mapM_get hds
    cases hR with
    | agg _ vs k1 kc =>
      refine .agg ds vs (by omega) (fun j hj => ?_)
      have hc := kc j (by omega)
      have hs := h2 j (by omega) hj
      have hq := hp _ (List.getElem_mem (show j < cs.length by omega))
      generalize cs[j]'(by omega) = q at hc hs hq
      cases q with
      | d z => simp at hs; rw [← hs]; exact relC_d hc
      | _ => simp at hq
  | _ => simp [isPure] at hp

/-- Behind a call without effect. -/
theorem call_post (hr : Rel X σ m a w) {g : FuncId} {vs : Array Value} {ds : List D} {res : D} {pure : Bool} (hP : PureFn P g ds res) (hlen : vs.size = ds.length)
    (hT : ∀ j (hj : j < ds.length), RelD (fun _ => True) w (ds[j]) (vs.getD j undef)) (hPu : pure = true → ∀ j (hj : j < ds.length), RelD (X.ok m) w (ds[j]) (vs.getD j undef))
    (hf : pure = true ∨ flatD res = true) (hk : K (.d res) σ.b) (hrun : (execOp a.eval o).run P w = .ok (.enter g vs) w) : Gives P o a w (Post X σ a K) := by
  refine .inr ⟨g, vs, hrun, ?_⟩
  rcases hf with hf | hf
  · refine (hP.2 (X.ok m) w vs hlen (hPu hf)).mono ?_
    rintro e w' ⟨v, rfl, hrel, hfoot⟩
    refine ⟨v, rfl, .d res, σ.b, m, hk, hr.grow hfoot, .d (hrel.mono (Nat.le_refl _) (fun _ _ _ _ h => h) (fun k hk h => ?_))⟩
    rcases h with h | h
    · exact h
    · exact ⟨.inr (Nat.le_trans hr.foot.size h), fun s hl e => by have := hr.blkLt hl; omega⟩
  · refine (hP.2 (fun _ => True) w vs hlen hT).mono ?_
    rintro e w' ⟨v, rfl, hrel, hfoot⟩
    exact ⟨v, rfl, .d res, σ.b, m, hk, hr.grow hfoot, .d (flat_rel hf hrel)⟩

theorem args_rel (hr : Rel X σ m a w) {xs : List Operand} {ys : List Opnd} {ds : List D} (hc : chkOs xs ys = true) (hs : (ys.map (evO σ.t)).mapM (snap σ.b 4) = some ds) :
    (xs.map a.eval).length = ds.length ∧ (∀ j (hj : j < ds.length), RelD (fun _ => True) w (ds[j]) ((xs.map a.eval).getD j undef)) ∧
    ((ys.map (evO σ.t)).all isPure = true → ∀ j (hj : j < ds.length), RelD (X.ok m) w (ds[j]) ((xs.map a.eval).getD j undef)) := by
  obtain ⟨h1, h2⟩ := mapM_get hs
  have hl := chkOs_len hc
  simp only [List.length_map] at h1
  refine ⟨by simp; omega, fun j hj => ?_, fun hp j hj => ?_⟩
  · have e1 := h2 j (by simp; omega) hj
    simp only [List.getElem_map] at e1
    exact snap_rel hr 4 e1 (chkOs_get hr hc j (by omega))
  · have e1 := h2 j (by simp; omega) hj
    have e2 := List.all_eq_true.1 hp ((ys.map (evO σ.t))[j]'(by simp; omega)) (List.getElem_mem _)
    simp only [List.getElem_map] at e1 e2
    exact snap_pure e1 e2 (chkOs_get hr hc j (by omega))

theorem getD_map_toArray (xs : Array Operand) (j : Nat) : ((xs.map a.eval)).getD j undef = (xs.toList.map a.eval).getD j undef := by
  simp [Array.getD_eq_getD_getElem?, List.getD]

theorem op_call {g : FuncId} {xs : List Opnd} (hc : chkA P o.op (.call g xs) = true) (h : opA P (.call g xs) σ K) (hr : Rel X σ m a w) : Gives P o a w (Post X σ a K) := by
  cases hop : o.op <;> rw [hop] at hc <;> simp only [chkA, Bool.false_eq_true] at hc
  rename_i c
  split at hc <;> try (cases hc; done)
  rename_i g' hcal
  simp only [Bool.and_eq_true, beq_iff_eq] at hc
  obtain ⟨rfl, hxs⟩ := hc
  simp only [opA] at h
  split at h <;> try (exact h.elim)
  rename_i ds hds
  obtain ⟨res, hP, hf, hk⟩ := h
  obtain ⟨h1, h2, h3⟩ := args_rel hr hxs hds
  refine call_post (vs := c.args.map a.eval) hr hP (by simpa using h1) (fun j hj => by rw [getD_map_toArray]; exact h2 j hj) (fun hp j hj => by rw [getD_map_toArray]; exact h3 hp j hj) hf hk ?_
  simp [execOp, hop, resolve, hcal, Act.eval, Deferred.ofValue, invoke, run_callFunc hP.1]

theorem getD_append3 {A B C : Array Value} {as bs cs : List D} {R : D → Value → Prop} (ha : A.size = as.length) (hb : B.size = bs.length) (hc : C.size = cs.length)
    (h1 : ∀ j (hj : j < as.length), R (as[j]) (A.getD j undef)) (h2 : ∀ j (hj : j < bs.length), R (bs[j]) (B.getD j undef)) (h3 : ∀ j (hj : j < cs.length), R (cs[j]) (C.getD j undef)) :
    ∀ j (hj : j < (as ++ bs ++ cs).length), R ((as ++ bs ++ cs)[j]) ((A ++ B ++ C).getD j undef) := fun j hj => by
  have hl : j < as.length + bs.length + cs.length := by simpa [Nat.add_assoc] using hj
  by_cases c1 : j < as.length
  · rw [Array.append_assoc, getD_append_left (by omega)]
    simpa [List.getElem_append_left, c1, List.append_assoc] using h1 j c1
  · by_cases c2 : j < as.length + bs.length
    · rw [Array.append_assoc, getD_append_right (by omega), getD_append_left (by omega)]
      have := h2 (j - as.length) (by omega)
      have e : (as ++ bs ++ cs)[j] = bs[j - as.length]'(by omega) := by
        rw [List.getElem_append_left (by simp; omega), List.getElem_append_right (by omega)]
      rw [e, ha]; exact this
    · rw [getD_append_right (by simp; omega)]
      have := h3 (j - (as.length + bs.length)) (by omega)
      have e : (as ++ bs ++ cs)[j] = cs[j - (as.length + bs.length)]'(by omega) := by
        rw [List.getElem_append_right (by simp; omega)]
        congr 1; simp
      rw [e]; simp only [Array.size_append, ha, hb]; exact this

theorem op_calln {g : FuncId} {xs : List Opnd} (hc : chkA P o.op (.calln g xs) = true) (h : opA P (.calln g xs) σ K) (hr : Rel X σ m a w) : Gives P o a w (Post X σ a K) := by
  cases hop : o.op <;> rw [hop] at hc <;> simp only [chkA, Bool.false_eq_true] at hc
  rename_i c
  split at hc <;> try (cases hc; done)
  rename_i g' hcal
  simp only [Bool.and_eq_true, beq_iff_eq] at hc
  obtain ⟨rfl, hxs⟩ := hc
  simp only [opA] at h
  split at h <;> try (exact h.elim)
  rename_i ds hds
  obtain ⟨res, hP, hk⟩ := h
  obtain ⟨h1, h2, _⟩ := args_rel hr hxs hds
  refine .inr ⟨g, c.args.map a.eval, ?_, ?_⟩
  · simp [execOp, hop, resolve, hcal, Act.eval, Deferred.ofValue, invoke, run_callFunc hP.1]
  · refine (hP.2 w (c.args.map a.eval) (by simpa using h1) (fun j hj => by rw [getD_map_toArray]; exact h2 j hj)).mono ?_
    rintro e w' ⟨v, rfl, hrel, hfoot⟩
    refine ⟨v, rfl, .d res, σ.b, m, hk, hr.grow hfoot, .d (hrel.mono (Nat.le_refl _) (fun _ _ _ _ h => h) (fun k hk h => ?_))⟩
    exact ⟨.inr (Nat.le_trans hr.foot.size h), fun s hl e => by have := hr.blkLt hl; omega⟩

theorem op_callv {x : Opnd} {xs : List Opnd} (hc : chkA P o.op (.callv x xs) = true) (h : opA P (.callv x xs) σ K) (hr : Rel X σ m a w) : Gives P o a w (Post X σ a K) := by
  cases hop : o.op <;> rw [hop] at hc <;> simp only [chkA, Bool.false_eq_true] at hc
  rename_i c
  split at hc <;> try (cases hc; done)
  rename_i x' hcal
  simp only [Bool.and_eq_true] at hc
  obtain ⟨hx, hxs⟩ := hc
  simp only [opA] at h
  split at h <;> try (exact h.elim)
  rename_i g first caps ds hclo hds
  obtain ⟨res, hP, hf, hk⟩ := h
  obtain ⟨h1, h2, h3⟩ := args_rel hr hxs hds
  have hRx := chkO_sound hr hx
  have hT := snap_rel hr 4 hclo hRx
  have hPu : isPure (evO σ.t x) = true → RelD (X.ok m) w (.clo g first caps) (a.eval x') := fun hp => snap_pure hclo hp hRx
  generalize hv : a.eval x' = v at hT hPu
  cases hT with
  | clo _ _ _ vf vc k1 k2 kf kc =>
    have hrun : (execOp a.eval o).run P w = .ok (.enter g (vf ++ c.args.map a.eval ++ vc)) w := by
      simp [execOp, hop, resolve, hcal, hv, Deferred.ofValue, invoke, run_callFunc hP.1]
    have hsz : (c.args.map a.eval).size = ds.length := by simpa using h1
    refine call_post (vs := vf ++ c.args.map a.eval ++ vc) hr hP (by simp; simp at hsz; omega) (getD_append3 k1 hsz k2 kf (fun j hj => by rw [getD_map_toArray]; exact h2 j hj) kc) (fun hp => ?_) hf hk hrun
    simp only [List.all_cons, Bool.and_eq_true] at hp
    have hD := hPu hp.1
    cases hD with
    | clo _ _ _ _ _ _ _ kf' kc' =>
      exact getD_append3 k1 hsz k2 kf' (fun j hj => by rw [getD_map_toArray]; exact h3 hp.2 j hj) kc'

/-- **Every operation does what the abstract one says.** -/
theorem op_sound {aop : AOp} (hc : chkA P o.op aop = true) (h : opA P aop σ K) (hr : Rel X σ m a w) : Gives P o a w (Post X σ a K) := by
  cases aop with
  | mv => exact op_mv hc h hr
  | pick => exact op_pick hc h hr
  | bin => exact op_bin hc h hr
  | eqb => exact op_eqb hc h hr
  | eqs => exact op_eqs hc h hr
  | neg => exact op_neg hc h hr
  | xr => exact op_xr hc h hr
  | isn => exact op_isn hc h hr
  | tas => exact op_tas hc h hr
  | mkia => exact op_mkia hc h hr
  | not => exact op_not hc h hr
  | ld => exact op_ld hc h hr
  | st => exact op_st hc h hr
  | alloc => exact op_alloc hc h hr
  | box => exact op_box hc h hr
  | boxd => exact op_boxd hc h hr
  | fad => exact op_fad hc h hr
  | fld => exact op_fld hc h hr
  | ixa => exact op_ixa hc h hr
  | ixp => exact op_ixp hc h hr
  | ixs => exact op_ixs hc h hr
  | ixv => exact op_ixv hc h hr
  | ext => exact op_ext hc h hr
  | build => exact op_build hc h hr
  | bsl => exact op_bsl hc h hr
  | len => exact op_len hc h hr
  | mx => exact op_mx hc h hr
  | mn => exact op_mn hc h hr
  | cv => exact op_cv hc h hr
  | mkf => exact op_mkf hc h hr
  | mki => exact op_mki hc h hr
  | call => exact op_call hc h hr
  | callv => exact op_callv hc h hr
  | app => exact op_app hc h hr
  | appd => exact op_appd hc h hr
  | mks => exact op_mks hc h hr
  | std => exact op_std hc h hr
  | mksd => exact op_mksd hc h hr
  | mksz => exact op_mksz hc h hr
  | slc => exact op_slc hc h hr
  | sls => exact op_sls hc h hr
  | nilrow => exact op_nilrow hc h hr
  | eqn => exact op_eqn hc h hr
  | nck => exact op_nck hc h hr
  | mvf => exact op_mvf hc h hr
  | appz => exact op_appz hc h hr
  | bslr => exact op_bslr hc h hr
  | mkv => exact op_mkv hc h hr
  | calln => exact op_calln hc h hr
  | icall => exact h.elim
  | icallv => exact h.elim
  | callz => exact h.elim
  | yield => exact h.elim
  | bad => exact h.elim

end
end Go.AM
