/- The abstract machine, part 9: stores; new variables and rows. No condition. -/
import Derived.Test.YtmkmegcconjgoaaAm8
import Derived.Laws.AppendOwn
set_option linter.unusedVariables false
set_option linter.unusedSimpArgs false
namespace Go.AM
open Go
section
variable {P : Program} {X : Ctx} {σ : St} {m : Nat → Loc} {a : Act} {w : World} {o : Oper} {K : AC → (Nat → ABlk) → Prop}

theorem gives_at {y : AC} {v : Value} {b' : Nat → ABlk} {m' : Nat → Loc} {w' : World} (hrun : (execOp a.eval o).run P w = .ok (.value v) w' ∨ ((execOp a.eval o).run P w = .ok .skip w' ∧ v = undef))
    (hk : K y b') (hr : Rel X ⟨σ.t, b'⟩ m' a w') (hy : RelC (X.ok m') w' b' m' y v) : Gives P o a w (Post X σ a K) :=
  .inl ⟨v, w', ⟨y, b', m', hk, hr, hy⟩, hrun⟩

/-- The slot's block is written in place. -/
theorem turn_set {s : Nat} {bs : ABlk} {cs : Array Value} (hr : Rel X σ m a w) (ht : Turns (σ.b s) bs (m s) (m s)) (hl : (m s).live = true) : Turn X σ m w s bs (m s) (w.setRow (m s).blk cs) where
  os := rfl
  tape := rfl
  output := rfl
  size := by simp
  block := fun k hk hne => setRow_other _ _ _ _ (hne hl)
  turns := ht
  place := fun h => .inl ⟨h, rfl⟩

/-- A new block takes the slot's place. -/
theorem turn_new {s : Nat} {bs : ABlk} {l : Loc} {ob : Obj} {w' : World} (hw : w' = w.alloc ob ∨ w' = w.drew.alloc ob) (ht : Turns (σ.b s) bs (m s) l) (hb : l.blk = w.heap.size) : Turn X σ m w s bs l w' where
  os := by rcases hw with rfl | rfl <;> rfl
  tape := by rcases hw with rfl | rfl <;> rfl
  output := by rcases hw with rfl | rfl <;> rfl
  size := by rcases hw with rfl | rfl <;> simp
  block := fun k hk _ => by rcases hw with rfl | rfl <;> exact Go.RowKit.Below.heap_alloc _ _ _ hk
  turns := ht
  place := fun _ => .inr (by omega)

theorem heap_new (w : World) (ob : Obj) : (w.alloc ob).heap[w.heap.size]? = some ob := by show (w.heap.push ob)[w.heap.size]? = _; simp

theorem upd_self {α : Type} (f : Nat → α) (i : Nat) : upd f i (f i) = f := by
  funext j; unfold upd; split
  · subst_vars; rfl
  · rfl

theorem run_storeVar_at {t : TypeId} {g off : Nat} {cur : Array Value} {e : TypeId} {v : Value} (hg : w.heap[g]? = some (.cells cur e (0, 0))) (hz : sizeIs P t v.cells.size = true) (hle : off + v.cells.size ≤ cur.size) (h1 : ∀ u ∈ v.cells.toList, u.oneCell' = true) :
    (storeVar t ⟨g, off, none⟩ v).run P w = .ok () (w.setRow g (cur.toList.take off ++ v.cells.toList ++ cur.toList.drop (off + v.cells.size)).toArray) := by
  have := run_storeCells_at P g off e v.cells.toList 0 cur w hg (by simpa using hle) h1
  simp only [Nat.add_zero, Array.length_toList] at this
  simp only [storeVar, Sem.run_bind, sizeIs_run hz, Result.andThen_ok, ne_eq, not_true_eq_false, if_false, this]

theorem splice_getD {cur : Array Value} {vs : Array Value} {off : Nat} (hle : off + vs.size ≤ cur.size) (k : Nat) :
    ((cur.toList.take off ++ vs.toList ++ cur.toList.drop (off + vs.size)).toArray).getD k undef = if off ≤ k ∧ k < off + vs.size then vs.getD (k - off) undef else cur.getD k undef := by
  simp only [Array.getD_eq_getD_getElem?, List.getElem?_toArray]
  by_cases hc : off ≤ k ∧ k < off + vs.size
  · rw [if_pos hc, List.getElem?_append_left (by simp; omega), List.getElem?_append_right (by simp; omega)]
    simp [Nat.min_eq_left (show off ≤ cur.size by omega)]
  · rw [if_neg hc]
    by_cases hlt : k < off
    · rw [List.getElem?_append_left (by simp; omega), List.getElem?_append_left (by simp; omega)]
      simp [List.getElem?_take, hlt]
    · rw [List.getElem?_append_right (by simp; omega)]
      simp only [List.length_append, List.length_take, Array.length_toList, List.getElem?_drop, Nat.min_eq_left (show off ≤ cur.size by omega), Array.getElem?_toList]
      congr 2; omega
theorem splice_size {cur : Array Value} {vs : Array Value} {off : Nat} (hle : off + vs.size ≤ cur.size) :
    ((cur.toList.take off ++ vs.toList ++ cur.toList.drop (off + vs.size)).toArray).size = cur.size := by
  simp; omega

theorem op_st {s : Nat} {sh : Sh} {x y : Opnd} (hc : chkA P o.op (.st s sh x y) = true) (h : opA P (.st s sh x y) σ K) (hr : Rel X σ m a w) : Gives P o a w (Post X σ a K) := by
  cases hop : o.op <;> rw [hop] at hc <;> simp only [chkA, Bool.false_eq_true, Bool.and_eq_true] at hc
  rename_i t x' y'
  obtain ⟨⟨hsh, hx⟩, hy⟩ := hc
  have hRx := chkO_sound hr hx
  have hRy := chkO_sound hr hy
  have hex : ∀ {B off : Nat} {w' : World}, a.eval x' = .pointer (some ⟨B, off, none⟩) → (storeVar t ⟨B, off, none⟩ (a.eval y')).run P w = .ok () w' → (execOp a.eval o).run P w = .ok .skip w' := fun e1 e2 => by
    simp [execOp, hop, e1, Instr.storeAt, Instr.sureAddr, e2]
  simp only [opA] at h
  split at h
  · rename_i s' off us hs' hus
    obtain ⟨rfl, hst, h⟩ := h
    rw [hs'] at hRx
    split at h <;> try (exact h.elim)
    rename_i cs hb
    obtain ⟨hle, h⟩ := h
    obtain ⟨hA, h1⟩ := cells_relA hRy hus hst
    obtain ⟨hl, c, e, hh, hz, hone, hcs⟩ := slot_var hr hb
    have hsz := chkSh_size hsh hus
    rw [← hA.1] at hsz
    have hle2 : off + (a.eval y').cells.size ≤ c.size := by rw [hA.1, hz]; exact hle
    have hrun := hex (ptr_val hRx hb) (run_storeVar_at hh hsz hle2 h1)
    have ht : Turn X σ m w s' (.var (cs.take off ++ us ++ cs.drop (off + us.length))) (m s') _ := turn_set (cs := (c.toList.take off ++ (a.eval y').cells.toList ++ c.toList.drop (off + (a.eval y').cells.size)).toArray) hr (.var cs _ hb rfl rfl) hl
    have hspl := RelA.splice (ok := X.ok m) (w := w) (b := σ.b) (m := m) ⟨hz, hcs⟩ hA hle (splice_size hle2) (fun k => by rw [splice_getD hle2, hA.1])
    refine gives_at (m' := upd m s' (m s')) (.inr ⟨hrun, rfl⟩) h (hr.turn ht (fun q => ⟨by simp [hb], by simp⟩) ?_) (.d (.v _))
    unfold SlotOK
    rw [upd_same, upd_same]
    refine ⟨hl, _, e, setRow_heap _ _ _ _ _ _ hh, hspl.1, fun i hi => ?_, fun i hi => ht.relC (hspl.2 i hi)⟩
    rw [splice_getD hle2]
    split
    · exact one_getD h1 (by omega)
    · exact hone i (by have := hspl.1; rw [splice_size hle2] at this; omega)
  · rename_i s' i j tot us hs' hus
    obtain ⟨rfl, hst, h⟩ := h
    rw [hs'] at hRx
    split at h <;> try (exact h.elim)
    rename_i esz els ds hb hds
    obtain ⟨ht0, hi, hle, h⟩ := h
    obtain ⟨hA, h1⟩ := cells_relA hRy hus hst
    obtain ⟨hv, hl, _⟩ := rptr_val hRx hb ht0
    rcases slot_row hr hb with ⟨hnl, _⟩ | ⟨_, c, e, hh, hz, hcap, hel, hone, hcs⟩
    · rw [hl] at hnl; cases hnl
    have hgd : els.getD i [] = els[i] := by simp [List.getD, hi]
    rw [hgd] at hle h
    have hlen := hel i hi
    have husds := toDs_get hds
    have hul : us.length = ds.length := by rw [husds]; simp
    have hsz := chkSh_size hsh hus
    rw [← hA.1] at hsz
    have hposs : (i + 1) * esz ≤ (m s').cap * esz := Nat.mul_le_mul_right _ (by omega)
    rw [Nat.add_mul] at hposs
    have hle2 : i * esz + j + (a.eval y').cells.size ≤ c.size := by rw [hA.1, hz]; omega
    have hrun := hex hv (run_storeVar_at hh hsz hle2 h1)
    have hlen3 : (els[i].take j ++ ds ++ els[i].drop (j + ds.length)).length = els[i].length := by simp; omega
    have ht : Turn X σ m w s' (.row esz (els.set i (els[i].take j ++ ds ++ els[i].drop (j + ds.length)))) (m s') _ :=
      turn_set (cs := (c.toList.take (i * esz + j) ++ (a.eval y').cells.toList ++ c.toList.drop (i * esz + j + (a.eval y').cells.size)).toArray) hr (.rowSet esz els _ hb rfl (by simp) rfl) hl
    refine gives_at (m' := upd m s' (m s')) (.inr ⟨hrun, rfl⟩) h (hr.turn ht (fun q => ⟨by simp [hb], by simp⟩) ?_) (.d (.v _))
    unfold SlotOK
    rw [upd_same, upd_same]
    refine .inr ⟨hl, _, e, setRow_heap _ _ _ _ _ _ hh, (splice_size hle2).trans hz, by simpa using hcap, fun i' hi' => ?_, fun k hk => ?_, fun i' j' hi' hj' => ht.relD ?_⟩
    · rw [List.getElem_set]; split
      · rw [hlen3, hlen]
      · exact hel i' (by simpa using hi')
    · rw [splice_getD hle2]
      split
      · exact one_getD h1 (by omega)
      · exact hone k (by simpa using hk)
    · have hi'' : i' < els.length := by simpa using hi'
      rw [splice_getD hle2]
      by_cases e1 : i = i'
      · subst e1
        have hjl : j' < esz := by simp [List.getElem_set] at hj'; omega
        by_cases hc2 : j ≤ j' ∧ j' < j + ds.length
        · rw [if_pos (by rw [hA.1, hul]; omega)]
          have hu := hA.2 (j' - j) (by omega)
          have e2 : us[j' - j]'(by omega) = .d (ds[j' - j]'(by omega)) := by simp [husds]
          rw [e2] at hu
          have := relC_d hu
          have e3 : (els.set i (els[i].take j ++ ds ++ els[i].drop (j + ds.length)))[i][j'] = ds[j' - j]'(by omega) := by
            simp only [List.getElem_set_self]
            rw [List.getElem_append_left (by simp; omega), List.getElem_append_right (by simp; omega)]
            congr 1; simp; omega
          rw [e3]
          have e4 : i * esz + j' - (i * esz + j) = j' - j := by omega
          rw [e4]; exact this
        · rw [if_neg (by rw [hA.1, hul]; omega)]
          have := hcs i j' hi (by omega)
          have e3 : (els.set i (els[i].take j ++ ds ++ els[i].drop (j + ds.length)))[i][j'] = els[i][j']'(by omega) := by
            simp only [List.getElem_set_self]
            by_cases hlt : j' < j
            · rw [List.getElem_append_left (by simp; omega), List.getElem_append_left (by simp; omega)]; simp
            · rw [List.getElem_append_right (by simp; omega)]
              simp only [List.getElem_drop]; congr 1; simp; omega
          rw [e3]; exact this
      · have hj'' : j' < (els[i']).length := by simpa [List.getElem_set, e1] using hj'
        have hjl := hel i' hi''
        have hne : ¬ (i * esz + j ≤ i' * esz + j' ∧ i' * esz + j' < i * esz + j + (a.eval y').cells.size) := by
          rw [hA.1, hul]
          rcases Nat.lt_or_gt_of_ne e1 with hlt | hlt
          · have : (i + 1) * esz ≤ i' * esz := Nat.mul_le_mul_right _ hlt
            rw [Nat.add_mul] at this; omega
          · have : (i' + 1) * esz ≤ i * esz := Nat.mul_le_mul_right _ hlt
            rw [Nat.add_mul] at this; omega
        rw [if_neg hne]
        have := hcs i' j' hi'' hj''
        simpa [List.getElem_set, e1] using this
  · exact h.elim

theorem op_alloc {s : Nat} {sh : Sh} {zs : List Z} (hc : chkA P o.op (.alloc s sh zs) = true) (h : opA P (.alloc s sh zs) σ K) (hr : Rel X σ m a w) : Gives P o a w (Post X σ a K) := by
  cases hop : o.op <;> rw [hop] at hc <;> simp only [chkA, Bool.false_eq_true] at hc
  rename_i t
  simp only [opA] at h
  split at h <;> try (exact h.elim)
  rename_i hb
  obtain ⟨i, z, hi, hz, hA⟩ := zero_rel (P := P) (w := w) (m := m) (ok := X.ok m) (b := σ.b) hc
  have hrun : (execOp a.eval o).run P w = .ok (.value (.pointer (some ⟨w.heap.size, 0, none⟩))) (w.alloc (.cells z.cells t)) := by
    simp [execOp, hop, Instr.alloc, zeroValue, run_typeInfo_some hi, hz, newVar, newRow]
  have ht : Turn X σ m w s (.var (zs.map zC)) ⟨true, w.heap.size, 0⟩ _ := turn_new (ob := .cells z.cells t) (.inl rfl) (.fresh hb) rfl
  refine gives_at (m' := upd m s ⟨true, w.heap.size, 0⟩) (.inl hrun) h (hr.turn ht (fun q => ⟨by simp [hb], by simp⟩) ?_) ?_
  · unfold SlotOK
    rw [upd_same, upd_same]
    exact ⟨rfl, _, t, heap_new _ _, hA.1, fun i hj => one_getD (zero_one hc hi hz) (by rw [hA.1]; exact hj), fun i hi => ht.relC (hA.2 i hi)⟩
  · have := RelC.ptr (ok := X.ok (upd m s ⟨true, w.heap.size, 0⟩)) (w := w.alloc (.cells z.cells t)) (b := upd σ.b s (.var (zs.map zC))) (m := upd m s ⟨true, w.heap.size, 0⟩) s 0 _ (upd_same _ _ _)
    rwa [upd_same] at this

theorem op_box {s : Nat} {sh : Sh} {x : Opnd} (hc : chkA P o.op (.box s sh x) = true) (h : opA P (.box s sh x) σ K) (hr : Rel X σ m a w) : Gives P o a w (Post X σ a K) := by
  cases hop : o.op <;> rw [hop] at hc <;> simp only [chkA, Bool.false_eq_true] at hc
  rename_i t x'
  have hR := chkO_sound hr hc
  simp only [opA] at h
  split at h <;> try (exact h.elim)
  rename_i us hb hus
  obtain ⟨hst, h⟩ := h
  obtain ⟨hA, h1⟩ := cells_relA hR hus hst
  have hrun : (execOp a.eval o).run P w = .ok (.value (.pointer (some ⟨w.heap.size, 0, none⟩))) (w.alloc (.cells (a.eval x').cells t)) := by
    simp [execOp, hop, Instr.box, newVar, newRow]
  have ht : Turn X σ m w s (.var us) ⟨true, w.heap.size, 0⟩ _ := turn_new (ob := .cells (a.eval x').cells t) (.inl rfl) (.fresh hb) rfl
  refine gives_at (m' := upd m s ⟨true, w.heap.size, 0⟩) (.inl hrun) h (hr.turn ht (fun q => ⟨by simp [hb], by simp⟩) ?_) ?_
  · unfold SlotOK
    rw [upd_same, upd_same]
    exact ⟨rfl, _, t, heap_new _ _, hA.1, fun i hj => one_getD h1 (by rw [hA.1]; exact hj), fun i hi => ht.relC (hA.2 i hi)⟩
  · have := RelC.ptr (ok := X.ok (upd m s ⟨true, w.heap.size, 0⟩)) (w := w.alloc (.cells (a.eval x').cells t)) (b := upd σ.b s (.var us)) (m := upd m s ⟨true, w.heap.size, 0⟩) s 0 _ (upd_same _ _ _)
    rwa [upd_same] at this

theorem op_nilrow {s esz : Nat} (hc : chkA P o.op (.nilrow s esz) = true) (h : opA P (.nilrow s esz) σ K) (hr : Rel X σ m a w) : Gives P o a w (Post X σ a K) := by
  have hrun : (execOp a.eval o).run P w = .ok (.value (.slice none 0 0)) w := by
    unfold chkA at hc
    split at hc <;> first | (rename_i e1 e2; cases e1; simp [execOp, e2, Act.eval]; done) | (rename_i e1 e2; cases e1; done) | (rename_i e1; cases e1; done) | skip
    all_goals first | (cases hc; done) | skip
    all_goals (rename_i e1 e2; rw [e2] at *; simp [execOp, Act.eval] at *; done)
  simp only [opA] at h
  split at h <;> try (exact h.elim)
  rename_i hb
  have hnl : (m s).live = false := by have := hr.slots s; unfold SlotOK at this; rw [hb] at this; exact this
  have ht : Turn X σ m w s (.row esz []) ⟨false, 0, 0⟩ w := ⟨rfl, rfl, rfl, Nat.le_refl _, fun _ _ _ => rfl, .fresh hb, fun h => by cases h⟩
  refine gives_at (m' := upd m s ⟨false, 0, 0⟩) (.inl hrun) h (hr.turn ht (fun q => ⟨by simp [hb], by simp⟩) ?_) ?_
  · unfold SlotOK
    rw [upd_same, upd_same]
    exact .inl ⟨rfl, rfl⟩
  · exact .rowNil s esz (upd_same _ _ _) (by rw [upd_same])

end
end Go.AM
