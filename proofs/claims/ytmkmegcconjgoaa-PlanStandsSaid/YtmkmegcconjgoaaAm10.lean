/- The abstract machine, part 10: slice literals, make, append. No condition. -/
import Derived.Test.YtmkmegcconjgoaaAm9
import Derived.Great.BuildSlice
import Derived.IntWalk
set_option linter.unusedVariables false
set_option linter.unusedSimpArgs false
namespace Go.AM
open Go
section
variable {P : Program} {X : Ctx} {σ : St} {m : Nat → Loc} {a : Act} {w : World} {o : Oper} {K : AC → (Nat → ABlk) → Prop}

theorem foot_alloc (C : Nat → Prop) (w : World) (ob : Obj) : Foot C w (w.alloc ob) := ⟨rfl, rfl, rfl, by simp, fun k hk _ => Go.RowKit.Below.heap_alloc _ _ _ hk⟩
theorem foot_drew (C : Nat → Prop) (w : World) : Foot C w w.drew := ⟨rfl, rfl, rfl, Nat.le_refl _, fun _ _ _ => rfl⟩

/-- A block that no slot has, laid since the frame began, is 'ok'. -/
theorem ok_new (hr : Rel X σ m a w) : X.ok m w.heap.size := ⟨.inr hr.foot.size, fun s hl e => by have := hr.blkLt hl; omega⟩

theorem fill_els (hr : Rel X σ m a w) {e : TypeId} {sh : Sh} {esz : Nat} (hsh : chkSh P e sh = true) (hsz : sizeIs P e esz = true) :
    ∀ (ps : List (Nat × Operand)) (xs : List Opnd) (n : Nat) (es : List (List D)) (cs : Array Value), chkEls P n ps xs = true → elsC σ.b σ.t sh xs = some es → (n + xs.length) * esz ≤ cs.size →
      ∃ cs', Instr.fill (fun i => some (i * esz, esz)) cs (ps.map fun x => (x.1, a.eval x.2)) = some cs' ∧ cs'.size = cs.size ∧ es.length = xs.length ∧ (∀ k, k < n * esz → cs'.getD k undef = cs.getD k undef) ∧
        (∀ i (hi : i < es.length), (es[i]).length = esz) ∧ (∀ k, n * esz ≤ k → k < (n + es.length) * esz → (cs'.getD k undef).oneCell' = true) ∧ ∀ i j (hi : i < es.length) (hj : j < (es[i]).length), RelD (X.ok m) w ((es[i])[j]) (cs'.getD ((n + i) * esz + j) undef)
  | [], [], n, es, cs, _, hE, _ => by simp [elsC] at hE; subst hE; exact ⟨cs, rfl, rfl, rfl, fun _ _ => rfl, fun i hi => by simp at hi, fun k h1 h2 => by simp at h2; omega, fun i j hi => by simp at hi⟩
  | [], _ :: _, _, _, _, h, _, _ => by simp [chkEls] at h
  | _ :: _, [], _, _, _, h, _, _ => by simp [chkEls] at h
  | (i0, x) :: ps, y :: xs, n, es, cs, hc, hE, hle => by
    simp only [chkEls, Bool.and_eq_true, beq_iff_eq] at hc
    obtain ⟨⟨rfl, hx⟩, hrest⟩ := hc
    simp only [elsC] at hE
    split at hE <;> try (cases hE; done)
    rename_i us hus
    split at hE <;> try (cases hE; done)
    rename_i hst
    split at hE <;> try (cases hE; done)
    rename_i ds es' hds hes'
    cases hE
    have hR := chkO_sound hr hx
    obtain ⟨hA, hAone⟩ := cells_relA hR hus hst
    have hul : us.length = esz := by
      have h1 := chkSh_size hsh hus
      unfold sizeIs at h1 hsz
      split at h1 <;> try (cases h1; done)
      rename_i i hi; rw [hi] at hsz; simp at h1 hsz; omega
    have hdl : ds.length = esz := by have := toDs_get hds; have := congrArg List.length this; simp at this; omega
    have hvz : (a.eval x).cells.size = esz := hA.1.trans hul
    simp only [List.length_cons] at hle
    have hle1 : i0 * esz + esz ≤ cs.size := by have : (i0 + 1) * esz ≤ (i0 + (xs.length + 1)) * esz := Nat.mul_le_mul_right _ (by omega); rw [Nat.add_mul] at this; omega
    have hz1 := foldSet_size (i0 * esz) (a.eval x).cells.toList 0 cs
    obtain ⟨cs', h1, h2, h3, h4, h5, h5', h6⟩ := fill_els hr hsh hsz ps xs (i0 + 1) es' (((a.eval x).cells.toList.zipIdx 0).foldl (fun cs (x : Value × Nat) => cs.setIfInBounds (i0 * esz + x.2) x.1) cs) hrest hes' (by rw [hz1]; rw [show i0 + 1 + xs.length = i0 + (xs.length + 1) by omega]; exact hle)
    refine ⟨cs', ?_, h2.trans hz1, by simp [h3], fun k hk => ?_, fun i hi => ?_, fun k hk1 hk2 => ?_, fun i j hi hj => ?_⟩
    · simp only [List.map_cons, Instr.fill]
      rw [if_neg (by simp [hvz]; omega)]
      rw [← Array.foldl_toList, Array.toList_zipIdx]
      exact h1
    · rw [h4 k (by rw [Nat.add_mul]; omega), foldSet_getD _ _ _ _ _ (by simpa [hvz] using hle1), if_neg (by simp; omega)]
    · cases i with
      | zero => exact hdl
      | succ i => exact h5 i (by simpa using hi)
    · by_cases hlt : k < (i0 + 1) * esz
      · rw [h4 k hlt, foldSet_getD _ _ _ _ _ (by simpa [hvz] using hle1), if_pos (by rw [Nat.add_mul] at hlt; simp [hvz]; omega)]
        have := one_getD hAone (k := k - i0 * esz) (by rw [Nat.add_mul] at hlt; omega)
        simpa [List.getD, Array.getD_eq_getD_getElem?] using this
      · exact h5' k (by omega) (by rw [show i0 + 1 + es'.length = i0 + (ds :: es').length by simp; omega]; exact hk2)
    · cases i with
      | zero =>
        have hj' : j < ds.length := hj
        have e0 : cs'.getD ((i0 + 0) * esz + j) undef = (a.eval x).cells.getD j undef := by
          rw [Nat.add_zero, h4 _ (by rw [Nat.add_mul]; omega), foldSet_getD _ _ _ _ _ (by simpa [hvz] using hle1), if_pos (by simp [hvz]; omega)]
          simp [List.getD, Array.getD_eq_getD_getElem?]
        rw [e0]
        have hu := hA.2 j (by omega)
        have e2 : us[j]'(by omega) = .d (ds[j]) := by simp [toDs_get hds]
        rw [e2] at hu
        exact relC_d hu
      | succ i =>
        have := h6 i j (by simpa using hi) hj
        rwa [show i0 + 1 + i = i0 + (i + 1) by omega] at this

theorem op_bsl {esz : Nat} {sh : Sh} {xs : List Opnd} (hc : chkA P o.op (.bsl esz sh xs) = true) (h : opA P (.bsl esz sh xs) σ K) (hr : Rel X σ m a w) : Gives P o a w (Post X σ a K) := by
  cases hop : o.op <;> rw [hop] at hc <;> simp only [chkA, Bool.false_eq_true, Bool.and_eq_true, beq_iff_eq, decide_eq_true_eq] at hc
  rename_i t n ps
  obtain ⟨⟨⟨hf, rfl⟩, hsm⟩, hE⟩ := hc
  split at hf <;> try (cases hf; done)
  rename_i e hu
  simp only [Bool.and_eq_true] at hf
  obtain ⟨⟨hsz, hsh⟩, hz⟩ := hf
  obtain ⟨z, hz⟩ := Option.isSome_iff_exists.1 hz
  simp only [opA] at h
  split at h <;> try (exact h.elim)
  rename_i es hes
  obtain ⟨_, h⟩ := h
  obtain ⟨ie, hie, hiz⟩ : ∃ ie, P.info? e = some ie ∧ ie.zero = some z := by
    unfold zeroOf at hz
    cases hi : P.info? e with
    | none => simp [hi] at hz
    | some i => exact ⟨i, rfl, by simpa [hi] using hz⟩
  have hisz : ie.size = esz := by simpa [sizeIs, hie] using hsz
  obtain ⟨cs', h1, h2, h3, _, h5, h5', h6⟩ := fill_els (P := P) hr hsh hsz ps.toList xs 0 es ((Array.range (xs.length * esz)).map (z.cells[· % z.cells.size]!)) hE hes (by simp)
  have hmap : (ps.map fun (x : Nat × Operand) => (x.1, a.eval x.2)).toList = ps.toList.map fun x => (x.1, a.eval x.2) := by simp
  have hrun : (execOp a.eval o).run P w = .ok (.value (.slice (some ⟨w.heap.size, 0, none⟩) xs.length xs.length)) (w.alloc (.cells cs' e)) := by
    by_cases hpos : xs.length * ie.size = 0
    · have hcs : cs' = #[] := by
        have : cs'.size = 0 := by rw [h2]; simp; rw [← hisz]; exact hpos
        exact Array.eq_empty_of_size_eq_zero this
      have hr0 : (Array.range (xs.length * esz)).map (z.cells[· % z.cells.size]!) = #[] := by rw [← hisz, hpos]; simp
      rw [hr0] at h1
      have h1' := h1
      rw [← hmap] at h1'
      simp only [execOp, hop, Instr.buildSlice, Sem.run_bind, run_underlying' hu, Result.andThen_ok, sizeOf, run_typeInfo_some hie, Sem.run_pure, hpos]
      have hne : ¬ (0 > 2 ^ 24) := by omega
      have hr1 : (Array.range 0).map ((#[] : Array Value)[· % (#[] : Array Value).size]!) = #[] := by simp
      have h1'' : Instr.fill (fun i => some (i * ie.size, ie.size)) ((Array.range 0).map ((#[] : Array Value)[· % (#[] : Array Value).size]!)) ((ps.map fun x => (x.1, a.eval x.2)).toList) = some cs' := by rw [hr1, hisz]; exact h1'
      have hrg : Array.range 0 = #[] := by simp [Array.range]
      rw [← hisz] at h1
      simp [hrg, h1, newRow, zeroValue, run_typeInfo_some hie, hiz]
    · have := run_buildSlice (P := P) w t e xs.length (ps.map fun (i, x) => (i, a.eval x)) cs' ie z hu hie hiz (by rw [hisz]; omega) hpos (by rw [hisz]; rw [← hmap] at h1; exact h1)
      simp only [execOp, hop, Sem.run_bind, this]; rfl
  have hfoot := foot_alloc (fun _ => False) w (.cells cs' e)
  refine gives_at (m' := m) (.inl hrun) h (hr.grow hfoot) (.d ?_)
  have hmono : ∀ {x : D} {v : Value}, RelD (X.ok m) w x v → RelD (X.ok m) (w.alloc (.cells cs' e)) x v := fun hx => hx.mono hfoot.size (fun b o' u _ hu => by
    rw [cell_same (w := w)]
    · exact hu
    · exact hfoot.block b (cell_lt hu) (fun h => h)) (fun _ _ h => h)
  rw [← h3]
  refine .list es w.heap.size 0 es.length esz (fun i j => cs'.getD (i * esz + j) undef) (ok_new hr) (by simp) (Nat.le_refl _) h5 (fun i j hi hj => ?_) (fun i j hi hj => h5' _ (by simp) (by rw [Nat.zero_add]; exact pos_lt hi hj)) (fun i j hi hj => hmono (by simpa using h6 i j hi hj))
  rw [Nat.zero_add]
  refine cell_of (heap_new w _) ?_
  rw [h2]; simp; rw [← h3]; exact pos_lt hi hj

theorem op_bslr {s esz : Nat} {sh : Sh} {xs : List Opnd} (hc : chkA P o.op (.bslr s esz sh xs) = true) (h : opA P (.bslr s esz sh xs) σ K) (hr : Rel X σ m a w) : Gives P o a w (Post X σ a K) := by
  cases hop : o.op <;> rw [hop] at hc <;> simp only [chkA, Bool.false_eq_true, Bool.and_eq_true, beq_iff_eq, decide_eq_true_eq] at hc
  rename_i t n ps
  obtain ⟨⟨⟨hf, rfl⟩, hsm⟩, hE⟩ := hc
  split at hf <;> try (cases hf; done)
  rename_i e hu
  simp only [Bool.and_eq_true] at hf
  obtain ⟨⟨hsz, hsh⟩, hz⟩ := hf
  obtain ⟨z, hz⟩ := Option.isSome_iff_exists.1 hz
  simp only [opA] at h
  split at h <;> try (exact h.elim)
  rename_i es hes hb
  obtain ⟨_, h⟩ := h
  obtain ⟨ie, hie, hiz⟩ : ∃ ie, P.info? e = some ie ∧ ie.zero = some z := by
    unfold zeroOf at hz
    cases hi : P.info? e with
    | none => simp [hi] at hz
    | some i => exact ⟨i, rfl, by simpa [hi] using hz⟩
  have hisz : ie.size = esz := by simpa [sizeIs, hie] using hsz
  obtain ⟨cs', h1, h2, h3, _, h5, h5', h6⟩ := fill_els (P := P) hr hsh hsz ps.toList xs 0 es ((Array.range (xs.length * esz)).map (z.cells[· % z.cells.size]!)) hE hes (by simp)
  have hmap : (ps.map fun (x : Nat × Operand) => (x.1, a.eval x.2)).toList = ps.toList.map fun x => (x.1, a.eval x.2) := by simp
  have hrun : (execOp a.eval o).run P w = .ok (.value (.slice (some ⟨w.heap.size, 0, none⟩) xs.length xs.length)) (w.alloc (.cells cs' e)) := by
    by_cases hpos : xs.length * ie.size = 0
    · have hcs : cs' = #[] := by
        have : cs'.size = 0 := by rw [h2]; simp; rw [← hisz]; exact hpos
        exact Array.eq_empty_of_size_eq_zero this
      have hr0 : (Array.range (xs.length * esz)).map (z.cells[· % z.cells.size]!) = #[] := by rw [← hisz, hpos]; simp
      rw [hr0] at h1
      have h1' := h1
      rw [← hmap] at h1'
      simp only [execOp, hop, Instr.buildSlice, Sem.run_bind, run_underlying' hu, Result.andThen_ok, sizeOf, run_typeInfo_some hie, Sem.run_pure, hpos]
      have hne : ¬ (0 > 2 ^ 24) := by omega
      have hr1 : (Array.range 0).map ((#[] : Array Value)[· % (#[] : Array Value).size]!) = #[] := by simp
      have h1'' : Instr.fill (fun i => some (i * ie.size, ie.size)) ((Array.range 0).map ((#[] : Array Value)[· % (#[] : Array Value).size]!)) ((ps.map fun x => (x.1, a.eval x.2)).toList) = some cs' := by rw [hr1, hisz]; exact h1'
      have hrg : Array.range 0 = #[] := by simp [Array.range]
      rw [← hisz] at h1
      simp [hrg, h1, newRow, zeroValue, run_typeInfo_some hie, hiz]
    · have := run_buildSlice (P := P) w t e xs.length (ps.map fun (i, x) => (i, a.eval x)) cs' ie z hu hie hiz (by rw [hisz]; omega) hpos (by rw [hisz]; rw [← hmap] at h1; exact h1)
      simp only [execOp, hop, Sem.run_bind, this]; rfl
  have ht : Turn X σ m w s (.row esz es) ⟨true, w.heap.size, es.length⟩ _ := turn_new (ob := .cells cs' e) (.inl rfl) (.fresh hb) rfl
  rw [← h3] at hrun
  refine gives_at (m' := upd m s ⟨true, w.heap.size, es.length⟩) (.inl hrun) h (hr.turn ht (fun q => ⟨by simp [hb], by simp⟩) ?_) ?_
  · unfold SlotOK
    rw [upd_same, upd_same]
    refine .inr ⟨rfl, cs', e, heap_new _ _, by rw [h2]; simp [h3], Nat.le_refl _, h5, fun k hk => h5' k (by simp) (by simpa using hk), fun i j hi hj => ht.relD (by simpa using h6 i j hi hj)⟩
  · have := RelC.row (ok := X.ok (upd m s ⟨true, w.heap.size, es.length⟩)) (w := w.alloc (.cells cs' e)) (b := upd σ.b s (.row esz es)) (m := upd m s ⟨true, w.heap.size, es.length⟩) s 0 es.length esz es (upd_same _ _ _) (by rw [upd_same]) (by simp)
    rw [upd_same] at this
    simpa using this

theorem op_boxd {sh : Sh} {x : Opnd} (hc : chkA P o.op (.boxd sh x) = true) (h : opA P (.boxd sh x) σ K) (hr : Rel X σ m a w) : Gives P o a w (Post X σ a K) := by
  cases hop : o.op <;> rw [hop] at hc <;> simp only [chkA, Bool.false_eq_true] at hc
  rename_i t x'
  have hR := chkO_sound hr hc
  simp only [opA] at h
  split at h <;> try (exact h.elim)
  rename_i us hus
  split at h <;> try (exact h.elim)
  rename_i ds hds
  obtain ⟨hst, h⟩ := h
  have hud := toDs_get hds
  have hst' : us.all (standsB σ.b) = true := by
    rw [List.all_eq_true] at hst ⊢
    intro c hc
    rw [hud] at hc
    obtain ⟨y, hy, rfl⟩ := List.mem_map.1 hc
    exact hst y hy
  obtain ⟨hA, h1⟩ := cells_relA hR hus hst'
  have hrun : (execOp a.eval o).run P w = .ok (.value (.pointer (some ⟨w.heap.size, 0, none⟩))) (w.alloc (.cells (a.eval x').cells t)) := by
    simp [execOp, hop, Instr.box, newVar, newRow]
  have hfoot := foot_alloc (fun _ => False) w (.cells (a.eval x').cells t)
  have hlen : us.length = ds.length := by rw [hud]; simp
  refine gives_at (m' := m) (.inl hrun) h (hr.grow hfoot) (.d ?_)
  refine .fptr ds w.heap.size 0 (fun j => (a.eval x').cells.getD j undef) (ok_new hr) (by simp) (fun j hj => ?_) (fun j hj => one_getD h1 (by rw [hA.1]; omega)) (fun j hj => ?_)
  · rw [Nat.zero_add]; exact cell_of (heap_new w _) (by rw [hA.1]; omega)
  · have := hA.2 j (by omega)
    have e2 : us[j]'(by omega) = .d (ds[j]) := by simp [hud]
    rw [e2] at this
    exact (relC_d this).mono hfoot.size (fun b o' u _ hu => by
      rw [cell_same (w := w)]
      · exact hu
      · exact hfoot.block b (cell_lt hu) (fun h => h)) (fun _ _ h => h)

theorem op_mks {s esz : Nat} {zs : List Z} {x : Opnd} (hc : chkA P o.op (.mks s esz zs x) = true) (h : opA P (.mks s esz zs x) σ K) (hr : Rel X σ m a w) : Gives P o a w (Post X σ a K) := by
  cases hop : o.op <;> rw [hop] at hc <;> simp only [chkA, Bool.false_eq_true, Bool.and_eq_true] at hc
  rename_i t l c
  obtain ⟨⟨hf, hl⟩, hcc⟩ := hc
  split at hf <;> try (cases hf; done)
  rename_i e hu
  simp only [Bool.and_eq_true, beq_iff_eq] at hf
  obtain ⟨⟨⟨hsz, hby⟩, hz⟩, hzl⟩ := hf
  simp only [opA] at h
  split at h <;> try (exact h.elim)
  rename_i n hn hb
  obtain ⟨h0, hmost, h⟩ := h
  have el := relC_v (hn ▸ chkO_sound hr hl)
  have ec := relC_v (hn ▸ chkO_sound hr hcc)
  obtain ⟨i, z, hi, hiz, hA⟩ := zero_rel (P := P) (w := w) (m := m) (ok := X.ok m) (b := σ.b) hz
  have hisz : i.size = esz := by simpa [sizeIs, hi] using hsz
  have hbytes : i.bytes ≤ 4096 := by simp [bytesSmall, hi] at hby; exact hby.1
  have hzz : z.cells.size = esz := by rw [hA.1]; simpa using hzl
  have hmost' : n ≤ 4294967296 := by simpa [most] using hmost
  have hwrap : IntKind.i64.wrap n = n := IntWalk.i64_in n ⟨by omega, by omega⟩
  have hmul : (i.bytes : Int) * n ≤ 281474976710656 := by
    have h1 : (i.bytes : Int) * n ≤ 4096 * n := Int.mul_le_mul_of_nonneg_right (by omega) h0
    omega
  obtain ⟨cs, hcs⟩ : ∃ cs, cs = (Array.range (n.toNat * esz)).map (z.cells[· % z.cells.size]!) := ⟨_, rfl⟩
  have hrun : (execOp a.eval o).run P w = .ok (.value (.slice (some ⟨w.heap.size, 0, none⟩) n.toNat n.toNat)) (w.alloc (.cells cs e)) := by
    have hnb : ¬ (281474976710656 < (i.bytes : Int) * n) := by omega
    have hnl : ¬ n < 0 := by omega
    by_cases hz0 : n.toNat * esz = 0
    · have : cs = #[] := by rw [hcs, hz0]; simp
      subst this
      have hrg : Array.range 0 = #[] := by simp [Array.range]
      simp [hrg, execOp, hop, el, ec, Instr.makeSlice, run_underlying' hu, asInt, asIntOf, run_typeInfo_some hi, hwrap, hnb, hnl, sizeOf, hisz, hz0, newRow]
    · simp [execOp, hop, el, ec, Instr.makeSlice, run_underlying' hu, asInt, asIntOf, run_typeInfo_some hi, hwrap, hnb, hnl, sizeOf, hisz, hz0, newRow, zeroValue, hiz, hcs]
  have ht : Turn X σ m w s (.row esz (List.replicate n.toNat (zs.map fun z => .v z.val))) ⟨true, w.heap.size, n.toNat⟩ _ := turn_new (ob := .cells cs e) (.inl rfl) (.fresh hb) rfl
  refine gives_at (m' := upd m s ⟨true, w.heap.size, n.toNat⟩) (.inl hrun) h (hr.turn ht (fun q => ⟨by simp [hb], by simp⟩) ?_) ?_
  · unfold SlotOK
    rw [upd_same, upd_same]
    refine .inr ⟨rfl, _, e, heap_new _ _, by simp [hcs], by simp, fun i hi => by simpa using hzl, fun k hk => ?_, fun i j hi hj => ?_⟩
    · have hk' : k < n.toNat * esz := by simpa using hk
      have hpos : 0 < esz := by rcases Nat.eq_zero_or_pos esz with h | h; · subst h; simp at hk'
                                · exact h
      have e1 : cs.getD k undef = z.cells.getD (k % z.cells.size) undef := by
        have hlt : k % z.cells.size < z.cells.size := Nat.mod_lt _ (by omega)
        simp [hcs, Array.getD, hk', hlt]
      rw [e1]; exact one_getD (zero_one hz hi hiz) (Nat.mod_lt _ (by omega))
    have hi' : i < n.toNat := by simpa using hi
    have hj' : j < zs.length := by simpa using hj
    have e1 : cs.getD (i * esz + j) undef = z.cells.getD j undef := by
      have hlt := pos_lt hi' (show j < esz by omega)
      have hmod : (i * esz + j) % z.cells.size = j := by rw [hzz, Nat.add_comm, Nat.add_mul_mod_self_right, Nat.mod_eq_of_lt (by omega)]
      simp [hcs, Array.getD, hlt, hmod, show j < z.cells.size by omega]
    rw [e1]
    have := hA.2 j (by simpa using hj')
    simp only [List.getElem_replicate, List.getElem_map] at this ⊢
    exact ht.relD (relC_d this)
  · have := RelC.row (ok := X.ok (upd m s ⟨true, w.heap.size, n.toNat⟩)) (w := w.alloc (.cells cs e)) (b := upd σ.b s (.row esz (List.replicate n.toNat (zs.map fun z => .v z.val)))) (m := upd m s ⟨true, w.heap.size, n.toNat⟩) s 0 n.toNat esz _ (upd_same _ _ _) (by rw [upd_same]) (by simp)
    rw [upd_same] at this
    simpa using this

theorem op_mkv {s : Nat} {z0 : Z} {x : Opnd} (hc : chkA P o.op (.mkv s z0 x) = true) (h : opA P (.mkv s z0 x) σ K) (hr : Rel X σ m a w) : Gives P o a w (Post X σ a K) := by
  cases hop : o.op <;> rw [hop] at hc <;> simp only [chkA, Bool.false_eq_true, Bool.and_eq_true] at hc
  rename_i t l c
  obtain ⟨⟨hf, hl⟩, hcc⟩ := hc
  split at hf <;> try (cases hf; done)
  rename_i e hu
  simp only [Bool.and_eq_true, beq_iff_eq] at hf
  obtain ⟨⟨hsz, hby⟩, hz⟩ := hf
  have hzl : ([z0] : List Z).length = 1 := rfl
  obtain ⟨esz, hesz⟩ : ∃ esz : Nat, esz = 1 := ⟨1, rfl⟩
  rw [← hesz] at hsz hzl
  simp only [opA] at h
  split at h <;> try (exact h.elim)
  rename_i n hn hb
  obtain ⟨h0, hmost, h⟩ := h
  have el := relC_v (hn ▸ chkO_sound hr hl)
  have ec := relC_v (hn ▸ chkO_sound hr hcc)
  obtain ⟨i, z, hi', hiz, hA⟩ := zero_rel (P := P) (w := w) (m := m) (ok := X.ok m) (b := σ.b) hz
  have hisz : i.size = esz := by simpa [sizeIs, hi'] using hsz
  have hbytes : i.bytes ≤ 4096 := by simp [bytesSmall, hi'] at hby; exact hby.1
  have hzz : z.cells.size = esz := by rw [hA.1]; simpa using hzl
  have hmost' : n ≤ 4294967296 := by simpa [most] using hmost
  have hwrap : IntKind.i64.wrap n = n := IntWalk.i64_in n ⟨by omega, by omega⟩
  have hmul : (i.bytes : Int) * n ≤ 281474976710656 := by
    have h1 : (i.bytes : Int) * n ≤ 4096 * n := Int.mul_le_mul_of_nonneg_right (by omega) h0
    omega
  obtain ⟨cs, hcs⟩ : ∃ cs, cs = (Array.range (n.toNat * esz)).map (z.cells[· % z.cells.size]!) := ⟨_, rfl⟩
  have hrun : (execOp a.eval o).run P w = .ok (.value (.slice (some ⟨w.heap.size, 0, none⟩) n.toNat n.toNat)) (w.alloc (.cells cs e)) := by
    have hnb : ¬ (281474976710656 < (i.bytes : Int) * n) := by omega
    have hnl : ¬ n < 0 := by omega
    by_cases hz0 : n.toNat * esz = 0
    · have : cs = #[] := by rw [hcs, hz0]; simp
      subst this
      have hrg : Array.range 0 = #[] := by simp [Array.range]
      simp [hrg, execOp, hop, el, ec, Instr.makeSlice, run_underlying' hu, asInt, asIntOf, run_typeInfo_some hi', hwrap, hnb, hnl, sizeOf, hisz, hz0, newRow]
    · simp [execOp, hop, el, ec, Instr.makeSlice, run_underlying' hu, asInt, asIntOf, run_typeInfo_some hi', hwrap, hnb, hnl, sizeOf, hisz, hz0, newRow, zeroValue, hiz, hcs]
  have ht : Turn X σ m w s (.var (List.replicate n.toNat (zC z0))) ⟨true, w.heap.size, n.toNat⟩ _ := turn_new (ob := .cells cs e) (.inl rfl) (.fresh hb) rfl
  have hcz : cs.size = n.toNat := by simp [hcs, hesz]
  have hz1 : z.cells.size = 1 := by omega
  have hcell : ∀ i, i < n.toNat → cs.getD i undef = z.cells.getD 0 undef := fun i hi => by
    have hmod : i % 1 = 0 := by omega
    simp [hcs, Array.getD, hesz, hi, hz1, hmod]
  refine gives_at (m' := upd m s ⟨true, w.heap.size, n.toNat⟩) (.inl hrun) h (hr.turn ht (fun q => ⟨by simp [hb], by simp⟩) ?_) ?_
  · unfold SlotOK
    rw [upd_same, upd_same]
    refine ⟨rfl, cs, e, heap_new _ _, by simp [hcz], fun i hi => ?_, fun i hi => ?_⟩
    · rw [hcell i (by simpa using hi)]
      exact one_getD (zero_one hz hi' hiz) (by omega)
    · rw [hcell i (by simpa using hi)]
      have := hA.2 0 (by simp)
      simp only [List.getElem_replicate]
      exact ht.relC (by simpa using this)
  · have := RelC.vs (ok := X.ok (upd m s ⟨true, w.heap.size, n.toNat⟩)) (w := w.alloc (.cells cs e)) (b := upd σ.b s (.var (List.replicate n.toNat (zC z0)))) (m := upd m s ⟨true, w.heap.size, n.toNat⟩) s 0 n.toNat n.toNat _ (upd_same _ _ _) (Nat.le_refl _)
    rw [upd_same] at this
    exact this

end
end Go.AM
