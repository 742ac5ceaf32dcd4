/- The abstract machine, part 17: the abstract code's weakest precondition is sound; loops over functions. No condition. -/
import Derived.Test.YtbkjfjlmhlmdbaaAm17
set_option linter.unusedVariables false
set_option linter.unusedSimpArgs false
namespace Go.AM
open Go

/-- A step of the machine's book-keeping: cells lie as they lay. -/
structure Books (w w' : World) : Prop where
  os : w'.os = w.os
  tape : w'.tape = w.tape
  output : w'.output = w.output
  size : w.heap.size ≤ w'.heap.size
  cells : ∀ (k : Nat) (o : Obj), w.heap[k]? = some o → o.isCells = true → w'.heap[k]? = some o

theorem Books.refl (w : World) : Books w w := ⟨rfl, rfl, rfl, Nat.le_refl _, fun _ _ h _ => h⟩
theorem Books.trans {a b c : World} (h : Books a b) (k : Books b c) : Books a c :=
  ⟨k.os.trans h.os, k.tape.trans h.tape, k.output.trans h.output, Nat.le_trans h.size k.size, fun i o hi ho => k.cells i o (h.cells i o hi ho) ho⟩
theorem Books.cell {w w' : World} (h : Books w w') {b o : Nat} {u : Value} (hu : w.cell? ⟨b, o, none⟩ = some u) : w'.cell? ⟨b, o, none⟩ = some u := by
  obtain ⟨x, hx, hc⟩ := cells_of_cell hu
  rw [cell_same (w := w)]
  · exact hu
  · show w'.heap[b]? = w.heap[b]?
    rw [h.cells _ _ hx hc]; exact hx.symm
theorem Books.alloc (w : World) (o : Obj) : Books w (w.alloc o) :=
  ⟨rfl, rfl, rfl, by simp, fun k x hk _ => (Go.RowKit.Below.heap_alloc w o k (heap_lt hk)).trans hk⟩
theorem Books.put (w : World) {l : Nat} {o : Obj} (o' : Obj) (h : w.heap[l]? = some o) (ho : o.isCells = false) : Books w (w.putObj l o') :=
  ⟨rfl, rfl, rfl, by simp, fun k x hk hx => (World.putObj_heap_other (fun e => by subst e; rw [h] at hk; cases hk; rw [ho] at hx; cases hx)).trans hk⟩

section
variable {P : Program} {X X' : Ctx} {σ : St} {m : Nat → Loc} {a a' : Act} {w w' : World} {ρ : Option Nat} {nn : Nat} {Q : Exit → Act → World → Prop}

/-- One frame's state becomes another's. -/
theorem Rel.switch (hr : Rel X σ m a w) {t' : Nat → AC} {b' : Nat → ABlk} (h1 : X'.ok0 = X.ok0) (h2 : X'.C = X.C) (h3 : X'.w0 = X.w0) (hB : Books w w')
    (hlow : ∀ k, k < X.w0.heap.size → w'.heap[k]? = w.heap[k]?)
    (hb : ∀ s, b' s = σ.b s ∨ ((m s).live = false ∧ (σ.b s = .fresh ∨ ∃ q, σ.b s = .mark q) ∧ (b' s = .fresh ∨ ∃ q, b' s = .mark q)))
    (ht : ∀ i, RelC (X.ok m) w σ.b m (t' i) (a'.tmps.getD i undef)) (hz : a'.tmps.size = X'.n) (hd : Marks X.w0.heap.size X'.df a'.defers w' ∧ (X'.nm = true → a'.defers = []))
    (hg : ∀ p ∈ X'.gs, RelC (X.ok m) w σ.b m p.1 p.2 ∧ onlyC X'.pr p.1 = true) (hf : ∀ p ∈ X'.fx, w'.heap[p.1]? = some p.2 ∧ p.2.isCells = false)
    (hl : ∀ i, X'.lp = some i → w'.heap[i.l]? = some (i.obj (b' i.p)) ∧ i.p ∈ X'.pr) : Rel X' ⟨t', b'⟩ m a' w' := by
  have hok : X'.ok m = X.ok m := by unfold Ctx.ok; rw [h1, h3]
  have hturn : ∀ s, Turns (σ.b s) (b' s) (m s) (m s) := fun s => by
    rcases hb s with e | ⟨_, e | ⟨q, e⟩, _⟩
    · exact .same e.symm rfl
    · exact .fresh e
    · exact .mark q e
  have hc : ∀ (b o : Nat) (u : Value), X.ok m b → w.cell? ⟨b, o, none⟩ = some u → w'.cell? ⟨b, o, none⟩ = some u := fun b o u _ hu => hB.cell hu
  have mono : ∀ {x : AC} {v : Value}, RelC (X.ok m) w σ.b m x v → RelC (X'.ok m) w' b' m x v := fun {x v} h => by
    rw [hok]; exact h.mono hB.size hc (fun _ _ h => h) hturn
  refine ⟨?_, hz, fun i => mono (ht i), fun s => ?_, hr.inj, ?_, ?_, fun p hp => ⟨mono (hg p hp).1, (hg p hp).2⟩, hf, hl⟩
  · rw [h3]; exact hd
  · rcases hb s with e | ⟨hnl, _, e⟩
    · rw [hok]
      refine (hr.slots s).mono hB.size hc (fun _ _ h => h) hturn e rfl (fun hlv => ?_)
      obtain ⟨o, ho, hcl⟩ := (hr.slots s).cells hlv
      rw [hB.cells _ _ ho hcl, ho]
    · unfold SlotOK
      simp only
      rcases e with e | ⟨q, e⟩ <;> rw [e] <;> exact hnl
  · rw [h3]; exact hr.own
  · rw [h2, h3]
    exact ⟨hB.os.trans hr.foot.os, hB.tape.trans hr.foot.tape, hB.output.trans hr.foot.output, Nat.le_trans hr.foot.size hB.size, fun k hk hC => (hlow k hk).trans (hr.foot.block k hk hC)⟩

theorem keepT_eq (t : Nat → AC) (lt : List Nat) (i : Nat) : keepT t lt i = if i ∈ lt then t i else .junk := mkT_map (f := t) lt i

theorem keepT_rel {ok : Nat → Prop} {b : Nat → ABlk} {t : Nat → AC} {lt : List Nat} {f : Nat → Value} (h : ∀ i, i ∈ lt → RelC ok w b m (t i) (f i)) (i : Nat) : RelC ok w b m (keepT t lt i) (f i) := by
  rw [keepT_eq]
  split
  · rename_i hi; exact h i hi
  · exact .junk _

theorem iniC_rel {ok : Nat → Prop} {b : Nat → ABlk} : ∀ {ds : List AC} {f : Nat → Value}, (∀ j (hj : j < ds.length), RelC ok w b m (ds[j]) (f j)) → ∀ i, RelC ok w b m (iniC ds i) (f i)
  | [], f, _, i => .junk _
  | d :: ds, f, h, 0 => h 0 (by simp)
  | d :: ds, f, h, i + 1 => iniC_rel (ds := ds) (f := fun i => f (i + 1)) (fun j hj => h (j + 1) (by simpa using hj)) i

theorem setP_rel {ok : Nat → Prop} {b : Nat → ABlk} : ∀ {ps : List Nat} {args : List AC} {vs : List Value} {t : Nat → AC} {tm : Array Value}, args.length = ps.length → vs.length = args.length → (∀ p ∈ ps, p < tm.size) →
    (∀ i, RelC ok w b m (t i) (tm.getD i undef)) → (∀ j (hj : j < args.length), RelC ok w b m (args[j]) (vs.getD j undef)) →
    (∀ i, RelC ok w b m (setP t ps args i) (((ps.zip vs).foldl (fun tm p => tm.setIfInBounds p.1 p.2) tm).getD i undef)) ∧ ((ps.zip vs).foldl (fun tm p => tm.setIfInBounds p.1 p.2) tm).size = tm.size
  | [], [], [], t, tm, _, _, _, ht, _ => ⟨ht, rfl⟩
  | p :: ps, x :: args, v :: vs, t, tm, h1, h2, hp, ht, ha => by
    have hps : p < tm.size := hp p (by simp)
    have := setP_rel (ps := ps) (args := args) (vs := vs) (t := upd t p x) (tm := tm.setIfInBounds p v) (by simpa using h1) (by simpa using h2) (fun q hq => by simpa using hp q (by simp [hq]))
      (fun i => by
        by_cases e : i = p
        · subst e; rw [upd_same]
          have e1 : (tm.setIfInBounds i v).getD i undef = v := by simp [Array.getD, hps]
          rw [e1]; exact ha 0 (by simp)
        · rw [upd_ne _ _ e]
          have : (tm.setIfInBounds p v).getD i undef = tm.getD i undef := by
            simp only [Array.getD_eq_getD_getElem?]
            rw [Array.getElem?_setIfInBounds_ne (by omega)]
          rw [this]; exact ht i) (fun j hj => ha (j + 1) (by simpa using hj))
    exact ⟨this.1, this.2.trans (by simp)⟩
  | _ :: _, [], _, _, _, h1, _, _, _, _ => by simp at h1
  | [], _ :: _, _, _, _, h1, _, _, _, _ => by simp at h1
  | _, _ :: _, [], _, _, _, h2, _, _, _ => by simp at h2
  | _, [], _ :: _, _, _, _, h2, _, _, _ => by simp at h2

/-- A variable that holds nil holds an empty row. -/
theorem FrzL.len {s : Nat} {els : List (List D)} : ∀ {cs cs' : List AC}, FrzL s els cs cs' → cs'.length = cs.length
  | [], [], _ => rfl
  | [], _ :: _, h => h.elim
  | _ :: _, [], h => h.elim
  | _ :: _, _ :: _, h => by simp [FrzL.len h.2]
theorem FrzL.get {s : Nat} {els : List (List D)} : ∀ {cs cs' : List AC}, FrzL s els cs cs' → ∀ (i : Nat) (h : i < cs.length) (h' : i < cs'.length), FrzC s els cs[i] cs'[i]
  | [], [], _, i, h, _ => by simp at h
  | [], _ :: _, h, _, _, _ => h.elim
  | _ :: _, [], h, _, _, _ => h.elim
  | _ :: _, _ :: _, h, 0, _, _ => h.1
  | _ :: _, _ :: _, h, i + 1, h1, h2 => FrzL.get h.2 i (by simpa using h1) (by simpa using h2)
/-- A row is given up: wherever it stands it is pure data from then on. -/
theorem Rel.frz (hr : Rel X σ m a w) {s esz : Nat} {els : List (List D)} {σ' : St} (hb : σ.b s = .row esz els) (hf : Frz s els σ σ') : ∃ m', Rel X σ' m' a w := by
  obtain ⟨hT, hd, hB⟩ := hf
  have ht : Turn X σ m w s .dead ⟨false, 0, 0⟩ w := ⟨rfl, rfl, rfl, Nat.le_refl _, fun _ _ _ => rfl, .dead rfl, fun h => by cases h⟩
  have hr1 : Rel X ⟨σ.t, upd σ.b s .dead⟩ (upd m s ⟨false, 0, 0⟩) a w := hr.turn ht (fun q => ⟨by simp [hb], by simp⟩) (by unfold SlotOK; simp only [upd_same])
  have hturn : ∀ q, Turns (σ.b q) (σ'.b q) (m q) (upd m s ⟨false, 0, 0⟩ q) := fun q => by
    by_cases e : q = s
    · subst e; exact .dead hd
    · rcases hB q e with h | ⟨cs, cs', h1, h2, _⟩
      · exact .same h.symm (upd_ne _ _ e).symm
      · exact .var cs cs' h1 h2 (upd_ne _ _ e).symm
  have hC : ∀ {x y : AC} {v : Value}, FrzC s els x y → RelC (X.ok m) w σ.b m x v → RelC (X.ok (upd m s ⟨false, 0, 0⟩)) w σ'.b (upd m s ⟨false, 0, 0⟩) y v := fun {x y v} hx hR => by
    rcases hx with rfl | ⟨rfl, rfl⟩
    · exact hR.mono (Nat.le_refl _) (fun _ _ _ _ h => h) ht.oks hturn
    · refine .d ?_
      have h0 := row_val hR hb rfl
      rcases h0 with ⟨hl, _, rfl⟩ | ⟨_, _, _, rfl, rfl⟩
      · rcases slot_row hr hb with ⟨hl', _⟩ | ⟨_, c, e, hh, hz, hcap, hel, hone, hcs⟩
        · rw [hl] at hl'; cases hl'
        · have hok : X.ok (upd m s ⟨false, 0, 0⟩) (m s).blk := by
            refine ⟨.inr (hr.own s hl), fun s' hl2 => ?_⟩
            by_cases e : s' = s
            · subst e; rw [upd_same] at hl2; cases hl2
            · rw [upd_ne _ _ e] at hl2 ⊢; exact fun e' => e (hr.inj _ _ hl2 hl e')
          have hlt : ∀ i j, i < els.length → j < esz → i * esz + j < c.size := fun i j hi hj => by rw [hz]; exact pos_lt (by omega) hj
          refine .list els (m s).blk (0 * esz) _ esz (fun i j => c.getD (i * esz + j) undef) hok (hr.blkLt hl) (by omega) hel (fun i j hi hj => ?_) (fun i j hi hj => hone _ (pos_lt hi hj)) (fun i j hi hj => ht.relD (hcs i j hi hj))
          rw [Nat.zero_mul, Nat.zero_add]; exact cell_of hh (hlt i j hi hj)
      · exact .empty _ _
  refine ⟨upd m s ⟨false, 0, 0⟩, hr1.defers, hr1.size, fun i => hC (hT i) (hr.tmps i), fun q => ?_, hr1.inj, hr1.own, hr1.foot, fun p hp => ⟨hC (.inl rfl) (hr.ghosts p hp).1, (hr.ghosts p hp).2⟩, hr1.fixed, fun i hi => ⟨?_, (hr.loop i hi).2⟩⟩
  · by_cases e : q = s
    · subst e; unfold SlotOK; rw [hd]; simp only [upd_same]
    · have hS := hr.slots q
      unfold SlotOK at hS ⊢
      have em : upd m s ⟨false, 0, 0⟩ q = m q := upd_ne _ _ e
      rw [em]
      rcases hB q e with h | ⟨cs, cs', h1, h2, h3⟩
      · rw [h]
        cases hq : σ.b q with
        | fresh => rw [hq] at hS; exact hS
        | dead => rw [hq] at hS; exact hS
        | mark z => rw [hq] at hS; exact hS
        | var cs =>
          rw [hq] at hS
          obtain ⟨hl, c, e, k1, k2, k3, k4⟩ := hS
          exact ⟨hl, c, e, k1, k2, k3, fun i hi => hC (.inl rfl) (k4 i hi)⟩
        | row esz' els' =>
          rw [hq] at hS
          rcases hS with h | ⟨hl, c, e, k1, k2, k3, k4, k4', k5⟩
          · exact .inl h
          · exact .inr ⟨hl, c, e, k1, k2, k3, k4, k4', fun i j hi hj => ht.relD (k5 i j hi hj)⟩
      · rw [h1] at hS
        rw [h2]
        obtain ⟨hl, c, e, k1, k2, k3, k4⟩ := hS
        exact ⟨hl, c, e, k1, by rw [h3.len]; exact k2, fun i hi => k3 i (by rw [← h3.len]; exact hi), fun i hi => hC (h3.get i (by rw [← h3.len]; exact hi) hi) (k4 i (by rw [← h3.len]; exact hi))⟩
  · have := (hr1.loop i hi).1
    rw [this]
    show some (i.obj (upd σ.b s .dead i.p)) = _
    congr 1
    by_cases e : i.p = s
    · rw [e, upd_same, hd]
    · rw [upd_ne _ _ e]
      rcases hB i.p e with h | ⟨cs, cs', h1, h2, _⟩
      · rw [h]
      · rw [h1, h2]; rfl

theorem maskS_some {S : List Nat} {b : Nat → ABlk} {s : Nat} {x : ABlk} (h : maskS S b s = x) (hx : x ≠ .dead) : S.contains s = true ∧ b s = x := by
  unfold maskS at h
  split at h
  · rename_i e; exact ⟨e, h⟩
  · exact absurd h.symm hx
theorem snap_relS (hr : Rel X σ m a w) {S : List Nat} {ok' : Nat → Prop} (ho : ∀ k, X.ok m k → ok' k) (hs : ∀ s, S.contains s = true → (m s).live = true → ok' (m s).blk) : ∀ (n : Nat) {x : AC} {y : D} {v : Value}, snap (maskS S σ.b) n x = some y → RelC (X.ok m) w σ.b m x v → RelD ok' w y v
  | 0, x, y, v, h, _ => by simp [snap] at h
  | n + 1, x, y, v, h, hR => by
    simp only [snap] at h
    split at h
    · cases h
      cases hR with
      | d hD => exact hD.mono (Nat.le_refl _) (fun _ _ _ _ h => h) (fun k _ h => ho k h)
    · rename_i s off len tot
      split at h <;> try (cases h; done)
      rename_i esz els hb
      obtain ⟨hmem, hb⟩ := maskS_some hb (by simp)
      split at h <;> try (cases h; done)
      rename_i hc
      cases h
      rcases row_val hR hb hc.1 with ⟨hl, hle, rfl⟩ | ⟨hnl, rfl, rfl, rfl, rfl⟩
      · rcases slot_row hr hb with ⟨hnl, _⟩ | ⟨_, c, e, hh, hz, hcap, hel, hone, hcs⟩
        · rw [hl] at hnl; cases hnl
        have hlen : ((els.drop off).take len).length = len := by simp; omega
        have := RelD.list (ok := ok') (w := w) ((els.drop off).take len) (m s).blk (off * esz) ((m s).cap - off) esz (fun i j => c.getD ((off + i) * esz + j) undef) (hs s hmem hl) (hr.blkLt hl) (by omega)
          (fun i hi => by simpa using hel (off + i) (by omega))
          (fun i j hi hj => by
            rw [hlen] at hi
            rw [← Nat.add_assoc, ← Nat.add_mul]
            exact cell_of hh (by rw [hz]; exact pos_lt (by omega) hj))
          (fun i j hi hj => hone _ (pos_lt (by omega) hj))
          (fun i j hi hj => by
            have := hcs (off + i) j (by omega) (by simpa using hj)
            have := this.mono (ok' := ok') (Nat.le_refl _) (fun _ _ _ _ h => h) (fun k _ h => ho k h)
            simpa using this)
        rwa [hlen] at this
      · simp; exact .empty _ _
    · rename_i s off
      split at h <;> try (cases h; done)
      rename_i cs hb
      obtain ⟨hmem, hb⟩ := maskS_some hb (by simp)
      simp only [Option.map_eq_some_iff] at h
      obtain ⟨ds, hds, rfl⟩ := h
      obtain ⟨hl, c, e, hh, hz, hone, hcs⟩ := slot_var hr hb
      rw [ptr_val hR hb]
      obtain ⟨h1, h2⟩ := mapM_get hds
      have hlen : (cs.drop off).length = cs.length - off := by simp
      refine .fptr ds (m s).blk off (fun j => c.getD (off + j) undef) (hs s hmem hl) (hr.blkLt hl) (fun j hj => cell_of hh (by omega)) (fun j hj => hone _ (by omega)) (fun j hj => ?_)
      have e1 := h2 j (by omega) hj
      have e2 := hcs (off + j) (by omega)
      refine snap_relS hr ho hs n e1 ?_
      simpa using e2
    · rename_i s off len
      split at h <;> try (cases h; done)
      rename_i cs hb
      obtain ⟨hmem, hb⟩ := maskS_some hb (by simp)
      split at h <;> try (cases h; done)
      rename_i hle
      simp only [Option.map_eq_some_iff] at h
      obtain ⟨ds, hds, rfl⟩ := h
      obtain ⟨hl, c, e, hh, hz, hone, hcs⟩ := slot_var hr hb
      obtain ⟨cap, hcap, rfl⟩ := vs_val hR hb
      obtain ⟨h1, h2⟩ := mapM_get hds
      have hlen : ((cs.drop off).take len).length = len := by simp; omega
      have hdl : ds.length = len := by omega
      have := RelD.list (ok := ok') (w := w) (ds.map fun d => [d]) (m s).blk off cap 1 (fun i j => c.getD (off + (i * 1 + j)) undef) (hs s hmem hl) (hr.blkLt hl) (by simp; omega)
        (fun i hi => by simp)
        (fun i j hi hj => cell_of hh (by simp at hi; omega))
        (fun i j hi hj => hone _ (by simp at hi; omega))
        (fun i j hi hj => by
          simp only [List.getElem_map, List.length_cons, List.length_nil] at hj ⊢
          have hj0 : j = 0 := by omega
          subst hj0
          have hi' : i < ds.length := by simpa using hi
          have e1 := h2 i (by omega) hi'
          have e2 := hcs (off + i) (by omega)
          refine snap_relS hr ho hs n e1 ?_
          simpa using e2)
      simpa [hdl] using this
    · rename_i g first caps
      simp only [Option.map_eq_some_iff] at h
      obtain ⟨ds, hds, rfl⟩ := h
      obtain ⟨h1, h2⟩ := mapM_get hds
      cases hR with
      | clo _ _ _ vf vc k1 k2 kf kc =>
        refine .clo g first ds vf vc k1 (by omega) (fun j hj => (kf j hj).mono (Nat.le_refl _) (fun _ _ _ _ h => h) (fun k _ h => ho k h)) (fun j hj => ?_)
        exact snap_relS hr ho hs n (h2 j (by omega) hj) (kc j (by omega))
    · rename_i cs
      simp only [Option.map_eq_some_iff] at h
      obtain ⟨ds, hds, rfl⟩ := h
      obtain ⟨h1, h2⟩ := mapM_get hds
      cases hR with
      | agg _ vs k1 kc =>
        exact .agg ds vs (by omega) (fun j hj => snap_relS hr ho hs n (h2 j (by omega) hj) (kc j (by omega)))
    · cases h

theorem GivL.len {S : List Nat} {b : Nat → ABlk} : ∀ {cs cs' : List AC}, GivL S b cs cs' → cs'.length = cs.length
  | [], [], _ => rfl
  | [], _ :: _, h => h.elim
  | _ :: _, [], h => h.elim
  | _ :: _, _ :: _, h => by simp [GivL.len h.2]
theorem GivL.get {S : List Nat} {b : Nat → ABlk} : ∀ {cs cs' : List AC}, GivL S b cs cs' → ∀ (i : Nat) (h : i < cs.length) (h' : i < cs'.length), GivC S b cs[i] cs'[i]
  | [], [], _, i, h, _ => by simp at h
  | [], _ :: _, h, _, _, _ => h.elim
  | _ :: _, [], h, _, _, _ => h.elim
  | _ :: _, _ :: _, h, 0, _, _ => h.1
  | _ :: _, _ :: _, h, i + 1, h1, h2 => GivL.get h.2 i (by simpa using h1) (by simpa using h2)
/-- Slots are given up: wherever they stand they are pure data from then on. -/
theorem Rel.giv (hr : Rel X σ m a w) {S : List Nat} {σ' : St} (hf : Giv S σ σ') : ∃ m', Rel X σ' m' a w := by
  obtain ⟨hT, hB⟩ := hf
  obtain ⟨m', hm'⟩ : ∃ m' : Nat → AM.Loc, m' = fun q => if S.contains q = true then ⟨false, 0, 0⟩ else m q := ⟨_, rfl⟩
  have hin : ∀ q, S.contains q = true → m' q = ⟨false, 0, 0⟩ := fun q h => by rw [hm']; simp only [h, if_true]
  have hout : ∀ q, S.contains q = false → m' q = m q := fun q h => by rw [hm']; simp only [h]; simp
  have hlive : ∀ q, (m' q).live = true → S.contains q = false ∧ m' q = m q := fun q h => by
    cases hq : S.contains q
    · exact ⟨rfl, hout q hq⟩
    · rw [hin q hq] at h; cases h
  have hk : ∀ k, X.ok m k → X.ok m' k := fun k h => ⟨h.1, fun s hl => by
    obtain ⟨h1, h2⟩ := hlive s hl
    rw [h2] at hl ⊢; exact h.2 s hl⟩
  have hturn : ∀ q, Turns (σ.b q) (σ'.b q) (m q) (m' q) := fun q => by
    cases hq : S.contains q
    · rcases (hB q).2 hq with h | ⟨cs, cs', h1, h2, _⟩
      · exact .same h.symm (hout q hq).symm
      · exact .var cs cs' h1 h2 (hout q hq).symm
    · exact .dead ((hB q).1 hq).2
  have hown : ∀ s, S.contains s = true → (m s).live = true → X.ok m' (m s).blk := fun s hs hl => ⟨.inr (hr.own s hl), fun s' hl2 => by
    obtain ⟨h1, h2⟩ := hlive s' hl2
    rw [h2] at hl2 ⊢
    intro e
    have := hr.inj s' s hl2 hl e
    subst this; rw [h1] at hs; cases hs⟩
  have hC : ∀ {x y : AC} {v : Value}, GivC S σ.b x y → RelC (X.ok m) w σ.b m x v → RelC (X.ok m') w σ'.b m' y v := fun {x y v} hx hR => by
    rcases hx with rfl | ⟨d, hd, rfl⟩
    · exact hR.mono (Nat.le_refl _) (fun _ _ _ _ h => h) (fun k _ h => hk k h) hturn
    · exact .d (snap_relS hr hk hown 4 hd hR)
  refine ⟨m', hr.defers, hr.size, fun i => hC (hT i) (hr.tmps i), fun q => ?_, fun s s' h1 h2 h3 => ?_, fun s hl => ?_, hr.foot, fun p hp => ⟨hC (.inl rfl) (hr.ghosts p hp).1, (hr.ghosts p hp).2⟩, hr.fixed, fun i hi => ⟨?_, (hr.loop i hi).2⟩⟩
  · cases hq : S.contains q
    · have hS := hr.slots q
      unfold SlotOK at hS ⊢
      rw [hout q hq]
      rcases (hB q).2 hq with h | ⟨cs, cs', h1, h2, h3⟩
      · rw [h]
        cases hb : σ.b q with
        | fresh => rw [hb] at hS; exact hS
        | dead => rw [hb] at hS; exact hS
        | mark z => rw [hb] at hS; exact hS
        | var cs =>
          rw [hb] at hS
          obtain ⟨hl, c, e, k1, k2, k3, k4⟩ := hS
          exact ⟨hl, c, e, k1, k2, k3, fun i hi => hC (.inl rfl) (k4 i hi)⟩
        | row esz' els' =>
          rw [hb] at hS
          rcases hS with h | ⟨hl, c, e, k1, k2, k3, k4, k4', k5⟩
          · exact .inl h
          · exact .inr ⟨hl, c, e, k1, k2, k3, k4, k4', fun i j hi hj => (k5 i j hi hj).mono (Nat.le_refl _) (fun _ _ _ _ h => h) (fun k _ h => hk k h)⟩
      · rw [h1] at hS
        rw [h2]
        obtain ⟨hl, c, e, k1, k2, k3, k4⟩ := hS
        exact ⟨hl, c, e, k1, by rw [h3.len]; exact k2, fun i hi => k3 i (by rw [← h3.len]; exact hi), fun i hi => hC (h3.get i (by rw [← h3.len]; exact hi) hi) (k4 i (by rw [← h3.len]; exact hi))⟩
    · unfold SlotOK; rw [((hB q).1 hq).2, hin q hq]
  · obtain ⟨_, e1⟩ := hlive s h1
    obtain ⟨_, e2⟩ := hlive s' h2
    rw [e1] at h1 h3
    rw [e2] at h2 h3
    exact hr.inj s s' h1 h2 h3
  · obtain ⟨_, e1⟩ := hlive s hl
    rw [e1] at hl ⊢
    exact hr.own s hl
  · have := (hr.loop i hi).1
    rw [this]
    congr 1
    cases hq : S.contains i.p
    · rcases (hB i.p).2 hq with h | ⟨cs, cs', h1, h2, _⟩
      · rw [h]
      · rw [h1, h2]; rfl
    · obtain ⟨h1, h2⟩ := (hB i.p).1 hq
      rw [h2]
      rcases h1 with ⟨_, _, e⟩ | ⟨_, e⟩ <;> (rw [e]; rfl)

theorem Rel.conv (hr : Rel X σ m a w) {s r esz : Nat} {cs : List AC} (hs : σ.b s = .var (.d (.v (.slice none 0 0)) :: cs)) (hf : σ.b r = .fresh) :
    Rel X ⟨σ.t, upd (upd σ.b r (.row esz [])) s (.var (.row r 0 0 0 :: cs))⟩ m a w := by
  have hne : r ≠ s := fun e => by rw [e, hs] at hf; cases hf
  have hnl : (m r).live = false := by have := hr.slots r; unfold SlotOK at this; rw [hf] at this; exact this
  have hturn : ∀ s', Turns (σ.b s') (upd (upd σ.b r (.row esz [])) s (.var (.row r 0 0 0 :: cs)) s') (m s') (m s') := fun s' => by
    by_cases e : s' = s
    · subst e; rw [upd_same]; exact .var _ _ hs rfl rfl
    · rw [upd_ne _ _ e]
      by_cases e2 : s' = r
      · subst e2; exact .fresh hf
      · rw [upd_ne _ _ e2]; exact .same rfl rfl
  have mono : ∀ {x : AC} {v : Value}, RelC (X.ok m) w σ.b m x v → RelC (X.ok m) w (upd (upd σ.b r (.row esz [])) s (.var (.row r 0 0 0 :: cs))) m x v := fun {x v} h =>
    h.mono (Nat.le_refl _) (fun _ _ _ _ h => h) (fun _ _ h => h) hturn
  refine ⟨hr.defers, hr.size, fun i => mono (hr.tmps i), fun s' => ?_, hr.inj, hr.own, hr.foot, fun p hp => ⟨mono (hr.ghosts p hp).1, (hr.ghosts p hp).2⟩, hr.fixed, fun i hi => ⟨?_, (hr.loop i hi).2⟩⟩
  · by_cases e : s' = s
    · subst e
      obtain ⟨hl, c, ee, hh, hz, hone, hcs⟩ := slot_var hr hs
      unfold SlotOK
      simp only [upd_same]
      refine ⟨hl, c, ee, hh, by simpa using hz, fun i hi => hone i (by simpa using hi), fun i hi => ?_⟩
      have h0 := hcs i (by simpa using hi)
      cases i with
      | zero =>
        simp only [List.getElem_cons_zero] at h0 ⊢
        rw [relC_v h0]
        exact .rowNil r esz (by rw [upd_ne _ _ hne, upd_same]) hnl
      | succ i =>
        simp only [List.getElem_cons_succ] at h0 ⊢
        exact mono h0
    · by_cases e2 : s' = r
      · subst e2
        unfold SlotOK
        simp only [upd_ne _ _ hne, upd_same]
        exact .inl ⟨hnl, trivial⟩
      · exact (hr.slots s').mono (Nat.le_refl _) (fun _ _ _ _ h => h) (fun _ _ h => h) hturn (by simp only; rw [upd_ne _ _ e, upd_ne _ _ e2]) rfl (fun _ => rfl)
  · have : i.obj (upd (upd σ.b r (.row esz [])) s (.var (.row r 0 0 0 :: cs)) i.p) = i.obj (σ.b i.p) := by
      by_cases e : i.p = s
      · rw [e, upd_same, hs]; rfl
      · rw [upd_ne _ _ e]
        by_cases e2 : i.p = r
        · rw [e2, upd_same, hf]; rfl
        · rw [upd_ne _ _ e2]
    rw [this]; exact (hr.loop i hi).1

theorem noH_ok : HandOK P X noH := fun _ _ _ _ _ _ _ _ _ _ _ h => h.elim
theorem noH_oks (h : X.lp = none) : HandsOK P X noH := ⟨fun i hi => (by rw [h] at hi; cases hi), noH_ok, fun _ _ => noH_ok⟩

theorem Rel.keepT (hr : Rel X σ m a w) (lt : List Nat) : Rel X ⟨Go.AM.keepT σ.t lt, σ.b⟩ m a w :=
  ⟨hr.defers, hr.size, fun i => keepT_rel (f := fun i => a.tmps.getD i undef) (fun i _ => hr.tmps i) i, hr.slots, hr.inj, hr.own, hr.foot, hr.ghosts, hr.fixed, hr.loop⟩

theorem capsOf_sound {ok : Nat → Prop} {w : World} {b : Nat → ABlk} {m : Nat → Loc} {x : AC} {v : Value} {g : FuncId} {caps : List AC} (h : RelC ok w b m x v) (hc : capsOf x = some (g, caps)) :
    ∃ vc : Array Value, v = .func (.func g) #[] vc ∧ vc.size = caps.length ∧ ∀ j (hj : j < caps.length), RelC ok w b m (caps[j]) (vc.getD j undef) := by
  unfold capsOf at hc
  split at hc
  · cases hc
    cases h with
    | clo _ _ _ vf vc h1 h2 hf hc =>
      have : vf = #[] := Array.eq_empty_of_size_eq_zero (by simpa using h1)
      subst this
      exact ⟨vc, rfl, h2, hc⟩
  · cases hc
    cases h with
    | d h => cases h with
      | clo _ _ _ vf vc h1 h2 hf hc =>
        have : vf = #[] := Array.eq_empty_of_size_eq_zero (by simpa using h1)
        subst this
        exact ⟨vc, rfl, by simpa using h2, fun j hj => by rw [List.getElem_map]; exact .d (hc j (by simpa using hj))⟩
  · cases hc

theorem onlyC_scrC (ls : List Nat) (x : AC) : onlyC ls (scrC ls x) = true := by
  unfold scrC; split
  · assumption
  · rfl

/-- Behind a call that turns slots. -/
theorem imp_gives {o : Oper} {H : Hand} {K : St → Prop} {lt ls : List Nat} {g : FuncId} {args : List AC} {vs : Array Value} {dst : Option Nat} (hH : HandsOK P X H) (hpr : X.pr.all ls.contains = true)
    (h : ImpFn P H ls g (args.map (scrC ls)) (σ.forget lt ls).b fun y b' => K (St.put ⟨(σ.forget lt ls).t, b'⟩ dst y)) (hr : Rel X σ m a w) (hsz : vs.size = args.length)
    (hargs : ∀ j (hj : j < args.length), RelC (X.ok m) w σ.b m (args[j]) (vs.getD j undef)) (hrun : (execOp a.eval o).run P w = .ok (.enter g vs) w) :
    Gives P o a w fun v w' => ∃ y b' m', K (St.put ⟨(σ.forget lt ls).t, b'⟩ dst y) ∧ Rel X ⟨(σ.forget lt ls).t, b'⟩ m' a w' ∧ RelC (X.ok m') w' b' m' y v := by
  obtain ⟨m0, hr0, hC⟩ := hr.forget' lt ls hpr
  refine .inr ⟨g, vs, hrun, ?_⟩
  have := h.2 X (fun i => scrC ls (σ.t i)) lt m0 a w vs hH hr0 hpr (fun i _ => onlyC_scrC _ _) (by simpa using hsz) (fun j hj => by
    simp only [List.getElem_map]
    exact hC (hargs j (by simpa using hj)))
  refine callsIn_wide.1 ((callsIn_wide.2 this : CallsIn Fence.wide 0 P g vs w _).mono ?_)
  rintro e w' ⟨v, y, b', m', e1, hK, hr', hy⟩
  exact ⟨v, e1, y, b', m', hK, hr', hy⟩

theorem operH1_sound {o : Oper} {aop : AOp} {H : Hand} {K : St → Prop} {K' : Act → World → Prop} (hH : HandsOK P X H) (hρ : (∃ l, ρ = some l) → H = noH) (hop : chkA P o.op aop = true) (hd : ∀ d, o.dst = some d → d < X.n)
    (h : operH1 P H X.pr aop o.dst σ K) (hr : Rel X σ m a w) (hk : ∀ σ' m' a' w', K σ' → Rel X σ' m' a' w' → K' a' w') : o.wpIn (wf ρ) nn P a w K' Q := by
  unfold operH1 at h
  split at h
  · rename_i lt pr x xs
    split at h <;> try (exact h.elim)
    rename_i l f c hx
    obtain ⟨rfl, rfl, hpr, h⟩ := h
    have hn : ρ = none := by
      cases ρ with
      | none => rfl
      | some l => rw [hρ ⟨l, rfl⟩] at h; exact h.elim
    subst hn
    cases hopc : o.op <;> rw [hopc] at hop <;> simp only [chkA, Bool.false_eq_true] at hop
    rename_i cl
    split at hop <;> try (cases hop; done)
    rename_i x' hcal
    simp only [Bool.and_eq_true] at hop
    obtain ⟨hcx, hxs⟩ := hop
    have hv := relC_v (hx ▸ chkO_sound hr hcx)
    simp only [Bool.and_eq_true, List.all_eq_true] at hpr
    have hlen : (cl.args.map a.eval).size = (xs.map (evO σ.t)).length := by have := chkOs_len hxs; simp at this ⊢; omega
    have hargs : ∀ j (hj : j < (xs.map (evO σ.t)).length), RelC (X.ok m) w σ.b m ((xs.map (evO σ.t))[j]) ((cl.args.map a.eval).getD j undef) := fun j hj => by
      rw [getD_map_toArray]
      simp only [List.getElem_map]
      exact chkOs_get hr hxs j (by simpa using hj)
    obtain ⟨f, tmps, asg, bod, hy, hround⟩ := hH.own pr l _ σ.b _ σ.t lt m a w (cl.args.map a.eval) h (hr.keepT lt) (by rw [List.all_eq_true]; exact hpr.1) (fun i hi => hpr.2 i hi) hlen hargs
    have hrun : (execOp a.eval o).run P w = .ok (.round l f tmps asg bod) w := by
      simp [execOp, hopc, resolve, hcal, hv, Deferred.ofValue, invoke, hy]
    refine ⟨fun f _ => trivial, ?_⟩
    have hs : o.semAt (wf none).round a.eval = execOp a.eval o := Oper.semAt_eq _ _ _ (fun c e => by rw [hopc] at e; cases e)
    rw [hs, hrun, Oper.uponIn_round]
    refine ⟨fun h => by simp [wf, Fence.wide] at h, (hround _).mono ?_⟩
    rintro e w' ⟨y, b', m', hK, hc⟩
    rcases hc with ⟨v, rfl, _, hr', hyv⟩ | ⟨v, rfl, rfl, hr'⟩
    · have hK : K (St.put ⟨Go.AM.keepT σ.t lt, b'⟩ o.dst y) := by
        cases hp : isPac y with
        | true => rw [hp] at hK; exact hK.elim
        | false => rw [hp] at hK; exact hK
      exact hk _ m' _ _ hK (hr'.put hyv o.dst hd)
    · exact hK.elim
  · rename_i lt ls g xs
    obtain ⟨hpr, h⟩ := h
    cases hopc : o.op <;> rw [hopc] at hop <;> simp only [chkA, Bool.false_eq_true] at hop
    rename_i cl
    split at hop <;> try (cases hop; done)
    rename_i g' hcal
    simp only [Bool.and_eq_true, beq_iff_eq] at hop
    obtain ⟨rfl, hxs⟩ := hop
    refine wpIn_of_gives (fun c e => by rw [hopc] at e; cases e) (imp_gives (vs := cl.args.map a.eval) hH hpr h hr (by have := chkOs_len hxs; simp at this ⊢; omega) (fun j hj => ?_) ?_) (fun v w' ⟨y, b', m', hK, hr', hy⟩ => hk _ m' _ _ hK (hr'.put hy o.dst hd))
    · rw [getD_map_toArray]
      simp only [List.getElem_map]
      exact chkOs_get hr hxs j (by simpa using hj)
    · simp [execOp, hopc, resolve, hcal, Act.eval, Deferred.ofValue, invoke, run_callFunc h.1]
  · rename_i lt ls x xs
    split at h <;> try (exact h.elim)
    rename_i g caps hcaps
    obtain ⟨hpr, h⟩ := h
    cases hopc : o.op <;> rw [hopc] at hop <;> simp only [chkA, Bool.false_eq_true] at hop
    rename_i cl
    split at hop <;> try (cases hop; done)
    rename_i x' hcal
    simp only [Bool.and_eq_true] at hop
    obtain ⟨hcx, hxs⟩ := hop
    obtain ⟨vc, hv, hvc, hcapsR⟩ := capsOf_sound (chkO_sound hr hcx) hcaps
    have hl := chkOs_len hxs
    have hl' : (cl.args.map a.eval).size = (xs.map (evO σ.t)).length := by simp at hl ⊢; omega
    refine wpIn_of_gives (fun c e => by rw [hopc] at e; cases e) (imp_gives (vs := cl.args.map a.eval ++ vc) hH hpr h hr (by simp at hl' ⊢; omega) (fun j hj => ?_) ?_) (fun v w' ⟨y, b', m', hK, hr', hy⟩ => hk _ m' _ _ hK (hr'.put hy o.dst hd))
    · by_cases c1 : j < (xs.map (evO σ.t)).length
      · rw [getD_append_left (by omega), List.getElem_append_left c1, getD_map_toArray]
        simp only [List.getElem_map]
        exact chkOs_get hr hxs j (by simpa using c1)
      · rw [getD_append_right (by omega), List.getElem_append_right (by omega)]
        have := hcapsR (j - (xs.map (evO σ.t)).length) (by simp at hj c1 ⊢; omega)
        rw [hl']; exact this
    · simp [execOp, hopc, resolve, hcal, hv, Deferred.ofValue, invoke, run_callFunc h.1]
  · rename_i lt ls S g xs
    obtain ⟨hpr, σ', h2, h3⟩ := h
    obtain ⟨m1, hr1⟩ := hr.forget lt ls hpr
    obtain ⟨m2, hr2⟩ := hr1.giv h2
    have hop' : chkA P o.op (.call g xs) = true := by
      cases hopc : o.op <;> rw [hopc] at hop <;> simp only [chkA, Bool.false_eq_true] at hop ⊢
      exact hop
    exact wpIn_of_gives (chkA_defer hop' h3) (op_sound hop' h3 hr2) fun v w' ⟨y, b', m', hK, hr', hy⟩ => hk _ m' _ _ hK (hr'.put hy o.dst hd)
  · rename_i neg x
    obtain ⟨x', hR, hdef, key⟩ := run_eqn hop hr
    have fin : ∀ (r : Bool), (execOp a.eval o).run P w = .ok (.value (.bool r)) w → K (St.put σ o.dst (bC r)) → o.wpIn (wf ρ) nn P a w K' Q := fun r hrun hK =>
      wpIn_of_gives (R := fun v w' => v = .bool r ∧ w' = w) hdef (.inl ⟨_, w, ⟨rfl, rfl⟩, .inl hrun⟩) (fun v w' ⟨e1, e2⟩ => by subst e1; subst e2; exact hk _ m _ _ hK (hr.put (.d (.v _)) o.dst hd))
    split at h
    · rename_i hx
      have e1 := relC_v (hx ▸ hR)
      have hrun := key e1 rfl
      refine fin _ hrun ?_
      cases neg <;> exact h
    · rename_i xs hx
      rw [hx] at hR
      generalize hv : a.eval x' = v at hR
      cases hR with
      | d hD =>
        cases hD with
        | empty A cap =>
          have hrun := key hv rfl
          refine fin _ hrun ?_
          cases (if neg = true then !A.isNone else A.isNone)
          · exact h.2
          · exact h.1
        | list _ B off cap esz f hok hB hcap hsz =>
          have hrun := key hv rfl
          refine fin _ hrun ?_
          cases xs with
          | nil => cases neg
                   · exact h.2
                   · exact h.1
          | cons => cases neg <;> exact h
    · exact h.elim
  · exact h.elim

theorem operH_sound {o : Oper} {ops : Array Oper} {i : Nat} {ao : AOper} {H : Hand} {K : St → Prop} {K' : Act → World → Prop} (hH : HandsOK P X H) (hρ : (∃ l, ρ = some l) → H = noH) (hi : ops[i]? = some o) (hc : chkOper P X.n ops o ao = true)
    (h : operH P H X.pr ao σ K) (hr : Rel X σ m a w) (hk : ∀ σ' m' a' w', K σ' → Rel X σ' m' a' w' → K' a' w') : wpOpIn (wf ρ) nn P ops Q i K' a w := by
  have key : operHg P H X.pr ao σ K → wpOpIn (wf ρ) nn P ops Q i K' a w := fun h => by
    simp only [chkOper, Bool.and_eq_true] at hc
    obtain ⟨⟨hdst, hop⟩, hg⟩ := hc
    have hd : o.dst = ao.dst ∧ ∀ d, o.dst = some d → d < X.n := by
      split at hdst
      · rename_i e1 e2; rw [e1, e2]; exact ⟨rfl, fun d h => by cases h⟩
      · rename_i d d' e1 e2
        simp at hdst
        rw [e1, e2]; exact ⟨by rw [hdst.1], fun q h => by cases h; exact hdst.2⟩
      · cases hdst
    have run : operH1 P H X.pr ao.op ao.dst σ K → o.wpIn (wf ρ) nn P a w K' Q := fun h => operH1_sound hH hρ hop hd.2 (hd.1 ▸ h) hr hk
    have skip : K (St.put σ ao.dst (.d (.v undef))) → K' (a.put o.dst undef) w := fun h => by
      rw [← hd.1] at h
      exact hk _ m _ _ h (hr.put (.d (.v _)) o.dst hd.2)
    unfold wpOpIn
    simp only [hi]
    unfold operHg at h
    cases hog : o.guard with
    | none =>
      cases hag : ao.g with
      | some x => rw [hog, hag] at hg; cases hg
      | none =>
        rw [hag] at h
        have hw : Region.wanted o (yielded ops a.tmps) = true := by simp [Region.wanted, hog]
        rw [if_pos hw]; exact run h
    | some jw =>
      obtain ⟨j, want⟩ := jw
      cases hag : ao.g with
      | none => rw [hog, hag] at hg; cases hg
      | some gw =>
        obtain ⟨g, want'⟩ := gw
        rw [hog, hag] at hg
        simp only [Bool.and_eq_true, beq_iff_eq] at hg
        obtain ⟨hj, rfl⟩ := hg
        split at hj <;> try (cases hj; done)
        rename_i oj hoj
        simp at hj
        have hy := yielded_of (tmps := a.tmps) hoj hj
        have hT := hr.tmps g
        rw [hag] at h
        simp only at h
        split at h
        · rename_i b hb
          rw [hb] at hT
          have hv := relC_v hT
          rw [hv] at hy
          simp only at hy
          by_cases hbw : b = want
          · have hw : Region.wanted o (yielded ops a.tmps) = true := by simp [Region.wanted, hog, hy, hbw]
            rw [if_pos hw]; exact run (h.1 hbw)
          · have hw : ¬ Region.wanted o (yielded ops a.tmps) = true := by simp [Region.wanted, hog, hy, hbw]
            rw [if_neg hw]
            exact ⟨fun _ _ => trivial, skip (h.2 (by cases b <;> cases want <;> simp_all))⟩
        · rename_i vs hb
          rw [hb] at hT
          have hv := relC_v hT
          rw [hv] at hy
          simp only at hy
          have hw : ¬ Region.wanted o (yielded ops a.tmps) = true := by simp [Region.wanted, hog, hy]
          rw [if_neg hw]
          exact ⟨fun _ _ => trivial, skip h⟩
        · exact h.elim
  unfold operH at h
  split at h
  · exact key h
  · exact key h
  · exact key h
  · exact key h
  · exact key h
  · exact oper_sound hi hc h hr hk

theorem any_sound {ops : Array Oper} {aos : List AOper} {H : Hand} {K : St → Prop} (hH : HandsOK P X H) (hρ : (∃ l, ρ = some l) → H = noH) (hc : chkOps P X.n ops ops.toList aos = true) (hd : chkDraw ops.toList aos = true)
    (hk : ∀ σ' m' a' w', K σ' → Rel X σ' m' a' w' → Q .normal a' w') :
    ∀ (fuel : Nat) (listed : Array Bool) (σ : St) (m : Nat → Loc) (a : Act) (w : World), listed.size = ops.size → (rem ops.size listed).length ≤ fuel →
      (∀ i, listed.getD i false = true → ∀ o, ops[i]? = some o → ∀ d ∈ depsOf o, listed.getD d false = true) →
      opsI P H X.pr aos (rem ops.size listed) σ K → Rel X σ m a w → wpAnyIn (wf ρ) nn P .any ops Q fuel listed a w := by
  have chk : ∀ i o, ops[i]? = some o → ∃ ao, aos[i]? = some ao ∧ (∀ d ∈ depsOf o, d < i) ∧ ∀ j, j < i → if ((masks ops.toList []).getD i 0).testBit j = true then (∃ d ∈ depsOf o, d = j ∨ (j < d ∧ ((masks ops.toList []).getD d 0).testBit j = true)) else
      ∃ aj, aos[j]? = some aj ∧ indepA aj ao = true := fun i o hi => by
    unfold chkDraw at hd
    simp only [List.all_eq_true, List.mem_range, Array.length_toList] at hd
    have hlt : i < ops.size := (Array.getElem?_eq_some_iff.1 hi).1
    have := hd i hlt
    rw [show ops.toList[i]? = some o by simpa using hi] at this
    cases hao : aos[i]? with
    | none => rw [hao] at this; cases this
    | some ao =>
      rw [hao] at this
      simp only [Bool.and_eq_true, List.all_eq_true, List.mem_range] at this
      refine ⟨ao, rfl, fun d hd' => by simpa using this.1 d hd', fun j hj => ?_⟩
      have h2 := this.2 j hj
      split
      · rename_i hb
        rw [if_pos hb] at h2
        simpa using h2
      · rename_i hb
        rw [if_neg hb] at h2
        cases haj : aos[j]? with
        | none => rw [haj] at h2; cases h2
        | some aj => rw [haj] at h2; exact ⟨aj, rfl, h2⟩
  have closed : ∀ (listed : Array Bool), (∀ i, listed.getD i false = true → ∀ o, ops[i]? = some o → ∀ d ∈ depsOf o, listed.getD d false = true) →
      ∀ i o, ops[i]? = some o → (∀ d ∈ depsOf o, listed.getD d false = true) → ∀ j, j < i → ((masks ops.toList []).getD i 0).testBit j = true → listed.getD j false = true := fun listed hcl i => by
    induction i using Nat.strongRecOn with
    | _ i ih =>
      intro o hi hdeps j hj hb
      obtain ⟨ao, _, hlt, hall⟩ := chk i o hi
      have h2 := hall j hj
      rw [if_pos hb] at h2
      obtain ⟨d, hd', e⟩ := h2
      rcases e with rfl | e
      · exact hdeps _ hd'
      · have hdi := hlt d hd'
        have hdl : d < ops.size := Nat.lt_trans hdi (Array.getElem?_eq_some_iff.1 hi).1
        exact ih d hdi (ops[d]) (by simp [hdl]) (hcl d (hdeps d hd') _ (by simp [hdl])) j e.1 e.2
  have notready : ∀ (listed : Array Bool), listed.size = ops.size → Region.ready .any ops listed = [] → rem ops.size listed = [] := fun listed hs hr => by
    cases hrem : rem ops.size listed with
    | nil => rfl
    | cons i is =>
      exfalso
      have hmin : i ∈ rem ops.size listed ∧ ∀ j, j < i → j ∉ rem ops.size listed := by
        refine ⟨by rw [hrem]; simp, fun j hj hm => ?_⟩
        have hp : (rem ops.size listed).Pairwise (· < ·) := List.Pairwise.filter _ List.pairwise_lt_range
        rw [hrem] at hp hm
        have := (List.pairwise_cons.1 hp).1
        rcases List.mem_cons.1 hm with h | h
        · omega
        · have := this j h; omega
      have hi : i < ops.size ∧ listed.getD i true = false := mem_rem.1 hmin.1
      have : i ∈ Region.ready .any ops listed := by
        rw [mem_ready]
        refine ⟨hi.2, ops[i], by simp [hi.1], fun e he hb => ?_⟩
        obtain ⟨ao, _, hlt, _⟩ := chk i (ops[i]'hi.1) (by simp [hi.1])
        have hdi := hlt e.on (mem_depsOf he hb)
        have hnm := hmin.2 e.on hdi
        have hlt' : e.on < listed.size := by omega
        cases hg : listed.getD e.on true with
        | false => exact absurd (mem_rem.2 ⟨by omega, hg⟩) hnm
        | true => simp [Array.getD, hlt'] at hg ⊢; exact hg
      rw [hr] at this; cases this
  intro fuel
  induction fuel with
  | zero =>
    intro listed σ m a w hs hlen hcl h hr
    have h0 : rem ops.size listed = [] := List.length_eq_zero_iff.1 (by omega)
    refine ⟨?_, ?_⟩
    · cases hrd : Region.ready .any ops listed with
      | nil => rfl
      | cons i is =>
        exfalso
        have hm : i ∈ Region.ready .any ops listed := by rw [hrd]; simp
        obtain ⟨h1, o, ho, _⟩ := mem_ready.1 hm
        have : i ∈ rem ops.size listed := mem_rem.2 ⟨(Array.getElem?_eq_some_iff.1 ho).1, h1⟩
        rw [h0] at this; cases this
    · rw [h0] at h; exact hk _ _ _ _ h hr
  | succ fuel ih =>
    intro listed σ m a w hs hlen hcl h hr
    refine ⟨fun hrd => ?_, fun i hi => ?_⟩
    · rw [notready listed hs hrd] at h; exact hk _ _ _ _ h hr
    · obtain ⟨h1, o, ho, hall⟩ := mem_ready.1 hi
      have hlt : i < ops.size := (Array.getElem?_eq_some_iff.1 ho).1
      have hdeps : ∀ d ∈ depsOf o, listed.getD d false = true := fun d hd' => by
        obtain ⟨e, he, hb, rfl⟩ := depsOf_mem hd'
        exact hall e he hb
      obtain ⟨ao, hao, hdlt, hind⟩ := chk i o ho
      obtain ⟨ao', hao', hco⟩ := chkOps_get _ _ hc i o (show ops.toList[i]? = some o by simpa using ho)
      rw [hao] at hao'; cases hao'
      have hp : (rem ops.size listed).Pairwise (· < ·) := List.Pairwise.filter _ List.pairwise_lt_range
      have hfirst := opsI_first (P := P) hao hp (mem_rem.2 ⟨hlt, h1⟩) (fun j hj hji oj hoj => by
        have h2 := hind j hji
        split at h2
        · rename_i hb
          have := closed listed hcl i o ho hdeps j hji hb
          exfalso
          have hj' : listed.getD j true = false := (mem_rem.1 hj).2
          have hjs := getD_both hj'
          simp [Array.getD, hjs] at this hj'
          rw [this] at hj'; cases hj'
        · obtain ⟨aj, haj, hi'⟩ := h2
          rw [hoj] at haj; cases haj; exact hi') h
      refine operH_sound hH hρ ho hco hfirst hr fun σ' m' a' w' hK hr' => ?_
      have hset := rem_set (l := listed) hs hlt
      refine ih _ σ' m' a' w' (by simpa using hs) ?_ ?_ (by rw [hset]; exact hK) hr'
      · rw [hset]
        have hmem : i ∈ rem ops.size listed := mem_rem.2 ⟨hlt, h1⟩
        have : ((rem ops.size listed).filter (· ≠ i)).length < (rem ops.size listed).length := by
          refine List.length_filter_lt_length_iff_exists.2 ⟨i, hmem, by simp⟩
        omega
      · intro k hk' ok hok d hd'
        by_cases e : k = i
        · subst e
          rw [ho] at hok; cases hok
          exact getD_set_true (hdeps d hd')
        · rw [getD_set_ne false (Ne.symm e)] at hk'
          exact getD_set_true (hcl k hk' ok hok d hd')

/-- Forgetting keeps the relation. -/
theorem opsH_sound {ops : Array Oper} {H : Hand} {K : St → Prop} (hH : HandsOK P X H) (hρ : (∃ l, ρ = some l) → H = noH) {tl : List Nat} (hk : ∀ σ' m' a' w', K σ' → Rel X σ' m' a' w' → wpOpsIn (wf ρ) nn P ops Q tl a' w') :
    ∀ (os : List Oper) (aos : List AOper) (i : Nat) (σ : St) (m : Nat → Loc) (a : Act) (w : World), (∀ j, j < os.length → os[j]? = ops[i + j]?) → chkOps P X.n ops os aos = true → opsH P H X.pr aos σ K → Rel X σ m a w →
      wpOpsIn (wf ρ) nn P ops Q (List.range' i os.length ++ tl) a w
  | [], [], i, σ, m, a, w, _, _, h, hr => by simp only [List.length_nil, List.range'_zero, List.nil_append]; exact hk _ _ _ _ h hr
  | [], _ :: _, _, _, _, _, _, _, h, _, _ => by simp [chkOps] at h
  | _ :: _, [], _, _, _, _, _, _, h, _, _ => by simp [chkOps] at h
  | o :: os, ao :: aos, i, σ, m, a, w, hl, hc, h, hr => by
    simp only [chkOps, Bool.and_eq_true] at hc
    simp only [List.length_cons, List.range'_succ, List.cons_append]
    rw [wpOpsIn_cons]
    refine operH_sound hH hρ (by simpa using (hl 0 (by simp)).symm) hc.1 h hr fun σ' m' a' w' hK hr' => ?_
    exact opsH_sound hH hρ hk os aos (i + 1) σ' m' a' w' (fun j hj => by have := hl (j + 1) (by simpa using hj); simpa [Nat.add_assoc, Nat.add_comm 1 j] using this) hc.2 hK hr'

/-- What stands behind a panic: the loop's record is left as it is. -/
def Ctx.at (X : Ctx) : Exit → Ctx
  | .panic _ => { X with lp := none }
  | _ => X

theorem Rel.noLp (hr : Rel X σ m a w) : Rel { X with lp := none } σ m a w :=
  ⟨hr.defers, hr.size, hr.tmps, hr.slots, hr.inj, hr.own, hr.foot, hr.ghosts, hr.fixed, fun i hi => by cases hi⟩

theorem popA_sound {o : Oper} {po : POp} {H : Hand} {QA : Exit → St → Prop} {next : Act → World → Prop} (hH : HandsOK P X H) (hρ : (∃ l, ρ = some l) → H = noH) (hop : chkP P o.op po = true)
    (h : popA P H X.pr po QA σ) (hr : Rel X σ m a w) : o.wpIn (wf ρ) nn P a w next (fun e a' w' => ∃ σ' m', QA e σ' ∧ Rel (X.at e) σ' m' a' w') := by
  unfold popA at h
  split at h
  · rename_i g xs
    obtain ⟨ds, v, hs, ⟨hen, hP⟩, hq⟩ := h
    simp only [chkP] at hop
    cases hopc : o.op <;> rw [hopc] at hop <;> simp only [chkA, Bool.false_eq_true] at hop
    rename_i cl
    split at hop <;> try (cases hop; done)
    rename_i g' hcal
    simp only [Bool.and_eq_true, beq_iff_eq] at hop
    obtain ⟨rfl, hxs⟩ := hop
    have hrun : (execOp a.eval o).run P w = .ok (.enter g (cl.args.map a.eval)) w := by
      simp [execOp, hopc, resolve, hcal, Act.eval, Deferred.ofValue, invoke, run_callFunc hen]
    obtain ⟨h1, h2, _⟩ := args_rel hr hxs hs
    have hs' : o.semAt (wf ρ).round a.eval = execOp a.eval o := Oper.semAt_eq _ _ _ (fun c e => by rw [hopc] at e; cases e)
    refine ⟨fun f _ => trivial, ?_⟩
    rw [hs', hrun, Oper.uponIn_enter]
    refine ⟨fun h => by simp [wf, Fence.wide] at h, (callsIn_wf (hP (fun _ => True) w (cl.args.map a.eval) (by simpa using h1) (fun j hj => by rw [getD_map_toArray]; exact h2 j hj))).mono ?_⟩
    · rintro e w' ⟨rfl, hf⟩
      exact ⟨σ, m, hq, (hr.grow hf).noLp⟩
  · rename_i x
    split at h <;> try (exact h.elim)
    rename_i t v hx
    simp only [chkP] at hop
    cases hopc : o.op <;> rw [hopc] at hop <;> simp only [Bool.false_eq_true] at hop
    rename_i x'
    have hv := relC_v (hx ▸ chkO_sound hr hop)
    have hs' : o.semAt (wf ρ).round a.eval = execOp a.eval o := Oper.semAt_eq _ _ _ (fun c e => by rw [hopc] at e; cases e)
    have hrun : (execOp a.eval o).run P w = .halt (.panic (.iface t v)) w := by
      simp [execOp, hopc, hv, Instr.panic, goPanic]
    refine ⟨fun f _ => trivial, ?_⟩
    rw [hs', hrun, Oper.uponIn_panic]
    exact ⟨σ, m, h, hr.noLp⟩
  · rename_i lt pr x xs
    split at h <;> try (exact h.elim)
    rename_i l f c hx
    obtain ⟨rfl, rfl, hpr, h⟩ := h
    have hn : ρ = none := by
      cases ρ with
      | none => rfl
      | some l => rw [hρ ⟨l, rfl⟩] at h; exact h.elim
    subst hn
    simp only [chkP] at hop
    cases hopc : o.op <;> rw [hopc] at hop <;> simp only [chkA, Bool.false_eq_true] at hop
    rename_i cl
    split at hop <;> try (cases hop; done)
    rename_i x' hcal
    simp only [Bool.and_eq_true] at hop
    obtain ⟨hcx, hxs⟩ := hop
    have hv := relC_v (hx ▸ chkO_sound hr hcx)
    simp only [Bool.and_eq_true, List.all_eq_true] at hpr
    have hlen : (cl.args.map a.eval).size = (xs.map (evO σ.t)).length := by have := chkOs_len hxs; simp at this ⊢; omega
    have hargs : ∀ j (hj : j < (xs.map (evO σ.t)).length), RelC (X.ok m) w σ.b m ((xs.map (evO σ.t))[j]) ((cl.args.map a.eval).getD j undef) := fun j hj => by
      rw [getD_map_toArray]
      simp only [List.getElem_map]
      exact chkOs_get hr hxs j (by simpa using hj)
    obtain ⟨f, tmps, asg, bod, hy, hround⟩ := hH.own pr l _ σ.b _ σ.t lt m a w (cl.args.map a.eval) h (hr.keepT lt) (by rw [List.all_eq_true]; exact hpr.1) (fun i hi => hpr.2 i hi) hlen hargs
    have hrun : (execOp a.eval o).run P w = .ok (.round l f tmps asg bod) w := by
      simp [execOp, hopc, resolve, hcal, hv, Deferred.ofValue, invoke, hy]
    refine ⟨fun f _ => trivial, ?_⟩
    have hs : o.semAt (wf none).round a.eval = execOp a.eval o := Oper.semAt_eq _ _ _ (fun c e => by rw [hopc] at e; cases e)
    rw [hs, hrun, Oper.uponIn_round]
    refine ⟨fun h => by simp [wf, Fence.wide] at h, (hround _).mono ?_⟩
    rintro e w' ⟨y, b', m', ⟨v, rfl, hq⟩, hc⟩
    rcases hc with ⟨v2, rfl, hp, hr', hyv⟩ | ⟨v2, rfl, e2, hr'⟩
    · cases hp
    · simp only [pacC, AC.tup.injEq, List.cons.injEq, AC.d.injEq, D.v.injEq, and_true] at e2
      subst e2
      exact ⟨_, m', hq, hr'⟩
  

end
end Go.AM

/- The abstract machine, part 18: the abstract code's weakest precondition is sound. No condition. -/
set_option linter.unusedVariables false
set_option linter.unusedSimpArgs false
namespace Go.AM
open Go
section
variable {P : Program}

theorem Marks.keep' {base : Nat} {df ds : List Deferred} {w w' : World} (h : Marks base df ds w) (hd : ds = []) : Marks base df ds w' := by
  subst hd
  obtain ⟨Ds, hD, _⟩ := h
  have : df = [] := by cases df with
    | nil => rfl
    | cons => simp at hD
  subst this
  exact ⟨[], rfl, List.nodup_nil, fun _ h => by cases h⟩

theorem zip_fold (params : Array Nat) (vs tm : Array Value) : (params.zip vs).foldl (fun tmps (x : Nat × Value) => tmps.setIfInBounds x.1 x.2) tm = (params.toList.zip vs.toList).foldl (fun tm p => tm.setIfInBounds p.1 p.2) tm := by
  rw [← Array.foldl_toList, Array.toList_zip]

theorem awp_sound : ∀ (ac : ACode) (nn : Nat) (c : Code) (QA : Exit → St → Prop) (σ : St) (m : Nat → Loc) (a : Act) (w : World) (X : Ctx) (ρ : Option Nat) (H : Hand) (fnm : Bool),
    (fnm = true → ρ = none ∧ X.lp = none ∧ X.nm = false) → HandsOK P X H → ((∃ l, ρ = some l) → H = noH) → chkC P X.n c ac = true → awp P H fnm X.pr ac QA σ → Rel X σ m a w →
    wpV ρ nn P c (fun e a' w' => ∃ σ' m', QA e σ' ∧ Rel (X.at e) σ' m' a' w') a w := by
  intro ac
  induction ac with
  | alt x y ihx ihy =>
    intro nn c QA σ m a w X ρ H fnm hm hH hn hc h hr
    have hc' : chkC P X.n c x = true ∧ chkC P X.n c y = true := by
      rw [← Bool.and_eq_true]
      cases c <;> simpa only [chkC] using hc
    rcases h with h | h
    · exact ihx nn c QA σ m a w X ρ H fnm hm hH hn hc'.1 h hr
    · exact ihy nn c QA σ m a w X ρ H fnm hm hH hn hc'.2 h hr
  | regp aos po =>
    intro nn c QA σ m a w X ρ H fnm hm hH hn hc h hr
    cases c with
    | region id ops draw =>
      cases draw with
      | true => simp [chkC] at hc
      | false =>
        simp only [chkC, Bool.and_eq_true] at hc
        obtain ⟨hc1, hc2⟩ := hc
        split at hc2 <;> try (cases hc2; done)
        rename_i o ho
        simp only [Bool.and_eq_true] at hc2
        have hlt : aos.length < ops.size := (Array.getElem?_eq_some_iff.1 ho).1
        have hl : (ops.toList.take aos.length).length = aos.length := by simp; omega
        refine wpV_of (wpIn_region ?_)
        have hrange : List.range ops.size = List.range' 0 (ops.toList.take aos.length).length ++ (aos.length :: List.range' (aos.length + 1) (ops.size - aos.length - 1)) := by
          rw [hl, List.range_eq_range', show ops.size = aos.length + ((ops.size - aos.length - 1) + 1) by omega, ← List.range'_append_1, List.range'_succ]
          simp
        rw [hrange]
        refine opsH_sound (P := P) (X := X) (ρ := ρ) (nn := nn) (ops := ops) (K := fun σ' => popA P H X.pr po QA σ') hH hn (fun σ' m' a' w' hK hr' => ?_)
          (ops.toList.take aos.length) aos 0 σ m a w (fun j hj => by rw [hl] at hj; simp [List.getElem?_take, hj]) hc1 h hr
        rw [wpOpsIn_cons]
        unfold wpOpIn
        simp only [ho]
        have hw : Region.wanted o (yielded ops a'.tmps) = true := by
          have : o.guard = none := by simpa using hc2.1
          simp [Region.wanted, this]
        rw [if_pos hw]
        exact popA_sound hH hn hc2.2 hK hr'
    | _ => simp [chkC] at hc
  | skip =>
    intro nn c QA σ m a w X ρ H fnm hm hH hn hc h hr
    cases c <;> simp only [chkC, Bool.false_eq_true] at hc
    exact wpV_of (wpIn_skip ⟨σ, m, h, hr⟩)
  | reg aos =>
    intro nn c QA σ m a w X ρ H fnm hm hH hn hc h hr
    cases c with
    | region id ops draw =>
      cases draw with
      | true => simp [chkC] at hc
      | false =>
        simp only [chkC] at hc
        refine wpV_of (wpIn_region ?_)
        have := opsH_sound (P := P) (X := X) (ρ := ρ) (nn := nn) (tl := []) (Q := fun e a' w' => ∃ σ' m', QA e σ' ∧ Rel (X.at e) σ' m' a' w') (ops := ops) (K := QA .normal) hH hn (fun σ' m' a' w' hK hr' => ⟨σ', m', hK, hr'⟩)
          ops.toList aos 0 σ m a w (fun j _ => by simp) hc h hr
        rwa [List.append_nil, Array.length_toList, ← List.range_eq_range'] at this
    | _ => simp [chkC] at hc
  | regd aos =>
    intro nn c QA σ m a w X ρ H fnm hm hH hn hc h hr
    cases c with
    | region id ops draw =>
      cases draw with
      | false => simp [chkC] at hc
      | true =>
        simp only [chkC, Bool.and_eq_true] at hc
        obtain ⟨⟨hc, hd1⟩, hd2⟩ := hc
        refine wpV_of (wpIn_region_any hd1 ?_)
        have hlen : ops.size = aos.length := by have := chkOps_len _ _ hc; simpa using this
        have hI := (opsI_all (P := P) (H := H) (prot := X.pr) (aos := aos) aos.length 0 σ (QA .normal) (by omega)).mpr (by simpa [awp] using h)
        have rep : ∀ (i : Nat) (d : Bool), (Array.replicate ops.size false).getD i d = if i < ops.size then false else d := fun i d => by
          simp only [Array.getD, Array.size_replicate]
          split <;> simp
        refine any_sound (P := P) (X := X) (ρ := ρ) (nn := nn) hH hn hc hd2 (fun σ' m' a' w' hK hr' => ⟨σ', m', hK, hr'⟩) ops.size (Array.replicate ops.size false) σ m a _ (by simp) (Nat.le_trans (List.length_filter_le _ _) (by simp)) (fun i hi => by rw [rep] at hi; split at hi <;> cases hi) ?_ (hr.grow (Foot.drawn _ _ _))
        have : rem ops.size (Array.replicate ops.size false) = List.range' 0 aos.length := by
          unfold rem
          rw [List.filter_eq_self.2, List.range_eq_range', ← hlen]
          intro i hi
          rw [rep, if_pos (List.mem_range.1 hi)]; rfl
        rw [this]; exact hI
    | _ => simp [chkC] at hc
  | seq x y ihx ihy =>
    intro nn c QA σ m a w X ρ H fnm hm hH hn hc h hr
    cases c <;> simp only [chkC, Bool.false_eq_true, Bool.and_eq_true] at hc
    refine wpV_seq (wpV_mono (ihx nn _ _ σ m a w X ρ H fnm hm hH hn hc.1 h hr) ?_)
    rintro e a' w' ⟨σ', m', hq, hr'⟩
    cases e with
    | normal => exact ihy nn _ _ σ' m' a' w' X ρ H fnm hm hH hn hc.2 hq hr'
    | _ => exact ⟨σ', m', hq, hr'⟩
  | cond c' x y ihx ihy =>
    intro nn c QA σ m a w X ρ H fnm hm hH hn hc h hr
    cases c <;> simp only [chkC, Bool.false_eq_true, Bool.and_eq_true] at hc
    obtain ⟨⟨h1, h2⟩, h3⟩ := hc
    simp only [awp] at h
    split at h <;> try (exact h.elim)
    rename_i b hb
    have hv := relC_v (hb ▸ chkO_sound hr h1)
    refine wpV_cond_split hv (fun e => ihx nn _ _ σ m a w X ρ H fnm hm hH hn h2 (h.1 e) hr) (fun e => ihy nn _ _ σ m a w X ρ H fnm hm hH hn h3 (h.2 e) hr)
  | block id x ih =>
    intro nn c QA σ m a w X ρ H fnm hm hH hn hc h hr
    cases c <;> simp only [chkC, Bool.false_eq_true, Bool.and_eq_true, beq_iff_eq] at hc
    obtain ⟨rfl, hc⟩ := hc
    refine wpV_block (wpV_mono (ih nn _ _ σ m a w X ρ H fnm hm hH hn hc h hr) ?_)
    rintro e a' w' ⟨σ', m', hq, hr'⟩
    cases e with
    | exit id' =>
      simp only [Exit.inBlock]
      simp only at hq
      split at hq
      · rename_i e; rw [if_pos e]; exact ⟨σ', m', hq, hr'⟩
      · rename_i e; rw [if_neg e]; exact ⟨σ', m', hq, hr'⟩
    | _ => exact ⟨σ', m', hq, hr'⟩
  | loop lt ls x ih =>
    intro nn c QA σ m a w X ρ H fnm hm hH hn hc h hr
    cases c <;> simp only [chkC, Bool.false_eq_true] at hc
    obtain ⟨hpr, I, μ, h0, hround⟩ := h
    obtain ⟨m0, hr0⟩ := hr.forget lt ls hpr
    have hex : ∀ a w, (∃ σ m, I σ ∧ Rel X σ m a w) → ∃ k, ∃ σ m, I σ ∧ Rel X σ m a w ∧ μ σ = k := fun a w ⟨σ, m, h1, h2⟩ => ⟨_, σ, m, h1, h2, rfl⟩
    obtain ⟨ν, hν⟩ : ∃ ν : Act → World → Nat, ∀ a w, (∃ σ m, I σ ∧ Rel X σ m a w) → (∃ σ m, I σ ∧ Rel X σ m a w ∧ μ σ = ν a w) ∧ ∀ σ m, I σ → Rel X σ m a w → ν a w ≤ μ σ := by
      classical
      refine ⟨fun a w => if h : ∃ σ m, I σ ∧ Rel X σ m a w then (least (hex a w h)).choose else 0, fun a w h => ?_⟩
      simp only [h, dif_pos]
      have hs := (least (hex a w h)).choose_spec
      exact ⟨hs.1, fun σ m h1 h2 => hs.2 _ ⟨σ, m, h1, h2, rfl⟩⟩
    refine wpV_loop (fun a w => ∃ σ m, I σ ∧ Rel X σ m a w) ν ⟨_, m0, h0, hr0⟩ ?_
    intro a1 w1 hI
    obtain ⟨⟨σ1, m1, hI1, hr1, hμ1⟩, _⟩ := hν a1 w1 hI
    refine wpV_mono (ih nn _ _ σ1 m1 a1 w1 X ρ H fnm hm hH hn hc (hround σ1 hI1) hr1) ?_
    rintro e a' w' ⟨σ', m', hq, hr'⟩
    cases e with
    | normal =>
      obtain ⟨m2, hr2⟩ := hr'.forget lt ls hpr
      refine ⟨⟨_, m2, hq.1, hr2⟩, ?_⟩
      have := (hν a' w' ⟨_, m2, hq.1, hr2⟩).2 _ m2 hq.1 hr2
      have h3 := hq.2
      omega
    | _ => exact ⟨σ', m', hq, hr'⟩
  | exit id =>
    intro nn c QA σ m a w X ρ H fnm hm hH hn hc h hr
    cases c <;> simp only [chkC, Bool.false_eq_true, beq_iff_eq] at hc
    subst hc
    exact wpV_of (wpIn_exit ⟨σ, m, h, hr⟩)
  | ret =>
    intro nn c QA σ m a w X ρ H fnm hm hH hn hc h hr
    cases c <;> simp only [chkC, Bool.false_eq_true] at hc
    exact wpV_of (wpIn_ret ⟨σ, m, h, hr⟩)
  | bad => intro nn c QA σ m a w X ρ H fnm hm hH hn hc h hr; exact h.elim
  | conv s r esz x ih =>
    intro nn c QA σ m a w X ρ H fnm hm hH hn hc h hr
    have hc' : chkC P X.n c x = true := by cases c <;> simpa only [chkC] using hc
    simp only [awp] at h
    split at h <;> try (exact h.elim)
    rename_i cs hs hf
    exact ih nn _ _ _ m a w X ρ H fnm hm hH hn hc' h (hr.conv hs hf)
  | frz lt ls s x ih =>
    intro nn c QA σ m a w X ρ H fnm hm hH hn hc h hr
    have hc' : chkC P X.n c x = true := by cases c <;> simpa only [chkC] using hc
    simp only [awp] at h
    obtain ⟨hpr, esz, els, σ', h1, h2, h3⟩ := h
    obtain ⟨m1, hr1⟩ := hr.forget lt ls hpr
    obtain ⟨m2, hr2⟩ := hr1.frz h1 h2
    exact ih nn _ _ _ m2 a w X ρ H fnm hm hH hn hc' h3 hr2
  | frzs lt ls S x ih =>
    intro nn c QA σ m a w X ρ H fnm hm hH hn hc h hr
    have hc' : chkC P X.n c x = true := by cases c <;> simpa only [chkC] using hc
    simp only [awp] at h
    obtain ⟨hpr, σ', h2, h3⟩ := h
    obtain ⟨m1, hr1⟩ := hr.forget lt ls hpr
    obtain ⟨m2, hr2⟩ := hr1.giv h2
    exact ih nn _ _ _ m2 a w X ρ H fnm hm hH hn hc' h3 hr2
  | scope x ih =>
    intro nn c QA σ m a w X ρ H fnm hm hH hn hc h hr
    cases c <;> simp only [chkC, Bool.false_eq_true] at hc
    refine wpV_scope (wpV_mono (ih nn _ _ σ m a w X ρ H fnm hm hH hn hc h hr) ?_)
    rintro e a' w' ⟨σ', m', hq, hr'⟩
    cases e with
    | goto l => exact hq.elim
    | _ => exact ⟨σ', m', hq, hr'⟩
  | lab l =>
    intro nn c QA σ m a w X ρ H fnm hm hH hn hc h hr
    cases c <;> simp only [chkC, Bool.false_eq_true] at hc
    exact wpV_of (wpIn_label ⟨σ, m, h, hr⟩)
  | rfun p g nf code x lt pr ps asg body ihcode ihasg ihbody =>
    intro nn c QA σ m a w X ρ H fnm hm hH hn hc h hr
    cases c <;> simp only [chkC, Bool.false_eq_true, Bool.and_eq_true] at hc
    rename_i f params asg0 bod0
    obtain ⟨⟨⟨⟨⟨hx, hps⟩, hpn⟩, hca⟩, hcb⟩, hg⟩ := hc
    split at hg <;> try (cases hg; done)
    rename_i fn hfn
    simp only [Bool.and_eq_true] at hg
    obtain ⟨⟨⟨hname, hres⟩, hnf⟩, hbody⟩ := hg
    cases hfb : fn.body with
    | none => rw [hfb] at hbody; cases hbody
    | some cit =>
    rw [hfb] at hbody
    simp only [awp] at h
    split at h <;> try (exact h.elim)
    rename_i g' caps hcaps hbp
    obtain ⟨hfnm, rfl, hcl, hpr, h⟩ := h
    obtain ⟨rfl, hlp, hnm⟩ := hm hfnm
    simp only [Bool.and_eq_true, List.all_eq_true] at hpr
    obtain ⟨⟨hpp, hprot⟩, hlt⟩ := hpr
    obtain ⟨vc, hv, hvc, hcapsR⟩ := capsOf_sound (chkO_sound hr hx) hcaps
    obtain ⟨Ds, hDs, hDn, hDh⟩ := hr.defers.1
    have hpsz : params.toList = ps := by simpa using hps
    refine wpV_rangeFunc ?_
    intro fnid hfnid
    obtain ⟨rec, hrec⟩ : ∃ rec : Loop, rec = { state := .ready, pending := none, fn := fnid, tmps := a.tmps, params := params, assign := asg0, body := bod0, defers := w.heap.size } := ⟨_, rfl⟩
    obtain ⟨W1, hW1⟩ : ∃ W1, (w.alloc (.deferred (some []))).alloc (.loop rec) = W1 := ⟨_, rfl⟩
    have hL1 : W1.heap[w.heap.size + 1]? = some (.loop rec) := by
      rw [← hW1]; have := World.alloc_heap_new (w.alloc (.deferred (some []))) (.loop rec); rwa [World.size_alloc] at this
    have hlow : ∀ k, k < w.heap.size → W1.heap[k]? = w.heap[k]? := fun k hk => by
      rw [← hW1, Go.RowKit.Below.heap_alloc _ _ _ (by simp; omega), Go.RowKit.Below.heap_alloc _ _ _ hk]
    have hK1 : W1.heap[w.heap.size]? = some (.deferred (some [])) := by
      rw [← hW1]; exact (Go.RowKit.Below.heap_alloc _ _ _ (by simp)).trans (World.alloc_heap_new w _)
    have hB1 : Books w W1 := by rw [← hW1]; exact (Books.alloc _ _).trans (Books.alloc _ _)
    have hbase : X.w0.heap.size ≤ w.heap.size := hr.foot.size
    refine ⟨w.heap.size + 1, [{ target := .collected w.heap.size, args := #[] }], W1, { target := .fn (.func g') vc, args := #[Value.func (.yield (w.heap.size + 1)) #[] #[]] }, W1, g',
      #[Value.func (.yield (w.heap.size + 1)) #[] #[]] ++ vc, W1, ?_, ?_, ?_, ?_⟩
    · rw [← hW1, hrec]; exact run_enterLoop_outer _ _ _ _ _
    · simp only [resolve, hv]
      simp [go_sem]
    · have hen : Enters P g' := ⟨fn, hfn, by simpa using hname, by simp [hfb]⟩
      simp [invoke, go_sem, run_callFunc hen]
    · let Xi : Ctx := { ok0 := X.ok0, C := X.C, w0 := X.w0, n := fn.ntmps, gs := (lt.map fun i => (σ.t i, a.tmps.getD i undef)) ++ X.gs,
                        fx := ((w.heap.size, .deferred (some [])) :: (Ds.map fun D => (D, .deferred (some [])))) ++ X.fx, lp := some ⟨p, w.heap.size + 1, rec⟩, pr := pr, nm := true }
      have hprL : X.pr.all pr.contains = true := List.all_eq_true.2 hprot
      have hfxL : ∀ q ∈ Xi.fx, q.1 ≠ w.heap.size + 1 ∧ W1.heap[q.1]? = some q.2 ∧ q.2.isCells = false := fun q hq => by
        rcases List.mem_append.1 hq with hq | hq
        · rcases List.mem_cons.1 hq with rfl | hq
          · exact ⟨by simp, hK1, rfl⟩
          · obtain ⟨D, hD, rfl⟩ := List.mem_map.1 hq
            have := hDh D hD
            have hlt' := heap_lt this.2
            exact ⟨by simp; omega, (hlow D hlt').trans this.2, rfl⟩
        · have := hr.fixed q hq
          have hlt' := heap_lt this.1
          exact ⟨by omega, (hlow _ hlt').trans this.1, this.2⟩
      have hgs : ∀ q ∈ Xi.gs, RelC (X.ok m) w σ.b m q.1 q.2 ∧ onlyC Xi.pr q.1 = true := fun q hq => by
        rcases List.mem_append.1 hq with hq | hq
        · obtain ⟨i, hi, rfl⟩ := List.mem_map.1 hq
          exact ⟨hr.tmps i, hlt i hi⟩
        · exact ⟨(hr.ghosts q hq).1, onlyC_mono hprL _ (hr.ghosts q hq).2⟩
      have hri : Rel Xi ⟨iniC (.d (.v (Value.func (.yield (w.heap.size + 1)) #[] #[])) :: caps), σ.b⟩ m
          { tmps := (#[Value.func (.yield (w.heap.size + 1)) #[] #[]] ++ vc) ++ Array.replicate (fn.ntmps - (#[Value.func (.yield (w.heap.size + 1)) #[] #[]] ++ vc).size) undef, defers := [] } W1 := by
        refine hr.switch rfl rfl rfl hB1 (fun k hk => hlow k (by omega)) (fun s => .inl rfl) (fun i => ?_) ?_ ⟨⟨[], rfl, List.nodup_nil, fun _ h => by cases h⟩, fun _ => rfl⟩ hgs (fun q hq => (hfxL q hq).2) (fun i hi => ?_)
        · refine iniC_rel (f := fun i => ((#[Value.func (.yield (w.heap.size + 1)) #[] #[]] ++ vc) ++ Array.replicate (fn.ntmps - (#[Value.func (.yield (w.heap.size + 1)) #[] #[]] ++ vc).size) undef).getD i undef) (fun j hj => ?_) i
          have hj' : j < (#[Value.func (.yield (w.heap.size + 1)) #[] #[]] ++ vc).size := by simp at hj ⊢; omega
          show RelC _ _ _ _ _ (((#[Value.func (.yield (w.heap.size + 1)) #[] #[]] ++ vc) ++ _).getD j undef)
          rw [getD_append_left hj']
          cases j with
          | zero => rw [getD_append_left (by simp)]; exact .d (.v _)
          | succ j =>
            rw [getD_append_right (by simp)]
            simp only [List.getElem_cons_succ]
            exact hcapsR j (by simpa using hj)
        · have := of_decide_eq_true hnf
          simp [Xi]; omega
        · cases hi
          refine ⟨?_, by simpa using hpp⟩
          simp only [LoopI.obj, hbp]; exact hL1
      have hHandW : ∀ Xw, Wid Xi Xw → HandOK P Xw (handR p (w.heap.size + 1) (Go.AM.keepT σ.t lt) ps (fun pr' Q σ => awp P noH false pr' asg Q σ) (fun pr' Q σ => awp P noH false pr' body Q σ)) := by
        intro Xw hwid pr' l args b K t lt2 m2 a2 w2 vs hH2 hr2 hpr2 hon hsz hargs
        obtain ⟨rfl, hH2⟩ := hH2
        split at hH2 <;> try (exact hH2.elim)
        rename_i hbf
        obtain ⟨hlen, hw⟩ := hH2
        have hloop : w2.heap[w.heap.size + 1]? = some (.loop rec) := by
          have := (hr2.loop _ (hwid.lp.trans rfl)).1
          simp only [LoopI.obj, hbf] at this; exact this
        have hparams : rec.params = params := by rw [hrec]
        have hrf : (P.funcs[rec.fn]?).isSome = true := by rw [hrec]; exact hfnid
        have hpl : params.size = ps.length := by rw [← hpsz]; simp
        refine ⟨_, _, _, _, run_yield hloop (by rw [hparams]; omega), fun nn2 => roundIn_of_wpV hrf ?_⟩
        have hsep : ∀ q ∈ Xw.fx, q.1 ≠ w.heap.size + 1 := hwid.sep ⟨p, w.heap.size + 1, rec⟩ rfl
        have hw0 : Xw.w0 = X.w0 := hwid.w0
        let Xr : List (Nat × Obj) → Ctx := fun fx => { ok0 := Xw.ok0, C := Xw.C, w0 := Xw.w0, n := X.n, gs := (lt2.map fun i => (t i, a2.tmps.getD i undef)) ++ Xw.gs, fx := fx ++ Xw.fx, lp := none, pr := pr', nm := true }
        have hgr : ∀ q ∈ (Xr []).gs, RelC (Xw.ok m2) w2 b m2 q.1 q.2 ∧ onlyC pr' q.1 = true := fun q hq => by
          rcases List.mem_append.1 hq with hq | hq
          · obtain ⟨i, hi, rfl⟩ := List.mem_map.1 hq
            have := hr2.tmps i
            simp only [keepT_eq, hi, if_true] at this
            exact ⟨this, hon i hi⟩
          · exact ⟨(hr2.ghosts q hq).1, onlyC_mono hpr2 _ (hr2.ghosts q hq).2⟩
        have htm : rec.tmps = a.tmps := by rw [hrec]
        have hset := setP_rel (w := w2) (m := m2) (ok := Xw.ok m2) (b := b) (ps := ps) (args := args) (vs := vs.toList) (t := Go.AM.keepT σ.t lt) (tm := a.tmps) hlen (by simpa using hsz)
          (fun q hq => by have := List.all_eq_true.1 hpn q hq; rw [hr.size]; simpa using this)
          (fun i => keepT_rel (f := fun i => a.tmps.getD i undef) (fun i hi => (hr2.ghosts (σ.t i, a.tmps.getD i undef) (hwid.gs _ (List.mem_append_left _ (List.mem_map.2 ⟨i, hi, rfl⟩)))).1) i)
          (fun j hj => by have := hargs j hj; simpa [Array.getD_eq_getD_getElem?, List.getD] using this)
        have hr3 : Rel (Xr [(w.heap.size + 1, .loop rec)]) ⟨setP (Go.AM.keepT σ.t lt) ps args, b⟩ m2 { tmps := (rec.params.zip vs).foldl (fun tmps (x : Nat × Value) => tmps.setIfInBounds x.1 x.2) rec.tmps, defers := [] } w2 := by
          refine hr2.switch rfl rfl rfl (Books.refl _) (fun _ _ => rfl) (fun s => .inl rfl) (fun i => ?_) ?_ ⟨⟨[], rfl, List.nodup_nil, fun _ h => by cases h⟩, fun _ => rfl⟩ hgr (fun q hq => ?_) (fun i hi => by cases hi)
          · rw [hparams, htm, zip_fold, hpsz]; exact hset.1 i
          · rw [hparams, htm, zip_fold, hpsz]; exact hset.2.trans hr.size
          · rcases List.mem_append.1 hq with hq | hq
            · simp at hq; subst hq; exact ⟨hloop, rfl⟩
            · exact hr2.fixed q hq
        have hasg : rec.assign = asg0 := by rw [hrec]
        have hbod : rec.body = bod0 := by rw [hrec]
        rw [hasg, hbod]
        refine wpV_mono (ihasg nn2 asg0 _ _ m2 _ w2 (Xr [(w.heap.size + 1, .loop rec)]) (some (w.heap.size + 1)) noH false (fun h => by cases h) (noH_oks rfl) (fun _ => rfl) hca hw hr3) ?_
        rintro e a3 w3 ⟨σ3, m3, hq3, hr4⟩
        cases e <;> try (exact hq3.elim)
        have hr4 : Rel (Xr [(w.heap.size + 1, .loop rec)]) σ3 m3 a3 w3 := hr4
        have hq3 : awp P noH false pr' body (endR p K) σ3 := hq3
        have hl3 := (hr4.fixed (w.heap.size + 1, .loop rec) (by simp [Xr])).1
        refine ⟨_, run_beginRound hl3 (by rw [hrec]), ?_⟩
        have hl4 : (w3.putObj (w.heap.size + 1) (.loop { rec with state := .busy })).heap[w.heap.size + 1]? = some (.loop { rec with state := .busy }) := World.putObj_heap_same (heap_lt hl3)
        have hr5 : Rel (Xr [(w.heap.size + 1, .loop { rec with state := .busy })]) ⟨σ3.t, σ3.b⟩ m3 a3 (w3.putObj (w.heap.size + 1) (.loop { rec with state := .busy })) := by
          refine hr4.switch rfl rfl rfl (Books.put _ _ hl3 rfl) (fun k hk => World.putObj_heap_other (by have : (Xr [(w.heap.size + 1, .loop rec)]).w0 = X.w0 := hw0; rw [this] at hk; omega)) (fun s => .inl rfl) hr4.tmps hr4.size
            ⟨hr4.defers.1.keep' (by rw [hr4.defers.2 rfl]), hr4.defers.2⟩ hr4.ghosts (fun q hq => ?_) (fun i hi => by cases hi)
          rcases List.mem_append.1 hq with hq | hq
          · simp at hq; subst hq; exact ⟨hl4, rfl⟩
          · exact ⟨(World.putObj_heap_other (hsep q hq)).trans (hr4.fixed q (List.mem_append_right _ hq)).1, (hr4.fixed q (List.mem_append_right _ hq)).2⟩
        refine wpV_mono (ihbody nn2 bod0 _ _ m3 _ _ (Xr [(w.heap.size + 1, .loop { rec with state := .busy })]) (some (w.heap.size + 1)) noH false (fun h => by cases h) (noH_oks rfl) (fun _ => rfl) hcb hq3 hr5) ?_
        rintro e a6 w6 ⟨σ6, m6, hq6, hr6⟩
        have hr6 : Rel (Xr [(w.heap.size + 1, .loop { rec with state := .busy })]) σ6 m6 a6 w6 := by cases e <;> exact hr6
        have hl6 := (hr6.fixed (w.heap.size + 1, .loop { rec with state := .busy }) (by simp [Xr])).1
        -- a round's end
        have endr : ∀ (jump : Option Code) (b' : Nat → ABlk) (y : Bool), (∀ s, b' s = σ6.b s ∨ ((m6 s).live = false ∧ (σ6.b s = .fresh ∨ ∃ q, σ6.b s = .mark q) ∧ (b' s = .fresh ∨ ∃ q, b' s = .mark q))) →
            (⟨p, w.heap.size + 1, rec⟩ : LoopI).obj (b' p) = .loop { ({ rec with state := .busy } : Loop) with state := if jump.isNone then .ready else .done, pending := jump } → jump.isNone = y → K (bC y) b' →
            ∃ v w', (Instr.endRound (w.heap.size + 1) jump).run P w6 = .ok v w' ∧ ∃ y' b'' m', K y' b'' ∧ ((∃ v', Ending.returned v = .returned v' ∧ isPac y' = false ∧ Rel Xw ⟨Go.AM.keepT t lt2, b''⟩ m' a2 w' ∧ RelC (Xw.ok m') w' b'' m' y' v') ∨
              (∃ v', Ending.returned v = .panicked [{ v := v', recovered := false }] ∧ y' = pacC v' ∧ Rel { Xw with lp := none } ⟨Go.AM.keepT t lt2, b''⟩ m' a2 w')) := fun jump b' y hb hob hj hK => by
          refine ⟨_, _, run_endRound jump hl6, bC y, b', m6, hK, .inl ⟨_, rfl, rfl, ?_, by rw [hj]; exact .d (.v _)⟩⟩
          refine hr6.switch (X' := Xw) rfl rfl rfl (Books.put _ _ hl6 rfl) (fun k hk => World.putObj_heap_other (by have : (Xr [(w.heap.size + 1, .loop { rec with state := .busy })]).w0 = X.w0 := hw0; rw [this] at hk; omega)) hb (fun i => ?_) hr2.size
            ⟨by have hk := hr2.defers.1; exact hk.keep' (hr2.defers.2 hwid.nm), hr2.defers.2⟩ (fun q hq => ?_) (fun q hq => ?_) (fun i hi => ?_)
          · exact keepT_rel (f := fun i => a2.tmps.getD i undef) (fun i hi => (hr6.ghosts (t i, a2.tmps.getD i undef) (List.mem_append_left _ (List.mem_map.2 ⟨i, hi, rfl⟩))).1) i
          · exact ⟨(hr6.ghosts q (List.mem_append_right _ hq)).1, (hr2.ghosts q hq).2⟩
          · exact ⟨(World.putObj_heap_other (hsep q hq)).trans (hr6.fixed q (List.mem_append_right _ hq)).1, (hr6.fixed q (List.mem_append_right _ hq)).2⟩
          · have hip := (hr2.loop i hi).2
            rw [hwid.lp] at hi
            cases hi
            exact ⟨by rw [hob]; exact World.putObj_heap_same (heap_lt hl6), hip⟩
        have hready : rec.state = .ready ∧ rec.pending = none := by rw [hrec]; exact ⟨rfl, rfl⟩
        have robj : Obj.loop rec = .loop { ({ rec with state := .busy } : Loop) with state := .ready, pending := none } := by
          rw [hrec]
        unfold endR at hq6
        split at hq6 <;> try (exact hq6.elim)
        · rename_i hb6
          exact endr none σ6.b true (fun s => .inl rfl) (by simp only [LoopI.obj, hb6]; exact robj) rfl hq6
        · rename_i hb6
          refine endr (some .ret) (upd σ6.b p (.mark none)) false (fun s => ?_) (by simp only [upd_same, LoopI.obj, markCode]; rfl) rfl hq6
          by_cases e : s = p
          · subst e
            have hS := hr6.slots s
            unfold SlotOK at hS
            rw [hb6] at hS
            exact .inr ⟨hS, .inl hb6, .inr ⟨_, upd_same _ _ _⟩⟩
          · exact .inl (upd_ne _ _ e)
        · rename_i id hb6
          refine endr (some (.exit id)) (upd σ6.b p (.mark (some id))) false (fun s => ?_) (by simp only [upd_same, LoopI.obj, markCode]; rfl) rfl hq6
          by_cases e : s = p
          · subst e
            have hS := hr6.slots s
            unfold SlotOK at hS
            rw [hb6] at hS
            exact .inr ⟨hS, .inl hb6, .inr ⟨_, upd_same _ _ _⟩⟩
          · exact .inl (upd_ne _ _ e)
        · rename_i ch hb6
          obtain ⟨v, rfl, hK⟩ := hq6
          refine ⟨hr6.defers.2 rfl, pacC v, σ6.b, m6, hK, .inr ⟨v, rfl, rfl, ?_⟩⟩
          refine hr6.switch (X' := { Xw with lp := none }) rfl rfl rfl (Books.refl _) (fun k hk => rfl) (fun s => .inl rfl) (fun i => ?_) hr2.size
            ⟨by have hk := hr2.defers.1; exact hk.keep' (hr2.defers.2 hwid.nm), hr2.defers.2⟩ (fun q hq => ?_) (fun q hq => ?_) (fun i hi => by cases hi)
          · exact keepT_rel (f := fun i => a2.tmps.getD i undef) (fun i hi => (hr6.ghosts (t i, a2.tmps.getD i undef) (List.mem_append_left _ (List.mem_map.2 ⟨i, hi, rfl⟩))).1) i
          · exact ⟨(hr6.ghosts q (List.mem_append_right _ hq)).1, (hr2.ghosts q hq).2⟩
          · exact hr6.fixed q (List.mem_append_right _ hq)
      have hHand : HandsOK P Xi (handR p (w.heap.size + 1) (Go.AM.keepT σ.t lt) ps (fun pr' Q σ => awp P noH false pr' asg Q σ) (fun pr' Q σ => awp P noH false pr' body Q σ)) := by
        have hs : ∀ i, Xi.lp = some i → ∀ q ∈ Xi.fx, q.1 ≠ i.l := fun i hi q hq => by cases hi; exact (hfxL q hq).1
        exact ⟨hs, hHandW Xi ⟨rfl, rfl, rfl, rfl, fun _ h => h, fun _ h => h, by simp, rfl, hs⟩, hHandW⟩
      refine callsIn_of_wpV hfn hfb ?_
      have key := ihcode (nn - 1) cit _ _ m _ W1 Xi none _ false (fun h => by cases h) hHand (fun h => by obtain ⟨l, h⟩ := h; cases h) hbody (h (w.heap.size + 1)) hri
      refine wpV_mono key ?_
      rintro e a' w' ⟨σ', m', hq, hr'⟩
      have hrn : Rel { Xi with lp := none } σ' m' a' w' := by cases e <;> first | exact hr' | exact hr'.noLp
      have hde := hrn.defers.2 rfl
      -- behind the iterator
      have fin : Rel Xi σ' m' a' w' → finB p QA (Go.AM.keepT σ.t lt) σ'.b → ∀ v, rangePostV none nn P (w.heap.size + 1) (fun e a' w' => ∃ σ' m', QA e σ' ∧ Rel (X.at e) σ' m' a' w') { a with defers := [{ target := .collected w.heap.size, args := #[] }] ++ a.defers } (.returned v) w' := fun hr' hf v => by
        have hloop := hr'.loop _ rfl
        have put : ∀ (r' : Loop) (b' : Nat → ABlk), w'.heap[w.heap.size + 1]? = some (.loop r') → (∀ s, b' s = σ'.b s ∨ ((m' s).live = false ∧ (σ'.b s = .fresh ∨ ∃ q, σ'.b s = .mark q) ∧ (b' s = .fresh ∨ ∃ q, b' s = .mark q))) →
            Rel X ⟨Go.AM.keepT σ.t lt, b'⟩ m' { a with defers := [{ target := .collected w.heap.size, args := #[] }] ++ a.defers } (w'.putObj (w.heap.size + 1) (.loop { r' with state := .exhausted })) := fun r' b' hr1 hb => by
          have hfx : ∀ q ∈ Xi.fx, (w'.putObj (w.heap.size + 1) (.loop { r' with state := .exhausted })).heap[q.1]? = some q.2 ∧ q.2.isCells = false := fun q hq =>
            ⟨(World.putObj_heap_other (hfxL q hq).1).trans (hr'.fixed q hq).1, (hr'.fixed q hq).2⟩
          refine hr'.switch rfl rfl rfl (Books.put _ _ hr1 rfl) (fun k hk => World.putObj_heap_other (by have : Xi.w0 = X.w0 := rfl; rw [this] at hk; omega)) hb (fun i => ?_) hr.size ⟨⟨w.heap.size :: Ds, by simp [hDs], ?_, ?_⟩, fun h => by rw [hnm] at h; cases h⟩ (fun q hq => ?_) (fun q hq => ?_) (fun i hi => by rw [hlp] at hi; cases hi)
          · exact keepT_rel (f := fun i => a.tmps.getD i undef) (fun i hi => (hr'.ghosts (σ.t i, a.tmps.getD i undef) (List.mem_append_left _ (List.mem_map.2 ⟨i, hi, rfl⟩))).1) i
          · refine List.nodup_cons.2 ⟨fun hD => ?_, hDn⟩
            have := heap_lt (hDh _ hD).2
            omega
          · intro D hD
            rcases List.mem_cons.1 hD with rfl | hD
            · exact ⟨hbase, (hfx (w.heap.size, .deferred (some [])) (by simp [Xi])).1⟩
            · refine ⟨(hDh D hD).1, (hfx (D, .deferred (some [])) ?_).1⟩
              refine List.mem_append_left _ (List.mem_cons_of_mem _ (List.mem_map.2 ⟨D, hD, rfl⟩))
          · exact ⟨(hr'.ghosts q (List.mem_append_right _ hq)).1, (hr.ghosts q hq).2⟩
          · exact hfx q (List.mem_append_right _ hq)
        unfold finB at hf
        have hlop : ∀ x, σ'.b p = x → w'.heap[w.heap.size + 1]? = some ((⟨p, w.heap.size + 1, rec⟩ : LoopI).obj x) := fun x e => e ▸ hloop.1
        split at hf <;> try (exact hf.elim)
        · rename_i hb
          have h1 := hlop _ hb
          have h1 : w'.heap[w.heap.size + 1]? = some (.loop rec) := h1
          have hpn : rec.pending = none := by rw [hrec]
          refine ⟨rec.pending, _, run_endLoop h1 (by rw [hrec]; simp), ?_⟩
          have hput := put rec σ'.b h1 (fun s => .inl rfl)
          rw [hpn] at hput ⊢
          exact ⟨_, m', hf, hput⟩
        · rename_i hb
          have h1 : w'.heap[w.heap.size + 1]? = some (.loop { rec with state := .done, pending := some .ret }) := hlop _ hb
          refine ⟨some .ret, _, run_endLoop h1 (by simp), wpV_of (wpIn_ret ⟨_, m', hf, put _ _ h1 (fun s => ?_)⟩)⟩
          by_cases e : s = p
          · subst e
            have hS := hr'.slots s
            unfold SlotOK at hS
            rw [hb] at hS
            exact .inr ⟨hS, .inr ⟨_, hb⟩, .inl (upd_same _ _ _)⟩
          · exact .inl (upd_ne _ _ e)
        · rename_i id hb
          have h1 : w'.heap[w.heap.size + 1]? = some (.loop { rec with state := .done, pending := some (.exit id) }) := hlop _ hb
          refine ⟨some (.exit id), _, run_endLoop h1 (by simp), wpV_of (wpIn_exit ⟨_, m', hf, put _ _ h1 (fun s => ?_)⟩)⟩
          by_cases e : s = p
          · subst e
            have hS := hr'.slots s
            unfold SlotOK at hS
            rw [hb] at hS
            exact .inr ⟨hS, .inr ⟨_, hb⟩, .inl (upd_same _ _ _)⟩
          · exact .inl (upd_ne _ _ e)
      have hresults : (results fn a'.tmps).run P w' = .ok (.tuple #[]) w' := by
        have : fn.results = #[] := by simpa using hres
        simp [results, this]
      cases e with
      | normal =>
        show LeavesInM _ _ _ _ _ _ a'.defers _ _
        rw [hde]
        exact ⟨_, hresults, fin hr' hq _⟩
      | ret =>
        show LeavesInM _ _ _ _ _ _ a'.defers _ _
        rw [hde]
        exact ⟨_, hresults, fin hr' hq _⟩
      | panic ch =>
        show LeavesInM _ _ _ _ _ _ a'.defers _ _
        rw [hde]
        have hfx : ∀ q ∈ Xi.fx, w'.heap[q.1]? = some q.2 ∧ q.2.isCells = false := fun q hq => hrn.fixed q hq
        refine ⟨⟨Go.AM.keepT σ.t lt, σ'.b⟩, m', hq, ?_⟩
        refine hrn.switch (X' := { X with lp := none }) rfl rfl rfl (Books.refl _) (fun k hk => rfl) (fun s => .inl rfl) (fun i => ?_) hr.size ⟨⟨w.heap.size :: Ds, by simp [hDs], ?_, ?_⟩, fun h => by rw [hnm] at h; cases h⟩ (fun q hq => ?_) (fun q hq => ?_) (fun i hi => by cases hi)
        · exact keepT_rel (f := fun i => a.tmps.getD i undef) (fun i hi => (hrn.ghosts (σ.t i, a.tmps.getD i undef) (List.mem_append_left _ (List.mem_map.2 ⟨i, hi, rfl⟩))).1) i
        · refine List.nodup_cons.2 ⟨fun hD => ?_, hDn⟩
          have := heap_lt (hDh _ hD).2
          omega
        · intro D hD
          rcases List.mem_cons.1 hD with rfl | hD
          · exact ⟨hbase, (hfx (w.heap.size, .deferred (some [])) (by simp [Xi])).1⟩
          · refine ⟨(hDh D hD).1, (hfx (D, .deferred (some [])) ?_).1⟩
            refine List.mem_append_left _ (List.mem_cons_of_mem _ (List.mem_map.2 ⟨D, hD, rfl⟩))
        · exact ⟨(hrn.ghosts q (List.mem_append_right _ hq)).1, (hr.ghosts q hq).2⟩
        · exact hfx q (List.mem_append_right _ hq)
      | _ => exact hq.elim
end
end Go.AM
