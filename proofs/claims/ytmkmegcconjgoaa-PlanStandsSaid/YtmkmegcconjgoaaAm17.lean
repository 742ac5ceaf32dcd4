/- The abstract machine, part 17: the abstract code's weakest precondition is sound; loops over functions. No condition. -/
import Derived.Test.YtmkmegcconjgoaaAm13
set_option linter.unusedVariables false
set_option linter.unusedSimpArgs false
namespace Go.AM
open Go

/-- A step of the machine's book-keeping: cells lie as they lay. -/
structure Books (w w' : World) : Prop where
  os : w'.os = w.os
  tape : w'.tape = w.tape
  output : w'.output = w.output
  size : w.heap.size ≤ w'.heap.size
  cells : ∀ (k : Nat) (o : Obj), w.heap[k]? = some o → o.isCells = true → w'.heap[k]? = some o

theorem Books.refl (w : World) : Books w w := ⟨rfl, rfl, rfl, Nat.le_refl _, fun _ _ h _ => h⟩
theorem Books.trans {a b c : World} (h : Books a b) (k : Books b c) : Books a c :=
  ⟨k.os.trans h.os, k.tape.trans h.tape, k.output.trans h.output, Nat.le_trans h.size k.size, fun i o hi ho => k.cells i o (h.cells i o hi ho) ho⟩
theorem Books.cell {w w' : World} (h : Books w w') {b o : Nat} {u : Value} (hu : w.cell? ⟨b, o, none⟩ = some u) : w'.cell? ⟨b, o, none⟩ = some u := by
  obtain ⟨x, hx, hc⟩ := cells_of_cell hu
  rw [cell_same (w := w)]
  · exact hu
  · show w'.heap[b]? = w.heap[b]?
    rw [h.cells _ _ hx hc]; exact hx.symm
theorem Books.alloc (w : World) (o : Obj) : Books w (w.alloc o) :=
  ⟨rfl, rfl, rfl, by simp, fun k x hk _ => (Go.RowKit.Below.heap_alloc w o k (heap_lt hk)).trans hk⟩
theorem Books.put (w : World) {l : Nat} {o : Obj} (o' : Obj) (h : w.heap[l]? = some o) (ho : o.isCells = false) : Books w (w.putObj l o') :=
  ⟨rfl, rfl, rfl, by simp, fun k x hk hx => (World.putObj_heap_other (fun e => by subst e; rw [h] at hk; cases hk; rw [ho] at hx; cases hx)).trans hk⟩

section
variable {P : Program} {X X' : Ctx} {σ : St} {m : Nat → Loc} {a a' : Act} {w w' : World} {ρ : Option Nat} {nn : Nat} {Q : Exit → Act → World → Prop}

/-- One frame's state becomes another's. -/
theorem Rel.switch (hr : Rel X σ m a w) {t' : Nat → AC} {b' : Nat → ABlk} (h1 : X'.ok0 = X.ok0) (h2 : X'.C = X.C) (h3 : X'.w0 = X.w0) (hB : Books w w')
    (hlow : ∀ k, k < X.w0.heap.size → w'.heap[k]? = w.heap[k]?)
    (hb : ∀ s, b' s = σ.b s ∨ ((m s).live = false ∧ (σ.b s = .fresh ∨ ∃ q, σ.b s = .mark q) ∧ (b' s = .fresh ∨ ∃ q, b' s = .mark q)))
    (ht : ∀ i, RelC (X.ok m) w σ.b m (t' i) (a'.tmps.getD i undef)) (hz : a'.tmps.size = X'.n) (hd : Marks X.w0.heap.size a'.defers w' ∧ (X'.nm = true → a'.defers = []))
    (hg : ∀ p ∈ X'.gs, RelC (X.ok m) w σ.b m p.1 p.2 ∧ onlyC X'.pr p.1 = true) (hf : ∀ p ∈ X'.fx, w'.heap[p.1]? = some p.2 ∧ p.2.isCells = false)
    (hl : ∀ i, X'.lp = some i → w'.heap[i.l]? = some (i.obj (b' i.p)) ∧ i.p ∈ X'.pr) : Rel X' ⟨t', b'⟩ m a' w' := by
  have hok : X'.ok m = X.ok m := by unfold Ctx.ok; rw [h1, h3]
  have hturn : ∀ s, Turns (σ.b s) (b' s) (m s) (m s) := fun s => by
    rcases hb s with e | ⟨_, e | ⟨q, e⟩, _⟩
    · exact .same e.symm rfl
    · exact .fresh e
    · exact .mark q e
  have hc : ∀ (b o : Nat) (u : Value), X.ok m b → w.cell? ⟨b, o, none⟩ = some u → w'.cell? ⟨b, o, none⟩ = some u := fun b o u _ hu => hB.cell hu
  have mono : ∀ {x : AC} {v : Value}, RelC (X.ok m) w σ.b m x v → RelC (X'.ok m) w' b' m x v := fun {x v} h => by
    rw [hok]; exact h.mono hB.size hc (fun _ _ h => h) hturn
  refine ⟨?_, hz, fun i => mono (ht i), fun s => ?_, hr.inj, ?_, ?_, fun p hp => ⟨mono (hg p hp).1, (hg p hp).2⟩, hf, hl⟩
  · rw [h3]; exact hd
  · rcases hb s with e | ⟨hnl, _, e⟩
    · rw [hok]
      refine (hr.slots s).mono hB.size hc (fun _ _ h => h) hturn e rfl (fun hlv => ?_)
      obtain ⟨o, ho, hcl⟩ := (hr.slots s).cells hlv
      rw [hB.cells _ _ ho hcl, ho]
    · unfold SlotOK
      simp only
      rcases e with e | ⟨q, e⟩ <;> rw [e] <;> exact hnl
  · rw [h3]; exact hr.own
  · rw [h2, h3]
    exact ⟨hB.os.trans hr.foot.os, hB.tape.trans hr.foot.tape, hB.output.trans hr.foot.output, Nat.le_trans hr.foot.size hB.size, fun k hk hC => (hlow k hk).trans (hr.foot.block k hk hC)⟩

theorem keepT_eq (t : Nat → AC) (lt : List Nat) (i : Nat) : keepT t lt i = if i ∈ lt then t i else .junk := mkT_map (f := t) lt i

theorem keepT_rel {ok : Nat → Prop} {b : Nat → ABlk} {t : Nat → AC} {lt : List Nat} {f : Nat → Value} (h : ∀ i, i ∈ lt → RelC ok w b m (t i) (f i)) (i : Nat) : RelC ok w b m (keepT t lt i) (f i) := by
  rw [keepT_eq]
  split
  · rename_i hi; exact h i hi
  · exact .junk _

theorem iniC_rel {ok : Nat → Prop} {b : Nat → ABlk} : ∀ {ds : List AC} {f : Nat → Value}, (∀ j (hj : j < ds.length), RelC ok w b m (ds[j]) (f j)) → ∀ i, RelC ok w b m (iniC ds i) (f i)
  | [], f, _, i => .junk _
  | d :: ds, f, h, 0 => h 0 (by simp)
  | d :: ds, f, h, i + 1 => iniC_rel (ds := ds) (f := fun i => f (i + 1)) (fun j hj => h (j + 1) (by simpa using hj)) i

theorem setP_rel {ok : Nat → Prop} {b : Nat → ABlk} : ∀ {ps : List Nat} {args : List AC} {vs : List Value} {t : Nat → AC} {tm : Array Value}, args.length = ps.length → vs.length = args.length → (∀ p ∈ ps, p < tm.size) →
    (∀ i, RelC ok w b m (t i) (tm.getD i undef)) → (∀ j (hj : j < args.length), RelC ok w b m (args[j]) (vs.getD j undef)) →
    (∀ i, RelC ok w b m (setP t ps args i) (((ps.zip vs).foldl (fun tm p => tm.setIfInBounds p.1 p.2) tm).getD i undef)) ∧ ((ps.zip vs).foldl (fun tm p => tm.setIfInBounds p.1 p.2) tm).size = tm.size
  | [], [], [], t, tm, _, _, _, ht, _ => ⟨ht, rfl⟩
  | p :: ps, x :: args, v :: vs, t, tm, h1, h2, hp, ht, ha => by
    have hps : p < tm.size := hp p (by simp)
    have := setP_rel (ps := ps) (args := args) (vs := vs) (t := upd t p x) (tm := tm.setIfInBounds p v) (by simpa using h1) (by simpa using h2) (fun q hq => by simpa using hp q (by simp [hq]))
      (fun i => by
        by_cases e : i = p
        · subst e; rw [upd_same]
          have e1 : (tm.setIfInBounds i v).getD i undef = v := by simp [Array.getD, hps]
          rw [e1]; exact ha 0 (by simp)
        · rw [upd_ne _ _ e]
          have : (tm.setIfInBounds p v).getD i undef = tm.getD i undef := by
            simp only [Array.getD_eq_getD_getElem?]
            rw [Array.getElem?_setIfInBounds_ne (by omega)]
          rw [this]; exact ht i) (fun j hj => ha (j + 1) (by simpa using hj))
    exact ⟨this.1, this.2.trans (by simp)⟩
  | _ :: _, [], _, _, _, h1, _, _, _, _ => by simp at h1
  | [], _ :: _, _, _, _, h1, _, _, _, _ => by simp at h1
  | _, _ :: _, [], _, _, _, h2, _, _, _ => by simp at h2
  | _, [], _ :: _, _, _, _, h2, _, _, _ => by simp at h2

/-- A variable that holds nil holds an empty row. -/
theorem Rel.conv (hr : Rel X σ m a w) {s r esz : Nat} {cs : List AC} (hs : σ.b s = .var (.d (.v (.slice none 0 0)) :: cs)) (hf : σ.b r = .fresh) :
    Rel X ⟨σ.t, upd (upd σ.b r (.row esz [])) s (.var (.row r 0 0 0 :: cs))⟩ m a w := by
  have hne : r ≠ s := fun e => by rw [e, hs] at hf; cases hf
  have hnl : (m r).live = false := by have := hr.slots r; unfold SlotOK at this; rw [hf] at this; exact this
  have hturn : ∀ s', Turns (σ.b s') (upd (upd σ.b r (.row esz [])) s (.var (.row r 0 0 0 :: cs)) s') (m s') (m s') := fun s' => by
    by_cases e : s' = s
    · subst e; rw [upd_same]; exact .var _ _ hs rfl rfl
    · rw [upd_ne _ _ e]
      by_cases e2 : s' = r
      · subst e2; exact .fresh hf
      · rw [upd_ne _ _ e2]; exact .same rfl rfl
  have mono : ∀ {x : AC} {v : Value}, RelC (X.ok m) w σ.b m x v → RelC (X.ok m) w (upd (upd σ.b r (.row esz [])) s (.var (.row r 0 0 0 :: cs))) m x v := fun {x v} h =>
    h.mono (Nat.le_refl _) (fun _ _ _ _ h => h) (fun _ _ h => h) hturn
  refine ⟨hr.defers, hr.size, fun i => mono (hr.tmps i), fun s' => ?_, hr.inj, hr.own, hr.foot, fun p hp => ⟨mono (hr.ghosts p hp).1, (hr.ghosts p hp).2⟩, hr.fixed, fun i hi => ⟨?_, (hr.loop i hi).2⟩⟩
  · by_cases e : s' = s
    · subst e
      obtain ⟨hl, c, ee, hh, hz, hone, hcs⟩ := slot_var hr hs
      unfold SlotOK
      simp only [upd_same]
      refine ⟨hl, c, ee, hh, by simpa using hz, fun i hi => hone i (by simpa using hi), fun i hi => ?_⟩
      have h0 := hcs i (by simpa using hi)
      cases i with
      | zero =>
        simp only [List.getElem_cons_zero] at h0 ⊢
        rw [relC_v h0]
        exact .rowNil r esz (by rw [upd_ne _ _ hne, upd_same]) hnl
      | succ i =>
        simp only [List.getElem_cons_succ] at h0 ⊢
        exact mono h0
    · by_cases e2 : s' = r
      · subst e2
        unfold SlotOK
        simp only [upd_ne _ _ hne, upd_same]
        exact .inl ⟨hnl, trivial⟩
      · exact (hr.slots s').mono (Nat.le_refl _) (fun _ _ _ _ h => h) (fun _ _ h => h) hturn (by simp only; rw [upd_ne _ _ e, upd_ne _ _ e2]) rfl (fun _ => rfl)
  · have : i.obj (upd (upd σ.b r (.row esz [])) s (.var (.row r 0 0 0 :: cs)) i.p) = i.obj (σ.b i.p) := by
      by_cases e : i.p = s
      · rw [e, upd_same, hs]; rfl
      · rw [upd_ne _ _ e]
        by_cases e2 : i.p = r
        · rw [e2, upd_same, hf]; rfl
        · rw [upd_ne _ _ e2]
    rw [this]; exact (hr.loop i hi).1

theorem noH_ok : HandOK P X noH := fun _ _ _ _ _ _ _ _ _ _ _ h => h.elim
theorem noH_oks (h : X.lp = none) : HandsOK P X noH := ⟨fun i hi => (by rw [h] at hi; cases hi), noH_ok, fun _ _ => noH_ok⟩

theorem Rel.keepT (hr : Rel X σ m a w) (lt : List Nat) : Rel X ⟨Go.AM.keepT σ.t lt, σ.b⟩ m a w :=
  ⟨hr.defers, hr.size, fun i => keepT_rel (f := fun i => a.tmps.getD i undef) (fun i _ => hr.tmps i) i, hr.slots, hr.inj, hr.own, hr.foot, hr.ghosts, hr.fixed, hr.loop⟩

theorem capsOf_sound {ok : Nat → Prop} {w : World} {b : Nat → ABlk} {m : Nat → Loc} {x : AC} {v : Value} {g : FuncId} {caps : List AC} (h : RelC ok w b m x v) (hc : capsOf x = some (g, caps)) :
    ∃ vc : Array Value, v = .func (.func g) #[] vc ∧ vc.size = caps.length ∧ ∀ j (hj : j < caps.length), RelC ok w b m (caps[j]) (vc.getD j undef) := by
  unfold capsOf at hc
  split at hc
  · cases hc
    cases h with
    | clo _ _ _ vf vc h1 h2 hf hc =>
      have : vf = #[] := Array.eq_empty_of_size_eq_zero (by simpa using h1)
      subst this
      exact ⟨vc, rfl, h2, hc⟩
  · cases hc
    cases h with
    | d h => cases h with
      | clo _ _ _ vf vc h1 h2 hf hc =>
        have : vf = #[] := Array.eq_empty_of_size_eq_zero (by simpa using h1)
        subst this
        exact ⟨vc, rfl, by simpa using h2, fun j hj => by rw [List.getElem_map]; exact .d (hc j (by simpa using hj))⟩
  · cases hc

theorem onlyC_scrC (ls : List Nat) (x : AC) : onlyC ls (scrC ls x) = true := by
  unfold scrC; split
  · assumption
  · rfl

/-- Behind a call that turns slots. -/
theorem imp_gives {o : Oper} {H : Hand} {K : St → Prop} {lt ls : List Nat} {g : FuncId} {args : List AC} {vs : Array Value} {dst : Option Nat} (hH : HandsOK P X H) (hpr : X.pr.all ls.contains = true)
    (h : ImpFn P H ls g (args.map (scrC ls)) (σ.forget lt ls).b fun y b' => K (St.put ⟨(σ.forget lt ls).t, b'⟩ dst y)) (hr : Rel X σ m a w) (hsz : vs.size = args.length)
    (hargs : ∀ j (hj : j < args.length), RelC (X.ok m) w σ.b m (args[j]) (vs.getD j undef)) (hrun : (execOp a.eval o).run P w = .ok (.enter g vs) w) :
    Gives P o a w fun v w' => ∃ y b' m', K (St.put ⟨(σ.forget lt ls).t, b'⟩ dst y) ∧ Rel X ⟨(σ.forget lt ls).t, b'⟩ m' a w' ∧ RelC (X.ok m') w' b' m' y v := by
  obtain ⟨m0, hr0, hC⟩ := hr.forget' lt ls hpr
  refine .inr ⟨g, vs, hrun, ?_⟩
  have := h.2 X (fun i => scrC ls (σ.t i)) lt m0 a w vs hH hr0 hpr (fun i _ => onlyC_scrC _ _) (by simpa using hsz) (fun j hj => by
    simp only [List.getElem_map]
    exact hC (hargs j (by simpa using hj)))
  refine callsIn_wide.1 ((callsIn_wide.2 this : CallsIn Fence.wide 0 P g vs w _).mono ?_)
  rintro e w' ⟨v, y, b', m', e1, hK, hr', hy⟩
  exact ⟨v, e1, y, b', m', hK, hr', hy⟩

theorem operH1_sound {o : Oper} {aop : AOp} {H : Hand} {K : St → Prop} {K' : Act → World → Prop} (hH : HandsOK P X H) (hρ : (∃ l, ρ = some l) → H = noH) (hop : chkA P o.op aop = true) (hd : ∀ d, o.dst = some d → d < X.n)
    (h : operH1 P H X.pr aop o.dst σ K) (hr : Rel X σ m a w) (hk : ∀ σ' m' a' w', K σ' → Rel X σ' m' a' w' → K' a' w') : o.wpIn (wf ρ) nn P a w K' Q := by
  unfold operH1 at h
  split at h
  · rename_i lt pr x xs
    split at h <;> try (exact h.elim)
    rename_i l f c hx
    obtain ⟨rfl, rfl, hpr, h⟩ := h
    have hn : ρ = none := by
      cases ρ with
      | none => rfl
      | some l => rw [hρ ⟨l, rfl⟩] at h; exact h.elim
    subst hn
    cases hopc : o.op <;> rw [hopc] at hop <;> simp only [chkA, Bool.false_eq_true] at hop
    rename_i cl
    split at hop <;> try (cases hop; done)
    rename_i x' hcal
    simp only [Bool.and_eq_true] at hop
    obtain ⟨hcx, hxs⟩ := hop
    have hv := relC_v (hx ▸ chkO_sound hr hcx)
    simp only [Bool.and_eq_true, List.all_eq_true] at hpr
    have hlen : (cl.args.map a.eval).size = (xs.map (evO σ.t)).length := by have := chkOs_len hxs; simp at this ⊢; omega
    have hargs : ∀ j (hj : j < (xs.map (evO σ.t)).length), RelC (X.ok m) w σ.b m ((xs.map (evO σ.t))[j]) ((cl.args.map a.eval).getD j undef) := fun j hj => by
      rw [getD_map_toArray]
      simp only [List.getElem_map]
      exact chkOs_get hr hxs j (by simpa using hj)
    obtain ⟨f, tmps, asg, bod, hy, hround⟩ := hH.own pr l _ σ.b _ σ.t lt m a w (cl.args.map a.eval) h (hr.keepT lt) (by rw [List.all_eq_true]; exact hpr.1) (fun i hi => hpr.2 i hi) hlen hargs
    have hrun : (execOp a.eval o).run P w = .ok (.round l f tmps asg bod) w := by
      simp [execOp, hopc, resolve, hcal, hv, Deferred.ofValue, invoke, hy]
    refine ⟨fun f _ => trivial, ?_⟩
    have hs : o.semAt (wf none).round a.eval = execOp a.eval o := Oper.semAt_eq _ _ _ (fun c e => by rw [hopc] at e; cases e)
    rw [hs, hrun, Oper.uponIn_round]
    refine ⟨fun h => by simp [wf, Fence.wide] at h, (hround _).mono ?_⟩
    rintro e w' ⟨v, y, b', m', rfl, hK, hr', hyv⟩
    exact hk _ m' _ _ hK (hr'.put hyv o.dst hd)
  · rename_i lt ls g xs
    obtain ⟨hpr, h⟩ := h
    cases hopc : o.op <;> rw [hopc] at hop <;> simp only [chkA, Bool.false_eq_true] at hop
    rename_i cl
    split at hop <;> try (cases hop; done)
    rename_i g' hcal
    simp only [Bool.and_eq_true, beq_iff_eq] at hop
    obtain ⟨rfl, hxs⟩ := hop
    refine wpIn_of_gives (fun c e => by rw [hopc] at e; cases e) (imp_gives (vs := cl.args.map a.eval) hH hpr h hr (by have := chkOs_len hxs; simp at this ⊢; omega) (fun j hj => ?_) ?_) (fun v w' ⟨y, b', m', hK, hr', hy⟩ => hk _ m' _ _ hK (hr'.put hy o.dst hd))
    · rw [getD_map_toArray]
      simp only [List.getElem_map]
      exact chkOs_get hr hxs j (by simpa using hj)
    · simp [execOp, hopc, resolve, hcal, Act.eval, Deferred.ofValue, invoke, run_callFunc h.1]
  · rename_i lt ls x xs
    split at h <;> try (exact h.elim)
    rename_i g caps hcaps
    obtain ⟨hpr, h⟩ := h
    cases hopc : o.op <;> rw [hopc] at hop <;> simp only [chkA, Bool.false_eq_true] at hop
    rename_i cl
    split at hop <;> try (cases hop; done)
    rename_i x' hcal
    simp only [Bool.and_eq_true] at hop
    obtain ⟨hcx, hxs⟩ := hop
    obtain ⟨vc, hv, hvc, hcapsR⟩ := capsOf_sound (chkO_sound hr hcx) hcaps
    have hl := chkOs_len hxs
    have hl' : (cl.args.map a.eval).size = (xs.map (evO σ.t)).length := by simp at hl ⊢; omega
    refine wpIn_of_gives (fun c e => by rw [hopc] at e; cases e) (imp_gives (vs := cl.args.map a.eval ++ vc) hH hpr h hr (by simp at hl' ⊢; omega) (fun j hj => ?_) ?_) (fun v w' ⟨y, b', m', hK, hr', hy⟩ => hk _ m' _ _ hK (hr'.put hy o.dst hd))
    · by_cases c1 : j < (xs.map (evO σ.t)).length
      · rw [getD_append_left (by omega), List.getElem_append_left c1, getD_map_toArray]
        simp only [List.getElem_map]
        exact chkOs_get hr hxs j (by simpa using c1)
      · rw [getD_append_right (by omega), List.getElem_append_right (by omega)]
        have := hcapsR (j - (xs.map (evO σ.t)).length) (by simp at hj c1 ⊢; omega)
        rw [hl']; exact this
    · simp [execOp, hopc, resolve, hcal, hv, Deferred.ofValue, invoke, run_callFunc h.1]
  · rename_i neg x
    obtain ⟨x', hR, hdef, key⟩ := run_eqn hop hr
    have fin : ∀ (r : Bool), (execOp a.eval o).run P w = .ok (.value (.bool r)) w → K (St.put σ o.dst (bC r)) → o.wpIn (wf ρ) nn P a w K' Q := fun r hrun hK =>
      wpIn_of_gives (R := fun v w' => v = .bool r ∧ w' = w) hdef (.inl ⟨_, w, ⟨rfl, rfl⟩, .inl hrun⟩) (fun v w' ⟨e1, e2⟩ => by subst e1; subst e2; exact hk _ m _ _ hK (hr.put (.d (.v _)) o.dst hd))
    split at h
    · rename_i hx
      have e1 := relC_v (hx ▸ hR)
      have hrun := key e1 rfl
      refine fin _ hrun ?_
      cases neg <;> exact h
    · rename_i xs hx
      rw [hx] at hR
      generalize hv : a.eval x' = v at hR
      cases hR with
      | d hD =>
        cases hD with
        | empty A cap =>
          have hrun := key hv rfl
          refine fin _ hrun ?_
          cases (if neg = true then !A.isNone else A.isNone)
          · exact h.2
          · exact h.1
        | list _ B off cap esz f hok hB hcap hsz =>
          have hrun := key hv rfl
          refine fin _ hrun ?_
          cases xs with
          | nil => cases neg
                   · exact h.2
                   · exact h.1
          | cons => cases neg <;> exact h
    · exact h.elim
  · exact h.elim

theorem operH_sound {o : Oper} {ops : Array Oper} {i : Nat} {ao : AOper} {H : Hand} {K : St → Prop} {K' : Act → World → Prop} (hH : HandsOK P X H) (hρ : (∃ l, ρ = some l) → H = noH) (hi : ops[i]? = some o) (hc : chkOper P X.n ops o ao = true)
    (h : operH P H X.pr ao σ K) (hr : Rel X σ m a w) (hk : ∀ σ' m' a' w', K σ' → Rel X σ' m' a' w' → K' a' w') : wpOpIn (wf ρ) nn P ops Q i K' a w := by
  have key : operHg P H X.pr ao σ K → wpOpIn (wf ρ) nn P ops Q i K' a w := fun h => by
    simp only [chkOper, Bool.and_eq_true] at hc
    obtain ⟨⟨hdst, hop⟩, hg⟩ := hc
    have hd : o.dst = ao.dst ∧ ∀ d, o.dst = some d → d < X.n := by
      split at hdst
      · rename_i e1 e2; rw [e1, e2]; exact ⟨rfl, fun d h => by cases h⟩
      · rename_i d d' e1 e2
        simp at hdst
        rw [e1, e2]; exact ⟨by rw [hdst.1], fun q h => by cases h; exact hdst.2⟩
      · cases hdst
    have run : operH1 P H X.pr ao.op ao.dst σ K → o.wpIn (wf ρ) nn P a w K' Q := fun h => operH1_sound hH hρ hop hd.2 (hd.1 ▸ h) hr hk
    have skip : K (St.put σ ao.dst (.d (.v undef))) → K' (a.put o.dst undef) w := fun h => by
      rw [← hd.1] at h
      exact hk _ m _ _ h (hr.put (.d (.v _)) o.dst hd.2)
    unfold wpOpIn
    simp only [hi]
    unfold operHg at h
    cases hog : o.guard with
    | none =>
      cases hag : ao.g with
      | some x => rw [hog, hag] at hg; cases hg
      | none =>
        rw [hag] at h
        have hw : Region.wanted o (yielded ops a.tmps) = true := by simp [Region.wanted, hog]
        rw [if_pos hw]; exact run h
    | some jw =>
      obtain ⟨j, want⟩ := jw
      cases hag : ao.g with
      | none => rw [hog, hag] at hg; cases hg
      | some gw =>
        obtain ⟨g, want'⟩ := gw
        rw [hog, hag] at hg
        simp only [Bool.and_eq_true, beq_iff_eq] at hg
        obtain ⟨hj, rfl⟩ := hg
        split at hj <;> try (cases hj; done)
        rename_i oj hoj
        simp at hj
        have hy := yielded_of (tmps := a.tmps) hoj hj
        have hT := hr.tmps g
        rw [hag] at h
        simp only at h
        split at h
        · rename_i b hb
          rw [hb] at hT
          have hv := relC_v hT
          rw [hv] at hy
          simp only at hy
          by_cases hbw : b = want
          · have hw : Region.wanted o (yielded ops a.tmps) = true := by simp [Region.wanted, hog, hy, hbw]
            rw [if_pos hw]; exact run (h.1 hbw)
          · have hw : ¬ Region.wanted o (yielded ops a.tmps) = true := by simp [Region.wanted, hog, hy, hbw]
            rw [if_neg hw]
            exact ⟨fun _ _ => trivial, skip (h.2 (by cases b <;> cases want <;> simp_all))⟩
        · rename_i vs hb
          rw [hb] at hT
          have hv := relC_v hT
          rw [hv] at hy
          simp only at hy
          have hw : ¬ Region.wanted o (yielded ops a.tmps) = true := by simp [Region.wanted, hog, hy]
          rw [if_neg hw]
          exact ⟨fun _ _ => trivial, skip h⟩
        · exact h.elim
  unfold operH at h
  split at h
  · exact key h
  · exact key h
  · exact key h
  · exact key h
  · exact oper_sound hi hc h hr hk

theorem any_sound {ops : Array Oper} {aos : List AOper} {H : Hand} {K : St → Prop} (hH : HandsOK P X H) (hρ : (∃ l, ρ = some l) → H = noH) (hc : chkOps P X.n ops ops.toList aos = true) (hd : chkDraw ops.toList aos = true)
    (hk : ∀ σ' m' a' w', K σ' → Rel X σ' m' a' w' → Q .normal a' w') :
    ∀ (fuel : Nat) (listed : Array Bool) (σ : St) (m : Nat → Loc) (a : Act) (w : World), listed.size = ops.size → (rem ops.size listed).length ≤ fuel →
      (∀ i, listed.getD i false = true → ∀ o, ops[i]? = some o → ∀ d ∈ depsOf o, listed.getD d false = true) →
      opsI P H X.pr aos (rem ops.size listed) σ K → Rel X σ m a w → wpAnyIn (wf ρ) nn P .any ops Q fuel listed a w := by
  have chk : ∀ i o, ops[i]? = some o → ∃ ao, aos[i]? = some ao ∧ (∀ d ∈ depsOf o, d < i) ∧ ∀ j, j < i → if ((masks ops.toList []).getD i 0).testBit j = true then (∃ d ∈ depsOf o, d = j ∨ (j < d ∧ ((masks ops.toList []).getD d 0).testBit j = true)) else
      ∃ aj, aos[j]? = some aj ∧ indepA aj ao = true := fun i o hi => by
    unfold chkDraw at hd
    simp only [List.all_eq_true, List.mem_range, Array.length_toList] at hd
    have hlt : i < ops.size := (Array.getElem?_eq_some_iff.1 hi).1
    have := hd i hlt
    rw [show ops.toList[i]? = some o by simpa using hi] at this
    cases hao : aos[i]? with
    | none => rw [hao] at this; cases this
    | some ao =>
      rw [hao] at this
      simp only [Bool.and_eq_true, List.all_eq_true, List.mem_range] at this
      refine ⟨ao, rfl, fun d hd' => by simpa using this.1 d hd', fun j hj => ?_⟩
      have h2 := this.2 j hj
      split
      · rename_i hb
        rw [if_pos hb] at h2
        simpa using h2
      · rename_i hb
        rw [if_neg hb] at h2
        cases haj : aos[j]? with
        | none => rw [haj] at h2; cases h2
        | some aj => rw [haj] at h2; exact ⟨aj, rfl, h2⟩
  have closed : ∀ (listed : Array Bool), (∀ i, listed.getD i false = true → ∀ o, ops[i]? = some o → ∀ d ∈ depsOf o, listed.getD d false = true) →
      ∀ i o, ops[i]? = some o → (∀ d ∈ depsOf o, listed.getD d false = true) → ∀ j, j < i → ((masks ops.toList []).getD i 0).testBit j = true → listed.getD j false = true := fun listed hcl i => by
    induction i using Nat.strongRecOn with
    | _ i ih =>
      intro o hi hdeps j hj hb
      obtain ⟨ao, _, hlt, hall⟩ := chk i o hi
      have h2 := hall j hj
      rw [if_pos hb] at h2
      obtain ⟨d, hd', e⟩ := h2
      rcases e with rfl | e
      · exact hdeps _ hd'
      · have hdi := hlt d hd'
        have hdl : d < ops.size := Nat.lt_trans hdi (Array.getElem?_eq_some_iff.1 hi).1
        exact ih d hdi (ops[d]) (by simp [hdl]) (hcl d (hdeps d hd') _ (by simp [hdl])) j e.1 e.2
  have notready : ∀ (listed : Array Bool), listed.size = ops.size → Region.ready .any ops listed = [] → rem ops.size listed = [] := fun listed hs hr => by
    cases hrem : rem ops.size listed with
    | nil => rfl
    | cons i is =>
      exfalso
      have hmin : i ∈ rem ops.size listed ∧ ∀ j, j < i → j ∉ rem ops.size listed := by
        refine ⟨by rw [hrem]; simp, fun j hj hm => ?_⟩
        have hp : (rem ops.size listed).Pairwise (· < ·) := List.Pairwise.filter _ List.pairwise_lt_range
        rw [hrem] at hp hm
        have := (List.pairwise_cons.1 hp).1
        rcases List.mem_cons.1 hm with h | h
        · omega
        · have := this j h; omega
      have hi : i < ops.size ∧ listed.getD i true = false := mem_rem.1 hmin.1
      have : i ∈ Region.ready .any ops listed := by
        rw [mem_ready]
        refine ⟨hi.2, ops[i], by simp [hi.1], fun e he hb => ?_⟩
        obtain ⟨ao, _, hlt, _⟩ := chk i (ops[i]'hi.1) (by simp [hi.1])
        have hdi := hlt e.on (mem_depsOf he hb)
        have hnm := hmin.2 e.on hdi
        have hlt' : e.on < listed.size := by omega
        cases hg : listed.getD e.on true with
        | false => exact absurd (mem_rem.2 ⟨by omega, hg⟩) hnm
        | true => simp [Array.getD, hlt'] at hg ⊢; exact hg
      rw [hr] at this; cases this
  intro fuel
  induction fuel with
  | zero =>
    intro listed σ m a w hs hlen hcl h hr
    have h0 : rem ops.size listed = [] := List.length_eq_zero_iff.1 (by omega)
    refine ⟨?_, ?_⟩
    · cases hrd : Region.ready .any ops listed with
      | nil => rfl
      | cons i is =>
        exfalso
        have hm : i ∈ Region.ready .any ops listed := by rw [hrd]; simp
        obtain ⟨h1, o, ho, _⟩ := mem_ready.1 hm
        have : i ∈ rem ops.size listed := mem_rem.2 ⟨(Array.getElem?_eq_some_iff.1 ho).1, h1⟩
        rw [h0] at this; cases this
    · rw [h0] at h; exact hk _ _ _ _ h hr
  | succ fuel ih =>
    intro listed σ m a w hs hlen hcl h hr
    refine ⟨fun hrd => ?_, fun i hi => ?_⟩
    · rw [notready listed hs hrd] at h; exact hk _ _ _ _ h hr
    · obtain ⟨h1, o, ho, hall⟩ := mem_ready.1 hi
      have hlt : i < ops.size := (Array.getElem?_eq_some_iff.1 ho).1
      have hdeps : ∀ d ∈ depsOf o, listed.getD d false = true := fun d hd' => by
        obtain ⟨e, he, hb, rfl⟩ := depsOf_mem hd'
        exact hall e he hb
      obtain ⟨ao, hao, hdlt, hind⟩ := chk i o ho
      obtain ⟨ao', hao', hco⟩ := chkOps_get _ _ hc i o (show ops.toList[i]? = some o by simpa using ho)
      rw [hao] at hao'; cases hao'
      have hp : (rem ops.size listed).Pairwise (· < ·) := List.Pairwise.filter _ List.pairwise_lt_range
      have hfirst := opsI_first (P := P) hao hp (mem_rem.2 ⟨hlt, h1⟩) (fun j hj hji oj hoj => by
        have h2 := hind j hji
        split at h2
        · rename_i hb
          have := closed listed hcl i o ho hdeps j hji hb
          exfalso
          have hj' : listed.getD j true = false := (mem_rem.1 hj).2
          have hjs := getD_both hj'
          simp [Array.getD, hjs] at this hj'
          rw [this] at hj'; cases hj'
        · obtain ⟨aj, haj, hi'⟩ := h2
          rw [hoj] at haj; cases haj; exact hi') h
      refine operH_sound hH hρ ho hco hfirst hr fun σ' m' a' w' hK hr' => ?_
      have hset := rem_set (l := listed) hs hlt
      refine ih _ σ' m' a' w' (by simpa using hs) ?_ ?_ (by rw [hset]; exact hK) hr'
      · rw [hset]
        have hmem : i ∈ rem ops.size listed := mem_rem.2 ⟨hlt, h1⟩
        have : ((rem ops.size listed).filter (· ≠ i)).length < (rem ops.size listed).length := by
          refine List.length_filter_lt_length_iff_exists.2 ⟨i, hmem, by simp⟩
        omega
      · intro k hk' ok hok d hd'
        by_cases e : k = i
        · subst e
          rw [ho] at hok; cases hok
          exact getD_set_true (hdeps d hd')
        · rw [getD_set_ne false (Ne.symm e)] at hk'
          exact getD_set_true (hcl k hk' ok hok d hd')

/-- Forgetting keeps the relation. -/
theorem opsH_sound {ops : Array Oper} {H : Hand} {K : St → Prop} (hH : HandsOK P X H) (hρ : (∃ l, ρ = some l) → H = noH) (hk : ∀ σ' m' a' w', K σ' → Rel X σ' m' a' w' → Q .normal a' w') :
    ∀ (os : List Oper) (aos : List AOper) (i : Nat) (σ : St) (m : Nat → Loc) (a : Act) (w : World), (∀ j, os[j]? = ops[i + j]?) → chkOps P X.n ops os aos = true → opsH P H X.pr aos σ K → Rel X σ m a w →
      wpOpsIn (wf ρ) nn P ops Q (List.range' i os.length) a w
  | [], [], i, σ, m, a, w, _, _, h, hr => by simp only [List.length_nil, List.range'_zero, wpOpsIn]; exact hk _ _ _ _ h hr
  | [], _ :: _, _, _, _, _, _, _, h, _, _ => by simp [chkOps] at h
  | _ :: _, [], _, _, _, _, _, _, h, _, _ => by simp [chkOps] at h
  | o :: os, ao :: aos, i, σ, m, a, w, hl, hc, h, hr => by
    simp only [chkOps, Bool.and_eq_true] at hc
    simp only [List.length_cons, List.range'_succ]
    rw [wpOpsIn_cons]
    refine operH_sound hH hρ (by simpa using (hl 0).symm) hc.1 h hr fun σ' m' a' w' hK hr' => ?_
    exact opsH_sound hH hρ hk os aos (i + 1) σ' m' a' w' (fun j => by have := hl (j + 1); simpa [Nat.add_assoc, Nat.add_comm 1 j] using this) hc.2 hK hr'

end
end Go.AM
