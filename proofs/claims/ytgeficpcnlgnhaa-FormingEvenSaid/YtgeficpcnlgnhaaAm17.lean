/- The abstract machine, part 17: the abstract code's weakest precondition is sound; loops over functions. No condition. -/
import Derived.Test.YtgeficpcnlgnhaaAm13
set_option linter.unusedVariables false
set_option linter.unusedSimpArgs false
namespace Go.AM
open Go

/-- A step of the machine's book-keeping: cells lie as they lay. -/
structure Books (w w' : World) : Prop where
  os : w'.os = w.os
  tape : w'.tape = w.tape
  output : w'.output = w.output
  size : w.heap.size ≤ w'.heap.size
  cells : ∀ (k : Nat) (o : Obj), w.heap[k]? = some o → o.isCells = true → w'.heap[k]? = some o

theorem Books.refl (w : World) : Books w w := ⟨rfl, rfl, rfl, Nat.le_refl _, fun _ _ h _ => h⟩
theorem Books.trans {a b c : World} (h : Books a b) (k : Books b c) : Books a c :=
  ⟨k.os.trans h.os, k.tape.trans h.tape, k.output.trans h.output, Nat.le_trans h.size k.size, fun i o hi ho => k.cells i o (h.cells i o hi ho) ho⟩
theorem Books.cell {w w' : World} (h : Books w w') {b o : Nat} {u : Value} (hu : w.cell? ⟨b, o, none⟩ = some u) : w'.cell? ⟨b, o, none⟩ = some u := by
  obtain ⟨x, hx, hc⟩ := cells_of_cell hu
  rw [cell_same (w := w)]
  · exact hu
  · show w'.heap[b]? = w.heap[b]?
    rw [h.cells _ _ hx hc]; exact hx.symm
theorem Books.alloc (w : World) (o : Obj) : Books w (w.alloc o) :=
  ⟨rfl, rfl, rfl, by simp, fun k x hk _ => (Go.RowKit.Below.heap_alloc w o k (heap_lt hk)).trans hk⟩
theorem Books.put (w : World) {l : Nat} {o : Obj} (o' : Obj) (h : w.heap[l]? = some o) (ho : o.isCells = false) : Books w (w.putObj l o') :=
  ⟨rfl, rfl, rfl, by simp, fun k x hk hx => (World.putObj_heap_other (fun e => by subst e; rw [h] at hk; cases hk; rw [ho] at hx; cases hx)).trans hk⟩

section
variable {P : Program} {X X' : Ctx} {σ : St} {m : Nat → Loc} {a a' : Act} {w w' : World} {ρ : Option Nat} {nn : Nat} {Q : Exit → Act → World → Prop}

/-- One frame's state becomes another's. -/
theorem Rel.switch (hr : Rel X σ m a w) {t' : Nat → AC} {b' : Nat → ABlk} (h1 : X'.ok0 = X.ok0) (h2 : X'.C = X.C) (h3 : X'.w0 = X.w0) (hB : Books w w')
    (hlow : ∀ k, k < X.w0.heap.size → w'.heap[k]? = w.heap[k]?)
    (hb : ∀ s, b' s = σ.b s ∨ ((m s).live = false ∧ (σ.b s = .fresh ∨ ∃ q, σ.b s = .mark q) ∧ (b' s = .fresh ∨ ∃ q, b' s = .mark q)))
    (ht : ∀ i, RelC (X.ok m) w σ.b m (t' i) (a'.tmps.getD i undef)) (hz : a'.tmps.size = X'.n) (hd : Marks X.w0.heap.size a'.defers w' ∧ (X'.nm = true → a'.defers = []))
    (hg : ∀ p ∈ X'.gs, RelC (X.ok m) w σ.b m p.1 p.2 ∧ onlyC X'.pr p.1 = true) (hf : ∀ p ∈ X'.fx, w'.heap[p.1]? = some p.2 ∧ p.2.isCells = false)
    (hl : ∀ i, X'.lp = some i → w'.heap[i.l]? = some (i.obj (b' i.p)) ∧ i.p ∈ X'.pr) : Rel X' ⟨t', b'⟩ m a' w' := by
  have hok : X'.ok m = X.ok m := by unfold Ctx.ok; rw [h1, h3]
  have hturn : ∀ s, Turns (σ.b s) (b' s) (m s) (m s) := fun s => by
    rcases hb s with e | ⟨_, e | ⟨q, e⟩, _⟩
    · exact .same e.symm rfl
    · exact .fresh e
    · exact .mark q e
  have hc : ∀ (b o : Nat) (u : Value), X.ok m b → w.cell? ⟨b, o, none⟩ = some u → w'.cell? ⟨b, o, none⟩ = some u := fun b o u _ hu => hB.cell hu
  have mono : ∀ {x : AC} {v : Value}, RelC (X.ok m) w σ.b m x v → RelC (X'.ok m) w' b' m x v := fun {x v} h => by
    rw [hok]; exact h.mono hB.size hc (fun _ _ h => h) hturn
  refine ⟨?_, hz, fun i => mono (ht i), fun s => ?_, hr.inj, ?_, ?_, fun p hp => ⟨mono (hg p hp).1, (hg p hp).2⟩, hf, hl⟩
  · rw [h3]; exact hd
  · rcases hb s with e | ⟨hnl, _, e⟩
    · rw [hok]
      refine (hr.slots s).mono hB.size hc (fun _ _ h => h) hturn e rfl (fun hlv => ?_)
      obtain ⟨o, ho, hcl⟩ := (hr.slots s).cells hlv
      rw [hB.cells _ _ ho hcl, ho]
    · unfold SlotOK
      simp only
      rcases e with e | ⟨q, e⟩ <;> rw [e] <;> exact hnl
  · rw [h2, h3]; exact hr.own
  · rw [h2, h3]
    exact ⟨hB.os.trans hr.foot.os, hB.tape.trans hr.foot.tape, hB.output.trans hr.foot.output, Nat.le_trans hr.foot.size hB.size, fun k hk hC => (hlow k hk).trans (hr.foot.block k hk hC)⟩

theorem keepT_eq (t : Nat → AC) (lt : List Nat) (i : Nat) : keepT t lt i = if i ∈ lt then t i else .junk := mkT_map (f := t) lt i

theorem keepT_rel {ok : Nat → Prop} {b : Nat → ABlk} {t : Nat → AC} {lt : List Nat} {f : Nat → Value} (h : ∀ i, i ∈ lt → RelC ok w b m (t i) (f i)) (i : Nat) : RelC ok w b m (keepT t lt i) (f i) := by
  rw [keepT_eq]
  split
  · rename_i hi; exact h i hi
  · exact .junk _

theorem iniC_rel {ok : Nat → Prop} {b : Nat → ABlk} : ∀ {ds : List AC} {f : Nat → Value}, (∀ j (hj : j < ds.length), RelC ok w b m (ds[j]) (f j)) → ∀ i, RelC ok w b m (iniC ds i) (f i)
  | [], f, _, i => .junk _
  | d :: ds, f, h, 0 => h 0 (by simp)
  | d :: ds, f, h, i + 1 => iniC_rel (ds := ds) (f := fun i => f (i + 1)) (fun j hj => h (j + 1) (by simpa using hj)) i

theorem setP_rel {ok : Nat → Prop} {b : Nat → ABlk} : ∀ {ps : List Nat} {args : List AC} {vs : List Value} {t : Nat → AC} {tm : Array Value}, args.length = ps.length → vs.length = args.length → (∀ p ∈ ps, p < tm.size) →
    (∀ i, RelC ok w b m (t i) (tm.getD i undef)) → (∀ j (hj : j < args.length), RelC ok w b m (args[j]) (vs.getD j undef)) →
    (∀ i, RelC ok w b m (setP t ps args i) (((ps.zip vs).foldl (fun tm p => tm.setIfInBounds p.1 p.2) tm).getD i undef)) ∧ ((ps.zip vs).foldl (fun tm p => tm.setIfInBounds p.1 p.2) tm).size = tm.size
  | [], [], [], t, tm, _, _, _, ht, _ => ⟨ht, rfl⟩
  | p :: ps, x :: args, v :: vs, t, tm, h1, h2, hp, ht, ha => by
    have hps : p < tm.size := hp p (by simp)
    have := setP_rel (ps := ps) (args := args) (vs := vs) (t := upd t p x) (tm := tm.setIfInBounds p v) (by simpa using h1) (by simpa using h2) (fun q hq => by simpa using hp q (by simp [hq]))
      (fun i => by
        by_cases e : i = p
        · subst e; rw [upd_same]
          have e1 : (tm.setIfInBounds i v).getD i undef = v := by simp [Array.getD, hps]
          rw [e1]; exact ha 0 (by simp)
        · rw [upd_ne _ _ e]
          have : (tm.setIfInBounds p v).getD i undef = tm.getD i undef := by
            simp only [Array.getD_eq_getD_getElem?]
            rw [Array.getElem?_setIfInBounds_ne (by omega)]
          rw [this]; exact ht i) (fun j hj => ha (j + 1) (by simpa using hj))
    exact ⟨this.1, this.2.trans (by simp)⟩
  | _ :: _, [], _, _, _, h1, _, _, _, _ => by simp at h1
  | [], _ :: _, _, _, _, h1, _, _, _, _ => by simp at h1
  | _, _ :: _, [], _, _, _, h2, _, _, _ => by simp at h2
  | _, [], _ :: _, _, _, _, h2, _, _, _ => by simp at h2

/-- A variable that holds nil holds an empty row. -/
theorem Rel.conv (hr : Rel X σ m a w) {s r esz : Nat} {cs : List AC} (hs : σ.b s = .var (.d (.v (.slice none 0 0)) :: cs)) (hf : σ.b r = .fresh) :
    Rel X ⟨σ.t, upd (upd σ.b r (.row esz [])) s (.var (.row r 0 0 0 :: cs))⟩ m a w := by
  have hne : r ≠ s := fun e => by rw [e, hs] at hf; cases hf
  have hnl : (m r).live = false := by have := hr.slots r; unfold SlotOK at this; rw [hf] at this; exact this
  have hturn : ∀ s', Turns (σ.b s') (upd (upd σ.b r (.row esz [])) s (.var (.row r 0 0 0 :: cs)) s') (m s') (m s') := fun s' => by
    by_cases e : s' = s
    · subst e; rw [upd_same]; exact .var _ _ hs rfl rfl
    · rw [upd_ne _ _ e]
      by_cases e2 : s' = r
      · subst e2; exact .fresh hf
      · rw [upd_ne _ _ e2]; exact .same rfl rfl
  have mono : ∀ {x : AC} {v : Value}, RelC (X.ok m) w σ.b m x v → RelC (X.ok m) w (upd (upd σ.b r (.row esz [])) s (.var (.row r 0 0 0 :: cs))) m x v := fun {x v} h =>
    h.mono (Nat.le_refl _) (fun _ _ _ _ h => h) (fun _ _ h => h) hturn
  refine ⟨hr.defers, hr.size, fun i => mono (hr.tmps i), fun s' => ?_, hr.inj, hr.own, hr.foot, fun p hp => ⟨mono (hr.ghosts p hp).1, (hr.ghosts p hp).2⟩, hr.fixed, fun i hi => ⟨?_, (hr.loop i hi).2⟩⟩
  · by_cases e : s' = s
    · subst e
      obtain ⟨hl, c, ee, hh, hz, hone, hcs⟩ := slot_var hr hs
      unfold SlotOK
      simp only [upd_same]
      refine ⟨hl, c, ee, hh, by simpa using hz, fun i hi => hone i (by simpa using hi), fun i hi => ?_⟩
      have h0 := hcs i (by simpa using hi)
      cases i with
      | zero =>
        simp only [List.getElem_cons_zero] at h0 ⊢
        rw [relC_v h0]
        exact .rowNil r esz (by rw [upd_ne _ _ hne, upd_same]) hnl
      | succ i =>
        simp only [List.getElem_cons_succ] at h0 ⊢
        exact mono h0
    · by_cases e2 : s' = r
      · subst e2
        unfold SlotOK
        simp only [upd_ne _ _ hne, upd_same]
        exact .inl ⟨hnl, trivial⟩
      · exact (hr.slots s').mono (Nat.le_refl _) (fun _ _ _ _ h => h) (fun _ _ h => h) hturn (by simp only; rw [upd_ne _ _ e, upd_ne _ _ e2]) rfl (fun _ => rfl)
  · have : i.obj (upd (upd σ.b r (.row esz [])) s (.var (.row r 0 0 0 :: cs)) i.p) = i.obj (σ.b i.p) := by
      by_cases e : i.p = s
      · rw [e, upd_same, hs]; rfl
      · rw [upd_ne _ _ e]
        by_cases e2 : i.p = r
        · rw [e2, upd_same, hf]; rfl
        · rw [upd_ne _ _ e2]
    rw [this]; exact (hr.loop i hi).1

/-- What a frame's calls of yield do is so. -/
def HandOK (P : Program) (X : Ctx) (H : Hand) : Prop :=
  ∀ (pr' : List Nat) (l : Nat) (args : List AC) (b : Nat → ABlk) (K : AC → (Nat → ABlk) → Prop) (t : Nat → AC) (lt : List Nat) (m : Nat → Loc) (a : Act) (w : World) (vs : Array Value),
    H pr' l args b K → Rel X ⟨keepT t lt, b⟩ m a w → X.pr.all pr'.contains = true → (∀ i ∈ lt, onlyC pr' (t i) = true) → vs.size = args.length → (∀ j (hj : j < args.length), RelC (X.ok m) w b m (args[j]) (vs.getD j undef)) →
    ∃ f tmps asg bod, (Instr.yield l vs).run P w = .ok (.round l f tmps asg bod) w ∧ ∀ nn, RoundIn (wf none) nn P l f tmps asg bod w fun e w' => ∃ v y b' m', e = .returned v ∧ K y b' ∧ Rel X ⟨keepT t lt, b'⟩ m' a w' ∧ RelC (X.ok m') w' b' m' y v

theorem noH_ok : HandOK P X noH := fun _ _ _ _ _ _ _ _ _ _ _ h => h.elim

theorem Rel.keepT (hr : Rel X σ m a w) (lt : List Nat) : Rel X ⟨Go.AM.keepT σ.t lt, σ.b⟩ m a w :=
  ⟨hr.defers, hr.size, fun i => keepT_rel (f := fun i => a.tmps.getD i undef) (fun i _ => hr.tmps i) i, hr.slots, hr.inj, hr.own, hr.foot, hr.ghosts, hr.fixed, hr.loop⟩

theorem operH_sound {o : Oper} {ops : Array Oper} {i : Nat} {ao : AOper} {H : Hand} {K : St → Prop} {K' : Act → World → Prop} (hH : HandOK P X H) (hρ : (∃ l, ρ = some l) → H = noH) (hi : ops[i]? = some o) (hc : chkOper P X.n ops o ao = true)
    (h : operH P H X.pr ao σ K) (hr : Rel X σ m a w) (hk : ∀ σ' m' a' w', K σ' → Rel X σ' m' a' w' → K' a' w') : wpOpIn (wf ρ) nn P ops Q i K' a w := by
  unfold operH at h
  split at h
  · rename_i dst lt pr x xs av
    split at h <;> try (exact h.elim)
    rename_i l f c hx
    obtain ⟨rfl, rfl, hpr, h⟩ := h
    have hn : ρ = none := by
      cases ρ with
      | none => rfl
      | some l => rw [hρ ⟨l, rfl⟩] at h; exact h.elim
    subst hn
    simp only [chkOper, Bool.and_eq_true] at hc
    obtain ⟨⟨hdst, hop⟩, hg⟩ := hc
    have hd : o.dst = dst ∧ ∀ d, o.dst = some d → d < X.n := by
      cases ho : o.dst with
      | none =>
        rw [ho] at hdst
        cases dst with
        | none => exact ⟨rfl, fun d h => by cases h⟩
        | some => cases hdst
      | some d =>
        rw [ho] at hdst
        cases dst with
        | none => cases hdst
        | some d' => simp at hdst; exact ⟨by rw [hdst.1], fun q h => by cases h; exact hdst.2⟩
    have hog : o.guard = none := by
      cases hog : o.guard with
      | none => rfl
      | some jw => rw [hog] at hg; cases hg
    unfold wpOpIn
    simp only [hi]
    have hw : Region.wanted o (yielded ops a.tmps) = true := by simp [Region.wanted, hog]
    rw [if_pos hw]
    cases hopc : o.op <;> rw [hopc] at hop <;> simp only [chkA, Bool.false_eq_true] at hop
    rename_i cl
    split at hop <;> try (cases hop; done)
    rename_i x' hcal
    simp only [Bool.and_eq_true] at hop
    obtain ⟨hcx, hxs⟩ := hop
    have hv := relC_v (hx ▸ chkO_sound hr hcx)
    simp only [Bool.and_eq_true, List.all_eq_true] at hpr
    have hlen : (cl.args.map a.eval).size = (xs.map (evO σ.t)).length := by have := chkOs_len hxs; simp at this ⊢; omega
    have hargs : ∀ j (hj : j < (xs.map (evO σ.t)).length), RelC (X.ok m) w σ.b m ((xs.map (evO σ.t))[j]) ((cl.args.map a.eval).getD j undef) := fun j hj => by
      rw [getD_map_toArray]
      simp only [List.getElem_map]
      exact chkOs_get hr hxs j (by simpa using hj)
    obtain ⟨f, tmps, asg, bod, hy, hround⟩ := hH pr l _ σ.b _ σ.t lt m a w (cl.args.map a.eval) h (hr.keepT lt) (by rw [List.all_eq_true]; exact hpr.1) (fun i hi => hpr.2 i hi) hlen hargs
    have hrun : (execOp a.eval o).run P w = .ok (.round l f tmps asg bod) w := by
      simp [execOp, hopc, resolve, hcal, hv, Deferred.ofValue, invoke, hy]
    refine ⟨fun f _ => trivial, ?_⟩
    have hs : o.semAt (wf none).round a.eval = execOp a.eval o := Oper.semAt_eq _ _ _ (fun c e => by rw [hopc] at e; cases e)
    rw [hs, hrun, Oper.uponIn_round]
    refine ⟨fun h => by simp [wf, Fence.wide] at h, (hround _).mono ?_⟩
    rintro e w' ⟨v, y, b', m', rfl, hK, hr', hyv⟩
    rw [← hd.1] at hK
    exact hk _ m' _ _ hK (hr'.put hyv o.dst hd.2)
  · exact oper_sound hi hc h hr hk

theorem opsH_sound {ops : Array Oper} {H : Hand} {K : St → Prop} (hH : HandOK P X H) (hρ : (∃ l, ρ = some l) → H = noH) (hk : ∀ σ' m' a' w', K σ' → Rel X σ' m' a' w' → Q .normal a' w') :
    ∀ (os : List Oper) (aos : List AOper) (i : Nat) (σ : St) (m : Nat → Loc) (a : Act) (w : World), (∀ j, os[j]? = ops[i + j]?) → chkOps P X.n ops os aos = true → opsH P H X.pr aos σ K → Rel X σ m a w →
      wpOpsIn (wf ρ) nn P ops Q (List.range' i os.length) a w
  | [], [], i, σ, m, a, w, _, _, h, hr => by simp only [List.length_nil, List.range'_zero, wpOpsIn]; exact hk _ _ _ _ h hr
  | [], _ :: _, _, _, _, _, _, _, h, _, _ => by simp [chkOps] at h
  | _ :: _, [], _, _, _, _, _, _, h, _, _ => by simp [chkOps] at h
  | o :: os, ao :: aos, i, σ, m, a, w, hl, hc, h, hr => by
    simp only [chkOps, Bool.and_eq_true] at hc
    simp only [List.length_cons, List.range'_succ]
    rw [wpOpsIn_cons]
    refine operH_sound hH hρ (by simpa using (hl 0).symm) hc.1 h hr fun σ' m' a' w' hK hr' => ?_
    exact opsH_sound hH hρ hk os aos (i + 1) σ' m' a' w' (fun j => by have := hl (j + 1); simpa [Nat.add_assoc, Nat.add_comm 1 j] using this) hc.2 hK hr'

end
end Go.AM
