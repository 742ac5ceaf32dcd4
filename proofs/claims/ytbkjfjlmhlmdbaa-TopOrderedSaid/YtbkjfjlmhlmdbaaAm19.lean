/- The abstract machine, part 15: a function's contract out of its body. No condition. -/
import Derived.Test.YtbkjfjlmhlmdbaaAm18
import Derived.DataReads
import Derived.ChangeArms
import Derived.ChangeShapes
import Derived.WideShapes
set_option linter.unusedVariables false
set_option linter.unusedSimpArgs false
namespace Go.AM
open Go

inductive RV where
  | t (n : Nat)
  | c (n : Nat) (sh : Sh)

def readRV (σ : St) : RV → Option AC
  | .t n => some (σ.t n)
  | .c n sh => match σ.t n with
    | .ptr s off => match σ.b s with
      | .var cs => (match sh with
        | .one => cs[off]?
        | .agg k => if off + k ≤ cs.length then some (.agg ((cs.drop off).take k)) else none)
      | _ => none
    | _ => none

/-- What a function returns. -/
def resA (rs : List RV) (σ : St) : Option D :=
  match rs.mapM (readRV σ) with
  | some [x] => snap σ.b 4 x
  | some xs => (xs.mapM (snap σ.b 4)).map .tup
  | none => none

def chkRV (P : Program) : ResultVar → RV → Bool
  | .tmp t, .t n => t == n
  | .cell t ty, .c n sh => t == n && chkSh P ty sh
  | _, _ => false
def chkRVs (P : Program) : List ResultVar → List RV → Bool
  | [], [] => true
  | x :: xs, y :: ys => chkRV P x y && chkRVs P xs ys
  | _, _ => false

/-- A function's code is that of the abstract one. -/
def chkF (P : Program) (fn : Func) (rs : List RV) (code : ACode) : Bool :=
  !(fn.name == "runtime.NumGoroutine") && (match fn.body with | some c => chkC P fn.ntmps c code | none => false) && chkRVs P fn.results.toList rs

def iniT : List D → Nat → AC
  | [], _ => .junk
  | d :: _, 0 => .d d
  | _ :: ds, i + 1 => iniT ds i

theorem iniT_rel {ok : Nat → Prop} {w : World} {b : Nat → ABlk} {m : Nat → Loc} : ∀ {ds : List D} {f : Nat → Value}, (∀ j (hj : j < ds.length), RelD ok w (ds[j]) (f j)) → ∀ i, RelC ok w b m (iniT ds i) (f i)
  | [], f, _, i => .junk _
  | d :: ds, f, h, 0 => .d (h 0 (by simp))
  | d :: ds, f, h, i + 1 => iniT_rel (ds := ds) (f := fun i => f (i + 1)) (fun j hj => h (j + 1) (by simpa using hj)) i

section
variable {P : Program} {X : Ctx} {σ : St} {m : Nat → Loc} {a : Act} {w : World}

theorem readRV_sound (hr : Rel X σ m a w) {r : ResultVar} {rv : RV} {x : AC} (hc : chkRV P r rv = true) (h : readRV σ rv = some x) :
    ∃ v, (match r with | .tmp t => pure (a.tmps.getD t undef) | .cell ad t => do loadVar t (← asAddr (a.tmps.getD ad undef)) : Sem Value).run P w = .ok v w ∧ RelC (X.ok m) w σ.b m x v := by
  cases r with
  | tmp t =>
    cases rv <;> simp [chkRV] at hc
    subst hc
    simp [readRV] at h; subst h
    exact ⟨_, rfl, hr.tmps t⟩
  | cell t ty =>
    cases rv with
    | t => simp [chkRV] at hc
    | c n sh =>
      simp [chkRV] at hc
      obtain ⟨rfl, hsh⟩ := hc
      simp only [readRV] at h
      split at h <;> try (cases h; done)
      rename_i s off hs
      split at h <;> try (cases h; done)
      rename_i cs hb
      obtain ⟨hl, c, e, hh, hz, hone, hcs⟩ := slot_var hr hb
      have hp := ptr_val (hs ▸ hr.tmps t) hb
      have hrun : ∀ v, (loadVar ty ⟨(m s).blk, off, none⟩).run P w = .ok v w → (do loadVar ty (← asAddr (a.tmps.getD t undef)) : Sem Value).run P w = .ok v w := fun v e => by
        rw [hp]; simpa [asAddr] using e
      split at h
      · obtain ⟨hlt, rfl⟩ := List.getElem?_eq_some_iff.1 h
        exact ⟨_, hrun _ (run_load_one hsh (cell_of hh (by omega))), hcs off hlt⟩
      · rename_i k
        split at h <;> cases h
        rename_i hle
        refine ⟨_, hrun _ (run_load_cells hsh (f := fun j => c.getD (off + j) undef) (fun j hj => cell_of hh (by omega))), .agg _ _ (by simp; omega) fun j hj => ?_⟩
        have hj' : j < k := by simp at hj; omega
        rw [getD_range hj']
        simpa using hcs (off + j) (by omega)

theorem readRVs_sound (hr : Rel X σ m a w) : ∀ (rl : List ResultVar) (rs : List RV) (xs : List AC), chkRVs P rl rs = true → rs.mapM (readRV σ) = some xs →
    ∃ vs : List Value, (rl.mapM (fun | .tmp t => pure (a.tmps.getD t undef) | .cell ad t => do loadVar t (← asAddr (a.tmps.getD ad undef)) : ResultVar → Sem Value)).run P w = .ok vs w ∧ vs.length = xs.length ∧
      ∀ j (hj : j < xs.length), RelC (X.ok m) w σ.b m (xs[j]) (vs.getD j undef) := by
  intro rl
  induction rl with
  | nil =>
    intro rs xs hc h
    cases rs with
    | nil => simp at h; subst h; exact ⟨[], rfl, rfl, fun j hj => by simp at hj⟩
    | cons => simp [chkRVs] at hc
  | cons r rl ih =>
    intro rs xs hc h
    cases rs with
    | nil => simp [chkRVs] at hc
    | cons rv rs =>
      simp only [chkRVs, Bool.and_eq_true] at hc
      simp only [List.mapM_cons, Option.bind_eq_bind, Option.pure_def] at h
      cases hx : readRV σ rv with
      | none => simp [hx] at h
      | some x =>
        cases hxs : rs.mapM (readRV σ) with
        | none => simp [hx, hxs] at h
        | some xs' =>
          simp [hx, hxs] at h; subst h
          obtain ⟨v, hv, hR⟩ := readRV_sound hr hc.1 hx
          obtain ⟨vs, hvs, hl, hRs⟩ := ih rs xs' hc.2 hxs
          refine ⟨v :: vs, ?_, by simp [hl], fun j hj => ?_⟩
          · rw [List.mapM_cons, Sem.run_bind, hv]
            simp only [Result.andThen_ok, Sem.run_bind, hvs, Sem.run_pure]
          · cases j with
            | zero => exact hR
            | succ j => exact hRs j (by simpa using hj)

theorem snaps_rel (hr : Rel X σ m a w) {ok' : Nat → Prop} (ho : ∀ k, X.ok m k → ok' k) (hs : ∀ s, (m s).live = true → ok' (m s).blk) {n : Nat} {xs : List AC} {ds : List D} {vs : Array Value}
    (h : xs.mapM (snap σ.b n) = some ds) (hl : vs.size = xs.length) (hR : ∀ j (hj : j < xs.length), RelC (X.ok m) w σ.b m (xs[j]) (vs.getD j undef)) : RelD ok' w (.tup ds) (.tuple vs) := by
  obtain ⟨h1, h2⟩ := mapM_get h
  exact .tup ds vs (by omega) fun j hj => snap_rel' hr ho hs n (h2 j (by omega) hj) (hR j (by omega))

theorem resA_sound (hr : Rel X σ m a w) {ok' : Nat → Prop} (ho : ∀ k, X.ok m k → ok' k) (hs : ∀ s, (m s).live = true → ok' (m s).blk) {fn : Func} {rs : List RV} {res : D}
    (hc : chkRVs P fn.results.toList rs = true) (h : resA rs σ = some res) : ∃ v, (results fn a.tmps).run P w = .ok v w ∧ RelD ok' w res v := by
  unfold resA at h
  cases hx : rs.mapM (readRV σ) with
  | none => rw [hx] at h; cases h
  | some xs =>
    rw [hx] at h
    obtain ⟨vs, hrun, hl, hR⟩ := readRVs_sound (P := P) hr _ _ _ hc hx
    have hrun' : (fn.results.mapM (fun | .tmp t => pure (a.tmps.getD t undef) | .cell ad t => do loadVar t (← asAddr (a.tmps.getD ad undef)) : ResultVar → Sem Value)).run P w = .ok vs.toArray w := by
      rw [Array.mapM_eq_mapM_toList]
      simp only [Sem.run_map, hrun]
      rfl
    have hres : (results fn a.tmps).run P w = .ok (if h : vs.toArray.size = 1 then vs.toArray[0] else .tuple vs.toArray) w := by
      unfold results
      rw [Sem.run_bind]
      exact (congrArg (fun r => Result.andThen r _) hrun').trans rfl
    refine ⟨_, hres, ?_⟩
    split at h
    · rename_i x e
      cases e
      match vs, hl, hR with
      | [v], _, hR => exact snap_rel' hr ho hs 4 h (hR 0 (by simp))
    · rename_i ys hne e
      cases e
      simp only [Option.map_eq_some_iff] at h
      obtain ⟨ds, hds, rfl⟩ := h
      have hne' : ¬ vs.toArray.size = 1 := by
        intro e
        simp at e
        rw [e] at hl
        obtain ⟨x, hx1⟩ := List.length_eq_one_iff.1 hl.symm
        exact hne x hx1
      rw [dif_neg hne']
      exact snaps_rel hr ho hs hds (by simpa using hl) (fun j hj => by simpa using hR j hj)
    · cases h

theorem leaves_marks' {base n : Nat} {fn : Func} {tmps : Array Value} {R : Ending → World → Prop} {rest : List Deferred} {u : FrameMode} (hu : u ≠ .run) : ∀ (Ds : List Nat) (w : World), (∀ D ∈ Ds, base ≤ D ∧ w.heap[D]? = some (.deferred (some []))) → Ds.Nodup →
    (∀ w', Books w w' → (∀ k, k < base → w'.heap[k]? = w.heap[k]?) → LeavesInM (wf none) n P fn tmps R rest u w') →
    LeavesInM (wf none) n P fn tmps R (Ds.map (fun D => { target := .collected D, args := #[] }) ++ rest) u w
  | [], w, _, _, h => h w (Books.refl w) (fun _ _ => rfl)
  | D :: Ds, w, hD, hn, h => by
    have h0 := hD D (by simp)
    have hn' := List.nodup_cons.1 hn
    refine ⟨hu, .inl ⟨D, _, rfl, run_takeDeferred h0.2, ?_⟩⟩
    refine leaves_marks' hu Ds _ (fun E hE => ⟨(hD E (by simp [hE])).1, (World.putObj_heap_other (fun (e : E = D) => hn'.1 (by rw [← e]; exact hE))).trans (hD E (by simp [hE])).2⟩) hn'.2 fun w' hB hl => ?_
    exact h w' ((Books.put w _ h0.2 rfl).trans hB) (fun k hk => (hl k hk).trans (World.putObj_heap_other (by have := h0.1; omega)))

theorem leaves_marks {base n : Nat} {fn : Func} {tmps : Array Value} {R : Ending → World → Prop} (Ds : List Nat) (w : World) (hD : ∀ D ∈ Ds, base ≤ D ∧ w.heap[D]? = some (.deferred (some []))) (hn : Ds.Nodup)
    (h : ∀ w', Books w w' → (∀ k, k < base → w'.heap[k]? = w.heap[k]?) → ∃ v, (results fn tmps).run P w' = .ok v w' ∧ R (.returned v) w') :
    LeavesInM (wf none) n P fn tmps R (Ds.map (fun D => { target := .collected D, args := #[] }) ++ []) .returning w :=
  leaves_marks' (by simp) Ds w hD hn h

/-- **A function's contract out of its body.** -/
theorem pureFn_of {g : FuncId} {fn : Func} {rs : List RV} {code : ACode} {args : List D} {res : D} (hf : P.funcs[g]? = some fn) (hc : chkF P fn rs code = true) (hn : args.length ≤ fn.ntmps)
    (h : awp P noH true [] code (fun e σ => match e with | .normal => resA rs σ = some res | .ret => resA rs σ = some res | _ => False) ⟨iniT args, fun _ => .fresh⟩) : PureFn P g args res := by
  simp only [chkF, Bool.and_eq_true, Bool.not_eq_true'] at hc
  obtain ⟨⟨hc1, hc2⟩, hc3⟩ := hc
  cases hb : fn.body with
  | none => rw [hb] at hc2; cases hc2
  | some c =>
    rw [hb] at hc2
    refine ⟨⟨fn, hf, hc1, by simp [hb]⟩, fun ok w vs hsz hR => ?_⟩
    refine callsIn_wide.1 (show CallsIn (wf none) 0 P g vs w _ from callsIn_of_wpV hf hb ?_)
    let X : Ctx := { ok0 := ok, C := fun _ => False, w0 := w, n := fn.ntmps }
    let m0 : Nat → Loc := fun _ => ⟨false, 0, 0⟩
    have hr0 : Rel X ⟨iniT args, fun _ => .fresh⟩ m0 { tmps := vs ++ Array.replicate (fn.ntmps - vs.size) undef, defers := [] } w := by
      refine ⟨⟨⟨[], rfl, List.nodup_nil, fun _ h => by cases h⟩, fun _ => rfl⟩, by simp [X]; omega, fun i => ?_, fun s => rfl, fun s s' h => by simp [m0] at h, fun s h => by simp [m0] at h, Foot.refl _ _, fun _ h => (by cases h), fun _ h => (by cases h), fun _ h => (by cases h)⟩
      refine iniT_rel (f := fun i => (vs ++ Array.replicate (fn.ntmps - vs.size) undef).getD i undef) (fun j hj => ?_) i
      have hj' : j < vs.size := by omega
      show RelD _ _ _ ((vs ++ Array.replicate (fn.ntmps - vs.size) undef).getD j undef)
      rw [getD_append_left hj']
      exact (hR j hj).mono (Nat.le_refl _) (fun _ _ _ _ h => h) (fun k _ hk => ⟨.inl hk, fun s h => by simp [m0] at h⟩)
    have key := awp_sound code 0 c _ _ m0 _ w X none noH true (fun _ => ⟨rfl, rfl, rfl⟩) (noH_oks rfl) (fun _ => rfl) hc2 h hr0
    refine wpV_mono key ?_
    rintro e a' w' ⟨σ', m', hq, hr'⟩
    have hr' : Rel X σ' m' a' w' := by cases e <;> first | exact hr' | exact hq.elim
    have fin : resA rs σ' = some res → LeavesInM (wf none) 0 P fn a'.tmps (fun e w' => ∃ v, e = .returned v ∧ RelD (fun k => ok k ∨ w.heap.size ≤ k) w' res v ∧ Foot (fun _ => False) w w') a'.defers .returning w' := fun hres => by
      obtain ⟨Ds, hDs, hDn, hDh⟩ := hr'.defers.1
      rw [hDs]
      refine leaves_marks (base := w.heap.size) Ds w' hDh hDn fun w2 hB hl => ?_
      have hr2 : Rel X ⟨σ'.t, σ'.b⟩ m' { tmps := a'.tmps, defers := [] } w2 :=
        hr'.switch rfl rfl rfl hB hl (fun s => .inl rfl) hr'.tmps hr'.size ⟨⟨[], rfl, List.nodup_nil, fun _ h => by cases h⟩, fun _ => rfl⟩ (fun _ h => by cases h) (fun _ h => by cases h) (fun _ h => by cases h)
      obtain ⟨v, hv, hD⟩ := resA_sound (P := P) (ok' := fun k => ok k ∨ w.heap.size ≤ k) hr2 (fun k hk => hk.1) (fun s hl => .inr (hr2.own s hl)) hc3 hres
      exact ⟨v, hv, v, rfl, hD, hr2.foot⟩
    cases e with
    | normal => exact fin hq
    | ret => exact fin hq
    | _ => exact hq.elim

/-- What a function returns that turns slots. -/
def resC (rs : List RV) (σ : St) : Option AC :=
  match rs.mapM (readRV σ) with
  | some [x] => some x
  | some xs => some (.tup xs)
  | none => none

theorem resC_sound (hr : Rel X σ m a w) {fn : Func} {rs : List RV} {res : AC} (hc : chkRVs P fn.results.toList rs = true) (h : resC rs σ = some res) : ∃ v, (results fn a.tmps).run P w = .ok v w ∧ RelC (X.ok m) w σ.b m res v := by
  unfold resC at h
  cases hx : rs.mapM (readRV σ) with
  | none => rw [hx] at h; cases h
  | some xs =>
    rw [hx] at h
    obtain ⟨vs, hrun, hl, hR⟩ := readRVs_sound (P := P) hr _ _ _ hc hx
    have hrun' : (fn.results.mapM (fun | .tmp t => pure (a.tmps.getD t undef) | .cell ad t => do loadVar t (← asAddr (a.tmps.getD ad undef)) : ResultVar → Sem Value)).run P w = .ok vs.toArray w := by
      rw [Array.mapM_eq_mapM_toList]
      simp only [Sem.run_map, hrun]
      rfl
    have hres : (results fn a.tmps).run P w = .ok (if h : vs.toArray.size = 1 then vs.toArray[0] else .tuple vs.toArray) w := by
      unfold results
      rw [Sem.run_bind]
      exact (congrArg (fun r => Result.andThen r _) hrun').trans rfl
    refine ⟨_, hres, ?_⟩
    split at h
    · rename_i x e
      cases e; cases h
      match vs, hl, hR with
      | [v], _, hR => exact hR 0 (by simp)
    · rename_i ys hne e
      cases e; cases h
      have hne' : ¬ vs.toArray.size = 1 := by
        intro e
        simp at e
        rw [e] at hl
        obtain ⟨x, hx1⟩ := List.length_eq_one_iff.1 hl.symm
        exact hne x hx1
      rw [dif_neg hne']
      exact .tup _ _ (by simpa using hl) (fun j hj => by simpa using hR j hj)
    · cases h

theorem Wid.trans {X Y Z : Ctx} (h : Wid X Y) (k : Wid Y Z) : Wid X Z :=
  ⟨k.ok0.trans h.ok0, k.C.trans h.C, k.w0.trans h.w0, k.lp.trans h.lp, fun q hq => k.gs q (h.gs q hq), fun q hq => k.fx q (h.fx q hq), by
    rw [List.all_eq_true]
    intro s hs
    have h1 := List.all_eq_true.1 h.pr s hs
    exact List.all_eq_true.1 k.pr s (by simpa using h1), k.nm, fun i hi q hq => k.sep i (h.lp.trans hi) q hq⟩

/-- At the end of a function that turns slots. -/
def endI (rs : List RV) (ls : List Nat) (K : AC → (Nat → ABlk) → Prop) (σ : St) : Prop := ∃ y, resC rs σ = some y ∧ K (scrC ls y) (σ.forget [] ls).b

/-- **What a call does that turns slots, out of its body.** -/
theorem impFn_of {g : FuncId} {fn : Func} {rs : List RV} {code : ACode} {args : List AC} {H : Hand} {ls : List Nat} {b : Nat → ABlk} {K : AC → (Nat → ABlk) → Prop} (hf : P.funcs[g]? = some fn) (hc : chkF P fn rs code = true) (hn : args.length ≤ fn.ntmps)
    (h : awp P H false ls code (fun e σ => match e with | .normal => endI rs ls K σ | .ret => endI rs ls K σ | _ => False) ⟨iniC args, b⟩) : ImpFn P H ls g args b K := by
  simp only [chkF, Bool.and_eq_true, Bool.not_eq_true'] at hc
  obtain ⟨⟨hc1, hc2⟩, hc3⟩ := hc
  cases hb : fn.body with
  | none => rw [hb] at hc2; cases hc2
  | some c =>
    rw [hb] at hc2
    refine ⟨⟨fn, hf, hc1, by simp [hb]⟩, fun X t lt m a w vs hH hr hpr hlt hsz hR => ?_⟩
    refine callsIn_wide.1 (show CallsIn (wf none) 0 P g vs w _ from callsIn_of_wpV hf hb ?_)
    obtain ⟨Ds, hDs, hDn, hDh⟩ := hr.defers.1
    let Y : Ctx := { ok0 := X.ok0, C := X.C, w0 := X.w0, n := fn.ntmps, gs := (lt.map fun i => (t i, a.tmps.getD i undef)) ++ X.gs, fx := (Ds.map fun D => (D, .deferred (some []))) ++ X.fx, lp := X.lp, pr := ls, nm := true }
    have hsep : ∀ i, X.lp = some i → ∀ q ∈ Y.fx, q.1 ≠ i.l := fun i hi q hq => by
      rcases List.mem_append.1 hq with hq | hq
      · obtain ⟨D, hD, rfl⟩ := List.mem_map.1 hq
        intro e
        have h1 := (hDh D hD).2
        have h2 := (hr.loop i hi).1
        have e : D = i.l := e
        rw [e, h2] at h1
        cases hb2 : b i.p <;> simp [LoopI.obj, hb2] at h1
      · exact hH.sep i hi q hq
    have hwid : Wid X Y := ⟨rfl, rfl, rfl, rfl, fun q hq => List.mem_append_right _ hq, fun q hq => List.mem_append_right _ hq, hpr, rfl, hsep⟩
    have hHY : HandsOK P Y H := ⟨hsep, hH.wid Y hwid, fun Z hZ => hH.wid Z (hwid.trans hZ)⟩
    have hr0 : Rel Y ⟨iniC args, b⟩ m { tmps := vs ++ Array.replicate (fn.ntmps - vs.size) undef, defers := [] } w := by
      refine hr.switch rfl rfl rfl (Books.refl _) (fun _ _ => rfl) (fun s => .inl rfl) (fun i => ?_) (by simp [Y]; omega) ⟨⟨[], rfl, List.nodup_nil, fun _ h => by cases h⟩, fun _ => rfl⟩ (fun q hq => ?_) (fun q hq => ?_) (fun i hi => ?_)
      · refine iniC_rel (f := fun i => (vs ++ Array.replicate (fn.ntmps - vs.size) undef).getD i undef) (fun j hj => ?_) i
        have hj' : j < vs.size := by omega
        show RelC _ _ _ _ _ ((vs ++ Array.replicate (fn.ntmps - vs.size) undef).getD j undef)
        rw [getD_append_left hj']
        exact hR j hj
      · rcases List.mem_append.1 hq with hq | hq
        · obtain ⟨i, hi, rfl⟩ := List.mem_map.1 hq
          have := hr.tmps i
          simp only [keepT_eq, hi, if_true] at this
          exact ⟨this, hlt i hi⟩
        · exact ⟨(hr.ghosts q hq).1, onlyC_mono hpr _ (hr.ghosts q hq).2⟩
      · rcases List.mem_append.1 hq with hq | hq
        · obtain ⟨D, hD, rfl⟩ := List.mem_map.1 hq
          exact ⟨(hDh D hD).2, rfl⟩
        · exact hr.fixed q hq
      · have := hr.loop i hi
        exact ⟨this.1, by have := List.all_eq_true.1 hpr i.p this.2; simpa using this⟩
    have key := awp_sound code 0 c _ _ m _ w Y none H false (fun h => by cases h) hHY (fun h => by obtain ⟨l, h⟩ := h; cases h) hc2 h hr0
    refine wpV_mono key ?_
    rintro e a' w' ⟨σ', m', hq, hr'⟩
    have hr' : Rel Y σ' m' a' w' := by cases e <;> first | exact hr' | exact hq.elim
    have hde := hr'.defers.2 rfl
    have fin : endI rs ls K σ' → LeavesInM (wf none) 0 P fn a'.tmps (fun e w' => ∃ v y b' m', e = .returned v ∧ K y b' ∧ Rel X ⟨Go.AM.keepT t lt, b'⟩ m' a w' ∧ RelC (X.ok m') w' b' m' y v) a'.defers .returning w' := fun ⟨y, hy, hK⟩ => by
      rw [hde]
      obtain ⟨v, hv, hyv⟩ := resC_sound (P := P) hr' hc3 hy
      obtain ⟨m2, hr2, hC⟩ := hr'.forget' [] ls (by show ls.all ls.contains = true; simp)
      refine ⟨v, hv, v, _, _, m2, rfl, hK, ?_, hC hyv⟩
      refine hr2.switch (X' := X) rfl rfl rfl (Books.refl _) (fun _ _ => rfl) (fun s => .inl rfl) (fun i => ?_) hr.size ⟨⟨Ds, hDs, hDn, fun D hD => ⟨(hDh D hD).1, ?_⟩⟩, hr.defers.2⟩ (fun q hq => ?_) (fun q hq => ?_) (fun i hi => ?_)
      · exact keepT_rel (f := fun i => a.tmps.getD i undef) (fun i hi => (hr2.ghosts (t i, a.tmps.getD i undef) (List.mem_append_left _ (List.mem_map.2 ⟨i, hi, rfl⟩))).1) i
      · exact (hr2.fixed (D, .deferred (some [])) (List.mem_append_left _ (List.mem_map.2 ⟨D, hD, rfl⟩))).1
      · exact ⟨(hr2.ghosts q (List.mem_append_right _ hq)).1, (hr.ghosts q hq).2⟩
      · exact hr2.fixed q (List.mem_append_right _ hq)
      · exact ⟨(hr2.loop i hi).1, (hr.loop i hi).2⟩
    cases e with
    | normal => exact fin hq
    | ret => exact fin hq
    | _ => exact hq.elim

/-- A row of what leads to no memory, as pure data in new memory. -/
def newD (σ : St) : AC → Option D
  | .row s off len tot => match σ.b s with
    | .row _ els => if tot = els.length ∧ off + len ≤ els.length ∧ els.all (fun e => e.all flatD) = true then some (.list ((els.drop off).take len)) else none
    | _ => none
  | .d (.v (.slice none 0 0)) => some (.list [])
  | .d x => if flatD x then some x else none
  | _ => none

theorem newD_rel (hr : Rel X σ m a w) {x : AC} {y : D} {v : Value} (h : newD σ x = some y) (hR : RelC (X.ok m) w σ.b m x v) : RelD (fun k => X.w0.heap.size ≤ k) w y v := by
  unfold newD at h
  split at h
  · rename_i s off len tot
    split at h <;> try (cases h; done)
    rename_i esz els hb
    split at h <;> try (cases h; done)
    rename_i hc
    cases h
    rcases row_val hR hb hc.1 with ⟨hl, hle, rfl⟩ | ⟨hnl, rfl, rfl, rfl, rfl⟩
    · rcases slot_row hr hb with ⟨hnl, _⟩ | ⟨_, c, e, hh, hz, hcap, hel, hone, hcs⟩
      · rw [hl] at hnl; cases hnl
      have hlen : ((els.drop off).take len).length = len := by simp; omega
      have := RelD.list (ok := fun k => X.w0.heap.size ≤ k) (w := w) ((els.drop off).take len) (m s).blk (off * esz) ((m s).cap - off) esz (fun i j => c.getD ((off + i) * esz + j) undef) (hr.own s hl) (hr.blkLt hl) (by omega)
        (fun i hi => by simpa using hel (off + i) (by omega))
        (fun i j hi hj => by
          rw [hlen] at hi
          rw [← Nat.add_assoc, ← Nat.add_mul]
          exact cell_of hh (by rw [hz]; exact pos_lt (by omega) hj))
        (fun i j hi hj => hone _ (pos_lt (by omega) hj))
        (fun i j hi hj => by
          have hi' : off + i < els.length := by omega
          have hj' : j < (els[off + i]).length := by simpa using hj
          have h1 := hcs (off + i) j hi' hj'
          have h2 := List.all_eq_true.1 (List.all_eq_true.1 hc.2.2 _ (List.getElem_mem hi')) _ (List.getElem_mem hj')
          simpa using flat_rel (ok' := fun k => X.w0.heap.size ≤ k) (w' := w) h2 h1)
      rwa [hlen] at this
    · simp; exact .empty _ _
  · cases h
    rw [relC_v hR]; exact .empty _ _
  · rename_i x' _
    split at h <;> cases h
    rename_i hf
    exact flat_rel hf (relC_d hR)
  · cases h

/-- **A function's contract out of its body, its result in new memory.** -/
theorem fnNew_of {g : FuncId} {fn : Func} {n : Nat} {code : ACode} {args : List D} {res : D} (hf : P.funcs[g]? = some fn) (hc : chkF P fn [.t n] code = true) (hn : args.length ≤ fn.ntmps)
    (h : awp P noH true [] code (fun e σ => match e with | .normal => newD σ (σ.t n) = some res | .ret => newD σ (σ.t n) = some res | _ => False) ⟨iniT args, fun _ => .fresh⟩) : FnNew P g args res := by
  simp only [chkF, Bool.and_eq_true, Bool.not_eq_true'] at hc
  obtain ⟨⟨hc1, hc2⟩, hc3⟩ := hc
  cases hb : fn.body with
  | none => rw [hb] at hc2; cases hc2
  | some c =>
    rw [hb] at hc2
    refine ⟨⟨fn, hf, hc1, by simp [hb]⟩, fun w vs hsz hR => ?_⟩
    refine callsIn_wide.1 (show CallsIn (wf none) 0 P g vs w _ from callsIn_of_wpV hf hb ?_)
    let X : Ctx := { ok0 := fun _ => True, C := fun _ => False, w0 := w, n := fn.ntmps }
    let m0 : Nat → Loc := fun _ => ⟨false, 0, 0⟩
    have hr0 : Rel X ⟨iniT args, fun _ => .fresh⟩ m0 { tmps := vs ++ Array.replicate (fn.ntmps - vs.size) undef, defers := [] } w := by
      refine ⟨⟨⟨[], rfl, List.nodup_nil, fun _ h => by cases h⟩, fun _ => rfl⟩, by simp [X]; omega, fun i => ?_, fun s => rfl, fun s s' h => by simp [m0] at h, fun s h => by simp [m0] at h, Foot.refl _ _, fun _ h => (by cases h), fun _ h => (by cases h), fun _ h => (by cases h)⟩
      refine iniT_rel (f := fun i => (vs ++ Array.replicate (fn.ntmps - vs.size) undef).getD i undef) (fun j hj => ?_) i
      have hj' : j < vs.size := by omega
      show RelD _ _ _ ((vs ++ Array.replicate (fn.ntmps - vs.size) undef).getD j undef)
      rw [getD_append_left hj']
      exact (hR j hj).mono (Nat.le_refl _) (fun _ _ _ _ h => h) (fun k _ hk => ⟨.inl trivial, fun s h => by simp [m0] at h⟩)
    have key := awp_sound code 0 c _ _ m0 _ w X none noH true (fun _ => ⟨rfl, rfl, rfl⟩) (noH_oks rfl) (fun _ => rfl) hc2 h hr0
    refine wpV_mono key ?_
    rintro e a' w' ⟨σ', m', hq, hr'⟩
    have hr' : Rel X σ' m' a' w' := by cases e <;> first | exact hr' | exact hq.elim
    have fin : newD σ' (σ'.t n) = some res → LeavesInM (wf none) 0 P fn a'.tmps (fun e w' => ∃ v, e = .returned v ∧ RelD (fun k => w.heap.size ≤ k) w' res v ∧ Foot (fun _ => False) w w') a'.defers .returning w' := fun hres => by
      obtain ⟨Ds, hDs, hDn, hDh⟩ := hr'.defers.1
      rw [hDs]
      refine leaves_marks (base := w.heap.size) Ds w' hDh hDn fun w2 hB hl => ?_
      have hr2 : Rel X ⟨σ'.t, σ'.b⟩ m' { tmps := a'.tmps, defers := [] } w2 :=
        hr'.switch rfl rfl rfl hB hl (fun s => .inl rfl) hr'.tmps hr'.size ⟨⟨[], rfl, List.nodup_nil, fun _ h => by cases h⟩, fun _ => rfl⟩ (fun _ h => by cases h) (fun _ h => by cases h) (fun _ h => by cases h)
      obtain ⟨v, hv, hyv⟩ := resC_sound (P := P) (rs := [.t n]) (res := σ'.t n) hr2 hc3 rfl
      exact ⟨v, hv, v, rfl, newD_rel (σ := ⟨σ'.t, σ'.b⟩) hr2 hres hyv, hr2.foot⟩
    cases e with
    | normal => exact fin hq
    | ret => exact fin hq
    | _ => exact hq.elim
end
end Go.AM

/- The abstract machine, part 16: the same operations, made for working out by reduction; the rule of a loop. No condition. -/
set_option linter.unusedVariables false
set_option linter.unusedSimpArgs false
namespace Go.AM
open Go

/-- A value, worked out. -/
def force (x : AC) (K : AC → Prop) : Prop :=
  match x with
  | .d y => K (.d y)
  | .row s off len tot => K (.row s off len tot)
  | .ptr s off => K (.ptr s off)
  | .rptr s i j tot => K (.rptr s i j tot)
  | .vs s off len => K (.vs s off len)
  | .clo f first caps => K (.clo f first caps)
  | .agg cs => K (.agg cs)
  | .tup cs => K (.tup cs)
  | .junk => K .junk
theorem force_eq (x : AC) (K : AC → Prop) : force x K = K x := by cases x <;> rfl

def intB (op : BinOp) (k : IntKind) (a : Int) (k' : IntKind) (b : Int) (K : AC → Prop) : Prop :=
  match op with
  | .shl => 0 ≤ b ∧ K (iC k (k.wrap (a * 2 ^ (min b.toNat k.bits))))
  | .shr => 0 ≤ b ∧ K (iC k (a.fdiv (2 ^ (min b.toNat k.bits))))
  | _ => cond (decide (k = k')) (match op with
    | .add => K (iC k (k.wrap (a + b)))
    | .sub => K (iC k (k.wrap (a - b)))
    | .mul => K (iC k (k.wrap (a * b)))
    | .quo => b ≠ 0 ∧ K (iC k (k.wrap (a.tdiv b)))
    | .rem => b ≠ 0 ∧ K (iC k (a.tmod b))
    | .and => K (iC k (bitsA .and k a b))
    | .or => K (iC k (bitsA .or k a b))
    | .xor => K (iC k (bitsA .xor k a b))
    | .andNot => K (iC k (bitsA .andNot k a b))
    | .eql => K (bC (decide (a = b)))
    | .neq => K (bC (!decide (a = b)))
    | .lss => K (bC (decide (a < b)))
    | .leq => K (bC (decide (a ≤ b)))
    | .gtr => K (bC (decide (b < a)))
    | .geq => K (bC (decide (b ≤ a)))
    | _ => False) False

theorem of_cond {b : Bool} {p : Prop} (h : cond b p False) : b = true ∧ p := by cases b <;> simp_all

theorem intB_A {op : BinOp} {k k' : IntKind} {a b : Int} {K : AC → Prop} (h : intB op k a k' b K) : intA op k a k' b K := by
  cases op <;> simp only [intB] at h <;> simp only [intA]
  all_goals first
    | exact h
    | (obtain ⟨h1, h2⟩ := of_cond h
       have h1 := of_decide_eq_true h1
       first | exact ⟨h1, h2⟩ | exact ⟨h1, h2.1, h2.2⟩)

theorem opsA_mono {P : Program} : ∀ {aos : List AOper} {σ : St} {K K' : St → Prop}, (∀ σ', K σ' → K' σ') → opsA P aos σ K → opsA P aos σ K'
  | [], σ, K, K', hk, h => hk _ h
  | o :: os, σ, K, K', hk, h => operA_mono (fun σ' h' => opsA_mono hk h') h

/-- An append, worked out. -/
def appB (t : Nat → AC) (b : Nat → ABlk) (s esz : Nat) (x y : Opnd) (K : AC → (Nat → ABlk) → Prop) : Prop :=
  match addsC b (evO t y) with
  | none => False
  | some ys => ys.all (fun e => Nat.beq e.length esz) = true ∧ (match evO t x with
    | .row s' off len tot => cond (Nat.beq s' s && Nat.beq off 0) (len = tot ∧ (match b s with
      | .row esz' els => cond (Nat.beq esz' esz) (tot = els.length ∧ els.length + ys.length ≤ most ∧
          K (.row s 0 (els.length + ys.length) (els.length + ys.length)) (upd b s (.row esz (els ++ ys)))) False
      | _ => False)) False
    | .d (.v (.slice none 0 0)) => (match b s with
      | .fresh => ys.length ≤ most ∧ K (.row s 0 ys.length ys.length) (upd b s (.row esz ys))
      | _ => False)
    | _ => False)

def appZB (t : Nat → AC) (b : Nat → ABlk) (s esz : Nat) (x y : Opnd) (K : AC → (Nat → ABlk) → Prop) : Prop :=
  match addsC b (evO t y) with
  | none => False
  | some ys => ys.all (fun e => Nat.beq e.length esz) = true ∧ (match evO t x with
    | .row s' off len tot => cond (Nat.beq s' s && Nat.beq off 0) (len = tot ∧ (match b s with
      | .row esz' els => cond (Nat.beq esz' esz) (tot = els.length ∧ els.length + ys.length ≤ most ∧ K (.d (.list (els ++ ys))) (upd b s .dead)) False
      | _ => False)) False
    | .d (.v (.slice none 0 0)) => (match b s with
      | .fresh => ys.length ≤ most ∧ K (.d (.list ys)) (upd b s .dead)
      | _ => False)
    | _ => False)

def stB (t : Nat → AC) (b : Nat → ABlk) (s : Nat) (sh : Sh) (x y : Opnd) (K : AC → (Nat → ABlk) → Prop) : Prop :=
  match evO t x, cellsC sh (evO t y) with
    | .ptr s' off, some us => cond (Nat.beq s' s && us.all (standsB b)) (match b s with
      | .var cs => cond (decide (off + us.length ≤ cs.length)) (K (.d (.v undef)) (upd b s (.var (cs.take off ++ us ++ cs.drop (off + us.length))))) False
      | _ => False) False
    | .rptr s' i j tot, some us => cond (Nat.beq s' s && us.all (standsB b)) (match b s, toDs us with
      | .row esz els, some ds => tot = els.length ∧ ∃ cs, els[i]? = some cs ∧ cond (decide (j + ds.length ≤ cs.length)) (K (.d (.v undef)) (upd b s (.row esz (els.set i (cs.take j ++ ds ++ cs.drop (j + ds.length)))))) False
      | _, _ => False) False
    | _, _ => False
/-- An operation, worked out. -/
def opB (P : Program) (op : AOp) (t : Nat → AC) (b : Nat → ABlk) (K : AC → (Nat → ABlk) → Prop) : Prop :=
  match op with
  | .mv x => force (evO t x) fun y => K y b
  | .pick c x y => match evO t c with
    | .d (.v (.bool c)) => (match c with | true => force (evO t x) fun y => K y b | false => force (evO t y) fun y => K y b)
    | _ => False
  | .bin op x y => match evO t x, evO t y with
    | .d (.v (.int k a)),   .d (.v (.int k' c)) => intB op k a k' c fun r => K r b
    | .d (.v (.string a)), .d (.v (.string c)) => strA op a c fun r => K r b
    | _, _ => False
  | .ld sh x _ => match evO t x with
    | .ptr s off => (match b s with
      | .var cs => (match sh with
        | .one => (match cs[off]? with | some c => force c fun y => K y b | none => False)
        | .agg n => cond (decide (off + n ≤ cs.length)) (K (.agg ((cs.drop off).take n)) b) False)
      | _ => False)
    | .d (.fptr cs) => (match sh with
      | .one => (match cs with | c :: _ => K (.d c) b | [] => False)
      | .agg n => cond (decide (n ≤ cs.length)) (K (.d (.agg (cs.take n))) b) False)
    | .rptr s i j tot => (match b s with
      | .row _ els => tot = els.length ∧ ∃ cs, els[i]? = some cs ∧ (match sh with
        | .one => (match cs[j]? with | some c => K (.d c) b | none => False)
        | .agg n => cond (decide (j + n ≤ cs.length)) (K (.d (.agg ((cs.drop j).take n))) b) False)
      | _ => False)
    | _ => False
  | .st s sh x y => stB t b s sh x y K
  | .std ss sh x y => ∃ s, s ∈ ss ∧ stB t b s sh x y K
  | .box s sh x => match b s, cellsC sh (evO t x) with
    | .fresh, some us => cond (us.all (standsB b)) (K (.ptr s 0) (upd b s (.var us))) False
    | _, _ => False
  | .boxd sh x => match cellsC sh (evO t x) with
    | some us => (match toDs us with
      | some ds => cond (ds.all oneD) (K (.d (.fptr ds)) b) False
      | none => False)
    | none => False
  | .fld sh off x => match evO t x with
    | .agg cs => (match sh with
      | .one => (match cs[off]? with | some c => force c fun y => K y b | none => False)
      | .agg n => cond (decide (off + n ≤ cs.length)) (K (.agg ((cs.drop off).take n)) b) False)
    | .d (.agg cs) => (match sh with
      | .one => (match cs[off]? with | some c => K (.d c) b | none => False)
      | .agg n => cond (decide (off + n ≤ cs.length)) (K (.d (.agg ((cs.drop off).take n))) b) False)
    | _ => False
  | .ixa esz x i => match evO t x, evO t i with
    | .d (.list xs), .d (.v (.int _ n)) => 0 ≤ n ∧ ∃ cs, xs[n.toNat]? = some cs ∧ cond (Nat.beq cs.length esz) (K (.d (.fptr cs)) b) False
    | .row s off len tot, .d (.v (.int _ n)) => 0 ≤ n ∧ n < len ∧ (match b s with
      | .row esz' els => cond (Nat.beq esz' esz) (tot = els.length ∧ K (.rptr s (off + n.toNat) 0 tot) b) False
      | _ => False)
    | .vs s off len, .d (.v (.int _ n)) => cond (Nat.beq esz 1) (0 ≤ n ∧ n < len ∧ (match b s with
      | .var _ => K (.ptr s (off + n.toNat)) b
      | _ => False)) False
    | _, _ => False
  | .ext x k => match evO t x with
    | .tup vs => (match vs[k]? with | some c => force c fun y => K y b | none => False)
    | .d (.tup vs) => (match vs[k]? with | some c => K (.d c) b | none => False)
    | _ => False
  | .bsl esz sh ps => match elsC b t sh ps with
    | some es => cond (es.all (fun e => Nat.beq e.length esz)) (K (.d (.list es)) b) False
    | none => False
  | .len str x => match evO t x with
    | .d (.list xs) => cond str False (K (iC .i64 xs.length) b)
    | .d (.v (.slice none 0 0)) => cond str False (K (iC .i64 0) b)
    | .d (.v (.string s)) => cond str (K (iC .i64 s.size) b) False
    | .row s _ len tot => cond str False (match b s with | .row _ els => tot = els.length ∧ K (iC .i64 len) b | _ => False)
    | .vs s _ len => cond str False (match b s with | .var _ => K (iC .i64 len) b | _ => False)
    | _ => False
  | .tas ty x => match evO t x with
    | .d (.v (.iface t' (.agg vs))) => cond (Nat.beq t' ty) (K (.tup [.agg (vs.toList.map fun v => .d (.v v)), bC true]) b) False
    | _ => False
  | .mki ty x => match evO t x with
    | .d (.v u) => cond u.oneCell' (K (.d (.v (.iface ty u))) b) False
    | _ => False
  | .eqs neg n ls x y => match aggOf (evO t x), aggOf (evO t y) with
    | some cs, some ds => cond (Nat.beq cs.length n && Nat.beq ds.length n) (match eqLeaves cs ds ls with
      | some r => K (bC (if neg then !r else r)) b
      | none => False) False
    | _, _ => False
  | .call g xs => match (xs.map (evO t)).mapM (snap b 4) with
    | some ds => ∃ res, PureFn P g ds res ∧ cond ((xs.map (evO t)).all isPure) (K (.d res) b) (flatD res = true ∧ K (.d res) b)
    | none => False
  | .callv x xs => match snap b 4 (evO t x), (xs.map (evO t)).mapM (snap b 4) with
    | some (.clo g first caps), some ds => ∃ res, PureFn P g (first ++ ds ++ caps) res ∧ cond ((evO t x :: xs.map (evO t)).all isPure) (K (.d res) b) (flatD res = true ∧ K (.d res) b)
    | _, _ => False
  | .app s esz x y => appB t b s esz x y K
  | .appd ss esz x y => ∃ s, s ∈ ss ∧ appB t b s esz x y K
  | .appz s esz x y => appZB t b s esz x y K
  | .mvf s x => match evO t x with
    | .row s' off len tot => cond (Nat.beq s' s && Nat.beq off 0) (len = tot ∧ (match b s with
      | .row _ els => tot = els.length ∧ K (.d (.list els)) (upd b s .dead)
      | _ => False)) False
    | _ => False
  | .bslr s esz sh ps => match elsC b t sh ps, b s with
    | some es, .fresh => cond (es.all (fun e => Nat.beq e.length esz)) (K (.row s 0 es.length es.length) (upd b s (.row esz es))) False
    | _, _ => False
  | op => opA P op ⟨t, b⟩ K

theorem beq_nat (a b : Nat) : Nat.beq a b = (a == b) := by
  rw [Bool.eq_iff_iff, Nat.beq_eq, beq_iff_eq]
theorem beq_all {ys : List (List D)} {n : Nat} : ys.all (fun e => Nat.beq e.length n) = ys.all (fun e => e.length == n) := by simp only [beq_nat]

theorem stB_A {σ : St} {s : Nat} {sh : Sh} {x y : Opnd} {K : AC → (Nat → ABlk) → Prop} (h : stB σ.t σ.b s sh x y K) : stA σ s sh x y K := by
    unfold stB at h
    simp only [stA]
    split at h <;> try (exact h.elim)
    · rename_i s' off us hx hus
      simp only [hx, hus]
      obtain ⟨h1, h⟩ := of_cond h
      simp only [Bool.and_eq_true, Nat.beq_eq] at h1
      refine ⟨h1.1, h1.2, ?_⟩
      split at h <;> try (exact h.elim)
      rename_i cs hb
      simp only [hb]
      obtain ⟨h3, h4⟩ := of_cond h
      exact ⟨of_decide_eq_true h3, h4⟩
    · rename_i s' i j tot us hx hus
      simp only [hx, hus]
      obtain ⟨h1, h⟩ := of_cond h
      simp only [Bool.and_eq_true, Nat.beq_eq] at h1
      refine ⟨h1.1, h1.2, ?_⟩
      split at h <;> try (exact h.elim)
      rename_i esz els ds hb hds
      simp only [hb, hds]
      obtain ⟨h1, cs, h2, h⟩ := h
      have hd : els.getD i [] = cs := by simp [List.getD, h2]
      obtain ⟨h3, h4⟩ := of_cond h
      refine ⟨h1, (List.getElem?_eq_some_iff.1 h2).1, ?_⟩
      rw [hd]
      exact ⟨of_decide_eq_true h3, h4⟩
theorem appB_A {σ : St} {s esz : Nat} {x y : Opnd} {K : AC → (Nat → ABlk) → Prop} (h : appB σ.t σ.b s esz x y K) : appA σ s esz x y K := by
    unfold appB at h
    simp only [appA]
    split at h <;> try (exact h.elim)
    rename_i ys hys
    simp only [hys]
    obtain ⟨h1, h⟩ := h
    refine ⟨beq_all ▸ h1, ?_⟩
    split at h <;> try (exact h.elim)
    · rename_i s' off len tot hx
      simp only [hx]
      obtain ⟨h2, h⟩ := of_cond h
      simp only [Bool.and_eq_true, Nat.beq_eq] at h2
      refine ⟨h2.1, h2.2, h.1, ?_⟩
      have h := h.2
      split at h <;> try (exact h.elim)
      rename_i esz' els hb
      simp only [hb]
      obtain ⟨h3, h4⟩ := of_cond h
      exact ⟨by simpa using h3, h4⟩
    · rename_i hx
      simp only [hx]
      exact h

theorem appZB_A {σ : St} {s esz : Nat} {x y : Opnd} {K : AC → (Nat → ABlk) → Prop} (h : appZB σ.t σ.b s esz x y K) : appZ σ s esz x y K := by
    unfold appZB at h
    simp only [appZ]
    split at h <;> try (exact h.elim)
    rename_i ys hys
    simp only [hys]
    obtain ⟨h1, h⟩ := h
    refine ⟨beq_all ▸ h1, ?_⟩
    split at h <;> try (exact h.elim)
    · rename_i s' off len tot hx
      simp only [hx]
      obtain ⟨h2, h⟩ := of_cond h
      simp only [Bool.and_eq_true, Nat.beq_eq] at h2
      refine ⟨h2.1, h2.2, h.1, ?_⟩
      have h := h.2
      split at h <;> try (exact h.elim)
      rename_i esz' els hb
      simp only [hb]
      obtain ⟨h3, h4⟩ := of_cond h
      exact ⟨by simpa using h3, h4⟩
    · rename_i hx
      simp only [hx]
      exact h

theorem opB_A {P : Program} {op : AOp} {σ : St} {K : AC → (Nat → ABlk) → Prop} (hld : ∀ sh x av, op = .ld sh x av → av = []) (h : opB P op σ.t σ.b K) : opA P op σ K := by
  cases op <;> simp only [opB] at h <;> try exact h
  case mv x => rw [force_eq] at h; exact h
  case pick c x y =>
    simp only [opA]
    split at h <;> try (exact h.elim)
    rename_i c' hc
    simp only [force_eq] at h
    simp only [hc]
    cases c'
    · exact ⟨fun h => (by cases h), fun _ => h⟩
    · exact ⟨fun _ => h, fun h => (by cases h)⟩
  case bin op x y =>
    simp only [opA, binA]
    split at h <;> try (exact h.elim)
    · rename_i hx hy; simp only [hx, hy]; exact intB_A h
    · rename_i hx hy; simp only [hx, hy]; exact h
  case ld sh x av =>
    have := hld sh x av rfl; subst this
    simp only [opA]
    split at h <;> try (exact h.elim)
    · rename_i s off hx
      simp only [hx]
      refine ⟨by simp, ?_⟩
      split at h <;> try (exact h.elim)
      rename_i cs hb
      simp only [hb]
      split at h
      · split at h <;> try (exact h.elim)
        rename_i c hc
        simp only [hc]; rw [force_eq] at h; exact h
      · obtain ⟨h1, h2⟩ := of_cond h
        exact ⟨of_decide_eq_true h1, h2⟩
    · rename_i cs hx
      simp only [hx]
      split at h
      · exact h
      · obtain ⟨h1, h2⟩ := of_cond h
        exact ⟨of_decide_eq_true h1, h2⟩
    · rename_i s i j tot hx
      simp only [hx]
      refine ⟨by simp, ?_⟩
      split at h <;> try (exact h.elim)
      rename_i esz els hb
      simp only [hb]
      obtain ⟨h1, cs, h2, h⟩ := h
      have hd : els.getD i [] = cs := by simp [List.getD, h2]
      refine ⟨h1, (List.getElem?_eq_some_iff.1 h2).1, ?_⟩
      rw [hd]
      split at h
      · exact h
      · obtain ⟨h3, h4⟩ := of_cond h
        exact ⟨of_decide_eq_true h3, h4⟩
  case st s sh x y => exact stB_A h
  case std ss sh x y =>
    obtain ⟨s, hs, h⟩ := h
    exact ⟨s, hs, stB_A h⟩
  case box s sh x =>
    simp only [opA]
    split at h <;> try (exact h.elim)
    rename_i us hb hus
    simp only [hb, hus]
    exact of_cond h
  case boxd sh x =>
    simp only [opA]
    split at h <;> try (exact h.elim)
    rename_i us hus
    split at h <;> try (exact h.elim)
    rename_i ds hds
    simp only [hus, hds]
    exact of_cond h
  case fld sh off x =>
    simp only [opA]
    split at h <;> try (exact h.elim)
    · rename_i cs hx
      simp only [hx]
      split at h
      · split at h <;> try (exact h.elim)
        rename_i c hc
        simp only [hc]; rw [force_eq] at h; exact h
      · obtain ⟨h1, h2⟩ := of_cond h
        exact ⟨of_decide_eq_true h1, h2⟩
    · rename_i cs hx
      simp only [hx]
      split at h
      · exact h
      · obtain ⟨h1, h2⟩ := of_cond h
        exact ⟨of_decide_eq_true h1, h2⟩
  case ixa esz x i =>
    simp only [opA]
    split at h <;> try (exact h.elim)
    · rename_i xs k n hx hi
      simp only [hx, hi]
      obtain ⟨h1, cs, h2, h⟩ := h
      obtain ⟨h3, h4⟩ := of_cond h
      have hlt := (List.getElem?_eq_some_iff.1 h2).1
      have hd : xs.getD n.toNat [] = cs := by simp [List.getD, h2]
      refine ⟨h1, by omega, ?_⟩
      rw [hd]
      exact ⟨by simpa using h3, h4⟩
    · rename_i s off len tot k n hx hi
      simp only [hx, hi]
      obtain ⟨h1, h2, h⟩ := h
      refine ⟨h1, h2, ?_⟩
      split at h <;> try (exact h.elim)
      rename_i esz' els hb
      simp only [hb]
      obtain ⟨h3, h4⟩ := of_cond h
      exact ⟨by simpa using h3, h4⟩
    · rename_i s off len k n hx hi
      simp only [hx, hi]
      obtain ⟨h3, h1, h2, h⟩ := of_cond h
      exact ⟨by simpa using h3, h1, h2, h⟩
  case ext x k =>
    simp only [opA]
    split at h <;> try (exact h.elim)
    · rename_i vs hx
      simp only [hx]
      split at h <;> try (exact h.elim)
      rename_i c hc
      simp only [hc]; rw [force_eq] at h; exact h
    · rename_i vs hx
      simp only [hx]
      exact h
  case bsl esz sh ps =>
    simp only [opA]
    split at h <;> try (exact h.elim)
    rename_i es hes
    simp only [hes]
    rw [beq_all] at h
    exact of_cond h
  case len str x =>
    simp only [opA]
    split at h <;> try (exact h.elim)
    · rename_i hx; simp only [hx]; cases str
      · exact ⟨rfl, h⟩
      · exact h.elim
    · rename_i hx; simp only [hx]; cases str
      · exact ⟨rfl, h⟩
      · exact h.elim
    · rename_i hx; simp only [hx]; cases str
      · exact h.elim
      · exact ⟨rfl, h⟩
    · rename_i hx; simp only [hx]; cases str
      · refine ⟨rfl, ?_⟩
        simp only [cond_false] at h
        exact h
      · exact h.elim
    · rename_i hx; simp only [hx]; cases str
      · refine ⟨rfl, ?_⟩
        simp only [cond_false] at h
        exact h
      · exact h.elim
  case tas t x =>
    simp only [opA]
    split at h <;> try (exact h.elim)
    rename_i t' vs hx
    simp only [hx]
    obtain ⟨e, h⟩ := of_cond h
    exact ⟨by simpa using e, h⟩
  case mki t x =>
    simp only [opA]
    split at h <;> try (exact h.elim)
    rename_i u hx
    simp only [hx]
    exact of_cond h
  case eqs neg n ls x y =>
    simp only [opA]
    split at h <;> try (exact h.elim)
    rename_i cs ds hx hy
    simp only [hx, hy]
    obtain ⟨h1, h⟩ := of_cond h
    simp only [Bool.and_eq_true, Nat.beq_eq] at h1
    exact ⟨h1.1, h1.2, h⟩
  case call g xs =>
    simp only [opA]
    split at h <;> try (exact h.elim)
    rename_i ds hds
    simp only [hds]
    obtain ⟨res, h1, h⟩ := h
    refine ⟨res, h1, ?_⟩
    cases hp : (xs.map (evO σ.t)).all isPure with
    | true => rw [hp] at h; exact ⟨.inl rfl, h⟩
    | false => rw [hp] at h; exact ⟨.inr h.1, h.2⟩
  case callv x xs =>
    simp only [opA]
    split at h <;> try (exact h.elim)
    rename_i g first caps ds hclo hds
    simp only [hclo, hds]
    obtain ⟨res, h1, h⟩ := h
    refine ⟨res, h1, ?_⟩
    cases hp : (evO σ.t x :: xs.map (evO σ.t)).all isPure with
    | true => rw [hp] at h; exact ⟨.inl rfl, h⟩
    | false => rw [hp] at h; exact ⟨.inr h.1, h.2⟩
  case app s esz x y => exact appB_A h
  case appd ss esz x y =>
    obtain ⟨s, hs, h⟩ := h
    exact ⟨s, hs, appB_A h⟩
  case appz s esz x y => exact appZB_A h
  case mvf s x =>
    simp only [opA]
    split at h <;> try (exact h.elim)
    rename_i s' off len tot hx
    simp only [hx]
    obtain ⟨h2, h⟩ := of_cond h
    simp only [Bool.and_eq_true, Nat.beq_eq] at h2
    exact ⟨h2.1, h2.2, h.1, h.2⟩
  case bslr s esz sh ps =>
    simp only [opA]
    split at h <;> try (exact h.elim)
    rename_i es hes hb
    simp only [hes, hb]
    rw [beq_all] at h
    exact of_cond h

def putK (dst : Option Nat) (y : AC) (t : Nat → AC) (b : Nat → ABlk) (K : (Nat → AC) → (Nat → ABlk) → Prop) : Prop :=
  match dst with
  | some d => K (fun i => cond (Nat.beq i d) y (t i)) b
  | none => K t b

theorem opA_mono {P : Program} {op : AOp} {σ : St} {K K' : AC → (Nat → ABlk) → Prop} (hk : ∀ y b, K y b → K' y b) (h : opA P op σ K) : opA P op σ K' := by
  obtain ⟨y, ch, h1, _, h3⟩ := opA_pt h
  exact h3 σ.t σ.b K' (fun _ _ => rfl) (fun s => .inr rfl) (hk _ _ h1)

def runB (P : Program) (op : AOp) (av : List Nat) (t : Nat → AC) (b : Nat → ABlk) (dst : Option Nat) (K : (Nat → AC) → (Nat → ABlk) → Prop) : Prop :=
  match av with
  | [] => opB P op t b fun y b' => putK dst y t b' K
  | a :: av => opB P op t (maskB (a :: av) b) fun y b' => putK dst y t (unmaskB (a :: av) b b') K

def operB (P : Program) (o : AOper) (t : Nat → AC) (b : Nat → ABlk) (K : (Nat → AC) → (Nat → ABlk) → Prop) : Prop :=
  match o with
  | ⟨dst, op, none, av⟩ => runB P op av t b dst K
  | ⟨dst, op, some (g, want), av⟩ => match t g with
    | .d (.v (.bool c)) => (match want with
      | true => (match c with | true => runB P op av t b dst K | false => putK dst (.d (.v undef)) t b K)
      | false => (match c with | true => putK dst (.d (.v undef)) t b K | false => runB P op av t b dst K))
    | .d (.v (.tuple _)) => putK dst (.d (.v undef)) t b K
    | _ => False

def plainLd (o : AOper) : Bool := match o.op with | .ld _ _ (_ :: _) => false | _ => true

theorem unmask_mask (av : List Nat) (b : Nat → ABlk) : unmaskB av b (maskB av b) = b := by
  funext s
  by_cases hs : s ∈ av
  · rw [unmaskB_in hs]
  · rw [unmaskB_out hs, maskB_out hs]

theorem putK_eq {dst : Option Nat} {y : AC} {t : Nat → AC} {b : Nat → ABlk} {K : (Nat → AC) → (Nat → ABlk) → Prop} (h : putK dst y t b K) : K (St.put ⟨t, b⟩ dst y).t (St.put ⟨t, b⟩ dst y).b := by
  cases dst with
  | none => exact h
  | some d =>
    have e : (fun i => cond (Nat.beq i d) y (t i)) = upd t d y := by
      funext i
      simp only [upd, beq_nat]
      by_cases hi : i = d
      · simp [hi]
      · have h0 : (i == d) = false := by simpa using hi
        simp [hi, h0]
    simp only [putK, e] at h
    exact h

theorem operB_A {P : Program} {o : AOper} {σ : St} {K : (Nat → AC) → (Nat → ABlk) → Prop} (hp : plainLd o = true) (h : operB P o σ.t σ.b K) : operA P o σ fun σ' => K σ'.t σ'.b := by
  obtain ⟨dst, op, g, av⟩ := o
  have hld : ∀ sh x av, op = .ld sh x av → av = [] := fun sh x av e => by
    unfold plainLd at hp; simp only [e] at hp
    cases av with
    | nil => rfl
    | cons => cases hp
  have run : (runB P op av σ.t σ.b dst K) → opA P op ⟨σ.t, maskB av σ.b⟩ fun y b' => K (St.put ⟨σ.t, unmaskB av σ.b b'⟩ dst y).t (St.put ⟨σ.t, unmaskB av σ.b b'⟩ dst y).b := fun h => by
    cases av with
    | nil =>
      simp only [runB] at h
      refine opA_mono (fun y b' hk => ?_) (opB_A (σ := ⟨σ.t, σ.b⟩) hld h)
      exact putK_eq hk
    | cons a av =>
      simp only [runB] at h
      refine opA_mono (fun y b' hk => ?_) (opB_A (σ := ⟨σ.t, maskB (a :: av) σ.b⟩) hld h)
      exact putK_eq hk
  unfold operA operA0
  cases g with
  | none =>
    exact run h
  | some gw =>
    obtain ⟨g, want⟩ := gw
    simp only [operB] at h
    simp only
    split at h <;> try (exact h.elim)
    · rename_i b hb
      simp only [hb]
      have h : (b = want → runB P op av σ.t σ.b dst K) ∧ (b = (!want) → putK dst (.d (.v undef)) σ.t σ.b K) := by
        cases want <;> cases b <;> first | exact ⟨fun e => (by cases e), fun _ => h⟩ | exact ⟨fun _ => h, fun e => (by cases e)⟩
      refine ⟨fun e => run (h.1 e), fun e => ?_⟩
      rw [unmask_mask]; exact putK_eq (h.2 e)
    · rename_i vs hb
      simp only [hb]
      rw [unmask_mask]; exact putK_eq h

def opsB (P : Program) : List AOper → (Nat → AC) → (Nat → ABlk) → ((Nat → AC) → (Nat → ABlk) → Prop) → Prop
  | [], t, b, K => K t b
  | o :: os, t, b, K => operB P o t b fun t' b' => opsB P os t' b' K

theorem opsB_A {P : Program} : ∀ {aos : List AOper} {σ : St} {K : (Nat → AC) → (Nat → ABlk) → Prop}, aos.all plainLd = true → opsB P aos σ.t σ.b K → opsA P aos σ fun σ' => K σ'.t σ'.b
  | [], σ, K, _, h => h
  | o :: os, σ, K, hp, h => by
    simp only [List.all_cons, Bool.and_eq_true] at hp
    exact operA_mono (fun σ' h' => opsB_A hp.2 h') (operB_A hp.1 h)

/-- What the one yield does, the other one does too. -/
def HLe (H H' : Hand) : Prop := ∀ pr l args b (K K' : AC → (Nat → ABlk) → Prop), (∀ y b, K y b → K' y b) → H pr l args b K → H' pr l args b K'
/-- A yield that takes more where it takes less. -/
def HM (H : Hand) : Hand := fun pr l args b K => ∃ K0 : AC → (Nat → ABlk) → Prop, (∀ y b, K0 y b → K y b) ∧ H pr l args b K0
theorem le_HM (H : Hand) : HLe H (HM H) := fun _ _ _ _ K _ hk h => ⟨K, hk, h⟩
theorem HM_mono (H : Hand) : HLe (HM H) (HM H) := fun _ _ _ _ _ _ hk ⟨K0, h1, h2⟩ => ⟨K0, fun y b h => hk y b (h1 y b h), h2⟩
theorem HLe.HM {H H' : Hand} (h : HLe H H') : HLe (HM H) H' := fun _ _ _ _ _ _ hk ⟨K0, h1, h2⟩ => h _ _ _ _ _ _ (fun y b e => hk y b (h1 y b e)) h2

/-- A call of a loop's yield, or one that turns slots, worked out. -/
def operHB1 (P : Program) (H : Hand) (prot : List Nat) (op : AOp) (dst : Option Nat) (t : Nat → AC) (b : Nat → ABlk) (K : (Nat → AC) → (Nat → ABlk) → Prop) : Prop :=
  match op with
  | .yield lt pr x xs => match evO t x with
    | .d (.v (.func (.yield l) f c)) => cond (Nat.beq f.size 0 && Nat.beq c.size 0 && (prot.all pr.contains && lt.all fun i => onlyC pr (t i)))
        (H pr l (xs.map (evO t)) b fun y b' => cond (isPac y) False (putK dst y (keepT t lt) b' K)) False
    | _ => False
  | .icall lt ls g xs => cond (prot.all ls.contains) (∃ (st : St) (R : AC → (Nat → ABlk) → Prop), St.forget ⟨t, b⟩ lt ls = st ∧ ImpFn P (HM H) ls g ((xs.map (evO t)).map (scrC ls)) st.b R ∧ ∀ y b', R y b' → putK dst y st.t b' K) False
  | .icallv lt ls x xs => match capsOf (evO t x) with
    | some (g, caps) => cond (prot.all ls.contains) (∃ (st : St) (R : AC → (Nat → ABlk) → Prop), St.forget ⟨t, b⟩ lt ls = st ∧ ImpFn P (HM H) ls g ((xs.map (evO t) ++ caps).map (scrC ls)) st.b R ∧ ∀ y b', R y b' → putK dst y st.t b' K) False
    | none => False
  | .callz lt ls S g xs => cond (prot.all ls.contains) (GivW (fun t b => opB P (.call g xs) t b fun y b' => putK dst y t b' K) lt ls S t b) False
  | .eqn neg x => match evO t x with
    | .d (.v (.slice none 0 0)) => putK dst (bC (!neg)) t b K
    | .d (.list xs) => (match xs with
      | [] => putK dst (bC true) t b K ∧ putK dst (bC false) t b K
      | _ :: _ => putK dst (bC neg) t b K)
    | _ => False
  | _ => False

def operHgB (P : Program) (H : Hand) (prot : List Nat) (o : AOper) (t : Nat → AC) (b : Nat → ABlk) (K : (Nat → AC) → (Nat → ABlk) → Prop) : Prop :=
  match o with
  | ⟨dst, op, none, _⟩ => operHB1 P H prot op dst t b K
  | ⟨dst, op, some (g, want), _⟩ => match t g with
    | .d (.v (.bool c)) => (match want with
      | true => (match c with | true => operHB1 P H prot op dst t b K | false => putK dst (.d (.v undef)) t b K)
      | false => (match c with | true => putK dst (.d (.v undef)) t b K | false => operHB1 P H prot op dst t b K))
    | .d (.v (.tuple _)) => putK dst (.d (.v undef)) t b K
    | _ => False

/-- One operation outside of a drawn region, worked out. -/
def operHB (P : Program) (H : Hand) (prot : List Nat) (o : AOper) (t : Nat → AC) (b : Nat → ABlk) (K : (Nat → AC) → (Nat → ABlk) → Prop) : Prop :=
  match o.op with
  | .yield .. => operHgB P H prot o t b K
  | .icall .. => operHgB P H prot o t b K
  | .icallv .. => operHgB P H prot o t b K
  | .callz .. => operHgB P H prot o t b K
  | .eqn .. => operHgB P H prot o t b K
  | _ => operB P o t b K

def opsHB (P : Program) (H : Hand) (prot : List Nat) : List AOper → (Nat → AC) → (Nat → ABlk) → ((Nat → AC) → (Nat → ABlk) → Prop) → Prop
  | [], t, b, K => K t b
  | o :: os, t, b, K => operHB P H prot o t b fun t' b' => opsHB P H prot os t' b' K

theorem HLe.hand {P : Program} {X : Ctx} {H H' : Hand} (h : HLe H H') (hk : HandOK P X H') : HandOK P X H := fun pr' l args b K t lt m a w vs hH => hk pr' l args b K t lt m a w vs (h _ _ _ _ _ _ (fun _ _ h => h) hH)
theorem HLe.hands {P : Program} {X : Ctx} {H H' : Hand} (h : HLe H H') (hk : HandsOK P X H') : HandsOK P X H := ⟨hk.sep, h.hand hk.own, fun Y hY => h.hand (hk.wid Y hY)⟩
theorem HLe.imp {P : Program} {H H' : Hand} (h : HLe H H') {ls : List Nat} {g : FuncId} {args : List AC} {b : Nat → ABlk} {K : AC → (Nat → ABlk) → Prop} (hi : ImpFn P H ls g args b K) : ImpFn P H' ls g args b K :=
  ⟨hi.1, fun X t lt m a w vs hk => hi.2 X t lt m a w vs (h.hands hk)⟩

theorem operHB1_A {P : Program} {H H' : Hand} (hH : HLe H H') {prot : List Nat} {op : AOp} {dst : Option Nat} {σ : St} {K : (Nat → AC) → (Nat → ABlk) → Prop} {K' : St → Prop} (hk : ∀ σ', K σ'.t σ'.b → K' σ') (h : operHB1 P H prot op dst σ.t σ.b K) :
    operH1 P H' prot op dst σ K' := by
  unfold operHB1 at h
  unfold operH1
  split at h
  · split at h <;> try (exact h.elim)
    rename_i l f c hx
    obtain ⟨h1, h⟩ := of_cond h
    rw [Bool.and_eq_true, Bool.and_eq_true] at h1
    obtain ⟨⟨h1, h2⟩, h3⟩ := h1
    simp only [hx]
    refine ⟨Array.eq_empty_of_size_eq_zero (by simpa using h1), Array.eq_empty_of_size_eq_zero (by simpa using h2), h3, hH _ _ _ _ _ _ (fun y b' hK => by
      cases hp : isPac y with
      | true => rw [hp] at hK; exact hK.elim
      | false => rw [hp] at hK; exact hk _ (putK_eq hK)) h⟩
  · obtain ⟨h1, st, R, rfl, hi, hR⟩ := of_cond h
    exact ⟨h1, (hH.HM.imp hi).mono fun y b' hy => hk _ (putK_eq (hR y b' hy))⟩
  · split at h <;> try (exact h.elim)
    rename_i g caps hx
    obtain ⟨h1, st, R, rfl, hi, hR⟩ := of_cond h
    simp only [hx]
    exact ⟨h1, (hH.HM.imp hi).mono fun y b' hy => hk _ (putK_eq (hR y b' hy))⟩
  · obtain ⟨h1, σ', h2, h3⟩ := of_cond h
    exact ⟨h1, σ', h2, opA_mono (fun y b' hy => hk _ (putK_eq hy)) (opB_A (fun _ _ _ e => by cases e) h3)⟩
  · split at h <;> try (exact h.elim)
    · rename_i hx
      simp only [hx]
      exact hk _ (putK_eq h)
    · rename_i xs hx
      simp only [hx]
      cases xs with
      | nil => exact ⟨hk _ (putK_eq h.1), hk _ (putK_eq h.2)⟩
      | cons => exact hk _ (putK_eq h)
  · exact h.elim

theorem operHgB_A {P : Program} {H H' : Hand} (hH : HLe H H') {prot : List Nat} {o : AOper} {σ : St} {K : (Nat → AC) → (Nat → ABlk) → Prop} {K' : St → Prop} (hk : ∀ σ', K σ'.t σ'.b → K' σ') (h : operHgB P H prot o σ.t σ.b K) :
    operHg P H' prot o σ K' := by
  obtain ⟨dst, op, g, av⟩ := o
  unfold operHg
  cases g with
  | none => exact operHB1_A hH hk h
  | some gw =>
    obtain ⟨g, want⟩ := gw
    simp only [operHgB] at h
    simp only
    split at h <;> try (exact h.elim)
    · rename_i b hb
      simp only [hb]
      have h : (b = want → operHB1 P H prot op dst σ.t σ.b K) ∧ (b = (!want) → putK dst (.d (.v undef)) σ.t σ.b K) := by
        cases want <;> cases b <;> first | exact ⟨fun e => (by cases e), fun _ => h⟩ | exact ⟨fun _ => h, fun e => (by cases e)⟩
      exact ⟨fun e => operHB1_A hH hk (h.1 e), fun e => hk _ (putK_eq (h.2 e))⟩
    · rename_i vs hb
      simp only [hb]
      exact hk _ (putK_eq h)

theorem operHB_A {P : Program} {H H' : Hand} (hH : HLe H H') {prot : List Nat} {o : AOper} {σ : St} {K : (Nat → AC) → (Nat → ABlk) → Prop} {K' : St → Prop} (hk : ∀ σ', K σ'.t σ'.b → K' σ') (hp : plainLd o = true) (h : operHB P H prot o σ.t σ.b K) :
    operH P H' prot o σ K' := by
  unfold operHB at h
  unfold operH
  split at h
  · rename_i e; simp only [e]; exact operHgB_A hH hk h
  · rename_i e; simp only [e]; exact operHgB_A hH hk h
  · rename_i e; simp only [e]; exact operHgB_A hH hk h
  · rename_i e; simp only [e]; exact operHgB_A hH hk h
  · rename_i e; simp only [e]; exact operHgB_A hH hk h
  · rename_i h1 h2 h3 h4 h5
    have h := operA_mono (K' := K') (fun σ' h' => hk _ h') (operB_A hp h)
    split
    · rename_i e; exact (h1 _ _ _ _ e).elim
    · rename_i e; exact (h2 _ _ _ _ e).elim
    · rename_i e; exact (h3 _ _ _ _ e).elim
    · rename_i e; exact (h4 _ _ _ _ _ e).elim
    · rename_i e; exact (h5 _ _ e).elim
    · exact h

theorem opsHB_A {P : Program} {H H' : Hand} (hH : HLe H H') {prot : List Nat} : ∀ {aos : List AOper} {σ : St} {K : (Nat → AC) → (Nat → ABlk) → Prop} {K' : St → Prop}, (∀ σ', K σ'.t σ'.b → K' σ') → aos.all plainLd = true → opsHB P H prot aos σ.t σ.b K → opsH P H' prot aos σ K'
  | [], σ, K, K', hk, _, h => hk σ h
  | o :: os, σ, K, K', hk, hp, h => by
    simp only [List.all_cons, Bool.and_eq_true] at hp
    exact operHB_A hH (fun σ' h' => opsHB_A hH hk hp.2 h') hp.1 h

/-- A loop: what its states at its head are of, and what a round makes less. -/
def LoopB (body : (Exit → (Nat → AC) → (Nat → ABlk) → Prop) → (Nat → AC) → (Nat → ABlk) → Prop) (lt ls : List Nat) (Q : Exit → (Nat → AC) → (Nat → ABlk) → Prop) (t : Nat → AC) (b : Nat → ABlk) : Prop :=
  ∃ (α : Type) (st : α → St) (inv : α → Prop) (μ : α → Nat) (a0 : α), St.forget ⟨t, b⟩ lt ls = st a0 ∧ inv a0 ∧
    ∀ a, inv a → body (fun e t' b' => match e with | .normal => ∃ a', St.forget ⟨t', b'⟩ lt ls = st a' ∧ inv a' ∧ μ a' < μ a | e => Q e t' b') (st a).t (st a).b

abbrev QB := Exit → (Nat → AC) → (Nat → ABlk) → Prop

def thenB (K : (Nat → AC) → (Nat → ABlk) → Prop) : QB := fun e t b => match e with
  | .normal => K t b
  | _ => False
def endB (p : Nat) (K : AC → (Nat → ABlk) → Prop) : QB := fun e t b => match b p, e with
  | .fresh, .normal => K (bC true) b
  | .fresh, .ret => K (bC false) (upd b p (.mark none))
  | .fresh, .exit id => K (bC false) (upd b p (.mark (some id)))
  | .fresh, .panic [⟨v, false, false⟩] => K (pacC v) b
  | _, _ => False
def handB (p l : Nat) (t : Nat → AC) (ps : List Nat) (wa wb : List Nat → QB → (Nat → AC) → (Nat → ABlk) → Prop) : Hand := fun pr' l' args b K =>
  l' = l ∧ (match b p with
    | .fresh => cond (Nat.beq args.length ps.length) (wa pr' (thenB (wb pr' (endB p K))) (setP t ps args) b) False
    | _ => False)
def finQ (p : Nat) (Q : QB) (t : Nat → AC) (b : Nat → ABlk) : Prop :=
  match b p with
  | .fresh => Q .normal t b
  | .mark none => Q .ret t (upd b p .fresh)
  | .mark (some id) => Q (.exit id) t (upd b p .fresh)
  | _ => False
def finRB (p : Nat) (Q : QB) (t : Nat → AC) : QB := fun e _ b => match e with
  | .normal => finQ p Q t b
  | .ret => finQ p Q t b
  | .panic ch => Q (.panic ch) t b
  | _ => False

/-- Behind a round that panicked. -/
def pacK (Q : QB) (y : AC) (t : Nat → AC) (b : Nat → ABlk) : Prop := match y with
  | .tup [.d (.v v)] => Q (.panic [⟨v, false, false⟩]) t b
  | _ => False

/-- An operation that panics, worked out. -/
def popB (P : Program) (H : Hand) (prot : List Nat) (po : POp) (Q : QB) (t : Nat → AC) (b : Nat → ABlk) : Prop :=
  match po with
  | .call g xs => match (xs.map (evO t)).mapM (snap b 4) with
    | some ds => ∃ v, PanFn P g ds v ∧ Q (.panic [⟨v, false, false⟩]) t b
    | none => False
  | .pan x => match evO t x with
    | .d (.v (.iface ty v)) => Q (.panic [⟨.iface ty v, false, false⟩]) t b
    | _ => False
  | .yield lt pr x xs => match evO t x with
    | .d (.v (.func (.yield l) f c)) => cond (Nat.beq f.size 0 && Nat.beq c.size 0 && (prot.all pr.contains && lt.all fun i => onlyC pr (t i)))
        (H pr l (xs.map (evO t)) b fun y b' => pacK Q y (keepT t lt) b') False
    | _ => False

/-- **The weakest precondition, for working out.** -/
def bwp (P : Program) (H : Hand) (fnm : Bool) (prot : List Nat) : ACode → QB → (Nat → AC) → (Nat → ABlk) → Prop
  | .alt x y, Q, t, b => bwp P H fnm prot x Q t b ∨ bwp P H fnm prot y Q t b
  | .regp ops po, Q, t, b => opsHB P H prot ops t b fun t' b' => popB P H prot po Q t' b'
  | .skip, Q, t, b => Q .normal t b
  | .reg ops, Q, t, b => opsHB P H prot ops t b (Q .normal)
  | .regd ops, Q, t, b => opsHB P H prot ops t b (Q .normal)
  | .seq x y, Q, t, b => bwp P H fnm prot x (fun e t' b' => match e with | .normal => bwp P H fnm prot y Q t' b' | e => Q e t' b') t b
  | .cond c x y, Q, t, b => match evO t c with
    | .d (.v (.bool v)) => (match v with | true => bwp P H fnm prot x Q t b | false => bwp P H fnm prot y Q t b)
    | _ => False
  | .block id x, Q, t, b => bwp P H fnm prot x (fun e t' b' => match e with | .exit id' => cond (Nat.beq id' id) (Q .normal t' b') (Q (.exit id') t' b') | e => Q e t' b') t b
  | .loop lt ls x, Q, t, b => cond (prot.all ls.contains) (LoopB (fun Q t b => bwp P H fnm prot x Q t b) lt ls Q t b) False
  | .rfun p g nf code x lt pr ps asg body, Q, t, b => match capsOf (evO t x), b p with
    | some (g', caps), .fresh => cond (fnm && Nat.beq g' g && Nat.beq caps.length nf && (pr.contains p && prot.all pr.contains && lt.all fun i => onlyC pr (t i)))
        (∀ l, bwp P (handB p l (keepT t lt) ps (fun pr' Q t b => bwp P noH false pr' asg Q t b) (fun pr' Q t b => bwp P noH false pr' body Q t b)) false pr code
          (finRB p Q (keepT t lt)) (iniC (.d (.v (.func (.yield l) #[] #[])) :: caps)) b) False
    | _, _ => False
  | .conv s r esz x, Q, t, b => match b s, b r with
    | .var (.d (.v (.slice none 0 0)) :: cs), .fresh => bwp P H fnm prot x Q t (upd (upd b r (.row esz [])) s (.var (.row r 0 0 0 :: cs)))
    | _, _ => False
  | .frz lt ls s x, Q, t, b => cond (prot.all ls.contains) (FrzW (fun t b => bwp P H fnm prot x Q t b) lt ls s t b) False
  | .frzs lt ls S x, Q, t, b => cond (prot.all ls.contains) (GivW (fun t b => bwp P H fnm prot x Q t b) lt ls S t b) False
  | .scope x, Q, t, b => bwp P H fnm prot x (fun e t' b' => match e with | .goto _ => False | e => Q e t' b') t b
  | .lab _, Q, t, b => Q .normal t b
  | .exit id, Q, t, b => Q (.exit id) t b
  | .ret, Q, t, b => Q .ret t b
  | .bad, _, _, _ => False

def plainC : ACode → Bool
  | .alt x y => plainC x && plainC y
  | .regp ops _ => ops.all plainLd
  | .reg ops => ops.all plainLd
  | .regd ops => ops.all plainLd
  | .seq x y => plainC x && plainC y
  | .cond _ x y => plainC x && plainC y
  | .block _ x => plainC x
  | .loop _ _ x => plainC x
  | .conv _ _ _ x => plainC x
  | .frz _ _ _ x => plainC x
  | .frzs _ _ _ x => plainC x
  | .scope x => plainC x
  | .rfun _ _ _ code _ _ _ _ asg body => plainC code && plainC asg && plainC body
  | _ => true

theorem noH_le : HLe noH noH := fun _ _ _ _ _ _ _ h => h.elim

theorem bwp_awp {P : Program} : ∀ {x : ACode} {H H' : Hand} {fnm : Bool} {prot : List Nat} {Q : QB} {Q' : Exit → St → Prop} {σ : St}, HLe H H' → plainC x = true → (∀ e σ', Q e σ'.t σ'.b → Q' e σ') → bwp P H fnm prot x Q σ.t σ.b → awp P H' fnm prot x Q' σ := by
  intro x
  induction x with
  | alt x y ihx ihy =>
    intro H H' fnm prot Q Q' σ hH hp hk h
    simp only [plainC, Bool.and_eq_true] at hp
    rcases h with h | h
    · exact .inl (ihx hH hp.1 hk h)
    · exact .inr (ihy hH hp.2 hk h)
  | regp aos po =>
    intro H H' fnm prot Q Q' σ hH hp hk h
    refine opsHB_A hH (fun σ' h' => ?_) hp h
    unfold popB at h'
    unfold popA
    split at h'
    · split at h' <;> try (exact h'.elim)
      rename_i ds hds
      obtain ⟨v, hP, hq⟩ := h'
      exact ⟨ds, v, hds, hP, hk _ _ hq⟩
    · split at h' <;> try (exact h'.elim)
      rename_i hx
      simp only [hx]
      exact hk _ _ h'
    · split at h' <;> try (exact h'.elim)
      rename_i l f c hx
      obtain ⟨h1, h'⟩ := of_cond h'
      rw [Bool.and_eq_true, Bool.and_eq_true] at h1
      obtain ⟨⟨h1, h2⟩, h3⟩ := h1
      simp only [hx]
      refine ⟨Array.eq_empty_of_size_eq_zero (by simpa using h1), Array.eq_empty_of_size_eq_zero (by simpa using h2), h3, hH _ _ _ _ _ _ (fun y b' hK => ?_) h'⟩
      unfold pacK at hK
      split at hK
      · rename_i v
        exact ⟨v, rfl, hk _ ⟨_, _⟩ hK⟩
      · exact hK.elim
  | skip => intro H H' fnm prot Q Q' σ hH hp hk h; exact hk _ _ h
  | reg aos => intro H H' fnm prot Q Q' σ hH hp hk h; exact opsHB_A hH (fun σ' h' => hk _ _ h') hp h
  | regd aos => intro H H' fnm prot Q Q' σ hH hp hk h; exact opsHB_A hH (fun σ' h' => hk _ _ h') hp h
  | seq x y ihx ihy =>
    intro H H' fnm prot Q Q' σ hH hp hk h
    simp only [plainC, Bool.and_eq_true] at hp
    refine ihx hH hp.1 (fun e σ' h' => ?_) h
    cases e with
    | normal => exact ihy hH hp.2 hk h'
    | _ => exact hk _ _ h'
  | cond c x y ihx ihy =>
    intro H H' fnm prot Q Q' σ hH hp hk h
    simp only [plainC, Bool.and_eq_true] at hp
    simp only [awp, bwp] at h ⊢
    split at h
    · rename_i v hb; simp only [hb]
      cases v
      · exact ⟨fun e => (by cases e), fun _ => ihy hH hp.2 hk h⟩
      · exact ⟨fun _ => ihx hH hp.1 hk h, fun e => (by cases e)⟩
    · exact h.elim
  | block id x ih =>
    intro H H' fnm prot Q Q' σ hH hp hk h
    refine ih hH hp (fun e σ' h' => ?_) h
    cases e with
    | exit id' =>
      simp only at h' ⊢
      by_cases e : id' = id
      · subst e; simp at h' ⊢; exact hk _ _ h'
      · have : Nat.beq id' id = false := by rw [beq_nat]; simpa using e
        rw [this] at h'; rw [if_neg e]; exact hk _ _ h'
    | _ => exact hk _ _ h'
  | loop lt ls x ih =>
    intro H H' fnm prot Q Q' σ hH hp hk h
    simp only [bwp] at h
    obtain ⟨hpr, α, st, inv, μ, a0, h0, i0, h1⟩ := of_cond h
    classical
    have hex : ∀ σ', (∃ a, st a = σ' ∧ inv a) → ∃ k, ∃ a, st a = σ' ∧ inv a ∧ μ a = k := fun σ' ⟨a, h1, h2⟩ => ⟨_, a, h1, h2, rfl⟩
    refine ⟨hpr, fun σ' => ∃ a, st a = σ' ∧ inv a, fun σ' => if h : ∃ a, st a = σ' ∧ inv a then (least (hex σ' h)).choose else 0, ⟨a0, h0.symm, i0⟩, ?_⟩
    intro σ' hI
    have hs := (least (hex σ' hI)).choose_spec
    obtain ⟨⟨a, e, ia, hμ⟩, _⟩ := hs
    have hst := h1 a ia
    rw [e] at hst
    refine ih hH hp (fun ex σ'' hq => ?_) hst
    cases ex with
    | normal =>
      obtain ⟨b, hb, ib, hlt⟩ := hq
      have hb : St.forget σ'' lt ls = st b := hb
      have hI' : ∃ a, st a = σ''.forget lt ls ∧ inv a := ⟨b, hb.symm, ib⟩
      refine ⟨hI', ?_⟩
      simp only [hI', hI, dif_pos]
      have h2 := (least (hex _ hI')).choose_spec.2 (μ b) ⟨b, hb.symm, ib, rfl⟩
      omega
    | _ => exact hk _ _ hq
  | rfun p g nf code x lt pr ps asg body ihcode ihasg ihbody =>
    intro H H' fnm prot Q Q' σ hH hp hk h
    simp only [plainC, Bool.and_eq_true] at hp
    simp only [bwp] at h
    simp only [awp]
    split at h <;> try (exact h.elim)
    rename_i g' caps hcaps hbp
    obtain ⟨h1, h⟩ := of_cond h
    simp only [hcaps, hbp]
    rw [Bool.and_eq_true, Bool.and_eq_true, Bool.and_eq_true] at h1
    obtain ⟨⟨⟨h1, h2⟩, h3⟩, h4⟩ := h1
    refine ⟨h1, by simpa using h2, by simpa using h3, h4, fun l => ?_⟩
    refine ihcode ?_ hp.1.1 ?_ (h l)
    · rintro pr' l' args b K K' hK ⟨e, hh⟩
      refine ⟨e, ?_⟩
      split at hh <;> try (exact hh.elim)
      rename_i hbf
      obtain ⟨e1, hh⟩ := of_cond hh
      simp only [hbf]
      refine ⟨by simpa using e1, ?_⟩
      refine ihasg (Q := thenB _) noH_le hp.1.2 (fun ex σ1 hq => ?_) (σ := ⟨setP (keepT σ.t lt) ps args, b⟩) hh
      cases ex <;> try (exact hq.elim)
      refine ihbody (Q := endB p K) noH_le hp.2 (fun ex σ2 hq => ?_) hq
      unfold endB at hq
      unfold endR
      split at hq <;> try (exact hq.elim)
      all_goals
        rename_i hb2
        simp only [hb2]
        first
          | exact hK _ _ hq
          | exact ⟨_, rfl, hK _ _ hq⟩
    · intro ex σ' hq
      have key : finQ p Q (keepT σ.t lt) σ'.b → finB p Q' (keepT σ.t lt) σ'.b := fun hq => by
        unfold finQ at hq
        unfold finB
        split at hq <;> try (exact hq.elim)
        all_goals
          rename_i hb2
          simp only [hb2]
          exact hk _ ⟨_, _⟩ hq
      cases ex <;> first | exact key hq | exact hk _ _ hq | exact hq.elim
  | conv s r esz x ih =>
    intro H H' fnm prot Q Q' σ hH hp hk h
    simp only [bwp] at h
    simp only [awp]
    split at h <;> try (exact h.elim)
    rename_i cs hs hf
    simp only [hs, hf]
    exact ih (σ := ⟨σ.t, upd (upd σ.b r (.row esz [])) s (.var (.row r 0 0 0 :: cs))⟩) hH hp hk h
  | frz lt ls s x ih =>
    intro H H' fnm prot Q Q' σ hH hp hk h
    simp only [bwp] at h
    obtain ⟨h1, esz, els, σ', h2, h3, h4⟩ := of_cond h
    exact ⟨h1, esz, els, σ', h2, h3, ih (σ := ⟨σ'.t, σ'.b⟩) hH hp hk h4⟩
  | frzs lt ls S x ih =>
    intro H H' fnm prot Q Q' σ hH hp hk h
    simp only [bwp] at h
    obtain ⟨h1, σ', h3, h4⟩ := of_cond h
    exact ⟨h1, σ', h3, ih (σ := ⟨σ'.t, σ'.b⟩) hH hp hk h4⟩
  | scope x ih =>
    intro H H' fnm prot Q Q' σ hH hp hk h
    refine ih hH hp (fun e σ' h' => ?_) h
    cases e <;> first | exact h' | exact hk _ _ h'
  | lab n => intro H H' fnm prot Q Q' σ hH hp hk h; exact hk _ _ h
  | exit id => intro H H' fnm prot Q Q' σ hH hp hk h; exact hk _ _ h
  | ret => intro H H' fnm prot Q Q' σ hH hp hk h; exact hk _ _ h
  | bad => intro H H' fnm prot Q Q' σ hH hp hk h; exact h.elim

/-- **A loop**, its states named by what they are of. -/
theorem loopB {body : QB → (Nat → AC) → (Nat → ABlk) → Prop} {lt ls : List Nat} {Q : QB} {t : Nat → AC} {b : Nat → ABlk}
    {α : Type} (st : α → St) (inv : α → Prop) (μ : α → Nat) (a0 : α) (h0 : St.forget ⟨t, b⟩ lt ls = st a0) (i0 : inv a0)
    (step : ∀ a, inv a → body (fun e t' b' => match e with | .normal => ∃ a', St.forget ⟨t', b'⟩ lt ls = st a' ∧ inv a' ∧ μ a' < μ a | e => Q e t' b') (st a).t (st a).b) : LoopB body lt ls Q t b := ⟨α, st, inv, μ, a0, h0, i0, step⟩

/-- **A function's contract out of its body, for working out.** -/
theorem pureFn_by {P : Program} {g : FuncId} {fn : Func} {rs : List RV} {code : ACode} {args : List D} {res : D} (hf : P.funcs[g]? = some fn) (hc : chkF P fn rs code = true) (hp : plainC code = true) (hn : Nat.ble args.length fn.ntmps = true)
    (h : bwp P noH true [] code (fun e t b => match e with | .normal => resA rs ⟨t, b⟩ = some res | .ret => resA rs ⟨t, b⟩ = some res | _ => False) (iniT args) (fun _ => .fresh)) : PureFn P g args res :=
  pureFn_of hf hc (Nat.le_of_ble_eq_true hn) (bwp_awp (σ := ⟨iniT args, fun _ => .fresh⟩) noH_le hp (fun e σ' h => h) h)

/-- **What a call does that turns slots, out of its body, for working out.** -/
theorem impFn_by {P : Program} {g : FuncId} {fn : Func} {rs : List RV} {code : ACode} {args : List AC} {H : Hand} {ls : List Nat} {b : Nat → ABlk} {K : AC → (Nat → ABlk) → Prop} (hH : HLe H H) (hf : P.funcs[g]? = some fn) (hc : chkF P fn rs code = true) (hp : plainC code = true) (hn : Nat.ble args.length fn.ntmps = true)
    (h : bwp P H false ls code (fun e t b => match e with | .normal => endI rs ls K ⟨t, b⟩ | .ret => endI rs ls K ⟨t, b⟩ | _ => False) (iniC args) b) : ImpFn P H ls g args b K :=
  impFn_of hf hc (Nat.le_of_ble_eq_true hn) (bwp_awp (H := H) (H' := H) (σ := ⟨iniC args, b⟩) hH hp (fun e σ' h => h) h)

/-- **A function's contract out of its body, its result in new memory, for working out.** -/
theorem fnNew_by {P : Program} {g : FuncId} {fn : Func} {n : Nat} {code : ACode} {args : List D} {res : D} (hf : P.funcs[g]? = some fn) (hc : chkF P fn [.t n] code = true) (hp : plainC code = true) (hn : Nat.ble args.length fn.ntmps = true)
    (h : bwp P noH true [] code (fun e t b => match e with | .normal => newD ⟨t, b⟩ (t n) = some res | .ret => newD ⟨t, b⟩ (t n) = some res | _ => False) (iniT args) (fun _ => .fresh)) : FnNew P g args res :=
  fnNew_of hf hc (Nat.le_of_ble_eq_true hn) (bwp_awp (σ := ⟨iniT args, fun _ => .fresh⟩) noH_le hp (fun e σ' h => h) h)
attribute [irreducible] LoopB
end Go.AM

/- The abstract machine, part 19: what a claim's reading of an argument says of it as pure data. No condition. -/
set_option linter.unusedVariables false
set_option linter.unusedSimpArgs false
namespace Go.AM
open Go

/-- A struct's fields lie one behind the other, each of a type that is taken in. -/
def fieldsT (P : Program) (ok : TypeId → Bool) : Nat → List Field → Option Nat
  | off, [] => some off
  | off, fl :: fs => if fl.offset == off && ok fl.type then fieldsT P ok (off + P.cellsOf fl.type) fs else none

/-- A type of numbers, Bools, strings, slices and structs. -/
def okT (P : Program) : Nat → TypeId → Bool
  | 0, _ => false
  | f + 1, t => match P.underlying t with
    | some (.int _) => true
    | some .bool => true
    | some .string => true
    | some (.slice e) => decide (1 ≤ P.cellsOf e) && okT P f e
    | some (.struct fs) => fieldsT P (okT P f) 0 fs.toList == some (P.cellsOf t)
    | _ => false

def shapeFs (sh : TypeId → List D → Prop) : List Field → List D → Prop
  | [], ds => ds = []
  | fl :: fs, ds => ∃ a b, ds = a ++ b ∧ sh fl.type a ∧ shapeFs sh fs b

/-- The cells of a value of a type. -/
def ShapeT (P : Program) : Nat → TypeId → List D → Prop
  | 0, _, _ => False
  | f + 1, t, ds => match P.underlying t with
    | some (.int k) => ∃ n, ds = [.v (.int k n)] ∧ k.min ≤ n ∧ n ≤ k.max
    | some .bool => ∃ b, ds = [.v (.bool b)]
    | some .string => ∃ s, ds = [.v (.string s)] ∧ s.size ≤ maxLen
    | some (.slice e) => ∃ xs, ds = [.list xs] ∧ xs.length ≤ maxLen ∧ ∀ x ∈ xs, ShapeT P f e x
    | some (.struct fs) => shapeFs (ShapeT P f) fs.toList ds
    | _ => False

section
variable {H : Type} {enc : TypeId × Value → H} {P : Program} {w : World} {base : Nat} {spare : Nat → Bool} {held : Bool}

/-- Cells read as that. -/
def Reads1 (w : World) (ds : List D) (cs : List Value) : Prop := ds.length = cs.length ∧ ∀ j (hj : j < ds.length), RelD (fun _ => True) w (ds[j]) (cs.getD j undef) ∧ (cs.getD j undef).oneCell' = true

theorem Reads1.append {a b : List D} {u v : List Value} (h : Reads1 w a u) (k : Reads1 w b v) : Reads1 w (a ++ b) (u ++ v) := by
  refine ⟨by simp [h.1, k.1], fun j hj => ?_⟩
  by_cases hlt : j < a.length
  · have e1 : (a ++ b)[j] = a[j] := List.getElem_append_left hlt
    have e2 : (u ++ v).getD j undef = u.getD j undef := by simp [List.getD, List.getElem?_append_left (h.1 ▸ hlt)]
    rw [e1, e2]; exact h.2 j hlt
  · have hb : j - a.length < b.length := by simp at hj; omega
    have e1 : (a ++ b)[j] = b[j - a.length] := List.getElem_append_right (by omega)
    have e2 : (u ++ v).getD j undef = v.getD (j - a.length) undef := by
      simp [List.getD, List.getElem?_append_right (show u.length ≤ j by rw [← h.1]; omega), h.1]
    rw [e1, e2]; exact k.2 _ hb

theorem reads_fields {f : Nat} {n : Nat} (ih : ∀ (t : TypeId) (fuel : Nat) (cs : List Value) (x : DataW H × List MemPlace), okT P f t = true → DataW.trod enc P w base spare held fuel t cs = some x → ∃ ds, ShapeT P f t ds ∧ Reads1 w ds cs) :
    ∀ (fs : List Field) (off tot : Nat) (cs : List Value), fieldsT P (okT P f) off fs = some tot → cs.length = tot → (∀ fl ∈ fs, ∃ x, DataW.trod enc P w base spare held n fl.type ((cs.drop fl.offset).take (P.cellsOf fl.type)) = some x) →
      ∃ ds, shapeFs (ShapeT P f) fs ds ∧ Reads1 w ds (cs.drop off) := by
  intro fs
  induction fs with
  | nil =>
    intro off tot cs h hl _
    simp [fieldsT] at h; subst h
    refine ⟨[], rfl, ?_, fun j hj => by simp at hj⟩
    simp [hl]
  | cons fl fs ihf =>
    intro off tot cs h hl hx
    simp only [fieldsT] at h
    split at h <;> try (cases h; done)
    rename_i hc
    simp only [Bool.and_eq_true, beq_iff_eq] at hc
    obtain ⟨ho, hok⟩ := hc
    obtain ⟨x, hx0⟩ := hx fl (by simp)
    obtain ⟨ds1, hs1, hr1⟩ := ih _ _ _ _ hok hx0
    obtain ⟨ds2, hs2, hr2⟩ := ihf _ tot cs h hl (fun g hg => hx g (by simp [hg]))
    refine ⟨ds1 ++ ds2, ⟨ds1, ds2, rfl, hs1, hs2⟩, ?_⟩
    have e : cs.drop off = (cs.drop fl.offset).take (P.cellsOf fl.type) ++ cs.drop (off + P.cellsOf fl.type) := by
      rw [ho, ← List.drop_drop, List.take_append_drop]
    rw [e]; exact hr1.append hr2

/-- **What is read is that pure data.** -/
theorem trod_reads : ∀ (f : Nat) (t : TypeId) (fuel : Nat) (cs : List Value) (x : DataW H × List MemPlace), okT P f t = true → DataW.trod enc P w base spare held fuel t cs = some x → ∃ ds, ShapeT P f t ds ∧ Reads1 w ds cs := by
  intro f
  induction f with
  | zero => intro t fuel cs x h; simp [okT] at h
  | succ f ih =>
    intro t fuel cs x hok h
    unfold okT at hok
    unfold ShapeT
    have one : ∀ (d : D) (v : Value), RelD (fun _ => True) w d v → v.oneCell' = true → Reads1 w [d] [v] := fun d v hd hv => ⟨rfl, fun j hj => by
      have : j = 0 := by simp at hj; omega
      subst this; exact ⟨hd, hv⟩⟩
    split at hok
    · rename_i k hu
      obtain ⟨n, rfl, _, hw⟩ := DataW.trod_int hu h
      simp only [Lit.wf, Bool.and_eq_true, decide_eq_true_eq] at hw
      exact ⟨_, ⟨n, rfl, hw.1, hw.2⟩, one _ _ (.v _) rfl⟩
    · rename_i hu
      obtain ⟨b, rfl, _⟩ := DataW.trod_bool hu h
      exact ⟨_, ⟨b, rfl⟩, one _ _ (.v _) rfl⟩
    · rename_i hu
      obtain ⟨s, rfl, _, hs⟩ := DataW.trod_string hu h
      exact ⟨_, ⟨s, rfl, hs⟩, one _ _ (.v _) rfl⟩
    · rename_i e hu
      simp only [Bool.and_eq_true, decide_eq_true_eq] at hok
      obtain ⟨he1, hoke⟩ := hok
      rcases DataW.trod_slice hu h with ⟨rfl, _⟩ | ⟨a, len, cap, elems, rest, n, _, rfl, _, hb, hl, hm, hlen, hel, _, _⟩
      · exact ⟨_, ⟨[], rfl, by simp, fun x hx => by cases hx⟩, one _ _ (.empty _ _) rfl⟩
      · by_cases h0 : len = 0
        · subst h0
          exact ⟨_, ⟨[], rfl, by simp, fun x hx => by cases hx⟩, one _ _ (.empty _ _) rfl⟩
        have each : ∀ i, i < len → ∃ cs ds, w.cells? base (a.add (i * P.cellsOf e)) (P.cellsOf e) = some cs ∧ ShapeT P f e ds ∧ Reads1 w ds cs := fun i hi => by
          have h1 := hel i hi
          obtain ⟨y, hy⟩ : ∃ y, elems[i]? = some y := ⟨elems[i], by simp [hlen, hi]⟩
          rw [hy] at h1
          cases hc : w.cells? base (a.add (i * P.cellsOf e)) (P.cellsOf e) with
          | none => rw [hc] at h1; cases h1
          | some cs =>
            rw [hc] at h1
            obtain ⟨ds, hs, hr⟩ := ih _ _ _ _ hoke h1
            exact ⟨cs, ds, rfl, hs, hr⟩
        have ex : ∃ g : Nat → List Value × List D, ∀ i, i < len → w.cells? base (a.add (i * P.cellsOf e)) (P.cellsOf e) = some (g i).1 ∧ ShapeT P f e (g i).2 ∧ Reads1 w (g i).2 (g i).1 := by
          classical
          refine ⟨fun i => if hi : i < len then ((each i hi).choose, (each i hi).choose_spec.choose) else ([], []), fun i hi => ?_⟩
          simp only [hi, dif_pos]
          exact (each i hi).choose_spec.choose_spec
        obtain ⟨g, hg⟩ := ex
        have cell : ∀ i j, i < len → j < P.cellsOf e → w.cell? ((a.add (i * P.cellsOf e)).add j) = some ((g i).1.getD j undef) := fun i j hi hj => by
          obtain ⟨_, hl2, hc⟩ := World.cells?_some (hg i hi).1
          rw [hc j hj, List.getD_eq_getElem?_getD]
          have : j < (g i).1.length := by omega
          simp [this]
        have hspot : a.spot = none := by
          have := cell 0 0 (by omega) (by omega)
          unfold World.cell? at this
          split at this
          · rename_i c _ _ _
            by_cases hs : a.spot = none
            · exact hs
            · have : ((a.add (0 * P.cellsOf e)).add 0).spot.isSome = true := by simp [Addr.add]; exact Option.isSome_iff_ne_none.2 hs
              simp_all
          · cases this
        obtain ⟨B, off, sp⟩ := a
        simp only at hspot
        subst hspot
        have hB : B < w.heap.size := by
          have := cell 0 0 (by omega) (by omega)
          rw [add_plain, add_plain] at this
          exact cell_lt this
        have hxl : ((List.range len).map fun i => (g i).2).length = len := by simp
        refine ⟨[.list ((List.range len).map fun i => (g i).2)], ⟨_, rfl, by rw [hxl]; omega, fun y hy => ?_⟩, ?_⟩
        · obtain ⟨i, hi, rfl⟩ := List.mem_map.1 hy
          exact (hg i (List.mem_range.1 hi)).2.1
        · refine one _ _ ?_ rfl
          have key := RelD.list (ok := fun _ => True) (w := w) ((List.range len).map fun i => (g i).2) B off cap (P.cellsOf e) (fun i j => (g i).1.getD j undef) trivial hB (by rw [hxl]; exact hl)
            (fun i hi => by
              rw [hxl] at hi
              simp only [List.getElem_map, List.getElem_range]
              rw [(hg i hi).2.2.1]; exact (World.cells?_some (hg i hi).1).2.1)
            (fun i j hi hj => by
              rw [hxl] at hi
              have := cell i j hi hj
              rw [add_plain, add_plain, Nat.add_assoc] at this
              exact this)
            (fun i j hi hj => by
              rw [hxl] at hi
              exact ((hg i hi).2.2.2 j (by rw [(hg i hi).2.2.1, (World.cells?_some (hg i hi).1).2.1]; exact hj)).2)
            (fun i j hi hj => by
              rw [hxl] at hi
              simp only [List.getElem_map, List.getElem_range] at hj ⊢
              exact ((hg i hi).2.2.2 j hj).1)
          rwa [hxl] at key
    · rename_i fs hu
      obtain ⟨xs, n, _, _, hl, hxl, hfs⟩ := DataW.trod_struct hu h
      have hok := beq_iff_eq.1 hok
      obtain ⟨ds, hs, hr⟩ := reads_fields (n := n) ih fs.toList 0 _ cs hok hl (fun fl hfl => by
        obtain ⟨i, hi, rfl⟩ := List.mem_iff_getElem.1 hfl
        have := hfs i _ (show fs[i]? = some fs.toList[i] by simp)
        rw [this]
        have : i < xs.length := by rw [hxl]; simpa using hi
        exact ⟨xs[i], by simp [this]⟩)
      exact ⟨ds, hs, by simpa using hr⟩
    · cases hok
theorem slice_reads {r : Reach} {b0 f : Nat} {t e : TypeId} {v : Value} {d : DataW H} {p : List MemPlace} (hu : P.underlying t = some (.slice e)) (hok : okT P (f + 1) t = true) (hval : Value.okWide P w r b0 t v) (h : DataW.Trod enc P w base spare held t v d p) :
    ∃ xs : List (List D), RelD (fun _ => True) w (.list xs) v ∧ xs.length ≤ maxLen ∧ ∀ x ∈ xs, ShapeT P f e x := by
  obtain ⟨a, len, cap, rfl⟩ := Go.WideShapes.okWide_slice hu hval
  obtain ⟨fuel, hf⟩ := h
  obtain ⟨ds, hs, hr⟩ := trod_reads (f + 1) t fuel _ _ hok hf
  unfold ShapeT at hs
  rw [hu] at hs
  obtain ⟨xs, rfl, hl, hx⟩ := hs
  have := hr.2 0 (by simp)
  exact ⟨xs, by simpa [Value.cells] using this.1, hl, hx⟩
theorem struct_reads {r : Reach} {b0 f : Nat} {t : TypeId} {fs : Array Field} {v : Value} {d : DataW H} {p : List MemPlace} (hu : P.underlying t = some (.struct fs)) (hok : okT P (f + 1) t = true) (hval : Value.okWide P w r b0 t v) (h : DataW.Trod enc P w base spare held t v d p) :
    ∃ ds : List D, RelD (fun _ => True) w (.agg ds) v ∧ shapeFs (ShapeT P f) fs.toList ds := by
  obtain ⟨cs, rfl, hsz⟩ := Go.WideShapes.okWide_struct hu hval
  obtain ⟨fuel, hf⟩ := h
  obtain ⟨ds, hs, hr⟩ := trod_reads (f + 1) t fuel _ _ hok hf
  unfold ShapeT at hs
  rw [hu] at hs
  have hc : (Value.agg cs).cells.toList = cs.toList := rfl
  rw [hc] at hr
  refine ⟨ds, .agg ds cs (by rw [hr.1]; simp) fun j hj => ?_, hs⟩
  have := (hr.2 j hj).1
  simpa [Array.getD_eq_getD_getElem?, List.getD] using this
end
end Go.AM
