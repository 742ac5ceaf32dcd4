/- The abstract machine, part 15: a function's contract out of its body. No condition. -/
import Derived.Test.YtmkmegcconjgoaaAm18
set_option linter.unusedVariables false
set_option linter.unusedSimpArgs false
namespace Go.AM
open Go

inductive RV where
  | t (n : Nat)
  | c (n : Nat) (sh : Sh)

def readRV (σ : St) : RV → Option AC
  | .t n => some (σ.t n)
  | .c n sh => match σ.t n with
    | .ptr s off => match σ.b s with
      | .var cs => (match sh with
        | .one => cs[off]?
        | .agg k => if off + k ≤ cs.length then some (.agg ((cs.drop off).take k)) else none)
      | _ => none
    | _ => none

/-- What a function returns. -/
def resA (rs : List RV) (σ : St) : Option D :=
  match rs.mapM (readRV σ) with
  | some [x] => snap σ.b 4 x
  | some xs => (xs.mapM (snap σ.b 4)).map .tup
  | none => none

def chkRV (P : Program) : ResultVar → RV → Bool
  | .tmp t, .t n => t == n
  | .cell t ty, .c n sh => t == n && chkSh P ty sh
  | _, _ => false
def chkRVs (P : Program) : List ResultVar → List RV → Bool
  | [], [] => true
  | x :: xs, y :: ys => chkRV P x y && chkRVs P xs ys
  | _, _ => false

/-- A function's code is that of the abstract one. -/
def chkF (P : Program) (fn : Func) (rs : List RV) (code : ACode) : Bool :=
  !(fn.name == "runtime.NumGoroutine") && (match fn.body with | some c => chkC P fn.ntmps c code | none => false) && chkRVs P fn.results.toList rs

def iniT : List D → Nat → AC
  | [], _ => .junk
  | d :: _, 0 => .d d
  | _ :: ds, i + 1 => iniT ds i

theorem iniT_rel {ok : Nat → Prop} {w : World} {b : Nat → ABlk} {m : Nat → Loc} : ∀ {ds : List D} {f : Nat → Value}, (∀ j (hj : j < ds.length), RelD ok w (ds[j]) (f j)) → ∀ i, RelC ok w b m (iniT ds i) (f i)
  | [], f, _, i => .junk _
  | d :: ds, f, h, 0 => .d (h 0 (by simp))
  | d :: ds, f, h, i + 1 => iniT_rel (ds := ds) (f := fun i => f (i + 1)) (fun j hj => h (j + 1) (by simpa using hj)) i

section
variable {P : Program} {X : Ctx} {σ : St} {m : Nat → Loc} {a : Act} {w : World}

theorem readRV_sound (hr : Rel X σ m a w) {r : ResultVar} {rv : RV} {x : AC} (hc : chkRV P r rv = true) (h : readRV σ rv = some x) :
    ∃ v, (match r with | .tmp t => pure (a.tmps.getD t undef) | .cell ad t => do loadVar t (← asAddr (a.tmps.getD ad undef)) : Sem Value).run P w = .ok v w ∧ RelC (X.ok m) w σ.b m x v := by
  cases r with
  | tmp t =>
    cases rv <;> simp [chkRV] at hc
    subst hc
    simp [readRV] at h; subst h
    exact ⟨_, rfl, hr.tmps t⟩
  | cell t ty =>
    cases rv with
    | t => simp [chkRV] at hc
    | c n sh =>
      simp [chkRV] at hc
      obtain ⟨rfl, hsh⟩ := hc
      simp only [readRV] at h
      split at h <;> try (cases h; done)
      rename_i s off hs
      split at h <;> try (cases h; done)
      rename_i cs hb
      obtain ⟨hl, c, e, hh, hz, hone, hcs⟩ := slot_var hr hb
      have hp := ptr_val (hs ▸ hr.tmps t) hb
      have hrun : ∀ v, (loadVar ty ⟨(m s).blk, off, none⟩).run P w = .ok v w → (do loadVar ty (← asAddr (a.tmps.getD t undef)) : Sem Value).run P w = .ok v w := fun v e => by
        rw [hp]; simpa [asAddr] using e
      split at h
      · obtain ⟨hlt, rfl⟩ := List.getElem?_eq_some_iff.1 h
        exact ⟨_, hrun _ (run_load_one hsh (cell_of hh (by omega))), hcs off hlt⟩
      · rename_i k
        split at h <;> cases h
        rename_i hle
        refine ⟨_, hrun _ (run_load_cells hsh (f := fun j => c.getD (off + j) undef) (fun j hj => cell_of hh (by omega))), .agg _ _ (by simp; omega) fun j hj => ?_⟩
        have hj' : j < k := by simp at hj; omega
        rw [getD_range hj']
        simpa using hcs (off + j) (by omega)

theorem readRVs_sound (hr : Rel X σ m a w) : ∀ (rl : List ResultVar) (rs : List RV) (xs : List AC), chkRVs P rl rs = true → rs.mapM (readRV σ) = some xs →
    ∃ vs : List Value, (rl.mapM (fun | .tmp t => pure (a.tmps.getD t undef) | .cell ad t => do loadVar t (← asAddr (a.tmps.getD ad undef)) : ResultVar → Sem Value)).run P w = .ok vs w ∧ vs.length = xs.length ∧
      ∀ j (hj : j < xs.length), RelC (X.ok m) w σ.b m (xs[j]) (vs.getD j undef) := by
  intro rl
  induction rl with
  | nil =>
    intro rs xs hc h
    cases rs with
    | nil => simp at h; subst h; exact ⟨[], rfl, rfl, fun j hj => by simp at hj⟩
    | cons => simp [chkRVs] at hc
  | cons r rl ih =>
    intro rs xs hc h
    cases rs with
    | nil => simp [chkRVs] at hc
    | cons rv rs =>
      simp only [chkRVs, Bool.and_eq_true] at hc
      simp only [List.mapM_cons, Option.bind_eq_bind, Option.pure_def] at h
      cases hx : readRV σ rv with
      | none => simp [hx] at h
      | some x =>
        cases hxs : rs.mapM (readRV σ) with
        | none => simp [hx, hxs] at h
        | some xs' =>
          simp [hx, hxs] at h; subst h
          obtain ⟨v, hv, hR⟩ := readRV_sound hr hc.1 hx
          obtain ⟨vs, hvs, hl, hRs⟩ := ih rs xs' hc.2 hxs
          refine ⟨v :: vs, ?_, by simp [hl], fun j hj => ?_⟩
          · rw [List.mapM_cons, Sem.run_bind, hv]
            simp only [Result.andThen_ok, Sem.run_bind, hvs, Sem.run_pure]
          · cases j with
            | zero => exact hR
            | succ j => exact hRs j (by simpa using hj)

theorem snaps_rel (hr : Rel X σ m a w) {ok' : Nat → Prop} (ho : ∀ k, X.ok m k → ok' k) (hs : ∀ s, (m s).live = true → ok' (m s).blk) {n : Nat} {xs : List AC} {ds : List D} {vs : Array Value}
    (h : xs.mapM (snap σ.b n) = some ds) (hl : vs.size = xs.length) (hR : ∀ j (hj : j < xs.length), RelC (X.ok m) w σ.b m (xs[j]) (vs.getD j undef)) : RelD ok' w (.tup ds) (.tuple vs) := by
  obtain ⟨h1, h2⟩ := mapM_get h
  exact .tup ds vs (by omega) fun j hj => snap_rel' hr ho hs n (h2 j (by omega) hj) (hR j (by omega))

theorem resA_sound (hr : Rel X σ m a w) {ok' : Nat → Prop} (ho : ∀ k, X.ok m k → ok' k) (hs : ∀ s, (m s).live = true → ok' (m s).blk) {fn : Func} {rs : List RV} {res : D}
    (hc : chkRVs P fn.results.toList rs = true) (h : resA rs σ = some res) : ∃ v, (results fn a.tmps).run P w = .ok v w ∧ RelD ok' w res v := by
  unfold resA at h
  cases hx : rs.mapM (readRV σ) with
  | none => rw [hx] at h; cases h
  | some xs =>
    rw [hx] at h
    obtain ⟨vs, hrun, hl, hR⟩ := readRVs_sound (P := P) hr _ _ _ hc hx
    have hrun' : (fn.results.mapM (fun | .tmp t => pure (a.tmps.getD t undef) | .cell ad t => do loadVar t (← asAddr (a.tmps.getD ad undef)) : ResultVar → Sem Value)).run P w = .ok vs.toArray w := by
      rw [Array.mapM_eq_mapM_toList]
      simp only [Sem.run_map, hrun]
      rfl
    have hres : (results fn a.tmps).run P w = .ok (if h : vs.toArray.size = 1 then vs.toArray[0] else .tuple vs.toArray) w := by
      unfold results
      rw [Sem.run_bind]
      exact (congrArg (fun r => Result.andThen r _) hrun').trans rfl
    refine ⟨_, hres, ?_⟩
    split at h
    · rename_i x e
      cases e
      match vs, hl, hR with
      | [v], _, hR => exact snap_rel' hr ho hs 4 h (hR 0 (by simp))
    · rename_i ys hne e
      cases e
      simp only [Option.map_eq_some_iff] at h
      obtain ⟨ds, hds, rfl⟩ := h
      have hne' : ¬ vs.toArray.size = 1 := by
        intro e
        simp at e
        rw [e] at hl
        obtain ⟨x, hx1⟩ := List.length_eq_one_iff.1 hl.symm
        exact hne x hx1
      rw [dif_neg hne']
      exact snaps_rel hr ho hs hds (by simpa using hl) (fun j hj => by simpa using hR j hj)
    · cases h

theorem leaves_marks {base n : Nat} {fn : Func} {tmps : Array Value} {R : Ending → World → Prop} : ∀ (Ds : List Nat) (w : World), (∀ D ∈ Ds, base ≤ D ∧ w.heap[D]? = some (.deferred (some []))) → Ds.Nodup →
    (∀ w', Books w w' → (∀ k, k < base → w'.heap[k]? = w.heap[k]?) → ∃ v, (results fn tmps).run P w' = .ok v w' ∧ R (.returned v) w') →
    LeavesInM Fence.wide n P fn tmps R (Ds.map fun D => { target := .collected D, args := #[] }) .returning w
  | [], w, _, _, h => h w (Books.refl w) (fun _ _ => rfl)
  | D :: Ds, w, hD, hn, h => by
    have h0 := hD D (by simp)
    have hn' := List.nodup_cons.1 hn
    refine ⟨by simp, .inl ⟨D, _, rfl, run_takeDeferred h0.2, ?_⟩⟩
    refine leaves_marks Ds _ (fun E hE => ⟨(hD E (by simp [hE])).1, (World.putObj_heap_other (fun (e : E = D) => hn'.1 (by rw [← e]; exact hE))).trans (hD E (by simp [hE])).2⟩) hn'.2 fun w' hB hl => ?_
    exact h w' ((Books.put w _ h0.2 rfl).trans hB) (fun k hk => (hl k hk).trans (World.putObj_heap_other (by have := h0.1; omega)))

/-- **A function's contract out of its body.** -/
theorem pureFn_of {g : FuncId} {fn : Func} {rs : List RV} {code : ACode} {args : List D} {res : D} (hf : P.funcs[g]? = some fn) (hc : chkF P fn rs code = true) (hn : args.length ≤ fn.ntmps)
    (h : awp P noH true [] code (fun e σ => match e with | .normal => resA rs σ = some res | .ret => resA rs σ = some res | _ => False) ⟨iniT args, fun _ => .fresh⟩) : PureFn P g args res := by
  simp only [chkF, Bool.and_eq_true, Bool.not_eq_true'] at hc
  obtain ⟨⟨hc1, hc2⟩, hc3⟩ := hc
  cases hb : fn.body with
  | none => rw [hb] at hc2; cases hc2
  | some c =>
    rw [hb] at hc2
    refine ⟨⟨fn, hf, hc1, by simp [hb]⟩, fun ok w vs hsz hR => ?_⟩
    refine callsIn_wide.1 (callsIn_of_wp_marks (F := Fence.wide) (n := 0) hf hb trivial ?_)
    let X : Ctx := { ok0 := ok, C := fun _ => False, w0 := w, n := fn.ntmps }
    let m0 : Nat → Loc := fun _ => ⟨false, 0, 0⟩
    have hr0 : Rel X ⟨iniT args, fun _ => .fresh⟩ m0 { tmps := vs ++ Array.replicate (fn.ntmps - vs.size) undef, defers := [] } w := by
      refine ⟨⟨⟨[], rfl, List.nodup_nil, fun _ h => by cases h⟩, fun _ => rfl⟩, by simp [X]; omega, fun i => ?_, fun s => rfl, fun s s' h => by simp [m0] at h, fun s h => by simp [m0] at h, Foot.refl _ _, fun _ h => (by cases h), fun _ h => (by cases h), fun _ h => (by cases h)⟩
      refine iniT_rel (f := fun i => (vs ++ Array.replicate (fn.ntmps - vs.size) undef).getD i undef) (fun j hj => ?_) i
      have hj' : j < vs.size := by omega
      show RelD _ _ _ ((vs ++ Array.replicate (fn.ntmps - vs.size) undef).getD j undef)
      rw [getD_append_left hj']
      exact (hR j hj).mono (Nat.le_refl _) (fun _ _ _ _ h => h) (fun k _ hk => ⟨.inl hk, fun s h => by simp [m0] at h⟩)
    have key := awp_sound code 0 c _ _ m0 _ w X none noH true (fun _ => ⟨rfl, rfl, rfl⟩) (noH_oks rfl) (fun _ => rfl) hc2 h hr0
    refine wpIn_mono key ?_
    rintro e a' w' ⟨σ', m', hq, hr'⟩
    have fin : resA rs σ' = some res → LeavesInM Fence.wide 0 P fn a'.tmps (fun e w' => ∃ v, e = .returned v ∧ RelD (fun k => ok k ∨ w.heap.size ≤ k) w' res v ∧ Foot (fun _ => False) w w') a'.defers .returning w' := fun hres => by
      obtain ⟨Ds, hDs, hDn, hDh⟩ := hr'.defers.1
      rw [hDs]
      refine leaves_marks (base := w.heap.size) Ds w' hDh hDn fun w2 hB hl => ?_
      have hr2 : Rel X ⟨σ'.t, σ'.b⟩ m' { tmps := a'.tmps, defers := [] } w2 :=
        hr'.switch rfl rfl rfl hB hl (fun s => .inl rfl) hr'.tmps hr'.size ⟨⟨[], rfl, List.nodup_nil, fun _ h => by cases h⟩, fun _ => rfl⟩ (fun _ h => by cases h) (fun _ h => by cases h) (fun _ h => by cases h)
      obtain ⟨v, hv, hD⟩ := resA_sound (P := P) (ok' := fun k => ok k ∨ w.heap.size ≤ k) hr2 (fun k hk => hk.1) (fun s hl => .inr (hr2.own s hl)) hc3 hres
      exact ⟨v, hv, v, rfl, hD, hr2.foot⟩
    cases e with
    | normal => exact fin hq
    | ret => exact fin hq
    | _ => exact hq.elim

/-- What a function returns that turns slots. -/
def resC (rs : List RV) (σ : St) : Option AC :=
  match rs.mapM (readRV σ) with
  | some [x] => some x
  | some xs => some (.tup xs)
  | none => none

theorem resC_sound (hr : Rel X σ m a w) {fn : Func} {rs : List RV} {res : AC} (hc : chkRVs P fn.results.toList rs = true) (h : resC rs σ = some res) : ∃ v, (results fn a.tmps).run P w = .ok v w ∧ RelC (X.ok m) w σ.b m res v := by
  unfold resC at h
  cases hx : rs.mapM (readRV σ) with
  | none => rw [hx] at h; cases h
  | some xs =>
    rw [hx] at h
    obtain ⟨vs, hrun, hl, hR⟩ := readRVs_sound (P := P) hr _ _ _ hc hx
    have hrun' : (fn.results.mapM (fun | .tmp t => pure (a.tmps.getD t undef) | .cell ad t => do loadVar t (← asAddr (a.tmps.getD ad undef)) : ResultVar → Sem Value)).run P w = .ok vs.toArray w := by
      rw [Array.mapM_eq_mapM_toList]
      simp only [Sem.run_map, hrun]
      rfl
    have hres : (results fn a.tmps).run P w = .ok (if h : vs.toArray.size = 1 then vs.toArray[0] else .tuple vs.toArray) w := by
      unfold results
      rw [Sem.run_bind]
      exact (congrArg (fun r => Result.andThen r _) hrun').trans rfl
    refine ⟨_, hres, ?_⟩
    split at h
    · rename_i x e
      cases e; cases h
      match vs, hl, hR with
      | [v], _, hR => exact hR 0 (by simp)
    · rename_i ys hne e
      cases e; cases h
      have hne' : ¬ vs.toArray.size = 1 := by
        intro e
        simp at e
        rw [e] at hl
        obtain ⟨x, hx1⟩ := List.length_eq_one_iff.1 hl.symm
        exact hne x hx1
      rw [dif_neg hne']
      exact .tup _ _ (by simpa using hl) (fun j hj => by simpa using hR j hj)
    · cases h

theorem Wid.trans {X Y Z : Ctx} (h : Wid X Y) (k : Wid Y Z) : Wid X Z :=
  ⟨k.ok0.trans h.ok0, k.C.trans h.C, k.w0.trans h.w0, k.lp.trans h.lp, fun q hq => k.gs q (h.gs q hq), fun q hq => k.fx q (h.fx q hq), by
    rw [List.all_eq_true]
    intro s hs
    have h1 := List.all_eq_true.1 h.pr s hs
    exact List.all_eq_true.1 k.pr s (by simpa using h1), k.nm, fun i hi q hq => k.sep i (h.lp.trans hi) q hq⟩

/-- At the end of a function that turns slots. -/
def endI (rs : List RV) (ls : List Nat) (K : AC → (Nat → ABlk) → Prop) (σ : St) : Prop := ∃ y, resC rs σ = some y ∧ K (scrC ls y) (σ.forget [] ls).b

/-- **What a call does that turns slots, out of its body.** -/
theorem impFn_of {g : FuncId} {fn : Func} {rs : List RV} {code : ACode} {args : List AC} {H : Hand} {ls : List Nat} {b : Nat → ABlk} {K : AC → (Nat → ABlk) → Prop} (hf : P.funcs[g]? = some fn) (hc : chkF P fn rs code = true) (hn : args.length ≤ fn.ntmps)
    (h : awp P H false ls code (fun e σ => match e with | .normal => endI rs ls K σ | .ret => endI rs ls K σ | _ => False) ⟨iniC args, b⟩) : ImpFn P H ls g args b K := by
  simp only [chkF, Bool.and_eq_true, Bool.not_eq_true'] at hc
  obtain ⟨⟨hc1, hc2⟩, hc3⟩ := hc
  cases hb : fn.body with
  | none => rw [hb] at hc2; cases hc2
  | some c =>
    rw [hb] at hc2
    refine ⟨⟨fn, hf, hc1, by simp [hb]⟩, fun X t lt m a w vs hH hr hpr hlt hsz hR => ?_⟩
    refine callsIn_wide.1 (callsIn_of_wp_marks (F := Fence.wide) (n := 0) hf hb trivial ?_)
    obtain ⟨Ds, hDs, hDn, hDh⟩ := hr.defers.1
    let Y : Ctx := { ok0 := X.ok0, C := X.C, w0 := X.w0, n := fn.ntmps, gs := (lt.map fun i => (t i, a.tmps.getD i undef)) ++ X.gs, fx := (Ds.map fun D => (D, .deferred (some []))) ++ X.fx, lp := X.lp, pr := ls, nm := true }
    have hsep : ∀ i, X.lp = some i → ∀ q ∈ Y.fx, q.1 ≠ i.l := fun i hi q hq => by
      rcases List.mem_append.1 hq with hq | hq
      · obtain ⟨D, hD, rfl⟩ := List.mem_map.1 hq
        intro e
        have h1 := (hDh D hD).2
        have h2 := (hr.loop i hi).1
        have e : D = i.l := e
        rw [e, h2] at h1
        cases hb2 : b i.p <;> simp [LoopI.obj, hb2] at h1
      · exact hH.sep i hi q hq
    have hwid : Wid X Y := ⟨rfl, rfl, rfl, rfl, fun q hq => List.mem_append_right _ hq, fun q hq => List.mem_append_right _ hq, hpr, rfl, hsep⟩
    have hHY : HandsOK P Y H := ⟨hsep, hH.wid Y hwid, fun Z hZ => hH.wid Z (hwid.trans hZ)⟩
    have hr0 : Rel Y ⟨iniC args, b⟩ m { tmps := vs ++ Array.replicate (fn.ntmps - vs.size) undef, defers := [] } w := by
      refine hr.switch rfl rfl rfl (Books.refl _) (fun _ _ => rfl) (fun s => .inl rfl) (fun i => ?_) (by simp [Y]; omega) ⟨⟨[], rfl, List.nodup_nil, fun _ h => by cases h⟩, fun _ => rfl⟩ (fun q hq => ?_) (fun q hq => ?_) (fun i hi => ?_)
      · refine iniC_rel (f := fun i => (vs ++ Array.replicate (fn.ntmps - vs.size) undef).getD i undef) (fun j hj => ?_) i
        have hj' : j < vs.size := by omega
        show RelC _ _ _ _ _ ((vs ++ Array.replicate (fn.ntmps - vs.size) undef).getD j undef)
        rw [getD_append_left hj']
        exact hR j hj
      · rcases List.mem_append.1 hq with hq | hq
        · obtain ⟨i, hi, rfl⟩ := List.mem_map.1 hq
          have := hr.tmps i
          simp only [keepT_eq, hi, if_true] at this
          exact ⟨this, hlt i hi⟩
        · exact ⟨(hr.ghosts q hq).1, onlyC_mono hpr _ (hr.ghosts q hq).2⟩
      · rcases List.mem_append.1 hq with hq | hq
        · obtain ⟨D, hD, rfl⟩ := List.mem_map.1 hq
          exact ⟨(hDh D hD).2, rfl⟩
        · exact hr.fixed q hq
      · have := hr.loop i hi
        exact ⟨this.1, by have := List.all_eq_true.1 hpr i.p this.2; simpa using this⟩
    have key := awp_sound code 0 c _ _ m _ w Y none H false (fun h => by cases h) hHY (fun h => by obtain ⟨l, h⟩ := h; cases h) hc2 h hr0
    refine wpIn_mono key ?_
    rintro e a' w' ⟨σ', m', hq, hr'⟩
    have hde := hr'.defers.2 rfl
    have fin : endI rs ls K σ' → LeavesInM Fence.wide 0 P fn a'.tmps (fun e w' => ∃ v y b' m', e = .returned v ∧ K y b' ∧ Rel X ⟨Go.AM.keepT t lt, b'⟩ m' a w' ∧ RelC (X.ok m') w' b' m' y v) a'.defers .returning w' := fun ⟨y, hy, hK⟩ => by
      rw [hde]
      obtain ⟨v, hv, hyv⟩ := resC_sound (P := P) hr' hc3 hy
      obtain ⟨m2, hr2, hC⟩ := hr'.forget' [] ls (by show ls.all ls.contains = true; simp)
      refine ⟨v, hv, v, _, _, m2, rfl, hK, ?_, hC hyv⟩
      refine hr2.switch (X' := X) rfl rfl rfl (Books.refl _) (fun _ _ => rfl) (fun s => .inl rfl) (fun i => ?_) hr.size ⟨⟨Ds, hDs, hDn, fun D hD => ⟨(hDh D hD).1, ?_⟩⟩, hr.defers.2⟩ (fun q hq => ?_) (fun q hq => ?_) (fun i hi => ?_)
      · exact keepT_rel (f := fun i => a.tmps.getD i undef) (fun i hi => (hr2.ghosts (t i, a.tmps.getD i undef) (List.mem_append_left _ (List.mem_map.2 ⟨i, hi, rfl⟩))).1) i
      · exact (hr2.fixed (D, .deferred (some [])) (List.mem_append_left _ (List.mem_map.2 ⟨D, hD, rfl⟩))).1
      · exact ⟨(hr2.ghosts q (List.mem_append_right _ hq)).1, (hr.ghosts q hq).2⟩
      · exact hr2.fixed q (List.mem_append_right _ hq)
      · exact ⟨(hr2.loop i hi).1, (hr.loop i hi).2⟩
    cases e with
    | normal => exact fin hq
    | ret => exact fin hq
    | _ => exact hq.elim

/-- A row of what leads to no memory, as pure data in new memory. -/
def newD (σ : St) : AC → Option D
  | .row s off len tot => match σ.b s with
    | .row _ els => if tot = els.length ∧ off + len ≤ els.length ∧ els.all (fun e => e.all flatD) = true then some (.list ((els.drop off).take len)) else none
    | _ => none
  | .d (.v (.slice none 0 0)) => some (.list [])
  | .d x => if flatD x then some x else none
  | _ => none

theorem newD_rel (hr : Rel X σ m a w) {x : AC} {y : D} {v : Value} (h : newD σ x = some y) (hR : RelC (X.ok m) w σ.b m x v) : RelD (fun k => X.w0.heap.size ≤ k) w y v := by
  unfold newD at h
  split at h
  · rename_i s off len tot
    split at h <;> try (cases h; done)
    rename_i esz els hb
    split at h <;> try (cases h; done)
    rename_i hc
    cases h
    rcases row_val hR hb hc.1 with ⟨hl, hle, rfl⟩ | ⟨hnl, rfl, rfl, rfl, rfl⟩
    · rcases slot_row hr hb with ⟨hnl, _⟩ | ⟨_, c, e, hh, hz, hcap, hel, hone, hcs⟩
      · rw [hl] at hnl; cases hnl
      have hlen : ((els.drop off).take len).length = len := by simp; omega
      have := RelD.list (ok := fun k => X.w0.heap.size ≤ k) (w := w) ((els.drop off).take len) (m s).blk (off * esz) ((m s).cap - off) esz (fun i j => c.getD ((off + i) * esz + j) undef) (hr.own s hl) (hr.blkLt hl) (by omega)
        (fun i hi => by simpa using hel (off + i) (by omega))
        (fun i j hi hj => by
          rw [hlen] at hi
          rw [← Nat.add_assoc, ← Nat.add_mul]
          exact cell_of hh (by rw [hz]; exact pos_lt (by omega) hj))
        (fun i j hi hj => hone _ (pos_lt (by omega) hj))
        (fun i j hi hj => by
          have hi' : off + i < els.length := by omega
          have hj' : j < (els[off + i]).length := by simpa using hj
          have h1 := hcs (off + i) j hi' hj'
          have h2 := List.all_eq_true.1 (List.all_eq_true.1 hc.2.2 _ (List.getElem_mem hi')) _ (List.getElem_mem hj')
          simpa using flat_rel (ok' := fun k => X.w0.heap.size ≤ k) (w' := w) h2 h1)
      rwa [hlen] at this
    · simp; exact .empty _ _
  · cases h
    rw [relC_v hR]; exact .empty _ _
  · rename_i x' _
    split at h <;> cases h
    rename_i hf
    exact flat_rel hf (relC_d hR)
  · cases h

/-- **A function's contract out of its body, its result in new memory.** -/
theorem fnNew_of {g : FuncId} {fn : Func} {n : Nat} {code : ACode} {args : List D} {res : D} (hf : P.funcs[g]? = some fn) (hc : chkF P fn [.t n] code = true) (hn : args.length ≤ fn.ntmps)
    (h : awp P noH true [] code (fun e σ => match e with | .normal => newD σ (σ.t n) = some res | .ret => newD σ (σ.t n) = some res | _ => False) ⟨iniT args, fun _ => .fresh⟩) : FnNew P g args res := by
  simp only [chkF, Bool.and_eq_true, Bool.not_eq_true'] at hc
  obtain ⟨⟨hc1, hc2⟩, hc3⟩ := hc
  cases hb : fn.body with
  | none => rw [hb] at hc2; cases hc2
  | some c =>
    rw [hb] at hc2
    refine ⟨⟨fn, hf, hc1, by simp [hb]⟩, fun w vs hsz hR => ?_⟩
    refine callsIn_wide.1 (callsIn_of_wp_marks (F := Fence.wide) (n := 0) hf hb trivial ?_)
    let X : Ctx := { ok0 := fun _ => True, C := fun _ => False, w0 := w, n := fn.ntmps }
    let m0 : Nat → Loc := fun _ => ⟨false, 0, 0⟩
    have hr0 : Rel X ⟨iniT args, fun _ => .fresh⟩ m0 { tmps := vs ++ Array.replicate (fn.ntmps - vs.size) undef, defers := [] } w := by
      refine ⟨⟨⟨[], rfl, List.nodup_nil, fun _ h => by cases h⟩, fun _ => rfl⟩, by simp [X]; omega, fun i => ?_, fun s => rfl, fun s s' h => by simp [m0] at h, fun s h => by simp [m0] at h, Foot.refl _ _, fun _ h => (by cases h), fun _ h => (by cases h), fun _ h => (by cases h)⟩
      refine iniT_rel (f := fun i => (vs ++ Array.replicate (fn.ntmps - vs.size) undef).getD i undef) (fun j hj => ?_) i
      have hj' : j < vs.size := by omega
      show RelD _ _ _ ((vs ++ Array.replicate (fn.ntmps - vs.size) undef).getD j undef)
      rw [getD_append_left hj']
      exact (hR j hj).mono (Nat.le_refl _) (fun _ _ _ _ h => h) (fun k _ hk => ⟨.inl trivial, fun s h => by simp [m0] at h⟩)
    have key := awp_sound code 0 c _ _ m0 _ w X none noH true (fun _ => ⟨rfl, rfl, rfl⟩) (noH_oks rfl) (fun _ => rfl) hc2 h hr0
    refine wpIn_mono key ?_
    rintro e a' w' ⟨σ', m', hq, hr'⟩
    have fin : newD σ' (σ'.t n) = some res → LeavesInM Fence.wide 0 P fn a'.tmps (fun e w' => ∃ v, e = .returned v ∧ RelD (fun k => w.heap.size ≤ k) w' res v ∧ Foot (fun _ => False) w w') a'.defers .returning w' := fun hres => by
      obtain ⟨Ds, hDs, hDn, hDh⟩ := hr'.defers.1
      rw [hDs]
      refine leaves_marks (base := w.heap.size) Ds w' hDh hDn fun w2 hB hl => ?_
      have hr2 : Rel X ⟨σ'.t, σ'.b⟩ m' { tmps := a'.tmps, defers := [] } w2 :=
        hr'.switch rfl rfl rfl hB hl (fun s => .inl rfl) hr'.tmps hr'.size ⟨⟨[], rfl, List.nodup_nil, fun _ h => by cases h⟩, fun _ => rfl⟩ (fun _ h => by cases h) (fun _ h => by cases h) (fun _ h => by cases h)
      obtain ⟨v, hv, hyv⟩ := resC_sound (P := P) (rs := [.t n]) (res := σ'.t n) hr2 hc3 rfl
      exact ⟨v, hv, v, rfl, newD_rel (σ := ⟨σ'.t, σ'.b⟩) hr2 hres hyv, hr2.foot⟩
    cases e with
    | normal => exact fin hq
    | ret => exact fin hq
    | _ => exact hq.elim
end
end Go.AM
