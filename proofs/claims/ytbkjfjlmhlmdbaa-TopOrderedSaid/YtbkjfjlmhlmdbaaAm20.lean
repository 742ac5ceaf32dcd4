/- The abstract machine: functions that panic, and functions that defer a closure that recovers. No condition. -/
import Derived.Test.YtbkjfjlmhlmdbaaAm19
set_option linter.unusedVariables false
set_option linter.unusedSimpArgs false
namespace Go.AM
open Go
section
variable {P : Program} {X : Ctx} {σ : St} {m : Nat → Loc} {a : Act} {w : World}

theorem start_rel {ok : Nat → Prop} {args : List D} {vs : Array Value} {n : Nat} (hn : args.length ≤ n) (hsz : vs.size = args.length) (hR : ∀ j (hj : j < args.length), RelD ok w (args[j]) (vs.getD j undef)) :
    Rel { ok0 := ok, C := fun _ => False, w0 := w, n := n } ⟨iniT args, fun _ => .fresh⟩ (fun _ => ⟨false, 0, 0⟩) { tmps := vs ++ Array.replicate (n - vs.size) undef, defers := [] } w := by
  refine ⟨⟨⟨[], rfl, List.nodup_nil, fun _ h => by cases h⟩, fun _ => rfl⟩, by simp; omega, fun i => ?_, fun s => rfl, fun s s' h => by simp at h, fun s h => by simp at h, Foot.refl _ _, fun _ h => (by cases h), fun _ h => (by cases h), fun _ h => (by cases h)⟩
  refine iniT_rel (f := fun i => (vs ++ Array.replicate (n - vs.size) undef).getD i undef) (fun j hj => ?_) i
  have hj' : j < vs.size := by omega
  show RelD _ _ _ ((vs ++ Array.replicate (n - vs.size) undef).getD j undef)
  rw [getD_append_left hj']
  exact (hR j hj).mono (Nat.le_refl _) (fun _ _ _ _ h => h) (fun k _ hk => ⟨.inl hk, fun s h => by simp at h⟩)

/-- **The contract of a function that panics, out of its body.** -/
theorem panFn_of {g : FuncId} {fn : Func} {rs : List RV} {code : ACode} {args : List D} {v : Value} (hf : P.funcs[g]? = some fn) (hc : chkF P fn rs code = true) (hn : args.length ≤ fn.ntmps)
    (h : awp P noH true [] code (fun e σ => match e with | .panic ch => ch = [{ v := v, recovered := false }] | _ => False) ⟨iniT args, fun _ => .fresh⟩) : PanFn P g args v := by
  simp only [chkF, Bool.and_eq_true, Bool.not_eq_true'] at hc
  obtain ⟨⟨hc1, hc2⟩, hc3⟩ := hc
  cases hb : fn.body with
  | none => rw [hb] at hc2; cases hc2
  | some c =>
    rw [hb] at hc2
    refine ⟨⟨fn, hf, hc1, by simp [hb]⟩, fun ok w vs hsz hR => ?_⟩
    refine callsIn_wide.1 (show CallsIn (wf none) 0 P g vs w _ from callsIn_of_wpV hf hb ?_)
    let X : Ctx := { ok0 := ok, C := fun _ => False, w0 := w, n := fn.ntmps }
    have hr0 : Rel X ⟨iniT args, fun _ => .fresh⟩ _ _ w := start_rel hn hsz hR
    have key := awp_sound code 0 c _ _ _ _ w X none noH true (fun _ => ⟨rfl, rfl, rfl⟩) (noH_oks rfl) (fun _ => rfl) hc2 h hr0
    refine wpV_mono key ?_
    rintro e a' w' ⟨σ', m', hq, hr'⟩
    cases e <;> try (exact hq.elim)
    rename_i ch
    have hq : ch = [{ v := v, recovered := false }] := hq
    subst hq
    have hr' : Rel { X with lp := none } σ' m' a' w' := hr'
    show LeavesInM _ _ _ _ _ _ a'.defers _ _
    obtain ⟨Ds, hDs, hDn, hDh⟩ := hr'.defers.1
    rw [hDs]
    refine leaves_marks' (base := w.heap.size) (by simp) Ds w' hDh hDn fun w2 hB hl => ?_
    refine ⟨rfl, ?_⟩
    have := hr'.foot
    exact ⟨hB.os.trans this.os, hB.tape.trans this.tape, hB.output.trans this.output, Nat.le_trans this.size hB.size, fun k hk hC => (hl k hk).trans (this.block k hk hC)⟩

theorem panFn_by {g : FuncId} {fn : Func} {rs : List RV} {code : ACode} {args : List D} {v : Value} (hf : P.funcs[g]? = some fn) (hc : chkF P fn rs code = true) (hp : plainC code = true) (hn : Nat.ble args.length fn.ntmps = true)
    (h : bwp P noH true [] code (fun e t b => match e with | .panic ch => ch = [{ v := v, recovered := false }] | _ => False) (iniT args) (fun _ => .fresh)) : PanFn P g args v :=
  panFn_of hf hc (Nat.le_of_ble_eq_true hn) (bwp_awp (σ := ⟨iniT args, fun _ => .fresh⟩) noH_le hp (fun e σ' h => h) h)

/-- A closure that hands what it recovers to a function, with the pointer that it has caught. -/
def chkClo (P : Program) (gD gC : FuncId) : Bool :=
  match P.funcs[gD]? with
  | some fn => !(fn.name == "runtime.NumGoroutine") && fn.results.isEmpty && fn.ntmps == 3 && (match fn.body with
    | some (.region _ ops false) => (match ops.toList with
      | [oa, ob] => oa.dst == some 1 && oa.guard.isNone && ob.dst == some 2 && ob.guard.isNone &&
          (match oa.op with | .call c => (match c.callee, c.args.toList with | .builtin .recover, [] => true | _, _ => false) | _ => false) &&
          (match ob.op with | .call c => (match c.callee, c.args.toList with | .value (.func g), [.tmp 1, .tmp 0] => g == gC | _, _ => false) | _ => false)
      | _ => false)
    | _ => false)
  | none => false

theorem callsDIn_of_wpS {f : FuncId} {fn : Func} {c : Code} {args : Array Value} {u : FrameMode} {R : Ending → FrameMode → World → Prop}
    (hf : P.funcs[f]? = some fn) (hb : fn.body = some c)
    (h : ∀ (c₀ : Frame) (cs : List Frame), c₀.mode = u →
      c.wpS P (bodyPostS P fn c₀ cs R) { tmps := args ++ Array.replicate (fn.ntmps - args.size) undef, defers := [] } (c₀ :: cs) w) :
    CallsDIn (wf none) 0 P f args u w R := by
  refine ⟨trivial, fun c₀ cs hu _ => ?_⟩
  let b : Frame := { (default : Frame) with fn := f, kind := .deferred }
  have henter : Frame.enter P f args .deferred =
      b.at { tmps := args ++ Array.replicate (fn.ntmps - args.size) undef, defers := [] } [.code c] := by
    simp [Frame.enter, Frame.at, hf, hb, b]
  obtain ⟨e, a', cs', w', hq, harr⟩ := h c₀ cs hu b [] rfl rfl
  rw [← henter] at harr
  cases e with
  | normal =>
    obtain ⟨hd, u', rfl, v, hr, hR⟩ := hq
    exact ⟨.returned v, u', w', _, hR, comesIn_wide.2 (Steps.trans harr (.one step_end)), rfl, rfl, rfl, hd, fn, hf, hr⟩
  | ret =>
    obtain ⟨hd, u', rfl, v, hr, hR⟩ := hq
    obtain ⟨todo, hs⟩ := harr
    exact ⟨.returned v, u', w', _, hR, comesIn_wide.2 hs, rfl, rfl, rfl, hd, fn, hf, hr⟩
  | panic chain =>
    obtain ⟨hd, u', rfl, hR⟩ := hq
    obtain ⟨todo, hs⟩ := harr
    exact ⟨.panicked chain, u', w', _, hR, comesIn_wide.2 hs, rfl, rfl, rfl, hd, fn, hf⟩
  | exit id => exact hq.elim
  | goto l => exact hq.elim
  | outgrown =>
    obtain ⟨u', hR⟩ := hq
    exact ⟨.outgrown, u', w', b, hR, harr.resolve_left (by simp [b]), rfl, rfl, trivial⟩

theorem clo_sound {gD gC : FuncId} {ls lt : List Nat} {se : Nat} {t : Nat → AC} {b : Nat → ABlk} {pay pv : Value} {K : AC → (Nat → ABlk) → Prop} {u u' : FrameMode} (hcl : chkClo P gD gC = true)
    (hI : ImpFn P noH ls gC [.d (.v pay), .ptr se 0] b K) (hr : Rel X ⟨keepT t lt, b⟩ m a w) (hlp : X.lp = none) (hpr : X.pr.all ls.contains = true) (hlt : ∀ i ∈ lt, onlyC ls (t i) = true) (hp : RelC (X.ok m) w b m (.ptr se 0) pv)
    (hu : ∀ c cs, c.mode = u → (∃ cs', recoverD (c :: cs) = some (pay, cs') ∧ cs' = { c with mode := u' } :: cs) ∨ (recoverD (c :: cs) = none ∧ pay = .nilIface ∧ u' = u)) :
    CallsDIn (wf none) 0 P gD #[pv] u w fun e u2 w' => ∃ v y b' m', e = .returned v ∧ u2 = u' ∧ K y b' ∧ Rel X ⟨keepT t lt, b'⟩ m' a w' := by
  unfold chkClo at hcl
  split at hcl <;> try (cases hcl; done)
  rename_i fn hfn
  simp only [Bool.and_eq_true] at hcl
  obtain ⟨⟨⟨hname, hres⟩, hn3⟩, hcl⟩ := hcl
  split at hcl <;> try (cases hcl; done)
  rename_i id ops hb
  split at hcl <;> try (cases hcl; done)
  rename_i oa ob hops
  simp only [Bool.and_eq_true] at hcl
  obtain ⟨⟨⟨⟨⟨h1, h2⟩, h3⟩, h4⟩, h5⟩, h6⟩ := hcl
  split at h5 <;> try (cases h5; done)
  rename_i ca hoa
  split at h5 <;> try (cases h5; done)
  rename_i hca1 hca2
  split at h6 <;> try (cases h6; done)
  rename_i cb hob
  split at h6 <;> try (cases h6; done)
  rename_i g hcb1 hcb2
  have hg : g = gC := by simpa using h6
  subst hg
  have hn : fn.ntmps = 3 := by simpa using hn3
  have hops' : ops = #[oa, ob] := by apply Array.ext'; simpa using hops
  subst hops'
  refine callsDIn_of_wpS hfn hb ?_
  intro c₀ cs hmode
  refine wpS_region ?_
  have hsz : fn.ntmps - (#[pv] : Array Value).size = 2 := by simp [hn]
  have ea : ∀ ρ : Operand → Value, ∀ w, (execOp ρ oa).run P w = .ok .recover w := fun ρ w => by
    have : ca.args = #[] := by apply Array.ext'; simpa using hca2
    simp [execOp, hoa, resolve, hca1, this, Deferred.ofValue, invoke, go_sem]
  have eb : ∀ (q : Value) w, (execOp (Act.eval { tmps := #[pv, q, undef], defers := [] }) ob).run P w = .ok (.enter g #[q, pv]) w := fun q w => by
    have : cb.args = #[.tmp 1, .tmp 0] := by apply Array.ext'; simpa using hcb2
    simp [execOp, hob, resolve, hcb1, this, Deferred.ofValue, invoke, Act.eval, run_callFunc hI.1]
  have wa : ∀ tm, Region.wanted oa (yielded #[oa, ob] tm) = true := fun tm => by
    have : oa.guard = none := by simpa using h2
    simp [Region.wanted, this]
  have wb : ∀ tm, Region.wanted ob (yielded #[oa, ob] tm) = true := fun tm => by
    have : ob.guard = none := by simpa using h4
    simp [Region.wanted, this]
  have da : oa.dst = some 1 := by simpa using h1
  have db : ob.dst = some 2 := by simpa using h3
  have hres' : fn.results = #[] := by simpa using hres
  -- the call
  have call : ∀ cs', cs' = { c₀ with mode := u' } :: cs → wpOpsS P #[oa, ob] (bodyPostS P fn c₀ cs fun e u2 w' => ∃ v y b' m', e = .returned v ∧ u2 = u' ∧ K y b' ∧ Rel X ⟨Go.AM.keepT t lt, b'⟩ m' a w') [1]
      { tmps := #[pv, pay, undef], defers := [] } cs' w := fun cs' hcs' => by
    have h1 : (#[oa, ob] : Array Oper)[1]? = some ob := rfl
    simp only [wpOpsS, h1]
    rw [if_pos (wb _), eb]
    simp only
    rw [Oper.upon_enter]
    have hcalls := hI.2 X t lt m a w #[pay, pv] (noH_oks hlp) hr hpr hlt rfl (fun j hj => by
      cases j with
      | zero => exact .d (.v _)
      | succ j =>
        cases j with
        | zero => exact hp
        | succ j => simp at hj; omega)
    refine hcalls.mono ?_
    rintro e w' ⟨v, y, b', m', rfl, hK, hr', hy⟩
    have hres2 : ∀ tm, (results fn tm).run P w' = .ok (.tuple #[]) w' := fun tm => by simp [results, hres']
    show bodyPostS P fn c₀ cs _ Exit.normal _ cs' w'
    exact ⟨by rw [db]; rfl, u', hcs', .tuple #[], hres2 _, .tuple #[], y, b', m', rfl, rfl, hK, hr'⟩
  have h0 : (#[oa, ob] : Array Oper)[0]? = some oa := rfl
  have hrange : List.range (#[oa, ob] : Array Oper).size = [0, 1] := rfl
  have hact : (#[pv] : Array Value) ++ Array.replicate (fn.ntmps - (#[pv] : Array Value).size) undef = #[pv, undef, undef] := by rw [hsz]; rfl
  rw [hrange, hact]
  have put : ∀ q : Value, ({ tmps := #[pv, undef, undef], defers := [] } : Act).put oa.dst q = { tmps := #[pv, q, undef], defers := [] } := fun q => by rw [da]; rfl
  unfold wpOpsS
  simp only [h0]
  rw [if_pos (wa _), ea]
  rcases hu c₀ cs hmode with ⟨cs', e1, e2⟩ | ⟨e1, e2, e3⟩
  · simp only [e1]
    rw [put]
    exact call cs' e2
  · simp only [e1]
    rw [put]
    subst e2
    refine call _ ?_
    rw [e3, ← hmode]

/-- The code of a function that defers such a closure. -/
def chkD (P : Program) (fn : Func) (rs : List RV) (ac0 : ACode) (ao : AOper) (acr : ACode) (k : Nat) : Bool :=
  !(fn.name == "runtime.NumGoroutine") && chkRVs P fn.results.toList rs && (match fn.body with
    | some (.seq r0 (.seq (.region _ ops false) rest)) => chkC P fn.ntmps r0 ac0 && chkC P fn.ntmps rest acr && (match ops.toList with
      | [o1, o2] => chkOper P fn.ntmps ops o1 ao && o2.dst.isNone && o2.guard.isNone && (match o2.op with
        | .defer c => (match c.callee, c.args.toList with | .value (.tmp k'), [] => k' == k | _, _ => false)
        | _ => false)
      | _ => false)
    | _ => false)

/-- At the end of such a function: what the deferred closure does, and what is returned. -/
def defQ (P : Program) (gC : FuncId) (se : Nat) (rs : List RV) (res : D) (e : Exit) (σ : St) : Prop :=
  ∃ pay, (match e with | .normal => pay = .nilIface | .ret => pay = .nilIface | .panic ch => ch = [{ v := pay, recovered := false }] | _ => False) ∧
    ∃ lt ls R, ls.contains se = true ∧ ImpFn P noH ls gC [.d (.v pay), .ptr se 0] (σ.forget lt ls).b R ∧ ∀ y b', R y b' → resA rs ⟨(σ.forget lt ls).t, b'⟩ = some res

/-- **The contract of a function that defers a closure that recovers, out of its body.** -/
theorem defFn_of {g gD gC : FuncId} {fn : Func} {rs : List RV} {ac0 acr : ACode} {ao : AOper} {k : Nat} {args : List D} {res : D} (hf : P.funcs[g]? = some fn) (hc : chkD P fn rs ac0 ao acr k = true) (hcl : chkClo P gD gC = true)
    (hn : args.length ≤ fn.ntmps)
    (h : awp P noH false [] ac0 (thenE fun σ1 => operH P noH [] ao σ1 fun σ2 => ∃ se, capsOf (σ2.t k) = some (gD, [.ptr se 0]) ∧ awp P noH true [se] acr (defQ P gC se rs res) σ2) ⟨iniT args, fun _ => .fresh⟩) : PureFn P g args res := by
  unfold chkD at hc
  simp only [Bool.and_eq_true, Bool.not_eq_true'] at hc
  obtain ⟨⟨hname, hrs⟩, hc⟩ := hc
  split at hc <;> try (cases hc; done)
  rename_i r0 id ops rest hb
  simp only [Bool.and_eq_true] at hc
  obtain ⟨⟨hc0, hcr⟩, hc⟩ := hc
  split at hc <;> try (cases hc; done)
  rename_i o1 o2 hops
  simp only [Bool.and_eq_true] at hc
  obtain ⟨⟨⟨ho1, hd2⟩, hg2⟩, hc⟩ := hc
  split at hc <;> try (cases hc; done)
  rename_i cl hcl2
  split at hc <;> try (cases hc; done)
  rename_i k' hk1 hk2
  have hk : k' = k := by simpa using hc
  subst hk
  have hops' : ops = #[o1, o2] := by apply Array.ext'; simpa using hops
  subst hops'
  have hargs2 : cl.args = #[] := by apply Array.ext'; simpa using hk2
  have hdst2 : o2.dst = none := by simpa using hd2
  refine ⟨⟨fn, hf, hname, by simp [hb]⟩, fun ok w vs hsz hR => ?_⟩
  refine callsIn_wide.1 (show CallsIn (wf none) 0 P g vs w _ from callsIn_of_wpV hf hb ?_)
  let X : Ctx := { ok0 := ok, C := fun _ => False, w0 := w, n := fn.ntmps, nm := true }
  have hs0 := start_rel (w := w) hn hsz hR
  have hr0 : Rel X ⟨iniT args, fun _ => .fresh⟩ _ _ w := ⟨⟨hs0.defers.1, fun _ => rfl⟩, hs0.size, hs0.tmps, hs0.slots, hs0.inj, hs0.own, hs0.foot, hs0.ghosts, hs0.fixed, hs0.loop⟩
  refine wpV_seq (wpV_mono (awp_sound ac0 0 r0 _ _ _ _ w X none noH false (fun h => by cases h) (noH_oks rfl) (fun _ => rfl) hc0 h hr0) ?_)
  rintro e a1 w1 ⟨σ1, m1, hq1, hr1⟩
  cases e <;> try (exact hq1.elim)
  have hr1 : Rel X σ1 m1 a1 w1 := hr1
  have hq1 : operH P noH [] ao σ1 fun σ2 => ∃ se, capsOf (σ2.t k') = some (gD, [.ptr se 0]) ∧ awp P noH true [se] acr (defQ P gC se rs res) σ2 := hq1
  show wpV none 0 P _ _ a1 w1
  refine wpV_seq (wpV_of (wpIn_region ?_))
  have hrange : List.range (#[o1, o2] : Array Oper).size = [0, 1] := rfl
  rw [hrange, wpOpsIn_cons]
  refine operH_sound (X := X) (noH_oks rfl) (fun _ => rfl) rfl ho1 hq1 hr1 ?_
  rintro σ2 m2 a2 w2 ⟨se, hcaps, hq2⟩ hr2
  rw [wpOpsIn_cons]
  unfold wpOpIn
  have h1 : (#[o1, o2] : Array Oper)[1]? = some o2 := rfl
  simp only [h1]
  have hw2 : Region.wanted o2 (yielded #[o1, o2] a2.tmps) = true := by
    have : o2.guard = none := by simpa using hg2
    simp [Region.wanted, this]
  rw [if_pos hw2]
  obtain ⟨vc, hv, hvc, hcapsR⟩ := capsOf_sound (hr2.tmps k') hcaps
  have hvc1 : vc.size = 1 := hvc
  obtain ⟨pv, rfl⟩ : ∃ pv, vc = #[pv] := by
    refine ⟨vc[0], ?_⟩
    apply Array.ext
    · simp [hvc1]
    · intro i h1 h2
      have : i = 0 := by omega
      subst this; rfl
  have hpv : RelC (X.ok m2) w2 σ2.b m2 (.ptr se 0) pv := hcapsR 0 (by simp)
  have hev : a2.eval (.tmp k') = .func (.func gD) #[] #[pv] := hv
  have hrun : (o2.semAt (wf none).round a2.eval).run P w2 = .ok (.defer { target := .fn (.func gD) #[pv], args := #[] }) w2 := by
    show (execOp a2.eval o2).run P w2 = _
    simp [execOp, hcl2, resolve, hk1, hargs2, hev, Deferred.ofValue]
  refine ⟨fun f _ => trivial, ?_⟩
  rw [hrun, Oper.uponIn_defer]
  have hen : Enters P gD := by
    unfold chkClo at hcl
    split at hcl <;> try (cases hcl; done)
    rename_i fnD hfnD
    simp only [Bool.and_eq_true, Bool.not_eq_true'] at hcl
    refine ⟨fnD, hfnD, hcl.1.1.1, ?_⟩
    have h2 := hcl.2
    split at h2 <;> try (cases h2; done)
    rename_i hbD
    simp [hbD]
  -- the rest of the body
  let d : Deferred := { target := .fn (.func gD) #[pv], args := #[] }
  let X2 : Ctx := { ok0 := ok, C := fun _ => False, w0 := w, n := fn.ntmps, gs := [(.ptr se 0, pv)], pr := [se], df := [d] }
  have hput : ({ a2 with defers := d :: a2.defers } : Act).put o2.dst undef = { a2 with defers := d :: a2.defers } := by rw [hdst2]; rfl
  have hd0 : a2.defers = [] := hr2.defers.2 rfl
  have hr3 : Rel X2 σ2 m2 { a2 with defers := d :: a2.defers } w2 := by
    refine hr2.switch (X' := X2) rfl rfl rfl (Books.refl _) (fun k hk => rfl) (fun s => .inl rfl) hr2.tmps hr2.size ⟨⟨[], by rw [hd0]; rfl, List.nodup_nil, fun _ h => by cases h⟩, fun h => by cases h⟩ (fun q hq => ?_) (fun _ h => by cases h) (fun _ h => by cases h)
    have : q = (.ptr se 0, pv) := by simpa [X2] using hq
    subst this
    exact ⟨hpv, by simp [X2, onlyC]⟩
  show wpOpsIn _ _ _ _ _ [] (({ a2 with defers := d :: a2.defers } : Act).put o2.dst undef) w2
  rw [hput]
  show wpV none 0 P rest _ { a2 with defers := d :: a2.defers } w2
  refine wpV_mono (awp_sound acr 0 rest _ σ2 m2 _ w2 X2 none noH true (fun _ => ⟨rfl, rfl, rfl⟩) (noH_oks rfl) (fun _ => rfl) hcr hq2 hr3) ?_
  rintro e a' w' ⟨σ', m', ⟨pay, hpay, lt, ls, R, hls, hI, hres⟩, hr'⟩
  have hr' : Rel X2 σ' m' a' w' := by cases e <;> exact hr'
  -- the deferred call
  have fin : ∀ (u u' : FrameMode), u ≠ .run → settle u' = .returning →
      (∀ c cs, c.mode = u → (∃ cs', recoverD (c :: cs) = some (pay, cs') ∧ cs' = { c with mode := u' } :: cs) ∨ (recoverD (c :: cs) = none ∧ pay = .nilIface ∧ u' = u)) →
      LeavesInM (wf none) 0 P fn a'.tmps (fun e w' => ∃ v, e = .returned v ∧ RelD (fun k => ok k ∨ w.heap.size ≤ k) w' res v ∧ Foot (fun _ => False) w w') a'.defers u w' := fun u u' hu hset hrec => by
    obtain ⟨Ds, hDs, hDn, hDh⟩ := hr'.defers.1
    rw [hDs]
    refine leaves_marks' (base := w.heap.size) hu Ds w' hDh hDn fun w3 hB hl => ?_
    have hr4 : Rel X2 ⟨σ'.t, σ'.b⟩ m' { tmps := a'.tmps, defers := [d] } w3 := by
      refine hr'.switch (X' := X2) rfl rfl rfl hB hl (fun s => .inl rfl) hr'.tmps hr'.size ⟨⟨[], rfl, List.nodup_nil, fun _ h => by cases h⟩, fun h => by cases h⟩ hr'.ghosts (fun _ h => by cases h) (fun _ h => by cases h)
    have hprl : X2.pr.all ls.contains = true := by simpa [X2] using hls
    obtain ⟨m5, hr5, hC⟩ := hr4.forget' lt ls hprl
    have hp5 := (hr5.ghosts (.ptr se 0, pv) (by simp [X2])).1
    have hlt : ∀ i ∈ lt, onlyC ls (scrC ls (σ'.t i)) = true := fun i _ => onlyC_scrC _ _
    have hclo := clo_sound (X := X2) (t := fun i => scrC ls (σ'.t i)) (lt := lt) (b := (St.forget ⟨σ'.t, σ'.b⟩ lt ls).b) (u := u) (u' := u') hcl hI hr5 rfl hprl hlt hp5 hrec
    refine ⟨hu, .inr ⟨fun h => by simp [wf, Fence.wide] at h, .func gD, #[pv], gD, #[pv], rfl, ?_, fun _ _ => trivial, hclo.mono ?_⟩⟩
    · show (invoke (.fn (.func gD) #[pv]) #[]).run P w3 = _
      simp [invoke, go_sem, run_callFunc hen]
    · rintro e u2 w4 ⟨v, y, b', m6, rfl, rfl, hK, hr6⟩
      show LeavesInM _ _ _ _ _ _ [] (settle u2) w4
      rw [hset]
      obtain ⟨v2, hv2, hD⟩ := resA_sound (P := P) (ok' := fun k => ok k ∨ w.heap.size ≤ k) hr6 (fun k hk => hk.1) (fun s hl => .inr (hr6.own s hl)) hrs (hres y b' hK)
      exact ⟨v2, hv2, v2, rfl, hD, hr6.foot⟩
  cases e with
  | normal =>
    have hpay : pay = .nilIface := hpay
    subst hpay
    exact fin .returning .returning (by simp) rfl (fun c cs hm => .inr ⟨by simp [recoverD, hm], rfl, rfl⟩)
  | ret =>
    have hpay : pay = .nilIface := hpay
    subst hpay
    exact fin .returning .returning (by simp) rfl (fun c cs hm => .inr ⟨by simp [recoverD, hm], rfl, rfl⟩)
  | panic ch =>
    have hpay : ch = [{ v := pay, recovered := false }] := hpay
    subst hpay
    exact fin (.panicking [{ v := pay, recovered := false }]) (.panicking [{ v := pay, recovered := true }]) (by simp) rfl (fun c cs hm => .inl ⟨_, by simp [recoverD, hm], rfl⟩)
  | _ => exact hpay.elim

theorem defFn_by {g gD gC : FuncId} {fn : Func} {rs : List RV} {ac0 acr : ACode} {ao : AOper} {k : Nat} {args : List D} {res : D} (hf : P.funcs[g]? = some fn) (hc : chkD P fn rs ac0 ao acr k = true) (hcl : chkClo P gD gC = true)
    (hp : (plainC ac0 && plainLd ao && plainC acr) = true) (hn : Nat.ble args.length fn.ntmps = true)
    (h : bwp P noH false [] ac0 (thenB fun t b => operHB P noH [] ao t b fun t b => ∃ se, capsOf (t k) = some (gD, [.ptr se 0]) ∧ bwp P noH true [se] acr (fun e t b => defQ P gC se rs res e ⟨t, b⟩) t b) (iniT args) (fun _ => .fresh)) : PureFn P g args res := by
  simp only [Bool.and_eq_true] at hp
  refine defFn_of hf hc hcl (Nat.le_of_ble_eq_true hn) (bwp_awp (σ := ⟨iniT args, fun _ => .fresh⟩) noH_le hp.1.1 (fun e σ' h => ?_) h)
  cases e <;> try (exact h.elim)
  exact operHB_A noH_le (fun σ'' ⟨se, h1, h2⟩ => ⟨se, h1, bwp_awp noH_le hp.2 (fun e σ h => h) h2⟩) hp.1.2 h
end
end Go.AM
