/- The abstract machine, part 18: the abstract code's weakest precondition is sound. No condition. -/
import Derived.Test.YtmkmegcconjgoaaAm17
set_option linter.unusedVariables false
set_option linter.unusedSimpArgs false
namespace Go.AM
open Go
section
variable {P : Program}

theorem Marks.keep' {base : Nat} {ds : List Deferred} {w w' : World} (h : Marks base ds w) (hd : ds = []) : Marks base ds w' := by
  subst hd; exact ⟨[], rfl, List.nodup_nil, fun _ h => by cases h⟩

theorem zip_fold (params : Array Nat) (vs tm : Array Value) : (params.zip vs).foldl (fun tmps (x : Nat × Value) => tmps.setIfInBounds x.1 x.2) tm = (params.toList.zip vs.toList).foldl (fun tm p => tm.setIfInBounds p.1 p.2) tm := by
  rw [← Array.foldl_toList, Array.toList_zip]

theorem awp_sound : ∀ (ac : ACode) (nn : Nat) (c : Code) (QA : Exit → St → Prop) (σ : St) (m : Nat → Loc) (a : Act) (w : World) (X : Ctx) (ρ : Option Nat) (H : Hand) (fnm : Bool),
    (fnm = true → ρ = none ∧ X.lp = none ∧ X.nm = false) → HandsOK P X H → ((∃ l, ρ = some l) → H = noH) → chkC P X.n c ac = true → awp P H fnm X.pr ac QA σ → Rel X σ m a w →
    c.wpIn (wf ρ) nn P (fun e a' w' => ∃ σ' m', QA e σ' ∧ Rel X σ' m' a' w') a w := by
  intro ac
  induction ac with
  | skip =>
    intro nn c QA σ m a w X ρ H fnm hm hH hn hc h hr
    cases c <;> simp only [chkC, Bool.false_eq_true] at hc
    exact wpIn_skip ⟨σ, m, h, hr⟩
  | reg aos =>
    intro nn c QA σ m a w X ρ H fnm hm hH hn hc h hr
    cases c with
    | region id ops draw =>
      cases draw with
      | true => simp [chkC] at hc
      | false =>
        simp only [chkC] at hc
        refine wpIn_region ?_
        have := opsH_sound (P := P) (X := X) (ρ := ρ) (nn := nn) (Q := fun e a' w' => ∃ σ' m', QA e σ' ∧ Rel X σ' m' a' w') (ops := ops) (K := QA .normal) hH hn (fun σ' m' a' w' hK hr' => ⟨σ', m', hK, hr'⟩)
          ops.toList aos 0 σ m a w (fun j => by simp) hc h hr
        rwa [Array.length_toList, ← List.range_eq_range'] at this
    | _ => simp [chkC] at hc
  | regd aos =>
    intro nn c QA σ m a w X ρ H fnm hm hH hn hc h hr
    cases c with
    | region id ops draw =>
      cases draw with
      | false => simp [chkC] at hc
      | true =>
        simp only [chkC, Bool.and_eq_true] at hc
        obtain ⟨⟨hc, hd1⟩, hd2⟩ := hc
        refine wpIn_region_any hd1 ?_
        have hlen : ops.size = aos.length := by have := chkOps_len _ _ hc; simpa using this
        have hI := (opsI_all (P := P) (H := H) (prot := X.pr) (aos := aos) aos.length 0 σ (QA .normal) (by omega)).mpr (by simpa [awp] using h)
        have rep : ∀ (i : Nat) (d : Bool), (Array.replicate ops.size false).getD i d = if i < ops.size then false else d := fun i d => by
          simp only [Array.getD, Array.size_replicate]
          split <;> simp
        refine any_sound (P := P) (X := X) (ρ := ρ) (nn := nn) hH hn hc hd2 (fun σ' m' a' w' hK hr' => ⟨σ', m', hK, hr'⟩) ops.size (Array.replicate ops.size false) σ m a _ (by simp) (Nat.le_trans (List.length_filter_le _ _) (by simp)) (fun i hi => by rw [rep] at hi; split at hi <;> cases hi) ?_ (hr.grow (Foot.drawn _ _ _))
        have : rem ops.size (Array.replicate ops.size false) = List.range' 0 aos.length := by
          unfold rem
          rw [List.filter_eq_self.2, List.range_eq_range', ← hlen]
          intro i hi
          rw [rep, if_pos (List.mem_range.1 hi)]; rfl
        rw [this]; exact hI
    | _ => simp [chkC] at hc
  | seq x y ihx ihy =>
    intro nn c QA σ m a w X ρ H fnm hm hH hn hc h hr
    cases c <;> simp only [chkC, Bool.false_eq_true, Bool.and_eq_true] at hc
    refine wpIn_seq (wpIn_mono (ihx nn _ _ σ m a w X ρ H fnm hm hH hn hc.1 h hr) ?_)
    rintro e a' w' ⟨σ', m', hq, hr'⟩
    cases e with
    | normal => exact ihy nn _ _ σ' m' a' w' X ρ H fnm hm hH hn hc.2 hq hr'
    | _ => exact ⟨σ', m', hq, hr'⟩
  | cond c' x y ihx ihy =>
    intro nn c QA σ m a w X ρ H fnm hm hH hn hc h hr
    cases c <;> simp only [chkC, Bool.false_eq_true, Bool.and_eq_true] at hc
    obtain ⟨⟨h1, h2⟩, h3⟩ := hc
    simp only [awp] at h
    split at h <;> try (exact h.elim)
    rename_i b hb
    have hv := relC_v (hb ▸ chkO_sound hr h1)
    refine wpIn_cond_split hv (fun e => ihx nn _ _ σ m a w X ρ H fnm hm hH hn h2 (h.1 e) hr) (fun e => ihy nn _ _ σ m a w X ρ H fnm hm hH hn h3 (h.2 e) hr)
  | block id x ih =>
    intro nn c QA σ m a w X ρ H fnm hm hH hn hc h hr
    cases c <;> simp only [chkC, Bool.false_eq_true, Bool.and_eq_true, beq_iff_eq] at hc
    obtain ⟨rfl, hc⟩ := hc
    refine wpIn_block (wpIn_mono (ih nn _ _ σ m a w X ρ H fnm hm hH hn hc h hr) ?_)
    rintro e a' w' ⟨σ', m', hq, hr'⟩
    cases e with
    | exit id' =>
      simp only [Exit.inBlock]
      simp only at hq
      split at hq
      · rename_i e; rw [if_pos e]; exact ⟨σ', m', hq, hr'⟩
      · rename_i e; rw [if_neg e]; exact ⟨σ', m', hq, hr'⟩
    | _ => exact ⟨σ', m', hq, hr'⟩
  | loop lt ls x ih =>
    intro nn c QA σ m a w X ρ H fnm hm hH hn hc h hr
    cases c <;> simp only [chkC, Bool.false_eq_true] at hc
    obtain ⟨hpr, I, μ, h0, hround⟩ := h
    obtain ⟨m0, hr0⟩ := hr.forget lt ls hpr
    have hex : ∀ a w, (∃ σ m, I σ ∧ Rel X σ m a w) → ∃ k, ∃ σ m, I σ ∧ Rel X σ m a w ∧ μ σ = k := fun a w ⟨σ, m, h1, h2⟩ => ⟨_, σ, m, h1, h2, rfl⟩
    obtain ⟨ν, hν⟩ : ∃ ν : Act → World → Nat, ∀ a w, (∃ σ m, I σ ∧ Rel X σ m a w) → (∃ σ m, I σ ∧ Rel X σ m a w ∧ μ σ = ν a w) ∧ ∀ σ m, I σ → Rel X σ m a w → ν a w ≤ μ σ := by
      classical
      refine ⟨fun a w => if h : ∃ σ m, I σ ∧ Rel X σ m a w then (least (hex a w h)).choose else 0, fun a w h => ?_⟩
      simp only [h, dif_pos]
      have hs := (least (hex a w h)).choose_spec
      exact ⟨hs.1, fun σ m h1 h2 => hs.2 _ ⟨σ, m, h1, h2, rfl⟩⟩
    refine wpIn_loop (fun a w => ∃ σ m, I σ ∧ Rel X σ m a w) ν ⟨_, m0, h0, hr0⟩ ?_
    intro a1 w1 hI
    obtain ⟨⟨σ1, m1, hI1, hr1, hμ1⟩, _⟩ := hν a1 w1 hI
    refine wpIn_mono (ih nn _ _ σ1 m1 a1 w1 X ρ H fnm hm hH hn hc (hround σ1 hI1) hr1) ?_
    rintro e a' w' ⟨σ', m', hq, hr'⟩
    cases e with
    | normal =>
      obtain ⟨m2, hr2⟩ := hr'.forget lt ls hpr
      refine ⟨⟨_, m2, hq.1, hr2⟩, ?_⟩
      have := (hν a' w' ⟨_, m2, hq.1, hr2⟩).2 _ m2 hq.1 hr2
      have h3 := hq.2
      omega
    | _ => exact ⟨σ', m', hq, hr'⟩
  | exit id =>
    intro nn c QA σ m a w X ρ H fnm hm hH hn hc h hr
    cases c <;> simp only [chkC, Bool.false_eq_true, beq_iff_eq] at hc
    subst hc
    exact wpIn_exit ⟨σ, m, h, hr⟩
  | ret =>
    intro nn c QA σ m a w X ρ H fnm hm hH hn hc h hr
    cases c <;> simp only [chkC, Bool.false_eq_true] at hc
    exact wpIn_ret ⟨σ, m, h, hr⟩
  | bad => intro nn c QA σ m a w X ρ H fnm hm hH hn hc h hr; exact h.elim
  | conv s r esz x ih =>
    intro nn c QA σ m a w X ρ H fnm hm hH hn hc h hr
    have hc' : chkC P X.n c x = true := by cases c <;> simpa only [chkC] using hc
    simp only [awp] at h
    split at h <;> try (exact h.elim)
    rename_i cs hs hf
    exact ih nn _ _ _ m a w X ρ H fnm hm hH hn hc' h (hr.conv hs hf)
  | rfun p g nf code x lt pr ps asg body ihcode ihasg ihbody =>
    intro nn c QA σ m a w X ρ H fnm hm hH hn hc h hr
    cases c <;> simp only [chkC, Bool.false_eq_true, Bool.and_eq_true] at hc
    rename_i f params asg0 bod0
    obtain ⟨⟨⟨⟨⟨hx, hps⟩, hpn⟩, hca⟩, hcb⟩, hg⟩ := hc
    split at hg <;> try (cases hg; done)
    rename_i fn hfn
    simp only [Bool.and_eq_true] at hg
    obtain ⟨⟨⟨hname, hres⟩, hnf⟩, hbody⟩ := hg
    cases hfb : fn.body with
    | none => rw [hfb] at hbody; cases hbody
    | some cit =>
    rw [hfb] at hbody
    simp only [awp] at h
    split at h <;> try (exact h.elim)
    rename_i g' caps hcaps hbp
    obtain ⟨hfnm, rfl, hcl, hpr, h⟩ := h
    obtain ⟨rfl, hlp, hnm⟩ := hm hfnm
    simp only [Bool.and_eq_true, List.all_eq_true] at hpr
    obtain ⟨⟨hpp, hprot⟩, hlt⟩ := hpr
    obtain ⟨vc, hv, hvc, hcapsR⟩ := capsOf_sound (chkO_sound hr hx) hcaps
    obtain ⟨Ds, hDs, hDn, hDh⟩ := hr.defers.1
    have hpsz : params.toList = ps := by simpa using hps
    refine wpIn_rangeFunc ?_
    intro fnid hfnid
    obtain ⟨rec, hrec⟩ : ∃ rec : Loop, rec = { state := .ready, pending := none, fn := fnid, tmps := a.tmps, params := params, assign := asg0, body := bod0, defers := w.heap.size } := ⟨_, rfl⟩
    obtain ⟨W1, hW1⟩ : ∃ W1, (w.alloc (.deferred (some []))).alloc (.loop rec) = W1 := ⟨_, rfl⟩
    have hL1 : W1.heap[w.heap.size + 1]? = some (.loop rec) := by
      rw [← hW1]; have := World.alloc_heap_new (w.alloc (.deferred (some []))) (.loop rec); rwa [World.size_alloc] at this
    have hlow : ∀ k, k < w.heap.size → W1.heap[k]? = w.heap[k]? := fun k hk => by
      rw [← hW1, Go.RowKit.Below.heap_alloc _ _ _ (by simp; omega), Go.RowKit.Below.heap_alloc _ _ _ hk]
    have hK1 : W1.heap[w.heap.size]? = some (.deferred (some [])) := by
      rw [← hW1]; exact (Go.RowKit.Below.heap_alloc _ _ _ (by simp)).trans (World.alloc_heap_new w _)
    have hB1 : Books w W1 := by rw [← hW1]; exact (Books.alloc _ _).trans (Books.alloc _ _)
    have hbase : X.w0.heap.size ≤ w.heap.size := hr.foot.size
    refine ⟨w.heap.size + 1, [{ target := .collected w.heap.size, args := #[] }], W1, { target := .fn (.func g') vc, args := #[Value.func (.yield (w.heap.size + 1)) #[] #[]] }, W1, g',
      #[Value.func (.yield (w.heap.size + 1)) #[] #[]] ++ vc, W1, ?_, ?_, fun _ _ => trivial, ?_, fun h => by simp [wf, Fence.wide] at h, ?_⟩
    · rw [← hW1, hrec]; exact run_enterLoop_outer _ _ _ _ _
    · simp only [resolve, hv]
      simp [go_sem]
    · have hen : Enters P g' := ⟨fn, hfn, by simpa using hname, by simp [hfb]⟩
      simp [invoke, go_sem, run_callFunc hen]
    · let Xi : Ctx := { ok0 := X.ok0, C := X.C, w0 := X.w0, n := fn.ntmps, gs := (lt.map fun i => (σ.t i, a.tmps.getD i undef)) ++ X.gs,
                        fx := ((w.heap.size, .deferred (some [])) :: (Ds.map fun D => (D, .deferred (some [])))) ++ X.fx, lp := some ⟨p, w.heap.size + 1, rec⟩, pr := pr, nm := true }
      have hprL : X.pr.all pr.contains = true := List.all_eq_true.2 hprot
      have hfxL : ∀ q ∈ Xi.fx, q.1 ≠ w.heap.size + 1 ∧ W1.heap[q.1]? = some q.2 ∧ q.2.isCells = false := fun q hq => by
        rcases List.mem_append.1 hq with hq | hq
        · rcases List.mem_cons.1 hq with rfl | hq
          · exact ⟨by simp, hK1, rfl⟩
          · obtain ⟨D, hD, rfl⟩ := List.mem_map.1 hq
            have := hDh D hD
            have hlt' := heap_lt this.2
            exact ⟨by simp; omega, (hlow D hlt').trans this.2, rfl⟩
        · have := hr.fixed q hq
          have hlt' := heap_lt this.1
          exact ⟨by omega, (hlow _ hlt').trans this.1, this.2⟩
      have hgs : ∀ q ∈ Xi.gs, RelC (X.ok m) w σ.b m q.1 q.2 ∧ onlyC Xi.pr q.1 = true := fun q hq => by
        rcases List.mem_append.1 hq with hq | hq
        · obtain ⟨i, hi, rfl⟩ := List.mem_map.1 hq
          exact ⟨hr.tmps i, hlt i hi⟩
        · exact ⟨(hr.ghosts q hq).1, onlyC_mono hprL _ (hr.ghosts q hq).2⟩
      have hri : Rel Xi ⟨iniC (.d (.v (Value.func (.yield (w.heap.size + 1)) #[] #[])) :: caps), σ.b⟩ m
          { tmps := (#[Value.func (.yield (w.heap.size + 1)) #[] #[]] ++ vc) ++ Array.replicate (fn.ntmps - (#[Value.func (.yield (w.heap.size + 1)) #[] #[]] ++ vc).size) undef, defers := [] } W1 := by
        refine hr.switch rfl rfl rfl hB1 (fun k hk => hlow k (by omega)) (fun s => .inl rfl) (fun i => ?_) ?_ ⟨⟨[], rfl, List.nodup_nil, fun _ h => by cases h⟩, fun _ => rfl⟩ hgs (fun q hq => (hfxL q hq).2) (fun i hi => ?_)
        · refine iniC_rel (f := fun i => ((#[Value.func (.yield (w.heap.size + 1)) #[] #[]] ++ vc) ++ Array.replicate (fn.ntmps - (#[Value.func (.yield (w.heap.size + 1)) #[] #[]] ++ vc).size) undef).getD i undef) (fun j hj => ?_) i
          have hj' : j < (#[Value.func (.yield (w.heap.size + 1)) #[] #[]] ++ vc).size := by simp at hj ⊢; omega
          show RelC _ _ _ _ _ (((#[Value.func (.yield (w.heap.size + 1)) #[] #[]] ++ vc) ++ _).getD j undef)
          rw [getD_append_left hj']
          cases j with
          | zero => rw [getD_append_left (by simp)]; exact .d (.v _)
          | succ j =>
            rw [getD_append_right (by simp)]
            simp only [List.getElem_cons_succ]
            exact hcapsR j (by simpa using hj)
        · have := of_decide_eq_true hnf
          simp [Xi]; omega
        · cases hi
          refine ⟨?_, by simpa using hpp⟩
          simp only [LoopI.obj, hbp]; exact hL1
      have hHandW : ∀ Xw, Wid Xi Xw → HandOK P Xw (handR p (w.heap.size + 1) (Go.AM.keepT σ.t lt) ps (fun pr' Q σ => awp P noH false pr' asg Q σ) (fun pr' Q σ => awp P noH false pr' body Q σ)) := by
        intro Xw hwid pr' l args b K t lt2 m2 a2 w2 vs hH2 hr2 hpr2 hon hsz hargs
        obtain ⟨rfl, hH2⟩ := hH2
        split at hH2 <;> try (exact hH2.elim)
        rename_i hbf
        obtain ⟨hlen, hw⟩ := hH2
        have hloop : w2.heap[w.heap.size + 1]? = some (.loop rec) := by
          have := (hr2.loop _ (hwid.lp.trans rfl)).1
          simp only [LoopI.obj, hbf] at this; exact this
        have hparams : rec.params = params := by rw [hrec]
        have hpl : params.size = ps.length := by rw [← hpsz]; simp
        refine ⟨_, _, _, _, run_yield hloop (by rw [hparams]; omega), fun nn2 => roundIn_of_wpIn trivial ?_⟩
        have hsep : ∀ q ∈ Xw.fx, q.1 ≠ w.heap.size + 1 := hwid.sep ⟨p, w.heap.size + 1, rec⟩ rfl
        have hw0 : Xw.w0 = X.w0 := hwid.w0
        let Xr : List (Nat × Obj) → Ctx := fun fx => { ok0 := Xw.ok0, C := Xw.C, w0 := Xw.w0, n := X.n, gs := (lt2.map fun i => (t i, a2.tmps.getD i undef)) ++ Xw.gs, fx := fx ++ Xw.fx, lp := none, pr := pr', nm := true }
        have hgr : ∀ q ∈ (Xr []).gs, RelC (Xw.ok m2) w2 b m2 q.1 q.2 ∧ onlyC pr' q.1 = true := fun q hq => by
          rcases List.mem_append.1 hq with hq | hq
          · obtain ⟨i, hi, rfl⟩ := List.mem_map.1 hq
            have := hr2.tmps i
            simp only [keepT_eq, hi, if_true] at this
            exact ⟨this, hon i hi⟩
          · exact ⟨(hr2.ghosts q hq).1, onlyC_mono hpr2 _ (hr2.ghosts q hq).2⟩
        have htm : rec.tmps = a.tmps := by rw [hrec]
        have hset := setP_rel (w := w2) (m := m2) (ok := Xw.ok m2) (b := b) (ps := ps) (args := args) (vs := vs.toList) (t := Go.AM.keepT σ.t lt) (tm := a.tmps) hlen (by simpa using hsz)
          (fun q hq => by have := List.all_eq_true.1 hpn q hq; rw [hr.size]; simpa using this)
          (fun i => keepT_rel (f := fun i => a.tmps.getD i undef) (fun i hi => (hr2.ghosts (σ.t i, a.tmps.getD i undef) (hwid.gs _ (List.mem_append_left _ (List.mem_map.2 ⟨i, hi, rfl⟩)))).1) i)
          (fun j hj => by have := hargs j hj; simpa [Array.getD_eq_getD_getElem?, List.getD] using this)
        have hr3 : Rel (Xr [(w.heap.size + 1, .loop rec)]) ⟨setP (Go.AM.keepT σ.t lt) ps args, b⟩ m2 { tmps := (rec.params.zip vs).foldl (fun tmps (x : Nat × Value) => tmps.setIfInBounds x.1 x.2) rec.tmps, defers := [] } w2 := by
          refine hr2.switch rfl rfl rfl (Books.refl _) (fun _ _ => rfl) (fun s => .inl rfl) (fun i => ?_) ?_ ⟨⟨[], rfl, List.nodup_nil, fun _ h => by cases h⟩, fun _ => rfl⟩ hgr (fun q hq => ?_) (fun i hi => by cases hi)
          · rw [hparams, htm, zip_fold, hpsz]; exact hset.1 i
          · rw [hparams, htm, zip_fold, hpsz]; exact hset.2.trans hr.size
          · rcases List.mem_append.1 hq with hq | hq
            · simp at hq; subst hq; exact ⟨hloop, rfl⟩
            · exact hr2.fixed q hq
        have hasg : rec.assign = asg0 := by rw [hrec]
        have hbod : rec.body = bod0 := by rw [hrec]
        rw [hasg, hbod]
        refine wpIn_mono (ihasg nn2 asg0 _ _ m2 _ w2 (Xr [(w.heap.size + 1, .loop rec)]) (some (w.heap.size + 1)) noH false (fun h => by cases h) (noH_oks rfl) (fun _ => rfl) hca hw hr3) ?_
        rintro e a3 w3 ⟨σ3, m3, hq3, hr4⟩
        cases e <;> try (exact hq3.elim)
        have hq3 : awp P noH false pr' body (endR p K) σ3 := hq3
        have hl3 := (hr4.fixed (w.heap.size + 1, .loop rec) (by simp [Xr])).1
        refine ⟨_, run_beginRound hl3 (by rw [hrec]), ?_⟩
        have hl4 : (w3.putObj (w.heap.size + 1) (.loop { rec with state := .busy })).heap[w.heap.size + 1]? = some (.loop { rec with state := .busy }) := World.putObj_heap_same (heap_lt hl3)
        have hr5 : Rel (Xr [(w.heap.size + 1, .loop { rec with state := .busy })]) ⟨σ3.t, σ3.b⟩ m3 a3 (w3.putObj (w.heap.size + 1) (.loop { rec with state := .busy })) := by
          refine hr4.switch rfl rfl rfl (Books.put _ _ hl3 rfl) (fun k hk => World.putObj_heap_other (by have : (Xr [(w.heap.size + 1, .loop rec)]).w0 = X.w0 := hw0; rw [this] at hk; omega)) (fun s => .inl rfl) hr4.tmps hr4.size
            ⟨hr4.defers.1.keep' (by rw [hr4.defers.2 rfl]), hr4.defers.2⟩ hr4.ghosts (fun q hq => ?_) (fun i hi => by cases hi)
          rcases List.mem_append.1 hq with hq | hq
          · simp at hq; subst hq; exact ⟨hl4, rfl⟩
          · exact ⟨(World.putObj_heap_other (hsep q hq)).trans (hr4.fixed q (List.mem_append_right _ hq)).1, (hr4.fixed q (List.mem_append_right _ hq)).2⟩
        refine wpIn_mono (ihbody nn2 bod0 _ _ m3 _ _ (Xr [(w.heap.size + 1, .loop { rec with state := .busy })]) (some (w.heap.size + 1)) noH false (fun h => by cases h) (noH_oks rfl) (fun _ => rfl) hcb hq3 hr5) ?_
        rintro e a6 w6 ⟨σ6, m6, hq6, hr6⟩
        have hl6 := (hr6.fixed (w.heap.size + 1, .loop { rec with state := .busy }) (by simp [Xr])).1
        -- a round's end
        have endr : ∀ (jump : Option Code) (b' : Nat → ABlk) (y : Bool), (∀ s, b' s = σ6.b s ∨ ((m6 s).live = false ∧ (σ6.b s = .fresh ∨ ∃ q, σ6.b s = .mark q) ∧ (b' s = .fresh ∨ ∃ q, b' s = .mark q))) →
            (⟨p, w.heap.size + 1, rec⟩ : LoopI).obj (b' p) = .loop { ({ rec with state := .busy } : Loop) with state := if jump.isNone then .ready else .done, pending := jump } → jump.isNone = y → K (bC y) b' →
            ∃ v w', (Instr.endRound (w.heap.size + 1) jump).run P w6 = .ok v w' ∧ ∃ v' y' b'' m', Ending.returned v = .returned v' ∧ K y' b'' ∧ Rel Xw ⟨Go.AM.keepT t lt2, b''⟩ m' a2 w' ∧ RelC (Xw.ok m') w' b'' m' y' v' := fun jump b' y hb hob hj hK => by
          refine ⟨_, _, run_endRound jump hl6, _, bC y, b', m6, rfl, hK, ?_, by rw [hj]; exact .d (.v _)⟩
          refine hr6.switch (X' := Xw) rfl rfl rfl (Books.put _ _ hl6 rfl) (fun k hk => World.putObj_heap_other (by have : (Xr [(w.heap.size + 1, .loop { rec with state := .busy })]).w0 = X.w0 := hw0; rw [this] at hk; omega)) hb (fun i => ?_) hr2.size
            ⟨by rw [hr2.defers.2 hwid.nm]; exact ⟨[], rfl, List.nodup_nil, fun _ h => by cases h⟩, hr2.defers.2⟩ (fun q hq => ?_) (fun q hq => ?_) (fun i hi => ?_)
          · exact keepT_rel (f := fun i => a2.tmps.getD i undef) (fun i hi => (hr6.ghosts (t i, a2.tmps.getD i undef) (List.mem_append_left _ (List.mem_map.2 ⟨i, hi, rfl⟩))).1) i
          · exact ⟨(hr6.ghosts q (List.mem_append_right _ hq)).1, (hr2.ghosts q hq).2⟩
          · exact ⟨(World.putObj_heap_other (hsep q hq)).trans (hr6.fixed q (List.mem_append_right _ hq)).1, (hr6.fixed q (List.mem_append_right _ hq)).2⟩
          · have hip := (hr2.loop i hi).2
            rw [hwid.lp] at hi
            cases hi
            exact ⟨by rw [hob]; exact World.putObj_heap_same (heap_lt hl6), hip⟩
        have hready : rec.state = .ready ∧ rec.pending = none := by rw [hrec]; exact ⟨rfl, rfl⟩
        have robj : Obj.loop rec = .loop { ({ rec with state := .busy } : Loop) with state := .ready, pending := none } := by
          rw [hrec]
        unfold endR at hq6
        split at hq6 <;> try (exact hq6.elim)
        · rename_i hb6
          exact endr none σ6.b true (fun s => .inl rfl) (by simp only [LoopI.obj, hb6]; exact robj) rfl hq6
        · rename_i hb6
          refine endr (some .ret) (upd σ6.b p (.mark none)) false (fun s => ?_) (by simp only [upd_same, LoopI.obj, markCode]; rfl) rfl hq6
          by_cases e : s = p
          · subst e
            have hS := hr6.slots s
            unfold SlotOK at hS
            rw [hb6] at hS
            exact .inr ⟨hS, .inl hb6, .inr ⟨_, upd_same _ _ _⟩⟩
          · exact .inl (upd_ne _ _ e)
        · rename_i id hb6
          refine endr (some (.exit id)) (upd σ6.b p (.mark (some id))) false (fun s => ?_) (by simp only [upd_same, LoopI.obj, markCode]; rfl) rfl hq6
          by_cases e : s = p
          · subst e
            have hS := hr6.slots s
            unfold SlotOK at hS
            rw [hb6] at hS
            exact .inr ⟨hS, .inl hb6, .inr ⟨_, upd_same _ _ _⟩⟩
          · exact .inl (upd_ne _ _ e)
      have hHand : HandsOK P Xi (handR p (w.heap.size + 1) (Go.AM.keepT σ.t lt) ps (fun pr' Q σ => awp P noH false pr' asg Q σ) (fun pr' Q σ => awp P noH false pr' body Q σ)) := by
        have hs : ∀ i, Xi.lp = some i → ∀ q ∈ Xi.fx, q.1 ≠ i.l := fun i hi q hq => by cases hi; exact (hfxL q hq).1
        exact ⟨hs, hHandW Xi ⟨rfl, rfl, rfl, rfl, fun _ h => h, fun _ h => h, by simp, rfl, hs⟩, hHandW⟩
      refine callsIn_of_wp_marks (F := wf none) hfn hfb trivial ?_ rfl
      have key := ihcode (nn - 1) cit _ _ m _ W1 Xi none _ false (fun h => by cases h) hHand (fun h => by obtain ⟨l, h⟩ := h; cases h) hbody (h (w.heap.size + 1)) hri
      refine wpIn_mono key ?_
      rintro e a' w' ⟨σ', m', hq, hr'⟩
      have hde := hr'.defers.2 rfl
      have hloop := hr'.loop _ rfl
      -- behind the iterator
      have fin : finB p QA (Go.AM.keepT σ.t lt) σ'.b → ∀ v, rangePost (wf none) nn P (w.heap.size + 1) (fun e a' w' => ∃ σ' m', QA e σ' ∧ Rel X σ' m' a' w') { a with defers := [{ target := .collected w.heap.size, args := #[] }] ++ a.defers } (.returned v) w' := fun hf v => by
        have put : ∀ (r' : Loop) (b' : Nat → ABlk), w'.heap[w.heap.size + 1]? = some (.loop r') → (∀ s, b' s = σ'.b s ∨ ((m' s).live = false ∧ (σ'.b s = .fresh ∨ ∃ q, σ'.b s = .mark q) ∧ (b' s = .fresh ∨ ∃ q, b' s = .mark q))) →
            Rel X ⟨Go.AM.keepT σ.t lt, b'⟩ m' { a with defers := [{ target := .collected w.heap.size, args := #[] }] ++ a.defers } (w'.putObj (w.heap.size + 1) (.loop { r' with state := .exhausted })) := fun r' b' hr1 hb => by
          have hfx : ∀ q ∈ Xi.fx, (w'.putObj (w.heap.size + 1) (.loop { r' with state := .exhausted })).heap[q.1]? = some q.2 ∧ q.2.isCells = false := fun q hq =>
            ⟨(World.putObj_heap_other (hfxL q hq).1).trans (hr'.fixed q hq).1, (hr'.fixed q hq).2⟩
          refine hr'.switch rfl rfl rfl (Books.put _ _ hr1 rfl) (fun k hk => World.putObj_heap_other (by have : Xi.w0 = X.w0 := rfl; rw [this] at hk; omega)) hb (fun i => ?_) hr.size ⟨⟨w.heap.size :: Ds, by simp [hDs], ?_, ?_⟩, fun h => by rw [hnm] at h; cases h⟩ (fun q hq => ?_) (fun q hq => ?_) (fun i hi => by rw [hlp] at hi; cases hi)
          · exact keepT_rel (f := fun i => a.tmps.getD i undef) (fun i hi => (hr'.ghosts (σ.t i, a.tmps.getD i undef) (List.mem_append_left _ (List.mem_map.2 ⟨i, hi, rfl⟩))).1) i
          · refine List.nodup_cons.2 ⟨fun hD => ?_, hDn⟩
            have := heap_lt (hDh _ hD).2
            omega
          · intro D hD
            rcases List.mem_cons.1 hD with rfl | hD
            · exact ⟨hbase, (hfx (w.heap.size, .deferred (some [])) (by simp [Xi])).1⟩
            · refine ⟨(hDh D hD).1, (hfx (D, .deferred (some [])) ?_).1⟩
              refine List.mem_append_left _ (List.mem_cons_of_mem _ (List.mem_map.2 ⟨D, hD, rfl⟩))
          · exact ⟨(hr'.ghosts q (List.mem_append_right _ hq)).1, (hr.ghosts q hq).2⟩
          · exact hfx q (List.mem_append_right _ hq)
        unfold finB at hf
        have hlop : ∀ x, σ'.b p = x → w'.heap[w.heap.size + 1]? = some ((⟨p, w.heap.size + 1, rec⟩ : LoopI).obj x) := fun x e => e ▸ hloop.1
        split at hf <;> try (exact hf.elim)
        · rename_i hb
          have h1 := hlop _ hb
          have h1 : w'.heap[w.heap.size + 1]? = some (.loop rec) := h1
          have hpn : rec.pending = none := by rw [hrec]
          refine ⟨rec.pending, _, run_endLoop h1 (by rw [hrec]; simp), ?_⟩
          have hput := put rec σ'.b h1 (fun s => .inl rfl)
          rw [hpn] at hput ⊢
          exact ⟨_, m', hf, hput⟩
        · rename_i hb
          have h1 : w'.heap[w.heap.size + 1]? = some (.loop { rec with state := .done, pending := some .ret }) := hlop _ hb
          refine ⟨some .ret, _, run_endLoop h1 (by simp), wpIn_ret ⟨_, m', hf, put _ _ h1 (fun s => ?_)⟩⟩
          by_cases e : s = p
          · subst e
            have hS := hr'.slots s
            unfold SlotOK at hS
            rw [hb] at hS
            exact .inr ⟨hS, .inr ⟨_, hb⟩, .inl (upd_same _ _ _)⟩
          · exact .inl (upd_ne _ _ e)
        · rename_i id hb
          have h1 : w'.heap[w.heap.size + 1]? = some (.loop { rec with state := .done, pending := some (.exit id) }) := hlop _ hb
          refine ⟨some (.exit id), _, run_endLoop h1 (by simp), wpIn_exit ⟨_, m', hf, put _ _ h1 (fun s => ?_)⟩⟩
          by_cases e : s = p
          · subst e
            have hS := hr'.slots s
            unfold SlotOK at hS
            rw [hb] at hS
            exact .inr ⟨hS, .inr ⟨_, hb⟩, .inl (upd_same _ _ _)⟩
          · exact .inl (upd_ne _ _ e)
      have hresults : (results fn a'.tmps).run P w' = .ok (.tuple #[]) w' := by
        have : fn.results = #[] := by simpa using hres
        simp [results, this]
      cases e with
      | normal =>
        show LeavesInM _ _ _ _ _ _ a'.defers _ _
        rw [hde]
        exact ⟨_, hresults, fin hq _⟩
      | ret =>
        show LeavesInM _ _ _ _ _ _ a'.defers _ _
        rw [hde]
        exact ⟨_, hresults, fin hq _⟩
      | _ => exact hq.elim
end
end Go.AM
