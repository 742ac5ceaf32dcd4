/- The abstract machine, part 12: calls; every operation does what the abstract one says. No condition. -/
import Derived.Test.YtmkmegcconjgoaaAm11
import Derived.Test.YtmkmegcconjgoaaAm11b
set_option linter.unusedVariables false
set_option linter.unusedSimpArgs false
namespace Go.AM
open Go
section
variable {P : Program} {X : Ctx} {σ : St} {m : Nat → Loc} {a : Act} {w : World} {o : Oper} {K : AC → (Nat → ABlk) → Prop}

theorem run_callFunc {g : FuncId} (h : Enters P g) (vs : Array Value) (w : World) : (callFunc g vs).run P w = .ok (.enter g vs) w := by
  obtain ⟨fn, h1, h2, h3⟩ := h
  have h2' : ¬ fn.name = "runtime.NumGoroutine" := by simpa using h2
  have h3' : ¬ fn.body = none := by intro e; simp [e] at h3
  simp [callFunc, h1, h2', h3']

/-- What leads to no memory reads alike in all worlds. -/
theorem flat_rel {ok ok' : Nat → Prop} {w w' : World} {x : D} {v : Value} (hf : flatD x = true) (h : RelD ok w x v) : RelD ok' w' x v := by
  have hv : ∀ {y : D} {u : Value}, (match y with | .v _ => true | _ => false) = true → RelD ok w y u → RelD ok' w' y u := fun {y u} hy hr => by
    cases hr <;> first | exact .v _ | (simp at hy)
  cases h with
  | v => exact .v _
  | empty => exact .empty _ _
  | list xs B off cap esz f hok hB hcap hsz hc h1 hr =>
    simp [flatD] at hf; subst hf; exact .empty _ _
  | fptr => simp [flatD] at hf
  | clo => simp [flatD] at hf
  | agg cs vs h1 hc =>
    simp only [flatD, List.all_eq_true] at hf
    exact .agg cs vs h1 fun j hj => hv (hf _ (List.getElem_mem hj)) (hc j hj)
  | tup cs vs h1 hc =>
    simp only [flatD, List.all_eq_true] at hf
    refine .tup cs vs h1 fun j hj => ?_
    have h2 := hf _ (List.getElem_mem hj)
    have h3 := hc j hj
    generalize cs[j] = y at h2 h3 ⊢
    generalize vs.getD j undef = u at h3 ⊢
    cases h3 with
    | v => exact .v _
    | agg ds us k1 k2 =>
      simp only [List.all_eq_true] at h2
      exact .agg ds us k1 fun q hq => hv (h2 _ (List.getElem_mem hq)) (k2 q hq)
    | _ => simp at h2

theorem mapM_get {α β : Type} {f : α → Option β} : ∀ {xs : List α} {ys : List β}, xs.mapM f = some ys → ys.length = xs.length ∧ ∀ j (hj : j < xs.length) (hj' : j < ys.length), f (xs[j]) = some (ys[j])
  | [], ys, h => by simp at h; subst h; exact ⟨rfl, fun j hj => by simp at hj⟩
  | x :: xs, ys, h => by
    simp only [List.mapM_cons, Option.bind_eq_bind, Option.pure_def] at h
    cases hx : f x with
    | none => simp [hx] at h
    | some y =>
      cases hxs : xs.mapM f with
      | none => simp [hx, hxs] at h
      | some ys' =>
        simp [hx, hxs] at h
        subst h
        obtain ⟨h1, h2⟩ := mapM_get hxs
        refine ⟨by simp [h1], fun j hj hj' => ?_⟩
        cases j with
        | zero => exact hx
        | succ j => exact h2 j (by simpa using hj) (by simpa using hj')

/-- A snapshot reads as the value does. -/
theorem snap_rel' (hr : Rel X σ m a w) {ok' : Nat → Prop} (ho : ∀ k, X.ok m k → ok' k) (hs : ∀ s, (m s).live = true → ok' (m s).blk) : ∀ (n : Nat) {x : AC} {y : D} {v : Value}, snap σ.b n x = some y → RelC (X.ok m) w σ.b m x v → RelD ok' w y v
  | 0, x, y, v, h, _ => by simp [snap] at h
  | n + 1, x, y, v, h, hR => by
    simp only [snap] at h
    split at h
    · cases h
      cases hR with
      | d hD => exact hD.mono (Nat.le_refl _) (fun _ _ _ _ h => h) (fun k _ h => ho k h)
    · rename_i s off len tot
      split at h <;> try (cases h; done)
      rename_i esz els hb
      split at h <;> try (cases h; done)
      rename_i hc
      cases h
      rcases row_val hR hb hc.1 with ⟨hl, hle, rfl⟩ | ⟨hnl, rfl, rfl, rfl, rfl⟩
      · rcases slot_row hr hb with ⟨hnl, _⟩ | ⟨_, c, e, hh, hz, hcap, hel, hone, hcs⟩
        · rw [hl] at hnl; cases hnl
        have hlen : ((els.drop off).take len).length = len := by simp; omega
        have := RelD.list (ok := ok') (w := w) ((els.drop off).take len) (m s).blk (off * esz) ((m s).cap - off) esz (fun i j => c.getD ((off + i) * esz + j) undef) (hs s hl) (hr.blkLt hl) (by omega)
          (fun i hi => by simpa using hel (off + i) (by omega))
          (fun i j hi hj => by
            rw [hlen] at hi
            rw [← Nat.add_assoc, ← Nat.add_mul]
            exact cell_of hh (by rw [hz]; exact pos_lt (by omega) hj))
          (fun i j hi hj => hone _ (pos_lt (by omega) hj))
          (fun i j hi hj => by
            have := hcs (off + i) j (by omega) (by simpa using hj)
            have := this.mono (ok' := ok') (Nat.le_refl _) (fun _ _ _ _ h => h) (fun k _ h => ho k h)
            simpa using this)
        rwa [hlen] at this
      · simp; exact .empty _ _
    · rename_i s off
      split at h <;> try (cases h; done)
      rename_i cs hb
      simp only [Option.map_eq_some_iff] at h
      obtain ⟨ds, hds, rfl⟩ := h
      obtain ⟨hl, c, e, hh, hz, hone, hcs⟩ := slot_var hr hb
      rw [ptr_val hR hb]
      obtain ⟨h1, h2⟩ := mapM_get hds
      have hlen : (cs.drop off).length = cs.length - off := by simp
      refine .fptr ds (m s).blk off (fun j => c.getD (off + j) undef) (hs s hl) (hr.blkLt hl) (fun j hj => cell_of hh (by omega)) (fun j hj => hone _ (by omega)) (fun j hj => ?_)
      have e1 := h2 j (by omega) hj
      have e2 := hcs (off + j) (by omega)
      refine snap_rel' hr ho hs n e1 ?_
      simpa using e2
    · rename_i s off len
      split at h <;> try (cases h; done)
      rename_i cs hb
      split at h <;> try (cases h; done)
      rename_i hle
      simp only [Option.map_eq_some_iff] at h
      obtain ⟨ds, hds, rfl⟩ := h
      obtain ⟨hl, c, e, hh, hz, hone, hcs⟩ := slot_var hr hb
      obtain ⟨cap, hcap, rfl⟩ := vs_val hR hb
      obtain ⟨h1, h2⟩ := mapM_get hds
      have hlen : ((cs.drop off).take len).length = len := by simp; omega
      have hdl : ds.length = len := by omega
      have := RelD.list (ok := ok') (w := w) (ds.map fun d => [d]) (m s).blk off cap 1 (fun i j => c.getD (off + (i * 1 + j)) undef) (hs s hl) (hr.blkLt hl) (by simp; omega)
        (fun i hi => by simp)
        (fun i j hi hj => cell_of hh (by simp at hi; omega))
        (fun i j hi hj => hone _ (by simp at hi; omega))
        (fun i j hi hj => by
          simp only [List.getElem_map, List.length_cons, List.length_nil] at hj ⊢
          have hj0 : j = 0 := by omega
          subst hj0
          have hi' : i < ds.length := by simpa using hi
          have e1 := h2 i (by omega) hi'
          have e2 := hcs (off + i) (by omega)
          refine snap_rel' hr ho hs n e1 ?_
          simpa using e2)
      simpa [hdl] using this
    · rename_i g first caps
      simp only [Option.map_eq_some_iff] at h
      obtain ⟨ds, hds, rfl⟩ := h
      obtain ⟨h1, h2⟩ := mapM_get hds
      cases hR with
      | clo _ _ _ vf vc k1 k2 kf kc =>
        refine .clo g first ds vf vc k1 (by omega) (fun j hj => (kf j hj).mono (Nat.le_refl _) (fun _ _ _ _ h => h) (fun k _ h => ho k h)) (fun j hj => ?_)
        exact snap_rel' hr ho hs n (h2 j (by omega) hj) (kc j (by omega))
    · rename_i cs
      simp only [Option.map_eq_some_iff] at h
      obtain ⟨ds, hds, rfl⟩ := h
      obtain ⟨h1, h2⟩ := mapM_get hds
      cases hR with
      | agg _ vs k1 kc =>
        exact .agg ds vs (by omega) (fun j hj => snap_rel' hr ho hs n (h2 j (by omega) hj) (kc j (by omega)))
    · cases h

theorem snap_rel (hr : Rel X σ m a w) (n : Nat) {x : AC} {y : D} {v : Value} (h : snap σ.b n x = some y) (hR : RelC (X.ok m) w σ.b m x v) : RelD (fun _ => True) w y v :=
  snap_rel' hr (fun _ _ => trivial) (fun _ _ => trivial) n h hR

/-- A snapshot of what is pure reads in 'ok' blocks. -/
theorem snap_pure {n : Nat} {x : AC} {y : D} {v : Value} (h : snap σ.b (n + 2) x = some y) (hp : isPure x = true) (hR : RelC (X.ok m) w σ.b m x v) : RelD (X.ok m) w y v := by
  cases x with
  | d z => simp [snap] at h; subst h; exact relC_d hR
  | agg cs =>
    simp only [isPure, List.all_eq_true] at hp
    simp only [snap, Option.map_eq_some_iff] at h
    obtain ⟨ds, hds, rfl⟩ := h
    obtain ⟨h1, h2⟩ := mapM_get hds
    cases hR with
    | agg _ vs k1 kc =>
      refine .agg ds vs (by omega) (fun j hj => ?_)
      have hc := kc j (by omega)
      have hs := h2 j (by omega) hj
      have hq := hp _ (List.getElem_mem (show j < cs.length by omega))
      generalize cs[j]'(by omega) = q at hc hs hq
      cases q with
      | d z => simp at hs; rw [← hs]; exact relC_d hc
      | _ => simp at hq
  | _ => simp [isPure] at hp

/-- Behind a call without effect. -/
theorem call_post (hr : Rel X σ m a w) {g : FuncId} {vs : Array Value} {ds : List D} {res : D} {pure : Bool} (hP : PureFn P g ds res) (hlen : vs.size = ds.length)
    (hT : ∀ j (hj : j < ds.length), RelD (fun _ => True) w (ds[j]) (vs.getD j undef)) (hPu : pure = true → ∀ j (hj : j < ds.length), RelD (X.ok m) w (ds[j]) (vs.getD j undef))
    (hf : pure = true ∨ flatD res = true) (hk : K (.d res) σ.b) (hrun : (execOp a.eval o).run P w = .ok (.enter g vs) w) : Gives P o a w (Post X σ a K) := by
  refine .inr ⟨g, vs, hrun, ?_⟩
  rcases hf with hf | hf
  · refine (hP.2 (X.ok m) w vs hlen (hPu hf)).mono ?_
    rintro e w' ⟨v, rfl, hrel, hfoot⟩
    refine ⟨v, rfl, .d res, σ.b, m, hk, hr.grow hfoot, .d (hrel.mono (Nat.le_refl _) (fun _ _ _ _ h => h) (fun k hk h => ?_))⟩
    rcases h with h | h
    · exact h
    · exact ⟨.inr (Nat.le_trans hr.foot.size h), fun s hl e => by have := hr.blkLt hl; omega⟩
  · refine (hP.2 (fun _ => True) w vs hlen hT).mono ?_
    rintro e w' ⟨v, rfl, hrel, hfoot⟩
    exact ⟨v, rfl, .d res, σ.b, m, hk, hr.grow hfoot, .d (flat_rel hf hrel)⟩

theorem args_rel (hr : Rel X σ m a w) {xs : List Operand} {ys : List Opnd} {ds : List D} (hc : chkOs xs ys = true) (hs : (ys.map (evO σ.t)).mapM (snap σ.b 4) = some ds) :
    (xs.map a.eval).length = ds.length ∧ (∀ j (hj : j < ds.length), RelD (fun _ => True) w (ds[j]) ((xs.map a.eval).getD j undef)) ∧
    ((ys.map (evO σ.t)).all isPure = true → ∀ j (hj : j < ds.length), RelD (X.ok m) w (ds[j]) ((xs.map a.eval).getD j undef)) := by
  obtain ⟨h1, h2⟩ := mapM_get hs
  have hl := chkOs_len hc
  simp only [List.length_map] at h1
  refine ⟨by simp; omega, fun j hj => ?_, fun hp j hj => ?_⟩
  · have e1 := h2 j (by simp; omega) hj
    simp only [List.getElem_map] at e1
    exact snap_rel hr 4 e1 (chkOs_get hr hc j (by omega))
  · have e1 := h2 j (by simp; omega) hj
    have e2 := List.all_eq_true.1 hp ((ys.map (evO σ.t))[j]'(by simp; omega)) (List.getElem_mem _)
    simp only [List.getElem_map] at e1 e2
    exact snap_pure e1 e2 (chkOs_get hr hc j (by omega))

theorem getD_map_toArray (xs : Array Operand) (j : Nat) : ((xs.map a.eval)).getD j undef = (xs.toList.map a.eval).getD j undef := by
  simp [Array.getD_eq_getD_getElem?, List.getD]

theorem op_call {g : FuncId} {xs : List Opnd} (hc : chkA P o.op (.call g xs) = true) (h : opA P (.call g xs) σ K) (hr : Rel X σ m a w) : Gives P o a w (Post X σ a K) := by
  cases hop : o.op <;> rw [hop] at hc <;> simp only [chkA, Bool.false_eq_true] at hc
  rename_i c
  split at hc <;> try (cases hc; done)
  rename_i g' hcal
  simp only [Bool.and_eq_true, beq_iff_eq] at hc
  obtain ⟨rfl, hxs⟩ := hc
  simp only [opA] at h
  split at h <;> try (exact h.elim)
  rename_i ds hds
  obtain ⟨res, hP, hf, hk⟩ := h
  obtain ⟨h1, h2, h3⟩ := args_rel hr hxs hds
  refine call_post (vs := c.args.map a.eval) hr hP (by simpa using h1) (fun j hj => by rw [getD_map_toArray]; exact h2 j hj) (fun hp j hj => by rw [getD_map_toArray]; exact h3 hp j hj) hf hk ?_
  simp [execOp, hop, resolve, hcal, Act.eval, Deferred.ofValue, invoke, run_callFunc hP.1]

theorem getD_append3 {A B C : Array Value} {as bs cs : List D} {R : D → Value → Prop} (ha : A.size = as.length) (hb : B.size = bs.length) (hc : C.size = cs.length)
    (h1 : ∀ j (hj : j < as.length), R (as[j]) (A.getD j undef)) (h2 : ∀ j (hj : j < bs.length), R (bs[j]) (B.getD j undef)) (h3 : ∀ j (hj : j < cs.length), R (cs[j]) (C.getD j undef)) :
    ∀ j (hj : j < (as ++ bs ++ cs).length), R ((as ++ bs ++ cs)[j]) ((A ++ B ++ C).getD j undef) := fun j hj => by
  have hl : j < as.length + bs.length + cs.length := by simpa [Nat.add_assoc] using hj
  by_cases c1 : j < as.length
  · rw [Array.append_assoc, getD_append_left (by omega)]
    simpa [List.getElem_append_left, c1, List.append_assoc] using h1 j c1
  · by_cases c2 : j < as.length + bs.length
    · rw [Array.append_assoc, getD_append_right (by omega), getD_append_left (by omega)]
      have := h2 (j - as.length) (by omega)
      have e : (as ++ bs ++ cs)[j] = bs[j - as.length]'(by omega) := by
        rw [List.getElem_append_left (by simp; omega), List.getElem_append_right (by omega)]
      rw [e, ha]; exact this
    · rw [getD_append_right (by simp; omega)]
      have := h3 (j - (as.length + bs.length)) (by omega)
      have e : (as ++ bs ++ cs)[j] = cs[j - (as.length + bs.length)]'(by omega) := by
        rw [List.getElem_append_right (by simp; omega)]
        congr 1; simp
      rw [e]; simp only [Array.size_append, ha, hb]; exact this

theorem op_calln {g : FuncId} {xs : List Opnd} (hc : chkA P o.op (.calln g xs) = true) (h : opA P (.calln g xs) σ K) (hr : Rel X σ m a w) : Gives P o a w (Post X σ a K) := by
  cases hop : o.op <;> rw [hop] at hc <;> simp only [chkA, Bool.false_eq_true] at hc
  rename_i c
  split at hc <;> try (cases hc; done)
  rename_i g' hcal
  simp only [Bool.and_eq_true, beq_iff_eq] at hc
  obtain ⟨rfl, hxs⟩ := hc
  simp only [opA] at h
  split at h <;> try (exact h.elim)
  rename_i ds hds
  obtain ⟨res, hP, hk⟩ := h
  obtain ⟨h1, h2, _⟩ := args_rel hr hxs hds
  refine .inr ⟨g, c.args.map a.eval, ?_, ?_⟩
  · simp [execOp, hop, resolve, hcal, Act.eval, Deferred.ofValue, invoke, run_callFunc hP.1]
  · refine (hP.2 w (c.args.map a.eval) (by simpa using h1) (fun j hj => by rw [getD_map_toArray]; exact h2 j hj)).mono ?_
    rintro e w' ⟨v, rfl, hrel, hfoot⟩
    refine ⟨v, rfl, .d res, σ.b, m, hk, hr.grow hfoot, .d (hrel.mono (Nat.le_refl _) (fun _ _ _ _ h => h) (fun k hk h => ?_))⟩
    exact ⟨.inr (Nat.le_trans hr.foot.size h), fun s hl e => by have := hr.blkLt hl; omega⟩

theorem op_callv {x : Opnd} {xs : List Opnd} (hc : chkA P o.op (.callv x xs) = true) (h : opA P (.callv x xs) σ K) (hr : Rel X σ m a w) : Gives P o a w (Post X σ a K) := by
  cases hop : o.op <;> rw [hop] at hc <;> simp only [chkA, Bool.false_eq_true] at hc
  rename_i c
  split at hc <;> try (cases hc; done)
  rename_i x' hcal
  simp only [Bool.and_eq_true] at hc
  obtain ⟨hx, hxs⟩ := hc
  simp only [opA] at h
  split at h <;> try (exact h.elim)
  rename_i g first caps ds hclo hds
  obtain ⟨res, hP, hf, hk⟩ := h
  obtain ⟨h1, h2, h3⟩ := args_rel hr hxs hds
  have hRx := chkO_sound hr hx
  have hT := snap_rel hr 4 hclo hRx
  have hPu : isPure (evO σ.t x) = true → RelD (X.ok m) w (.clo g first caps) (a.eval x') := fun hp => snap_pure hclo hp hRx
  generalize hv : a.eval x' = v at hT hPu
  cases hT with
  | clo _ _ _ vf vc k1 k2 kf kc =>
    have hrun : (execOp a.eval o).run P w = .ok (.enter g (vf ++ c.args.map a.eval ++ vc)) w := by
      simp [execOp, hop, resolve, hcal, hv, Deferred.ofValue, invoke, run_callFunc hP.1]
    have hsz : (c.args.map a.eval).size = ds.length := by simpa using h1
    refine call_post (vs := vf ++ c.args.map a.eval ++ vc) hr hP (by simp; simp at hsz; omega) (getD_append3 k1 hsz k2 kf (fun j hj => by rw [getD_map_toArray]; exact h2 j hj) kc) (fun hp => ?_) hf hk hrun
    simp only [List.all_cons, Bool.and_eq_true] at hp
    have hD := hPu hp.1
    cases hD with
    | clo _ _ _ _ _ _ _ kf' kc' =>
      exact getD_append3 k1 hsz k2 kf' (fun j hj => by rw [getD_map_toArray]; exact h3 hp.2 j hj) kc'

/-- **Every operation does what the abstract one says.** -/
theorem op_sound {aop : AOp} (hc : chkA P o.op aop = true) (h : opA P aop σ K) (hr : Rel X σ m a w) : Gives P o a w (Post X σ a K) := by
  cases aop with
  | mv => exact op_mv hc h hr
  | pick => exact op_pick hc h hr
  | bin => exact op_bin hc h hr
  | eqb => exact op_eqb hc h hr
  | eqs => exact op_eqs hc h hr
  | neg => exact op_neg hc h hr
  | xr => exact op_xr hc h hr
  | not => exact op_not hc h hr
  | ld => exact op_ld hc h hr
  | st => exact op_st hc h hr
  | alloc => exact op_alloc hc h hr
  | box => exact op_box hc h hr
  | boxd => exact op_boxd hc h hr
  | fad => exact op_fad hc h hr
  | fld => exact op_fld hc h hr
  | ixa => exact op_ixa hc h hr
  | ixp => exact op_ixp hc h hr
  | ixs => exact op_ixs hc h hr
  | ixv => exact op_ixv hc h hr
  | ext => exact op_ext hc h hr
  | build => exact op_build hc h hr
  | bsl => exact op_bsl hc h hr
  | len => exact op_len hc h hr
  | mx => exact op_mx hc h hr
  | mn => exact op_mn hc h hr
  | cv => exact op_cv hc h hr
  | mkf => exact op_mkf hc h hr
  | mki => exact op_mki hc h hr
  | call => exact op_call hc h hr
  | callv => exact op_callv hc h hr
  | app => exact op_app hc h hr
  | appd => exact op_appd hc h hr
  | mks => exact op_mks hc h hr
  | slc => exact op_slc hc h hr
  | sls => exact op_sls hc h hr
  | nilrow => exact op_nilrow hc h hr
  | eqn => exact op_eqn hc h hr
  | mvf => exact op_mvf hc h hr
  | appz => exact op_appz hc h hr
  | bslr => exact op_bslr hc h hr
  | mkv => exact op_mkv hc h hr
  | calln => exact op_calln hc h hr
  | icall => exact h.elim
  | icallv => exact h.elim
  | yield => exact h.elim
  | bad => exact h.elim

end
end Go.AM
