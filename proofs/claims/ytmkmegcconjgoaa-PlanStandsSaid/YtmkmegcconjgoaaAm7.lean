/- The abstract machine, part 7: literals, conversions, slices of slices. No condition. -/
import Derived.Test.YtmkmegcconjgoaaAm6
set_option linter.unusedVariables false
set_option linter.unusedSimpArgs false
namespace Go.AM
open Go
section
variable {P : Program} {X : Ctx} {σ : St} {m : Nat → Loc} {a : Act} {w : World} {o : Oper} {K : AC → (Nat → ABlk) → Prop}

theorem op_ixv {sh : Sh} {n esz : Nat} {x i : Opnd} (hc : chkA P o.op (.ixv sh n esz x i) = true) (h : opA P (.ixv sh n esz x i) σ K) (hr : Rel X σ m a w) : Gives P o a w (Post X σ a K) := by
  cases hop : o.op <;> rw [hop] at hc <;> simp only [chkA, Bool.false_eq_true, Bool.and_eq_true] at hc
  rename_i t x' i'
  obtain ⟨⟨hf, hx⟩, hi⟩ := hc
  split at hf <;> try (cases hf; done)
  rename_i n' e hu
  simp only [Bool.and_eq_true, beq_iff_eq] at hf
  obtain ⟨⟨rfl, hf⟩, hsh⟩ := hf
  have hsz := sizeIs_run hf w
  have hR := chkO_sound hr hx
  have hex : ∀ {vs : Array Value} {u : Value} {k : IntKind} {q : Int}, a.eval x' = .agg vs → a.eval i' = .int k q → 0 ≤ q → q < n → (part e vs (q.toNat * esz)).run P w = .ok u w → (execOp a.eval o).run P w = .ok (.value u) w := fun e1 e2 h1 h2 h3 => by
    simp [execOp, hop, e1, e2, Instr.index, run_underlying' hu, asIntOf, h1, h2, hsz, h3]
  simp only [opA] at h
  split at h
  · rename_i cs k q hs' hq
    have hi2 := relC_v (hq ▸ chkO_sound hr hi)
    rw [hs'] at hR
    obtain ⟨h1, h2, h⟩ := h
    generalize hv : a.eval x' = v at hR
    cases hR with
    | agg _ vs hz hrel =>
      obtain ⟨y, u, hk, hrun, hy⟩ := part_gives (Q := fun y => K y σ.b) hsh rfl hz hrel h
      exact gives_pure hr (hex hv hi2 h1 h2 hrun) hk hy
  · rename_i cs k q hs' hq
    have hi2 := relC_v (hq ▸ chkO_sound hr hi)
    rw [hs'] at hR
    obtain ⟨h1, h2, h⟩ := h
    generalize hv : a.eval x' = v at hR
    cases hR with
    | d hD =>
      cases hD with
      | agg _ vs hz hrel =>
        obtain ⟨y, u, hk, hrun, hy⟩ := part_givesD (Q := fun y => K y σ.b) (σ := σ) hsh rfl hz hrel h
        exact gives_pure hr (hex hv hi2 h1 h2 hrun) hk hy
  · exact h.elim

theorem chkOs_len : ∀ {xs : List Operand} {ys : List Opnd}, chkOs xs ys = true → xs.length = ys.length
  | [], [], _ => rfl
  | x :: xs, y :: ys, h => by simp [chkOs] at h; simp [chkOs_len h.2]
theorem chkOs_get (hr : Rel X σ m a w) : ∀ {xs : List Operand} {ys : List Opnd}, chkOs xs ys = true → ∀ j (hj : j < ys.length), RelC (X.ok m) w σ.b m (evO σ.t ys[j]) ((xs.map a.eval).getD j undef)
  | [], [], _, j, hj => by cases hj
  | x :: xs, y :: ys, h, j, hj => by
    simp [chkOs] at h
    cases j with
    | zero => simpa using chkO_sound hr h.1
    | succ j => simpa using chkOs_get hr h.2 j (by simpa using hj)

theorem run_mx2 {mn : Bool} {x y z : AC} {u v : Value} {ok : Nat → Prop} {b : Nat → ABlk} (h : mx2 mn x y = some z) (hx : RelC ok w b m x u) (hy : RelC ok w b m y v) :
    ∃ r, (if mn then Builtin.min2 u v else Builtin.max2 u v).run P w = .ok r w ∧ RelC ok w b m z r := by
  unfold mx2 at h
  split at h <;> try (cases h; done)
  rename_i k p k' q
  split at h <;> try (cases h; done)
  rename_i hk; subst hk; cases h
  have e1 := relC_v hx
  have e2 := relC_v hy
  subst e1; subst e2
  cases mn
  · refine ⟨_, ?_, .d (.v _)⟩
    simp only [Bool.false_eq_true, if_false, Builtin.max2, Sem.run_pure]
    congr 2
    rw [Int.max_def]; split <;> split <;> first | rfl | omega
  · refine ⟨_, ?_, .d (.v _)⟩
    simp only [if_true, Builtin.min2, Sem.run_pure]
    congr 2
    rw [Int.min_def]; split <;> split <;> first | rfl | omega

theorem run_maxC {mn : Bool} : ∀ {ys : List AC} {x r : AC} {u : Value} {us : List Value} {ok : Nat → Prop} {b : Nat → ABlk}, maxC mn x ys = some r → RelC ok w b m x u → us.length = ys.length →
    (∀ j (hj : j < ys.length), RelC ok w b m (ys[j]) (us.getD j undef)) → ∃ v, (us.foldlM (fun u v => if mn then Builtin.min2 u v else Builtin.max2 u v) u : Sem Value).run P w = .ok v w ∧ RelC ok w b m r v
  | [], x, r, u, us, ok, b, h, hx, hl, hy => by
    cases us with
    | nil => simp [maxC] at h; subst h; exact ⟨u, by simp, hx⟩
    | cons => simp at hl
  | y :: ys, x, r, u, us, ok, b, h, hx, hl, hy => by
    cases us with
    | nil => simp at hl
    | cons u' us =>
      unfold maxC at h
      split at h <;> try (cases h; done)
      rename_i z hz
      have hy0 : RelC ok w b m y u' := hy 0 (by simp)
      obtain ⟨v, hv, hrel⟩ := run_mx2 (P := P) hz hx hy0
      obtain ⟨v2, hv2, hrel2⟩ := run_maxC (us := us) h hrel (by simpa using hl) (fun j hj => hy (j + 1) (by simpa using hj))
      refine ⟨v2, ?_, hrel2⟩
      rw [List.foldlM_cons, Sem.run_bind, hv]
      exact hv2

theorem op_mx {x : Opnd} {ys : List Opnd} (hc : chkA P o.op (.mx x ys) = true) (h : opA P (.mx x ys) σ K) (hr : Rel X σ m a w) : Gives P o a w (Post X σ a K) := by
  cases hop : o.op <;> rw [hop] at hc <;> simp only [chkA, Bool.false_eq_true] at hc
  rename_i c
  split at hc <;> try (cases hc; done)
  rename_i x' ys' hcal hargs
  simp only [Bool.and_eq_true] at hc
  simp only [opA] at h
  split at h <;> try (exact h.elim)
  rename_i r hm
  obtain ⟨v, hv, hrel⟩ := run_maxC (P := P) (mn := false) (us := ys'.map a.eval) hm (chkO_sound hr hc.1) (by simp [chkOs_len hc.2]) (fun j hj => by simpa using chkOs_get hr hc.2 j (by simpa using hj))
  simp only [Bool.false_eq_true, if_false] at hv
  refine gives_pure hr ?_ h hrel
  have ha : c.args = (x' :: ys').toArray := by apply Array.ext'; simpa using hargs
  have : (Builtin.max_ c.argTypes o.type (c.args.map a.eval)).run P w = .ok v w := by
    rw [ha]
    simp only [Builtin.max_, List.map_toArray, List.map_cons]
    exact hv
  simp [execOp, hop, resolve, hcal, invoke, builtin, this]

theorem op_mn {x : Opnd} {ys : List Opnd} (hc : chkA P o.op (.mn x ys) = true) (h : opA P (.mn x ys) σ K) (hr : Rel X σ m a w) : Gives P o a w (Post X σ a K) := by
  cases hop : o.op <;> rw [hop] at hc <;> simp only [chkA, Bool.false_eq_true] at hc
  rename_i c
  split at hc <;> try (cases hc; done)
  rename_i x' ys' hcal hargs
  simp only [Bool.and_eq_true] at hc
  simp only [opA] at h
  split at h <;> try (exact h.elim)
  rename_i r hm
  obtain ⟨v, hv, hrel⟩ := run_maxC (P := P) (mn := true) (us := ys'.map a.eval) hm (chkO_sound hr hc.1) (by simp [chkOs_len hc.2]) (fun j hj => by simpa using chkOs_get hr hc.2 j (by simpa using hj))
  simp only [if_true] at hv
  refine gives_pure hr ?_ h hrel
  have ha : c.args = (x' :: ys').toArray := by apply Array.ext'; simpa using hargs
  have : (Builtin.min_ c.argTypes o.type (c.args.map a.eval)).run P w = .ok v w := by
    rw [ha]
    simp only [Builtin.min_, List.map_toArray, List.map_cons]
    exact hv
  simp [execOp, hop, resolve, hcal, invoke, builtin, this]

theorem op_cv {k : IntKind} {x : Opnd} (hc : chkA P o.op (.cv k x) = true) (h : opA P (.cv k x) σ K) (hr : Rel X σ m a w) : Gives P o a w (Post X σ a K) := by
  cases hop : o.op <;> rw [hop] at hc <;> simp only [chkA, Bool.false_eq_true, Bool.and_eq_true] at hc
  rename_i s t x'
  obtain ⟨hf, hx⟩ := hc
  split at hf <;> try (cases hf; done)
  rename_i k1 k2 hu1 hu2
  simp at hf; subst hf
  simp only [opA] at h
  split at h <;> try (exact h.elim)
  rename_i k3 n hn
  have e := relC_v (hn ▸ chkO_sound hr hx)
  exact gives_pure hr (by simp [execOp, hop, e, convert, run_underlying' hu1, run_underlying' hu2, Conv.intToInt]) h (.d (.v _))

theorem op_mki {t : TypeId} {x : Opnd} (hc : chkA P o.op (.mki t x) = true) (h : opA P (.mki t x) σ K) (hr : Rel X σ m a w) : Gives P o a w (Post X σ a K) := by
  cases hop : o.op <;> rw [hop] at hc <;> simp only [chkA, Bool.false_eq_true, Bool.and_eq_true, beq_iff_eq] at hc
  rename_i t' x'
  obtain ⟨⟨rfl, hf⟩, hx⟩ := hc
  simp only [opA] at h
  split at h <;> try (exact h.elim)
  rename_i u hn
  have e := relC_v (hn ▸ chkO_sound hr hx)
  refine gives_pure hr ?_ h.2 (.d (.v _))
  split at hf <;> try (cases hf; done)
  rename_i d hnot hu
  simp only [execOp, hop, e, Instr.makeInterface, Sem.run_bind, run_underlying' hu, Result.andThen_ok]
  cases d <;> first | rfl | exact absurd rfl (hnot _) | exact (hnot _ rfl).elim

theorem toDs_get : ∀ {cs : List AC} {ds : List D}, toDs cs = some ds → cs = ds.map .d
  | [], ds, h => by simp [toDs] at h; subst h; rfl
  | c :: cs, ds, h => by
    cases c with
    | d x =>
      simp only [toDs] at h
      cases hd : toDs cs with
      | none => simp [hd] at h
      | some ds' => simp [hd] at h; subst h; rw [toDs_get hd]; rfl
    | _ => simp [toDs] at h

theorem relC_d {ok : Nat → Prop} {b : Nat → ABlk} {x : D} {v : Value} (h : RelC ok w b m (.d x) v) : RelD ok w x v := by cases h; assumption

theorem op_mkf {g : FuncId} {first caps : List Opnd} (hc : chkA P o.op (.mkf g first caps) = true) (h : opA P (.mkf g first caps) σ K) (hr : Rel X σ m a w) : Gives P o a w (Post X σ a K) := by
  cases hop : o.op <;> rw [hop] at hc <;> try (simp only [chkA, Bool.false_eq_true] at hc; done)
  rename_i fn f' c'
  cases fn <;> simp only [chkA, Bool.false_eq_true, Bool.and_eq_true, beq_iff_eq] at hc
  obtain ⟨⟨rfl, hf⟩, hcp⟩ := hc
  have hrun : (execOp a.eval o).run P w = .ok (.value (.func (.func g) (f'.map a.eval) (c'.map a.eval))) w := by simp [execOp, hop, Instr.makeFunc]
  have key : ∀ {xs : Array Operand} {ys : List Opnd}, chkOs xs.toList ys = true → (xs.map a.eval).size = ys.length ∧ ∀ j (hj : j < ys.length), RelC (X.ok m) w σ.b m (evO σ.t ys[j]) ((xs.map a.eval).getD j undef) := fun hxy => by
    refine ⟨by simpa using chkOs_len hxy, fun j hj => ?_⟩
    have := chkOs_get hr hxy j hj
    have e : ∀ xs : Array Operand, (List.map a.eval xs.toList).getD j undef = (xs.map a.eval).getD j undef := fun xs => by
      simp [List.getD, Array.getD_eq_getD_getElem?]
    rwa [e] at this
  obtain ⟨k1, k2⟩ := key hf
  obtain ⟨k3, k4⟩ := key hcp
  have kD : ∀ {ys : List Opnd} {ds : List D} {vs : Array Value}, toDs (ys.map (evO σ.t)) = some ds → vs.size = ys.length → (∀ j (hj : j < ys.length), RelC (X.ok m) w σ.b m (evO σ.t ys[j]) (vs.getD j undef)) →
      vs.size = ds.length ∧ ∀ j (hj : j < ds.length), RelD (X.ok m) w (ds[j]) (vs.getD j undef) := fun {ys ds vs} hd hz hrel => by
    have he := toDs_get hd
    have hlen : ys.length = ds.length := by have := congrArg List.length he; simpa using this
    refine ⟨hz.trans hlen, fun j hj => relC_d (b := σ.b) (m := m) ?_⟩
    have := hrel j (by omega)
    have e2 : evO σ.t (ys[j]'(by omega)) = .d (ds[j]) := by
      have := congrArg (fun l => l[j]?) he
      simp [hj, show j < ys.length by omega] at this
      exact this
    rwa [e2] at this
  simp only [opA] at h
  split at h
  · rename_i f c h1 h2
    obtain ⟨z1, r1⟩ := kD h1 k1 k2
    obtain ⟨z2, r2⟩ := kD h2 k3 k4
    exact gives_pure hr hrun h (.d (.clo _ _ _ _ _ z1 z2 r1 r2))
  · rename_i f h1 h2
    obtain ⟨z1, r1⟩ := kD h1 k1 k2
    exact gives_pure hr hrun h (.clo _ _ _ _ _ z1 (by simpa using k3) r1 (fun j hj => by simpa using k4 j (by simpa using hj)))
  · exact h.elim

/-! ### Slices of slices -/
theorem run_bound {x : Operand} {y : Opnd} (hxy : chkO x y = true) (hr : Rel X σ m a w) {dflt : Int} {Q : Int → Prop} (h : boundI σ.t (some y) dflt Q) : ∃ k n, a.eval x = .int k n ∧ Q n := by
  simp only [boundI] at h
  split at h
  · rename_i k n hn; exact ⟨k, n, relC_v (hn ▸ chkO_sound hr hxy), h⟩
  · exact h.elim

theorem run_sliceBound {k : IntKind} {n : Int} {y : Nat} {code : BoundsCode} (h0 : 0 ≤ n) (h1 : n ≤ y) : (Instr.sliceBound (.int k n) y code).run P w = .ok n.toNat w := by
  simp [Instr.sliceBound, asIntOf, h0, h1]

theorem run_bounds (hr : Rel X σ m a w) {lo' hi' : Option Operand} {lo hi : Option Opnd} (h1 : chkOpt lo' lo = true) (h2 : chkOpt hi' hi = true) {len cap : Nat} {isS : Bool} (hcap : len ≤ cap) {Q : Int → Int → Prop}
    (h : boundI σ.t lo 0 fun l => boundI σ.t hi len fun h => 0 ≤ l ∧ l ≤ h ∧ h ≤ len ∧ Q l h) :
    ∃ l h : Int, 0 ≤ l ∧ l ≤ h ∧ h ≤ len ∧ Q l h ∧ (Instr.sliceBounds isS len cap (lo'.map a.eval) (hi'.map a.eval) none).run P w = .ok (l.toNat, h.toNat, cap) w := by
  have hH : ∀ l : Int, (boundI σ.t hi len fun h => 0 ≤ l ∧ l ≤ h ∧ h ≤ len ∧ Q l h) → ∃ h : Int, 0 ≤ l ∧ l ≤ h ∧ h ≤ len ∧ Q l h ∧
      ((hi' = none ∧ h = len) ∨ ∃ x k, hi' = some x ∧ a.eval x = .int k h) := fun l hh => by
    cases hi' with
    | none => cases hi with
      | none => simp only [boundI] at hh; exact ⟨_, hh.1, hh.2.1, hh.2.2.1, hh.2.2.2, .inl ⟨rfl, rfl⟩⟩
      | some => simp [chkOpt] at h2
    | some x => cases hi with
      | none => simp [chkOpt] at h2
      | some y =>
        obtain ⟨k, n, e, q⟩ := run_bound h2 hr hh
        exact ⟨n, q.1, q.2.1, q.2.2.1, q.2.2.2, .inr ⟨x, k, rfl, e⟩⟩
  have hL : ∃ l : Int, (boundI σ.t hi len fun h => 0 ≤ l ∧ l ≤ h ∧ h ≤ len ∧ Q l h) ∧ ((lo' = none ∧ l = 0) ∨ ∃ x k, lo' = some x ∧ a.eval x = .int k l) := by
    cases lo' with
    | none => cases lo with
      | none => exact ⟨0, h, .inl ⟨rfl, rfl⟩⟩
      | some => simp [chkOpt] at h1
    | some x => cases lo with
      | none => simp [chkOpt] at h1
      | some y => obtain ⟨k, n, e, q⟩ := run_bound h1 hr h; exact ⟨n, q, .inr ⟨x, k, rfl, e⟩⟩
  obtain ⟨l, hl, hlo⟩ := hL
  obtain ⟨q, h0, hle, hlen, hq, hhi⟩ := hH l hl
  refine ⟨l, q, h0, hle, hlen, hq, ?_⟩
  rcases hhi with ⟨rfl, rfl⟩ | ⟨x, k, rfl, ex⟩ <;> rcases hlo with ⟨rfl, rfl⟩ | ⟨y, k2, rfl, ey⟩
  · simp [Instr.sliceBounds]
  · have hb := run_sliceBound (P := P) (w := w) (k := k2) (n := l) (y := len) (code := .sliceB) h0 (by omega)
    simp [Instr.sliceBounds, ey, hb]
  · have hb : ∀ code, (Instr.sliceBound (.int k q) cap code).run P w = .ok q.toNat w := fun code => run_sliceBound (by omega) (by omega)
    simp [Instr.sliceBounds, ex, hb]
  · have hb : ∀ code, (Instr.sliceBound (.int k q) cap code).run P w = .ok q.toNat w := fun code => run_sliceBound (by omega) (by omega)
    have hb2 : ∀ code, (Instr.sliceBound (.int k2 l) q.toNat code).run P w = .ok l.toNat w := fun code => run_sliceBound h0 (by omega)
    simp [Instr.sliceBounds, ex, ey, hb, hb2]

theorem op_slc {esz : Nat} {x : Opnd} {lo hi : Option Opnd} (hc : chkA P o.op (.slc esz x lo hi) = true) (h : opA P (.slc esz x lo hi) σ K) (hr : Rel X σ m a w) : Gives P o a w (Post X σ a K) := by
  cases hop : o.op <;> rw [hop] at hc <;> try (simp only [chkA, Bool.false_eq_true] at hc; done)
  rename_i t x' lo' hi' mx
  cases mx <;> simp only [chkA, Bool.false_eq_true, Bool.and_eq_true] at hc
  obtain ⟨⟨⟨hf, hx⟩, h1⟩, h2⟩ := hc
  split at hf <;> try (cases hf; done)
  rename_i e hu
  have hsz := sizeIs_run hf w
  have hR := chkO_sound hr hx
  have hex : ∀ {A : Option Addr} {len cap l q : Nat}, a.eval x' = .slice A len cap → (Instr.sliceBounds true len cap (lo'.map a.eval) (hi'.map a.eval) none).run P w = .ok (l, q, cap) w →
      (execOp a.eval o).run P w = .ok (.value (.slice (if cap = l then A else A.map (·.add (l * esz))) (q - l) (cap - l))) w := fun e1 e2 => by
    have e2' : (Instr.sliceBounds true _ _ (lo'.map a.eval) (hi'.map a.eval) (Option.map a.eval none)).run P w = _ := e2
    simp only [execOp, hop, e1, Instr.sliceAt, Instr.slice, Sem.run_bind, run_underlying' hu, Result.andThen_ok, e2', hsz, Sem.run_pure]
  simp only [opA] at h
  split at h <;> try (exact h.elim)
  · rename_i xs hxs
    rw [hxs] at hR
    generalize hv : a.eval x' = v at hR
    cases hR with
    | d hD =>
      cases hD with
      | empty A cap =>
        obtain ⟨l, q, h0, hle, hlen, hq, hrun⟩ := run_bounds (P := P) (isS := true) hr h1 h2 (Nat.zero_le cap) (by simpa using h)
        simp at hlen
        have e0 : l = 0 := by omega
        have e1 : q = 0 := by omega
        subst e0; subst e1
        refine gives_pure hr (hex hv hrun) hq.2 ?_
        simp
        exact .d (.empty _ _)
      | list _ B off cap esz' f hok hB hcap hsz' hcell hone hrel =>
        obtain ⟨l, q, h0, hle, hlen, ⟨hes, hq⟩, hrun⟩ := run_bounds (P := P) (isS := true) hr h1 h2 hcap h
        refine gives_pure hr (hex hv hrun) hq (.d ?_)
        by_cases he : l = q
        · subst he
          simp only [Nat.sub_self, List.take_zero]
          exact .empty _ _
        · have hlt : l.toNat < q.toNat := by omega
          have hne : ¬ cap = l.toNat := by omega
          rw [if_neg hne]
          have hesz : esz' = esz := by
            have e1 := hes (by omega)
            have hl2 : l.toNat < xs.length := by omega
            have e2 := hsz' l.toNat hl2
            have e3 : xs.getD l.toNat [] = xs[l.toNat] := by simp [List.getD, hl2]
            rw [e3] at e1; omega
          subst hesz
          simp only [Option.map_some, add_plain]
          have hlen2 : ((xs.drop l.toNat).take (q.toNat - l.toNat)).length = q.toNat - l.toNat := by simp; omega
          have := RelD.list (ok := X.ok m) (w := w) ((xs.drop l.toNat).take (q.toNat - l.toNat)) B (off + l.toNat * esz') (cap - l.toNat) esz' (fun i j => f (l.toNat + i) j) hok hB (by omega)
            (fun j hj => by simpa using hsz' (l.toNat + j) (by simp at hj; omega))
            (fun j k hj hk => by
              have := hcell (l.toNat + j) k (by simp at hj; omega) hk
              rwa [Nat.add_mul, Nat.add_assoc (l.toNat * esz'), ← Nat.add_assoc off] at this)
            (fun j k hj hk => hone (l.toNat + j) k (by simp at hj; omega) hk)
            (fun j k hj hk => by simpa using hrel (l.toNat + j) k (by simp at hj; omega) (by simpa using hk))
          rwa [hlen2] at this
  · rename_i s off len tot hxs
    rw [hxs] at hR
    obtain ⟨rfl, h⟩ := h
    have hlo : lo' = none := by cases lo' with
      | none => rfl
      | some => simp [chkOpt] at h1
    subst hlo
    generalize hv : a.eval x' = v at hR
    have hb' : ∃ els, σ.b s = .row esz els ∧ tot = els.length := by
      have : ∀ {q : Int → Prop}, (boundI σ.t hi len fun h => 0 ≤ h ∧ h ≤ len ∧ q h) → ∃ h, q h := fun {q} hh => by
        unfold boundI at hh
        split at hh
        · exact ⟨_, hh.2.2⟩
        · split at hh
          · exact ⟨_, hh.2.2⟩
          · exact hh.elim
      obtain ⟨n, hn⟩ := this h
      split at hn <;> try (exact hn.elim)
      rename_i esz' els hb
      obtain ⟨rfl, ht, _⟩ := hn
      exact ⟨els, hb, ht⟩
    obtain ⟨els, hb, ht⟩ := hb'
    simp only [hb] at h
    have hcap : ∃ A cap, v = .slice A len cap ∧ len ≤ cap ∧ ∀ n, n ≤ len → RelC (X.ok m) w σ.b m (.row s off n tot) (.slice A n cap) ∧ (∀ k, A.map (·.add (0 * k)) = A) := by
      rcases row_val hR hb ht with ⟨hl, hle, rfl⟩ | ⟨hl, rfl, rfl, rfl, rfl⟩
      · rcases slot_row hr hb with ⟨hl', _⟩ | ⟨_, c, e', hh, hz, hcap, _⟩
        · rw [hl] at hl'; cases hl'
        · refine ⟨_, _, rfl, by omega, fun n hn => ⟨?_, fun k => by simp [add_plain]⟩⟩
          rw [ht]; exact .row s off n esz els hb hl (by omega)
      · refine ⟨none, 0, rfl, by omega, fun n hn => ⟨?_, fun k => rfl⟩⟩
        have : n = 0 := by omega
        subst this
        rw [ht]; exact .rowNil s esz hb hl
    obtain ⟨A, cap, rfl, hc1, hrel⟩ := hcap
    obtain ⟨l, q, h0, hle, hlen, ⟨rfl, hq⟩, hrun⟩ := run_bounds (P := P) (isS := true) (w := w) (Q := fun l h => l = 0 ∧ K (.row s off h.toNat tot) σ.b) (lo := none) hr h1 h2 hc1 (by
      simp only [boundI] at h ⊢
      split at h
      · exact ⟨Int.le_refl _, h.1, h.2.1, trivial, h.2.2.2.2⟩
      · split at h
        · exact ⟨Int.le_refl _, h.1, h.2.1, trivial, h.2.2.2.2⟩
        · exact h.elim)
    refine gives_pure hr (hex hv hrun) hq ?_
    have := hrel q.toNat (by omega)
    have e0 : (0 : Int).toNat = 0 := rfl
    rw [e0, this.2, ite_self, Nat.sub_zero, Nat.sub_zero]
    exact this.1

theorem op_sls {x : Opnd} {lo hi : Option Opnd} (hc : chkA P o.op (.sls x lo hi) = true) (h : opA P (.sls x lo hi) σ K) (hr : Rel X σ m a w) : Gives P o a w (Post X σ a K) := by
  cases hop : o.op <;> rw [hop] at hc <;> try (simp only [chkA, Bool.false_eq_true] at hc; done)
  rename_i t x' lo' hi' mx
  cases mx <;> simp only [chkA, Bool.false_eq_true, Bool.and_eq_true] at hc
  obtain ⟨⟨⟨hf, hx⟩, h1⟩, h2⟩ := hc
  split at hf <;> try (cases hf; done)
  rename_i hu
  have hR := chkO_sound hr hx
  simp only [opA] at h
  split at h <;> try (exact h.elim)
  rename_i s hxs
  have hv := relC_v (hxs ▸ hR)
  obtain ⟨l, q, h0, hle, hlen, hq, hrun⟩ := run_bounds (P := P) (isS := false) hr h1 h2 (Nat.le_refl s.size) h
  refine gives_pure hr ?_ hq (.d (.v _))
  have e2' : (Instr.sliceBounds false s.size s.size (lo'.map a.eval) (hi'.map a.eval) none).run P w = _ := hrun
  simp only [execOp, hop, hv, Instr.sliceAt, Instr.slice, Sem.run_bind, run_underlying' hu, Result.andThen_ok, Option.map_none, Option.isSome_none, Bool.false_eq_true, if_false, e2', Sem.run_pure]
end
end Go.AM
