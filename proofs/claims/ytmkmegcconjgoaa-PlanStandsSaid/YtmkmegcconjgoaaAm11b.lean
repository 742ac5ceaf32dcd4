/- The abstract machine, part 11b: equality of structs. No condition. -/
import Derived.Test.YtmkmegcconjgoaaAm11
import Derived.Laws.StructEq
set_option linter.unusedVariables false
set_option linter.unusedSimpArgs false
namespace Go.AM
open Go
section
variable {P : Program} {X : Ctx} {σ : St} {m : Nat → Loc} {a : Act} {w : World} {o : Oper} {K : AC → (Nat → ABlk) → Prop}

/-- v is the value of type t at an offset of cells. -/
def ValAt (P : Program) (xs : Array Value) (t : TypeId) (off : Nat) (v : Value) : Prop :=
  (∃ i, P.info? t = some i ∧ isAggT P t = some true ∧ off + i.size ≤ xs.size ∧ v = .agg (xs.extract off (off + i.size))) ∨ (isAggT P t = some false ∧ off < xs.size ∧ v = xs.getD off undef)

theorem valAt_part {xs : Array Value} {t : TypeId} {off : Nat} {v : Value} (h : ValAt P xs t off v) {b n : Nat} (hb : off = b + n) {q : Nat} (hq : b + q ≤ xs.size) {j : TypeInfo} (hj : P.info? t = some j) (hnq : n + j.size ≤ q) (h1 : 1 ≤ j.size) :
    (part t (xs.extract b (b + q)) n).run P w = .ok v w := by
  have hs : sizeIs P t j.size = true := by simp [sizeIs, hj]
  rcases h with ⟨i, hi, ht, hle, rfl⟩ | ⟨ht, hlt, rfl⟩
  · rw [hj] at hi; cases hi
    unfold part
    simp only [Sem.run_bind, isAggT_run ht, Result.andThen_ok, if_true, sizeIs_run hs, Sem.run_pure]
    rw [Array.extract_extract]
    have e1 : b + n = off := hb.symm
    have e2 : min (b + (n + j.size)) (b + q) = off + j.size := by omega
    rw [e1, e2]
  · unfold part
    simp only [Sem.run_bind, isAggT_run ht, Result.andThen_ok, Bool.false_eq_true, if_false]
    have hn : n < q := by omega
    have : (xs.extract b (b + q))[n]? = some (xs.getD off undef) := by
      rw [Array.getElem?_extract]
      have : n < min (b + q) xs.size - b := by omega
      rw [if_pos this]
      subst hb
      simp [Array.getD, hlt]
    rw [this]; rfl

theorem eqLeaf_sound {ok : Nat → Prop} {b : Nat → ABlk} {x y : AC} {u v : Value} {r : Bool} {k : Nat} (hx : RelC ok w b m x u) (hy : RelC ok w b m y v) (h : eqLeaf k x y = some r) {t : TypeId} {d : Nat}
    (hu : (k = 0 ∧ ∃ q, P.underlying t = some (.int q)) ∨ k = 1 ∧ P.underlying t = some .bool ∨ k = 2 ∧ P.underlying t = some .string) : (Op.equalIn (d + 1) t u v).run P w = .ok r w := by
  unfold eqLeaf at h
  split at h
  · rename_i k p k' q
    split at h <;> cases h
    rename_i e; subst e
    have e1 := relC_v hx
    have e2 := relC_v hy
    subst e1; subst e2
    rcases hu with ⟨_, k2, hu⟩ | ⟨e, _⟩ | ⟨e, _⟩
    · rw [Op.equalIn, Sem.run_bind, run_underlying' hu]; simp; rfl
    · cases e
    · cases e
  · cases h
    have e1 := relC_v hx
    have e2 := relC_v hy
    subst e1; subst e2
    rcases hu with ⟨e, _⟩ | ⟨_, hu⟩ | ⟨e, _⟩
    · cases e
    · rw [Op.equalIn, Sem.run_bind, run_underlying' hu]; rfl
    · cases e
  · cases h
    have e1 := relC_v hx
    have e2 := relC_v hy
    subst e1; subst e2
    rcases hu with ⟨e, _⟩ | ⟨e, _⟩ | ⟨_, hu⟩
    · cases e
    · cases e
    · rw [Op.equalIn, Sem.run_bind, run_underlying' hu, ← beq_toListBytes]; rfl
  · cases h

theorem eqLeaves_append {cs ds : List AC} : ∀ {l l' : List (Nat × Nat)} {r : Bool}, eqLeaves cs ds (l ++ l') = some r → ∃ p q, eqLeaves cs ds l = some p ∧ eqLeaves cs ds l' = some q ∧ r = (p && q)
  | [], l', r, h => ⟨true, r, rfl, h, by simp⟩
  | (o, k) :: l, l', r, h => by
    simp only [List.cons_append, eqLeaves] at h ⊢
    split at h <;> try (cases h; done)
    rename_i a b ha hb
    split at h <;> try (cases h; done)
    rename_i r1 s1 h1 h2
    obtain ⟨p, q, e1, e2, e3⟩ := eqLeaves_append h2
    cases h
    refine ⟨r1 && p, q, by rw [h1, e1], e2, by rw [e3, Bool.and_assoc]⟩

theorem eq_sound {ok : Nat → Prop} {b : Nat → ABlk} {xs ys : Array Value} {cs ds : List AC} (hx : ∀ j (hj : j < cs.length), RelC ok w b m (cs[j]) (xs.getD j undef)) (hy : ∀ j (hj : j < ds.length), RelC ok w b m (ds[j]) (ys.getD j undef)) :
    ∀ (f : Nat) (t : TypeId) (off : Nat) (ls : List (Nat × Nat)) (r : Bool) (u v : Value) (d : Nat), leavesOf P f t off = some ls → f ≤ d → ValAt P xs t off u → ValAt P ys t off v → eqLeaves cs ds ls = some r → (Op.equalIn d t u v).run P w = .ok r w := by
  intro f
  induction f with
  | zero => intro t off ls r u v d h; simp [leavesOf] at h
  | succ f ih =>
    intro t off ls r u v d h hd hu hv he
    obtain ⟨d, rfl⟩ : ∃ e, d = e + 1 := ⟨d - 1, by omega⟩
    have leaf : ∀ k, ls = [(off, k)] → isAggT P t = some false → ((k = 0 ∧ ∃ q, P.underlying t = some (.int q)) ∨ k = 1 ∧ P.underlying t = some .bool ∨ k = 2 ∧ P.underlying t = some .string) → (Op.equalIn (d + 1) t u v).run P w = .ok r w := fun k hl ht hk => by
      subst hl
      simp only [eqLeaves] at he
      split at he <;> try (cases he; done)
      rename_i p q hp hq
      split at he <;> try (cases he; done)
      rename_i r1 s1 h1 h2
      cases h2; cases he
      rw [Bool.and_true]
      obtain ⟨l1, rfl⟩ := List.getElem?_eq_some_iff.1 hp
      obtain ⟨l2, rfl⟩ := List.getElem?_eq_some_iff.1 hq
      rcases hu with ⟨_, _, e, _⟩ | ⟨_, _, rfl⟩
      · rw [ht] at e; cases e
      rcases hv with ⟨_, _, e, _⟩ | ⟨_, _, rfl⟩
      · rw [ht] at e; cases e
      exact eqLeaf_sound (hx _ l1) (hy _ l2) h1 hk
    unfold leavesOf at h
    split at h
    · rename_i q hq; cases h; exact leaf 0 rfl (by simp [isAggT, hq]) (.inl ⟨rfl, q, hq⟩)
    · rename_i hq; cases h; exact leaf 1 rfl (by simp [isAggT, hq]) (.inr (.inl ⟨rfl, hq⟩))
    · rename_i hq; cases h; exact leaf 2 rfl (by simp [isAggT, hq]) (.inr (.inr ⟨rfl, hq⟩))
    · rename_i fs hq
      split at h <;> try (cases h; done)
      rename_i i hi
      split at h <;> try (cases h; done)
      rename_i hst
      have ht : isAggT P t = some true := by simp [isAggT, hq]
      obtain ⟨i1, hi1, _, hle1, rfl⟩ := hu.resolve_right fun e => by rw [ht] at e; cases e.1
      obtain ⟨i2, hi2, _, hle2, rfl⟩ := hv.resolve_right fun e => by rw [ht] at e; cases e.1
      rw [hi] at hi1 hi2; cases hi1; cases hi2
      have hfo : P.fieldsOf t = fs := by simp [Program.fieldsOf, hq]
      rw [run_equalIn_struct (P := P) w d t _ _ (by rw [hfo]; exact hq) (by simpa using hst), hfo]
      generalize fs.toList = fl at h
      clear leaf hfo hq
      induction fl generalizing ls r with
      | nil => simp at h; subst h; simp [eqLeaves] at he; subst he; simp [Op.eqFields]
      | cons g fl ihf =>
        simp only [List.foldr_cons] at h
        split at h <;> try (cases h; done)
        rename_i j lb hj hlb
        split at h <;> try (cases h; done)
        rename_i hcond
        simp only [Bool.or_eq_true, not_or, decide_eq_true_eq, beq_iff_eq] at hcond
        obtain ⟨⟨hn, hsz⟩, h0⟩ := hcond
        split at h <;> try (cases h; done)
        rename_i la hla
        cases h
        obtain ⟨p, q, e1, e2, rfl⟩ := eqLeaves_append he
        have mk : ∀ (zs : Array Value), off + i.size ≤ zs.size → ∃ z, ValAt P zs g.type (off + g.offset) z := fun zs hz => by
          cases hag : isAggT P g.type with
          | none =>
            exfalso
            cases f with
            | zero => simp [leavesOf] at hla
            | succ f =>
              unfold leavesOf at hla
              unfold isAggT at hag
              split at hla <;> simp_all
          | some ag => cases ag with
            | true => exact ⟨_, .inl ⟨j, hj, hag, by omega, rfl⟩⟩
            | false => exact ⟨_, .inr ⟨hag, by omega, rfl⟩⟩
        obtain ⟨zx, hzx⟩ := mk xs hle1
        obtain ⟨zy, hzy⟩ := mk ys hle2
        have px := valAt_part (w := w) hzx rfl hle1 hj (by omega) (by omega)
        have py := valAt_part (w := w) hzy rfl hle2 hj (by omega) (by omega)
        have hr := ih g.type (off + g.offset) la p zx zy d hla (by omega) hzx hzy e1
        have hrest := ihf lb q e2 hlb
        simp only [Op.eqFields, if_pos hn, Sem.run_bind, px, py, hr, Result.andThen_ok]
        cases p
        · simp
        · simpa using hrest
    · cases h

theorem aggOf_sound {ok : Nat → Prop} {b : Nat → ABlk} {x : AC} {u : Value} {cs : List AC} (hx : RelC ok w b m x u) (h : aggOf x = some cs) : ∃ vs : Array Value, u = .agg vs ∧ vs.size = cs.length ∧ ∀ j (hj : j < cs.length), RelC ok w b m (cs[j]) (vs.getD j undef) := by
  unfold aggOf at h
  split at h
  · cases h; cases hx with | agg _ vs h1 hc => exact ⟨vs, rfl, h1, hc⟩
  · cases h
    cases hx with
    | d hx => cases hx with
      | agg _ vs h1 hc => exact ⟨vs, rfl, by simp [h1], fun j hj => by rw [List.getElem_map]; exact .d (hc j (by simpa using hj))⟩
  · cases h

theorem op_eqs {neg : Bool} {n : Nat} {ls : List (Nat × Nat)} {x y : Opnd} (hc : chkA P o.op (.eqs neg n ls x y) = true) (h : opA P (.eqs neg n ls x y) σ K) (hr : Rel X σ m a w) : Gives P o a w (Post X σ a K) := by
  cases hop : o.op <;> rw [hop] at hc <;> simp only [chkA, Bool.false_eq_true, Bool.and_eq_true, decide_eq_true_eq] at hc
  rename_i op' t x' y' t'
  obtain ⟨⟨⟨⟨⟨rfl, hsh⟩, hg⟩, hls⟩, h2⟩, h3⟩ := hc
  simp only [beq_iff_eq] at hls
  simp only [opA] at h
  split at h <;> try (exact h.elim)
  rename_i cs ds hcs hds
  obtain ⟨hlen1, hlen2, h⟩ := h
  split at h <;> try (exact h.elim)
  rename_i r hrr
  obtain ⟨xs, e1, hxs, hX⟩ := aggOf_sound (chkO_sound hr h2) hcs
  obtain ⟨ys, e2, hys, hY⟩ := aggOf_sound (chkO_sound hr h3) hds
  simp only [chkSh, Bool.and_eq_true, beq_iff_eq] at hsh
  obtain ⟨hag, hsz⟩ := hsh
  have hi : ∃ i, P.info? t = some i ∧ i.size = n := by
    unfold sizeIs at hsz
    split at hsz
    · rename_i i hi; exact ⟨i, hi, by simpa using hsz⟩
    · cases hsz
  obtain ⟨i, hi, hin⟩ := hi
  have v1 : ValAt P xs t 0 (.agg xs) := .inl ⟨i, hi, hag, by omega, by rw [show 0 + i.size = xs.size by omega]; simp⟩
  have v2 : ValAt P ys t 0 (.agg ys) := .inl ⟨i, hi, hag, by omega, by rw [show 0 + i.size = ys.size by omega]; simp⟩
  have hrun : (Op.equal t (.agg xs) (.agg ys)).run P w = .ok r w := eq_sound hX hY 8 t 0 ls r _ _ Op.maxDepth hls (by decide) v1 v2 hrr
  have hge : (eqGuard (if neg = true then .neq else .eql) t x' y' (.agg xs) (.agg ys)).run P w = .ok () w := by
    have hg' : P.eqGuardType P.depth t = false := by simpa using hg
    cases neg <;> simp [eqGuard, hg']
  refine gives_pure hr ?_ h (.d (.v _))
  simp only [execOp, hop, e1, e2, Sem.run_bind, hge, Result.andThen_ok]
  cases neg <;> simp [binOp, hrun]

end
end Go.AM
