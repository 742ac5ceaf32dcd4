/- The abstract machine, part 14: an operation yields one thing, and looks at its operands and at slots that are not given up alone. No condition. -/
import Derived.Test.YtmkmegcconjgoaaAm12
set_option linter.unusedVariables false
set_option linter.unusedSimpArgs false
namespace Go.AM
open Go

def rdO : Opnd → List Nat
  | .t n => [n]
  | _ => []
def rdOpt : Option Opnd → List Nat
  | some x => rdO x
  | none => []

def AOp.rds : AOp → List Nat
  | .mv x => rdO x
  | .pick c x y => rdO c ++ rdO x ++ rdO y
  | .bin _ x y => rdO x ++ rdO y
  | .eqb _ x y => rdO x ++ rdO y
  | .eqs _ _ _ x y => rdO x ++ rdO y
  | .neg x => rdO x
  | .xr x => rdO x
  | .not x => rdO x
  | .ld _ x _ => rdO x
  | .st _ _ x y => rdO x ++ rdO y
  | .alloc _ _ _ => []
  | .box _ _ x => rdO x
  | .boxd _ x => rdO x
  | .fad _ x => rdO x
  | .fld _ _ x => rdO x
  | .ixa _ x i => rdO x ++ rdO i
  | .ixp _ _ x i => rdO x ++ rdO i
  | .ixs x i => rdO x ++ rdO i
  | .ixv _ _ _ x i => rdO x ++ rdO i
  | .ext x _ => rdO x
  | .build _ ps => ps.flatMap fun p => rdO p.2.2
  | .bsl _ _ xs => xs.flatMap rdO
  | .len _ x => rdO x
  | .mx x ys => rdO x ++ ys.flatMap rdO
  | .mn x ys => rdO x ++ ys.flatMap rdO
  | .cv _ x => rdO x
  | .mkf _ f c => f.flatMap rdO ++ c.flatMap rdO
  | .mki _ x => rdO x
  | .call _ xs => xs.flatMap rdO
  | .callv x xs => rdO x ++ xs.flatMap rdO
  | .app _ _ x y => rdO x ++ rdO y
  | .appd _ _ x y => rdO x ++ rdO y
  | .mks _ _ _ x => rdO x
  | .slc _ x lo hi => rdO x ++ rdOpt lo ++ rdOpt hi
  | .sls x lo hi => rdO x ++ rdOpt lo ++ rdOpt hi
  | .nilrow _ _ => []
  | .eqn _ x => rdO x
  | .mvf _ x => rdO x
  | .appz _ _ x y => rdO x ++ rdO y
  | .bslr _ _ _ xs => xs.flatMap rdO
  | .mkv _ _ x => rdO x
  | .calln _ xs => xs.flatMap rdO
  | .icall _ _ _ xs => xs.flatMap rdO
  | .icallv _ _ x xs => rdO x ++ xs.flatMap rdO
  | .yield _ _ x xs => rdO x ++ xs.flatMap rdO
  | .bad => []

def AOp.ws : AOp → List Nat
  | .st s .. => [s]
  | .alloc s .. => [s]
  | .box s .. => [s]
  | .app s .. => [s]
  | .appd ss .. => ss
  | .mks s .. => [s]
  | .nilrow s _ => [s]
  | .mvf s _ => [s]
  | .appz s .. => [s]
  | .bslr s .. => [s]
  | .mkv s .. => [s]
  | _ => []

theorem evO_congr {t t2 : Nat → AC} {x : Opnd} (h : ∀ i ∈ rdO x, t2 i = t i) : evO t2 x = evO t x := by
  cases x <;> first | rfl | exact h _ (by simp [rdO])
theorem evOs_congr {t t2 : Nat → AC} {xs : List Opnd} (h : ∀ i ∈ xs.flatMap rdO, t2 i = t i) : xs.map (evO t2) = xs.map (evO t) :=
  List.map_congr_left fun x hx => evO_congr fun i hi => h i (List.mem_flatMap.2 ⟨x, hx, hi⟩)

/-- More is known of the slots. -/
def Wider (b b2 : Nat → ABlk) : Prop := ∀ s, b s = .dead ∨ b2 s = b s
theorem Wider.get {b b2 : Nat → ABlk} (h : Wider b b2) {s : Nat} {x : ABlk} (e : b s = x) (hx : x ≠ .dead) : b2 s = x := by
  rcases h s with k | k
  · rw [e] at k; exact absurd k hx
  · rw [k, e]

theorem stands_wider {b b2 : Nat → ABlk} (h : Wider b b2) {x : AC} (hs : standsB b x = true) : standsB b2 x = true := by
  cases x <;> simp only [standsB] at hs ⊢ <;> try exact hs
  all_goals
    split at hs <;> try (cases hs; done)
    rename_i e
    rw [h.get e (by simp)]
    try simpa using hs
theorem standsAll_wider {b b2 : Nat → ABlk} (h : Wider b b2) {us : List AC} (hs : us.all (standsB b) = true) : us.all (standsB b2) = true := by
  rw [List.all_eq_true] at *
  exact fun x hx => stands_wider h (hs x hx)

theorem mapM_imp {α β : Type} {f g : α → Option β} (h : ∀ x y, f x = some y → g x = some y) : ∀ {xs : List α} {ys : List β}, xs.mapM f = some ys → xs.mapM g = some ys
  | [], ys, e => by simpa using e
  | x :: xs, ys, e => by
    simp only [List.mapM_cons, Option.bind_eq_bind, Option.pure_def] at e ⊢
    cases hx : f x with
    | none => simp [hx] at e
    | some y =>
      cases hxs : xs.mapM f with
      | none => simp [hx, hxs] at e
      | some ys' =>
        simp [hx, hxs] at e
        simp [h x y hx, mapM_imp h hxs, e]

theorem snap_wider {b b2 : Nat → ABlk} (h : Wider b b2) : ∀ (n : Nat) (x : AC) (y : D), snap b n x = some y → snap b2 n x = some y
  | 0, x, y, e => by simp [snap] at e
  | n + 1, x, y, e => by
    cases x with
    | d z => simpa [snap] using e
    | row s off len tot =>
      simp only [snap] at e ⊢
      split at e <;> try (cases e; done)
      rename_i he
      rw [h.get he (by simp)]; exact e
    | ptr s off =>
      simp only [snap] at e ⊢
      split at e <;> try (cases e; done)
      rename_i he
      rw [h.get he (by simp)]
      simp only [Option.map_eq_some_iff] at e ⊢
      obtain ⟨ds, h1, h2⟩ := e
      exact ⟨ds, mapM_imp (snap_wider h n) h1, h2⟩
    | vs s off len =>
      simp only [snap] at e ⊢
      split at e <;> try (cases e; done)
      rename_i he
      rw [h.get he (by simp)]
      split at e <;> try (cases e; done)
      rename_i hle
      simp only [hle, if_true, Option.map_eq_some_iff] at e ⊢
      obtain ⟨ds, h1, h2⟩ := e
      exact ⟨ds, mapM_imp (snap_wider h n) h1, h2⟩
    | clo g first caps =>
      simp only [snap, Option.map_eq_some_iff] at e ⊢
      obtain ⟨ds, h1, h2⟩ := e
      exact ⟨ds, mapM_imp (snap_wider h n) h1, h2⟩
    | agg cs =>
      simp only [snap, Option.map_eq_some_iff] at e ⊢
      obtain ⟨ds, h1, h2⟩ := e
      exact ⟨ds, mapM_imp (snap_wider h n) h1, h2⟩
    | _ => simp [snap] at e

theorem fillC_wider {b b2 : Nat → ABlk} (h : Wider b b2) {t t2 : Nat → AC} : ∀ {ps : List (Nat × Sh × Opnd)} {cs out : List AC}, (∀ i ∈ ps.flatMap (fun p => rdO p.2.2), t2 i = t i) → fillC b t cs ps = some out → fillC b2 t2 cs ps = some out
  | [], cs, out, _, e => by simpa [fillC] using e
  | (off, sh, x) :: ps, cs, out, ht, e => by
    have e1 : evO t2 x = evO t x := evO_congr fun i hi => ht i (by simp [hi])
    simp only [fillC, e1] at e ⊢
    split at e <;> try (cases e; done)
    rename_i us hus
    split at e <;> try (cases e; done)
    rename_i hc
    rw [if_pos ⟨standsAll_wider h hc.1, hc.2⟩]
    exact fillC_wider h (fun i hi => ht i (by simp only [List.flatMap_cons, List.mem_append]; exact .inr hi)) e

theorem elsC_wider {b b2 : Nat → ABlk} (h : Wider b b2) {t t2 : Nat → AC} {sh : Sh} : ∀ {xs : List Opnd} {out : List (List D)}, (∀ i ∈ xs.flatMap rdO, t2 i = t i) → elsC b t sh xs = some out → elsC b2 t2 sh xs = some out
  | [], out, _, e => by simpa [elsC] using e
  | x :: xs, out, ht, e => by
    have e1 : evO t2 x = evO t x := evO_congr fun i hi => ht i (by simp [hi])
    simp only [elsC, e1] at e ⊢
    split at e <;> try (cases e; done)
    rename_i us hus
    split at e <;> try (cases e; done)
    rename_i hc
    rw [if_pos (standsAll_wider h hc)]
    split at e <;> try (cases e; done)
    rename_i ds es h1 h2
    rw [h1, elsC_wider h (fun i hi => ht i (by simp only [List.flatMap_cons, List.mem_append]; exact .inr hi)) h2]
    exact e

theorem addsC_wider {b b2 : Nat → ABlk} (h : Wider b b2) {x : AC} {ys : List (List D)} (e : addsC b x = some ys) : addsC b2 x = some ys := by
  unfold addsC at e ⊢
  split at e
  · exact e
  · exact e
  · split at e <;> try (cases e; done)
    rename_i he
    rw [h.get he (by simp)]; exact e
  · cases e

def App (ch : Option (Nat × ABlk)) (b : Nat → ABlk) : Nat → ABlk := match ch with | none => b | some (s, x) => upd b s x

/-- A predicate over what is yielded holds by one thing. -/
def PtV (F : (AC → Prop) → Prop) : Prop := ∀ K, F K → ∃ y, K y ∧ ∀ K', K' y → F K'

theorem intA_pt (op : BinOp) (k : IntKind) (a : Int) (k' : IntKind) (b : Int) : PtV (intA op k a k' b) := by
  intro K h
  cases op <;> simp only [intA] at h ⊢ <;>
    first
    | exact ⟨_, h.2.2, fun K' hk => ⟨h.1, h.2.1, hk⟩⟩
    | exact ⟨_, h.2, fun K' hk => ⟨h.1, hk⟩⟩
theorem strA_pt (op : BinOp) (a b : ByteArray) : PtV (strA op a b) := by
  intro K h
  cases op <;> simp only [strA] at h ⊢ <;>
    first
    | exact ⟨_, h.2, fun K' hk => ⟨h.1, hk⟩⟩
    | exact ⟨_, h, fun K' hk => hk⟩
theorem binA_pt (op : BinOp) (x y : AC) : PtV (binA op x y) := by
  intro K h
  unfold binA at h ⊢
  split at h
  · exact intA_pt _ _ _ _ _ K h
  · exact strA_pt _ _ _ K h
  · exact h.elim

theorem boundI_pt {t : Nat → AC} {x : Option Opnd} {d : Int} {K : Int → Prop} (h : boundI t x d K) : ∃ n, K n ∧ ∀ (t2 : Nat → AC), (∀ i ∈ rdOpt x, t2 i = t i) → ∀ K' : Int → Prop, K' n → boundI t2 x d K' := by
  cases x with
  | none => exact ⟨d, h, fun t2 ht K' hk => hk⟩
  | some o =>
    simp only [boundI] at h
    split at h
    · rename_i n he
      refine ⟨n, h, fun t2 ht K' hk => ?_⟩
      have e : evO t2 o = evO t o := evO_congr ht
      simp only [boundI, e, he]; exact hk
    · exact h.elim

/-- What an operation yields, and what it would where as much is known. -/
def Pt (P : Program) (op : AOp) (t : Nat → AC) (b : Nat → ABlk) (K : AC → (Nat → ABlk) → Prop) : Prop :=
  ∃ y ch, K y (App ch b) ∧ (∀ s x, ch = some (s, x) → s ∈ op.ws ∧ b s ≠ .dead) ∧
    ∀ t2 b2 (K' : AC → (Nat → ABlk) → Prop), (∀ i ∈ op.rds, t2 i = t i) → Wider b b2 → K' y (App ch b2) → opA P op ⟨t2, b2⟩ K'

section
variable {P : Program} {t : Nat → AC} {b : Nat → ABlk} {K : AC → (Nat → ABlk) → Prop}
theorem noCh {op : AOp} {b : Nat → ABlk} : ∀ s x, (none : Option (Nat × ABlk)) = some (s, x) → s ∈ op.ws ∧ b s ≠ .dead := fun _ _ h => by cases h

theorem pt_ld {sh : Sh} {x : Opnd} {av : List Nat} (h : opA P (.ld sh x av) ⟨t, b⟩ K) : Pt P (.ld sh x av) t b K := by
  simp only [opA] at h
  split at h
  · rename_i s off hx
    obtain ⟨hav, h⟩ := h
    split at h <;> try (exact h.elim)
    rename_i cs hb
    split at h
    · split at h <;> try (exact h.elim)
      rename_i c hc
      refine ⟨_, none, h, noCh, fun t2 b2 K' ht hw hk => ?_⟩
      have e := evO_congr (x := x) ht
      simp only [opA, e, hx, hw.get hb (by simp), hc]; exact ⟨hav, hk⟩
    · refine ⟨_, none, h.2, noCh, fun t2 b2 K' ht hw hk => ?_⟩
      have e := evO_congr (x := x) ht
      simp only [opA, e, hx, hw.get hb (by simp)]; exact ⟨hav, h.1, hk⟩
  · rename_i cs hx
    split at h
    · split at h <;> try (exact h.elim)
      refine ⟨_, none, h, noCh, fun t2 b2 K' ht hw hk => ?_⟩
      have e := evO_congr (x := x) ht
      simp only [opA, e, hx]; exact hk
    · refine ⟨_, none, h.2, noCh, fun t2 b2 K' ht hw hk => ?_⟩
      have e := evO_congr (x := x) ht
      simp only [opA, e, hx]; exact ⟨h.1, hk⟩
  · rename_i s i j tot hx
    obtain ⟨hav, h⟩ := h
    split at h <;> try (exact h.elim)
    rename_i esz els hb
    obtain ⟨h1, h2, h⟩ := h
    split at h
    · split at h <;> try (exact h.elim)
      rename_i c hc
      refine ⟨_, none, h, noCh, fun t2 b2 K' ht hw hk => ?_⟩
      have e := evO_congr (x := x) ht
      simp only [opA, e, hx, hw.get hb (by simp), hc]; exact ⟨hav, h1, h2, hk⟩
    · refine ⟨_, none, h.2, noCh, fun t2 b2 K' ht hw hk => ?_⟩
      have e := evO_congr (x := x) ht
      simp only [opA, e, hx, hw.get hb (by simp)]; exact ⟨hav, h1, h2, h.1, hk⟩
  · exact h.elim

theorem pt_st {s : Nat} {sh : Sh} {x y : Opnd} (h : opA P (.st s sh x y) ⟨t, b⟩ K) : Pt P (.st s sh x y) t b K := by
  simp only [opA] at h
  split at h <;> try (exact h.elim)
  · rename_i s' off us hx hus
    obtain ⟨rfl, h1, h⟩ := h
    split at h <;> try (exact h.elim)
    rename_i cs hb
    refine ⟨_, some (_, _), h.2, fun s x e => ?_, fun t2 b2 K' ht hw hk => ?_⟩
    · cases e; exact ⟨by simp [AOp.ws], by rw [hb]; simp⟩
    · have e1 : evO t2 x = evO t x := evO_congr fun i hi => ht i (by simp [AOp.rds, hi])
      have e2 : evO t2 y = evO t y := evO_congr fun i hi => ht i (by simp [AOp.rds, hi])
      simp only [opA, e1, e2, hx, hus, hw.get hb (by simp)]; exact ⟨trivial, standsAll_wider hw h1, h.1, hk⟩
  · rename_i s' i j tot us hx hus
    obtain ⟨rfl, h1, h⟩ := h
    split at h <;> try (exact h.elim)
    rename_i esz els ds hb hds
    refine ⟨_, some (_, _), h.2.2.2, fun s x e => ?_, fun t2 b2 K' ht hw hk => ?_⟩
    · cases e; exact ⟨by simp [AOp.ws], by rw [hb]; simp⟩
    · have e1 : evO t2 x = evO t x := evO_congr fun i hi => ht i (by simp [AOp.rds, hi])
      have e2 : evO t2 y = evO t y := evO_congr fun i hi => ht i (by simp [AOp.rds, hi])
      simp only [opA, e1, e2, hx, hus, hw.get hb (by simp), hds]; exact ⟨trivial, standsAll_wider hw h1, h.1, h.2.1, h.2.2.1, hk⟩

theorem appA_pt {s esz : Nat} {x y : Opnd} (h : appA ⟨t, b⟩ s esz x y K) : ∃ y' ch, K y' (App ch b) ∧ (∀ s' z, ch = some (s', z) → s' = s ∧ b s' ≠ .dead) ∧
    ∀ t2 b2 (K' : AC → (Nat → ABlk) → Prop), (∀ i ∈ rdO x ++ rdO y, t2 i = t i) → Wider b b2 → K' y' (App ch b2) → appA ⟨t2, b2⟩ s esz x y K' := by
  simp only [appA] at h
  split at h <;> try (exact h.elim)
  rename_i ys hys
  obtain ⟨h1, h⟩ := h
  split at h <;> try (exact h.elim)
  · rename_i s' off len tot hx
    obtain ⟨rfl, h2, h3, h⟩ := h
    split at h <;> try (exact h.elim)
    rename_i esz' els hb
    obtain ⟨h4, h5, h6, h⟩ := h
    refine ⟨_, some (_, _), h, fun s x e => ?_, fun t2 b2 K' ht hw hk => ?_⟩
    · cases e; exact ⟨rfl, by rw [hb]; simp⟩
    · have e1 : evO t2 x = evO t x := evO_congr fun i hi => ht i (by simp [hi])
      have e2 : evO t2 y = evO t y := evO_congr fun i hi => ht i (by simp [hi])
      simp only [appA, e1, e2, hx, addsC_wider hw hys, hw.get hb (by simp)]; exact ⟨h1, trivial, h2, h3, h4, h5, h6, hk⟩
  · rename_i hx
    split at h <;> try (exact h.elim)
    rename_i hb
    refine ⟨_, some (_, _), h.2, fun s x e => ?_, fun t2 b2 K' ht hw hk => ?_⟩
    · cases e; exact ⟨rfl, by rw [hb]; simp⟩
    · have e1 : evO t2 x = evO t x := evO_congr fun i hi => ht i (by simp [hi])
      have e2 : evO t2 y = evO t y := evO_congr fun i hi => ht i (by simp [hi])
      simp only [appA, e1, e2, hx, addsC_wider hw hys, hw.get hb (by simp)]; exact ⟨h1, h.1, hk⟩

theorem pt_app {s esz : Nat} {x y : Opnd} (h : opA P (.app s esz x y) ⟨t, b⟩ K) : Pt P (.app s esz x y) t b K := by
  obtain ⟨v, ch, h1, h2, h3⟩ := appA_pt h
  exact ⟨v, ch, h1, fun s' z e => ⟨by simp [AOp.ws, (h2 s' z e).1], (h2 s' z e).2⟩, h3⟩
theorem pt_appd {ss : List Nat} {esz : Nat} {x y : Opnd} (h : opA P (.appd ss esz x y) ⟨t, b⟩ K) : Pt P (.appd ss esz x y) t b K := by
  obtain ⟨s, hs, h⟩ := h
  obtain ⟨v, ch, h1, h2, h3⟩ := appA_pt h
  exact ⟨v, ch, h1, fun s' z e => ⟨by simp only [AOp.ws]; rw [(h2 s' z e).1]; exact hs, (h2 s' z e).2⟩, fun t2 b2 K' ht hw hk => ⟨s, hs, h3 t2 b2 K' ht hw hk⟩⟩

theorem appZ_pt {s esz : Nat} {x y : Opnd} (h : appZ ⟨t, b⟩ s esz x y K) : ∃ y' ch, K y' (App ch b) ∧ (∀ s' z, ch = some (s', z) → s' = s ∧ b s' ≠ .dead) ∧
    ∀ t2 b2 (K' : AC → (Nat → ABlk) → Prop), (∀ i ∈ rdO x ++ rdO y, t2 i = t i) → Wider b b2 → K' y' (App ch b2) → appZ ⟨t2, b2⟩ s esz x y K' := by
  simp only [appZ] at h
  split at h <;> try (exact h.elim)
  rename_i ys hys
  obtain ⟨h1, h⟩ := h
  split at h <;> try (exact h.elim)
  · rename_i s' off len tot hx
    obtain ⟨rfl, h2, h3, h⟩ := h
    split at h <;> try (exact h.elim)
    rename_i esz' els hb
    obtain ⟨h4, h5, h6, h⟩ := h
    refine ⟨_, some (_, _), h, fun s x e => ?_, fun t2 b2 K' ht hw hk => ?_⟩
    · cases e; exact ⟨rfl, by rw [hb]; simp⟩
    · have e1 : evO t2 x = evO t x := evO_congr fun i hi => ht i (by simp [hi])
      have e2 : evO t2 y = evO t y := evO_congr fun i hi => ht i (by simp [hi])
      simp only [appZ, e1, e2, hx, addsC_wider hw hys, hw.get hb (by simp)]; exact ⟨h1, trivial, h2, h3, h4, h5, h6, hk⟩
  · rename_i hx
    split at h <;> try (exact h.elim)
    rename_i hb
    refine ⟨_, some (_, _), h.2, fun s x e => ?_, fun t2 b2 K' ht hw hk => ?_⟩
    · cases e; exact ⟨rfl, by rw [hb]; simp⟩
    · have e1 : evO t2 x = evO t x := evO_congr fun i hi => ht i (by simp [hi])
      have e2 : evO t2 y = evO t y := evO_congr fun i hi => ht i (by simp [hi])
      simp only [appZ, e1, e2, hx, addsC_wider hw hys, hw.get hb (by simp)]; exact ⟨h1, h.1, hk⟩

theorem pt_appz {s esz : Nat} {x y : Opnd} (h : opA P (.appz s esz x y) ⟨t, b⟩ K) : Pt P (.appz s esz x y) t b K := by
  obtain ⟨v, ch, h1, h2, h3⟩ := appZ_pt h
  exact ⟨v, ch, h1, fun s' z e => ⟨by simp [AOp.ws, (h2 s' z e).1], (h2 s' z e).2⟩, h3⟩

theorem pt_fix (op : AOp) {y : AC} {ch : Option (Nat × ABlk)} (hk : K y (App ch b)) (hc : ∀ s x, ch = some (s, x) → s ∈ op.ws ∧ b s ≠ .dead)
    (h : ∀ t2 b2 (K' : AC → (Nat → ABlk) → Prop), (∀ i ∈ op.rds, t2 i = t i) → Wider b b2 → K' y (App ch b2) → opA P op ⟨t2, b2⟩ K') : Pt P op t b K := ⟨y, ch, hk, hc, h⟩

/-- **Every operation.** -/
theorem opA_pt {op : AOp} (h : opA P op ⟨t, b⟩ K) : Pt P op t b K := by
  have ev : ∀ {t2 : Nat → AC} {x : Opnd} {l : List Nat}, (∀ i ∈ l, t2 i = t i) → (∀ i ∈ rdO x, i ∈ l) → evO t2 x = evO t x := fun ht hl => evO_congr fun i hi => ht i (hl i hi)
  have evs : ∀ {t2 : Nat → AC} {xs : List Opnd} {l : List Nat}, (∀ i ∈ l, t2 i = t i) → (∀ i ∈ xs.flatMap rdO, i ∈ l) → xs.map (evO t2) = xs.map (evO t) := fun ht hl => evOs_congr fun i hi => ht i (hl i hi)
  cases op with
  | ld => exact pt_ld h
  | st => exact pt_st h
  | app => exact pt_app h
  | appd => exact pt_appd h
  | appz => exact pt_appz h
  | icall => exact h.elim
  | icallv => exact h.elim
  | eqn neg x =>
    simp only [opA] at h
    split at h <;> try (exact h.elim)
    all_goals
      rename_i hx
      exact ⟨_, none, h, noCh, fun t2 b2 K' ht hw hk => by have e1 : evO t2 x = evO t x := ev ht (by simp [AOp.rds]); simp only [opA, e1, hx]; exact hk⟩
  | mvf s x =>
    simp only [opA] at h
    split at h <;> try (exact h.elim)
    rename_i s' off len tot hx
    obtain ⟨rfl, h2, h3, h⟩ := h
    split at h <;> try (exact h.elim)
    rename_i esz els hb
    exact ⟨_, some (_, _), h.2, fun s x e => by cases e; exact ⟨by simp [AOp.ws], by rw [hb]; simp⟩, fun t2 b2 K' ht hw hk => by
      have e1 : evO t2 x = evO t x := ev ht (by simp [AOp.rds]); simp only [opA, e1, hx, hw.get hb (by simp)]; exact ⟨trivial, h2, h3, h.1, hk⟩⟩
  | bslr s esz sh xs =>
    simp only [opA] at h
    split at h <;> try (exact h.elim)
    rename_i cs hc hb
    exact ⟨_, some (_, _), h.2, fun s x e => by cases e; exact ⟨by simp [AOp.ws], by rw [hb]; simp⟩, fun t2 b2 K' ht hw hk => by
      have := elsC_wider hw (t2 := t2) ht hc
      simp only [opA, this, hw.get hb (by simp)]; exact ⟨h.1, hk⟩⟩
  | mkv s z x =>
    simp only [opA] at h
    split at h <;> try (exact h.elim)
    rename_i hx hb
    exact ⟨_, some (_, _), h.2.2, fun s x e => by cases e; exact ⟨by simp [AOp.ws], by rw [hb]; simp⟩, fun t2 b2 K' ht hw hk => by
      have e1 : evO t2 x = evO t x := ev ht (by simp [AOp.rds]); simp only [opA, e1, hw.get hb (by simp), hx]; exact ⟨h.1, h.2.1, hk⟩⟩
  | calln g xs =>
    simp only [opA] at h
    split at h <;> try (exact h.elim)
    rename_i ds hds
    obtain ⟨res, hP, hk⟩ := h
    exact ⟨_, none, hk, noCh, fun t2 b2 K' ht hw hk => by
      have e1 : xs.map (evO t2) = xs.map (evO t) := evs ht (fun i hi => by simp only [AOp.rds]; exact hi)
      simp only [opA, e1, mapM_imp (snap_wider hw 4) hds]; exact ⟨res, hP, hk⟩⟩
  | eqs neg n ls x y =>
    simp only [opA] at h
    split at h <;> try (exact h.elim)
    rename_i cs ds hx hy
    obtain ⟨h1, h1', h⟩ := h
    split at h <;> try (exact h.elim)
    rename_i r hr
    exact ⟨_, none, h, noCh, fun t2 b2 K' ht hw hk => by
      have e1 : evO t2 x = evO t x := ev ht (fun i hi => by simp [AOp.rds, hi])
      have e2 : evO t2 y = evO t y := ev ht (fun i hi => by simp [AOp.rds, hi])
      simp only [opA, e1, e2, hx, hy, hr]; exact ⟨h1, h1', hk⟩⟩
  | yield => exact h.elim
  | bad => exact h.elim
  | mv x => exact ⟨_, none, h, noCh, fun t2 b2 K' ht hw hk => by
      have e1 : evO t2 x = evO t x := ev ht (by simp [AOp.rds]); simp only [opA, e1]; exact hk⟩
  | pick c x y =>
    simp only [opA] at h
    split at h <;> try (exact h.elim)
    rename_i c' hc
    cases c' with
    | true => exact ⟨_, none, h.1 rfl, noCh, fun t2 b2 K' ht hw hk => by
        have e1 : evO t2 c = evO t c := ev ht (fun i hi => by simp [AOp.rds, hi])
        have e2 : evO t2 x = evO t x := ev ht (fun i hi => by simp [AOp.rds, hi])
        simp only [opA, e1, e2, hc]; exact ⟨fun _ => hk, fun h => by cases h⟩⟩
    | false => exact ⟨_, none, h.2 rfl, noCh, fun t2 b2 K' ht hw hk => by
        have e1 : evO t2 c = evO t c := ev ht (fun i hi => by simp [AOp.rds, hi])
        have e2 : evO t2 y = evO t y := ev ht (fun i hi => by simp [AOp.rds, hi])
        simp only [opA, e1, e2, hc]; exact ⟨fun h => (by cases h), fun _ => hk⟩⟩
  | bin op x y =>
    simp only [opA] at h
    obtain ⟨r, hr, hr'⟩ := binA_pt _ _ _ _ h
    exact ⟨r, none, hr, noCh, fun t2 b2 K' ht hw hk => by
      have e1 : evO t2 x = evO t x := ev ht (fun i hi => by simp [AOp.rds, hi])
      have e2 : evO t2 y = evO t y := ev ht (fun i hi => by simp [AOp.rds, hi])
      simp only [opA, e1, e2]; exact hr' _ hk⟩
  | eqb neg x y =>
    simp only [opA] at h
    split at h <;> try (exact h.elim)
    rename_i hx hy
    exact ⟨_, none, h, noCh, fun t2 b2 K' ht hw hk => by
      have e1 : evO t2 x = evO t x := ev ht (fun i hi => by simp [AOp.rds, hi])
      have e2 : evO t2 y = evO t y := ev ht (fun i hi => by simp [AOp.rds, hi])
      simp only [opA, e1, e2, hx, hy]; exact hk⟩
  | neg x =>
    simp only [opA] at h
    split at h <;> try (exact h.elim)
    rename_i hx
    exact ⟨_, none, h, noCh, fun t2 b2 K' ht hw hk => by have e1 : evO t2 x = evO t x := ev ht (by simp [AOp.rds]); simp only [opA, e1, hx]; exact hk⟩
  | xr x =>
    simp only [opA] at h
    split at h <;> try (exact h.elim)
    rename_i hx
    exact ⟨_, none, h, noCh, fun t2 b2 K' ht hw hk => by have e1 : evO t2 x = evO t x := ev ht (by simp [AOp.rds]); simp only [opA, e1, hx]; exact hk⟩
  | not x =>
    simp only [opA] at h
    split at h <;> try (exact h.elim)
    rename_i hx
    exact ⟨_, none, h, noCh, fun t2 b2 K' ht hw hk => by have e1 : evO t2 x = evO t x := ev ht (by simp [AOp.rds]); simp only [opA, e1, hx]; exact hk⟩
  | alloc s sh zs =>
    simp only [opA] at h
    split at h <;> try (exact h.elim)
    rename_i hb
    exact ⟨_, some (_, _), h, fun s x e => by cases e; exact ⟨by simp [AOp.ws], by rw [hb]; simp⟩, fun t2 b2 K' ht hw hk => by simp only [opA, hw.get hb (by simp)]; exact hk⟩
  | nilrow s esz =>
    simp only [opA] at h
    split at h <;> try (exact h.elim)
    rename_i hb
    exact ⟨_, some (_, _), h, fun s x e => by cases e; exact ⟨by simp [AOp.ws], by rw [hb]; simp⟩, fun t2 b2 K' ht hw hk => by simp only [opA, hw.get hb (by simp)]; exact hk⟩
  | box s sh x =>
    simp only [opA] at h
    split at h <;> try (exact h.elim)
    rename_i us hb hus
    exact ⟨_, some (_, _), h.2, fun s x e => by cases e; exact ⟨by simp [AOp.ws], by rw [hb]; simp⟩, fun t2 b2 K' ht hw hk => by
      have e1 : evO t2 x = evO t x := ev ht (by simp [AOp.rds]); simp only [opA, e1, hw.get hb (by simp), hus]; exact ⟨standsAll_wider hw h.1, hk⟩⟩
  | boxd sh x =>
    simp only [opA] at h
    split at h <;> try (exact h.elim)
    rename_i us hus
    split at h <;> try (exact h.elim)
    rename_i ds hds
    exact ⟨_, none, h.2, noCh, fun t2 b2 K' ht hw hk => by
      have e1 : evO t2 x = evO t x := ev ht (by simp [AOp.rds]); simp only [opA, e1, hus, hds]; exact ⟨h.1, hk⟩⟩
  | mks s esz zs x =>
    simp only [opA] at h
    split at h <;> try (exact h.elim)
    rename_i hx hb
    exact ⟨_, some (_, _), h.2.2, fun s x e => by cases e; exact ⟨by simp [AOp.ws], by rw [hb]; simp⟩, fun t2 b2 K' ht hw hk => by
      have e1 : evO t2 x = evO t x := ev ht (by simp [AOp.rds]); simp only [opA, e1, hw.get hb (by simp), hx]; exact ⟨h.1, h.2.1, hk⟩⟩
  | fad off x =>
    simp only [opA] at h
    split at h <;> try (exact h.elim)
    · rename_i hx
      split at h <;> try (exact h.elim)
      rename_i hb
      exact ⟨_, none, h, noCh, fun t2 b2 K' ht hw hk => by have e1 : evO t2 x = evO t x := ev ht (by simp [AOp.rds]); simp only [opA, e1, hx, hw.get hb (by simp)]; exact hk⟩
    · rename_i hx
      exact ⟨_, none, h, noCh, fun t2 b2 K' ht hw hk => by have e1 : evO t2 x = evO t x := ev ht (by simp [AOp.rds]); simp only [opA, e1, hx]; exact hk⟩
    · rename_i hx
      split at h <;> try (exact h.elim)
      rename_i hb
      exact ⟨_, none, h.2, noCh, fun t2 b2 K' ht hw hk => by have e1 : evO t2 x = evO t x := ev ht (by simp [AOp.rds]); simp only [opA, e1, hx, hw.get hb (by simp)]; exact ⟨h.1, hk⟩⟩
  | fld sh off x =>
    simp only [opA] at h
    split at h <;> try (exact h.elim)
    all_goals
      rename_i hx
      split at h
      · split at h <;> try (exact h.elim)
        rename_i hc
        exact ⟨_, none, h, noCh, fun t2 b2 K' ht hw hk => by have e1 : evO t2 x = evO t x := ev ht (by simp [AOp.rds]); simp only [opA, e1, hx, hc]; exact hk⟩
      · exact ⟨_, none, h.2, noCh, fun t2 b2 K' ht hw hk => by have e1 : evO t2 x = evO t x := ev ht (by simp [AOp.rds]); simp only [opA, e1, hx]; exact ⟨h.1, hk⟩⟩
  | ixa esz x i =>
    simp only [opA] at h
    split at h <;> try (exact h.elim)
    · rename_i hx hi
      exact ⟨_, none, h.2.2.2, noCh, fun t2 b2 K' ht hw hk => by
        have e1 : evO t2 x = evO t x := ev ht (fun i hi => by simp [AOp.rds, hi])
        have e2 : evO t2 i = evO t i := ev ht (fun i hi => by simp [AOp.rds, hi])
        simp only [opA, e1, e2, hx, hi]; exact ⟨h.1, h.2.1, h.2.2.1, hk⟩⟩
    · rename_i hx hi
      obtain ⟨h1, h2, h⟩ := h
      split at h <;> try (exact h.elim)
      rename_i hb
      exact ⟨_, none, h.2.2, noCh, fun t2 b2 K' ht hw hk => by
        have e1 : evO t2 x = evO t x := ev ht (fun i hi => by simp [AOp.rds, hi])
        have e2 : evO t2 i = evO t i := ev ht (fun i hi => by simp [AOp.rds, hi])
        simp only [opA, e1, e2, hx, hi, hw.get hb (by simp)]; exact ⟨h1, h2, h.1, h.2.1, hk⟩⟩
    · rename_i hx hi
      obtain ⟨h0, h1, h2, h⟩ := h
      split at h <;> try (exact h.elim)
      rename_i hb
      exact ⟨_, none, h, noCh, fun t2 b2 K' ht hw hk => by
        have e1 : evO t2 x = evO t x := ev ht (fun i hi => by simp [AOp.rds, hi])
        have e2 : evO t2 i = evO t i := ev ht (fun i hi => by simp [AOp.rds, hi])
        simp only [opA, e1, e2, hx, hi, hw.get hb (by simp)]; exact ⟨h0, h1, h2, hk⟩⟩
  | ixp n esz x i =>
    simp only [opA] at h
    split at h <;> try (exact h.elim)
    rename_i hx hi
    obtain ⟨h1, h2, h⟩ := h
    split at h <;> try (exact h.elim)
    rename_i hb
    exact ⟨_, none, h, noCh, fun t2 b2 K' ht hw hk => by
      have e1 : evO t2 x = evO t x := ev ht (fun i hi => by simp [AOp.rds, hi])
      have e2 : evO t2 i = evO t i := ev ht (fun i hi => by simp [AOp.rds, hi])
      simp only [opA, e1, e2, hx, hi, hw.get hb (by simp)]; exact ⟨h1, h2, hk⟩⟩
  | ixs x i =>
    simp only [opA] at h
    split at h <;> try (exact h.elim)
    rename_i hx hi
    exact ⟨_, none, h.2.2, noCh, fun t2 b2 K' ht hw hk => by
      have e1 : evO t2 x = evO t x := ev ht (fun i hi => by simp [AOp.rds, hi])
      have e2 : evO t2 i = evO t i := ev ht (fun i hi => by simp [AOp.rds, hi])
      simp only [opA, e1, e2, hx, hi]; exact ⟨h.1, h.2.1, hk⟩⟩
  | ixv sh n esz x i =>
    simp only [opA] at h
    split at h <;> try (exact h.elim)
    all_goals
      rename_i hx hi
      obtain ⟨h1, h2, h⟩ := h
      split at h
      · split at h <;> try (exact h.elim)
        rename_i hc
        exact ⟨_, none, h, noCh, fun t2 b2 K' ht hw hk => by
          have e1 : evO t2 x = evO t x := ev ht (fun i hi => by simp [AOp.rds, hi])
          have e2 : evO t2 i = evO t i := ev ht (fun i hi => by simp [AOp.rds, hi])
          simp only [opA, e1, e2, hx, hi, hc]; exact ⟨h1, h2, hk⟩⟩
      · exact ⟨_, none, h.2, noCh, fun t2 b2 K' ht hw hk => by
          have e1 : evO t2 x = evO t x := ev ht (fun i hi => by simp [AOp.rds, hi])
          have e2 : evO t2 i = evO t i := ev ht (fun i hi => by simp [AOp.rds, hi])
          simp only [opA, e1, e2, hx, hi]; exact ⟨h1, h2, h.1, hk⟩⟩
  | ext x k =>
    simp only [opA] at h
    split at h <;> try (exact h.elim)
    all_goals
      rename_i hx
      split at h <;> try (exact h.elim)
      rename_i hc
      exact ⟨_, none, h, noCh, fun t2 b2 K' ht hw hk => by have e1 : evO t2 x = evO t x := ev ht (by simp [AOp.rds]); simp only [opA, e1, hx, hc]; exact hk⟩
  | build zs ps =>
    simp only [opA] at h
    split at h <;> try (exact h.elim)
    rename_i cs hc
    exact ⟨_, none, h, noCh, fun t2 b2 K' ht hw hk => by
      have := fillC_wider hw (t2 := t2) ht hc
      simp only [opA, this]; exact hk⟩
  | bsl esz sh xs =>
    simp only [opA] at h
    split at h <;> try (exact h.elim)
    rename_i cs hc
    exact ⟨_, none, h.2, noCh, fun t2 b2 K' ht hw hk => by
      have := elsC_wider hw (t2 := t2) ht hc
      simp only [opA, this]; exact ⟨h.1, hk⟩⟩
  | len str x =>
    simp only [opA] at h
    split at h <;> try (exact h.elim)
    · rename_i hx
      exact ⟨_, none, h.2, noCh, fun t2 b2 K' ht hw hk => by have e1 : evO t2 x = evO t x := ev ht (by simp [AOp.rds]); simp only [opA, e1, hx]; exact ⟨h.1, hk⟩⟩
    · rename_i hx
      exact ⟨_, none, h.2, noCh, fun t2 b2 K' ht hw hk => by have e1 : evO t2 x = evO t x := ev ht (by simp [AOp.rds]); simp only [opA, e1, hx]; exact ⟨h.1, hk⟩⟩
    · rename_i hx
      exact ⟨_, none, h.2, noCh, fun t2 b2 K' ht hw hk => by have e1 : evO t2 x = evO t x := ev ht (by simp [AOp.rds]); simp only [opA, e1, hx]; exact ⟨h.1, hk⟩⟩
    · rename_i hx
      obtain ⟨h1, h⟩ := h
      split at h <;> try (exact h.elim)
      rename_i hb
      exact ⟨_, none, h.2, noCh, fun t2 b2 K' ht hw hk => by have e1 : evO t2 x = evO t x := ev ht (by simp [AOp.rds]); simp only [opA, e1, hx, hw.get hb (by simp)]; exact ⟨h1, h.1, hk⟩⟩
    · rename_i hx
      obtain ⟨h1, h⟩ := h
      split at h <;> try (exact h.elim)
      rename_i hb
      exact ⟨_, none, h, noCh, fun t2 b2 K' ht hw hk => by have e1 : evO t2 x = evO t x := ev ht (by simp [AOp.rds]); simp only [opA, e1, hx, hw.get hb (by simp)]; exact ⟨h1, hk⟩⟩
  | mx x ys =>
    simp only [opA] at h
    split at h <;> try (exact h.elim)
    rename_i r hr
    exact ⟨_, none, h, noCh, fun t2 b2 K' ht hw hk => by
      have e1 : evO t2 x = evO t x := ev ht (fun i hi => by simp [AOp.rds, hi])
      have e2 : ys.map (evO t2) = ys.map (evO t) := evs ht (fun i hi => by simp only [AOp.rds, List.mem_append]; exact .inr hi)
      simp only [opA, e1, e2, hr]; exact hk⟩
  | mn x ys =>
    simp only [opA] at h
    split at h <;> try (exact h.elim)
    rename_i r hr
    exact ⟨_, none, h, noCh, fun t2 b2 K' ht hw hk => by
      have e1 : evO t2 x = evO t x := ev ht (fun i hi => by simp [AOp.rds, hi])
      have e2 : ys.map (evO t2) = ys.map (evO t) := evs ht (fun i hi => by simp only [AOp.rds, List.mem_append]; exact .inr hi)
      simp only [opA, e1, e2, hr]; exact hk⟩
  | cv k x =>
    simp only [opA] at h
    split at h <;> try (exact h.elim)
    rename_i hx
    exact ⟨_, none, h, noCh, fun t2 b2 K' ht hw hk => by have e1 : evO t2 x = evO t x := ev ht (by simp [AOp.rds]); simp only [opA, e1, hx]; exact hk⟩
  | mkf g first caps =>
    simp only [opA] at h
    have e1 : ∀ {t2 : Nat → AC}, (∀ i ∈ AOp.rds (.mkf g first caps), t2 i = t i) → first.map (evO t2) = first.map (evO t) := fun ht => evs ht (fun i hi => by simp only [AOp.rds, List.mem_append]; exact .inl hi)
    have e2 : ∀ {t2 : Nat → AC}, (∀ i ∈ AOp.rds (.mkf g first caps), t2 i = t i) → caps.map (evO t2) = caps.map (evO t) := fun ht => evs ht (fun i hi => by simp only [AOp.rds, List.mem_append]; exact .inr hi)
    split at h <;> try (exact h.elim)
    all_goals
      rename_i h1 h2
      exact ⟨_, none, h, noCh, fun t2 b2 K' ht hw hk => by simp only [opA, e1 ht, e2 ht, h1, h2]; exact hk⟩
  | mki ty x =>
    simp only [opA] at h
    split at h <;> try (exact h.elim)
    rename_i hx
    exact ⟨_, none, h.2, noCh, fun t2 b2 K' ht hw hk => by have e1 : evO t2 x = evO t x := ev ht (by simp [AOp.rds]); simp only [opA, e1, hx]; exact ⟨h.1, hk⟩⟩
  | call g xs =>
    simp only [opA] at h
    split at h <;> try (exact h.elim)
    rename_i ds hds
    obtain ⟨res, hP, hf, hk⟩ := h
    exact ⟨_, none, hk, noCh, fun t2 b2 K' ht hw hk => by
      have e1 : xs.map (evO t2) = xs.map (evO t) := evs ht (fun i hi => by simp only [AOp.rds]; exact hi)
      simp only [opA, e1, mapM_imp (snap_wider hw 4) hds]; exact ⟨res, hP, hf, hk⟩⟩
  | callv x xs =>
    simp only [opA] at h
    split at h <;> try (exact h.elim)
    rename_i g first caps ds hclo hds
    obtain ⟨res, hP, hf, hk⟩ := h
    exact ⟨_, none, hk, noCh, fun t2 b2 K' ht hw hk => by
      have e0 : evO t2 x = evO t x := ev ht (fun i hi => by simp [AOp.rds, hi])
      have e1 : xs.map (evO t2) = xs.map (evO t) := evs ht (fun i hi => by simp only [AOp.rds, List.mem_append]; exact .inr hi)
      simp only [opA, e0, e1, snap_wider hw 4 _ _ hclo, mapM_imp (snap_wider hw 4) hds]; exact ⟨res, hP, hf, hk⟩⟩
  | slc esz x lo hi =>
    simp only [opA] at h
    have hl : ∀ {t2 : Nat → AC}, (∀ i ∈ AOp.rds (.slc esz x lo hi), t2 i = t i) → ∀ i ∈ rdOpt lo, t2 i = t i := fun ht i hi => ht i (by simp [AOp.rds, hi])
    have hh : ∀ {t2 : Nat → AC}, (∀ i ∈ AOp.rds (.slc esz x lo hi), t2 i = t i) → ∀ i ∈ rdOpt hi, t2 i = t i := fun ht i hi => ht i (by simp [AOp.rds, hi])
    split at h <;> try (exact h.elim)
    · rename_i xs hx
      obtain ⟨l, hk, g1⟩ := boundI_pt h
      obtain ⟨r, hk2, g2⟩ := boundI_pt hk
      refine ⟨_, none, hk2.2.2.2.2, noCh, fun t2 b2 K' ht hw hk' => ?_⟩
      have e1 : evO t2 x = evO t x := ev ht (fun i hi => by simp [AOp.rds, hi])
      simp only [opA, e1, hx]
      exact g1 t2 (hl ht) _ (g2 t2 (hh ht) _ ⟨hk2.1, hk2.2.1, hk2.2.2.1, hk2.2.2.2.1, hk'⟩)
    · rename_i s off len tot hx
      obtain ⟨h0, h⟩ := h
      obtain ⟨r, hk2, g2⟩ := boundI_pt h
      obtain ⟨k1, k2, hk2⟩ := hk2
      split at hk2 <;> try (exact hk2.elim)
      rename_i esz' els hb
      refine ⟨_, none, hk2.2.2, noCh, fun t2 b2 K' ht hw hk' => ?_⟩
      have e1 : evO t2 x = evO t x := ev ht (fun i hi => by simp [AOp.rds, hi])
      simp only [opA, e1, hx]
      refine ⟨h0, g2 t2 (hh ht) _ ⟨k1, k2, ?_⟩⟩
      simp only [hw.get hb (by simp)]; exact ⟨hk2.1, hk2.2.1, hk'⟩
  | sls x lo hi =>
    simp only [opA] at h
    split at h <;> try (exact h.elim)
    rename_i xs hx
    have hl : ∀ {t2 : Nat → AC}, (∀ i ∈ AOp.rds (.sls x lo hi), t2 i = t i) → ∀ i ∈ rdOpt lo, t2 i = t i := fun ht i hi => ht i (by simp [AOp.rds, hi])
    have hh : ∀ {t2 : Nat → AC}, (∀ i ∈ AOp.rds (.sls x lo hi), t2 i = t i) → ∀ i ∈ rdOpt hi, t2 i = t i := fun ht i hi => ht i (by simp [AOp.rds, hi])
    obtain ⟨l, hk, g1⟩ := boundI_pt h
    obtain ⟨r, hk2, g2⟩ := boundI_pt hk
    refine ⟨_, none, hk2.2.2.2, noCh, fun t2 b2 K' ht hw hk' => ?_⟩
    have e1 : evO t2 x = evO t x := ev ht (fun i hi => by simp [AOp.rds, hi])
    simp only [opA, e1, hx]
    exact g1 t2 (hl ht) _ (g2 t2 (hh ht) _ ⟨hk2.1, hk2.2.1, hk2.2.2.1, hk'⟩)
end
end Go.AM
