/- The abstract machine, part 14: an operation yields one thing, and looks at its operands and at slots that are not given up alone. No condition. -/
import Derived.Test.YtbkjfjlmhlmdbaaAm12
set_option linter.unusedVariables false
set_option linter.unusedSimpArgs false
namespace Go.AM
open Go

def rdO : Opnd → List Nat
  | .t n => [n]
  | _ => []
def rdOpt : Option Opnd → List Nat
  | some x => rdO x
  | none => []

def AOp.rds : AOp → List Nat
  | .mv x => rdO x
  | .pick c x y => rdO c ++ rdO x ++ rdO y
  | .bin _ x y => rdO x ++ rdO y
  | .eqb _ x y => rdO x ++ rdO y
  | .eqs _ _ _ x y => rdO x ++ rdO y
  | .neg x => rdO x
  | .xr x => rdO x
  | .isn _ x => rdO x
  | .tas _ x => rdO x
  | .mkia _ x => rdO x
  | .not x => rdO x
  | .ld _ x _ => rdO x
  | .st _ _ x y => rdO x ++ rdO y
  | .alloc _ _ _ => []
  | .box _ _ x => rdO x
  | .boxd _ x => rdO x
  | .fad _ x => rdO x
  | .fld _ _ x => rdO x
  | .ixa _ x i => rdO x ++ rdO i
  | .ixp _ _ x i => rdO x ++ rdO i
  | .ixs x i => rdO x ++ rdO i
  | .ixv _ _ _ x i => rdO x ++ rdO i
  | .ext x _ => rdO x
  | .build _ ps => ps.flatMap fun p => rdO p.2.2
  | .bsl _ _ xs => xs.flatMap rdO
  | .len _ x => rdO x
  | .mx x ys => rdO x ++ ys.flatMap rdO
  | .mn x ys => rdO x ++ ys.flatMap rdO
  | .cv _ x => rdO x
  | .mkf _ f c => f.flatMap rdO ++ c.flatMap rdO
  | .mki _ x => rdO x
  | .call _ xs => xs.flatMap rdO
  | .callv x xs => rdO x ++ xs.flatMap rdO
  | .app _ _ x y => rdO x ++ rdO y
  | .appd _ _ x y => rdO x ++ rdO y
  | .mks _ _ _ x => rdO x
  | .std _ _ x y => rdO x ++ rdO y
  | .mksd _ _ _ x => rdO x
  | .mksz _ _ _ x => rdO x
  | .slc _ x lo hi => rdO x ++ rdOpt lo ++ rdOpt hi
  | .sls x lo hi => rdO x ++ rdOpt lo ++ rdOpt hi
  | .nilrow _ _ => []
  | .eqn _ x => rdO x
  | .nck x => rdO x
  | .mvf _ x => rdO x
  | .appz _ _ x y => rdO x ++ rdO y
  | .bslr _ _ _ xs => xs.flatMap rdO
  | .mkv _ _ x => rdO x
  | .calln _ xs => xs.flatMap rdO
  | .icall _ _ _ xs => xs.flatMap rdO
  | .icallv _ _ x xs => rdO x ++ xs.flatMap rdO
  | .callz _ _ _ _ xs => xs.flatMap rdO
  | .yield _ _ x xs => rdO x ++ xs.flatMap rdO
  | .bad => []

def AOp.ws : AOp → List Nat
  | .st s .. => [s]
  | .alloc s .. => [s]
  | .box s .. => [s]
  | .app s .. => [s]
  | .appd ss .. => ss
  | .mks s .. => [s]
  | .std ss .. => ss
  | .mksd ss .. => ss
  | .mksz s .. => [s]
  | .nilrow s _ => [s]
  | .mvf s _ => [s]
  | .appz s .. => [s]
  | .bslr s .. => [s]
  | .mkv s .. => [s]
  | _ => []

theorem evO_congr {t t2 : Nat → AC} {x : Opnd} (h : ∀ i ∈ rdO x, t2 i = t i) : evO t2 x = evO t x := by
  cases x <;> first | rfl | exact h _ (by simp [rdO])
theorem evOs_congr {t t2 : Nat → AC} {xs : List Opnd} (h : ∀ i ∈ xs.flatMap rdO, t2 i = t i) : xs.map (evO t2) = xs.map (evO t) :=
  List.map_congr_left fun x hx => evO_congr fun i hi => h i (List.mem_flatMap.2 ⟨x, hx, hi⟩)

/-- More is known of the slots. -/
def Wider (b b2 : Nat → ABlk) : Prop := ∀ s, b s = .dead ∨ b2 s = b s
theorem Wider.get {b b2 : Nat → ABlk} (h : Wider b b2) {s : Nat} {x : ABlk} (e : b s = x) (hx : x ≠ .dead) : b2 s = x := by
  rcases h s with k | k
  · rw [e] at k; exact absurd k hx
  · rw [k, e]

theorem stands_wider {b b2 : Nat → ABlk} (h : Wider b b2) {x : AC} (hs : standsB b x = true) : standsB b2 x = true := by
  cases x <;> simp only [standsB] at hs ⊢ <;> try exact hs
  all_goals
    split at hs <;> try (cases hs; done)
    rename_i e
    rw [h.get e (by simp)]
    try simpa using hs
theorem standsAll_wider {b b2 : Nat → ABlk} (h : Wider b b2) {us : List AC} (hs : us.all (standsB b) = true) : us.all (standsB b2) = true := by
  rw [List.all_eq_true] at *
  exact fun x hx => stands_wider h (hs x hx)

theorem mapM_imp {α β : Type} {f g : α → Option β} (h : ∀ x y, f x = some y → g x = some y) : ∀ {xs : List α} {ys : List β}, xs.mapM f = some ys → xs.mapM g = some ys
  | [], ys, e => by simpa using e
  | x :: xs, ys, e => by
    simp only [List.mapM_cons, Option.bind_eq_bind, Option.pure_def] at e ⊢
    cases hx : f x with
    | none => simp [hx] at e
    | some y =>
      cases hxs : xs.mapM f with
      | none => simp [hx, hxs] at e
      | some ys' =>
        simp [hx, hxs] at e
        simp [h x y hx, mapM_imp h hxs, e]

theorem snap_wider {b b2 : Nat → ABlk} (h : Wider b b2) : ∀ (n : Nat) (x : AC) (y : D), snap b n x = some y → snap b2 n x = some y
  | 0, x, y, e => by simp [snap] at e
  | n + 1, x, y, e => by
    cases x with
    | d z => simpa [snap] using e
    | row s off len tot =>
      simp only [snap] at e ⊢
      split at e <;> try (cases e; done)
      rename_i he
      rw [h.get he (by simp)]; exact e
    | ptr s off =>
      simp only [snap] at e ⊢
      split at e <;> try (cases e; done)
      rename_i he
      rw [h.get he (by simp)]
      simp only [Option.map_eq_some_iff] at e ⊢
      obtain ⟨ds, h1, h2⟩ := e
      exact ⟨ds, mapM_imp (snap_wider h n) h1, h2⟩
    | vs s off len =>
      simp only [snap] at e ⊢
      split at e <;> try (cases e; done)
      rename_i he
      rw [h.get he (by simp)]
      split at e <;> try (cases e; done)
      rename_i hle
      simp only [hle, if_true, Option.map_eq_some_iff] at e ⊢
      obtain ⟨ds, h1, h2⟩ := e
      exact ⟨ds, mapM_imp (snap_wider h n) h1, h2⟩
    | clo g first caps =>
      simp only [snap, Option.map_eq_some_iff] at e ⊢
      obtain ⟨ds, h1, h2⟩ := e
      exact ⟨ds, mapM_imp (snap_wider h n) h1, h2⟩
    | agg cs =>
      simp only [snap, Option.map_eq_some_iff] at e ⊢
      obtain ⟨ds, h1, h2⟩ := e
      exact ⟨ds, mapM_imp (snap_wider h n) h1, h2⟩
    | _ => simp [snap] at e

theorem fillC_wider {b b2 : Nat → ABlk} (h : Wider b b2) {t t2 : Nat → AC} : ∀ {ps : List (Nat × Sh × Opnd)} {cs out : List AC}, (∀ i ∈ ps.flatMap (fun p => rdO p.2.2), t2 i = t i) → fillC b t cs ps = some out → fillC b2 t2 cs ps = some out
  | [], cs, out, _, e => by simpa [fillC] using e
  | (off, sh, x) :: ps, cs, out, ht, e => by
    have e1 : evO t2 x = evO t x := evO_congr fun i hi => ht i (by simp [hi])
    simp only [fillC, e1] at e ⊢
    split at e <;> try (cases e; done)
    rename_i us hus
    split at e <;> try (cases e; done)
    rename_i hc
    rw [if_pos ⟨standsAll_wider h hc.1, hc.2⟩]
    exact fillC_wider h (fun i hi => ht i (by simp only [List.flatMap_cons, List.mem_append]; exact .inr hi)) e

theorem elsC_wider {b b2 : Nat → ABlk} (h : Wider b b2) {t t2 : Nat → AC} {sh : Sh} : ∀ {xs : List Opnd} {out : List (List D)}, (∀ i ∈ xs.flatMap rdO, t2 i = t i) → elsC b t sh xs = some out → elsC b2 t2 sh xs = some out
  | [], out, _, e => by simpa [elsC] using e
  | x :: xs, out, ht, e => by
    have e1 : evO t2 x = evO t x := evO_congr fun i hi => ht i (by simp [hi])
    simp only [elsC, e1] at e ⊢
    split at e <;> try (cases e; done)
    rename_i us hus
    split at e <;> try (cases e; done)
    rename_i hc
    rw [if_pos (standsAll_wider h hc)]
    split at e <;> try (cases e; done)
    rename_i ds es h1 h2
    rw [h1, elsC_wider h (fun i hi => ht i (by simp only [List.flatMap_cons, List.mem_append]; exact .inr hi)) h2]
    exact e

theorem addsC_wider {b b2 : Nat → ABlk} (h : Wider b b2) {x : AC} {ys : List (List D)} (e : addsC b x = some ys) : addsC b2 x = some ys := by
  unfold addsC at e ⊢
  split at e
  · exact e
  · exact e
  · split at e <;> try (cases e; done)
    rename_i he
    rw [h.get he (by simp)]; exact e
  · cases e

def App (ch : Option (Nat × ABlk)) (b : Nat → ABlk) : Nat → ABlk := match ch with | none => b | some (s, x) => upd b s x

/-- A predicate over what is yielded holds by one thing. -/
def PtV (F : (AC → Prop) → Prop) : Prop := ∀ K, F K → ∃ y, K y ∧ ∀ K', K' y → F K'

theorem intA_pt (op : BinOp) (k : IntKind) (a : Int) (k' : IntKind) (b : Int) : PtV (intA op k a k' b) := by
  intro K h
  cases op <;> simp only [intA] at h ⊢ <;>
    first
    | exact ⟨_, h.2.2, fun K' hk => ⟨h.1, h.2.1, hk⟩⟩
    | exact ⟨_, h.2, fun K' hk => ⟨h.1, hk⟩⟩
theorem strA_pt (op : BinOp) (a b : ByteArray) : PtV (strA op a b) := by
  intro K h
  cases op <;> simp only [strA] at h ⊢ <;>
    first
    | exact ⟨_, h.2, fun K' hk => ⟨h.1, hk⟩⟩
    | exact ⟨_, h, fun K' hk => hk⟩
theorem binA_pt (op : BinOp) (x y : AC) : PtV (binA op x y) := by
  intro K h
  unfold binA at h ⊢
  split at h
  · exact intA_pt _ _ _ _ _ K h
  · exact strA_pt _ _ _ K h
  · exact h.elim

theorem boundI_pt {t : Nat → AC} {x : Option Opnd} {d : Int} {K : Int → Prop} (h : boundI t x d K) : ∃ n, K n ∧ ∀ (t2 : Nat → AC), (∀ i ∈ rdOpt x, t2 i = t i) → ∀ K' : Int → Prop, K' n → boundI t2 x d K' := by
  cases x with
  | none => exact ⟨d, h, fun t2 ht K' hk => hk⟩
  | some o =>
    simp only [boundI] at h
    split at h
    · rename_i n he
      refine ⟨n, h, fun t2 ht K' hk => ?_⟩
      have e : evO t2 o = evO t o := evO_congr ht
      simp only [boundI, e, he]; exact hk
    · exact h.elim

/-- What an operation yields, and what it would where as much is known. -/
def Pt (P : Program) (op : AOp) (t : Nat → AC) (b : Nat → ABlk) (K : AC → (Nat → ABlk) → Prop) : Prop :=
  ∃ y ch, K y (App ch b) ∧ (∀ s x, ch = some (s, x) → s ∈ op.ws ∧ b s ≠ .dead) ∧
    ∀ t2 b2 (K' : AC → (Nat → ABlk) → Prop), (∀ i ∈ op.rds, t2 i = t i) → Wider b b2 → K' y (App ch b2) → opA P op ⟨t2, b2⟩ K'

section
variable {P : Program} {t : Nat → AC} {b : Nat → ABlk} {K : AC → (Nat → ABlk) → Prop}
theorem noCh {op : AOp} {b : Nat → ABlk} : ∀ s x, (none : Option (Nat × ABlk)) = some (s, x) → s ∈ op.ws ∧ b s ≠ .dead := fun _ _ h => by cases h

theorem pt_ld {sh : Sh} {x : Opnd} {av : List Nat} (h : opA P (.ld sh x av) ⟨t, b⟩ K) : Pt P (.ld sh x av) t b K := by
  simp only [opA] at h
  split at h
  · rename_i s off hx
    obtain ⟨hav, h⟩ := h
    split at h <;> try (exact h.elim)
    rename_i cs hb
    split at h
    · split at h <;> try (exact h.elim)
      rename_i c hc
      refine ⟨_, none, h, noCh, fun t2 b2 K' ht hw hk => ?_⟩
      have e := evO_congr (x := x) ht
      simp only [opA, e, hx, hw.get hb (by simp), hc]; exact ⟨hav, hk⟩
    · refine ⟨_, none, h.2, noCh, fun t2 b2 K' ht hw hk => ?_⟩
      have e := evO_congr (x := x) ht
      simp only [opA, e, hx, hw.get hb (by simp)]; exact ⟨hav, h.1, hk⟩
  · rename_i cs hx
    split at h
    · split at h <;> try (exact h.elim)
      refine ⟨_, none, h, noCh, fun t2 b2 K' ht hw hk => ?_⟩
      have e := evO_congr (x := x) ht
      simp only [opA, e, hx]; exact hk
    · refine ⟨_, none, h.2, noCh, fun t2 b2 K' ht hw hk => ?_⟩
      have e := evO_congr (x := x) ht
      simp only [opA, e, hx]; exact ⟨h.1, hk⟩
  · rename_i s i j tot hx
    obtain ⟨hav, h⟩ := h
    split at h <;> try (exact h.elim)
    rename_i esz els hb
    obtain ⟨h1, h2, h⟩ := h
    split at h
    · split at h <;> try (exact h.elim)
      rename_i c hc
      refine ⟨_, none, h, noCh, fun t2 b2 K' ht hw hk => ?_⟩
      have e := evO_congr (x := x) ht
      simp only [opA, e, hx, hw.get hb (by simp), hc]; exact ⟨hav, h1, h2, hk⟩
    · refine ⟨_, none, h.2, noCh, fun t2 b2 K' ht hw hk => ?_⟩
      have e := evO_congr (x := x) ht
      simp only [opA, e, hx, hw.get hb (by simp)]; exact ⟨hav, h1, h2, h.1, hk⟩
  · exact h.elim

theorem pt_st {s : Nat} {sh : Sh} {x y : Opnd} (h : opA P (.st s sh x y) ⟨t, b⟩ K) : Pt P (.st s sh x y) t b K := by
  simp only [opA] at h
  split at h <;> try (exact h.elim)
  · rename_i s' off us hx hus
    obtain ⟨rfl, h1, h⟩ := h
    split at h <;> try (exact h.elim)
    rename_i cs hb
    refine ⟨_, some (_, _), h.2, fun s x e => ?_, fun t2 b2 K' ht hw hk => ?_⟩
    · cases e; exact ⟨by simp [AOp.ws], by rw [hb]; simp⟩
    · have e1 : evO t2 x = evO t x := evO_congr fun i hi => ht i (by simp [AOp.rds, hi])
      have e2 : evO t2 y = evO t y := evO_congr fun i hi => ht i (by simp [AOp.rds, hi])
      simp only [opA, e1, e2, hx, hus, hw.get hb (by simp)]; exact ⟨trivial, standsAll_wider hw h1, h.1, hk⟩
  · rename_i s' i j tot us hx hus
    obtain ⟨rfl, h1, h⟩ := h
    split at h <;> try (exact h.elim)
    rename_i esz els ds hb hds
    refine ⟨_, some (_, _), h.2.2.2, fun s x e => ?_, fun t2 b2 K' ht hw hk => ?_⟩
    · cases e; exact ⟨by simp [AOp.ws], by rw [hb]; simp⟩
    · have e1 : evO t2 x = evO t x := evO_congr fun i hi => ht i (by simp [AOp.rds, hi])
      have e2 : evO t2 y = evO t y := evO_congr fun i hi => ht i (by simp [AOp.rds, hi])
      simp only [opA, e1, e2, hx, hus, hw.get hb (by simp), hds]; exact ⟨trivial, standsAll_wider hw h1, h.1, h.2.1, h.2.2.1, hk⟩

theorem appA_pt {s esz : Nat} {x y : Opnd} (h : appA ⟨t, b⟩ s esz x y K) : ∃ y' ch, K y' (App ch b) ∧ (∀ s' z, ch = some (s', z) → s' = s ∧ b s' ≠ .dead) ∧
    ∀ t2 b2 (K' : AC → (Nat → ABlk) → Prop), (∀ i ∈ rdO x ++ rdO y, t2 i = t i) → Wider b b2 → K' y' (App ch b2) → appA ⟨t2, b2⟩ s esz x y K' := by
  simp only [appA] at h
  split at h <;> try (exact h.elim)
  rename_i ys hys
  obtain ⟨h1, h⟩ := h
  split at h <;> try (exact h.elim)
  · rename_i s' off len tot hx
    obtain ⟨rfl, h2, h3, h⟩ := h
    split at h <;> try (exact h.elim)
    rename_i esz' els hb
    obtain ⟨h4, h5, h6, h⟩ := h
    refine ⟨_, some (_, _), h, fun s x e => ?_, fun t2 b2 K' ht hw hk => ?_⟩
    · cases e; exact ⟨rfl, by rw [hb]; simp⟩
    · have e1 : evO t2 x = evO t x := evO_congr fun i hi => ht i (by simp [hi])
      have e2 : evO t2 y = evO t y := evO_congr fun i hi => ht i (by simp [hi])
      simp only [appA, e1, e2, hx, addsC_wider hw hys, hw.get hb (by simp)]; exact ⟨h1, trivial, h2, h3, h4, h5, h6, hk⟩
  · rename_i hx
    split at h <;> try (exact h.elim)
    rename_i hb
    refine ⟨_, some (_, _), h.2, fun s x e => ?_, fun t2 b2 K' ht hw hk => ?_⟩
    · cases e; exact ⟨rfl, by rw [hb]; simp⟩
    · have e1 : evO t2 x = evO t x := evO_congr fun i hi => ht i (by simp [hi])
      have e2 : evO t2 y = evO t y := evO_congr fun i hi => ht i (by simp [hi])
      simp only [appA, e1, e2, hx, addsC_wider hw hys, hw.get hb (by simp)]; exact ⟨h1, h.1, hk⟩

theorem pt_app {s esz : Nat} {x y : Opnd} (h : opA P (.app s esz x y) ⟨t, b⟩ K) : Pt P (.app s esz x y) t b K := by
  obtain ⟨v, ch, h1, h2, h3⟩ := appA_pt h
  exact ⟨v, ch, h1, fun s' z e => ⟨by simp [AOp.ws, (h2 s' z e).1], (h2 s' z e).2⟩, h3⟩
theorem pt_appd {ss : List Nat} {esz : Nat} {x y : Opnd} (h : opA P (.appd ss esz x y) ⟨t, b⟩ K) : Pt P (.appd ss esz x y) t b K := by
  obtain ⟨s, hs, h⟩ := h
  obtain ⟨v, ch, h1, h2, h3⟩ := appA_pt h
  exact ⟨v, ch, h1, fun s' z e => ⟨by simp only [AOp.ws]; rw [(h2 s' z e).1]; exact hs, (h2 s' z e).2⟩, fun t2 b2 K' ht hw hk => ⟨s, hs, h3 t2 b2 K' ht hw hk⟩⟩

theorem pt_std {ss : List Nat} {sh : Sh} {x y : Opnd} (h : opA P (.std ss sh x y) ⟨t, b⟩ K) : Pt P (.std ss sh x y) t b K := by
  obtain ⟨s, hs, h⟩ := h
  obtain ⟨v, ch, h1, h2, h3⟩ := pt_st (P := P) (s := s) (sh := sh) (x := x) (y := y) (K := K) (t := t) (b := b) h
  exact ⟨v, ch, h1, fun s' z e => ⟨by have := (h2 s' z e).1; simp only [AOp.ws, List.mem_singleton] at this ⊢; subst this; exact hs, (h2 s' z e).2⟩, fun t2 b2 K' ht hw hk => ⟨s, hs, h3 t2 b2 K' ht hw hk⟩⟩
theorem pt_mksd {ss : List Nat} {esz : Nat} {zs : List Z} {x : Opnd} (h : opA P (.mksd ss esz zs x) ⟨t, b⟩ K) : Pt P (.mksd ss esz zs x) t b K := by
  obtain ⟨s, hs, h⟩ := h
  simp only [mksA] at h
  split at h <;> try (exact h.elim)
  rename_i hx hb
  exact ⟨_, some (_, _), h.2.2, fun s x e => by cases e; exact ⟨hs, by rw [hb]; simp⟩, fun t2 b2 K' ht hw hk => by
    have e1 : evO t2 x = evO t x := evO_congr fun i hi => ht i (by simp [AOp.rds, hi]); refine ⟨s, hs, ?_⟩; simp only [mksA, e1, hw.get hb (by simp), hx]; exact ⟨h.1, h.2.1, hk⟩⟩

theorem appZ_pt {s esz : Nat} {x y : Opnd} (h : appZ ⟨t, b⟩ s esz x y K) : ∃ y' ch, K y' (App ch b) ∧ (∀ s' z, ch = some (s', z) → s' = s ∧ b s' ≠ .dead) ∧
    ∀ t2 b2 (K' : AC → (Nat → ABlk) → Prop), (∀ i ∈ rdO x ++ rdO y, t2 i = t i) → Wider b b2 → K' y' (App ch b2) → appZ ⟨t2, b2⟩ s esz x y K' := by
  simp only [appZ] at h
  split at h <;> try (exact h.elim)
  rename_i ys hys
  obtain ⟨h1, h⟩ := h
  split at h <;> try (exact h.elim)
  · rename_i s' off len tot hx
    obtain ⟨rfl, h2, h3, h⟩ := h
    split at h <;> try (exact h.elim)
    rename_i esz' els hb
    obtain ⟨h4, h5, h6, h⟩ := h
    refine ⟨_, some (_, _), h, fun s x e => ?_, fun t2 b2 K' ht hw hk => ?_⟩
    · cases e; exact ⟨rfl, by rw [hb]; simp⟩
    · have e1 : evO t2 x = evO t x := evO_congr fun i hi => ht i (by simp [hi])
      have e2 : evO t2 y = evO t y := evO_congr fun i hi => ht i (by simp [hi])
      simp only [appZ, e1, e2, hx, addsC_wider hw hys, hw.get hb (by simp)]; exact ⟨h1, trivial, h2, h3, h4, h5, h6, hk⟩
  · rename_i hx
    split at h <;> try (exact h.elim)
    rename_i hb
    refine ⟨_, some (_, _), h.2, fun s x e => ?_, fun t2 b2 K' ht hw hk => ?_⟩
    · cases e; exact ⟨rfl, by rw [hb]; simp⟩
    · have e1 : evO t2 x = evO t x := evO_congr fun i hi => ht i (by simp [hi])
      have e2 : evO t2 y = evO t y := evO_congr fun i hi => ht i (by simp [hi])
      simp only [appZ, e1, e2, hx, addsC_wider hw hys, hw.get hb (by simp)]; exact ⟨h1, h.1, hk⟩

theorem pt_appz {s esz : Nat} {x y : Opnd} (h : opA P (.appz s esz x y) ⟨t, b⟩ K) : Pt P (.appz s esz x y) t b K := by
  obtain ⟨v, ch, h1, h2, h3⟩ := appZ_pt h
  exact ⟨v, ch, h1, fun s' z e => ⟨by simp [AOp.ws, (h2 s' z e).1], (h2 s' z e).2⟩, h3⟩

theorem pt_fix (op : AOp) {y : AC} {ch : Option (Nat × ABlk)} (hk : K y (App ch b)) (hc : ∀ s x, ch = some (s, x) → s ∈ op.ws ∧ b s ≠ .dead)
    (h : ∀ t2 b2 (K' : AC → (Nat → ABlk) → Prop), (∀ i ∈ op.rds, t2 i = t i) → Wider b b2 → K' y (App ch b2) → opA P op ⟨t2, b2⟩ K') : Pt P op t b K := ⟨y, ch, hk, hc, h⟩

/-- **Every operation.** -/
theorem opA_pt {op : AOp} (h : opA P op ⟨t, b⟩ K) : Pt P op t b K := by
  have ev : ∀ {t2 : Nat → AC} {x : Opnd} {l : List Nat}, (∀ i ∈ l, t2 i = t i) → (∀ i ∈ rdO x, i ∈ l) → evO t2 x = evO t x := fun ht hl => evO_congr fun i hi => ht i (hl i hi)
  have evs : ∀ {t2 : Nat → AC} {xs : List Opnd} {l : List Nat}, (∀ i ∈ l, t2 i = t i) → (∀ i ∈ xs.flatMap rdO, i ∈ l) → xs.map (evO t2) = xs.map (evO t) := fun ht hl => evOs_congr fun i hi => ht i (hl i hi)
  cases op with
  | ld => exact pt_ld h
  | st => exact pt_st h
  | app => exact pt_app h
  | appd => exact pt_appd h
  | std => exact pt_std h
  | mksd => exact pt_mksd h
  | appz => exact pt_appz h
  | icall => exact h.elim
  | icallv => exact h.elim
  | callz => exact h.elim
  | nck x =>
    simp only [opA] at h
    split at h <;> try (exact h.elim)
    · rename_i s off hx
      split at h <;> try (exact h.elim)
      rename_i cs hb
      exact ⟨_, none, h, noCh, fun t2 b2 K' ht hw hk => by
        have e1 : evO t2 x = evO t x := ev ht (by simp [AOp.rds]); simp only [opA, e1, hx, hw.get hb (by simp)]; exact hk⟩
    · rename_i cs hx
      exact ⟨_, none, h, noCh, fun t2 b2 K' ht hw hk => by have e1 : evO t2 x = evO t x := ev ht (by simp [AOp.rds]); simp only [opA, e1, hx]; exact hk⟩
  | eqn neg x =>
    simp only [opA] at h
    split at h <;> try (exact h.elim)
    all_goals
      rename_i hx
      exact ⟨_, none, h, noCh, fun t2 b2 K' ht hw hk => by have e1 : evO t2 x = evO t x := ev ht (by simp [AOp.rds]); simp only [opA, e1, hx]; exact hk⟩
  | mvf s x =>
    simp only [opA] at h
    split at h <;> try (exact h.elim)
    rename_i s' off len tot hx
    obtain ⟨rfl, h2, h3, h⟩ := h
    split at h <;> try (exact h.elim)
    rename_i esz els hb
    exact ⟨_, some (_, _), h.2, fun s x e => by cases e; exact ⟨by simp [AOp.ws], by rw [hb]; simp⟩, fun t2 b2 K' ht hw hk => by
      have e1 : evO t2 x = evO t x := ev ht (by simp [AOp.rds]); simp only [opA, e1, hx, hw.get hb (by simp)]; exact ⟨trivial, h2, h3, h.1, hk⟩⟩
  | bslr s esz sh xs =>
    simp only [opA] at h
    split at h <;> try (exact h.elim)
    rename_i cs hc hb
    exact ⟨_, some (_, _), h.2, fun s x e => by cases e; exact ⟨by simp [AOp.ws], by rw [hb]; simp⟩, fun t2 b2 K' ht hw hk => by
      have := elsC_wider hw (t2 := t2) ht hc
      simp only [opA, this, hw.get hb (by simp)]; exact ⟨h.1, hk⟩⟩
  | mkv s z x =>
    simp only [opA] at h
    split at h <;> try (exact h.elim)
    rename_i hx hb
    exact ⟨_, some (_, _), h.2.2, fun s x e => by cases e; exact ⟨by simp [AOp.ws], by rw [hb]; simp⟩, fun t2 b2 K' ht hw hk => by
      have e1 : evO t2 x = evO t x := ev ht (by simp [AOp.rds]); simp only [opA, e1, hw.get hb (by simp), hx]; exact ⟨h.1, h.2.1, hk⟩⟩
  | calln g xs =>
    simp only [opA] at h
    split at h <;> try (exact h.elim)
    rename_i ds hds
    obtain ⟨res, hP, hk⟩ := h
    exact ⟨_, none, hk, noCh, fun t2 b2 K' ht hw hk => by
      have e1 : xs.map (evO t2) = xs.map (evO t) := evs ht (fun i hi => by simp only [AOp.rds]; exact hi)
      simp only [opA, e1, mapM_imp (snap_wider hw 4) hds]; exact ⟨res, hP, hk⟩⟩
  | eqs neg n ls x y =>
    simp only [opA] at h
    split at h <;> try (exact h.elim)
    rename_i cs ds hx hy
    obtain ⟨h1, h1', h⟩ := h
    split at h <;> try (exact h.elim)
    rename_i r hr
    exact ⟨_, none, h, noCh, fun t2 b2 K' ht hw hk => by
      have e1 : evO t2 x = evO t x := ev ht (fun i hi => by simp [AOp.rds, hi])
      have e2 : evO t2 y = evO t y := ev ht (fun i hi => by simp [AOp.rds, hi])
      simp only [opA, e1, e2, hx, hy, hr]; exact ⟨h1, h1', hk⟩⟩
  | yield => exact h.elim
  | bad => exact h.elim
  | mv x => exact ⟨_, none, h, noCh, fun t2 b2 K' ht hw hk => by
      have e1 : evO t2 x = evO t x := ev ht (by simp [AOp.rds]); simp only [opA, e1]; exact hk⟩
  | pick c x y =>
    simp only [opA] at h
    split at h <;> try (exact h.elim)
    rename_i c' hc
    cases c' with
    | true => exact ⟨_, none, h.1 rfl, noCh, fun t2 b2 K' ht hw hk => by
        have e1 : evO t2 c = evO t c := ev ht (fun i hi => by simp [AOp.rds, hi])
        have e2 : evO t2 x = evO t x := ev ht (fun i hi => by simp [AOp.rds, hi])
        simp only [opA, e1, e2, hc]; exact ⟨fun _ => hk, fun h => by cases h⟩⟩
    | false => exact ⟨_, none, h.2 rfl, noCh, fun t2 b2 K' ht hw hk => by
        have e1 : evO t2 c = evO t c := ev ht (fun i hi => by simp [AOp.rds, hi])
        have e2 : evO t2 y = evO t y := ev ht (fun i hi => by simp [AOp.rds, hi])
        simp only [opA, e1, e2, hc]; exact ⟨fun h => (by cases h), fun _ => hk⟩⟩
  | bin op x y =>
    simp only [opA] at h
    obtain ⟨r, hr, hr'⟩ := binA_pt _ _ _ _ h
    exact ⟨r, none, hr, noCh, fun t2 b2 K' ht hw hk => by
      have e1 : evO t2 x = evO t x := ev ht (fun i hi => by simp [AOp.rds, hi])
      have e2 : evO t2 y = evO t y := ev ht (fun i hi => by simp [AOp.rds, hi])
      simp only [opA, e1, e2]; exact hr' _ hk⟩
  | eqb neg x y =>
    simp only [opA] at h
    split at h <;> try (exact h.elim)
    rename_i hx hy
    exact ⟨_, none, h, noCh, fun t2 b2 K' ht hw hk => by
      have e1 : evO t2 x = evO t x := ev ht (fun i hi => by simp [AOp.rds, hi])
      have e2 : evO t2 y = evO t y := ev ht (fun i hi => by simp [AOp.rds, hi])
      simp only [opA, e1, e2, hx, hy]; exact hk⟩
  | neg x =>
    simp only [opA] at h
    split at h <;> try (exact h.elim)
    rename_i hx
    exact ⟨_, none, h, noCh, fun t2 b2 K' ht hw hk => by have e1 : evO t2 x = evO t x := ev ht (by simp [AOp.rds]); simp only [opA, e1, hx]; exact hk⟩
  | xr x =>
    simp only [opA] at h
    split at h <;> try (exact h.elim)
    rename_i hx
    exact ⟨_, none, h, noCh, fun t2 b2 K' ht hw hk => by have e1 : evO t2 x = evO t x := ev ht (by simp [AOp.rds]); simp only [opA, e1, hx]; exact hk⟩
  | isn neg x =>
    simp only [opA] at h
    split at h <;> try (exact h.elim)
    all_goals
      rename_i hx
      exact ⟨_, none, h, noCh, fun t2 b2 K' ht hw hk => by have e1 : evO t2 x = evO t x := ev ht (by simp [AOp.rds]); simp only [opA, e1, hx]; exact hk⟩
  | tas ty x =>
    simp only [opA] at h
    split at h <;> try (exact h.elim)
    rename_i hx
    exact ⟨_, none, h.2, noCh, fun t2 b2 K' ht hw hk => by have e1 : evO t2 x = evO t x := ev ht (by simp [AOp.rds]); simp only [opA, e1, hx]; exact ⟨h.1, hk⟩⟩
  | mkia ty x =>
    simp only [opA] at h
    split at h <;> try (exact h.elim)
    rename_i hx
    split at h <;> try (exact h.elim)
    rename_i hv
    exact ⟨_, none, h, noCh, fun t2 b2 K' ht hw hk => by have e1 : evO t2 x = evO t x := ev ht (by simp [AOp.rds]); simp only [opA, e1, hx, hv]; exact hk⟩
  | not x =>
    simp only [opA] at h
    split at h <;> try (exact h.elim)
    rename_i hx
    exact ⟨_, none, h, noCh, fun t2 b2 K' ht hw hk => by have e1 : evO t2 x = evO t x := ev ht (by simp [AOp.rds]); simp only [opA, e1, hx]; exact hk⟩
  | alloc s sh zs =>
    simp only [opA] at h
    split at h <;> try (exact h.elim)
    rename_i hb
    exact ⟨_, some (_, _), h, fun s x e => by cases e; exact ⟨by simp [AOp.ws], by rw [hb]; simp⟩, fun t2 b2 K' ht hw hk => by simp only [opA, hw.get hb (by simp)]; exact hk⟩
  | nilrow s esz =>
    simp only [opA] at h
    split at h <;> try (exact h.elim)
    rename_i hb
    exact ⟨_, some (_, _), h, fun s x e => by cases e; exact ⟨by simp [AOp.ws], by rw [hb]; simp⟩, fun t2 b2 K' ht hw hk => by simp only [opA, hw.get hb (by simp)]; exact hk⟩
  | box s sh x =>
    simp only [opA] at h
    split at h <;> try (exact h.elim)
    rename_i us hb hus
    exact ⟨_, some (_, _), h.2, fun s x e => by cases e; exact ⟨by simp [AOp.ws], by rw [hb]; simp⟩, fun t2 b2 K' ht hw hk => by
      have e1 : evO t2 x = evO t x := ev ht (by simp [AOp.rds]); simp only [opA, e1, hw.get hb (by simp), hus]; exact ⟨standsAll_wider hw h.1, hk⟩⟩
  | boxd sh x =>
    simp only [opA] at h
    split at h <;> try (exact h.elim)
    rename_i us hus
    split at h <;> try (exact h.elim)
    rename_i ds hds
    exact ⟨_, none, h.2, noCh, fun t2 b2 K' ht hw hk => by
      have e1 : evO t2 x = evO t x := ev ht (by simp [AOp.rds]); simp only [opA, e1, hus, hds]; exact ⟨h.1, hk⟩⟩
  | mks s esz zs x =>
    simp only [opA] at h
    split at h <;> try (exact h.elim)
    rename_i hx hb
    exact ⟨_, some (_, _), h.2.2, fun s x e => by cases e; exact ⟨by simp [AOp.ws], by rw [hb]; simp⟩, fun t2 b2 K' ht hw hk => by
      have e1 : evO t2 x = evO t x := ev ht (by simp [AOp.rds]); simp only [opA, e1, hw.get hb (by simp), hx]; exact ⟨h.1, h.2.1, hk⟩⟩
  | mksz s esz zs x =>
    simp only [opA] at h
    split at h <;> try (exact h.elim)
    rename_i hx hb
    exact ⟨_, some (_, _), h.2.2, fun s x e => by cases e; exact ⟨by simp [AOp.ws], by rw [hb]; simp⟩, fun t2 b2 K' ht hw hk => by
      have e1 : evO t2 x = evO t x := ev ht (by simp [AOp.rds]); simp only [opA, e1, hw.get hb (by simp), hx]; exact ⟨h.1, h.2.1, hk⟩⟩
  | fad off x =>
    simp only [opA] at h
    split at h <;> try (exact h.elim)
    · rename_i hx
      split at h <;> try (exact h.elim)
      rename_i hb
      exact ⟨_, none, h, noCh, fun t2 b2 K' ht hw hk => by have e1 : evO t2 x = evO t x := ev ht (by simp [AOp.rds]); simp only [opA, e1, hx, hw.get hb (by simp)]; exact hk⟩
    · rename_i hx
      exact ⟨_, none, h, noCh, fun t2 b2 K' ht hw hk => by have e1 : evO t2 x = evO t x := ev ht (by simp [AOp.rds]); simp only [opA, e1, hx]; exact hk⟩
    · rename_i hx
      split at h <;> try (exact h.elim)
      rename_i hb
      exact ⟨_, none, h.2, noCh, fun t2 b2 K' ht hw hk => by have e1 : evO t2 x = evO t x := ev ht (by simp [AOp.rds]); simp only [opA, e1, hx, hw.get hb (by simp)]; exact ⟨h.1, hk⟩⟩
  | fld sh off x =>
    simp only [opA] at h
    split at h <;> try (exact h.elim)
    all_goals
      rename_i hx
      split at h
      · split at h <;> try (exact h.elim)
        rename_i hc
        exact ⟨_, none, h, noCh, fun t2 b2 K' ht hw hk => by have e1 : evO t2 x = evO t x := ev ht (by simp [AOp.rds]); simp only [opA, e1, hx, hc]; exact hk⟩
      · exact ⟨_, none, h.2, noCh, fun t2 b2 K' ht hw hk => by have e1 : evO t2 x = evO t x := ev ht (by simp [AOp.rds]); simp only [opA, e1, hx]; exact ⟨h.1, hk⟩⟩
  | ixa esz x i =>
    simp only [opA] at h
    split at h <;> try (exact h.elim)
    · rename_i hx hi
      exact ⟨_, none, h.2.2.2, noCh, fun t2 b2 K' ht hw hk => by
        have e1 : evO t2 x = evO t x := ev ht (fun i hi => by simp [AOp.rds, hi])
        have e2 : evO t2 i = evO t i := ev ht (fun i hi => by simp [AOp.rds, hi])
        simp only [opA, e1, e2, hx, hi]; exact ⟨h.1, h.2.1, h.2.2.1, hk⟩⟩
    · rename_i hx hi
      obtain ⟨h1, h2, h⟩ := h
      split at h <;> try (exact h.elim)
      rename_i hb
      exact ⟨_, none, h.2.2, noCh, fun t2 b2 K' ht hw hk => by
        have e1 : evO t2 x = evO t x := ev ht (fun i hi => by simp [AOp.rds, hi])
        have e2 : evO t2 i = evO t i := ev ht (fun i hi => by simp [AOp.rds, hi])
        simp only [opA, e1, e2, hx, hi, hw.get hb (by simp)]; exact ⟨h1, h2, h.1, h.2.1, hk⟩⟩
    · rename_i hx hi
      obtain ⟨h0, h1, h2, h⟩ := h
      split at h <;> try (exact h.elim)
      rename_i hb
      exact ⟨_, none, h, noCh, fun t2 b2 K' ht hw hk => by
        have e1 : evO t2 x = evO t x := ev ht (fun i hi => by simp [AOp.rds, hi])
        have e2 : evO t2 i = evO t i := ev ht (fun i hi => by simp [AOp.rds, hi])
        simp only [opA, e1, e2, hx, hi, hw.get hb (by simp)]; exact ⟨h0, h1, h2, hk⟩⟩
  | ixp n esz x i =>
    simp only [opA] at h
    split at h <;> try (exact h.elim)
    rename_i hx hi
    obtain ⟨h1, h2, h⟩ := h
    split at h <;> try (exact h.elim)
    rename_i hb
    exact ⟨_, none, h, noCh, fun t2 b2 K' ht hw hk => by
      have e1 : evO t2 x = evO t x := ev ht (fun i hi => by simp [AOp.rds, hi])
      have e2 : evO t2 i = evO t i := ev ht (fun i hi => by simp [AOp.rds, hi])
      simp only [opA, e1, e2, hx, hi, hw.get hb (by simp)]; exact ⟨h1, h2, hk⟩⟩
  | ixs x i =>
    simp only [opA] at h
    split at h <;> try (exact h.elim)
    rename_i hx hi
    exact ⟨_, none, h.2.2, noCh, fun t2 b2 K' ht hw hk => by
      have e1 : evO t2 x = evO t x := ev ht (fun i hi => by simp [AOp.rds, hi])
      have e2 : evO t2 i = evO t i := ev ht (fun i hi => by simp [AOp.rds, hi])
      simp only [opA, e1, e2, hx, hi]; exact ⟨h.1, h.2.1, hk⟩⟩
  | ixv sh n esz x i =>
    simp only [opA] at h
    split at h <;> try (exact h.elim)
    all_goals
      rename_i hx hi
      obtain ⟨h1, h2, h⟩ := h
      split at h
      · split at h <;> try (exact h.elim)
        rename_i hc
        exact ⟨_, none, h, noCh, fun t2 b2 K' ht hw hk => by
          have e1 : evO t2 x = evO t x := ev ht (fun i hi => by simp [AOp.rds, hi])
          have e2 : evO t2 i = evO t i := ev ht (fun i hi => by simp [AOp.rds, hi])
          simp only [opA, e1, e2, hx, hi, hc]; exact ⟨h1, h2, hk⟩⟩
      · exact ⟨_, none, h.2, noCh, fun t2 b2 K' ht hw hk => by
          have e1 : evO t2 x = evO t x := ev ht (fun i hi => by simp [AOp.rds, hi])
          have e2 : evO t2 i = evO t i := ev ht (fun i hi => by simp [AOp.rds, hi])
          simp only [opA, e1, e2, hx, hi]; exact ⟨h1, h2, h.1, hk⟩⟩
  | ext x k =>
    simp only [opA] at h
    split at h <;> try (exact h.elim)
    all_goals
      rename_i hx
      split at h <;> try (exact h.elim)
      rename_i hc
      exact ⟨_, none, h, noCh, fun t2 b2 K' ht hw hk => by have e1 : evO t2 x = evO t x := ev ht (by simp [AOp.rds]); simp only [opA, e1, hx, hc]; exact hk⟩
  | build zs ps =>
    simp only [opA] at h
    split at h <;> try (exact h.elim)
    rename_i cs hc
    exact ⟨_, none, h, noCh, fun t2 b2 K' ht hw hk => by
      have := fillC_wider hw (t2 := t2) ht hc
      simp only [opA, this]; exact hk⟩
  | bsl esz sh xs =>
    simp only [opA] at h
    split at h <;> try (exact h.elim)
    rename_i cs hc
    exact ⟨_, none, h.2, noCh, fun t2 b2 K' ht hw hk => by
      have := elsC_wider hw (t2 := t2) ht hc
      simp only [opA, this]; exact ⟨h.1, hk⟩⟩
  | len str x =>
    simp only [opA] at h
    split at h <;> try (exact h.elim)
    · rename_i hx
      exact ⟨_, none, h.2, noCh, fun t2 b2 K' ht hw hk => by have e1 : evO t2 x = evO t x := ev ht (by simp [AOp.rds]); simp only [opA, e1, hx]; exact ⟨h.1, hk⟩⟩
    · rename_i hx
      exact ⟨_, none, h.2, noCh, fun t2 b2 K' ht hw hk => by have e1 : evO t2 x = evO t x := ev ht (by simp [AOp.rds]); simp only [opA, e1, hx]; exact ⟨h.1, hk⟩⟩
    · rename_i hx
      exact ⟨_, none, h.2, noCh, fun t2 b2 K' ht hw hk => by have e1 : evO t2 x = evO t x := ev ht (by simp [AOp.rds]); simp only [opA, e1, hx]; exact ⟨h.1, hk⟩⟩
    · rename_i hx
      obtain ⟨h1, h⟩ := h
      split at h <;> try (exact h.elim)
      rename_i hb
      exact ⟨_, none, h.2, noCh, fun t2 b2 K' ht hw hk => by have e1 : evO t2 x = evO t x := ev ht (by simp [AOp.rds]); simp only [opA, e1, hx, hw.get hb (by simp)]; exact ⟨h1, h.1, hk⟩⟩
    · rename_i hx
      obtain ⟨h1, h⟩ := h
      split at h <;> try (exact h.elim)
      rename_i hb
      exact ⟨_, none, h, noCh, fun t2 b2 K' ht hw hk => by have e1 : evO t2 x = evO t x := ev ht (by simp [AOp.rds]); simp only [opA, e1, hx, hw.get hb (by simp)]; exact ⟨h1, hk⟩⟩
  | mx x ys =>
    simp only [opA] at h
    split at h <;> try (exact h.elim)
    rename_i r hr
    exact ⟨_, none, h, noCh, fun t2 b2 K' ht hw hk => by
      have e1 : evO t2 x = evO t x := ev ht (fun i hi => by simp [AOp.rds, hi])
      have e2 : ys.map (evO t2) = ys.map (evO t) := evs ht (fun i hi => by simp only [AOp.rds, List.mem_append]; exact .inr hi)
      simp only [opA, e1, e2, hr]; exact hk⟩
  | mn x ys =>
    simp only [opA] at h
    split at h <;> try (exact h.elim)
    rename_i r hr
    exact ⟨_, none, h, noCh, fun t2 b2 K' ht hw hk => by
      have e1 : evO t2 x = evO t x := ev ht (fun i hi => by simp [AOp.rds, hi])
      have e2 : ys.map (evO t2) = ys.map (evO t) := evs ht (fun i hi => by simp only [AOp.rds, List.mem_append]; exact .inr hi)
      simp only [opA, e1, e2, hr]; exact hk⟩
  | cv k x =>
    simp only [opA] at h
    split at h <;> try (exact h.elim)
    rename_i hx
    exact ⟨_, none, h, noCh, fun t2 b2 K' ht hw hk => by have e1 : evO t2 x = evO t x := ev ht (by simp [AOp.rds]); simp only [opA, e1, hx]; exact hk⟩
  | mkf g first caps =>
    simp only [opA] at h
    have e1 : ∀ {t2 : Nat → AC}, (∀ i ∈ AOp.rds (.mkf g first caps), t2 i = t i) → first.map (evO t2) = first.map (evO t) := fun ht => evs ht (fun i hi => by simp only [AOp.rds, List.mem_append]; exact .inl hi)
    have e2 : ∀ {t2 : Nat → AC}, (∀ i ∈ AOp.rds (.mkf g first caps), t2 i = t i) → caps.map (evO t2) = caps.map (evO t) := fun ht => evs ht (fun i hi => by simp only [AOp.rds, List.mem_append]; exact .inr hi)
    split at h <;> try (exact h.elim)
    all_goals
      rename_i h1 h2
      exact ⟨_, none, h, noCh, fun t2 b2 K' ht hw hk => by simp only [opA, e1 ht, e2 ht, h1, h2]; exact hk⟩
  | mki ty x =>
    simp only [opA] at h
    split at h <;> try (exact h.elim)
    rename_i hx
    exact ⟨_, none, h.2, noCh, fun t2 b2 K' ht hw hk => by have e1 : evO t2 x = evO t x := ev ht (by simp [AOp.rds]); simp only [opA, e1, hx]; exact ⟨h.1, hk⟩⟩
  | call g xs =>
    simp only [opA] at h
    split at h <;> try (exact h.elim)
    rename_i ds hds
    obtain ⟨res, hP, hf, hk⟩ := h
    exact ⟨_, none, hk, noCh, fun t2 b2 K' ht hw hk => by
      have e1 : xs.map (evO t2) = xs.map (evO t) := evs ht (fun i hi => by simp only [AOp.rds]; exact hi)
      simp only [opA, e1, mapM_imp (snap_wider hw 4) hds]; exact ⟨res, hP, hf, hk⟩⟩
  | callv x xs =>
    simp only [opA] at h
    split at h <;> try (exact h.elim)
    rename_i g first caps ds hclo hds
    obtain ⟨res, hP, hf, hk⟩ := h
    exact ⟨_, none, hk, noCh, fun t2 b2 K' ht hw hk => by
      have e0 : evO t2 x = evO t x := ev ht (fun i hi => by simp [AOp.rds, hi])
      have e1 : xs.map (evO t2) = xs.map (evO t) := evs ht (fun i hi => by simp only [AOp.rds, List.mem_append]; exact .inr hi)
      simp only [opA, e0, e1, snap_wider hw 4 _ _ hclo, mapM_imp (snap_wider hw 4) hds]; exact ⟨res, hP, hf, hk⟩⟩
  | slc esz x lo hi =>
    simp only [opA] at h
    have hl : ∀ {t2 : Nat → AC}, (∀ i ∈ AOp.rds (.slc esz x lo hi), t2 i = t i) → ∀ i ∈ rdOpt lo, t2 i = t i := fun ht i hi => ht i (by simp [AOp.rds, hi])
    have hh : ∀ {t2 : Nat → AC}, (∀ i ∈ AOp.rds (.slc esz x lo hi), t2 i = t i) → ∀ i ∈ rdOpt hi, t2 i = t i := fun ht i hi => ht i (by simp [AOp.rds, hi])
    split at h <;> try (exact h.elim)
    · rename_i xs hx
      obtain ⟨l, hk, g1⟩ := boundI_pt h
      obtain ⟨r, hk2, g2⟩ := boundI_pt hk
      refine ⟨_, none, hk2.2.2.2.2, noCh, fun t2 b2 K' ht hw hk' => ?_⟩
      have e1 : evO t2 x = evO t x := ev ht (fun i hi => by simp [AOp.rds, hi])
      simp only [opA, e1, hx]
      exact g1 t2 (hl ht) _ (g2 t2 (hh ht) _ ⟨hk2.1, hk2.2.1, hk2.2.2.1, hk2.2.2.2.1, hk'⟩)
    · rename_i s off len tot hx
      obtain ⟨h0, h⟩ := h
      obtain ⟨r, hk2, g2⟩ := boundI_pt h
      obtain ⟨k1, k2, hk2⟩ := hk2
      split at hk2 <;> try (exact hk2.elim)
      rename_i esz' els hb
      refine ⟨_, none, hk2.2.2, noCh, fun t2 b2 K' ht hw hk' => ?_⟩
      have e1 : evO t2 x = evO t x := ev ht (fun i hi => by simp [AOp.rds, hi])
      simp only [opA, e1, hx]
      refine ⟨h0, g2 t2 (hh ht) _ ⟨k1, k2, ?_⟩⟩
      simp only [hw.get hb (by simp)]; exact ⟨hk2.1, hk2.2.1, hk'⟩
  | sls x lo hi =>
    simp only [opA] at h
    split at h <;> try (exact h.elim)
    rename_i xs hx
    have hl : ∀ {t2 : Nat → AC}, (∀ i ∈ AOp.rds (.sls x lo hi), t2 i = t i) → ∀ i ∈ rdOpt lo, t2 i = t i := fun ht i hi => ht i (by simp [AOp.rds, hi])
    have hh : ∀ {t2 : Nat → AC}, (∀ i ∈ AOp.rds (.sls x lo hi), t2 i = t i) → ∀ i ∈ rdOpt hi, t2 i = t i := fun ht i hi => ht i (by simp [AOp.rds, hi])
    obtain ⟨l, hk, g1⟩ := boundI_pt h
    obtain ⟨r, hk2, g2⟩ := boundI_pt hk
    refine ⟨_, none, hk2.2.2.2, noCh, fun t2 b2 K' ht hw hk' => ?_⟩
    have e1 : evO t2 x = evO t x := ev ht (fun i hi => by simp [AOp.rds, hi])
    simp only [opA, e1, hx]
    exact g1 t2 (hl ht) _ (g2 t2 (hh ht) _ ⟨hk2.1, hk2.2.1, hk2.2.2.1, hk'⟩)
end
end Go.AM

/- The abstract machine, part 13: regions, code, loops; a function's contract out of its body. No condition. -/
set_option linter.unusedVariables false
set_option linter.unusedSimpArgs false
namespace Go.AM
open Go

structure AOper where
  dst : Option Nat
  op : AOp
  g : Option (Nat × Bool) := none
  av : List Nat := []

def mkT : List (Nat × AC) → Nat → AC
  | [], _ => .junk
  | (j, v) :: l, i => if i = j then v else mkT l i
def mkB : List (Nat × ABlk) → Nat → ABlk
  | [], _ => .fresh
  | (j, v) :: l, i => if i = j then v else mkB l i

def maskB : List Nat → (Nat → ABlk) → Nat → ABlk
  | [], b => b
  | a :: av, b => fun s => if (a :: av).contains s then .dead else b s
def unmaskB : List Nat → (Nat → ABlk) → (Nat → ABlk) → Nat → ABlk
  | [], _, b' => b'
  | a :: av, b, b' => fun s => if (a :: av).contains s then b s else b' s

/-- One operation, its guard looked at. -/
def operA0 (P : Program) (o : AOper) (σ : St) (K : AC → (Nat → ABlk) → Prop) : Prop :=
  match o.g with
  | none => opA P o.op σ K
  | some (g, want) => match σ.t g with
    | .d (.v (.bool b)) => (b = want → opA P o.op σ K) ∧ (b = (!want) → K (.d (.v undef)) σ.b)
    | .d (.v (.tuple _)) => K (.d (.v undef)) σ.b
    | _ => False

/-- One operation, where the slots 'av' are not looked at. -/
def operA (P : Program) (o : AOper) (σ : St) (K : St → Prop) : Prop :=
  operA0 P o ⟨σ.t, maskB o.av σ.b⟩ fun y b' => K (St.put ⟨σ.t, unmaskB o.av σ.b b'⟩ o.dst y)

def opsA (P : Program) : List AOper → St → (St → Prop) → Prop
  | [], σ, K => K σ
  | o :: os, σ, K => operA P o σ fun σ' => opsA P os σ' K

def AOper.rds (o : AOper) : List Nat := match o.g with | some (g, _) => g :: o.op.rds | none => o.op.rds

theorem maskB_in {av : List Nat} {b : Nat → ABlk} {s : Nat} (h : s ∈ av) : maskB av b s = .dead := by
  cases av with
  | nil => cases h
  | cons a av => simp [maskB]; intro h1 h2; simp at h; rcases h with h | h <;> contradiction
theorem maskB_out {av : List Nat} {b : Nat → ABlk} {s : Nat} (h : s ∉ av) : maskB av b s = b s := by
  cases av with
  | nil => rfl
  | cons a av => simp at h; simp [maskB, h]
theorem unmaskB_in {av : List Nat} {b b' : Nat → ABlk} {s : Nat} (h : s ∈ av) : unmaskB av b b' s = b s := by
  cases av with
  | nil => cases h
  | cons a av => simp at h; simp [unmaskB]; intro h1 h2; rcases h with h | h <;> contradiction
theorem unmaskB_out {av : List Nat} {b b' : Nat → ABlk} {s : Nat} (h : s ∉ av) : unmaskB av b b' s = b' s := by
  cases av with
  | nil => rfl
  | cons a av => simp at h; simp [unmaskB, h]

theorem App_ne {ch : Option (Nat × ABlk)} {b : Nat → ABlk} {s : Nat} (h : ∀ s' x, ch = some (s', x) → s' ≠ s) : App ch b s = b s := by
  cases ch with
  | none => rfl
  | some p => exact upd_ne _ _ (fun e => h p.1 p.2 rfl e.symm)

theorem unmask_app {av : List Nat} {b : Nat → ABlk} {ch : Option (Nat × ABlk)} (h : ∀ s x, ch = some (s, x) → s ∉ av) : unmaskB av b (App ch (maskB av b)) = App ch b := by
  funext s
  by_cases hs : s ∈ av
  · rw [unmaskB_in hs, App_ne]
    intro s' x e e'; exact h s' x e (e' ▸ hs)
  · rw [unmaskB_out hs]
    cases ch with
    | none => exact maskB_out hs
    | some p =>
      simp only [App, upd]
      split
      · rfl
      · exact maskB_out hs

section
variable {P : Program}
theorem operA0_pt {o : AOper} {t : Nat → AC} {b : Nat → ABlk} {K : AC → (Nat → ABlk) → Prop} (h : operA0 P o ⟨t, b⟩ K) :
    ∃ y ch, K y (App ch b) ∧ (∀ s x, ch = some (s, x) → s ∈ o.op.ws ∧ b s ≠ .dead) ∧
    ∀ t2 b2 (K' : AC → (Nat → ABlk) → Prop), (∀ i ∈ o.rds, t2 i = t i) → Wider b b2 → K' y (App ch b2) → operA0 P o ⟨t2, b2⟩ K' := by
  unfold operA0 at h
  split at h
  · rename_i hg
    obtain ⟨y, ch, h1, h2, h3⟩ := opA_pt h
    refine ⟨y, ch, h1, h2, fun t2 b2 K' ht hw hk => ?_⟩
    unfold operA0; rw [hg]
    exact h3 t2 b2 K' (by simpa [AOper.rds, hg] using ht) hw hk
  · rename_i g want hg
    simp only at h
    split at h <;> try (exact h.elim)
    · rename_i bb hb
      by_cases hbw : bb = want
      · obtain ⟨y, ch, h1, h2, h3⟩ := opA_pt (h.1 hbw)
        refine ⟨y, ch, h1, h2, fun t2 b2 K' ht hw hk => ?_⟩
        unfold operA0; rw [hg]
        have e : t2 g = t g := ht g (by simp [AOper.rds, hg])
        simp only [e, hb]
        exact ⟨fun _ => h3 t2 b2 K' (fun i hi => ht i (by simp [AOper.rds, hg, hi])) hw hk, fun e => by subst hbw; cases bb <;> simp at e⟩
      · have hn : bb = (!want) := by cases bb <;> cases want <;> simp_all
        refine ⟨_, none, h.2 hn, fun _ _ h => (by cases h), fun t2 b2 K' ht hw hk => ?_⟩
        unfold operA0; rw [hg]
        have e : t2 g = t g := ht g (by simp [AOper.rds, hg])
        simp only [e, hb]
        exact ⟨fun e => absurd e hbw, fun _ => hk⟩
    · rename_i vs hb
      refine ⟨_, none, h, fun _ _ h => (by cases h), fun t2 b2 K' ht hw hk => ?_⟩
      unfold operA0; rw [hg]
      have e : t2 g = t g := ht g (by simp [AOper.rds, hg])
      simp only [e, hb]; exact hk

theorem operA_pt {o : AOper} {σ : St} {K : St → Prop} (h : operA P o σ K) :
    ∃ y ch, K (St.put ⟨σ.t, App ch σ.b⟩ o.dst y) ∧ (∀ s x, ch = some (s, x) → s ∈ o.op.ws ∧ s ∉ o.av) ∧
    (∀ (σ2 : St) (K' : St → Prop), (∀ i ∈ o.rds, σ2.t i = σ.t i) → (∀ s, s ∉ o.av → σ2.b s = σ.b s) → K' (St.put ⟨σ2.t, App ch σ2.b⟩ o.dst y) → operA P o σ2 K') ∧
    ∀ (K' : AC → (Nat → ABlk) → Prop), K' y (App ch σ.b) → operA0 P o σ K' := by
  obtain ⟨y, ch, h1, h2, h3⟩ := operA0_pt h
  have hav : ∀ s x, ch = some (s, x) → s ∉ o.av := fun s x e hs => (h2 s x e).2 (maskB_in hs)
  refine ⟨y, ch, ?_, fun s x e => ⟨(h2 s x e).1, hav s x e⟩, fun σ2 K' ht hb hk => ?_, fun K' hk => ?_⟩
  · rw [unmask_app hav] at h1; exact h1
  · refine h3 σ2.t _ _ ht (fun s => ?_) ?_
    · by_cases hs : s ∈ o.av
      · exact .inl (maskB_in hs)
      · exact .inr (by rw [maskB_out hs, maskB_out hs, hb s hs])
    · show K' _
      rw [unmask_app hav]; exact hk
  · refine h3 σ.t σ.b _ (fun _ _ => rfl) (fun s => ?_) hk
    by_cases hs : s ∈ o.av
    · exact .inl (maskB_in hs)
    · exact .inr (by rw [maskB_out hs])

theorem operA_mono {o : AOper} {σ : St} {K K' : St → Prop} (hk : ∀ σ', K σ' → K' σ') (h : operA P o σ K) : operA P o σ K' := by
  obtain ⟨y, ch, h1, _, h3, _⟩ := operA_pt h
  exact h3 σ K' (fun _ _ => rfl) (fun _ _ => rfl) (hk _ h1)

/-- Does it call a yield, or a function that turns slots? -/
def AOp.isH : AOp → Bool
  | .yield .. => true
  | .icall .. => true
  | .icallv .. => true
  | .callz .. => true
  | .eqn .. => true
  | _ => false

/-- Two operations of which it does not matter which comes first. -/
def indepA (x y : AOper) : Bool :=
  !x.op.isH && !y.op.isH && (match x.dst with | some d => !y.rds.contains d && y.dst != some d | none => true) && (match y.dst with | some d => !x.rds.contains d | none => true) &&
  x.op.ws.all y.av.contains && y.op.ws.all x.av.contains

theorem operA_swap {x y : AOper} {σ : St} {K : St → Prop} (hi : indepA x y = true) (h : operA P x σ fun σ1 => operA P y σ1 K) : operA P y σ fun σ1 => operA P x σ1 K := by
  simp only [indepA, Bool.and_eq_true] at hi
  obtain ⟨⟨⟨⟨⟨_, _⟩, i1⟩, i2⟩, i3⟩, i4⟩ := hi
  have r1 : ∀ d, x.dst = some d → d ∉ y.rds ∧ y.dst ≠ some d := fun d e => by rw [e] at i1; simpa using i1
  have r2 : ∀ d, y.dst = some d → d ∉ x.rds := fun d e => by rw [e] at i2; simpa using i2
  have r3 : ∀ s, s ∈ x.op.ws → s ∈ y.av := fun s e => by simpa using List.all_eq_true.1 i3 s e
  have r4 : ∀ s, s ∈ y.op.ws → s ∈ x.av := fun s e => by simpa using List.all_eq_true.1 i4 s e
  obtain ⟨u, cx, h1, hcx, hx, _⟩ := operA_pt h
  obtain ⟨v, cy, h2, hcy, hy, _⟩ := operA_pt h1
  have putT : ∀ (σ : St) (d : Option Nat) (y : AC) (i : Nat), d ≠ some i → (St.put σ d y).t i = σ.t i := fun σ d y i hd => by
    cases d with
    | none => rfl
    | some d => exact upd_ne _ _ (fun e => hd (by rw [e]))
  have putB : ∀ (σ : St) (d : Option Nat) (y : AC), (St.put σ d y).b = σ.b := fun σ d y => by cases d <;> rfl
  refine hy σ _ (fun i hi => ?_) (fun s hs => ?_) ?_
  · rw [putT _ _ _ _ (fun e => (r1 i e).1 hi)]
  · rw [putB]; refine (App_ne fun s' z e e' => ?_).symm
    exact hs (e' ▸ r3 s' (hcx s' z e).1)
  · refine hx _ _ (fun i hi => ?_) (fun s hs => ?_) ?_
    · rw [putT _ _ _ _ (fun e => r2 i e hi)]
    · rw [putB]; refine App_ne fun s' z e e' => ?_
      exact hs (e' ▸ r4 s' (hcy s' z e).1)
    · have eB : App cx (App cy σ.b) = App cy (App cx σ.b) := by
        funext s
        cases cx with
        | none => rfl
        | some p =>
          cases cy with
          | none => rfl
          | some q =>
            have hne : p.1 ≠ q.1 := fun e => (hcy q.1 q.2 rfl).2 (e ▸ r3 p.1 (hcx p.1 p.2 rfl).1)
            simp only [App, upd]
            by_cases e1 : s = p.1
            · have : s ≠ q.1 := fun e => hne (e1 ▸ e)
              simp [e1, hne]
            · simp [e1]
      have eT : ∀ (b : Nat → ABlk), St.put ⟨(St.put ⟨σ.t, App cy σ.b⟩ y.dst v).t, b⟩ x.dst u = St.put ⟨(St.put ⟨σ.t, App cx σ.b⟩ x.dst u).t, b⟩ y.dst v := fun b => by
        cases hdx : x.dst with
        | none => cases y.dst <;> rfl
        | some d =>
          cases hdy : y.dst with
          | none => rfl
          | some e =>
            have hne : d ≠ e := fun e' => (r1 d hdx).2 (by rw [hdy, e'])
            simp only [St.put]
            congr 1
            funext i
            simp only [upd]
            by_cases e1 : i = d
            · simp [e1, hne]
            · simp [e1]
      rw [putB, eB, eT]
      rw [putB] at h2
      exact h2

end

/-- An operation that panics. -/
inductive POp where
  | call (g : FuncId) (xs : List Opnd)
  | yield (lt pr : List Nat) (x : Opnd) (xs : List Opnd)
  | pan (x : Opnd)

inductive ACode where
  | alt (x y : ACode)
  | regp (ops : List AOper) (po : POp)
  | skip
  | reg (ops : List AOper)
  | regd (ops : List AOper)
  | seq (x y : ACode)
  | cond (c : Opnd) (x y : ACode)
  | block (id : Nat) (x : ACode)
  | loop (lt ls : List Nat) (x : ACode)
  | rfun (p : Nat) (g : FuncId) (nf : Nat) (code : ACode) (x : Opnd) (lt pr : List Nat) (ps : List Nat) (asg body : ACode)
  | conv (s r esz : Nat) (x : ACode)
  | frz (lt ls : List Nat) (s : Nat) (x : ACode)
  | frzs (lt ls S : List Nat) (x : ACode)
  | scope (x : ACode)
  | lab (n : Nat)
  | exit (id : Nat)
  | ret
  | bad

def scrC (ls : List Nat) (x : AC) : AC := if onlyC ls x = true then x else .junk
def scrB (ls : List Nat) : ABlk → ABlk
  | .var cs => .var (cs.map (scrC ls))
  | x => x

/-- What is forgotten at a loop's head: temporaries that are not live, slots that are given up. -/
def St.forget (σ : St) (lt ls : List Nat) : St :=
  ⟨mkT (lt.map fun i => (i, scrC ls (σ.t i))), mkB (ls.map fun s => (s, scrB ls (σ.b s)))⟩

/-- A row that is given up reads as pure data. -/
def FrzC (s : Nat) (els : List (List D)) (x y : AC) : Prop := y = x ∨ (x = .row s 0 els.length els.length ∧ y = .d (.list els))
def FrzL (s : Nat) (els : List (List D)) : List AC → List AC → Prop
  | [], [] => True
  | c :: cs, c' :: cs' => FrzC s els c c' ∧ FrzL s els cs cs'
  | _, _ => False
/-- A row is given up wherever it stands. -/
def Frz (s : Nat) (els : List (List D)) (σ σ' : St) : Prop :=
  (∀ i, FrzC s els (σ.t i) (σ'.t i)) ∧ σ'.b s = .dead ∧ ∀ q, q ≠ s → σ'.b q = σ.b q ∨ ∃ cs cs', σ.b q = .var cs ∧ σ'.b q = .var cs' ∧ FrzL s els cs cs'
def FrzW (k : (Nat → AC) → (Nat → ABlk) → Prop) (lt ls : List Nat) (s : Nat) (t : Nat → AC) (b : Nat → ABlk) : Prop :=
  ∃ esz els σ', (St.forget ⟨t, b⟩ lt ls).b s = .row esz els ∧ Frz s els (St.forget ⟨t, b⟩ lt ls) σ' ∧ k σ'.t σ'.b
def FrzTs (s : Nat) (els : List (List D)) : List (Nat × AC) → List (Nat × AC) → Prop
  | [], [] => True
  | c :: cs, c' :: cs' => c'.1 = c.1 ∧ FrzC s els c.2 c'.2 ∧ FrzTs s els cs cs'
  | _, _ => False
def FrzBs (s : Nat) (els : List (List D)) : List (Nat × ABlk) → List (Nat × ABlk) → Prop
  | [], [] => True
  | c :: cs, c' :: cs' => c'.1 = c.1 ∧ (c.1 = s ∨ c'.2 = c.2 ∨ ∃ l l', c.2 = .var l ∧ c'.2 = .var l' ∧ FrzL s els l l') ∧ FrzBs s els cs cs'
  | _, _ => False
theorem frzT_get {s : Nat} {els : List (List D)} : ∀ {l l' : List (Nat × AC)}, FrzTs s els l l' → ∀ i, FrzC s els (mkT l i) (mkT l' i)
  | [], [], _, i => .inl rfl
  | [], _ :: _, h, _ => h.elim
  | _ :: _, [], h, _ => h.elim
  | (j, c) :: l, (j', c') :: l', ⟨h1, h2, h3⟩, i => by
    have h1 : j' = j := h1
    subst h1
    simp only [mkT]
    split
    · exact h2
    · exact frzT_get h3 i
theorem frzB_get {s : Nat} {els : List (List D)} : ∀ {l l' : List (Nat × ABlk)}, FrzBs s els l l' → ∀ q, q ≠ s → mkB l' q = mkB l q ∨ ∃ cs cs', mkB l q = .var cs ∧ mkB l' q = .var cs' ∧ FrzL s els cs cs'
  | [], [], _, q, _ => .inl rfl
  | [], _ :: _, h, _, _ => h.elim
  | _ :: _, [], h, _, _ => h.elim
  | (j, c) :: l, (j', c') :: l', ⟨h1, h2, h3⟩, q, hq => by
    have h1 : j' = j := h1
    subst h1
    simp only [mkB]
    split
    · rename_i e
      rcases h2 with h2 | h2 | h2
      · exact absurd (e.trans h2) hq
      · exact .inl h2
      · exact .inr h2
    · exact frzB_get h3 q hq
/-- **A row is given up**, the state written out. -/
theorem frzI {k : (Nat → AC) → (Nat → ABlk) → Prop} {lt ls : List Nat} {s : Nat} {t : Nat → AC} {b : Nat → ABlk} (lT : List (Nat × AC)) (lB : List (Nat × ABlk)) (lT' : List (Nat × AC)) (lB' : List (Nat × ABlk)) (esz : Nat) (els : List (List D))
    (h0 : St.forget ⟨t, b⟩ lt ls = ⟨mkT lT, mkB lB⟩) (h1 : mkB lB s = .row esz els) (hT : FrzTs s els lT lT') (hB : FrzBs s els lB lB') (hd : mkB lB' s = .dead) (h : k (mkT lT') (mkB lB')) : FrzW k lt ls s t b := by
  refine ⟨esz, els, ⟨mkT lT', mkB lB'⟩, by rw [h0]; exact h1, ?_, h⟩
  rw [h0]
  exact ⟨fun i => frzT_get hT i, hd, fun q hq => frzB_get hB q hq⟩

/-- Only some slots. -/
def maskS (S : List Nat) (b : Nat → ABlk) (s : Nat) : ABlk := if S.contains s = true then b s else .dead
/-- What reads through slots that are given up reads as pure data. -/
def GivC (S : List Nat) (b : Nat → ABlk) (x y : AC) : Prop := y = x ∨ ∃ d, snap (maskS S b) 4 x = some d ∧ y = .d d
def GivL (S : List Nat) (b : Nat → ABlk) : List AC → List AC → Prop
  | [], [] => True
  | c :: cs, c' :: cs' => GivC S b c c' ∧ GivL S b cs cs'
  | _, _ => False
def Live (b : ABlk) : Prop := (∃ esz els, b = .row esz els) ∨ ∃ cs, b = .var cs
/-- Slots are given up wherever they stand. -/
def Giv (S : List Nat) (σ σ' : St) : Prop :=
  (∀ i, GivC S σ.b (σ.t i) (σ'.t i)) ∧ ∀ q, (S.contains q = true → Live (σ.b q) ∧ σ'.b q = .dead) ∧ (S.contains q = false → σ'.b q = σ.b q ∨ ∃ cs cs', σ.b q = .var cs ∧ σ'.b q = .var cs' ∧ GivL S σ.b cs cs')
def GivW (k : (Nat → AC) → (Nat → ABlk) → Prop) (lt ls S : List Nat) (t : Nat → AC) (b : Nat → ABlk) : Prop :=
  ∃ σ', Giv S (St.forget ⟨t, b⟩ lt ls) σ' ∧ k σ'.t σ'.b
def GivTs (S : List Nat) (b : Nat → ABlk) : List (Nat × AC) → List (Nat × AC) → Prop
  | [], [] => True
  | c :: cs, c' :: cs' => c'.1 = c.1 ∧ GivC S b c.2 c'.2 ∧ GivTs S b cs cs'
  | _, _ => False
def GivBs (S : List Nat) (b : Nat → ABlk) : List (Nat × ABlk) → List (Nat × ABlk) → Prop
  | [], [] => True
  | c :: cs, c' :: cs' => c'.1 = c.1 ∧ ((S.contains c.1 = true ∧ c'.2 = .dead) ∨ (S.contains c.1 = false ∧ (c'.2 = c.2 ∨ ∃ l l', c.2 = .var l ∧ c'.2 = .var l' ∧ GivL S b l l'))) ∧ GivBs S b cs cs'
  | _, _ => False
theorem givT_get {S : List Nat} {b : Nat → ABlk} : ∀ {l l' : List (Nat × AC)}, GivTs S b l l' → ∀ i, GivC S b (mkT l i) (mkT l' i)
  | [], [], _, i => .inl rfl
  | [], _ :: _, h, _ => h.elim
  | _ :: _, [], h, _ => h.elim
  | (j, c) :: l, (j', c') :: l', ⟨h1, h2, h3⟩, i => by
    have h1 : j' = j := h1
    subst h1
    simp only [mkT]
    split
    · exact h2
    · exact givT_get h3 i
theorem givB_get {S : List Nat} {b : Nat → ABlk} : ∀ {l l' : List (Nat × ABlk)}, GivBs S b l l' → ∀ q, (S.contains q = true → mkB l q ≠ .fresh → mkB l' q = .dead) ∧ (S.contains q = false → mkB l' q = mkB l q ∨ ∃ cs cs', mkB l q = .var cs ∧ mkB l' q = .var cs' ∧ GivL S b cs cs')
  | [], [], _, q => ⟨fun _ h => absurd rfl h, fun _ => .inl rfl⟩
  | [], _ :: _, h, _ => h.elim
  | _ :: _, [], h, _ => h.elim
  | (j, c) :: l, (j', c') :: l', ⟨h1, h2, h3⟩, q => by
    have h1 : j' = j := h1
    subst h1
    simp only [mkB]
    split
    · rename_i e
      subst e
      rcases h2 with ⟨k1, k2⟩ | ⟨k1, k2⟩
      · exact ⟨fun _ _ => k2, fun h => (by rw [k1] at h; cases h)⟩
      · exact ⟨fun h => (by rw [k1] at h; cases h), fun _ => k2⟩
    · exact givB_get h3 q
/-- **Slots are given up**, the state written out. -/
theorem givI {k : (Nat → AC) → (Nat → ABlk) → Prop} {lt ls S : List Nat} {t : Nat → AC} {b : Nat → ABlk} (lT : List (Nat × AC)) (lB : List (Nat × ABlk)) (lT' : List (Nat × AC)) (lB' : List (Nat × ABlk))
    (h0 : St.forget ⟨t, b⟩ lt ls = ⟨mkT lT, mkB lB⟩) (h1 : ∀ s ∈ S, Live (mkB lB s)) (hT : GivTs S (mkB lB) lT lT') (hB : GivBs S (mkB lB) lB lB') (h : k (mkT lT') (mkB lB')) : GivW k lt ls S t b := by
  refine ⟨⟨mkT lT', mkB lB'⟩, ?_, h⟩
  rw [h0]
  refine ⟨fun i => givT_get hT i, fun q => ⟨fun hq => ?_, fun hq => (givB_get hB q).2 hq⟩⟩
  have hl := h1 q (by simpa using hq)
  refine ⟨hl, (givB_get hB q).1 hq ?_⟩
  rcases hl with ⟨_, _, e⟩ | ⟨_, e⟩ <;> (intro e2; rw [e] at e2; cases e2)

/-- What a call of a loop's yield does: the slots that others hold, the loop, the arguments, the slots. -/
abbrev Hand := List Nat → Nat → List AC → (Nat → ABlk) → (AC → (Nat → ABlk) → Prop) → Prop
def noH : Hand := fun _ _ _ _ _ => False

/-- The temporaries that are live, and nothing more. -/
def keepT (t : Nat → AC) (lt : List Nat) : Nat → AC := mkT (lt.map fun i => (i, t i))

/-- A closure's function and what it has caught. -/
def capsOf : AC → Option (FuncId × List AC)
  | .clo g [] caps => some (g, caps)
  | .d (.clo g [] caps) => some (g, caps.map .d)
  | _ => none

/-- The fence that lets everything by; ρ: the round that the frame is of. -/
def wf (ρ : Option Nat) : Fence := { Fence.wide with round := ρ }
/-- What a round leaves that panics. -/
def pacC (v : Value) : AC := .tup [.d (.v v)]
def isPac : AC → Bool
  | .tup [.d (.v _)] => true
  | _ => false
/-- What a frame's calls of yield do is so. -/
def HandOK (P : Program) (X : Ctx) (H : Hand) : Prop :=
  ∀ (pr' : List Nat) (l : Nat) (args : List AC) (b : Nat → ABlk) (K : AC → (Nat → ABlk) → Prop) (t : Nat → AC) (lt : List Nat) (m : Nat → Loc) (a : Act) (w : World) (vs : Array Value),
    H pr' l args b K → Rel X ⟨keepT t lt, b⟩ m a w → X.pr.all pr'.contains = true → (∀ i ∈ lt, onlyC pr' (t i) = true) → vs.size = args.length → (∀ j (hj : j < args.length), RelC (X.ok m) w b m (args[j]) (vs.getD j undef)) →
    ∃ f tmps asg bod, (Instr.yield l vs).run P w = .ok (.round l f tmps asg bod) w ∧ ∀ nn, RoundIn (wf none) nn P l f tmps asg bod w fun e w' => ∃ y b' m', K y b' ∧
      ((∃ v, e = .returned v ∧ isPac y = false ∧ Rel X ⟨keepT t lt, b'⟩ m' a w' ∧ RelC (X.ok m') w' b' m' y v) ∨ (∃ v, e = .panicked [{ v := v, recovered := false }] ∧ y = pacC v ∧ Rel { X with lp := none } ⟨keepT t lt, b'⟩ m' a w'))

/-- A frame that the one frame has called, or one that such a frame has. -/
structure Wid (X X' : Ctx) : Prop where
  ok0 : X'.ok0 = X.ok0
  C : X'.C = X.C
  w0 : X'.w0 = X.w0
  lp : X'.lp = X.lp
  gs : ∀ q ∈ X.gs, q ∈ X'.gs
  fx : ∀ q ∈ X.fx, q ∈ X'.fx
  pr : X.pr.all X'.pr.contains = true
  nm : X'.nm = true
  sep : ∀ i, X.lp = some i → ∀ q ∈ X'.fx, q.1 ≠ i.l

structure HandsOK (P : Program) (X : Ctx) (H : Hand) : Prop where
  sep : ∀ i, X.lp = some i → ∀ q ∈ X.fx, q.1 ≠ i.l
  own : HandOK P X H
  wid : ∀ X', Wid X X' → HandOK P X' H

/-- **What a call does that turns slots**, or calls a loop's yield. ls: the slots that the frame keeps. -/
def ImpFn (P : Program) (H : Hand) (ls : List Nat) (g : FuncId) (args : List AC) (b : Nat → ABlk) (K : AC → (Nat → ABlk) → Prop) : Prop :=
  Enters P g ∧ ∀ (X : Ctx) (t : Nat → AC) (lt : List Nat) (m : Nat → Loc) (a : Act) (w : World) (vs : Array Value), HandsOK P X H → Rel X ⟨keepT t lt, b⟩ m a w → X.pr.all ls.contains = true → (∀ i ∈ lt, onlyC ls (t i) = true) →
    vs.size = args.length → (∀ j (hj : j < args.length), RelC (X.ok m) w b m (args[j]) (vs.getD j undef)) →
    Calls P g vs w fun e w' => ∃ v y b' m', e = .returned v ∧ K y b' ∧ Rel X ⟨keepT t lt, b'⟩ m' a w' ∧ RelC (X.ok m') w' b' m' y v

theorem ImpFn.mono {P : Program} {H : Hand} {ls : List Nat} {g : FuncId} {args : List AC} {b : Nat → ABlk} {K K' : AC → (Nat → ABlk) → Prop} (h : ImpFn P H ls g args b K) (hk : ∀ y b', K y b' → K' y b') : ImpFn P H ls g args b K' := by
  refine ⟨h.1, fun X t lt m a w vs h1 h2 h3 h4 h5 h6 => ?_⟩
  refine callsIn_wide.1 ((callsIn_wide.2 (h.2 X t lt m a w vs h1 h2 h3 h4 h5 h6) : CallsIn Fence.wide 0 P g vs w _).mono ?_)
  rintro e w' ⟨v, y, b', m', e1, hK, hr, hy⟩
  exact ⟨v, y, b', m', e1, hk _ _ hK, hr, hy⟩

/-- A call of a loop's yield, or one that turns slots. -/
def operH1 (P : Program) (H : Hand) (prot : List Nat) (op : AOp) (dst : Option Nat) (σ : St) (K : St → Prop) : Prop :=
  match op with
  | .yield lt pr x xs => match evO σ.t x with
    | .d (.v (.func (.yield l) f c)) => f = #[] ∧ c = #[] ∧ (prot.all pr.contains && lt.all fun i => onlyC pr (σ.t i)) = true ∧
        H pr l (xs.map (evO σ.t)) σ.b fun y b' => cond (isPac y) False (K (St.put ⟨keepT σ.t lt, b'⟩ dst y))
    | _ => False
  | .icall lt ls g xs => prot.all ls.contains = true ∧ ImpFn P H ls g ((xs.map (evO σ.t)).map (scrC ls)) (σ.forget lt ls).b fun y b' => K (St.put ⟨(σ.forget lt ls).t, b'⟩ dst y)
  | .icallv lt ls x xs => match capsOf (evO σ.t x) with
    | some (g, caps) => prot.all ls.contains = true ∧ ImpFn P H ls g ((xs.map (evO σ.t) ++ caps).map (scrC ls)) (σ.forget lt ls).b fun y b' => K (St.put ⟨(σ.forget lt ls).t, b'⟩ dst y)
    | none => False
  | .callz lt ls S g xs => prot.all ls.contains = true ∧ GivW (fun t b => opA P (.call g xs) ⟨t, b⟩ fun y b' => K (St.put ⟨t, b'⟩ dst y)) lt ls S σ.t σ.b
  | .eqn neg x => match evO σ.t x with
    | .d (.v (.slice none 0 0)) => K (St.put σ dst (bC (!neg)))
    | .d (.list xs) => (match xs with
      | [] => K (St.put σ dst (bC true)) ∧ K (St.put σ dst (bC false))
      | _ :: _ => K (St.put σ dst (bC neg)))
    | _ => False
  | _ => False

/-- It, its guard looked at. -/
def operHg (P : Program) (H : Hand) (prot : List Nat) (o : AOper) (σ : St) (K : St → Prop) : Prop :=
  match o.g with
  | none => operH1 P H prot o.op o.dst σ K
  | some (g, want) => match σ.t g with
    | .d (.v (.bool b)) => (b = want → operH1 P H prot o.op o.dst σ K) ∧ (b = (!want) → K (St.put σ o.dst (.d (.v undef))))
    | .d (.v (.tuple _)) => K (St.put σ o.dst (.d (.v undef)))
    | _ => False

/-- One operation outside of a drawn region: it may call a loop's yield, or a function that turns slots. -/
def operH (P : Program) (H : Hand) (prot : List Nat) (o : AOper) (σ : St) (K : St → Prop) : Prop :=
  match o.op with
  | .yield .. => operHg P H prot o σ K
  | .icall .. => operHg P H prot o σ K
  | .icallv .. => operHg P H prot o σ K
  | .callz .. => operHg P H prot o σ K
  | .eqn .. => operHg P H prot o σ K
  | _ => operA P o σ K

def opsH (P : Program) (H : Hand) (prot : List Nat) : List AOper → St → (St → Prop) → Prop
  | [], σ, K => K σ
  | o :: os, σ, K => operH P H prot o σ fun σ' => opsH P H prot os σ' K

theorem operH_A {P : Program} {H : Hand} {prot : List Nat} {o : AOper} {σ : St} {K : St → Prop} (h : o.op.isH = false) : operH P H prot o σ K = operA P o σ K := by
  unfold operH
  split <;> first | (rename_i e; rw [e] at h; cases h; done) | rfl

/-- The operations with the numbers in a list, one after the other. -/
def opsI (P : Program) (H : Hand) (prot : List Nat) (aos : List AOper) : List Nat → St → (St → Prop) → Prop
  | [], σ, K => K σ
  | i :: is, σ, K => match aos[i]? with
    | some o => operH P H prot o σ fun σ' => opsI P H prot aos is σ' K
    | none => opsI P H prot aos is σ K

theorem opsI_first {P : Program} {H : Hand} {prot : List Nat} {aos : List AOper} {i : Nat} {o : AOper} (hi : aos[i]? = some o) : ∀ {L : List Nat} {σ : St} {K : St → Prop}, L.Pairwise (· < ·) → i ∈ L → (∀ j ∈ L, j < i → ∀ oj, aos[j]? = some oj → indepA oj o = true) →
    opsI P H prot aos L σ K → operH P H prot o σ fun σ' => opsI P H prot aos (L.filter (· ≠ i)) σ' K
  | [], _, _, _, h, _, _ => by cases h
  | j :: L, σ, K, hp, hm, hin, h => by
    have hp' := List.pairwise_cons.1 hp
    by_cases e : j = i
    · subst e
      simp only [opsI, hi] at h
      have : (j :: L).filter (· ≠ j) = L := by
        simp
        exact fun a ha => Nat.ne_of_gt (hp'.1 a ha)
      rw [this]; exact h
    · have hm' : i ∈ L := by simpa [Ne.symm e] using hm
      have hlt := hp'.1 i hm'
      have hf : (j :: L).filter (· ≠ i) = j :: L.filter (· ≠ i) := by simp [e]
      rw [hf]
      simp only [opsI] at h ⊢
      cases hj : aos[j]? with
      | none =>
        rw [hj] at h
        exact opsI_first hi hp'.2 hm' (fun k hk => hin k (by simp [hk])) h
      | some oj =>
        rw [hj] at h
        have hind := hin j (by simp) hlt oj hj
        have h1 : oj.op.isH = false ∧ o.op.isH = false := by
          simp only [indepA, Bool.and_eq_true, Bool.not_eq_true'] at hind
          exact hind.1.1.1.1
        simp only [operH_A h1.1] at h
        rw [operH_A h1.2]
        have h2 : operA P oj σ fun σ' => operA P o σ' fun σ'' => opsI P H prot aos (L.filter (· ≠ i)) σ'' K := operA_mono (fun σ' h' => by
          have := opsI_first hi hp'.2 hm' (fun k hk => hin k (by simp [hk])) h'
          rwa [operH_A h1.2] at this) h
        simp only [operH_A h1.1]
        exact operA_swap hind h2

theorem opsI_all {P : Program} {H : Hand} {prot : List Nat} {aos : List AOper} : ∀ (n k : Nat) (σ : St) (K : St → Prop), k + n = aos.length → opsI P H prot aos (List.range' k n) σ K = opsH P H prot (aos.drop k) σ K
  | 0, k, σ, K, hk => by simp [show k = aos.length by omega, opsI, opsH]
  | n + 1, k, σ, K, hk => by
    have hlt : k < aos.length := by omega
    rw [List.drop_eq_getElem_cons hlt]
    simp only [List.range'_succ, opsI, List.getElem?_eq_getElem hlt, opsH]
    congr 1
    funext σ'
    exact opsI_all n (k + 1) σ' K (by omega)

def iniC : List AC → Nat → AC
  | [], _ => .junk
  | d :: _, 0 => d
  | _ :: ds, i + 1 => iniC ds i

def setP (t : Nat → AC) : List Nat → List AC → Nat → AC
  | p :: ps, x :: xs => setP (upd t p x) ps xs
  | _, _ => t

def thenE (K : St → Prop) : Exit → St → Prop
  | .normal, σ => K σ
  | _, _ => False
/-- At a round's end. -/
def endR (p : Nat) (K : AC → (Nat → ABlk) → Prop) (e : Exit) (σ : St) : Prop :=
  match σ.b p, e with
  | .fresh, .normal => K (bC true) σ.b
  | .fresh, .ret => K (bC false) (upd σ.b p (.mark none))
  | .fresh, .exit id => K (bC false) (upd σ.b p (.mark (some id)))
  | .fresh, .panic ch => ∃ v, ch = [{ v := v, recovered := false }] ∧ K (pacC v) σ.b
  | _, _ => False
/-- A loop's yield. -/
def handR (p l : Nat) (t : Nat → AC) (ps : List Nat) (wa wb : List Nat → (Exit → St → Prop) → St → Prop) : Hand := fun pr' l' args b K =>
  l' = l ∧ (match b p with
    | .fresh => args.length = ps.length ∧ wa pr' (thenE (wb pr' (endR p K))) ⟨setP t ps args, b⟩
    | _ => False)
/-- Behind a loop over a function. -/
def finB (p : Nat) (Q : Exit → St → Prop) (t : Nat → AC) (b : Nat → ABlk) : Prop :=
  match b p with
  | .fresh => Q .normal ⟨t, b⟩
  | .mark none => Q .ret ⟨t, upd b p .fresh⟩
  | .mark (some id) => Q (.exit id) ⟨t, upd b p .fresh⟩
  | _ => False
def finR (p : Nat) (Q : Exit → St → Prop) (t : Nat → AC) (e : Exit) (σ : St) : Prop :=
  match e with
  | .normal => finB p Q t σ.b
  | .ret => finB p Q t σ.b
  | .panic ch => Q (.panic ch) ⟨t, σ.b⟩
  | _ => False

/-- **The contract of a function that panics**: called with values that read as 'args' it panics with v; nothing that was there turns. -/
def PanFn (P : Program) (g : FuncId) (args : List D) (v : Value) : Prop :=
  Enters P g ∧ ∀ (ok : Nat → Prop) (w : World) (vs : Array Value), vs.size = args.length → (∀ j (hj : j < args.length), RelD ok w (args[j]) (vs.getD j undef)) →
    Calls P g vs w fun e w' => e = .panicked [{ v := v, recovered := false }] ∧ Foot (fun _ => False) w w'

/-- An operation that panics. -/
def popA (P : Program) (H : Hand) (prot : List Nat) (po : POp) (Q : Exit → St → Prop) (σ : St) : Prop :=
  match po with
  | .call g xs => ∃ ds v, (xs.map (evO σ.t)).mapM (snap σ.b 4) = some ds ∧ PanFn P g ds v ∧ Q (.panic [{ v := v, recovered := false }]) σ
  | .pan x => match evO σ.t x with
    | .d (.v (.iface t v)) => Q (.panic [{ v := .iface t v, recovered := false }]) σ
    | _ => False
  | .yield lt pr x xs => match evO σ.t x with
    | .d (.v (.func (.yield l) f c)) => f = #[] ∧ c = #[] ∧ (prot.all pr.contains && lt.all fun i => onlyC pr (σ.t i)) = true ∧
        H pr l (xs.map (evO σ.t)) σ.b fun y b' => ∃ v, y = pacC v ∧ Q (.panic [{ v := v, recovered := false }]) ⟨keepT σ.t lt, b'⟩
    | _ => False

/-- **The weakest precondition of a code.** H: what its calls of yield do; fnm: the frame is a function's own, and no iterator's; prot: the slots that other frames hold. -/
def awp (P : Program) (H : Hand) (fnm : Bool) (prot : List Nat) : ACode → (Exit → St → Prop) → St → Prop
  | .alt x y, Q, σ => awp P H fnm prot x Q σ ∨ awp P H fnm prot y Q σ
  | .regp ops po, Q, σ => opsH P H prot ops σ fun σ' => popA P H prot po Q σ'
  | .skip, Q, σ => Q .normal σ
  | .reg ops, Q, σ => opsH P H prot ops σ (Q .normal)
  | .regd ops, Q, σ => opsH P H prot ops σ (Q .normal)
  | .seq x y, Q, σ => awp P H fnm prot x (fun e σ' => match e with | .normal => awp P H fnm prot y Q σ' | e => Q e σ') σ
  | .cond c x y, Q, σ => match evO σ.t c with
    | .d (.v (.bool b)) => (b = true → awp P H fnm prot x Q σ) ∧ (b = false → awp P H fnm prot y Q σ)
    | _ => False
  | .block id x, Q, σ => awp P H fnm prot x (fun e σ' => match e with | .exit id' => if id' = id then Q .normal σ' else Q (.exit id') σ' | e => Q e σ') σ
  | .loop lt ls x, Q, σ => prot.all ls.contains = true ∧ ∃ (I : St → Prop) (μ : St → Nat), I (σ.forget lt ls) ∧
      ∀ σ', I σ' → awp P H fnm prot x (fun e σ'' => match e with | .normal => I (σ''.forget lt ls) ∧ μ (σ''.forget lt ls) < μ σ' | e => Q e σ'') σ'
  | .rfun p g nf code x lt pr ps asg body, Q, σ => match capsOf (evO σ.t x), σ.b p with
    | some (g', caps), .fresh => fnm = true ∧ g' = g ∧ caps.length = nf ∧ (pr.contains p && prot.all pr.contains && lt.all fun i => onlyC pr (σ.t i)) = true ∧
        ∀ l, awp P (handR p l (keepT σ.t lt) ps (fun pr' Q σ => awp P noH false pr' asg Q σ) (fun pr' Q σ => awp P noH false pr' body Q σ)) false pr code
          (finR p Q (keepT σ.t lt)) ⟨iniC (.d (.v (.func (.yield l) #[] #[])) :: caps), σ.b⟩
    | _, _ => False
  | .conv s r esz x, Q, σ => match σ.b s, σ.b r with
    | .var (.d (.v (.slice none 0 0)) :: cs), .fresh => awp P H fnm prot x Q ⟨σ.t, upd (upd σ.b r (.row esz [])) s (.var (.row r 0 0 0 :: cs))⟩
    | _, _ => False
  | .frz lt ls s x, Q, σ => prot.all ls.contains = true ∧ FrzW (fun t b => awp P H fnm prot x Q ⟨t, b⟩) lt ls s σ.t σ.b
  | .frzs lt ls S x, Q, σ => prot.all ls.contains = true ∧ GivW (fun t b => awp P H fnm prot x Q ⟨t, b⟩) lt ls S σ.t σ.b
  | .scope x, Q, σ => awp P H fnm prot x (fun e σ' => match e with | .goto _ => False | e => Q e σ') σ
  | .lab _, Q, σ => Q .normal σ
  | .exit id, Q, σ => Q (.exit id) σ
  | .ret, Q, σ => Q .ret σ
  | .bad, _, _ => False

def chkOper (P : Program) (n : Nat) (ops : Array Oper) (o : Oper) (ao : AOper) : Bool :=
  (match o.dst, ao.dst with | none, none => true | some d, some d' => d == d' && decide (d < n) | _, _ => false) && chkA P o.op ao.op &&
  (match o.guard, ao.g with | none, none => true | some (j, w), some (g, w') => (match ops[j]? with | some oj => oj.dst == some g | none => false) && w == w' | _, _ => false)
def chkOps (P : Program) (n : Nat) (ops : Array Oper) : List Oper → List AOper → Bool
  | [], [] => true
  | o :: os, ao :: aos => chkOper P n ops o ao && chkOps P n ops os aos
  | _, _ => false

/-- Which operations an operation waits for, as bits of a number. -/
def depsOf (o : Oper) : List Nat := (o.after.toList.filter (Region.binds .any)).map (·.on)
def maskOf (R : List Nat) (o : Oper) : Nat := (depsOf o).foldl (fun acc d => acc ||| (1 <<< d) ||| R.getD d 0) 0
def masks : List Oper → List Nat → List Nat
  | [], R => R
  | o :: os, R => masks os (R ++ [maskOf R o])
/-- Of two operations the later one waits for the earlier one, or it does not matter which comes first. -/
def chkDraw (ops : List Oper) (aos : List AOper) : Bool :=
  let R := masks ops []
  (List.range ops.length).all fun i => match ops[i]?, aos[i]? with
    | some o, some ao => (depsOf o).all (· < i) && (List.range i).all fun j => if (R.getD i 0).testBit j then (depsOf o).any (fun d => d == j || (decide (j < d) && (R.getD d 0).testBit j)) else
        match aos[j]? with | some aj => indepA aj ao | none => false
    | _, _ => false

def chkP (P : Program) (op : Op) : POp → Bool
  | .call g xs => chkA P op (.call g xs)
  | .yield lt pr x xs => chkA P op (.yield lt pr x xs)
  | .pan x => match op with
    | .panic x' => chkO x' x
    | _ => false
def chkC (P : Program) (n : Nat) : Code → ACode → Bool
  | .skip, .skip => true
  | .region _ ops false, .reg aos => chkOps P n ops ops.toList aos
  | .region _ ops true, .regd aos => chkOps P n ops ops.toList aos && P.follows .mixedOrders && chkDraw ops.toList aos
  | .rangeFunc f params asg bod, .rfun p g nf code x _ _ ps asg' bod' => chkO f x && (params.toList == ps) && ps.all (· < n) && chkC P n asg asg' && chkC P n bod bod' && (match P.funcs[g]? with
      | some fn => !(fn.name == "runtime.NumGoroutine") && fn.results.isEmpty && decide (nf + 1 ≤ fn.ntmps) && (match fn.body with | some c => chkC P fn.ntmps c code | none => false)
      | none => false)
  | .seq x y, .seq x' y' => chkC P n x x' && chkC P n y y'
  | .cond c x y, .cond c' x' y' => chkO c c' && chkC P n x x' && chkC P n y y'
  | .block id x, .block id' x' => id == id' && chkC P n x x'
  | .loop x, .loop _ _ x' => chkC P n x x'
  | .region _ ops false, .regp aos po => chkOps P n ops (ops.toList.take aos.length) aos && (match ops[aos.length]? with | some o => o.guard.isNone && chkP P o.op po | none => false)
  | c, .alt x y => chkC P n c x && chkC P n c y
  | c, .conv _ _ _ x => chkC P n c x
  | c, .frz _ _ _ x => chkC P n c x
  | c, .frzs _ _ _ x => chkC P n c x
  | .scope c, .scope x => chkC P n c x
  | .label l, .lab l' => l == l'
  | .exit id, .exit id' => id == id'
  | .ret, .ret => true
  | _, .bad => true
  | _, _ => false

theorem wf_fn (ρ : Option Nat) (f : FuncId) : (wf ρ).fn f := trivial
theorem wf_depth (ρ : Option Nat) : (wf ρ).depth = none := rfl
theorem callsIn_wf {ρ : Option Nat} {n : Nat} {P : Program} {f : FuncId} {args : Array Value} {w : World} {R : Ending → World → Prop} (h : Calls P f args w R) : CallsIn (wf ρ) n P f args w R := by
  cases ρ with
  | none => exact callsIn_wide.2 h
  | some l => exact CallsIn.inRound l (callsIn_wide.2 h)

section
variable {P : Program} {X : Ctx} {σ : St} {m : Nat → Loc} {a : Act} {w : World} {o : Oper} {ρ : Option Nat} {nn : Nat} {Q : Exit → Act → World → Prop}

theorem wpIn_of_gives {K : Act → World → Prop} {R : Value → World → Prop} (hd : ∀ c, o.op ≠ .defer c) (h : Gives P o a w R) (hk : ∀ v w', R v w' → K (a.put o.dst v) w') : o.wpIn (wf ρ) nn P a w K Q := by
  refine ⟨fun f _ => trivial, ?_⟩
  have hs : o.semAt (wf ρ).round a.eval = execOp a.eval o := Oper.semAt_eq _ _ _ hd
  rw [hs]
  rcases h with ⟨v, w', hr, hrun | ⟨hrun, rfl⟩⟩ | ⟨g, vs, hrun, hc⟩
  · rw [hrun]; exact hk _ _ hr
  · rw [hrun]; exact hk _ _ hr
  · rw [hrun]
    refine ⟨fun h => by simp [wf, Fence.wide] at h, ?_⟩
    refine (callsIn_wf hc).mono ?_
    rintro e w' ⟨v, rfl, hr⟩
    exact hk _ _ hr

theorem chkA_defer {aop : AOp} {op : Op} {K : AC → (Nat → ABlk) → Prop} (hc : chkA P op aop = true) (h : opA P aop σ K) : ∀ c, op ≠ .defer c := by
  intro c e
  subst e
  cases aop <;> first | (simp [chkA] at hc; done) | exact h.elim

theorem yielded_of {ops : Array Oper} {j g : Nat} {oj : Oper} {tmps : Array Value} (hj : ops[j]? = some oj) (hd : oj.dst = some g) : yielded ops tmps j = match tmps.getD g undef with | .bool b => some b | _ => none := by
  simp only [yielded, hj, Option.bind_some, hd]
  cases h : tmps[g]? with
  | none => simp [Array.getD_eq_getD_getElem?, h, undef]
  | some v => simp only [Array.getD_eq_getD_getElem?, h, Option.getD_some]; cases v <;> rfl

theorem oper_sound {ops : Array Oper} {i : Nat} {ao : AOper} {K : St → Prop} {K' : Act → World → Prop} (hi : ops[i]? = some o) (hc : chkOper P X.n ops o ao = true) (h : operA P ao σ K) (hr : Rel X σ m a w)
    (hk : ∀ σ' m' a' w', K σ' → Rel X σ' m' a' w' → K' a' w') : wpOpIn (wf ρ) nn P ops Q i K' a w := by
  obtain ⟨y0, ch0, hK0, _, _, h0⟩ := operA_pt h
  have h : operA0 P ao σ fun y b' => K (St.put ⟨σ.t, b'⟩ ao.dst y) := h0 _ hK0
  simp only [chkOper, Bool.and_eq_true] at hc
  obtain ⟨⟨hdst, hop⟩, hg⟩ := hc
  have hd : o.dst = ao.dst ∧ ∀ d, o.dst = some d → d < X.n := by
    split at hdst
    · rename_i e1 e2; rw [e1, e2]; exact ⟨rfl, fun d h => by cases h⟩
    · rename_i d d' e1 e2
      simp at hdst
      rw [e1, e2]; exact ⟨by rw [hdst.1], fun q h => by cases h; exact hdst.2⟩
    · cases hdst
  have run : (opA P ao.op σ fun y b' => K (St.put ⟨σ.t, b'⟩ ao.dst y)) → o.wpIn (wf ρ) nn P a w K' Q := fun h =>
    wpIn_of_gives (chkA_defer hop h) (op_sound hop h hr) fun v w' ⟨y, b', m', hK, hr', hy⟩ => by
      rw [← hd.1] at hK
      exact hk _ m' _ _ hK (hr'.put hy o.dst hd.2)
  have skip : K (St.put ⟨σ.t, σ.b⟩ ao.dst (.d (.v undef))) → K' (a.put o.dst undef) w := fun h => by
    rw [← hd.1] at h
    exact hk _ m _ _ h (hr.put (.d (.v _)) o.dst hd.2)
  unfold wpOpIn
  simp only [hi]
  unfold operA0 at h
  cases hog : o.guard with
  | none =>
    cases hag : ao.g with
    | some x => rw [hog, hag] at hg; cases hg
    | none =>
      rw [hag] at h
      have hw : Region.wanted o (yielded ops a.tmps) = true := by simp [Region.wanted, hog]
      rw [if_pos hw]; exact run h
  | some jw =>
    obtain ⟨j, want⟩ := jw
    cases hag : ao.g with
    | none => rw [hog, hag] at hg; cases hg
    | some gw =>
      obtain ⟨g, want'⟩ := gw
      rw [hog, hag] at hg
      simp only [Bool.and_eq_true, beq_iff_eq] at hg
      obtain ⟨hj, rfl⟩ := hg
      split at hj <;> try (cases hj; done)
      rename_i oj hoj
      simp at hj
      have hy := yielded_of (tmps := a.tmps) hoj hj
      have hT := hr.tmps g
      rw [hag] at h
      simp only at h
      split at h
      · rename_i b hb
        rw [hb] at hT
        have hv := relC_v hT
        rw [hv] at hy
        simp only at hy
        by_cases hbw : b = want
        · have hw : Region.wanted o (yielded ops a.tmps) = true := by simp [Region.wanted, hog, hy, hbw]
          rw [if_pos hw]; exact run (h.1 hbw)
        · have hw : ¬ Region.wanted o (yielded ops a.tmps) = true := by simp [Region.wanted, hog, hy, hbw]
          rw [if_neg hw]
          exact ⟨fun _ _ => trivial, skip (h.2 (by cases b <;> cases want <;> simp_all))⟩
      · rename_i vs hb
        rw [hb] at hT
        have hv := relC_v hT
        rw [hv] at hy
        simp only at hy
        have hw : ¬ Region.wanted o (yielded ops a.tmps) = true := by simp [Region.wanted, hog, hy]
        rw [if_neg hw]
        exact ⟨fun _ _ => trivial, skip h⟩
      · exact h.elim

theorem ops_sound {ops : Array Oper} {K : St → Prop} (hk : ∀ σ' m' a' w', K σ' → Rel X σ' m' a' w' → Q .normal a' w') :
    ∀ (os : List Oper) (aos : List AOper) (i : Nat) (σ : St) (m : Nat → Loc) (a : Act) (w : World), (∀ j, os[j]? = ops[i + j]?) → chkOps P X.n ops os aos = true → opsA P aos σ K → Rel X σ m a w →
      wpOpsIn (wf ρ) nn P ops Q (List.range' i os.length) a w
  | [], [], i, σ, m, a, w, _, _, h, hr => by simp only [List.length_nil, List.range'_zero, wpOpsIn]; exact hk _ _ _ _ h hr
  | [], _ :: _, _, _, _, _, _, _, h, _, _ => by simp [chkOps] at h
  | _ :: _, [], _, _, _, _, _, _, h, _, _ => by simp [chkOps] at h
  | o :: os, ao :: aos, i, σ, m, a, w, hl, hc, h, hr => by
    simp only [chkOps, Bool.and_eq_true] at hc
    simp only [List.length_cons, List.range'_succ]
    rw [wpOpsIn_cons]
    refine oper_sound (by simpa using (hl 0).symm) hc.1 h hr fun σ' m' a' w' hK hr' => ?_
    exact ops_sound hk os aos (i + 1) σ' m' a' w' (fun j => by have := hl (j + 1); simpa [Nat.add_assoc, Nat.add_comm 1 j] using this) hc.2 hK hr'

theorem chkOps_len {P : Program} {n : Nat} {ops : Array Oper} : ∀ (os : List Oper) (aos : List AOper), chkOps P n ops os aos = true → os.length = aos.length := by
  intro os
  induction os with
  | nil => intro aos h; cases aos with
    | nil => rfl
    | cons => simp [chkOps] at h
  | cons x xs ih => intro aos h; cases aos with
    | nil => simp [chkOps] at h
    | cons y ys => simp only [chkOps, Bool.and_eq_true] at h; simp [ih ys h.2]
theorem chkOps_get {P : Program} {n : Nat} {ops : Array Oper} : ∀ (os : List Oper) (aos : List AOper), chkOps P n ops os aos = true → ∀ (i : Nat) (o : Oper), os[i]? = some o → ∃ ao, aos[i]? = some ao ∧ chkOper P n ops o ao = true := by
  intro os
  induction os with
  | nil => intro aos h i o hi; simp at hi
  | cons x xs ih => intro aos h i o hi; cases aos with
    | nil => simp [chkOps] at h
    | cons y ys =>
      simp only [chkOps, Bool.and_eq_true] at h
      cases i with
      | zero => simp at hi; subst hi; exact ⟨y, rfl, h.1⟩
      | succ i => exact ih ys h.2 i o (by simpa using hi)

/-- What is not yet listed. -/
def rem (n : Nat) (listed : Array Bool) : List Nat := (List.range n).filter fun i => listed.getD i true = false

theorem mem_rem {n : Nat} {l : Array Bool} {i : Nat} : i ∈ rem n l ↔ i < n ∧ l.getD i true = false := by
  unfold rem; rw [List.mem_filter, List.mem_range, decide_eq_true_iff]

theorem mem_depsOf {o : Oper} {e : Edge} (h : e ∈ o.after) (hb : Region.binds .any e = true) : e.on ∈ depsOf o := by
  simp only [depsOf, List.mem_map, List.mem_filter, Array.mem_toList_iff]
  exact ⟨e, ⟨h, hb⟩, rfl⟩
theorem depsOf_mem {o : Oper} {d : Nat} (h : d ∈ depsOf o) : ∃ e ∈ o.after, Region.binds .any e = true ∧ e.on = d := by
  simp only [depsOf, List.mem_map, List.mem_filter, Array.mem_toList_iff] at h
  obtain ⟨e, ⟨h1, h2⟩, h3⟩ := h
  exact ⟨e, h1, h2, h3⟩

theorem getD_both {l : Array Bool} {i : Nat} (h : l.getD i true = false) : i < l.size := by
  rcases Nat.lt_or_ge i l.size with h' | h'
  · exact h'
  · simp [Array.getD_eq_getD_getElem?, h'] at h

theorem getD_set_eq {l : Array Bool} {i : Nat} {d : Bool} (h : i < l.size) : (l.setIfInBounds i true).getD i d = true := by
  simp [Array.getD_eq_getD_getElem?, h]

theorem rem_set {n : Nat} {l : Array Bool} {i : Nat} (hn : l.size = n) (hi : i < n) : rem n (l.setIfInBounds i true) = (rem n l).filter (· ≠ i) := by
  unfold rem
  rw [List.filter_filter]
  apply List.filter_congr
  intro j hj
  by_cases e : j = i
  · subst e; simp [getD_set_eq (hn ▸ hi)]
  · rw [getD_set_ne true (Ne.symm e)]; simp [e]

theorem mkT_map {f : Nat → AC} : ∀ (lt : List Nat) (i : Nat), mkT (lt.map fun i => (i, f i)) i = if i ∈ lt then f i else .junk
  | [], i => by simp [mkT]
  | j :: lt, i => by
    simp only [List.map_cons, mkT, mkT_map lt i, List.mem_cons]
    by_cases h : i = j
    · subst h; simp
    · simp [h]
theorem mkB_map {f : Nat → ABlk} : ∀ (lt : List Nat) (i : Nat), mkB (lt.map fun i => (i, f i)) i = if i ∈ lt then f i else .fresh
  | [], i => by simp [mkB]
  | j :: lt, i => by
    simp only [List.map_cons, mkB, mkB_map lt i, List.mem_cons]
    by_cases h : i = j
    · subst h; simp
    · simp [h]

theorem onlyCs_get : ∀ {ls : List Nat} {cs : List AC}, onlyCs ls cs = true → ∀ j (hj : j < cs.length), onlyC ls (cs[j]) = true
  | ls, [], _, j, hj => by simp at hj
  | ls, c :: cs, h, j, hj => by
    simp only [onlyCs, Bool.and_eq_true] at h
    cases j with
    | zero => exact h.1
    | succ j => exact onlyCs_get h.2 j (by simpa using hj)

mutual
theorem onlyC_mono {ls ls' : List Nat} (h : ls.all ls'.contains = true) : ∀ (x : AC), onlyC ls x = true → onlyC ls' x = true
  | .d _, _ => rfl
  | .row s _ _ _, e => by simp only [onlyC] at e ⊢; exact List.all_eq_true.1 h s (by simpa using e)
  | .ptr s _, e => by simp only [onlyC] at e ⊢; exact List.all_eq_true.1 h s (by simpa using e)
  | .rptr s _ _ _, e => by simp only [onlyC] at e ⊢; exact List.all_eq_true.1 h s (by simpa using e)
  | .vs s _ _, e => by simp only [onlyC] at e ⊢; exact List.all_eq_true.1 h s (by simpa using e)
  | .clo _ _ caps, e => by simp only [onlyC] at e ⊢; exact onlyCs_mono h caps e
  | .agg cs, e => by simp only [onlyC] at e ⊢; exact onlyCs_mono h cs e
  | .tup cs, e => by simp only [onlyC] at e ⊢; exact onlyCs_mono h cs e
  | .junk, _ => rfl
theorem onlyCs_mono {ls ls' : List Nat} (h : ls.all ls'.contains = true) : ∀ (xs : List AC), onlyCs ls xs = true → onlyCs ls' xs = true
  | [], _ => rfl
  | x :: xs, e => by
    simp only [onlyCs, Bool.and_eq_true] at e ⊢
    exact ⟨onlyC_mono h x e.1, onlyCs_mono h xs e.2⟩
end

theorem relC_only {ok ok' : Nat → Prop} {b b' : Nat → ABlk} {m m' : Nat → Loc} {ls : List Nat} (hk : ∀ k, ok k → ok' k) (hm : ∀ s, s ∈ ls → m' s = m s)
    (hb : ∀ s, s ∈ ls → (b' s = b s ∨ ∃ cs cs', b s = .var cs ∧ b' s = .var cs')) {x : AC} {v : Value} (h : RelC ok w b m x v) : onlyC ls x = true → RelC ok' w b' m' x v := by
  have row : ∀ {s esz els}, s ∈ ls → b s = .row esz els → b' s = .row esz els := fun hs e => by
    rcases hb _ hs with h | ⟨_, _, h, _⟩
    · rw [h, e]
    · rw [e] at h; cases h
  have dead : ∀ {s}, s ∈ ls → b s = .dead → b' s = .dead := fun hs e => by
    rcases hb _ hs with h | ⟨_, _, h, _⟩
    · rw [h, e]
    · rw [e] at h; cases h
  induction h with
  | d hx => intro _; exact .d (hx.mono (Nat.le_refl _) (fun _ _ _ _ h => h) (fun k _ h => hk k h))
  | junk v => intro _; exact .junk v
  | row s off len esz els hb' hl hle => intro ho; have hs : s ∈ ls := by simpa [onlyC] using ho
                                        have := RelC.row (ok := ok') (w := w) (b := b') (m := m') s off len esz els (row hs hb') (by rw [hm s hs]; exact hl) hle
                                        rwa [hm s hs] at this
  | rowNil s esz hb' hl => intro ho; have hs : s ∈ ls := by simpa [onlyC] using ho
                           exact .rowNil s esz (row hs hb') (by rw [hm s hs]; exact hl)
  | rowStale s off len tot esz els v hb' hlt => intro ho; have hs : s ∈ ls := by simpa [onlyC] using ho
                                                exact .rowStale _ _ _ _ _ _ _ (row hs hb') hlt
  | rowDead s off len tot v hb' => intro ho; have hs : s ∈ ls := by simpa [onlyC] using ho
                                   exact .rowDead _ _ _ _ _ (dead hs hb')
  | ptr s off cs hb' => intro ho; have hs : s ∈ ls := by simpa [onlyC] using ho
                        have h2 : ∃ cs', b' s = .var cs' := by
                          rcases hb _ hs with h | ⟨_, cs', _, h⟩
                          · exact ⟨cs, h.trans hb'⟩
                          · exact ⟨cs', h⟩
                        obtain ⟨cs', h2⟩ := h2
                        have := RelC.ptr (ok := ok') (w := w) (b := b') (m := m') s off cs' h2
                        rwa [hm s hs] at this
  | ptrDead s off v hb' => intro ho; have hs : s ∈ ls := by simpa [onlyC] using ho
                           exact .ptrDead _ _ _ (dead hs hb')
  | vs s off len cap cs hb' hcap => intro ho; have hs : s ∈ ls := by simpa [onlyC] using ho
                                    have h2 : ∃ cs', b' s = .var cs' := by
                                      rcases hb _ hs with h | ⟨_, cs', _, h⟩
                                      · exact ⟨cs, h.trans hb'⟩
                                      · exact ⟨cs', h⟩
                                    obtain ⟨cs', h2⟩ := h2
                                    have := RelC.vs (ok := ok') (w := w) (b := b') (m := m') s off len cap cs' h2 hcap
                                    rwa [hm s hs] at this
  | vsDead s off len v hb' => intro ho; have hs : s ∈ ls := by simpa [onlyC] using ho
                              exact .vsDead _ _ _ _ (dead hs hb')
  | rptr s i j esz els hb' hl hi => intro ho; have hs : s ∈ ls := by simpa [onlyC] using ho
                                    have := RelC.rptr (ok := ok') (w := w) (b := b') (m := m') s i j esz els (row hs hb') (by rw [hm s hs]; exact hl) hi
                                    rwa [hm s hs] at this
  | rptrStale s i j tot esz els v hb' hlt => intro ho; have hs : s ∈ ls := by simpa [onlyC] using ho
                                             exact .rptrStale _ _ _ _ _ _ _ (row hs hb') hlt
  | rptrDead s i j tot v hb' => intro ho; have hs : s ∈ ls := by simpa [onlyC] using ho
                                exact .rptrDead _ _ _ _ _ (dead hs hb')
  | clo g first caps vf vc h1 h2 hf hc ih =>
    intro ho
    simp only [onlyC] at ho
    exact .clo g first caps vf vc h1 h2 (fun j hj => (hf j hj).mono (Nat.le_refl _) (fun _ _ _ _ h => h) (fun k _ h => hk k h)) (fun j hj => ih j hj (onlyCs_get ho j hj))
  | agg cs vs h1 hc ih => intro ho; simp only [onlyC] at ho; exact .agg cs vs h1 (fun j hj => ih j hj (onlyCs_get ho j hj))
  | tup cs vs h1 hc ih => intro ho; simp only [onlyC] at ho; exact .tup cs vs h1 (fun j hj => ih j hj (onlyCs_get ho j hj))

theorem Rel.forget' (hr : Rel X σ m a w) (lt ls : List Nat) (hpr : X.pr.all ls.contains = true) : ∃ m', Rel X (σ.forget lt ls) m' a w ∧ ∀ {x : AC} {v : Value}, RelC (X.ok m) w σ.b m x v → RelC (X.ok m') w (σ.forget lt ls).b m' (scrC ls x) v := by
  refine ⟨fun s => if s ∈ ls then m s else ⟨false, 0, 0⟩, ?_⟩
  have hmls : ∀ s, s ∈ ls → (fun s => if s ∈ ls then m s else (⟨false, 0, 0⟩ : Loc)) s = m s := fun s hs => by simp [hs]
  have hlive : ∀ s, ((fun s => if s ∈ ls then m s else (⟨false, 0, 0⟩ : Loc)) s).live = true → s ∈ ls ∧ (m s).live = true := fun s h => by
    by_cases hs : s ∈ ls
    · simp [hs] at h; exact ⟨hs, h⟩
    · simp [hs] at h
  have hk : ∀ k, X.ok m k → X.ok (fun s => if s ∈ ls then m s else ⟨false, 0, 0⟩) k := fun k h => ⟨h.1, fun s hl => by
    obtain ⟨hs, hl'⟩ := hlive s hl
    rw [hmls s hs]; exact h.2 s hl'⟩
  have hB : ∀ s, (σ.forget lt ls).b s = if s ∈ ls then scrB ls (σ.b s) else .fresh := fun s => mkB_map ls s
  have hbls : ∀ s, s ∈ ls → ((σ.forget lt ls).b s = σ.b s ∨ ∃ cs cs', σ.b s = .var cs ∧ (σ.forget lt ls).b s = .var cs') := fun s hs => by
    rw [hB, if_pos hs]
    cases hb : σ.b s with
    | var cs => exact .inr ⟨cs, _, rfl, rfl⟩
    | _ => exact .inl rfl
  have hC : ∀ {x : AC} {v : Value}, RelC (X.ok m) w σ.b m x v → RelC (X.ok (fun s => if s ∈ ls then m s else ⟨false, 0, 0⟩)) w (σ.forget lt ls).b (fun s => if s ∈ ls then m s else ⟨false, 0, 0⟩) (scrC ls x) v := fun {x v} h => by
    unfold scrC
    split
    · rename_i ho; exact relC_only hk hmls hbls h ho
    · exact .junk v
  refine ⟨?_, hC⟩
  refine ⟨hr.defers, hr.size, fun i => ?_, fun s => ?_, fun s s' h1 h2 h3 => ?_, fun s hl => ?_, hr.foot, fun p hp => ⟨relC_only hk hmls hbls (hr.ghosts p hp).1 (onlyC_mono hpr _ (hr.ghosts p hp).2), (hr.ghosts p hp).2⟩, hr.fixed, fun i hi => ⟨?_, (hr.loop i hi).2⟩⟩
  · have hT : (σ.forget lt ls).t i = if i ∈ lt then scrC ls (σ.t i) else .junk := mkT_map (f := fun i => scrC ls (σ.t i)) lt i
    rw [hT]
    split
    · exact hC (hr.tmps i)
    · exact .junk _
  · unfold SlotOK
    rw [hB]
    by_cases hs : s ∈ ls
    · rw [if_pos hs]
      have hS := hr.slots s
      unfold SlotOK at hS
      simp only [hs, if_true]
      cases hb : σ.b s with
      | fresh => rw [hb] at hS; exact hS
      | dead => rw [hb] at hS; exact hS
      | mark q => rw [hb] at hS; exact hS
      | var cs =>
        rw [hb] at hS
        obtain ⟨hl, c, e, h1, h2, h3, h4⟩ := hS
        refine ⟨hl, c, e, h1, by simpa using h2, fun i hi => h3 i (by simpa using hi), fun i hi => ?_⟩
        have hi' : i < cs.length := by simpa using hi
        simp only [List.getElem_map]
        exact hC (h4 i hi')
      | row esz els =>
        rw [hb] at hS
        rcases hS with h | ⟨hl, c, e, h1, h2, h3, h4, h4', h5⟩
        · exact .inl h
        · exact .inr ⟨hl, c, e, h1, h2, h3, h4, h4', fun i j hi hj => (h5 i j hi hj).mono (Nat.le_refl _) (fun _ _ _ _ h => h) (fun k _ h => hk k h)⟩
    · rw [if_neg hs]; simp [hs]
  · obtain ⟨k1, l1⟩ := hlive s h1
    obtain ⟨k2, l2⟩ := hlive s' h2
    simp only [k1, k2, if_true] at h3
    exact hr.inj s s' l1 l2 h3
  · obtain ⟨k1, l1⟩ := hlive s hl
    simp only [k1, if_true]; exact hr.own s l1
  · have hp : i.p ∈ ls := by
      have := List.all_eq_true.1 hpr i.p (hr.loop i hi).2
      simpa using this
    rw [hB, if_pos hp]
    have e : i.obj (scrB ls (σ.b i.p)) = i.obj (σ.b i.p) := by cases σ.b i.p <;> rfl
    rw [e]; exact (hr.loop i hi).1

theorem Rel.forget (hr : Rel X σ m a w) (lt ls : List Nat) (hpr : X.pr.all ls.contains = true) : ∃ m', Rel X (σ.forget lt ls) m' a w := by
  obtain ⟨m', h, _⟩ := hr.forget' lt ls hpr; exact ⟨m', h⟩

theorem least {p : Nat → Prop} (h : ∃ k, p k) : ∃ k, p k ∧ ∀ j, p j → k ≤ j := by
  obtain ⟨k, hk⟩ := h
  induction k using Nat.strongRecOn with
  | _ k ih =>
    by_cases h : ∃ j, j < k ∧ p j
    · obtain ⟨j, hj, hp⟩ := h; exact ih j hj hp
    · exact ⟨k, hk, fun j hj => Nat.le_of_not_lt fun hlt => h ⟨j, hlt, hj⟩⟩

end
end Go.AM
