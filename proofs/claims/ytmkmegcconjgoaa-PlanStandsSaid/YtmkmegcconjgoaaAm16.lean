/- The abstract machine, part 16: the same operations, made for working out by reduction; the rule of a loop. No condition. -/
import Derived.Test.YtmkmegcconjgoaaAm15
set_option linter.unusedVariables false
set_option linter.unusedSimpArgs false
namespace Go.AM
open Go

/-- A value, worked out. -/
def force (x : AC) (K : AC → Prop) : Prop :=
  match x with
  | .d y => K (.d y)
  | .row s off len tot => K (.row s off len tot)
  | .ptr s off => K (.ptr s off)
  | .rptr s i j tot => K (.rptr s i j tot)
  | .vs s off len => K (.vs s off len)
  | .clo f first caps => K (.clo f first caps)
  | .agg cs => K (.agg cs)
  | .tup cs => K (.tup cs)
  | .junk => K .junk
theorem force_eq (x : AC) (K : AC → Prop) : force x K = K x := by cases x <;> rfl

def intB (op : BinOp) (k : IntKind) (a : Int) (k' : IntKind) (b : Int) (K : AC → Prop) : Prop :=
  match op with
  | .shl => 0 ≤ b ∧ K (iC k (k.wrap (a * 2 ^ (min b.toNat k.bits))))
  | .shr => 0 ≤ b ∧ K (iC k (a.fdiv (2 ^ (min b.toNat k.bits))))
  | _ => cond (decide (k = k')) (match op with
    | .add => K (iC k (k.wrap (a + b)))
    | .sub => K (iC k (k.wrap (a - b)))
    | .mul => K (iC k (k.wrap (a * b)))
    | .quo => b ≠ 0 ∧ K (iC k (k.wrap (a.tdiv b)))
    | .rem => b ≠ 0 ∧ K (iC k (a.tmod b))
    | .and => K (iC k (bitsA .and k a b))
    | .or => K (iC k (bitsA .or k a b))
    | .xor => K (iC k (bitsA .xor k a b))
    | .andNot => K (iC k (bitsA .andNot k a b))
    | .eql => K (bC (decide (a = b)))
    | .neq => K (bC (!decide (a = b)))
    | .lss => K (bC (decide (a < b)))
    | .leq => K (bC (decide (a ≤ b)))
    | .gtr => K (bC (decide (b < a)))
    | .geq => K (bC (decide (b ≤ a)))
    | _ => False) False

theorem of_cond {b : Bool} {p : Prop} (h : cond b p False) : b = true ∧ p := by cases b <;> simp_all

theorem intB_A {op : BinOp} {k k' : IntKind} {a b : Int} {K : AC → Prop} (h : intB op k a k' b K) : intA op k a k' b K := by
  cases op <;> simp only [intB] at h <;> simp only [intA]
  all_goals first
    | exact h
    | (obtain ⟨h1, h2⟩ := of_cond h
       have h1 := of_decide_eq_true h1
       first | exact ⟨h1, h2⟩ | exact ⟨h1, h2.1, h2.2⟩)

theorem opsA_mono {P : Program} : ∀ {aos : List AOper} {σ : St} {K K' : St → Prop}, (∀ σ', K σ' → K' σ') → opsA P aos σ K → opsA P aos σ K'
  | [], σ, K, K', hk, h => hk _ h
  | o :: os, σ, K, K', hk, h => operA_mono (fun σ' h' => opsA_mono hk h') h

/-- An append, worked out. -/
def appB (t : Nat → AC) (b : Nat → ABlk) (s esz : Nat) (x y : Opnd) (K : AC → (Nat → ABlk) → Prop) : Prop :=
  match addsC b (evO t y) with
  | none => False
  | some ys => ys.all (fun e => Nat.beq e.length esz) = true ∧ (match evO t x with
    | .row s' off len tot => cond (Nat.beq s' s && Nat.beq off 0) (len = tot ∧ (match b s with
      | .row esz' els => cond (Nat.beq esz' esz) (tot = els.length ∧ els.length + ys.length ≤ most ∧
          K (.row s 0 (els.length + ys.length) (els.length + ys.length)) (upd b s (.row esz (els ++ ys)))) False
      | _ => False)) False
    | .d (.v (.slice none 0 0)) => (match b s with
      | .fresh => ys.length ≤ most ∧ K (.row s 0 ys.length ys.length) (upd b s (.row esz ys))
      | _ => False)
    | _ => False)

def appZB (t : Nat → AC) (b : Nat → ABlk) (s esz : Nat) (x y : Opnd) (K : AC → (Nat → ABlk) → Prop) : Prop :=
  match addsC b (evO t y) with
  | none => False
  | some ys => ys.all (fun e => Nat.beq e.length esz) = true ∧ (match evO t x with
    | .row s' off len tot => cond (Nat.beq s' s && Nat.beq off 0) (len = tot ∧ (match b s with
      | .row esz' els => cond (Nat.beq esz' esz) (tot = els.length ∧ els.length + ys.length ≤ most ∧ K (.d (.list (els ++ ys))) (upd b s .dead)) False
      | _ => False)) False
    | .d (.v (.slice none 0 0)) => (match b s with
      | .fresh => ys.length ≤ most ∧ K (.d (.list ys)) (upd b s .dead)
      | _ => False)
    | _ => False)

/-- An operation, worked out. -/
def opB (P : Program) (op : AOp) (t : Nat → AC) (b : Nat → ABlk) (K : AC → (Nat → ABlk) → Prop) : Prop :=
  match op with
  | .mv x => force (evO t x) fun y => K y b
  | .pick c x y => match evO t c with
    | .d (.v (.bool c)) => (match c with | true => force (evO t x) fun y => K y b | false => force (evO t y) fun y => K y b)
    | _ => False
  | .bin op x y => match evO t x, evO t y with
    | .d (.v (.int k a)),   .d (.v (.int k' c)) => intB op k a k' c fun r => K r b
    | .d (.v (.string a)), .d (.v (.string c)) => strA op a c fun r => K r b
    | _, _ => False
  | .ld sh x _ => match evO t x with
    | .ptr s off => (match b s with
      | .var cs => (match sh with
        | .one => (match cs[off]? with | some c => force c fun y => K y b | none => False)
        | .agg n => cond (decide (off + n ≤ cs.length)) (K (.agg ((cs.drop off).take n)) b) False)
      | _ => False)
    | .d (.fptr cs) => (match sh with
      | .one => (match cs with | c :: _ => K (.d c) b | [] => False)
      | .agg n => cond (decide (n ≤ cs.length)) (K (.d (.agg (cs.take n))) b) False)
    | .rptr s i j tot => (match b s with
      | .row _ els => tot = els.length ∧ ∃ cs, els[i]? = some cs ∧ (match sh with
        | .one => (match cs[j]? with | some c => K (.d c) b | none => False)
        | .agg n => cond (decide (j + n ≤ cs.length)) (K (.d (.agg ((cs.drop j).take n))) b) False)
      | _ => False)
    | _ => False
  | .st s sh x y => match evO t x, cellsC sh (evO t y) with
    | .ptr s' off, some us => cond (Nat.beq s' s && us.all (standsB b)) (match b s with
      | .var cs => cond (decide (off + us.length ≤ cs.length)) (K (.d (.v undef)) (upd b s (.var (cs.take off ++ us ++ cs.drop (off + us.length))))) False
      | _ => False) False
    | .rptr s' i j tot, some us => cond (Nat.beq s' s && us.all (standsB b)) (match b s, toDs us with
      | .row esz els, some ds => tot = els.length ∧ ∃ cs, els[i]? = some cs ∧ cond (decide (j + ds.length ≤ cs.length)) (K (.d (.v undef)) (upd b s (.row esz (els.set i (cs.take j ++ ds ++ cs.drop (j + ds.length)))))) False
      | _, _ => False) False
    | _, _ => False
  | .box s sh x => match b s, cellsC sh (evO t x) with
    | .fresh, some us => cond (us.all (standsB b)) (K (.ptr s 0) (upd b s (.var us))) False
    | _, _ => False
  | .boxd sh x => match cellsC sh (evO t x) with
    | some us => (match toDs us with
      | some ds => cond (ds.all oneD) (K (.d (.fptr ds)) b) False
      | none => False)
    | none => False
  | .fld sh off x => match evO t x with
    | .agg cs => (match sh with
      | .one => (match cs[off]? with | some c => force c fun y => K y b | none => False)
      | .agg n => cond (decide (off + n ≤ cs.length)) (K (.agg ((cs.drop off).take n)) b) False)
    | .d (.agg cs) => (match sh with
      | .one => (match cs[off]? with | some c => K (.d c) b | none => False)
      | .agg n => cond (decide (off + n ≤ cs.length)) (K (.d (.agg ((cs.drop off).take n))) b) False)
    | _ => False
  | .ixa esz x i => match evO t x, evO t i with
    | .d (.list xs), .d (.v (.int _ n)) => 0 ≤ n ∧ ∃ cs, xs[n.toNat]? = some cs ∧ cond (Nat.beq cs.length esz) (K (.d (.fptr cs)) b) False
    | .row s off len tot, .d (.v (.int _ n)) => 0 ≤ n ∧ n < len ∧ (match b s with
      | .row esz' els => cond (Nat.beq esz' esz) (tot = els.length ∧ K (.rptr s (off + n.toNat) 0 tot) b) False
      | _ => False)
    | .vs s off len, .d (.v (.int _ n)) => cond (Nat.beq esz 1) (0 ≤ n ∧ n < len ∧ (match b s with
      | .var _ => K (.ptr s (off + n.toNat)) b
      | _ => False)) False
    | _, _ => False
  | .ext x k => match evO t x with
    | .tup vs => (match vs[k]? with | some c => force c fun y => K y b | none => False)
    | .d (.tup vs) => (match vs[k]? with | some c => K (.d c) b | none => False)
    | _ => False
  | .bsl esz sh ps => match elsC b t sh ps with
    | some es => cond (es.all (fun e => Nat.beq e.length esz)) (K (.d (.list es)) b) False
    | none => False
  | .len str x => match evO t x with
    | .d (.list xs) => cond str False (K (iC .i64 xs.length) b)
    | .d (.v (.slice none 0 0)) => cond str False (K (iC .i64 0) b)
    | .d (.v (.string s)) => cond str (K (iC .i64 s.size) b) False
    | .row s _ len tot => cond str False (match b s with | .row _ els => tot = els.length ∧ K (iC .i64 len) b | _ => False)
    | .vs s _ len => cond str False (match b s with | .var _ => K (iC .i64 len) b | _ => False)
    | _ => False
  | .mki ty x => match evO t x with
    | .d (.v u) => cond u.oneCell' (K (.d (.v (.iface ty u))) b) False
    | _ => False
  | .eqs neg n ls x y => match aggOf (evO t x), aggOf (evO t y) with
    | some cs, some ds => cond (Nat.beq cs.length n && Nat.beq ds.length n) (match eqLeaves cs ds ls with
      | some r => K (bC (if neg then !r else r)) b
      | none => False) False
    | _, _ => False
  | .call g xs => match (xs.map (evO t)).mapM (snap b 4) with
    | some ds => ∃ res, PureFn P g ds res ∧ cond ((xs.map (evO t)).all isPure) (K (.d res) b) (flatD res = true ∧ K (.d res) b)
    | none => False
  | .callv x xs => match snap b 4 (evO t x), (xs.map (evO t)).mapM (snap b 4) with
    | some (.clo g first caps), some ds => ∃ res, PureFn P g (first ++ ds ++ caps) res ∧ cond ((evO t x :: xs.map (evO t)).all isPure) (K (.d res) b) (flatD res = true ∧ K (.d res) b)
    | _, _ => False
  | .app s esz x y => appB t b s esz x y K
  | .appd ss esz x y => ∃ s, s ∈ ss ∧ appB t b s esz x y K
  | .appz s esz x y => appZB t b s esz x y K
  | .mvf s x => match evO t x with
    | .row s' off len tot => cond (Nat.beq s' s && Nat.beq off 0) (len = tot ∧ (match b s with
      | .row _ els => tot = els.length ∧ K (.d (.list els)) (upd b s .dead)
      | _ => False)) False
    | _ => False
  | .bslr s esz sh ps => match elsC b t sh ps, b s with
    | some es, .fresh => cond (es.all (fun e => Nat.beq e.length esz)) (K (.row s 0 es.length es.length) (upd b s (.row esz es))) False
    | _, _ => False
  | op => opA P op ⟨t, b⟩ K

theorem beq_nat (a b : Nat) : Nat.beq a b = (a == b) := by
  rw [Bool.eq_iff_iff, Nat.beq_eq, beq_iff_eq]
theorem beq_all {ys : List (List D)} {n : Nat} : ys.all (fun e => Nat.beq e.length n) = ys.all (fun e => e.length == n) := by simp only [beq_nat]

theorem appB_A {σ : St} {s esz : Nat} {x y : Opnd} {K : AC → (Nat → ABlk) → Prop} (h : appB σ.t σ.b s esz x y K) : appA σ s esz x y K := by
    unfold appB at h
    simp only [appA]
    split at h <;> try (exact h.elim)
    rename_i ys hys
    simp only [hys]
    obtain ⟨h1, h⟩ := h
    refine ⟨beq_all ▸ h1, ?_⟩
    split at h <;> try (exact h.elim)
    · rename_i s' off len tot hx
      simp only [hx]
      obtain ⟨h2, h⟩ := of_cond h
      simp only [Bool.and_eq_true, Nat.beq_eq] at h2
      refine ⟨h2.1, h2.2, h.1, ?_⟩
      have h := h.2
      split at h <;> try (exact h.elim)
      rename_i esz' els hb
      simp only [hb]
      obtain ⟨h3, h4⟩ := of_cond h
      exact ⟨by simpa using h3, h4⟩
    · rename_i hx
      simp only [hx]
      exact h

theorem appZB_A {σ : St} {s esz : Nat} {x y : Opnd} {K : AC → (Nat → ABlk) → Prop} (h : appZB σ.t σ.b s esz x y K) : appZ σ s esz x y K := by
    unfold appZB at h
    simp only [appZ]
    split at h <;> try (exact h.elim)
    rename_i ys hys
    simp only [hys]
    obtain ⟨h1, h⟩ := h
    refine ⟨beq_all ▸ h1, ?_⟩
    split at h <;> try (exact h.elim)
    · rename_i s' off len tot hx
      simp only [hx]
      obtain ⟨h2, h⟩ := of_cond h
      simp only [Bool.and_eq_true, Nat.beq_eq] at h2
      refine ⟨h2.1, h2.2, h.1, ?_⟩
      have h := h.2
      split at h <;> try (exact h.elim)
      rename_i esz' els hb
      simp only [hb]
      obtain ⟨h3, h4⟩ := of_cond h
      exact ⟨by simpa using h3, h4⟩
    · rename_i hx
      simp only [hx]
      exact h

theorem opB_A {P : Program} {op : AOp} {σ : St} {K : AC → (Nat → ABlk) → Prop} (hld : ∀ sh x av, op = .ld sh x av → av = []) (h : opB P op σ.t σ.b K) : opA P op σ K := by
  cases op <;> simp only [opB] at h <;> try exact h
  case mv x => rw [force_eq] at h; exact h
  case pick c x y =>
    simp only [opA]
    split at h <;> try (exact h.elim)
    rename_i c' hc
    simp only [force_eq] at h
    simp only [hc]
    cases c'
    · exact ⟨fun h => (by cases h), fun _ => h⟩
    · exact ⟨fun _ => h, fun h => (by cases h)⟩
  case bin op x y =>
    simp only [opA, binA]
    split at h <;> try (exact h.elim)
    · rename_i hx hy; simp only [hx, hy]; exact intB_A h
    · rename_i hx hy; simp only [hx, hy]; exact h
  case ld sh x av =>
    have := hld sh x av rfl; subst this
    simp only [opA]
    split at h <;> try (exact h.elim)
    · rename_i s off hx
      simp only [hx]
      refine ⟨by simp, ?_⟩
      split at h <;> try (exact h.elim)
      rename_i cs hb
      simp only [hb]
      split at h
      · split at h <;> try (exact h.elim)
        rename_i c hc
        simp only [hc]; rw [force_eq] at h; exact h
      · obtain ⟨h1, h2⟩ := of_cond h
        exact ⟨of_decide_eq_true h1, h2⟩
    · rename_i cs hx
      simp only [hx]
      split at h
      · exact h
      · obtain ⟨h1, h2⟩ := of_cond h
        exact ⟨of_decide_eq_true h1, h2⟩
    · rename_i s i j tot hx
      simp only [hx]
      refine ⟨by simp, ?_⟩
      split at h <;> try (exact h.elim)
      rename_i esz els hb
      simp only [hb]
      obtain ⟨h1, cs, h2, h⟩ := h
      have hd : els.getD i [] = cs := by simp [List.getD, h2]
      refine ⟨h1, (List.getElem?_eq_some_iff.1 h2).1, ?_⟩
      rw [hd]
      split at h
      · exact h
      · obtain ⟨h3, h4⟩ := of_cond h
        exact ⟨of_decide_eq_true h3, h4⟩
  case st s sh x y =>
    simp only [opA]
    split at h <;> try (exact h.elim)
    · rename_i s' off us hx hus
      simp only [hx, hus]
      obtain ⟨h1, h⟩ := of_cond h
      simp only [Bool.and_eq_true, Nat.beq_eq] at h1
      refine ⟨h1.1, h1.2, ?_⟩
      split at h <;> try (exact h.elim)
      rename_i cs hb
      simp only [hb]
      obtain ⟨h3, h4⟩ := of_cond h
      exact ⟨of_decide_eq_true h3, h4⟩
    · rename_i s' i j tot us hx hus
      simp only [hx, hus]
      obtain ⟨h1, h⟩ := of_cond h
      simp only [Bool.and_eq_true, Nat.beq_eq] at h1
      refine ⟨h1.1, h1.2, ?_⟩
      split at h <;> try (exact h.elim)
      rename_i esz els ds hb hds
      simp only [hb, hds]
      obtain ⟨h1, cs, h2, h⟩ := h
      have hd : els.getD i [] = cs := by simp [List.getD, h2]
      obtain ⟨h3, h4⟩ := of_cond h
      refine ⟨h1, (List.getElem?_eq_some_iff.1 h2).1, ?_⟩
      rw [hd]
      exact ⟨of_decide_eq_true h3, h4⟩
  case box s sh x =>
    simp only [opA]
    split at h <;> try (exact h.elim)
    rename_i us hb hus
    simp only [hb, hus]
    exact of_cond h
  case boxd sh x =>
    simp only [opA]
    split at h <;> try (exact h.elim)
    rename_i us hus
    split at h <;> try (exact h.elim)
    rename_i ds hds
    simp only [hus, hds]
    exact of_cond h
  case fld sh off x =>
    simp only [opA]
    split at h <;> try (exact h.elim)
    · rename_i cs hx
      simp only [hx]
      split at h
      · split at h <;> try (exact h.elim)
        rename_i c hc
        simp only [hc]; rw [force_eq] at h; exact h
      · obtain ⟨h1, h2⟩ := of_cond h
        exact ⟨of_decide_eq_true h1, h2⟩
    · rename_i cs hx
      simp only [hx]
      split at h
      · exact h
      · obtain ⟨h1, h2⟩ := of_cond h
        exact ⟨of_decide_eq_true h1, h2⟩
  case ixa esz x i =>
    simp only [opA]
    split at h <;> try (exact h.elim)
    · rename_i xs k n hx hi
      simp only [hx, hi]
      obtain ⟨h1, cs, h2, h⟩ := h
      obtain ⟨h3, h4⟩ := of_cond h
      have hlt := (List.getElem?_eq_some_iff.1 h2).1
      have hd : xs.getD n.toNat [] = cs := by simp [List.getD, h2]
      refine ⟨h1, by omega, ?_⟩
      rw [hd]
      exact ⟨by simpa using h3, h4⟩
    · rename_i s off len tot k n hx hi
      simp only [hx, hi]
      obtain ⟨h1, h2, h⟩ := h
      refine ⟨h1, h2, ?_⟩
      split at h <;> try (exact h.elim)
      rename_i esz' els hb
      simp only [hb]
      obtain ⟨h3, h4⟩ := of_cond h
      exact ⟨by simpa using h3, h4⟩
    · rename_i s off len k n hx hi
      simp only [hx, hi]
      obtain ⟨h3, h1, h2, h⟩ := of_cond h
      exact ⟨by simpa using h3, h1, h2, h⟩
  case ext x k =>
    simp only [opA]
    split at h <;> try (exact h.elim)
    · rename_i vs hx
      simp only [hx]
      split at h <;> try (exact h.elim)
      rename_i c hc
      simp only [hc]; rw [force_eq] at h; exact h
    · rename_i vs hx
      simp only [hx]
      exact h
  case bsl esz sh ps =>
    simp only [opA]
    split at h <;> try (exact h.elim)
    rename_i es hes
    simp only [hes]
    rw [beq_all] at h
    exact of_cond h
  case len str x =>
    simp only [opA]
    split at h <;> try (exact h.elim)
    · rename_i hx; simp only [hx]; cases str
      · exact ⟨rfl, h⟩
      · exact h.elim
    · rename_i hx; simp only [hx]; cases str
      · exact ⟨rfl, h⟩
      · exact h.elim
    · rename_i hx; simp only [hx]; cases str
      · exact h.elim
      · exact ⟨rfl, h⟩
    · rename_i hx; simp only [hx]; cases str
      · refine ⟨rfl, ?_⟩
        simp only [cond_false] at h
        exact h
      · exact h.elim
    · rename_i hx; simp only [hx]; cases str
      · refine ⟨rfl, ?_⟩
        simp only [cond_false] at h
        exact h
      · exact h.elim
  case mki t x =>
    simp only [opA]
    split at h <;> try (exact h.elim)
    rename_i u hx
    simp only [hx]
    exact of_cond h
  case eqs neg n ls x y =>
    simp only [opA]
    split at h <;> try (exact h.elim)
    rename_i cs ds hx hy
    simp only [hx, hy]
    obtain ⟨h1, h⟩ := of_cond h
    simp only [Bool.and_eq_true, Nat.beq_eq] at h1
    exact ⟨h1.1, h1.2, h⟩
  case call g xs =>
    simp only [opA]
    split at h <;> try (exact h.elim)
    rename_i ds hds
    simp only [hds]
    obtain ⟨res, h1, h⟩ := h
    refine ⟨res, h1, ?_⟩
    cases hp : (xs.map (evO σ.t)).all isPure with
    | true => rw [hp] at h; exact ⟨.inl rfl, h⟩
    | false => rw [hp] at h; exact ⟨.inr h.1, h.2⟩
  case callv x xs =>
    simp only [opA]
    split at h <;> try (exact h.elim)
    rename_i g first caps ds hclo hds
    simp only [hclo, hds]
    obtain ⟨res, h1, h⟩ := h
    refine ⟨res, h1, ?_⟩
    cases hp : (evO σ.t x :: xs.map (evO σ.t)).all isPure with
    | true => rw [hp] at h; exact ⟨.inl rfl, h⟩
    | false => rw [hp] at h; exact ⟨.inr h.1, h.2⟩
  case app s esz x y => exact appB_A h
  case appd ss esz x y =>
    obtain ⟨s, hs, h⟩ := h
    exact ⟨s, hs, appB_A h⟩
  case appz s esz x y => exact appZB_A h
  case mvf s x =>
    simp only [opA]
    split at h <;> try (exact h.elim)
    rename_i s' off len tot hx
    simp only [hx]
    obtain ⟨h2, h⟩ := of_cond h
    simp only [Bool.and_eq_true, Nat.beq_eq] at h2
    exact ⟨h2.1, h2.2, h.1, h.2⟩
  case bslr s esz sh ps =>
    simp only [opA]
    split at h <;> try (exact h.elim)
    rename_i es hes hb
    simp only [hes, hb]
    rw [beq_all] at h
    exact of_cond h

def putK (dst : Option Nat) (y : AC) (t : Nat → AC) (b : Nat → ABlk) (K : (Nat → AC) → (Nat → ABlk) → Prop) : Prop :=
  match dst with
  | some d => K (fun i => cond (Nat.beq i d) y (t i)) b
  | none => K t b

theorem opA_mono {P : Program} {op : AOp} {σ : St} {K K' : AC → (Nat → ABlk) → Prop} (hk : ∀ y b, K y b → K' y b) (h : opA P op σ K) : opA P op σ K' := by
  obtain ⟨y, ch, h1, _, h3⟩ := opA_pt h
  exact h3 σ.t σ.b K' (fun _ _ => rfl) (fun s => .inr rfl) (hk _ _ h1)

def runB (P : Program) (op : AOp) (av : List Nat) (t : Nat → AC) (b : Nat → ABlk) (dst : Option Nat) (K : (Nat → AC) → (Nat → ABlk) → Prop) : Prop :=
  match av with
  | [] => opB P op t b fun y b' => putK dst y t b' K
  | a :: av => opB P op t (maskB (a :: av) b) fun y b' => putK dst y t (unmaskB (a :: av) b b') K

def operB (P : Program) (o : AOper) (t : Nat → AC) (b : Nat → ABlk) (K : (Nat → AC) → (Nat → ABlk) → Prop) : Prop :=
  match o with
  | ⟨dst, op, none, av⟩ => runB P op av t b dst K
  | ⟨dst, op, some (g, want), av⟩ => match t g with
    | .d (.v (.bool c)) => (match want with
      | true => (match c with | true => runB P op av t b dst K | false => putK dst (.d (.v undef)) t b K)
      | false => (match c with | true => putK dst (.d (.v undef)) t b K | false => runB P op av t b dst K))
    | .d (.v (.tuple _)) => putK dst (.d (.v undef)) t b K
    | _ => False

def plainLd (o : AOper) : Bool := match o.op with | .ld _ _ (_ :: _) => false | _ => true

theorem unmask_mask (av : List Nat) (b : Nat → ABlk) : unmaskB av b (maskB av b) = b := by
  funext s
  by_cases hs : s ∈ av
  · rw [unmaskB_in hs]
  · rw [unmaskB_out hs, maskB_out hs]

theorem putK_eq {dst : Option Nat} {y : AC} {t : Nat → AC} {b : Nat → ABlk} {K : (Nat → AC) → (Nat → ABlk) → Prop} (h : putK dst y t b K) : K (St.put ⟨t, b⟩ dst y).t (St.put ⟨t, b⟩ dst y).b := by
  cases dst with
  | none => exact h
  | some d =>
    have e : (fun i => cond (Nat.beq i d) y (t i)) = upd t d y := by
      funext i
      simp only [upd, beq_nat]
      by_cases hi : i = d
      · simp [hi]
      · have h0 : (i == d) = false := by simpa using hi
        simp [hi, h0]
    simp only [putK, e] at h
    exact h

theorem operB_A {P : Program} {o : AOper} {σ : St} {K : (Nat → AC) → (Nat → ABlk) → Prop} (hp : plainLd o = true) (h : operB P o σ.t σ.b K) : operA P o σ fun σ' => K σ'.t σ'.b := by
  obtain ⟨dst, op, g, av⟩ := o
  have hld : ∀ sh x av, op = .ld sh x av → av = [] := fun sh x av e => by
    unfold plainLd at hp; simp only [e] at hp
    cases av with
    | nil => rfl
    | cons => cases hp
  have run : (runB P op av σ.t σ.b dst K) → opA P op ⟨σ.t, maskB av σ.b⟩ fun y b' => K (St.put ⟨σ.t, unmaskB av σ.b b'⟩ dst y).t (St.put ⟨σ.t, unmaskB av σ.b b'⟩ dst y).b := fun h => by
    cases av with
    | nil =>
      simp only [runB] at h
      refine opA_mono (fun y b' hk => ?_) (opB_A (σ := ⟨σ.t, σ.b⟩) hld h)
      exact putK_eq hk
    | cons a av =>
      simp only [runB] at h
      refine opA_mono (fun y b' hk => ?_) (opB_A (σ := ⟨σ.t, maskB (a :: av) σ.b⟩) hld h)
      exact putK_eq hk
  unfold operA operA0
  cases g with
  | none =>
    exact run h
  | some gw =>
    obtain ⟨g, want⟩ := gw
    simp only [operB] at h
    simp only
    split at h <;> try (exact h.elim)
    · rename_i b hb
      simp only [hb]
      have h : (b = want → runB P op av σ.t σ.b dst K) ∧ (b = (!want) → putK dst (.d (.v undef)) σ.t σ.b K) := by
        cases want <;> cases b <;> first | exact ⟨fun e => (by cases e), fun _ => h⟩ | exact ⟨fun _ => h, fun e => (by cases e)⟩
      refine ⟨fun e => run (h.1 e), fun e => ?_⟩
      rw [unmask_mask]; exact putK_eq (h.2 e)
    · rename_i vs hb
      simp only [hb]
      rw [unmask_mask]; exact putK_eq h

def opsB (P : Program) : List AOper → (Nat → AC) → (Nat → ABlk) → ((Nat → AC) → (Nat → ABlk) → Prop) → Prop
  | [], t, b, K => K t b
  | o :: os, t, b, K => operB P o t b fun t' b' => opsB P os t' b' K

theorem opsB_A {P : Program} : ∀ {aos : List AOper} {σ : St} {K : (Nat → AC) → (Nat → ABlk) → Prop}, aos.all plainLd = true → opsB P aos σ.t σ.b K → opsA P aos σ fun σ' => K σ'.t σ'.b
  | [], σ, K, _, h => h
  | o :: os, σ, K, hp, h => by
    simp only [List.all_cons, Bool.and_eq_true] at hp
    exact operA_mono (fun σ' h' => opsB_A hp.2 h') (operB_A hp.1 h)

/-- What the one yield does, the other one does too. -/
def HLe (H H' : Hand) : Prop := ∀ pr l args b (K K' : AC → (Nat → ABlk) → Prop), (∀ y b, K y b → K' y b) → H pr l args b K → H' pr l args b K'
/-- A yield that takes more where it takes less. -/
def HM (H : Hand) : Hand := fun pr l args b K => ∃ K0 : AC → (Nat → ABlk) → Prop, (∀ y b, K0 y b → K y b) ∧ H pr l args b K0
theorem le_HM (H : Hand) : HLe H (HM H) := fun _ _ _ _ K _ hk h => ⟨K, hk, h⟩
theorem HM_mono (H : Hand) : HLe (HM H) (HM H) := fun _ _ _ _ _ _ hk ⟨K0, h1, h2⟩ => ⟨K0, fun y b h => hk y b (h1 y b h), h2⟩
theorem HLe.HM {H H' : Hand} (h : HLe H H') : HLe (HM H) H' := fun _ _ _ _ _ _ hk ⟨K0, h1, h2⟩ => h _ _ _ _ _ _ (fun y b e => hk y b (h1 y b e)) h2

/-- A call of a loop's yield, or one that turns slots, worked out. -/
def operHB1 (P : Program) (H : Hand) (prot : List Nat) (op : AOp) (dst : Option Nat) (t : Nat → AC) (b : Nat → ABlk) (K : (Nat → AC) → (Nat → ABlk) → Prop) : Prop :=
  match op with
  | .yield lt pr x xs => match evO t x with
    | .d (.v (.func (.yield l) f c)) => cond (Nat.beq f.size 0 && Nat.beq c.size 0 && (prot.all pr.contains && lt.all fun i => onlyC pr (t i)))
        (H pr l (xs.map (evO t)) b fun y b' => putK dst y (keepT t lt) b' K) False
    | _ => False
  | .icall lt ls g xs => cond (prot.all ls.contains) (∃ (st : St) (R : AC → (Nat → ABlk) → Prop), St.forget ⟨t, b⟩ lt ls = st ∧ ImpFn P (HM H) ls g ((xs.map (evO t)).map (scrC ls)) st.b R ∧ ∀ y b', R y b' → putK dst y st.t b' K) False
  | .icallv lt ls x xs => match capsOf (evO t x) with
    | some (g, caps) => cond (prot.all ls.contains) (∃ (st : St) (R : AC → (Nat → ABlk) → Prop), St.forget ⟨t, b⟩ lt ls = st ∧ ImpFn P (HM H) ls g ((xs.map (evO t) ++ caps).map (scrC ls)) st.b R ∧ ∀ y b', R y b' → putK dst y st.t b' K) False
    | none => False
  | .eqn neg x => match evO t x with
    | .d (.v (.slice none 0 0)) => putK dst (bC (!neg)) t b K
    | .d (.list xs) => (match xs with
      | [] => putK dst (bC true) t b K ∧ putK dst (bC false) t b K
      | _ :: _ => putK dst (bC neg) t b K)
    | _ => False
  | _ => False

def operHgB (P : Program) (H : Hand) (prot : List Nat) (o : AOper) (t : Nat → AC) (b : Nat → ABlk) (K : (Nat → AC) → (Nat → ABlk) → Prop) : Prop :=
  match o with
  | ⟨dst, op, none, _⟩ => operHB1 P H prot op dst t b K
  | ⟨dst, op, some (g, want), _⟩ => match t g with
    | .d (.v (.bool c)) => (match want with
      | true => (match c with | true => operHB1 P H prot op dst t b K | false => putK dst (.d (.v undef)) t b K)
      | false => (match c with | true => putK dst (.d (.v undef)) t b K | false => operHB1 P H prot op dst t b K))
    | .d (.v (.tuple _)) => putK dst (.d (.v undef)) t b K
    | _ => False

/-- One operation outside of a drawn region, worked out. -/
def operHB (P : Program) (H : Hand) (prot : List Nat) (o : AOper) (t : Nat → AC) (b : Nat → ABlk) (K : (Nat → AC) → (Nat → ABlk) → Prop) : Prop :=
  match o.op with
  | .yield .. => operHgB P H prot o t b K
  | .icall .. => operHgB P H prot o t b K
  | .icallv .. => operHgB P H prot o t b K
  | .eqn .. => operHgB P H prot o t b K
  | _ => operB P o t b K

def opsHB (P : Program) (H : Hand) (prot : List Nat) : List AOper → (Nat → AC) → (Nat → ABlk) → ((Nat → AC) → (Nat → ABlk) → Prop) → Prop
  | [], t, b, K => K t b
  | o :: os, t, b, K => operHB P H prot o t b fun t' b' => opsHB P H prot os t' b' K

theorem HLe.hand {P : Program} {X : Ctx} {H H' : Hand} (h : HLe H H') (hk : HandOK P X H') : HandOK P X H := fun pr' l args b K t lt m a w vs hH => hk pr' l args b K t lt m a w vs (h _ _ _ _ _ _ (fun _ _ h => h) hH)
theorem HLe.hands {P : Program} {X : Ctx} {H H' : Hand} (h : HLe H H') (hk : HandsOK P X H') : HandsOK P X H := ⟨hk.sep, h.hand hk.own, fun Y hY => h.hand (hk.wid Y hY)⟩
theorem HLe.imp {P : Program} {H H' : Hand} (h : HLe H H') {ls : List Nat} {g : FuncId} {args : List AC} {b : Nat → ABlk} {K : AC → (Nat → ABlk) → Prop} (hi : ImpFn P H ls g args b K) : ImpFn P H' ls g args b K :=
  ⟨hi.1, fun X t lt m a w vs hk => hi.2 X t lt m a w vs (h.hands hk)⟩

theorem operHB1_A {P : Program} {H H' : Hand} (hH : HLe H H') {prot : List Nat} {op : AOp} {dst : Option Nat} {σ : St} {K : (Nat → AC) → (Nat → ABlk) → Prop} {K' : St → Prop} (hk : ∀ σ', K σ'.t σ'.b → K' σ') (h : operHB1 P H prot op dst σ.t σ.b K) :
    operH1 P H' prot op dst σ K' := by
  unfold operHB1 at h
  unfold operH1
  split at h
  · split at h <;> try (exact h.elim)
    rename_i l f c hx
    obtain ⟨h1, h⟩ := of_cond h
    rw [Bool.and_eq_true, Bool.and_eq_true] at h1
    obtain ⟨⟨h1, h2⟩, h3⟩ := h1
    simp only [hx]
    refine ⟨Array.eq_empty_of_size_eq_zero (by simpa using h1), Array.eq_empty_of_size_eq_zero (by simpa using h2), h3, hH _ _ _ _ _ _ (fun y b' hK => hk _ (putK_eq hK)) h⟩
  · obtain ⟨h1, st, R, rfl, hi, hR⟩ := of_cond h
    exact ⟨h1, (hH.HM.imp hi).mono fun y b' hy => hk _ (putK_eq (hR y b' hy))⟩
  · split at h <;> try (exact h.elim)
    rename_i g caps hx
    obtain ⟨h1, st, R, rfl, hi, hR⟩ := of_cond h
    simp only [hx]
    exact ⟨h1, (hH.HM.imp hi).mono fun y b' hy => hk _ (putK_eq (hR y b' hy))⟩
  · split at h <;> try (exact h.elim)
    · rename_i hx
      simp only [hx]
      exact hk _ (putK_eq h)
    · rename_i xs hx
      simp only [hx]
      cases xs with
      | nil => exact ⟨hk _ (putK_eq h.1), hk _ (putK_eq h.2)⟩
      | cons => exact hk _ (putK_eq h)
  · exact h.elim

theorem operHgB_A {P : Program} {H H' : Hand} (hH : HLe H H') {prot : List Nat} {o : AOper} {σ : St} {K : (Nat → AC) → (Nat → ABlk) → Prop} {K' : St → Prop} (hk : ∀ σ', K σ'.t σ'.b → K' σ') (h : operHgB P H prot o σ.t σ.b K) :
    operHg P H' prot o σ K' := by
  obtain ⟨dst, op, g, av⟩ := o
  unfold operHg
  cases g with
  | none => exact operHB1_A hH hk h
  | some gw =>
    obtain ⟨g, want⟩ := gw
    simp only [operHgB] at h
    simp only
    split at h <;> try (exact h.elim)
    · rename_i b hb
      simp only [hb]
      have h : (b = want → operHB1 P H prot op dst σ.t σ.b K) ∧ (b = (!want) → putK dst (.d (.v undef)) σ.t σ.b K) := by
        cases want <;> cases b <;> first | exact ⟨fun e => (by cases e), fun _ => h⟩ | exact ⟨fun _ => h, fun e => (by cases e)⟩
      exact ⟨fun e => operHB1_A hH hk (h.1 e), fun e => hk _ (putK_eq (h.2 e))⟩
    · rename_i vs hb
      simp only [hb]
      exact hk _ (putK_eq h)

theorem operHB_A {P : Program} {H H' : Hand} (hH : HLe H H') {prot : List Nat} {o : AOper} {σ : St} {K : (Nat → AC) → (Nat → ABlk) → Prop} {K' : St → Prop} (hk : ∀ σ', K σ'.t σ'.b → K' σ') (hp : plainLd o = true) (h : operHB P H prot o σ.t σ.b K) :
    operH P H' prot o σ K' := by
  unfold operHB at h
  unfold operH
  split at h
  · rename_i e; simp only [e]; exact operHgB_A hH hk h
  · rename_i e; simp only [e]; exact operHgB_A hH hk h
  · rename_i e; simp only [e]; exact operHgB_A hH hk h
  · rename_i e; simp only [e]; exact operHgB_A hH hk h
  · rename_i h1 h2 h3 h4
    have h := operA_mono (K' := K') (fun σ' h' => hk _ h') (operB_A hp h)
    split
    · rename_i e; exact (h1 _ _ _ _ e).elim
    · rename_i e; exact (h2 _ _ _ _ e).elim
    · rename_i e; exact (h3 _ _ _ _ e).elim
    · rename_i e; exact (h4 _ _ e).elim
    · exact h

theorem opsHB_A {P : Program} {H H' : Hand} (hH : HLe H H') {prot : List Nat} : ∀ {aos : List AOper} {σ : St} {K : (Nat → AC) → (Nat → ABlk) → Prop} {K' : St → Prop}, (∀ σ', K σ'.t σ'.b → K' σ') → aos.all plainLd = true → opsHB P H prot aos σ.t σ.b K → opsH P H' prot aos σ K'
  | [], σ, K, K', hk, _, h => hk σ h
  | o :: os, σ, K, K', hk, hp, h => by
    simp only [List.all_cons, Bool.and_eq_true] at hp
    exact operHB_A hH (fun σ' h' => opsHB_A hH hk hp.2 h') hp.1 h

/-- A loop: what its states at its head are of, and what a round makes less. -/
def LoopB (body : (Exit → (Nat → AC) → (Nat → ABlk) → Prop) → (Nat → AC) → (Nat → ABlk) → Prop) (lt ls : List Nat) (Q : Exit → (Nat → AC) → (Nat → ABlk) → Prop) (t : Nat → AC) (b : Nat → ABlk) : Prop :=
  ∃ (α : Type) (st : α → St) (inv : α → Prop) (μ : α → Nat) (a0 : α), St.forget ⟨t, b⟩ lt ls = st a0 ∧ inv a0 ∧
    ∀ a, inv a → body (fun e t' b' => match e with | .normal => ∃ a', St.forget ⟨t', b'⟩ lt ls = st a' ∧ inv a' ∧ μ a' < μ a | e => Q e t' b') (st a).t (st a).b

abbrev QB := Exit → (Nat → AC) → (Nat → ABlk) → Prop

def thenB (K : (Nat → AC) → (Nat → ABlk) → Prop) : QB := fun e t b => match e with
  | .normal => K t b
  | _ => False
def endB (p : Nat) (K : AC → (Nat → ABlk) → Prop) : QB := fun e t b => match b p, e with
  | .fresh, .normal => K (bC true) b
  | .fresh, .ret => K (bC false) (upd b p (.mark none))
  | .fresh, .exit id => K (bC false) (upd b p (.mark (some id)))
  | _, _ => False
def handB (p l : Nat) (t : Nat → AC) (ps : List Nat) (wa wb : List Nat → QB → (Nat → AC) → (Nat → ABlk) → Prop) : Hand := fun pr' l' args b K =>
  l' = l ∧ (match b p with
    | .fresh => cond (Nat.beq args.length ps.length) (wa pr' (thenB (wb pr' (endB p K))) (setP t ps args) b) False
    | _ => False)
def finQ (p : Nat) (Q : QB) (t : Nat → AC) (b : Nat → ABlk) : Prop :=
  match b p with
  | .fresh => Q .normal t b
  | .mark none => Q .ret t (upd b p .fresh)
  | .mark (some id) => Q (.exit id) t (upd b p .fresh)
  | _ => False
def finRB (p : Nat) (Q : QB) (t : Nat → AC) : QB := fun e _ b => match e with
  | .normal => finQ p Q t b
  | .ret => finQ p Q t b
  | _ => False

/-- **The weakest precondition, for working out.** -/
def bwp (P : Program) (H : Hand) (fnm : Bool) (prot : List Nat) : ACode → QB → (Nat → AC) → (Nat → ABlk) → Prop
  | .skip, Q, t, b => Q .normal t b
  | .reg ops, Q, t, b => opsHB P H prot ops t b (Q .normal)
  | .regd ops, Q, t, b => opsHB P H prot ops t b (Q .normal)
  | .seq x y, Q, t, b => bwp P H fnm prot x (fun e t' b' => match e with | .normal => bwp P H fnm prot y Q t' b' | e => Q e t' b') t b
  | .cond c x y, Q, t, b => match evO t c with
    | .d (.v (.bool v)) => (match v with | true => bwp P H fnm prot x Q t b | false => bwp P H fnm prot y Q t b)
    | _ => False
  | .block id x, Q, t, b => bwp P H fnm prot x (fun e t' b' => match e with | .exit id' => cond (Nat.beq id' id) (Q .normal t' b') (Q (.exit id') t' b') | e => Q e t' b') t b
  | .loop lt ls x, Q, t, b => cond (prot.all ls.contains) (LoopB (fun Q t b => bwp P H fnm prot x Q t b) lt ls Q t b) False
  | .rfun p g nf code x lt pr ps asg body, Q, t, b => match capsOf (evO t x), b p with
    | some (g', caps), .fresh => cond (fnm && Nat.beq g' g && Nat.beq caps.length nf && (pr.contains p && prot.all pr.contains && lt.all fun i => onlyC pr (t i)))
        (∀ l, bwp P (handB p l (keepT t lt) ps (fun pr' Q t b => bwp P noH false pr' asg Q t b) (fun pr' Q t b => bwp P noH false pr' body Q t b)) false pr code
          (finRB p Q (keepT t lt)) (iniC (.d (.v (.func (.yield l) #[] #[])) :: caps)) b) False
    | _, _ => False
  | .conv s r esz x, Q, t, b => match b s, b r with
    | .var (.d (.v (.slice none 0 0)) :: cs), .fresh => bwp P H fnm prot x Q t (upd (upd b r (.row esz [])) s (.var (.row r 0 0 0 :: cs)))
    | _, _ => False
  | .exit id, Q, t, b => Q (.exit id) t b
  | .ret, Q, t, b => Q .ret t b
  | .bad, _, _, _ => False

def plainC : ACode → Bool
  | .reg ops => ops.all plainLd
  | .regd ops => ops.all plainLd
  | .seq x y => plainC x && plainC y
  | .cond _ x y => plainC x && plainC y
  | .block _ x => plainC x
  | .loop _ _ x => plainC x
  | .conv _ _ _ x => plainC x
  | .rfun _ _ _ code _ _ _ _ asg body => plainC code && plainC asg && plainC body
  | _ => true

theorem noH_le : HLe noH noH := fun _ _ _ _ _ _ _ h => h.elim

theorem bwp_awp {P : Program} : ∀ {x : ACode} {H H' : Hand} {fnm : Bool} {prot : List Nat} {Q : QB} {Q' : Exit → St → Prop} {σ : St}, HLe H H' → plainC x = true → (∀ e σ', Q e σ'.t σ'.b → Q' e σ') → bwp P H fnm prot x Q σ.t σ.b → awp P H' fnm prot x Q' σ := by
  intro x
  induction x with
  | skip => intro H H' fnm prot Q Q' σ hH hp hk h; exact hk _ _ h
  | reg aos => intro H H' fnm prot Q Q' σ hH hp hk h; exact opsHB_A hH (fun σ' h' => hk _ _ h') hp h
  | regd aos => intro H H' fnm prot Q Q' σ hH hp hk h; exact opsHB_A hH (fun σ' h' => hk _ _ h') hp h
  | seq x y ihx ihy =>
    intro H H' fnm prot Q Q' σ hH hp hk h
    simp only [plainC, Bool.and_eq_true] at hp
    refine ihx hH hp.1 (fun e σ' h' => ?_) h
    cases e with
    | normal => exact ihy hH hp.2 hk h'
    | _ => exact hk _ _ h'
  | cond c x y ihx ihy =>
    intro H H' fnm prot Q Q' σ hH hp hk h
    simp only [plainC, Bool.and_eq_true] at hp
    simp only [awp, bwp] at h ⊢
    split at h
    · rename_i v hb; simp only [hb]
      cases v
      · exact ⟨fun e => (by cases e), fun _ => ihy hH hp.2 hk h⟩
      · exact ⟨fun _ => ihx hH hp.1 hk h, fun e => (by cases e)⟩
    · exact h.elim
  | block id x ih =>
    intro H H' fnm prot Q Q' σ hH hp hk h
    refine ih hH hp (fun e σ' h' => ?_) h
    cases e with
    | exit id' =>
      simp only at h' ⊢
      by_cases e : id' = id
      · subst e; simp at h' ⊢; exact hk _ _ h'
      · have : Nat.beq id' id = false := by rw [beq_nat]; simpa using e
        rw [this] at h'; rw [if_neg e]; exact hk _ _ h'
    | _ => exact hk _ _ h'
  | loop lt ls x ih =>
    intro H H' fnm prot Q Q' σ hH hp hk h
    simp only [bwp] at h
    obtain ⟨hpr, α, st, inv, μ, a0, h0, i0, h1⟩ := of_cond h
    classical
    have hex : ∀ σ', (∃ a, st a = σ' ∧ inv a) → ∃ k, ∃ a, st a = σ' ∧ inv a ∧ μ a = k := fun σ' ⟨a, h1, h2⟩ => ⟨_, a, h1, h2, rfl⟩
    refine ⟨hpr, fun σ' => ∃ a, st a = σ' ∧ inv a, fun σ' => if h : ∃ a, st a = σ' ∧ inv a then (least (hex σ' h)).choose else 0, ⟨a0, h0.symm, i0⟩, ?_⟩
    intro σ' hI
    have hs := (least (hex σ' hI)).choose_spec
    obtain ⟨⟨a, e, ia, hμ⟩, _⟩ := hs
    have hst := h1 a ia
    rw [e] at hst
    refine ih hH hp (fun ex σ'' hq => ?_) hst
    cases ex with
    | normal =>
      obtain ⟨b, hb, ib, hlt⟩ := hq
      have hb : St.forget σ'' lt ls = st b := hb
      have hI' : ∃ a, st a = σ''.forget lt ls ∧ inv a := ⟨b, hb.symm, ib⟩
      refine ⟨hI', ?_⟩
      simp only [hI', hI, dif_pos]
      have h2 := (least (hex _ hI')).choose_spec.2 (μ b) ⟨b, hb.symm, ib, rfl⟩
      omega
    | _ => exact hk _ _ hq
  | rfun p g nf code x lt pr ps asg body ihcode ihasg ihbody =>
    intro H H' fnm prot Q Q' σ hH hp hk h
    simp only [plainC, Bool.and_eq_true] at hp
    simp only [bwp] at h
    simp only [awp]
    split at h <;> try (exact h.elim)
    rename_i g' caps hcaps hbp
    obtain ⟨h1, h⟩ := of_cond h
    simp only [hcaps, hbp]
    rw [Bool.and_eq_true, Bool.and_eq_true, Bool.and_eq_true] at h1
    obtain ⟨⟨⟨h1, h2⟩, h3⟩, h4⟩ := h1
    refine ⟨h1, by simpa using h2, by simpa using h3, h4, fun l => ?_⟩
    refine ihcode ?_ hp.1.1 ?_ (h l)
    · rintro pr' l' args b K K' hK ⟨e, hh⟩
      refine ⟨e, ?_⟩
      split at hh <;> try (exact hh.elim)
      rename_i hbf
      obtain ⟨e1, hh⟩ := of_cond hh
      simp only [hbf]
      refine ⟨by simpa using e1, ?_⟩
      refine ihasg (Q := thenB _) noH_le hp.1.2 (fun ex σ1 hq => ?_) (σ := ⟨setP (keepT σ.t lt) ps args, b⟩) hh
      cases ex <;> try (exact hq.elim)
      refine ihbody (Q := endB p K) noH_le hp.2 (fun ex σ2 hq => ?_) hq
      unfold endB at hq
      unfold endR
      split at hq <;> try (exact hq.elim)
      all_goals
        rename_i hb2
        simp only [hb2]
        exact hK _ _ hq
    · intro ex σ' hq
      have key : finQ p Q (keepT σ.t lt) σ'.b → finB p Q' (keepT σ.t lt) σ'.b := fun hq => by
        unfold finQ at hq
        unfold finB
        split at hq <;> try (exact hq.elim)
        all_goals
          rename_i hb2
          simp only [hb2]
          exact hk _ ⟨_, _⟩ hq
      cases ex <;> first | exact key hq | exact hq.elim
  | conv s r esz x ih =>
    intro H H' fnm prot Q Q' σ hH hp hk h
    simp only [bwp] at h
    simp only [awp]
    split at h <;> try (exact h.elim)
    rename_i cs hs hf
    simp only [hs, hf]
    exact ih (σ := ⟨σ.t, upd (upd σ.b r (.row esz [])) s (.var (.row r 0 0 0 :: cs))⟩) hH hp hk h
  | exit id => intro H H' fnm prot Q Q' σ hH hp hk h; exact hk _ _ h
  | ret => intro H H' fnm prot Q Q' σ hH hp hk h; exact hk _ _ h
  | bad => intro H H' fnm prot Q Q' σ hH hp hk h; exact h.elim

/-- **A loop**, its states named by what they are of. -/
theorem loopB {body : QB → (Nat → AC) → (Nat → ABlk) → Prop} {lt ls : List Nat} {Q : QB} {t : Nat → AC} {b : Nat → ABlk}
    {α : Type} (st : α → St) (inv : α → Prop) (μ : α → Nat) (a0 : α) (h0 : St.forget ⟨t, b⟩ lt ls = st a0) (i0 : inv a0)
    (step : ∀ a, inv a → body (fun e t' b' => match e with | .normal => ∃ a', St.forget ⟨t', b'⟩ lt ls = st a' ∧ inv a' ∧ μ a' < μ a | e => Q e t' b') (st a).t (st a).b) : LoopB body lt ls Q t b := ⟨α, st, inv, μ, a0, h0, i0, step⟩

/-- **A function's contract out of its body, for working out.** -/
theorem pureFn_by {P : Program} {g : FuncId} {fn : Func} {rs : List RV} {code : ACode} {args : List D} {res : D} (hf : P.funcs[g]? = some fn) (hc : chkF P fn rs code = true) (hp : plainC code = true) (hn : Nat.ble args.length fn.ntmps = true)
    (h : bwp P noH true [] code (fun e t b => match e with | .normal => resA rs ⟨t, b⟩ = some res | .ret => resA rs ⟨t, b⟩ = some res | _ => False) (iniT args) (fun _ => .fresh)) : PureFn P g args res :=
  pureFn_of hf hc (Nat.le_of_ble_eq_true hn) (bwp_awp (σ := ⟨iniT args, fun _ => .fresh⟩) noH_le hp (fun e σ' h => h) h)

/-- **What a call does that turns slots, out of its body, for working out.** -/
theorem impFn_by {P : Program} {g : FuncId} {fn : Func} {rs : List RV} {code : ACode} {args : List AC} {H : Hand} {ls : List Nat} {b : Nat → ABlk} {K : AC → (Nat → ABlk) → Prop} (hH : HLe H H) (hf : P.funcs[g]? = some fn) (hc : chkF P fn rs code = true) (hp : plainC code = true) (hn : Nat.ble args.length fn.ntmps = true)
    (h : bwp P H false ls code (fun e t b => match e with | .normal => endI rs ls K ⟨t, b⟩ | .ret => endI rs ls K ⟨t, b⟩ | _ => False) (iniC args) b) : ImpFn P H ls g args b K :=
  impFn_of hf hc (Nat.le_of_ble_eq_true hn) (bwp_awp (H := H) (H' := H) (σ := ⟨iniC args, b⟩) hH hp (fun e σ' h => h) h)

/-- **A function's contract out of its body, its result in new memory, for working out.** -/
theorem fnNew_by {P : Program} {g : FuncId} {fn : Func} {n : Nat} {code : ACode} {args : List D} {res : D} (hf : P.funcs[g]? = some fn) (hc : chkF P fn [.t n] code = true) (hp : plainC code = true) (hn : Nat.ble args.length fn.ntmps = true)
    (h : bwp P noH true [] code (fun e t b => match e with | .normal => newD ⟨t, b⟩ (t n) = some res | .ret => newD ⟨t, b⟩ (t n) = some res | _ => False) (iniT args) (fun _ => .fresh)) : FnNew P g args res :=
  fnNew_of hf hc (Nat.le_of_ble_eq_true hn) (bwp_awp (σ := ⟨iniT args, fun _ => .fresh⟩) noH_le hp (fun e σ' h => h) h)
attribute [irreducible] LoopB
end Go.AM
