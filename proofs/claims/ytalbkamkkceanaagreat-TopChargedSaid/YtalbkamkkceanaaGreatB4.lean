/- The lines of a batch, part 1: lines of factors. No condition. -/
import Derived.Test.YtalbkamkkceanaaGreatB3
set_option linter.unusedVariables false
set_option linter.unusedSimpArgs false
set_option maxRecDepth 100000
set_option maxHeartbeats 4000000
namespace Go.Proofs.YtalbkamkkceanaaGreatG
open Go Go.AM Go.Proofs

/-- A batch that may be, as far as its lines need it. -/
structure Bf (b : Bat) : Prop where
  sb : Sb b
  no : 1 ≤ b.oxides.length ∧ b.oxides.length ≤ 12
  nm : 1 ≤ b.mats.length ∧ b.mats.length ≤ 12
  ns : b.shares.length = b.oxides.length
  np : b.props.length ≤ 6
  mat : ∀ m ∈ b.mats, 0 ≤ m.price ∧ m.price ≤ 10000 ∧ -1000 ≤ m.redox ∧ m.redox ≤ 1000 ∧ 0 ≤ m.least ∧ m.least ≤ m.most ∧ m.most ≤ 10000 ∧ 1 ≤ m.step ∧ m.step ≤ 10000 ∧ m.content.length = b.oxides.length ∧
    (∀ s ∈ m.content, 0 ≤ s.1 ∧ s.1 ≤ s.2 ∧ s.2 ≤ 1000) ∧ lowSum m.content ≤ 1000
  share : ∀ s ∈ b.shares, 0 ≤ s.1 ∧ s.1 ≤ s.2 ∧ s.2 ≤ 1000
  pty : ∀ p ∈ b.props, p.coefs.length = b.oxides.length ∧ (∀ c ∈ p.coefs, -10000 ≤ c ∧ c ≤ 10000) ∧ -10000 ≤ p.target.1 ∧ p.target.1 ≤ p.target.2 ∧ p.target.2 ≤ 10000
  redox : -10000 ≤ b.redox.1 ∧ b.redox.1 ≤ b.redox.2 ∧ b.redox.2 ≤ 10000
  wanted : 1 ≤ b.wanted ∧ b.wanted ≤ 10000
theorem any_not {α : Type} {p : α → Bool} {xs : List α} (h : (xs.any fun x => !p x) = false) : ∀ x ∈ xs, p x = true := fun x hx => by
  rw [List.any_eq_false] at h
  have := h x hx
  simpa using this
theorem firstE_all {α : Type} {e : Nat → α → Int} {xs : List α} (h : firstE e xs 0 = 0) {x : α} (hx : x ∈ xs) : ∃ i, xs[i]? = some x ∧ e i x = 0 := by
  obtain ⟨i, hi, rfl⟩ := List.mem_iff_getElem.1 hx
  refine ⟨i, by simp [hi], ?_⟩
  have := firstE_zero h i xs[i] (by simp [hi])
  simpa using this
theorem bf_of {b : Bat} (sb : Sb b) (h : batE b = 0) : Bf b := by
  unfold batE at h
  split at h
  · rename_i h1; exact absurd h h1
  rename_i h1
  have h1 := Decidable.not_not.1 h1
  split at h
  · rename_i h2; exact absurd h h2
  rename_i h2
  have h2 := Decidable.not_not.1 h2
  split at h
  · cases h
  rename_i h3
  split at h
  · cases h
  rename_i h4
  split at h
  · rename_i h5; exact absurd h h5
  rename_i h5
  have h5 := Decidable.not_not.1 h5
  split at h
  · cases h
  rename_i h6
  simp only [Bool.or_eq_true, Bool.not_eq_true', not_or, Bool.not_eq_false, decide_eq_false_iff_not, Decidable.not_not] at h3 h6
  have h3b := any_not (p := fun s => spanF s 0 1000) (by simpa using h3.2)
  unfold oxidesE at h1
  split at h1
  · cases h1
  rename_i o1
  split at h1
  · cases h1
  rename_i o2
  unfold matsE at h2
  split at h2
  · cases h2
  rename_i m1
  split at h2
  · cases h2
  rename_i m2
  refine ⟨sb, ⟨by omega, by omega⟩, ⟨by omega, by omega⟩, by omega, by omega, fun m hm => ?_, fun s hs => ?_, fun p hp => ?_, ?_, ?_⟩
  · obtain ⟨i, _, e⟩ := firstE_all h2 hm
    unfold mtE at e
    split at e
    · cases e
    split at e
    · cases e
    unfold matE at e
    split at e
    · cases e
    rename_i e1
    split at e
    · cases e
    rename_i e2
    split at e
    · cases e
    rename_i e3
    simp only [matBad, Bool.or_eq_true, Bool.not_eq_true', not_or, Bool.not_eq_false, decide_eq_false_iff_not, Decidable.not_not, within_iff] at e1
    have e2b := any_not (p := fun s => spanF s 0 1000) (by simpa using e2)
    obtain ⟨⟨⟨⟨⟨a1, a2⟩, a3⟩, a4⟩, a5⟩, a6⟩ := e1
    exact ⟨a1.1, a1.2, a2.1, a2.2, a3.1, a4.1, a4.2, a5.1, a5.2, by omega, fun s hs => spanF_iff.1 (e2b s hs), by omega⟩
  · exact spanF_iff.1 (h3b s hs)
  · obtain ⟨i, _, e⟩ := firstE_all h5 hp
    unfold ptE at e
    split at e
    · cases e
    split at e
    · cases e
    unfold ptyE at e
    split at e
    · cases e
    rename_i e1
    simp only [Bool.or_eq_true, Bool.not_eq_true', not_or, Bool.not_eq_false, decide_eq_false_iff_not, Decidable.not_not] at e1
    obtain ⟨⟨a1, a2⟩, a3⟩ := e1
    have a2b := any_not (p := coefOk) (by simpa using a2)
    exact ⟨by omega, fun c hc => within_iff.1 (a2b c hc), spanF_iff.1 a3⟩
  · exact spanF_iff.1 h6.1
  · exact within_iff.1 h6.2
@[reducible] def lineL (l : List Int × Int) : List D := [rowD l.1, int l.2]
@[reducible] def linesD (l : List (List Int × Int)) : D := .list (l.map lineL)
def highSum (l : List (Int × Int)) : Int := (l.map (·.2)).sum
theorem highSum_at {l : List (Int × Int)} {i : Nat} {x : Int × Int} (h : l[i]? = some x) : highSum (l.drop i) = x.2 + highSum (l.drop (i + 1)) := by
  rw [drop_at h]; simp [highSum]
/-- A content whose spans are such. -/
def Con (l : List (Int × Int)) : Prop := l.length ≤ 12 ∧ ∀ s ∈ l, 0 ≤ s.1 ∧ s.1 ≤ s.2 ∧ s.2 ≤ 1000
theorem ends_ok (m : Mat) (hc : Con m.content) : PureFn Tryz.prog 72 [.agg (matL m)] (.tup [int (lowSum m.content), int (highSum m.content)]) := by
  have hcl := hc.1
  refine pureFn_by Tryz.func72 k72 rfl rfl ?_
  obtain ⟨A, hA⟩ : ∃ A, lowSum m.content = A := ⟨_, rfl⟩
  obtain ⟨B, hB⟩ : ∃ B, highSum m.content = B := ⟨_, rfl⟩
  rw [hA, hB]
  conv => whnf
  refine loopB (fun (x : Int × Int × Int) => ⟨mkT [(2, .d (int x.2.1)), (3, .d (int x.2.2)), (7, .d (pairsD m.content)), (8, .d (int (m.content.map i2).length)), (9, .d (int x.1))], mkB []⟩)
    (fun x => ∃ k : Nat, x.1 = k ∧ k ≤ m.content.length ∧ x.2.1 + lowSum (m.content.drop k) = A ∧ x.2.2 + highSum (m.content.drop k) = B ∧ 0 ≤ x.2.1 ∧ x.2.1 ≤ 1000 * (k : Int) ∧ 0 ≤ x.2.2 ∧ x.2.2 ≤ 1000 * (k : Int)) (fun x => (m.content.length - x.1).toNat) (0, 0, 0) (by kernel_rfl)
    ⟨0, rfl, by omega, by simpa using hA, by simpa using hB, by simp, by simp, by simp, by simp⟩ ?_
  rintro ⟨_, lo, hi⟩ ⟨k, rfl, hk, h1, h2, a0, a1, b0, b1⟩
  simp only at h1 h2 a0 a1 b0 b1
  conv => whnf
  cases c1 : decide ((k : Int) < ((m.content.map i2).length : Int))
  · have hk' : k = m.content.length := by have := of_decide_eq_false c1; rw [List.length_map] at this; omega
    rw [hk', drop_end] at h1 h2
    have h1 : lo = A := by simpa [lowSum] using h1
    have h2 : hi = B := by simpa [highSum] using h2
    rw [← h1, ← h2]
    conv => whnf
    kernel_rfl
  · have hk' : k < m.content.length := by have := of_decide_eq_true c1; rw [List.length_map] at this; omega
    obtain ⟨s, hs⟩ := get_lt hk'
    have hsr := hc.2 s (List.mem_of_getElem? hs)
    rw [lowSum_at hs] at h1
    rw [highSum_at hs] at h2
    have e1 : IntKind.wrap .i64 (lo + s.1) = lo + s.1 := wr_eq (by omega)
    have e2 : IntKind.wrap .i64 (hi + s.2) = hi + s.2 := wr_eq (by omega)
    conv => whnf
    refine ⟨by omega, _, (by first | exact gm (by assumption) | exact gz (by assumption)), ?_⟩
    conv => whnf
    exact ⟨(IntKind.wrap .i64 ((k : Int) + 1), IntKind.wrap .i64 (lo + s.1), IntKind.wrap .i64 (hi + s.2)), by kernel_rfl, ⟨k + 1, nx (by omega), by omega, by simp only; rw [e1]; omega, by simp only; rw [e2]; omega, by simp only; rw [e1]; omega, by simp only; rw [e1]; omega, by simp only; rw [e2]; omega, by simp only; rw [e2]; omega⟩, by simp only; rw [nx (by omega)]; omega⟩
/-- The sum of the greater ends. -/
def greatL (d : Nat → Int) : List (Int × Int) → Nat → Int
  | [], _ => 0
  | s :: l, i => max (d i * s.1) (d i * s.2) + greatL d l (i + 1)
theorem mul_bound {d s B : Int} (hd : -B ≤ d ∧ d ≤ B) (hs : 0 ≤ s ∧ s ≤ 1000) : -(B * 1000) ≤ d * s ∧ d * s ≤ B * 1000 := by
  have hB : 0 ≤ B := by omega
  constructor
  · have h1 : -B * s ≤ d * s := Int.mul_le_mul_of_nonneg_right hd.1 hs.1
    have h2 : B * s ≤ B * 1000 := Int.mul_le_mul_of_nonneg_left hs.2 hB
    have h3 : -B * s = -(B * s) := Int.neg_mul _ _
    omega
  · have h1 : d * s ≤ B * s := Int.mul_le_mul_of_nonneg_right hd.2 hs.1
    have h2 : B * s ≤ B * 1000 := Int.mul_le_mul_of_nonneg_left hs.2 hB
    omega
theorem greatest_ok (m : Mat) (hc : Con m.content) (g : FuncId) (caps : List D) (d : Nat → Int) (hd : ∀ i, i < m.content.length → -40000 ≤ d i ∧ d i ≤ 40000) (hg : ∀ i : Nat, i < m.content.length → PureFn Tryz.prog g (int (i : Int) :: caps) (int (d i))) :
    PureFn Tryz.prog 75 [.agg (matL m), .clo g [] caps] (int (greatL d m.content 0)) := by
  have hcl := hc.1
  refine pureFn_by Tryz.func75 k75 rfl rfl ?_
  obtain ⟨A, hA⟩ : ∃ A, greatL d m.content 0 = A := ⟨_, rfl⟩
  rw [hA]
  conv => whnf
  refine loopB (fun (x : Int × Int) => ⟨mkT [(1, .d (.clo g [] caps)), (5, .d (int x.2)), (9, .d (pairsD m.content)), (10, .d (int (m.content.map i2).length)), (11, .d (int x.1))], mkB []⟩)
    (fun x => ∃ k : Nat, x.1 = k ∧ k ≤ m.content.length ∧ x.2 + greatL d (m.content.drop k) k = A ∧ -40000000 * (k : Int) ≤ x.2 ∧ x.2 ≤ 40000000 * (k : Int)) (fun x => (m.content.length - x.1).toNat) (0, 0) (by kernel_rfl) ⟨0, rfl, by omega, by simpa using hA, by simp, by simp⟩ ?_
  rintro ⟨_, acc⟩ ⟨k, rfl, hk, h1, a0, a1⟩
  simp only at h1 a0 a1
  conv => whnf
  cases c1 : decide ((k : Int) < ((m.content.map i2).length : Int))
  · have hk' : k = m.content.length := by have := of_decide_eq_false c1; rw [List.length_map] at this; omega
    rw [hk', drop_end] at h1
    have h1 : acc = A := by simpa [greatL] using h1
    rw [← h1]
    conv => whnf
    kernel_rfl
  · have hk' : k < m.content.length := by have := of_decide_eq_true c1; rw [List.length_map] at this; omega
    obtain ⟨s, hs⟩ := get_lt hk'
    have hsr := hc.2 s (List.mem_of_getElem? hs)
    have hdk := hd k hk'
    have m1 := mul_bound (B := 40000) hdk (s := s.1) (by omega)
    have m2 := mul_bound (B := 40000) hdk (s := s.2) (by omega)
    rw [drop_at hs, greatL] at h1
    have e1 : IntKind.wrap .i64 (d k * s.1) = d k * s.1 := wr_eq (by omega)
    have e2 : IntKind.wrap .i64 (d k * s.2) = d k * s.2 := wr_eq (by omega)
    have e3 : IntKind.wrap .i64 (acc + max (IntKind.wrap .i64 (d k * s.1)) (IntKind.wrap .i64 (d k * s.2))) = acc + max (d k * s.1) (d k * s.2) := by rw [e1, e2]; exact wr_eq (by omega)
    conv => whnf
    refine ⟨by omega, _, (by first | exact gm (by assumption) | exact gz (by assumption)), ?_⟩
    conv => whnf
    refine ⟨_, hg k hk', ?_⟩
    conv => whnf
    refine ⟨_, hg k hk', ?_⟩
    conv => whnf
    exact ⟨(IntKind.wrap .i64 ((k : Int) + 1), IntKind.wrap .i64 (acc + max (IntKind.wrap .i64 (d k * s.1)) (IntKind.wrap .i64 (d k * s.2)))), by kernel_rfl, ⟨k + 1, nx (by omega), by omega, by simp only; rw [e3]; omega, by simp only; rw [e3]; omega, by simp only; rw [e3]; omega⟩, by simp only; rw [nx (by omega)]; omega⟩
/-- A line: what each material comes to. -/
theorem line_ok (b : Bat) (hb : Bf b) (bound : Int) (g : FuncId) (caps : List D) (f : Mat → Int) (hg : ∀ m ∈ b.mats, PureFn Tryz.prog g (.agg (matL m) :: caps) (int (f m))) :
    PureFn Tryz.prog 70 [batD b, int bound, .clo g [] caps] (.agg (lineL (b.mats.map f, bound))) := by
  have hnm := hb.nm
  refine pureFn_by Tryz.func70 k70 rfl rfl ?_
  conv => whnf
  refine loopB (fun (x : Int × List (List D) × Nat) => ⟨mkT [(2, .d (.clo g [] caps)), (6, .ptr 1 0), (7, .ptr 2 0), (13, .d (.list (b.mats.map matL))), (14, .d (int (b.mats.map matL).length)), (15, .d (int x.1))], mkB [(1, .var [.d (.v (.slice none 0 0)), .d (int 0)]), (2, .var [.row 4 0 x.2.2 x.2.2, .d (int bound)]), (4, .row 1 x.2.1)]⟩)
    (fun x => ∃ k : Nat, x.1 = k ∧ k ≤ b.mats.length ∧ x.2.1 = ((b.mats.take k).map f).map i1 ∧ x.2.2 = x.2.1.length) (fun x => (b.mats.length - x.1).toNat) (0, [], 0) (by kernel_rfl) ⟨0, rfl, by omega, rfl, rfl⟩ ?_
  rintro ⟨_, els, n⟩ ⟨k, rfl, hk, he, hn⟩
  simp only at he hn
  conv => whnf
  cases c1 : decide ((k : Int) < ((b.mats.map matL).length : Int))
  · have hk' : k = b.mats.length := by have := of_decide_eq_false c1; rw [List.length_map] at this; omega
    rw [hk', List.take_length] at he
    conv => whnf
    refine cond_intro (by show (true && ((n == els.length) && true)) = true; simp [hn]) ?_
    conv => whnf
    have fin : ∀ σ : St, σ.t 6 = .ptr 1 0 → σ.b 1 = .var [.row 4 0 n n, .d (int bound)] → σ.b 4 = .row 1 els → resA [.c 6 (.agg 2)] σ = some (.agg (lineL (b.mats.map f, bound))) := fun σ h1 h2 h3 => by
      subst hn
      simp [resA, readRV, h1, h2, snap, h3, he, List.take_of_length_le]
    exact fin _ rfl rfl rfl
  · have hk' : k < b.mats.length := by have := of_decide_eq_true c1; rw [List.length_map] at this; omega
    obtain ⟨m, hm⟩ := get_lt hk'
    have hel : els.length = k := by rw [he]; simp; omega
    have htk : b.mats.take (k + 1) = b.mats.take k ++ [m] := by rw [List.take_add_one, hm]; rfl
    conv => whnf
    refine ⟨by omega, _, (by first | exact gm (by assumption) | exact gz (by assumption)), ?_⟩
    conv => whnf
    refine ⟨_, hg m (List.mem_of_getElem? hm), ?_⟩
    conv => whnf
    refine ⟨rfl, rfl, hn, most_le (by simp; omega), ?_⟩
    conv => whnf
    refine cond_intro (by show (true && ((els.length + 1 == (els ++ [[int (f m)]]).length) && true)) = true; simp) ?_
    conv => whnf
    exact ⟨(IntKind.wrap .i64 ((k : Int) + 1), els ++ [[int (f m)]], els.length + 1), by kernel_rfl, ⟨k + 1, nx (by omega), by omega, by rw [he, htk]; simp, by simp⟩, by simp only; rw [nx (by omega)]; omega⟩
end Go.Proofs.YtalbkamkkceanaaGreatG
