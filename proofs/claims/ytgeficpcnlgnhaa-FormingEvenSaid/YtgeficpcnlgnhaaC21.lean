/- How close two lists of stretches come, with what is looked at first. No condition. -/
import Derived.Test.YtgeficpcnlgnhaaC20
set_option linter.unusedVariables false
set_option linter.unusedSimpArgs false
set_option maxRecDepth 100000
set_option maxHeartbeats 4000000
namespace Go.Proofs.YtgeficpcnlgnhaaG
open Go Go.AM Go.Proofs

/-- May a stretch be handed in? -/
def gokF (cycle : Int) (x : Str) : Bool := mayF x.1 && (mayF x.2 && (!decide (x.1.1 < 0) && (!decide (0 < compareF x.2 (cycle, 1)) && !decide (0 < compareF x.1 x.2))))
def okCy (cycle shift : Int) : Bool := withinF cycle 1 3600 && withinF shift 0 (wr (cycle - 1))
def GapR (cycle : Int) (a b : List Str) (shift : Int) : (Int × Int) × Bool × Int :=
  if (okCy cycle shift && (a.all (gokF cycle) && b.all (gokF cycle))) = true then ((gapF cycle shift a b).1, !(gapF cycle shift a b).2, 0) else ((0, 0), false, 1)
@[reducible] def gpD (x : (Int × Int) × Bool × Int) : D := .tup [ratD x.1, boolD x.2.1, int x.2.2]

theorem mayF_spec {r : Int × Int} (h : mayF r = true) : 1 ≤ r.2 ∧ r.2 ≤ 1000000 ∧ Int.gcd r.1 r.2 = 1 := by
  simp only [mayF, withinF, Bool.and_eq_true, decide_eq_true_eq] at h
  obtain ⟨⟨h1, h2⟩, h3⟩ := h
  rw [divisorF_gcd h1 ⟨by omega, by omega⟩] at h3
  exact ⟨h1, h2, by omega⟩
theorem cmpF_pos {a b : Int} : 0 < cmpF a b ↔ b < a := by
  unfold cmpF
  split
  · constructor <;> intro <;> omega
  · split <;> constructor <;> intro <;> omega
theorem cmpF_negv {a b : Int} : cmpF a b < 0 ↔ a < b := by
  unfold cmpF
  split
  · constructor <;> intro <;> omega
  · split <;> constructor <;> intro <;> omega
/-- A stretch that may be handed in: its numbers, and that it does not end before it begins. -/
theorem gokF_spec {cycle : Int} {x : Str} (h1 : I64 x.1.1) (h2 : I64 x.2.1) (hc : 1 ≤ cycle ∧ cycle ≤ 3600) (h : gokF cycle x = true) :
    Gd x ∧ x.1.1 * x.2.2 ≤ x.2.1 * x.1.2 ∧ x.2.1 ≤ cycle * x.2.2 ∧ Int.gcd x.1.1 x.1.2 = 1 ∧ Int.gcd x.2.1 x.2.2 = 1 := by
  simp only [gokF, Bool.and_eq_true, Bool.not_eq_true', decide_eq_false_iff_not] at h
  obtain ⟨m1, m2, p, q, r⟩ := h
  obtain ⟨d1, d2, g1⟩ := mayF_spec m1
  obtain ⟨e1, e2, g2⟩ := mayF_spec m2
  rw [compareF_eq ⟨h2, e1, by omega, by omega⟩ ⟨by simp only; exact ⟨by omega, by omega⟩, by simp, by simp [I64]⟩, cmpF_pos] at q
  rw [compareF_eq ⟨h1, d1, by omega, by omega⟩ ⟨h2, e1, by omega, by omega⟩, cmpF_pos] at r
  simp only at q
  have t1 : x.2.1 ≤ cycle * x.2.2 := by omega
  have m := mul_bd (x := cycle) (y := x.2.2) (A := 3600) (B := 1000000) ⟨by omega, by omega⟩ ⟨by omega, by omega⟩
  have k0 : 0 ≤ x.1.1 * x.2.2 := Int.mul_nonneg (by omega) (by omega)
  have t0 : 0 ≤ x.2.1 := by
    by_cases hn : x.2.1 < 0
    · have := Int.mul_neg_of_neg_of_pos hn (show 0 < x.1.2 by omega); omega
    · omega
  have f1 : x.1.1 ≤ 3600000000 := by
    by_cases hn : 3600000000 < x.1.1
    · exfalso
      have a1 : x.1.1 * x.2.2 ≤ cycle * x.2.2 * x.1.2 := Int.le_trans (by omega) (Int.mul_le_mul_of_nonneg_right t1 (by omega))
      rw [Int.mul_assoc, Int.mul_comm x.2.2, ← Int.mul_assoc] at a1
      have a2 : x.1.1 ≤ cycle * x.1.2 := Int.le_of_mul_le_mul_right a1 (by omega)
      have m2 := mul_bd (x := cycle) (y := x.1.2) (A := 3600) (B := 1000000) ⟨by omega, by omega⟩ ⟨by omega, by omega⟩
      omega
    · omega
  exact ⟨⟨⟨by omega, f1⟩, ⟨t0, by omega⟩, ⟨d1, d2⟩, ⟨e1, e2⟩⟩, by omega, t1, g1, g2⟩

theorem red_red {r : Int × Int} (h : 1 ≤ r.2) : red (red r) = red r := by
  have g : Int.gcd (red r).1 (red r).2 = 1 := by
    unfold red
    have := gcd_pos (n := r.1) h
    exact Int.gcd_ediv_gcd_ediv_gcd (by omega)
  conv => lhs; rw [red]
  rw [g]; simp

/-- How a list of stretches lies in a slot: nil as long as there is none. -/
def RowOf (s : Nat) (l : List Str) (c : AC) (b : ABlk) : Prop := (l = [] ∧ c = .d (.v (.slice none 0 0)) ∧ b = .fresh) ∨ (l ≠ [] ∧ c = .row s 0 l.length l.length ∧ b = .row 4 (l.map strL))

/-- Arguments that read alike. -/
theorem pureFn_args {P : Program} {g : FuncId} {args args' : List D} {res : D} (hl : args'.length = args.length)
    (h : ∀ j (hj : j < args.length) (hj' : j < args'.length) (ok : Nat → Prop) (w : World) (v : Value), RelD ok w (args'[j]) v → RelD ok w (args[j]) v) (hP : PureFn P g args res) : PureFn P g args' res :=
  ⟨hP.1, fun ok w vs hz hR => hP.2 ok w vs (hz.trans hl) fun j hj => h j hj (by omega) ok w _ (hR j (by omega))⟩
/-- How a list of stretches is handed on. -/
def SD (l : List Str) (d : D) : Prop := d = strsD l ∨ (l = [] ∧ d = .v (.slice none 0 0))
theorem SD.rel {l : List Str} {d : D} (h : SD l d) {ok : Nat → Prop} {w : World} {v : Value} (hr : RelD ok w d v) : RelD ok w (strsD l) v := by
  rcases h with rfl | ⟨rfl, rfl⟩
  · exact hr
  · cases hr; exact .empty none 0
theorem call4 {t : Nat → AC} {b : Nat → ABlk} {o1 o2 o3 o4 : Opnd} {d1 d2 d3 d4 : D} (h1 : snap b 4 (evO t o1) = some d1) (h2 : snap b 4 (evO t o2) = some d2) (h3 : snap b 4 (evO t o3) = some d3) (h4 : snap b 4 (evO t o4) = some d4) :
    ([o1, o2, o3, o4].map (evO t)).mapM (snap b 4) = some [d1, d2, d3, d4] := by
  simp [List.mapM_cons, h1, h2, h3, h4]

/-- A quotient in lowest terms. -/
structure Lw (r : Int × Int) : Prop where
  ri : RI r
  g : Int.gcd r.1 r.2 = 1
theorem told_lw {r : Int × Int} (h : Lw r) : PureFn Try.prog 29 [ratD r] (ratD r) := by
  have := told_ok r (by rw [divisorF_gcd h.ri.d h.ri.i, h.g]; decide)
  rw [lowestF_red h.ri.n h.ri.d h.ri.i] at this
  have e : red r = r := by unfold red; rw [h.g]; simp
  rwa [e] at this
theorem lw_zero : Lw (0, 1) := ⟨⟨by simp [I64], by simp, by simp [I64]⟩, by simp⟩
theorem lw_minus {r s : Int × Int} (hr : Bd r) (hs : Bd s) : Lw (minusE r s) := by
  obtain ⟨m0, m3, m1, m2⟩ := minus_bd hr hs
  have g := gcd_pos (n := r.1 * s.2 - s.1 * r.2) (d := r.2 * s.2) (by omega)
  have gl := gcd_le (n := r.1 * s.2 - s.1 * r.2) (d := r.2 * s.2) (by omega)
  unfold minusE
  refine ⟨⟨ediv_i64 (by unfold I64; simp only; omega) g, ?_, ediv_i64 (by unfold I64; simp only; omega) g⟩, ?_⟩
  · unfold red; simp only
    exact Int.le_ediv_of_mul_le (by omega) (by omega)
  · unfold red; simp only
    exact Int.gcd_ediv_gcd_ediv_gcd (by omega)
theorem maxStep_of {p : Int × Int → Prop} {m x : Int × Int} (hm : p m) (hx : p x) : p (maxStep m x) := by unfold maxStep; split <;> assumption
theorem minR_of {p : Int × Int → Prop} : ∀ (l : List (Int × Int)) {r : Int × Int}, p r → (∀ x ∈ l, p x) → p (minR r l)
  | [], r, hr, _ => hr
  | x :: l, r, hr, h => minR_of l (r := minStep r x) (by unfold minStep; split; exact h x (by simp); exact hr) fun y hy => h y (by simp [hy])
theorem lw_far {x y : Str} {n : Int} (hx : Gd x) (hy : Gd y) (hn : -15000 ≤ n ∧ n ≤ 15000) : Lw (farE x y n) := by
  have p1 := (plusE_eq hy.f hy.fd hn).2
  have p2 := (plusE_eq hy.t hy.td hn).2
  have by1 : Bd x.1 := ⟨by have := hx.f; omega, hx.fd⟩
  have by2 : Bd x.2 := ⟨by have := hx.t; omega, hx.td⟩
  exact maxStep_of (maxStep_of lw_zero (lw_minus p1 by2)) (lw_minus by1 p2)
theorem turns_bd {cycle shift : Int} (hc : 1 ≤ cycle ∧ cycle ≤ 3600) (hs : 0 ≤ shift ∧ shift < cycle) {k : Int} (hk : k ∈ turnsOf 5) : -15000 ≤ shift + k * cycle ∧ shift + k * cycle ≤ 15000 := by
  simp only [turnsOf, List.mem_map, List.mem_range] at hk
  obtain ⟨n, hn, rfl⟩ := hk
  have := mul_bd (x := (n : Int) - 2) (y := cycle) (A := 2) (B := 3600) ⟨by omega, by omega⟩ ⟨by omega, by omega⟩
  omega
theorem lw_fars {cycle shift : Int} {a b : List Str} (hc : 1 ≤ cycle ∧ cycle ≤ 3600) (hs : 0 ≤ shift ∧ shift < cycle) (ha : ∀ x ∈ a, Gd x) (hb : ∀ x ∈ b, Gd x) : ∀ r ∈ farsA cycle shift a b, Lw r := by
  intro r hr
  simp only [farsA, farsB, fars, List.mem_flatMap, List.mem_map] at hr
  obtain ⟨x, hx, y, hy, k, hk, rfl⟩ := hr
  exact lw_far (ha x hx) (hb y hy) (turns_bd hc hs hk)
theorem lw_gap {cycle shift : Int} {a b : List Str} (hc : 1 ≤ cycle ∧ cycle ≤ 3600) (hs : 0 ≤ shift ∧ shift < cycle) (ha : ∀ x ∈ a, Gd x) (hb : ∀ x ∈ b, Gd x) : Lw (gapF cycle shift a b).1 := by
  have h := lw_fars hc hs ha hb
  unfold gapF
  cases hf : farsA cycle shift a b with
  | nil => exact lw_zero
  | cons r l =>
    rw [hf] at h
    simp only
    split
    · exact lw_zero
    · exact minR_of l (h r (by simp)) fun x hx => h x (by simp [hx])

theorem Gap_ok (cycle : Int) (a b : List Str) (shift : Int) (ia : ∀ x ∈ a, I64 x.1.1 ∧ I64 x.2.1) (ib : ∀ x ∈ b, I64 x.1.1 ∧ I64 x.2.1) (la : a.length ≤ 100) (lb : b.length ≤ 100) :
    PureFn Try.prog 14 [int cycle, strsD a, strsD b, int shift] (gpD (GapR cycle a b shift)) := by
  refine pureFn_by Try.func14 k14 rfl rfl ?_
  conv => whnf
  refine ⟨_, within_ok _ _ _, ?_⟩
  conv => whnf
  cases h1 : withinF cycle 1 3600
  · rw [show GapR cycle a b shift = ((0, 0), false, 1) by unfold GapR okCy; rw [h1]; rfl]
    rfl
  conv => whnf
  refine ⟨_, within_ok _ _ _, ?_⟩
  conv => whnf
  cases h2 : withinF shift 0 (IntKind.wrap .i64 (cycle - 1))
  · rw [show GapR cycle a b shift = ((0, 0), false, 1) by unfold GapR okCy wr; rw [h2, Bool.and_false]; rfl]
    rfl
  have hcy : (1 ≤ cycle ∧ cycle ≤ 3600) := by simpa [withinF] using h1
  have hck : okCy cycle shift = true := by unfold okCy wr; rw [h1, h2]; rfl
  have bad : ∀ y, (y ∈ a ∨ y ∈ b) → gokF cycle y = false → GapR cycle a b shift = ((0, 0), false, 1) := fun y hy h => by
    unfold GapR
    rw [if_neg]
    intro hk
    simp only [Bool.and_eq_true, List.all_eq_true] at hk
    rcases hy with hy | hy
    · have := hk.2.1 y hy; rw [h] at this; cases this
    · have := hk.2.2 y hy; rw [h] at this; cases this
  conv => whnf
  refine loopB (fun (x : Int × (AC × ABlk) × (AC × ABlk)) => ⟨mkT [(0, .d (int cycle)), (3, .d (int shift)), (8, .ptr 0 0), (11, .ptr 1 0), (32, .d (.list [[strsD a], [strsD b]])), (33, .d (int 2)), (34, .d (int x.1))],
      mkB [(0, .var [.d (int 0), .d (int 0)]), (1, .var [x.2.1.1, x.2.2.1]), (5, x.2.1.2), (6, x.2.2.2)]⟩)
    (fun x => x = (0, (.d (.v (.slice none 0 0)), .fresh), (.d (.v (.slice none 0 0)), .fresh)) ∨ (∃ c b5, x = (1, (c, b5), (.d (.v (.slice none 0 0)), .fresh)) ∧ RowOf 5 a c b5 ∧ a.all (gokF cycle) = true) ∨
      (∃ c b5 d b6, x = (2, (c, b5), (d, b6)) ∧ RowOf 5 a c b5 ∧ RowOf 6 b d b6 ∧ a.all (gokF cycle) = true ∧ b.all (gokF cycle) = true)) (fun x => (2 - x.1).toNat) (0, (.d (.v (.slice none 0 0)), .fresh), (.d (.v (.slice none 0 0)), .fresh)) (by kernel_rfl) (.inl rfl) ?_
  rintro x (rfl | ⟨c, b5, rfl, hA, oa⟩ | ⟨c, b5, d, b6, rfl, hA, hB, oa, ob⟩)
  · conv => whnf
    refine ⟨by omega, _, rfl, ?_⟩
    conv => whnf
    refine loopB (fun (x : Int × AC × ABlk) => ⟨mkT [(0, .d (int cycle)), (3, .d (int shift)), (8, .ptr 0 0), (11, .ptr 1 0), (12, .d (int 0)), (32, .d (.list [[strsD a], [strsD b]])), (33, .d (int 2)), (34, .d (int 0)), (39, .d (strsD a)), (40, .d (int (a.map strL).length)), (41, .d (int x.1))],
        mkB [(0, .var [.d (int 0), .d (int 0)]), (1, .var [x.2.1, .d (.v (.slice none 0 0))]), (5, x.2.2), (6, .fresh)]⟩)
      (fun x => ∃ j : Nat, x.1 = j ∧ j ≤ a.length ∧ RowOf 5 (a.take j) x.2.1 x.2.2 ∧ (a.take j).all (gokF cycle) = true) (fun x => (a.length - x.1).toNat) (0, .d (.v (.slice none 0 0)), .fresh) (by kernel_rfl) ⟨0, rfl, by omega, .inl ⟨by simp, rfl, rfl⟩, by simp⟩ ?_
    rintro ⟨x, c0, s0⟩ ⟨j, hx, hjl, hR, hall⟩
    simp only at hx hR
    subst hx
    rcases hR with ⟨e, rfl, rfl⟩ | ⟨e, rfl, rfl⟩
    · conv => whnf
      rw [List.length_map]
      cases c2 : decide ((j : Int) < (a.length : Int))
      · have hj : j = a.length := by have := of_decide_eq_false c2; omega
        rw [hj, List.take_length] at e hall
        conv => whnf
        refine ⟨(1, (.d (.v (.slice none 0 0)), .fresh), (.d (.v (.slice none 0 0)), .fresh)), by kernel_rfl, .inr (.inl ⟨_, _, rfl, .inl ⟨e, rfl, rfl⟩, hall⟩), by simp⟩
      · have hj : j < a.length := by have := of_decide_eq_true c2; omega
        have hw := next_big (i := j) (by omega)
        have mem : a[j] ∈ a := List.getElem_mem _
        have hg : (a.map strL)[(j : Int).toNat]? = some (strL a[j]) := by rw [Int.toNat_natCast]; simp [hj]
        have hT : a.take (j + 1) = a.take j ++ [a[j]] := List.take_succ_eq_append_getElem hj
        have hlen : (a.take j).length = j := by simp; omega
        generalize a[j] = y at mem hg hT
        have bad := bad y (.inl mem)
        conv => whnf
        refine ⟨by omega, _, hg, ?_⟩
        conv => whnf
        refine ⟨_, may_ok y.1, ?_⟩
        conv => whnf
        cases m1 : mayF y.1
        · rw [bad (by simp [gokF, m1])]
          conv => whnf
          kernel_rfl
        conv => whnf
        refine ⟨_, may_ok y.2, ?_⟩
        conv => whnf
        cases m2 : mayF y.2
        · rw [bad (by simp [gokF, m2])]
          conv => whnf
          kernel_rfl
        conv => whnf
        refine ⟨_, of_ok y.1, ?_⟩
        conv => whnf
        refine ⟨_, of_ok y.2, ?_⟩
        conv => whnf
        cases m3 : decide (y.1.1 < 0)
        case true =>
          rw [bad (by simp [gokF, of_decide_eq_true m3])]
          conv => whnf
          kernel_rfl
        conv => whnf
        refine ⟨_, whole_ok cycle, ?_⟩
        conv => whnf
        refine ⟨_, compare_ok y.2 (cycle, 1), ?_⟩
        conv => whnf
        cases m4 : decide (0 < compareF y.2 (cycle, 1))
        case true =>
          rw [bad (by simp [gokF, of_decide_eq_true m4])]
          conv => whnf
          kernel_rfl
        conv => whnf
        refine ⟨_, compare_ok y.1 y.2, ?_⟩
        conv => whnf
        cases m5 : decide (0 < compareF y.1 y.2)
        case true =>
          rw [bad (by simp [gokF, of_decide_eq_true m5])]
          conv => whnf
          kernel_rfl
        have hok : gokF cycle y = true := by simp [gokF, m1, m2, of_decide_eq_false m3, of_decide_eq_false m4, of_decide_eq_false m5]
        have hall2 : (a.take (j + 1)).all (gokF cycle) = true := by rw [hT, List.all_append, hall]; simp [hok]
        conv => whnf
        refine ⟨by omega, by omega, ?_⟩
        conv => whnf
        refine ⟨5, by simp, ?_⟩
        conv => whnf
        refine ⟨rfl, ?_⟩
        conv => whnf
        refine ⟨by simp [most], ?_⟩
        conv => whnf
        refine ⟨by omega, by omega, ?_⟩
        conv => whnf
        refine ⟨(IntKind.wrap .i64 ((j : Int) + 1), .row 5 0 1 1, .row 4 [strL y]), by kernel_rfl, ⟨j + 1, hw, hj, .inr ⟨by rw [hT]; simp, by rw [hT, e]; rfl, by rw [hT, e]; rfl⟩, hall2⟩, by simp only; rw [hw]; omega⟩
    · conv => whnf
      rw [List.length_map]
      cases c2 : decide ((j : Int) < (a.length : Int))
      · have hj : j = a.length := by have := of_decide_eq_false c2; omega
        rw [hj, List.take_length] at e hall
        conv => whnf
        refine ⟨(1, (.row 5 0 (a.take j).length (a.take j).length, .row 4 ((a.take j).map strL)), (.d (.v (.slice none 0 0)), .fresh)), by kernel_rfl, .inr (.inl ⟨_, _, rfl, .inr ⟨e, by rw [hj, List.take_length], by rw [hj, List.take_length]⟩, hall⟩), by simp⟩
      · have hj : j < a.length := by have := of_decide_eq_true c2; omega
        have hw := next_big (i := j) (by omega)
        have mem : a[j] ∈ a := List.getElem_mem _
        have hg : (a.map strL)[(j : Int).toNat]? = some (strL a[j]) := by rw [Int.toNat_natCast]; simp [hj]
        have hT : a.take (j + 1) = a.take j ++ [a[j]] := List.take_succ_eq_append_getElem hj
        have hlen : (a.take j).length = j := by simp; omega
        generalize a[j] = y at mem hg hT
        have bad := bad y (.inl mem)
        conv => whnf
        refine ⟨by omega, _, hg, ?_⟩
        conv => whnf
        refine ⟨_, may_ok y.1, ?_⟩
        conv => whnf
        cases m1 : mayF y.1
        · rw [bad (by simp [gokF, m1])]
          conv => whnf
          kernel_rfl
        conv => whnf
        refine ⟨_, may_ok y.2, ?_⟩
        conv => whnf
        cases m2 : mayF y.2
        · rw [bad (by simp [gokF, m2])]
          conv => whnf
          kernel_rfl
        conv => whnf
        refine ⟨_, of_ok y.1, ?_⟩
        conv => whnf
        refine ⟨_, of_ok y.2, ?_⟩
        conv => whnf
        cases m3 : decide (y.1.1 < 0)
        case true =>
          rw [bad (by simp [gokF, of_decide_eq_true m3])]
          conv => whnf
          kernel_rfl
        conv => whnf
        refine ⟨_, whole_ok cycle, ?_⟩
        conv => whnf
        refine ⟨_, compare_ok y.2 (cycle, 1), ?_⟩
        conv => whnf
        cases m4 : decide (0 < compareF y.2 (cycle, 1))
        case true =>
          rw [bad (by simp [gokF, of_decide_eq_true m4])]
          conv => whnf
          kernel_rfl
        conv => whnf
        refine ⟨_, compare_ok y.1 y.2, ?_⟩
        conv => whnf
        cases m5 : decide (0 < compareF y.1 y.2)
        case true =>
          rw [bad (by simp [gokF, of_decide_eq_true m5])]
          conv => whnf
          kernel_rfl
        have hok : gokF cycle y = true := by simp [gokF, m1, m2, of_decide_eq_false m3, of_decide_eq_false m4, of_decide_eq_false m5]
        have hall2 : (a.take (j + 1)).all (gokF cycle) = true := by rw [hT, List.all_append, hall]; simp [hok]
        conv => whnf
        refine ⟨by omega, by omega, ?_⟩
        conv => whnf
        refine ⟨5, by simp, ?_⟩
        conv => whnf
        refine ⟨rfl, ?_⟩
        conv => whnf
        refine ⟨rfl, by simp, by simp [most]; omega, ?_⟩
        conv => whnf
        refine ⟨by omega, by omega, ?_⟩
        conv => whnf
        refine cond_intro (by show (true && ((((a.take j).map strL).length + 1 == ((a.take j).map strL ++ [strL y]).length) && true)) = true; simp) ?_
        conv => whnf
        refine ⟨(IntKind.wrap .i64 ((j : Int) + 1), .row 5 0 (((a.take j).map strL).length + 1) (((a.take j).map strL).length + 1), .row 4 ((a.take j).map strL ++ [strL y])), by kernel_rfl, ⟨j + 1, hw, hj, .inr ⟨by rw [hT]; simp, by rw [hT]; simp, by rw [hT]; simp⟩, hall2⟩, by simp only; rw [hw]; omega⟩
  · rcases hA with ⟨eA, rfl, rfl⟩ | ⟨eA, rfl, rfl⟩
    · have hA : RowOf 5 a (.d (.v (.slice none 0 0))) (.fresh) := .inl ⟨eA, rfl, rfl⟩
      conv => whnf
      refine ⟨by omega, _, rfl, ?_⟩
      conv => whnf
      refine loopB (fun (x : Int × AC × ABlk) => ⟨mkT [(0, .d (int cycle)), (3, .d (int shift)), (8, .ptr 0 0), (11, .ptr 1 0), (12, .d (int 1)), (32, .d (.list [[strsD a], [strsD b]])), (33, .d (int 2)), (34, .d (int 1)), (39, .d (strsD b)), (40, .d (int (b.map strL).length)), (41, .d (int x.1))],
          mkB [(0, .var [.d (int 0), .d (int 0)]), (1, .var [.d (.v (.slice none 0 0)), x.2.1]), (5, .fresh), (6, x.2.2)]⟩)
        (fun x => ∃ j : Nat, x.1 = j ∧ j ≤ b.length ∧ RowOf 6 (b.take j) x.2.1 x.2.2 ∧ (b.take j).all (gokF cycle) = true) (fun x => (b.length - x.1).toNat) (0, .d (.v (.slice none 0 0)), .fresh) (by kernel_rfl) ⟨0, rfl, by omega, .inl ⟨by simp, rfl, rfl⟩, by simp⟩ ?_
      rintro ⟨x, c1, s1⟩ ⟨j, hx, hjl, hR, hall⟩
      simp only at hx hR
      subst hx
      rcases hR with ⟨e, rfl, rfl⟩ | ⟨e, rfl, rfl⟩
      · conv => whnf
        rw [List.length_map]
        cases c2 : decide ((j : Int) < (b.length : Int))
        · have hj : j = b.length := by have := of_decide_eq_false c2; omega
          rw [hj, List.take_length] at e hall
          conv => whnf
          refine ⟨(2, (.d (.v (.slice none 0 0)), .fresh), (.d (.v (.slice none 0 0)), .fresh)), by kernel_rfl, .inr (.inr ⟨_, _, _, _, rfl, hA, .inl ⟨e, rfl, rfl⟩, oa, hall⟩), by simp⟩
        · have hj : j < b.length := by have := of_decide_eq_true c2; omega
          have hw := next_big (i := j) (by omega)
          have mem : b[j] ∈ b := List.getElem_mem _
          have hg : (b.map strL)[(j : Int).toNat]? = some (strL b[j]) := by rw [Int.toNat_natCast]; simp [hj]
          have hT : b.take (j + 1) = b.take j ++ [b[j]] := List.take_succ_eq_append_getElem hj
          have hlen : (b.take j).length = j := by simp; omega
          generalize b[j] = y at mem hg hT
          have bad := bad y (.inr mem)
          conv => whnf
          refine ⟨by omega, _, hg, ?_⟩
          conv => whnf
          refine ⟨_, may_ok y.1, ?_⟩
          conv => whnf
          cases m1 : mayF y.1
          · rw [bad (by simp [gokF, m1])]
            conv => whnf
            kernel_rfl
          conv => whnf
          refine ⟨_, may_ok y.2, ?_⟩
          conv => whnf
          cases m2 : mayF y.2
          · rw [bad (by simp [gokF, m2])]
            conv => whnf
            kernel_rfl
          conv => whnf
          refine ⟨_, of_ok y.1, ?_⟩
          conv => whnf
          refine ⟨_, of_ok y.2, ?_⟩
          conv => whnf
          cases m3 : decide (y.1.1 < 0)
          case true =>
            rw [bad (by simp [gokF, of_decide_eq_true m3])]
            conv => whnf
            kernel_rfl
          conv => whnf
          refine ⟨_, whole_ok cycle, ?_⟩
          conv => whnf
          refine ⟨_, compare_ok y.2 (cycle, 1), ?_⟩
          conv => whnf
          cases m4 : decide (0 < compareF y.2 (cycle, 1))
          case true =>
            rw [bad (by simp [gokF, of_decide_eq_true m4])]
            conv => whnf
            kernel_rfl
          conv => whnf
          refine ⟨_, compare_ok y.1 y.2, ?_⟩
          conv => whnf
          cases m5 : decide (0 < compareF y.1 y.2)
          case true =>
            rw [bad (by simp [gokF, of_decide_eq_true m5])]
            conv => whnf
            kernel_rfl
          have hok : gokF cycle y = true := by simp [gokF, m1, m2, of_decide_eq_false m3, of_decide_eq_false m4, of_decide_eq_false m5]
          have hall2 : (b.take (j + 1)).all (gokF cycle) = true := by rw [hT, List.all_append, hall]; simp [hok]
          conv => whnf
          refine ⟨by omega, by omega, ?_⟩
          conv => whnf
          refine ⟨6, by simp, ?_⟩
          conv => whnf
          refine ⟨rfl, ?_⟩
          conv => whnf
          refine ⟨by simp [most], ?_⟩
          conv => whnf
          refine ⟨by omega, by omega, ?_⟩
          conv => whnf
          refine ⟨(IntKind.wrap .i64 ((j : Int) + 1), .row 6 0 1 1, .row 4 [strL y]), by kernel_rfl, ⟨j + 1, hw, hj, .inr ⟨by rw [hT]; simp, by rw [hT, e]; rfl, by rw [hT, e]; rfl⟩, hall2⟩, by simp only; rw [hw]; omega⟩
      · conv => whnf
        rw [List.length_map]
        cases c2 : decide ((j : Int) < (b.length : Int))
        · have hj : j = b.length := by have := of_decide_eq_false c2; omega
          rw [hj, List.take_length] at e hall
          conv => whnf
          refine ⟨(2, (.d (.v (.slice none 0 0)), .fresh), (.row 6 0 (b.take j).length (b.take j).length, .row 4 ((b.take j).map strL))), by kernel_rfl, .inr (.inr ⟨_, _, _, _, rfl, hA, .inr ⟨e, by rw [hj, List.take_length], by rw [hj, List.take_length]⟩, oa, hall⟩), by simp⟩
        · have hj : j < b.length := by have := of_decide_eq_true c2; omega
          have hw := next_big (i := j) (by omega)
          have mem : b[j] ∈ b := List.getElem_mem _
          have hg : (b.map strL)[(j : Int).toNat]? = some (strL b[j]) := by rw [Int.toNat_natCast]; simp [hj]
          have hT : b.take (j + 1) = b.take j ++ [b[j]] := List.take_succ_eq_append_getElem hj
          have hlen : (b.take j).length = j := by simp; omega
          generalize b[j] = y at mem hg hT
          have bad := bad y (.inr mem)
          conv => whnf
          refine ⟨by omega, _, hg, ?_⟩
          conv => whnf
          refine ⟨_, may_ok y.1, ?_⟩
          conv => whnf
          cases m1 : mayF y.1
          · rw [bad (by simp [gokF, m1])]
            conv => whnf
            kernel_rfl
          conv => whnf
          refine ⟨_, may_ok y.2, ?_⟩
          conv => whnf
          cases m2 : mayF y.2
          · rw [bad (by simp [gokF, m2])]
            conv => whnf
            kernel_rfl
          conv => whnf
          refine ⟨_, of_ok y.1, ?_⟩
          conv => whnf
          refine ⟨_, of_ok y.2, ?_⟩
          conv => whnf
          cases m3 : decide (y.1.1 < 0)
          case true =>
            rw [bad (by simp [gokF, of_decide_eq_true m3])]
            conv => whnf
            kernel_rfl
          conv => whnf
          refine ⟨_, whole_ok cycle, ?_⟩
          conv => whnf
          refine ⟨_, compare_ok y.2 (cycle, 1), ?_⟩
          conv => whnf
          cases m4 : decide (0 < compareF y.2 (cycle, 1))
          case true =>
            rw [bad (by simp [gokF, of_decide_eq_true m4])]
            conv => whnf
            kernel_rfl
          conv => whnf
          refine ⟨_, compare_ok y.1 y.2, ?_⟩
          conv => whnf
          cases m5 : decide (0 < compareF y.1 y.2)
          case true =>
            rw [bad (by simp [gokF, of_decide_eq_true m5])]
            conv => whnf
            kernel_rfl
          have hok : gokF cycle y = true := by simp [gokF, m1, m2, of_decide_eq_false m3, of_decide_eq_false m4, of_decide_eq_false m5]
          have hall2 : (b.take (j + 1)).all (gokF cycle) = true := by rw [hT, List.all_append, hall]; simp [hok]
          conv => whnf
          refine ⟨by omega, by omega, ?_⟩
          conv => whnf
          refine ⟨6, by simp, ?_⟩
          conv => whnf
          refine ⟨rfl, ?_⟩
          conv => whnf
          refine ⟨rfl, by simp, by simp [most]; omega, ?_⟩
          conv => whnf
          refine ⟨by omega, by omega, ?_⟩
          conv => whnf
          refine cond_intro (by show (true && ((((b.take j).map strL).length + 1 == ((b.take j).map strL ++ [strL y]).length) && true)) = true; simp) ?_
          conv => whnf
          refine ⟨(IntKind.wrap .i64 ((j : Int) + 1), .row 6 0 (((b.take j).map strL).length + 1) (((b.take j).map strL).length + 1), .row 4 ((b.take j).map strL ++ [strL y])), by kernel_rfl, ⟨j + 1, hw, hj, .inr ⟨by rw [hT]; simp, by rw [hT]; simp, by rw [hT]; simp⟩, hall2⟩, by simp only; rw [hw]; omega⟩
    · have hA : RowOf 5 a (.row 5 0 a.length a.length) (.row 4 (a.map strL)) := .inr ⟨eA, rfl, rfl⟩
      conv => whnf
      refine ⟨by omega, _, rfl, ?_⟩
      conv => whnf
      refine loopB (fun (x : Int × AC × ABlk) => ⟨mkT [(0, .d (int cycle)), (3, .d (int shift)), (8, .ptr 0 0), (11, .ptr 1 0), (12, .d (int 1)), (32, .d (.list [[strsD a], [strsD b]])), (33, .d (int 2)), (34, .d (int 1)), (39, .d (strsD b)), (40, .d (int (b.map strL).length)), (41, .d (int x.1))],
          mkB [(0, .var [.d (int 0), .d (int 0)]), (1, .var [.row 5 0 a.length a.length, x.2.1]), (5, .row 4 (a.map strL)), (6, x.2.2)]⟩)
        (fun x => ∃ j : Nat, x.1 = j ∧ j ≤ b.length ∧ RowOf 6 (b.take j) x.2.1 x.2.2 ∧ (b.take j).all (gokF cycle) = true) (fun x => (b.length - x.1).toNat) (0, .d (.v (.slice none 0 0)), .fresh) (by kernel_rfl) ⟨0, rfl, by omega, .inl ⟨by simp, rfl, rfl⟩, by simp⟩ ?_
      rintro ⟨x, c1, s1⟩ ⟨j, hx, hjl, hR, hall⟩
      simp only at hx hR
      subst hx
      rcases hR with ⟨e, rfl, rfl⟩ | ⟨e, rfl, rfl⟩
      · conv => whnf
        rw [List.length_map]
        cases c2 : decide ((j : Int) < (b.length : Int))
        · have hj : j = b.length := by have := of_decide_eq_false c2; omega
          rw [hj, List.take_length] at e hall
          conv => whnf
          refine ⟨(2, (.row 5 0 a.length a.length, .row 4 (a.map strL)), (.d (.v (.slice none 0 0)), .fresh)), by kernel_rfl, .inr (.inr ⟨_, _, _, _, rfl, hA, .inl ⟨e, rfl, rfl⟩, oa, hall⟩), by simp⟩
        · have hj : j < b.length := by have := of_decide_eq_true c2; omega
          have hw := next_big (i := j) (by omega)
          have mem : b[j] ∈ b := List.getElem_mem _
          have hg : (b.map strL)[(j : Int).toNat]? = some (strL b[j]) := by rw [Int.toNat_natCast]; simp [hj]
          have hT : b.take (j + 1) = b.take j ++ [b[j]] := List.take_succ_eq_append_getElem hj
          have hlen : (b.take j).length = j := by simp; omega
          generalize b[j] = y at mem hg hT
          have bad := bad y (.inr mem)
          conv => whnf
          refine ⟨by omega, _, hg, ?_⟩
          conv => whnf
          refine ⟨_, may_ok y.1, ?_⟩
          conv => whnf
          cases m1 : mayF y.1
          · rw [bad (by simp [gokF, m1])]
            conv => whnf
            kernel_rfl
          conv => whnf
          refine ⟨_, may_ok y.2, ?_⟩
          conv => whnf
          cases m2 : mayF y.2
          · rw [bad (by simp [gokF, m2])]
            conv => whnf
            kernel_rfl
          conv => whnf
          refine ⟨_, of_ok y.1, ?_⟩
          conv => whnf
          refine ⟨_, of_ok y.2, ?_⟩
          conv => whnf
          cases m3 : decide (y.1.1 < 0)
          case true =>
            rw [bad (by simp [gokF, of_decide_eq_true m3])]
            conv => whnf
            kernel_rfl
          conv => whnf
          refine ⟨_, whole_ok cycle, ?_⟩
          conv => whnf
          refine ⟨_, compare_ok y.2 (cycle, 1), ?_⟩
          conv => whnf
          cases m4 : decide (0 < compareF y.2 (cycle, 1))
          case true =>
            rw [bad (by simp [gokF, of_decide_eq_true m4])]
            conv => whnf
            kernel_rfl
          conv => whnf
          refine ⟨_, compare_ok y.1 y.2, ?_⟩
          conv => whnf
          cases m5 : decide (0 < compareF y.1 y.2)
          case true =>
            rw [bad (by simp [gokF, of_decide_eq_true m5])]
            conv => whnf
            kernel_rfl
          have hok : gokF cycle y = true := by simp [gokF, m1, m2, of_decide_eq_false m3, of_decide_eq_false m4, of_decide_eq_false m5]
          have hall2 : (b.take (j + 1)).all (gokF cycle) = true := by rw [hT, List.all_append, hall]; simp [hok]
          conv => whnf
          refine ⟨by omega, by omega, ?_⟩
          conv => whnf
          refine ⟨6, by simp, ?_⟩
          conv => whnf
          refine ⟨rfl, ?_⟩
          conv => whnf
          refine ⟨by simp [most], ?_⟩
          conv => whnf
          refine ⟨by omega, by omega, ?_⟩
          conv => whnf
          refine ⟨(IntKind.wrap .i64 ((j : Int) + 1), .row 6 0 1 1, .row 4 [strL y]), by kernel_rfl, ⟨j + 1, hw, hj, .inr ⟨by rw [hT]; simp, by rw [hT, e]; rfl, by rw [hT, e]; rfl⟩, hall2⟩, by simp only; rw [hw]; omega⟩
      · conv => whnf
        rw [List.length_map]
        cases c2 : decide ((j : Int) < (b.length : Int))
        · have hj : j = b.length := by have := of_decide_eq_false c2; omega
          rw [hj, List.take_length] at e hall
          conv => whnf
          refine ⟨(2, (.row 5 0 a.length a.length, .row 4 (a.map strL)), (.row 6 0 (b.take j).length (b.take j).length, .row 4 ((b.take j).map strL))), by kernel_rfl, .inr (.inr ⟨_, _, _, _, rfl, hA, .inr ⟨e, by rw [hj, List.take_length], by rw [hj, List.take_length]⟩, oa, hall⟩), by simp⟩
        · have hj : j < b.length := by have := of_decide_eq_true c2; omega
          have hw := next_big (i := j) (by omega)
          have mem : b[j] ∈ b := List.getElem_mem _
          have hg : (b.map strL)[(j : Int).toNat]? = some (strL b[j]) := by rw [Int.toNat_natCast]; simp [hj]
          have hT : b.take (j + 1) = b.take j ++ [b[j]] := List.take_succ_eq_append_getElem hj
          have hlen : (b.take j).length = j := by simp; omega
          generalize b[j] = y at mem hg hT
          have bad := bad y (.inr mem)
          conv => whnf
          refine ⟨by omega, _, hg, ?_⟩
          conv => whnf
          refine ⟨_, may_ok y.1, ?_⟩
          conv => whnf
          cases m1 : mayF y.1
          · rw [bad (by simp [gokF, m1])]
            conv => whnf
            kernel_rfl
          conv => whnf
          refine ⟨_, may_ok y.2, ?_⟩
          conv => whnf
          cases m2 : mayF y.2
          · rw [bad (by simp [gokF, m2])]
            conv => whnf
            kernel_rfl
          conv => whnf
          refine ⟨_, of_ok y.1, ?_⟩
          conv => whnf
          refine ⟨_, of_ok y.2, ?_⟩
          conv => whnf
          cases m3 : decide (y.1.1 < 0)
          case true =>
            rw [bad (by simp [gokF, of_decide_eq_true m3])]
            conv => whnf
            kernel_rfl
          conv => whnf
          refine ⟨_, whole_ok cycle, ?_⟩
          conv => whnf
          refine ⟨_, compare_ok y.2 (cycle, 1), ?_⟩
          conv => whnf
          cases m4 : decide (0 < compareF y.2 (cycle, 1))
          case true =>
            rw [bad (by simp [gokF, of_decide_eq_true m4])]
            conv => whnf
            kernel_rfl
          conv => whnf
          refine ⟨_, compare_ok y.1 y.2, ?_⟩
          conv => whnf
          cases m5 : decide (0 < compareF y.1 y.2)
          case true =>
            rw [bad (by simp [gokF, of_decide_eq_true m5])]
            conv => whnf
            kernel_rfl
          have hok : gokF cycle y = true := by simp [gokF, m1, m2, of_decide_eq_false m3, of_decide_eq_false m4, of_decide_eq_false m5]
          have hall2 : (b.take (j + 1)).all (gokF cycle) = true := by rw [hT, List.all_append, hall]; simp [hok]
          conv => whnf
          refine ⟨by omega, by omega, ?_⟩
          conv => whnf
          refine ⟨6, by simp, ?_⟩
          conv => whnf
          refine ⟨rfl, ?_⟩
          conv => whnf
          refine ⟨rfl, by simp, by simp [most]; omega, ?_⟩
          conv => whnf
          refine ⟨by omega, by omega, ?_⟩
          conv => whnf
          refine cond_intro (by show (true && ((((b.take j).map strL).length + 1 == ((b.take j).map strL ++ [strL y]).length) && true)) = true; simp) ?_
          conv => whnf
          refine ⟨(IntKind.wrap .i64 ((j : Int) + 1), .row 6 0 (((b.take j).map strL).length + 1) (((b.take j).map strL).length + 1), .row 4 ((b.take j).map strL ++ [strL y])), by kernel_rfl, ⟨j + 1, hw, hj, .inr ⟨by rw [hT]; simp, by rw [hT]; simp, by rw [hT]; simp⟩, hall2⟩, by simp only; rw [hw]; omega⟩
  · conv => whnf
    have hsh : 0 ≤ shift ∧ shift < cycle := by
      have e : IntKind.wrap .i64 (cycle - 1) = cycle - 1 := wr_in ⟨by omega, by omega⟩
      rw [e] at h2
      simp only [withinF, Bool.and_eq_true, decide_eq_true_eq] at h2; omega
    have ga : ∀ x ∈ a, Gd x := fun x hx => (gokF_spec (ia x hx).1 (ia x hx).2 hcy (List.all_eq_true.1 oa x hx)).1
    have gb : ∀ x ∈ b, Gd x := fun x hx => (gokF_spec (ib x hx).1 (ib x hx).2 hcy (List.all_eq_true.1 ob x hx)).1
    have hG : GapR cycle a b shift = ((gapF cycle shift a b).1, !(gapF cycle shift a b).2, 0) := by unfold GapR; rw [hck, oa, ob]; rfl
    rw [hG]
    have lw := told_lw (lw_gap hcy hsh ga gb)
    have hp := gap_ok cycle shift a b hcy hsh ga gb la lb
    have hp : ∀ d1 d2, SD a d1 → SD b d2 → PureFn Try.prog 37 [int cycle, d1, d2, int shift] (.tup [ratD (gapF cycle shift a b).1, boolD (gapF cycle shift a b).2]) := fun d1 d2 h1 h2 =>
      pureFn_args (args := [int cycle, strsD a, strsD b, int shift]) rfl (fun j hj hj' ok w v hv => match j, hj with
        | 0, _ => hv
        | 1, _ => h1.rel hv
        | 2, _ => h2.rel hv
        | 3, _ => hv) hp
    generalize gapF cycle shift a b = G at lw hp
    obtain ⟨r, f⟩ := G
    rcases hA with ⟨eA, rfl, rfl⟩ | ⟨eA, rfl, rfl⟩ <;> rcases hB with ⟨eB, rfl, rfl⟩ | ⟨eB, rfl, rfl⟩
    · conv => whnf
      refine ⟨by omega, by omega, ?_⟩
      conv => whnf
      refine ⟨by omega, by omega, ?_⟩
      conv => whnf
      conv => whnf
      refine ⟨_, hp _ _ (.inr ⟨eA, rfl⟩) (.inr ⟨eB, rfl⟩), ?_⟩
      conv => whnf
      refine ⟨_, lw, ?_⟩
      conv => whnf
      kernel_rfl
    · conv => whnf
      refine ⟨by omega, by omega, ?_⟩
      conv => whnf
      refine ⟨by omega, by omega, ?_⟩
      conv => whnf
      rw [call4 (d1 := int cycle) (d2 := .v (.slice none 0 0)) (d3 := strsD b) (d4 := int shift) rfl (rfl) (snap_row0 (s := 6) (esz := 4) (els := b.map strL) rfl (by simp)) rfl]
      conv => whnf
      refine ⟨_, hp _ _ (.inr ⟨eA, rfl⟩) (.inl rfl), ?_⟩
      conv => whnf
      refine ⟨rfl, ?_⟩
      conv => whnf
      refine ⟨_, lw, ?_⟩
      conv => whnf
      kernel_rfl
    · conv => whnf
      refine ⟨by omega, by omega, ?_⟩
      conv => whnf
      refine ⟨by omega, by omega, ?_⟩
      conv => whnf
      rw [call4 (d1 := int cycle) (d2 := strsD a) (d3 := .v (.slice none 0 0)) (d4 := int shift) rfl (snap_row0 (s := 5) (esz := 4) (els := a.map strL) rfl (by simp)) (rfl) rfl]
      conv => whnf
      refine ⟨_, hp _ _ (.inl rfl) (.inr ⟨eB, rfl⟩), ?_⟩
      conv => whnf
      refine ⟨rfl, ?_⟩
      conv => whnf
      refine ⟨_, lw, ?_⟩
      conv => whnf
      kernel_rfl
    · conv => whnf
      refine ⟨by omega, by omega, ?_⟩
      conv => whnf
      refine ⟨by omega, by omega, ?_⟩
      conv => whnf
      rw [call4 (d1 := int cycle) (d2 := strsD a) (d3 := strsD b) (d4 := int shift) rfl (snap_row0 (s := 5) (esz := 4) (els := a.map strL) rfl (by simp)) (snap_row0 (s := 6) (esz := 4) (els := b.map strL) rfl (by simp)) rfl]
      conv => whnf
      refine ⟨_, hp _ _ (.inl rfl) (.inl rfl), ?_⟩
      conv => whnf
      refine ⟨rfl, ?_⟩
      conv => whnf
      refine ⟨_, lw, ?_⟩
      conv => whnf
      kernel_rfl
end Go.Proofs.YtgeficpcnlgnhaaG
