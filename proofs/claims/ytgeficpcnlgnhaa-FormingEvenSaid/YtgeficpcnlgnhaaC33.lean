/- FormingAll answers true. No condition. -/
import Derived.Test.YtgeficpcnlgnhaaC32
set_option linter.unusedVariables false
set_option linter.unusedSimpArgs false
set_option maxRecDepth 100000
set_option maxHeartbeats 8000000
namespace Go.Proofs.YtgeficpcnlgnhaaG
open Go Go.AM Go.Proofs

theorem ri_red {r : Int × Int} (h1 : I64 r.1) (h2 : 1 ≤ r.2) (h3 : I64 r.2) : RI (red r) := by
  have g := gcd_pos (n := r.1) h2
  have gl := gcd_le (n := r.1) h2
  unfold red
  exact ⟨ediv_i64 h1 g, Int.le_ediv_of_mul_le (by omega) (by omega), ediv_i64 h3 g⟩
theorem tm_okAt {cycle : Int} {t : Int × Int} (hc : 1 ≤ cycle ∧ cycle ≤ 3600) (h : Tm cycle t) : okAt t = true := by
  have cb := mul_bd (x := cycle) (y := t.2) (A := 3600) (B := 50) ⟨by omega, by omega⟩ ⟨by have := h.d; omega, by have := h.d; omega⟩
  have := h.n0; have := h.n1; have := h.d; have g := h.lw.g
  simp only [okAt, Bool.and_eq_true, decide_eq_true_eq]
  omega
/-- What Stretches returns, for the law. -/
theorem str_facts {cycle home : Int} {l : List (Int × Int)} {s : Int × Int} :
    ((StretchesR cycle home l s).2 ≠ 0 ∧ (StretchesR cycle home l s).1 = []) ∨
    ((StretchesR cycle home l s).2 = 0 ∧ Okm cycle home l ∧ mErr cycle home l = 0 ∧ Sorted cycle (StretchesR cycle home l s).1 ∧ (StretchesR cycle home l s).1.length ≤ 1000 ∧ ∀ t, Tm cycle t →
      ((leQ (s.1, 1) (red (whereE cycle home l t)) ∧ leQ (red (whereE cycle home l t)) (s.2, 1)) ↔ inL cycle (StretchesR cycle home l s).1 t)) := by
  have len := StretchesR_len cycle home l s
  unfold StretchesR at len ⊢
  split
  · rename_i h; exact .inl ⟨h, rfl⟩
  rename_i h0
  have h0 : mErr cycle home l = 0 := by simpa using h0
  have ok := okm_of h0
  split
  · rename_i h1
    have b : (-1000000 ≤ s.1 ∧ s.1 ≤ 2000000) ∧ (-1000000 ≤ s.2 ∧ s.2 ≤ 2000000) := by
      simp only [okSpan, withinF, Bool.and_eq_true, decide_eq_true_eq] at h1; omega
    split
    · rename_i h2
      refine .inr ⟨rfl, ok, h0, ⟨(fun x hx => by cases hx), (fun x hx => by cases hx), (fun i hi => by simp at hi)⟩, (by simp), fun t ht => ⟨fun ⟨a, b⟩ => ?_, fun ⟨x, hx, _⟩ => by cases hx⟩⟩
      exfalso
      have w := whereF_E ok (r := t) ht.d.1 (by have := ht.d; omega)
      have := leQ_trans (by simp) (ri_red w.2.1 w.2.2.1 ⟨by omega, by omega⟩).d (by simp) a b
      unfold leQ at this; simp only at this; omega
    · rename_i h2
      obtain ⟨so, _⟩ := str_iff ok s b.1 b.2 (max l.length 1 - 1) (by omega)
      rw [show max l.length 1 - 1 + 1 = max l.length 1 by omega, ok.last] at so
      have l2 := (stretchesF_low ok s b.1 b.2 (max l.length 1) (Nat.le_refl _)).2
      have l3 := ok.len
      exact .inr ⟨rfl, ok, h0, so, by simp only; omega, fun t ht => all_iff ok s b.1 b.2 ht.d.1 (by have := ht.d; omega) ht.n0 ht.n1⟩
  · exact .inl ⟨by simp, rfl⟩

theorem all_law (cycle home : Int) (l : List (Int × Int)) (s : Int × Int) (num den : Int) (hcI : I64 cycle) (hhI : I64 home) (hl : ∀ k ∈ l, I64 k.1 ∧ I64 k.2) (hs1 : I64 s.1) (hs2 : I64 s.2) (hn : I64 num) (hd : I64 den) :
    PureFn Try.prog 5 [int cycle, int home, knotsD l, ratD s, int num, int den] (boolD true) := by
  have x := Stretches_ok cycle home l s
  refine pureFn_by Try.func5 k5 rfl rfl ?_
  conv => whnf
  cases c1 : decide (100 < ((l.map knD).length : Int))
  case true =>
    conv => whnf
    exact ⟨_, turns_ok, rfl⟩
  have sf := str_facts (cycle := cycle) (home := home) (l := l) (s := s)
  generalize StretchesR cycle home l s = R at x sf
  obtain ⟨S, e⟩ := R
  simp only at sf
  conv => whnf
  refine ⟨_, x, ?_⟩
  rcases sf with ⟨he, rfl⟩ | ⟨rfl, ok, h0, so, hlen, iff⟩
  · conv => whnf
    rw [show decide (e = 0) = false by simpa using he]
    conv => whnf
    refine ⟨_, turns_ok, ?_⟩
    conv => whnf
    kernel_rfl
  have hcy : 1 ≤ cycle ∧ cycle ≤ 3600 := ⟨ok.c1, ok.c2⟩
  conv => whnf
  refine loopB (fun (x : Int) => ⟨mkT [(0, .d (int cycle)), (1, .d (int home)), (2, .d (knotsD l)), (4, .d (int num)), (5, .d (int den)), (9, .ptr 0 0), (13, .d (strsD S)), (15, .d (int x))], mkB [(0, .var [.d (int s.1), .d (int s.2)])]⟩)
    (fun x => ∃ i : Nat, x = i ∧ i ≤ S.length) (fun x => (S.length - x).toNat) 0 (by kernel_rfl) ⟨0, rfl, by omega⟩ ?_
  rintro x ⟨i, rfl, hil⟩
  conv => whnf
  rw [List.length_map]
  cases c2 : decide ((i : Int) < (S.length : Int))
  case true =>
    have hi : i < S.length := by have := of_decide_eq_true c2; omega
    have hw := next_big (i := i) (by omega)
    have mem : S[i] ∈ S := List.getElem_mem _
    have hg : (S.map strL)[(i : Int).toNat]? = some (strL S[i]) := by rw [Int.toNat_natCast]; simp [hi]
    have hgap : 0 < i → ltF (S.getD (i - 1) ((0, 0), (0, 0))).2 S[i].1 = true := fun h => by
      have := so.gap (i - 1) (by omega)
      rw [show i - 1 + 1 = i by omega] at this
      rw [show S.getD i ((0, 0), (0, 0)) = S[i] by simp [List.getD, hi]] at this
      exact this
    have hgp : 0 < i → IntKind.wrap .i64 ((i : Int) - 1) = ((i - 1 : Nat) : Int) ∧ (S.map strL)[((i - 1 : Nat) : Int).toNat]? = some (strL (S.getD (i - 1) ((0, 0), (0, 0)))) ∧ LowS (S.getD (i - 1) ((0, 0), (0, 0))) := fun h => by
      refine ⟨?_, ?_, so.low _ (getD_mem (by omega))⟩
      · rw [show IntKind.wrap .i64 ((i : Int) - 1) = (i : Int) - 1 from wr_in ⟨by omega, by omega⟩]; omega
      · rw [Int.toNat_natCast]; exact str_get (by omega)
    generalize S.getD (i - 1) ((0, 0), (0, 0)) = z at hgap hgp
    generalize S[i] = y at mem hg hgap
    obtain ⟨y1, y2, y3⟩ := so.le y mem
    have lo := so.low y mem
    have rc : RI (cycle, 1) := ⟨hcI, by simp, by simp [I64]⟩
    have q1 := less_ok y.2 y.1 lo.t.ri lo.f.ri
    rw [ltF_not.2 y2] at q1
    have q2 := less_ok y.1 (0, 1) lo.f.ri lw_zero.ri
    rw [ltF_not.2 y1] at q2
    have q3 := less_ok (cycle, 1) y.2 rc lo.t.ri
    rw [ltF_not.2 y3] at q3
    conv => whnf
    refine ⟨by omega, _, hg, ?_⟩
    conv => whnf
    refine ⟨by omega, _, hg, ?_⟩
    conv => whnf
    refine ⟨_, q1, ?_⟩
    conv => whnf
    refine ⟨by omega, _, hg, ?_⟩
    conv => whnf
    refine ⟨_, lWhole_ok 0, ?_⟩
    conv => whnf
    refine ⟨_, q2, ?_⟩
    conv => whnf
    refine ⟨_, lWhole_ok cycle, ?_⟩
    conv => whnf
    refine ⟨by omega, _, hg, ?_⟩
    conv => whnf
    refine ⟨_, q3, ?_⟩
    conv => whnf
    cases c3 : decide (0 < (i : Int))
    · conv => whnf
      refine ⟨IntKind.wrap .i64 ((i : Int) + 1), by kernel_rfl, ⟨i + 1, hw, hi⟩, by rw [hw]; omega⟩
    · have hi0 : 0 < i := by have := of_decide_eq_true c3; omega
      obtain ⟨g1, g2, g3⟩ := hgp hi0
      have q4 := less_ok z.2 y.1 g3.t.ri lo.f.ri
      rw [hgap hi0] at q4
      rw [← g1] at g2
      have g0 : 0 ≤ IntKind.wrap .i64 ((i : Int) - 1) := by rw [g1]; omega
      conv => whnf
      refine ⟨g0, _, g2, ?_⟩
      conv => whnf
      refine ⟨by omega, _, hg, ?_⟩
      conv => whnf
      refine ⟨_, q4, ?_⟩
      conv => whnf
      refine ⟨IntKind.wrap .i64 ((i : Int) + 1), by kernel_rfl, ⟨i + 1, hw, hi⟩, by rw [hw]; omega⟩
  obtain ⟨t, tt, qt⟩ := time_ok cycle num den hcy hn hd
  have w := whereF_E ok (r := t) tt.d.1 (by have := tt.d; omega)
  have riP := ri_red w.2.1 w.2.2.1 ⟨by omega, by omega⟩
  have qw := Where_ok cycle home l t tt.lw.ri.n
  rw [show WhereR cycle home l t = (red (whereE cycle home l t), 0) by
    unfold WhereR; rw [if_neg (by simpa using h0), if_pos (tm_okAt hcy tt)]] at qw
  have iff := iff t tt
  have qi := in_law_ok cycle S t hcy tt so.low hlen
  generalize red (whereE cycle home l t) = P at riP qw iff
  rw [← inB_iff] at iff
  generalize inB cycle S t = inb at iff qi
  have r1 : RI (s.1, 1) := ⟨hs1, by simp, by simp [I64]⟩
  have r2 : RI (s.2, 1) := ⟨hs2, by simp, by simp [I64]⟩
  have q1 := less_ok P (s.1, 1) riP r1
  have q2 := less_ok (s.2, 1) P r2 riP
  rw [← ltF_not, ← ltF_not] at iff
  generalize ltF P (s.1, 1) = b1 at q1 iff
  generalize ltF (s.2, 1) P = b2 at q2 iff
  conv => whnf
  refine ⟨_, qt, ?_⟩
  conv => whnf
  refine ⟨_, qw, ?_⟩
  conv => whnf
  refine ⟨_, lWhole_ok s.1, ?_⟩
  conv => whnf
  refine ⟨_, q1, ?_⟩
  conv => whnf
  cases b1
  case true =>
    obtain rfl : inb = false := by cases inb; rfl; exact absurd (iff.2 rfl).1 (by simp)
    conv => whnf
    refine ⟨_, qi, ?_⟩
    conv => whnf
    refine ⟨_, turns_ok, ?_⟩
    conv => whnf
    kernel_rfl
  conv => whnf
  refine ⟨_, lWhole_ok s.2, ?_⟩
  conv => whnf
  refine ⟨_, q2, ?_⟩
  conv => whnf
  cases b2
  · obtain rfl : inb = true := iff.1 ⟨rfl, rfl⟩
    conv => whnf
    refine ⟨_, qi, ?_⟩
    conv => whnf
    refine ⟨_, turns_ok, ?_⟩
    conv => whnf
    kernel_rfl
  · obtain rfl : inb = false := by cases inb; rfl; exact absurd (iff.2 rfl).2 (by simp)
    conv => whnf
    refine ⟨_, qi, ?_⟩
    conv => whnf
    refine ⟨_, turns_ok, ?_⟩
    conv => whnf
    kernel_rfl
end Go.Proofs.YtgeficpcnlgnhaaG
