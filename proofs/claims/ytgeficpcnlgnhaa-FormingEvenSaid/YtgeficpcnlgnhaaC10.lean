/- The stretches of one even part. No condition. -/
import Derived.Test.YtgeficpcnlgnhaaC9
set_option linter.unusedVariables false
set_option linter.unusedSimpArgs false
set_option maxRecDepth 100000
namespace Go.Proofs.YtgeficpcnlgnhaaG
open Go Go.AM Go.Proofs

@[reducible] def pcD (p : Pc) : D := .agg [int p.a, int p.b, int p.p, int p.q]
/-- A stretch: from, to. -/
abbrev Str := (Int × Int) × (Int × Int)
@[reducible] def strD (s : Str) : D := .agg [int s.1.1, int s.1.2, int s.2.1, int s.2.2]

/-- The time at which an uneven part is at a place. -/
def whenN (p : Pc) (x : Int) : Int := p.a * (p.q - p.p) + (x - p.p) * (p.b - p.a)
def whenE (p : Pc) (x : Int) : Int × Int := red (if p.q - p.p < 0 then (0 - whenN p x, 0 - (p.q - p.p)) else (whenN p x, p.q - p.p))

theorem whenN_bd {cycle : Int} {p : Pc} (hp : Okp cycle p) (hc : cycle ≤ 3600) {x : Int} (hx : -3000000 ≤ x ∧ x ≤ 3000000) :
    (-3600000000 ≤ p.a * (p.q - p.p) ∧ p.a * (p.q - p.p) ≤ 3600000000) ∧ (-14400000000 ≤ (x - p.p) * (p.b - p.a) ∧ (x - p.p) * (p.b - p.a) ≤ 14400000000) := by
  obtain ⟨a0, ab, bc, p0, p1, q0, q1⟩ := hp
  have m1 := mul_bd (x := p.a) (y := p.q - p.p) (A := 3600) (B := 1000000) ⟨by omega, by omega⟩ ⟨by omega, by omega⟩
  have m2 := mul_bd (x := x - p.p) (y := p.b - p.a) (A := 4000000) (B := 3600) ⟨by omega, by omega⟩ ⟨by omega, by omega⟩
  omega

theorem when_ok {cycle : Int} {p : Pc} (hp : Okp cycle p) (hc : cycle ≤ 3600) {x : Int} (hx : -3000000 ≤ x ∧ x ≤ 3000000) (hne : p.p ≠ p.q) : PureFn Try.prog 62 [pcD p, int x] (ratD (whenE p x)) := by
  obtain ⟨m1, m2⟩ := whenN_bd hp hc hx
  obtain ⟨a0, ab, bc, p0, p1, q0, q1⟩ := hp
  have w1 : IntKind.wrap .i64 (p.q - p.p) = p.q - p.p := wr_in (n := p.q - p.p) ⟨by omega, by omega⟩
  have w2 : IntKind.wrap .i64 (p.a * (p.q - p.p)) = p.a * (p.q - p.p) := wr_in (n := p.a * (p.q - p.p)) ⟨by omega, by omega⟩
  have w3 : IntKind.wrap .i64 (x - p.p) = x - p.p := wr_in (n := x - p.p) ⟨by omega, by omega⟩
  have w4 : IntKind.wrap .i64 (p.b - p.a) = p.b - p.a := wr_in (n := p.b - p.a) ⟨by omega, by omega⟩
  have w5 : IntKind.wrap .i64 ((x - p.p) * (p.b - p.a)) = (x - p.p) * (p.b - p.a) := wr_in (n := (x - p.p) * (p.b - p.a)) ⟨by omega, by omega⟩
  have w6 : IntKind.wrap .i64 (p.a * (p.q - p.p) + (x - p.p) * (p.b - p.a)) = whenN p x := wr_in (n := p.a * (p.q - p.p) + (x - p.p) * (p.b - p.a)) ⟨by omega, by omega⟩
  have hn : -18000000000 ≤ whenN p x ∧ whenN p x ≤ 18000000000 := by unfold whenN; omega
  unfold whenE
  refine pureFn_by Try.func62 k62 rfl rfl ?_
  conv => whnf
  rw [w1]
  cases h : decide (p.q - p.p < 0)
  · have h' := of_decide_eq_false h
    rw [if_neg h']
    conv => whnf
    have low := lowest_ok (whenN p x, p.q - p.p) (by rw [divisorF_gcd (by simp only; omega) ⟨by simp only; omega, by simp only; omega⟩]; have := gcd_pos (n := whenN p x) (d := p.q - p.p) (by omega); simp only; omega)
    rw [lowestF_red ⟨by simp only; omega, by simp only; omega⟩ (by simp only; omega) ⟨by simp only; omega, by simp only; omega⟩] at low
    (try rw [w1]); (try rw [w2]); (try rw [w3]); (try rw [w4]); (try rw [w5]); (try rw [w6])
    exact ⟨_, low, rfl⟩
  · have h' := of_decide_eq_true h
    rw [if_pos h']
    conv => whnf
    have w7 : IntKind.wrap .i64 (0 - whenN p x) = 0 - whenN p x := wr_in (n := 0 - whenN p x) ⟨by omega, by omega⟩
    have w8 : IntKind.wrap .i64 (0 - (p.q - p.p)) = 0 - (p.q - p.p) := wr_in (n := 0 - (p.q - p.p)) ⟨by omega, by omega⟩
    have low := lowest_ok (0 - whenN p x, 0 - (p.q - p.p)) (by rw [divisorF_gcd (by simp only; omega) ⟨by simp only; omega, by simp only; omega⟩]; have := gcd_pos (n := 0 - whenN p x) (d := 0 - (p.q - p.p)) (by omega); simp only; omega)
    rw [lowestF_red ⟨by simp only; omega, by simp only; omega⟩ (by simp only; omega) ⟨by simp only; omega, by simp only; omega⟩] at low
    (try rw [w1]); (try rw [w2]); (try rw [w3]); (try rw [w4]); (try rw [w5]); (try rw [w6]); (try rw [w7]); (try rw [w8])
    exact ⟨_, low, rfl⟩

/-- The times of an even part in which the position lies in a span. -/
def inF (p : Pc) (s : Int × Int) : Str × Bool :=
  let low := max s.1 (min p.p p.q)
  let high := min s.2 (max p.p p.q)
  if high < low then (((0, 0), (0, 0)), false)
  else if p.p = p.q then (((p.a, 1), (p.b, 1)), true)
  else if p.p < p.q then ((whenE p low, whenE p high), true) else ((whenE p high, whenE p low), true)
theorem in_ok {cycle : Int} {p : Pc} (hp : Okp cycle p) (hc : cycle ≤ 3600) (s : Int × Int) (hs1 : -1000000 ≤ s.1 ∧ s.1 ≤ 2000000) (hs2 : -1000000 ≤ s.2 ∧ s.2 ≤ 2000000) :
    PureFn Try.prog 49 [pcD p, ratD s] (.tup [strD (inF p s).1, boolD (inF p s).2]) := by
  have hp' := hp
  obtain ⟨a0, ab, bc, p0, p1, q0, q1⟩ := hp
  unfold inF
  refine pureFn_by Try.func49 k49 rfl rfl ?_
  conv => whnf
  cases h1 : decide (min s.2 (max p.p p.q) < max s.1 (min p.p p.q))
  case true => rw [if_pos (of_decide_eq_true h1)]; rfl
  rw [if_neg (of_decide_eq_false h1)]
  conv => whnf
  cases h2 : decide (p.p = p.q)
  case true =>
    rw [if_pos (of_decide_eq_true h2)]
    conv => whnf
    refine ⟨_, whole_ok _, ?_⟩
    conv => whnf
    exact ⟨_, whole_ok _, rfl⟩
  have hne := of_decide_eq_false h2
  rw [if_neg hne]
  conv => whnf
  cases h3 : decide (p.p < p.q)
  · rw [if_neg (of_decide_eq_false h3)]
    conv => whnf
    refine ⟨_, when_ok hp' hc (x := min s.2 (max p.p p.q)) (by omega) hne, ?_⟩
    conv => whnf
    exact ⟨_, when_ok hp' hc (x := max s.1 (min p.p p.q)) (by omega) hne, rfl⟩
  · rw [if_pos (of_decide_eq_true h3)]
    conv => whnf
    refine ⟨_, when_ok hp' hc (x := max s.1 (min p.p p.q)) (by omega) hne, ?_⟩
    conv => whnf
    exact ⟨_, when_ok hp' hc (x := min s.2 (max p.p p.q)) (by omega) hne, rfl⟩
end Go.Proofs.YtgeficpcnlgnhaaG
