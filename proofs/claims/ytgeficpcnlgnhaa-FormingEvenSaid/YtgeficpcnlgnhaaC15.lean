/- The specification's stretches of one even part. No condition. -/
import Derived.Test.YtgeficpcnlgnhaaC14
set_option linter.unusedVariables false
set_option linter.unusedSimpArgs false
set_option maxRecDepth 100000
namespace Go.Proofs.YtgeficpcnlgnhaaG
open Go Go.AM Go.Proofs

def rIn (p : Pc) (s : Int × Int) : Str × Bool :=
  if p.q - p.p = 0 then (((p.a, 1), (p.b, 1)), decide (s.1 ≤ p.p) && decide (p.p ≤ s.2))
  else if p.q - p.p < 0 then ((laterF (whenE p s.2) (p.a, 1), soonerF (whenE p s.1) (p.b, 1)), !ltF (soonerF (whenE p s.1) (p.b, 1)) (laterF (whenE p s.2) (p.a, 1)))
  else ((laterF (whenE p s.1) (p.a, 1), soonerF (whenE p s.2) (p.b, 1)), !ltF (soonerF (whenE p s.2) (p.b, 1)) (laterF (whenE p s.1) (p.a, 1)))

theorem laterF_low {a b : Int × Int} (ha : Low a) (hb : Low b) : Low (laterF a b) := by unfold laterF; split <;> assumption
theorem soonerF_low {a b : Int × Int} (ha : Low a) (hb : Low b) : Low (soonerF a b) := by unfold soonerF; split <;> assumption

theorem rIn_ok {cycle : Int} {p : Pc} (hp : Okp cycle p) (hc : cycle ≤ 3600) (s : Int × Int) (hs1 : -1000000 ≤ s.1 ∧ s.1 ≤ 2000000) (hs2 : -1000000 ≤ s.2 ∧ s.2 ≤ 2000000) :
    PureFn Try.prog 50 [.agg [int p.a, int p.p], .agg [int p.b, int p.q], ratD s] (.tup [strD (rIn p s).1, boolD (rIn p s).2]) := by
  have hp' := hp
  obtain ⟨a0, ab, bc, p0, p1, q0, q1⟩ := hp
  unfold rIn
  have w1 : IntKind.wrap .i64 (p.q - p.p) = p.q - p.p := wr_in (n := p.q - p.p) ⟨by omega, by omega⟩
  refine pureFn_by Try.func50 k50 rfl rfl ?_
  conv => whnf
  rw [w1]
  cases h0 : decide (p.q - p.p = 0)
  case true =>
    rw [if_pos (of_decide_eq_true h0)]
    conv => whnf
    refine ⟨_, rWhole_ok _, ?_⟩
    conv => whnf
    refine ⟨_, rWhole_ok _, ?_⟩
    conv => whnf
    cases h1 : decide (s.1 ≤ p.p)
    · rfl
    · rfl
  have h0' := of_decide_eq_false h0
  rw [if_neg h0']
  conv => whnf
  (try rw [w1])
  have m := mul_bd (x := p.a) (y := p.q - p.p) (A := 3600) (B := 1000000) ⟨by omega, by omega⟩ ⟨by omega, by omega⟩
  have wl := low_whole (n := p.a) ⟨by omega, by omega⟩
  have wb := low_whole (n := p.b) ⟨by omega, by omega⟩
  have e1 := whenE_low hp' hc (x := s.1) (by omega) (by omega)
  have e2 := whenE_low hp' hc (x := s.2) (by omega) (by omega)
  have n1 := whenN_bd hp' hc (x := s.1) (by omega)
  have n2 := whenN_bd hp' hc (x := s.2) (by omega)
  have w4 : IntKind.wrap .i64 (p.b - p.a) = p.b - p.a := wr_in (n := p.b - p.a) ⟨by omega, by omega⟩
  have wx1 : IntKind.wrap .i64 (s.1 - p.p) = s.1 - p.p := wr_in (n := s.1 - p.p) ⟨by omega, by omega⟩
  have wx2 : IntKind.wrap .i64 (s.2 - p.p) = s.2 - p.p := wr_in (n := s.2 - p.p) ⟨by omega, by omega⟩
  cases h1 : decide (p.q - p.p < 0)
  · have h1' := of_decide_eq_false h1
    rw [if_neg h1']
    have hsz : max (p.q - p.p) (IntKind.wrap .i64 (0 - (p.q - p.p))) = p.q - p.p := by
      rw [show IntKind.wrap .i64 (0 - (p.q - p.p)) = 0 - (p.q - p.p) from wr_in (n := 0 - (p.q - p.p)) ⟨by omega, by omega⟩]; omega
    have hsg : IntKind.wrap .i64 ((p.q - p.p).tdiv (p.q - p.p)) = 1 := by
      rw [Int.tdiv_self (by omega)]; exact wr_in (n := 1) ⟨by omega, by omega⟩
    have val : ∀ x : Int, (-1000000 ≤ x ∧ x ≤ 2000000) → IntKind.wrap .i64 (x - p.p) = x - p.p → PureFn Try.prog 21 [int (IntKind.wrap .i64 (IntKind.wrap .i64 (p.a * (p.q - p.p)) + IntKind.wrap .i64 (IntKind.wrap .i64 ((x - p.p) * 1) * (p.b - p.a)))), int (p.q - p.p)] (ratD (whenE p x)) := fun x hx wx => by
      have nb := whenN_bd hp' hc (x := x) (by omega)
      rw [Int.mul_one, wx, show IntKind.wrap .i64 (p.a * (p.q - p.p)) = p.a * (p.q - p.p) from wr_in (n := p.a * (p.q - p.p)) ⟨by omega, by omega⟩,
        show IntKind.wrap .i64 ((x - p.p) * (p.b - p.a)) = (x - p.p) * (p.b - p.a) from wr_in (n := (x - p.p) * (p.b - p.a)) ⟨by omega, by omega⟩,
        show IntKind.wrap .i64 (p.a * (p.q - p.p) + (x - p.p) * (p.b - p.a)) = whenN p x from wr_in (n := p.a * (p.q - p.p) + (x - p.p) * (p.b - p.a)) ⟨by omega, by omega⟩]
      unfold whenE
      rw [if_neg h1']
      exact made_ok _ _ (by unfold whenN; omega) (by omega) ⟨by omega, by omega⟩
    conv => whnf
    rw [hsz]
    refine ⟨h0', ?_⟩
    conv => whnf
    (try rw [hsz]); (try rw [hsg]); (try rw [wx1]); (try rw [w4])
    refine ⟨_, val s.1 hs1 wx1, ?_⟩
    conv => whnf
    (try rw [hsz]); (try rw [hsg]); (try rw [wx2]); (try rw [w4])
    refine ⟨_, val s.2 hs2 wx2, ?_⟩
    conv => whnf
    refine ⟨_, rWhole_ok _, ?_⟩
    conv => whnf
    refine ⟨_, later_ok _ _ e1.ri wl.ri, ?_⟩
    conv => whnf
    refine ⟨_, rWhole_ok _, ?_⟩
    conv => whnf
    refine ⟨_, sooner_ok _ _ e2.ri wb.ri, ?_⟩
    conv => whnf
    exact ⟨_, less_ok _ _ (soonerF_low e2 wb).ri (laterF_low e1 wl).ri, rfl⟩
  · have h1' := of_decide_eq_true h1
    rw [if_pos h1']
    have wneg : IntKind.wrap .i64 (0 - (p.q - p.p)) = 0 - (p.q - p.p) := wr_in (n := 0 - (p.q - p.p)) ⟨by omega, by omega⟩
    have hsz : max (p.q - p.p) (IntKind.wrap .i64 (0 - (p.q - p.p))) = 0 - (p.q - p.p) := by rw [wneg]; omega
    have hsg : IntKind.wrap .i64 ((p.q - p.p).tdiv (0 - (p.q - p.p))) = -1 := by
      rw [show (0 - (p.q - p.p)) = -(p.q - p.p) by omega, Int.tdiv_neg, Int.tdiv_self (by omega)]; exact wr_in (n := -1) ⟨by omega, by omega⟩
    have mD := mul_bd (x := p.a) (y := 0 - (p.q - p.p)) (A := 3600) (B := 1000000) ⟨by omega, by omega⟩ ⟨by omega, by omega⟩
    have val : ∀ x : Int, (-1000000 ≤ x ∧ x ≤ 2000000) → IntKind.wrap .i64 (x - p.p) = x - p.p → PureFn Try.prog 21 [int (IntKind.wrap .i64 (IntKind.wrap .i64 (p.a * (0 - (p.q - p.p))) + IntKind.wrap .i64 (IntKind.wrap .i64 ((x - p.p) * -1) * (p.b - p.a)))), int (0 - (p.q - p.p))] (ratD (whenE p x)) := fun x hx wx => by
      have nb := whenN_bd hp' hc (x := x) (by omega)
      have e1 : (x - p.p) * -1 * (p.b - p.a) = -((x - p.p) * (p.b - p.a)) := by rw [Int.mul_neg, Int.mul_one, Int.neg_mul]
      have e2 : p.a * (0 - (p.q - p.p)) = -(p.a * (p.q - p.p)) := by rw [show (0 - (p.q - p.p)) = -(p.q - p.p) by omega, Int.mul_neg]
      rw [show IntKind.wrap .i64 ((x - p.p) * -1) = (x - p.p) * -1 from wr_in (n := (x - p.p) * -1) ⟨by omega, by omega⟩, e1, e2,
        show IntKind.wrap .i64 (-(p.a * (p.q - p.p))) = -(p.a * (p.q - p.p)) from wr_in (n := -(p.a * (p.q - p.p))) ⟨by omega, by omega⟩,
        show IntKind.wrap .i64 (-((x - p.p) * (p.b - p.a))) = -((x - p.p) * (p.b - p.a)) from wr_in (n := -((x - p.p) * (p.b - p.a))) ⟨by omega, by omega⟩,
        show IntKind.wrap .i64 (-(p.a * (p.q - p.p)) + -((x - p.p) * (p.b - p.a))) = 0 - whenN p x from (wr_in (n := -(p.a * (p.q - p.p)) + -((x - p.p) * (p.b - p.a))) ⟨by omega, by omega⟩).trans (by unfold whenN; omega)]
      unfold whenE
      rw [if_pos h1']
      exact made_ok _ _ (by unfold whenN; omega) (by omega) ⟨by omega, by omega⟩
    conv => whnf
    rw [hsz]
    refine ⟨by omega, ?_⟩
    conv => whnf
    (try rw [hsz]); (try rw [hsg]); (try rw [wx2]); (try rw [w4])
    refine ⟨_, val s.2 hs2 wx2, ?_⟩
    conv => whnf
    (try rw [hsz]); (try rw [hsg]); (try rw [wx1]); (try rw [w4])
    refine ⟨_, val s.1 hs1 wx1, ?_⟩
    conv => whnf
    refine ⟨_, rWhole_ok _, ?_⟩
    conv => whnf
    refine ⟨_, later_ok _ _ e2.ri wl.ri, ?_⟩
    conv => whnf
    refine ⟨_, rWhole_ok _, ?_⟩
    conv => whnf
    refine ⟨_, sooner_ok _ _ e1.ri wb.ri, ?_⟩
    conv => whnf
    exact ⟨_, less_ok _ _ (soonerF_low e1 wb).ri (laterF_low e2 wl).ri, rfl⟩
end Go.Proofs.YtgeficpcnlgnhaaG
