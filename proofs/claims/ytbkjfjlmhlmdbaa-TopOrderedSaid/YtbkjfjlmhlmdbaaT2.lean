/- The stress of a ring. No condition. -/
import Derived.Test.YtbkjfjlmhlmdbaaT1
set_option linter.unusedVariables false
set_option linter.unusedSimpArgs false
set_option maxRecDepth 100000
set_option maxHeartbeats 4000000
namespace Go.Proofs.YtbkjfjlmhlmdbaaG
open Go Go.AM Go.Proofs

section
variable {r : Ring} (hr : VR r) {t : Int × Int} (ht : VT t) {l : Load} (hl : VL l)

theorem up_bd {n d : Int} (h0 : 0 ≤ n) (h1 : 0 < d) : 0 ≤ (n + d - 1) / d ∧ (n + d - 1) / d ≤ n + d - 1 :=
  ⟨Int.ediv_nonneg (by omega) (by omega), Int.ediv_le_self _ (by omega)⟩
theorem dn_bd {n d : Int} (h0 : 0 ≤ n) (h1 : 0 < d) : 0 ≤ n / d ∧ n / d ≤ n := ⟨Int.ediv_nonneg h0 (by omega), Int.ediv_le_self _ h0⟩

def Bd (p : Int × Int) : Prop := (0 ≤ p.1 ∧ p.1 ≤ 2000000000000) ∧ 0 ≤ p.2 ∧ p.2 ≤ 2000000000000
include hr ht hl
theorem part_bds : Bd (part1 r t l) ∧ Bd (part2 r t l) ∧ Bd (part3 r t l) ∧ Bd (part4 r t l) := by
  have := hr.r1; have := hr.r2; have := hr.r3; have := hr.f1; have := hr.f2; have := hr.f3; have := hr.i1; have := hr.i2; have := hr.i3
  have := ht.t1; have := ht.t2; have := ht.t3; have := hl.p1; have := hl.p2; have := hl.f1; have := hl.f2; have := hl.s1; have := hl.s2; have := hl.o1; have := hl.o2
  have b1 := mb (show 0 ≤ l.press ∧ l.press ≤ 10000 by omega) (show 0 ≤ r.rl ∧ r.rl ≤ 1000 by omega)
  have b2 := mb b1 (show 0 ≤ r.fl ∧ r.fl ≤ 10000 by omega)
  have c1 := mb (show 0 ≤ l.press ∧ l.press ≤ 10000 by omega) (show 0 ≤ r.rh ∧ r.rh ≤ 1000 by omega)
  have c2 := mb c1 (show 0 ≤ r.fh ∧ r.fh ≤ 10000 by omega)
  have d1 := mb (show 0 ≤ 355 * r.rh ∧ 355 * r.rh ≤ 355000 by omega) (show 0 ≤ t.2 ∧ t.2 ≤ 2000 by omega)
  have d2 := mp (show 0 < 355 * r.rh by omega) (show 0 < t.2 by omega)
  have e1 := mb (show 0 ≤ 333 * r.rl ∧ 333 * r.rl ≤ 333000 by omega) (show 0 ≤ t.1 ∧ t.1 ≤ 2000 by omega)
  have e2 := mp (show 0 < 333 * r.rl by omega) (show 0 < t.1 by omega)
  have f1 := mb (show 0 ≤ r.il ∧ r.il ≤ 10000 by omega) (show 0 ≤ l.speed ∧ l.speed ≤ 2000 by omega)
  have g1 := mb (show 0 ≤ r.ih ∧ r.ih ≤ 10000 by omega) (show 0 ≤ l.speed ∧ l.speed ≤ 2000 by omega)
  have x1 := dn_bd b2.1 (show 0 < 100 * t.2 by omega)
  have x2 := up_bd c2.1 (show 0 < 100 * t.1 by omega)
  have y1 := dn_bd (show 0 ≤ 500000 * l.force * 113 by omega) d2
  have y2 := up_bd (show 0 ≤ 500000 * l.force * 106 by omega) e2
  have z1 := dn_bd f1.1 (show 0 < t.2 by omega)
  have z2 := up_bd g1.1 (show 0 < t.1 by omega)
  unfold part1 part2 part3 part4 Bd
  refine ⟨⟨⟨?_, ?_⟩, ?_, ?_⟩, ⟨⟨?_, ?_⟩, ?_, ?_⟩, ⟨⟨?_, ?_⟩, ?_, ?_⟩, ⟨?_, ?_⟩, ?_, ?_⟩ <;> dsimp only <;> omega

theorem stress_ok : PureFn Try.prog 48 [ringD r, spD t, loadD l] (spD (stressF r t l)) := by
  obtain ⟨⟨p1, p2⟩, ⟨q1, q2⟩, ⟨s1, s2⟩, u1, u2⟩ := part_bds hr ht hl
  let P : Nat → Int × Int := fun k => match k with
    | 0 => (0, 0)
    | 1 => (wr (0 + (part1 r t l).1), wr (0 + (part1 r t l).2))
    | 2 => (wr (wr (0 + (part1 r t l).1) + (part2 r t l).1), wr (wr (0 + (part1 r t l).2) + (part2 r t l).2))
    | 3 => (wr (wr (wr (0 + (part1 r t l).1) + (part2 r t l).1) + (part3 r t l).1), wr (wr (wr (0 + (part1 r t l).2) + (part2 r t l).2) + (part3 r t l).2))
    | _ => (wr (wr (wr (wr (0 + (part1 r t l).1) + (part2 r t l).1) + (part3 r t l).1) + (part4 r t l).1), wr (wr (wr (wr (0 + (part1 r t l).2) + (part2 r t l).2) + (part3 r t l).2) + (part4 r t l).2))
  have hP : P 4 = stressF r t l := by
    show (wr _, wr _) = _
    rw [wr_in2 (n := 0 + (part1 r t l).1) (by omega), wr_in2 (n := 0 + (part1 r t l).1 + (part2 r t l).1) (by omega), wr_in2 (n := 0 + (part1 r t l).1 + (part2 r t l).1 + (part3 r t l).1) (by omega),
      wr_in2 (n := 0 + (part1 r t l).1 + (part2 r t l).1 + (part3 r t l).1 + (part4 r t l).1) (by omega),
      wr_in2 (n := 0 + (part1 r t l).2) (by omega), wr_in2 (n := 0 + (part1 r t l).2 + (part2 r t l).2) (by omega), wr_in2 (n := 0 + (part1 r t l).2 + (part2 r t l).2 + (part3 r t l).2) (by omega),
      wr_in2 (n := 0 + (part1 r t l).2 + (part2 r t l).2 + (part3 r t l).2 + (part4 r t l).2) (by omega)]
    unfold stressF
    simp only [Int.zero_add]
  rw [← hP]
  refine pureFn_by Try.func48 k48 rfl rfl ?_
  conv => whnf
  refine ⟨_, parts_ok, ?_⟩
  conv => whnf
  refine loopB (fun (k : Nat) => ⟨mkT [(3, .d (.fptr (ringL r))), (4, .d (.fptr [int t.1, int t.2])), (5, .d (.fptr [int l.press, int l.force, int l.speed, int l.other])), (6, .ptr 3 0), (7, .ptr 4 0), (12, .d (.list [[.clo 69 [] []], [.clo 70 [] []], [.clo 71 [] []], [.clo 72 [] []]])), (13, .d (int 4)), (14, .d (int k))],
      mkB [(3, .var [.d (int 0), .d (int 0)]), (4, .var [.d (int (P k).1), .d (int (P k).2)])]⟩)
    (fun k => k ≤ 4) (fun k => 4 - k) 0 (by kernel_rfl) (by omega) ?_
  intro k hk
  match k, hk with
  | 0, _ =>
    conv => whnf
    refine ⟨by omega, _, rfl, ?_⟩
    conv => whnf
    refine ⟨_, part1_ok hr ht hl, ?_⟩
    conv => whnf
    exact ⟨1, by kernel_rfl, by omega, by omega⟩
  | 1, _ =>
    conv => whnf
    refine ⟨by omega, _, rfl, ?_⟩
    conv => whnf
    refine ⟨_, part2_ok hr ht hl, ?_⟩
    conv => whnf
    exact ⟨2, by kernel_rfl, by omega, by omega⟩
  | 2, _ =>
    conv => whnf
    refine ⟨by omega, _, rfl, ?_⟩
    conv => whnf
    refine ⟨_, part3_ok hr ht hl, ?_⟩
    conv => whnf
    exact ⟨3, by kernel_rfl, by omega, by omega⟩
  | 3, _ =>
    conv => whnf
    refine ⟨by omega, _, rfl, ?_⟩
    conv => whnf
    refine ⟨_, part4_ok r t l, ?_⟩
    conv => whnf
    exact ⟨4, by kernel_rfl, by omega, by omega⟩
  | 4, _ =>
    conv => whnf
    kernel_rfl
end
end Go.Proofs.YtbkjfjlmhlmdbaaG
