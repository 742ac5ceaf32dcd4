/- A bottle as pure data; quotients, spans, walls and stresses. No condition. -/
import Derived.Test.YtbkjfjlmhlmdbaaP28
set_option linter.unusedVariables false
set_option linter.unusedSimpArgs false
set_option maxRecDepth 100000
set_option maxHeartbeats 4000000
namespace Go.Proofs.YtbkjfjlmhlmdbaaG
open Go Go.AM Go.Proofs

structure Ring where
  rl : Int
  rh : Int
  hl : Int
  hh : Int
  sl : Int
  sh : Int
  fl : Int
  fh : Int
  il : Int
  ih : Int
structure Bottle where
  rings : List Ring
  flaw : Int
  tough : Int
structure Load where
  press : Int
  force : Int
  speed : Int
  other : Int
@[reducible] def ringL (r : Ring) : List D := [int r.rl, int r.rh, int r.hl, int r.hh, int r.sl, int r.sh, int r.fl, int r.fh, int r.il, int r.ih]
@[reducible] def ringD (r : Ring) : D := .agg (ringL r)
@[reducible] def ringsD (l : List Ring) : D := .list (l.map ringL)
@[reducible] def bottleD (b : Bottle) : D := .agg [ringsD b.rings, int b.flaw, int b.tough]
@[reducible] def loadD (l : Load) : D := .agg [int l.press, int l.force, int l.speed, int l.other]
@[reducible] def spD (t : Int × Int) : D := .agg [int t.1, int t.2]

def spanF (t : Int × Int) (lo hi : Int) : Bool := (decide (lo ≤ t.1) && decide (t.1 ≤ t.2)) && decide (t.2 ≤ hi)
theorem spanF_iff {t : Int × Int} {lo hi : Int} : spanF t lo hi = true ↔ lo ≤ t.1 ∧ t.1 ≤ t.2 ∧ t.2 ≤ hi := by simp [spanF, and_assoc]

theorem swithin_ok (n lo hi : Int) : PureFn Try.prog 37 [int n, int lo, int hi] (boolD (withinF n lo hi)) := by
  unfold withinF
  refine pureFn_by Try.func37 k37 rfl rfl ?_
  conv => whnf
  cases h1 : decide (lo ≤ n)
  · rfl
  · rfl
theorem span_ok (t : Int × Int) (lo hi : Int) : PureFn Try.prog 26 [spD t, int lo, int hi] (boolD (spanF t lo hi)) := by
  unfold spanF
  refine pureFn_by Try.func26 k26 rfl rfl ?_
  conv => whnf
  cases h1 : decide (lo ≤ t.1)
  · rfl
  · conv => whnf
    cases h2 : decide (t.1 ≤ t.2)
    · rfl
    · rfl

@[reducible] def failV (e : Int) : Value := .iface 101 (.agg #[.int .i64 e])
theorem demand_ok (e : Int) : PureFn Try.prog 25 [boolD true, int e] (.tup []) := by
  refine pureFn_by Try.func25 k25 rfl rfl ?_
  conv => whnf
  rfl
theorem demand_pan (e : Int) : PanFn Try.prog 25 [boolD false, int e] (failV e) := by
  refine panFn_by Try.func25 k25 rfl rfl ?_
  conv => whnf

theorem down_ok (n d : Int) (h0 : 0 ≤ n) (h1 : 0 < d) (hb : n ≤ 9000000000000000000) : PureFn Try.prog 43 [int n, int d] (int (n / d)) := by
  refine pureFn_by Try.func43 k43 rfl rfl ?_
  conv => whnf
  refine ⟨by omega, ?_⟩
  have e : IntKind.wrap .i64 (n.tdiv d) = n / d := by
    rw [Int.tdiv_eq_ediv_of_nonneg h0]
    have h2 : 0 ≤ n / d := Int.ediv_nonneg h0 (by omega)
    have h3 : n / d ≤ n := Int.ediv_le_self _ h0
    exact wr_eq (by omega)
  rw [← e]
  conv => whnf
  kernel_rfl
theorem up_ok (n d : Int) (h0 : 0 ≤ n) (h1 : 0 < d) (hb : n ≤ 4000000000000000000) (hd : d ≤ 4000000000000000000) : PureFn Try.prog 44 [int n, int d] (int ((n + d - 1) / d)) := by
  refine pureFn_by Try.func44 k44 rfl rfl ?_
  conv => whnf
  refine ⟨by omega, ?_⟩
  have e : IntKind.wrap .i64 ((IntKind.wrap .i64 (IntKind.wrap .i64 (n + d) - 1)).tdiv d) = (n + d - 1) / d := by
    rw [wr_eq (n := n + d) (by omega), wr_eq (n := n + d - 1) (by omega), Int.tdiv_eq_ediv_of_nonneg (by omega)]
    have h2 : 0 ≤ (n + d - 1) / d := Int.ediv_nonneg (by omega) (by omega)
    have h3 : (n + d - 1) / d ≤ n + d - 1 := Int.ediv_le_self _ (by omega)
    exact wr_eq (by omega)
  rw [← e]
  conv => whnf
  kernel_rfl

/-- A ring that may be. -/
structure VR (r : Ring) : Prop where
  r1 : 1 ≤ r.rl
  r2 : r.rl ≤ r.rh
  r3 : r.rh ≤ 1000
  h1 : 1 ≤ r.hl
  h2 : r.hl ≤ r.hh
  h3 : r.hh ≤ 5000
  s1 : 0 ≤ r.sl
  s2 : r.sl ≤ r.sh
  s3 : r.sh ≤ 1000
  f1 : 0 ≤ r.fl
  f2 : r.fl ≤ r.fh
  f3 : r.fh ≤ 10000
  i1 : 0 ≤ r.il
  i2 : r.il ≤ r.ih
  i3 : r.ih ≤ 10000
/-- A load that may be. -/
structure VL (l : Load) : Prop where
  p1 : 0 ≤ l.press
  p2 : l.press ≤ 10000
  f1 : 0 ≤ l.force
  f2 : l.force ≤ 20000
  s1 : 0 ≤ l.speed
  s2 : l.speed ≤ 2000
  o1 : 0 ≤ l.other
  o2 : l.other ≤ 10000000

theorem wr_in2 {n : Int} (h : -9000000000000000000 ≤ n ∧ n ≤ 9000000000000000000) : wr n = n := wr_eq h
theorem mb {a b A B : Int} (ha : 0 ≤ a ∧ a ≤ A) (hb : 0 ≤ b ∧ b ≤ B) : 0 ≤ a * b ∧ a * b ≤ A * B :=
  ⟨Int.mul_nonneg ha.1 hb.1, Int.mul_le_mul ha.2 hb.2 hb.1 (by omega)⟩
theorem mp {a b : Int} (ha : 0 < a) (hb : 0 < b) : 0 < a * b := Int.mul_pos ha hb

def thickF (r : Ring) (w : Int × Int) : Int × Int := (200 * w.1 * r.sl * 113 / (355 * r.rh * r.hh), (200 * w.2 * r.sh * 106 + 333 * r.rl * r.hl - 1) / (333 * r.rl * r.hl))
theorem thickness_ok (r : Ring) (hr : VR r) (w : Int × Int) (h1 : 1 ≤ w.1) (h2 : w.1 ≤ w.2) (h3 : w.2 ≤ 100000) : PureFn Try.prog 28 [ringD r, spD w] (spD (thickF r w)) := by
  have := hr.r1; have := hr.r2; have := hr.r3; have := hr.h1; have := hr.h2; have := hr.h3; have := hr.s1; have := hr.s2; have := hr.s3
  have b1 : 0 ≤ 200 * w.1 ∧ 200 * w.1 ≤ 20000000 := by omega
  have b2 := mb b1 (show 0 ≤ r.sl ∧ r.sl ≤ 1000 by omega)
  have b3 := mb b2 (show (0 : Int) ≤ 113 ∧ (113 : Int) ≤ 113 by omega)
  have c1 : 0 ≤ 355 * r.rh ∧ 355 * r.rh ≤ 355000 := by omega
  have c2 := mb c1 (show 0 ≤ r.hh ∧ r.hh ≤ 5000 by omega)
  have c3 := mp (show 0 < 355 * r.rh by omega) (show 0 < r.hh by omega)
  have d1 : 0 ≤ 200 * w.2 ∧ 200 * w.2 ≤ 20000000 := by omega
  have d2 := mb d1 (show 0 ≤ r.sh ∧ r.sh ≤ 1000 by omega)
  have d3 := mb d2 (show (0 : Int) ≤ 106 ∧ (106 : Int) ≤ 106 by omega)
  have e1 : 0 ≤ 333 * r.rl ∧ 333 * r.rl ≤ 333000 := by omega
  have e2 := mb e1 (show 0 ≤ r.hl ∧ r.hl ≤ 5000 by omega)
  have e3 := mp (show 0 < 333 * r.rl by omega) (show 0 < r.hl by omega)
  have k1 : PureFn Try.prog 43 [int (wr (wr (wr (200 * w.1) * r.sl) * 113)), int (wr (wr (355 * r.rh) * r.hh))] (int (thickF r w).1) := by
    rw [wr_in2 (n := 200 * w.1) (by omega), wr_in2 (n := 200 * w.1 * r.sl) (by omega), wr_in2 (n := 200 * w.1 * r.sl * 113) (by omega), wr_in2 (n := 355 * r.rh) (by omega), wr_in2 (n := 355 * r.rh * r.hh) (by omega)]
    exact down_ok _ _ b3.1 c3 (by omega)
  have k2 : PureFn Try.prog 44 [int (wr (wr (wr (200 * w.2) * r.sh) * 106)), int (wr (wr (333 * r.rl) * r.hl))] (int (thickF r w).2) := by
    rw [wr_in2 (n := 200 * w.2) (by omega), wr_in2 (n := 200 * w.2 * r.sh) (by omega), wr_in2 (n := 200 * w.2 * r.sh * 106) (by omega), wr_in2 (n := 333 * r.rl) (by omega), wr_in2 (n := 333 * r.rl * r.hl) (by omega)]
    exact up_ok _ _ d3.1 e3 (by omega) (by omega)
  refine pureFn_by Try.func28 k28 rfl rfl ?_
  conv => whnf
  refine ⟨_, k1, ?_⟩
  conv => whnf
  refine ⟨_, k2, ?_⟩
  conv => whnf
  kernel_rfl

-- what a load makes of a ring
def part1 (r : Ring) (t : Int × Int) (l : Load) : Int × Int := (l.press * r.rl * r.fl / (100 * t.2), (l.press * r.rh * r.fh + 100 * t.1 - 1) / (100 * t.1))
def part2 (r : Ring) (t : Int × Int) (l : Load) : Int × Int := (500000 * l.force * 113 / (355 * r.rh * t.2), (500000 * l.force * 106 + 333 * r.rl * t.1 - 1) / (333 * r.rl * t.1))
def part3 (r : Ring) (t : Int × Int) (l : Load) : Int × Int := (r.il * l.speed / t.2, (r.ih * l.speed + t.1 - 1) / t.1)
def part4 (r : Ring) (t : Int × Int) (l : Load) : Int × Int := (l.other, l.other)
@[reducible] def tupD (t : Int × Int) : D := .tup [int t.1, int t.2]
/-- A wall that may be. -/
structure VT (t : Int × Int) : Prop where
  t1 : 1 ≤ t.1
  t2 : t.1 ≤ t.2
  t3 : t.2 ≤ 2000

theorem part4_ok (r : Ring) (t : Int × Int) (l : Load) : PureFn Try.prog 72 [ringD r, spD t, loadD l] (tupD (part4 r t l)) := by
  refine pureFn_by Try.func72 k72 rfl rfl ?_
  conv => whnf
  kernel_rfl

section
variable {r : Ring} (hr : VR r) {t : Int × Int} (ht : VT t) {l : Load} (hl : VL l)
include hr ht hl
theorem part1_ok : PureFn Try.prog 69 [ringD r, spD t, loadD l] (tupD (part1 r t l)) := by
  have := hr.r1; have := hr.r2; have := hr.r3; have := hr.f1; have := hr.f2; have := hr.f3; have := ht.t1; have := ht.t2; have := ht.t3; have := hl.p1; have := hl.p2
  have b1 := mb (show 0 ≤ l.press ∧ l.press ≤ 10000 by omega) (show 0 ≤ r.rl ∧ r.rl ≤ 1000 by omega)
  have b2 := mb b1 (show 0 ≤ r.fl ∧ r.fl ≤ 10000 by omega)
  have c1 := mb (show 0 ≤ l.press ∧ l.press ≤ 10000 by omega) (show 0 ≤ r.rh ∧ r.rh ≤ 1000 by omega)
  have c2 := mb c1 (show 0 ≤ r.fh ∧ r.fh ≤ 10000 by omega)
  have k1 : PureFn Try.prog 43 [int (wr (wr (l.press * r.rl) * r.fl)), int (wr (100 * t.2))] (int (part1 r t l).1) := by
    rw [wr_in2 (n := l.press * r.rl) (by omega), wr_in2 (n := l.press * r.rl * r.fl) (by omega), wr_in2 (n := 100 * t.2) (by omega)]
    exact down_ok _ _ b2.1 (by omega) (by omega)
  have k2 : PureFn Try.prog 44 [int (wr (wr (l.press * r.rh) * r.fh)), int (wr (100 * t.1))] (int (part1 r t l).2) := by
    rw [wr_in2 (n := l.press * r.rh) (by omega), wr_in2 (n := l.press * r.rh * r.fh) (by omega), wr_in2 (n := 100 * t.1) (by omega)]
    exact up_ok _ _ c2.1 (by omega) (by omega) (by omega)
  refine pureFn_by Try.func69 k69 rfl rfl ?_
  conv => whnf
  refine ⟨_, k1, ?_⟩
  conv => whnf
  refine ⟨_, k2, ?_⟩
  conv => whnf
  kernel_rfl
theorem part2_ok : PureFn Try.prog 70 [ringD r, spD t, loadD l] (tupD (part2 r t l)) := by
  have := hr.r1; have := hr.r2; have := hr.r3; have := ht.t1; have := ht.t2; have := ht.t3; have := hl.f1; have := hl.f2
  have b1 : 0 ≤ 500000 * l.force ∧ 500000 * l.force ≤ 10000000000 := by omega
  have b2 : 0 ≤ 500000 * l.force * 113 ∧ 500000 * l.force * 113 ≤ 1130000000000 := by omega
  have c2 : 0 ≤ 500000 * l.force * 106 ∧ 500000 * l.force * 106 ≤ 1130000000000 := by omega
  have d1 := mb (show 0 ≤ 355 * r.rh ∧ 355 * r.rh ≤ 355000 by omega) (show 0 ≤ t.2 ∧ t.2 ≤ 2000 by omega)
  have d2 := mp (show 0 < 355 * r.rh by omega) (show 0 < t.2 by omega)
  have e1 := mb (show 0 ≤ 333 * r.rl ∧ 333 * r.rl ≤ 333000 by omega) (show 0 ≤ t.1 ∧ t.1 ≤ 2000 by omega)
  have e2 := mp (show 0 < 333 * r.rl by omega) (show 0 < t.1 by omega)
  have k1 : PureFn Try.prog 43 [int (wr (wr (500000 * l.force) * 113)), int (wr (wr (355 * r.rh) * t.2))] (int (part2 r t l).1) := by
    rw [wr_in2 (n := 500000 * l.force) (by omega), wr_in2 (n := 500000 * l.force * 113) (by omega), wr_in2 (n := 355 * r.rh) (by omega), wr_in2 (n := 355 * r.rh * t.2) (by omega)]
    exact down_ok _ _ b2.1 d2 (by omega)
  have k2 : PureFn Try.prog 44 [int (wr (wr (500000 * l.force) * 106)), int (wr (wr (333 * r.rl) * t.1))] (int (part2 r t l).2) := by
    rw [wr_in2 (n := 500000 * l.force) (by omega), wr_in2 (n := 500000 * l.force * 106) (by omega), wr_in2 (n := 333 * r.rl) (by omega), wr_in2 (n := 333 * r.rl * t.1) (by omega)]
    exact up_ok _ _ c2.1 e2 (by omega) (by omega)
  refine pureFn_by Try.func70 k70 rfl rfl ?_
  conv => whnf
  refine ⟨_, k1, ?_⟩
  conv => whnf
  refine ⟨_, k2, ?_⟩
  conv => whnf
  kernel_rfl
theorem part3_ok : PureFn Try.prog 71 [ringD r, spD t, loadD l] (tupD (part3 r t l)) := by
  have := hr.i1; have := hr.i2; have := hr.i3; have := ht.t1; have := ht.t2; have := ht.t3; have := hl.s1; have := hl.s2
  have b1 := mb (show 0 ≤ r.il ∧ r.il ≤ 10000 by omega) (show 0 ≤ l.speed ∧ l.speed ≤ 2000 by omega)
  have c1 := mb (show 0 ≤ r.ih ∧ r.ih ≤ 10000 by omega) (show 0 ≤ l.speed ∧ l.speed ≤ 2000 by omega)
  have k1 : PureFn Try.prog 43 [int (wr (r.il * l.speed)), int t.2] (int (part3 r t l).1) := by
    rw [wr_in2 (n := r.il * l.speed) (by omega)]
    exact down_ok _ _ b1.1 (by omega) (by omega)
  have k2 : PureFn Try.prog 44 [int (wr (r.ih * l.speed)), int t.1] (int (part3 r t l).2) := by
    rw [wr_in2 (n := r.ih * l.speed) (by omega)]
    exact up_ok _ _ c1.1 (by omega) (by omega) (by omega)
  refine pureFn_by Try.func71 k71 rfl rfl ?_
  conv => whnf
  refine ⟨_, k1, ?_⟩
  conv => whnf
  refine ⟨_, k2, ?_⟩
  conv => whnf
  kernel_rfl
def stressF (r : Ring) (t : Int × Int) (l : Load) : Int × Int := ((part1 r t l).1 + (part2 r t l).1 + (part3 r t l).1 + (part4 r t l).1, (part1 r t l).2 + (part2 r t l).2 + (part3 r t l).2 + (part4 r t l).2)
end
theorem parts_ok : PureFn Try.prog 59 [] (.list [[.clo 69 [] []], [.clo 70 [] []], [.clo 71 [] []], [.clo 72 [] []]]) := by
  refine pureFn_by Try.func59 k59 rfl rfl ?_
  conv => whnf
  kernel_rfl
end Go.Proofs.YtbkjfjlmhlmdbaaG
