/- A bottle whose walls come of a weight that is enough surely holds. No condition. -/
import Derived.Test.YtbkjfjlmhlmdbaaT10
set_option linter.unusedVariables false
set_option linter.unusedSimpArgs false
set_option maxRecDepth 100000
set_option maxHeartbeats 4000000
namespace Go.Proofs.YtbkjfjlmhlmdbaaG
open Go Go.AM Go.Proofs

theorem le_ceil {c d : Int} (hd : 0 < d) : c ≤ (c + d - 1) / d * d := by
  have h1 := Int.emod_nonneg (c + d - 1) (show d ≠ 0 by omega)
  have h2 := Int.emod_lt_of_pos (c + d - 1) hd
  have h3 := Int.mul_ediv_add_emod (c + d - 1) d
  rw [Int.mul_comm] at h3
  omega
theorem ceil_anti {A d d' : Int} (hA : 0 ≤ A) (hd : 0 < d) (h : d ≤ d') : (A + d' - 1) / d' ≤ (A + d - 1) / d := by
  have h1 := le_ceil (c := A) hd
  have h0 : 0 ≤ (A + d - 1) / d := Int.ediv_nonneg (by omega) (by omega)
  have h2 : (A + d - 1) / d * d ≤ (A + d - 1) / d * d' := Int.mul_le_mul_of_nonneg_left h h0
  have h3 : (A + d' - 1) / d' < (A + d - 1) / d + 1 := Int.ediv_lt_of_lt_mul (by omega) (by rw [Int.add_mul, Int.one_mul]; omega)
  omega
theorem floor_ceil {a b c d : Int} (hb : 0 < b) (hd : 0 < d) (h : a * d ≤ c * b) : a / b ≤ (c + d - 1) / d := by
  have h1 := le_ceil (c := c) hd
  have h2 : c * b ≤ (c + d - 1) / d * d * b := Int.mul_le_mul_of_nonneg_right h1 (by omega)
  have h3 : a * d ≤ ((c + d - 1) / d * b) * d := by
    have e : (c + d - 1) / d * b * d = (c + d - 1) / d * d * b := by rw [Int.mul_assoc, Int.mul_comm b d, ← Int.mul_assoc]
    omega
  have h4 : a ≤ (c + d - 1) / d * b := Int.le_of_mul_le_mul_right h3 hd
  exact Int.ediv_le_of_le_mul hb h4

theorem mul_le2 {a b c d : Int} (h1 : a ≤ c) (h2 : b ≤ d) (hb : 0 ≤ b) (hc : 0 ≤ c) : a * b ≤ c * d := Int.mul_le_mul h1 h2 hb hc

section
variable {r : Ring} (hr : VR r) {l : Load} (hl : VL l)
include hr
theorem thick_le {n : Int} (h0 : 0 ≤ n) : (thickF r (n, n)).1 ≤ (thickF r (n, n)).2 := by
  have := hr.r1; have := hr.r2; have := hr.r3; have := hr.h1; have := hr.h2; have := hr.h3; have := hr.s1; have := hr.s2; have := hr.s3
  have a1 : 0 < 355 * r.rh * r.hh := mp (by omega) (by omega)
  have a2 : 0 < 333 * r.rl * r.hl := mp (by omega) (by omega)
  refine floor_ceil a1 a2 ?_
  have b0 : 0 ≤ 200 * n := by omega
  have b1 : 200 * n * r.sl ≤ 200 * n * r.sh := Int.mul_le_mul_of_nonneg_left (by omega) b0
  have b2 : 0 ≤ 200 * n * r.sl := Int.mul_nonneg b0 (by omega)
  have c1 : r.rl * r.hl ≤ r.rh * r.hh := mul_le2 (by omega) (by omega) (by omega) (by omega)
  have c2 : 0 ≤ r.rl * r.hl := Int.mul_nonneg (by omega) (by omega)
  have e1 : 355 * r.rh * r.hh = 355 * (r.rh * r.hh) := Int.mul_assoc ..
  have e2 : 333 * r.rl * r.hl = 333 * (r.rl * r.hl) := Int.mul_assoc ..
  rw [e1, e2]
  have f1 := mul_le2 b1 c1 c2 (by omega)
  have g1 : 0 ≤ 200 * n * r.sl * (r.rl * r.hl) := Int.mul_nonneg b2 c2
  have x1 : 200 * n * r.sl * 113 * (333 * (r.rl * r.hl)) = 37629 * (200 * n * r.sl * (r.rl * r.hl)) := by
    generalize 200 * n * r.sl = A
    generalize r.rl * r.hl = B
    rw [Int.mul_assoc, ← Int.mul_assoc 113 333 B, Int.mul_left_comm]; rfl
  have x2 : 200 * n * r.sh * 106 * (355 * (r.rh * r.hh)) = 37630 * (200 * n * r.sh * (r.rh * r.hh)) := by
    generalize 200 * n * r.sh = A
    generalize r.rh * r.hh = B
    rw [Int.mul_assoc, ← Int.mul_assoc 106 355 B, Int.mul_left_comm]; rfl
  rw [x1, x2]
  omega
theorem thick_mono {w n : Int} (h0 : 0 ≤ w) (h : w ≤ n) : (thickF r (w, w)).1 ≤ (thickF r (n, n)).1 := by
  have := hr.r1; have := hr.r2; have := hr.h1; have := hr.h2; have := hr.s1
  have a1 : 0 < 355 * r.rh * r.hh := mp (by omega) (by omega)
  refine Int.ediv_le_ediv a1 ?_
  refine Int.mul_le_mul_of_nonneg_right (Int.mul_le_mul_of_nonneg_right (by simp only; omega) (by omega)) (by omega)

include hl
theorem part1_anti {t u : Int × Int} (h0 : 1 ≤ t.1) (h : t.1 ≤ u.1) : (part1 r u l).2 ≤ (part1 r t l).2 := by
  have := hr.r1; have := hr.r2; have := hr.f1; have := hr.f2; have := hl.p1
  exact ceil_anti (Int.mul_nonneg (Int.mul_nonneg (by omega) (by omega)) (by omega)) (by omega) (by omega)
theorem part2_anti {t u : Int × Int} (h0 : 1 ≤ t.1) (h : t.1 ≤ u.1) : (part2 r u l).2 ≤ (part2 r t l).2 := by
  have := hr.r1; have := hr.r2; have := hl.f1
  exact ceil_anti (by omega) (mp (by omega) (by omega)) (Int.mul_le_mul_of_nonneg_left h (by omega))
theorem part3_anti {t u : Int × Int} (h0 : 1 ≤ t.1) (h : t.1 ≤ u.1) : (part3 r u l).2 ≤ (part3 r t l).2 := by
  have := hr.i1; have := hr.i2; have := hl.s1
  exact ceil_anti (Int.mul_nonneg (by omega) (by omega)) (by omega) h
theorem stress_anti {t u : Int × Int} (h0 : 1 ≤ t.1) (h : t.1 ≤ u.1) : (stressF r u l).2 ≤ (stressF r t l).2 := by
  have a := part1_anti hr hl h0 h
  have b := part2_anti hr hl h0 h
  have c := part3_anti hr hl h0 h
  show (part1 r u l).2 + (part2 r u l).2 + (part3 r u l).2 + l.other ≤ (part1 r t l).2 + (part2 r t l).2 + (part3 r t l).2 + l.other
  omega
theorem stress_le {t : Int × Int} (h0 : 1 ≤ t.1) (h : t.1 ≤ t.2) : (stressF r t l).1 ≤ (stressF r t l).2 := by
  have := hr.r1; have := hr.r2; have := hr.f1; have := hr.f2; have := hr.i1; have := hr.i2; have := hl.p1; have := hl.f1; have := hl.s1
  have a : (part1 r t l).1 ≤ (part1 r t l).2 := by
    refine floor_ceil (by omega) (by omega) ?_
    refine mul_le2 (mul_le2 (Int.mul_le_mul_of_nonneg_left (by omega) (by omega)) (by omega) (by omega) (Int.mul_nonneg (by omega) (by omega))) (by omega) (by omega) (Int.mul_nonneg (Int.mul_nonneg (by omega) (by omega)) (by omega))
  have b : (part2 r t l).1 ≤ (part2 r t l).2 := by
    refine floor_ceil (mp (by omega) (by omega)) (mp (by omega) (by omega)) ?_
    have c1 : r.rl * t.1 ≤ r.rh * t.2 := mul_le2 (by omega) (by omega) (by omega) (by omega)
    have c2 : 0 ≤ r.rl * t.1 := Int.mul_nonneg (by omega) (by omega)
    have e1 : 355 * r.rh * t.2 = 355 * (r.rh * t.2) := Int.mul_assoc ..
    have e2 : 333 * r.rl * t.1 = 333 * (r.rl * t.1) := Int.mul_assoc ..
    rw [e1, e2]
    have b0 : 0 ≤ 500000 * l.force := by omega
    have f1 : 500000 * l.force * (r.rl * t.1) ≤ 500000 * l.force * (r.rh * t.2) := Int.mul_le_mul_of_nonneg_left c1 b0
    have g1 : 0 ≤ 500000 * l.force * (r.rl * t.1) := Int.mul_nonneg b0 c2
    have x1 : 500000 * l.force * 113 * (333 * (r.rl * t.1)) = 37629 * (500000 * l.force * (r.rl * t.1)) := by
      generalize 500000 * l.force = A
      generalize r.rl * t.1 = B
      rw [Int.mul_assoc, ← Int.mul_assoc 113 333 B, Int.mul_left_comm]; rfl
    have x2 : 500000 * l.force * 106 * (355 * (r.rh * t.2)) = 37630 * (500000 * l.force * (r.rh * t.2)) := by
      generalize 500000 * l.force = A
      generalize r.rh * t.2 = B
      rw [Int.mul_assoc, ← Int.mul_assoc 106 355 B, Int.mul_left_comm]; rfl
    rw [x1, x2]
    omega
  have c : (part3 r t l).1 ≤ (part3 r t l).2 := by
    refine floor_ceil (by omega) (by omega) ?_
    exact mul_le2 (mul_le2 (by omega) (by omega) (by omega) (by omega)) (by omega) (by omega) (Int.mul_nonneg (by omega) (by omega))
  show (part1 r t l).1 + (part2 r t l).1 + (part3 r t l).1 + l.other ≤ (part1 r t l).2 + (part2 r t l).2 + (part3 r t l).2 + l.other
  omega
end

theorem light_law (b : Bottle) (hb : VB b) (l : Load) (hl : VL l) (hw : lightF b l ≠ 0) : 1 ≤ lightF b l ∧ lightF b l ≤ 100000 ∧
    ∀ r ∈ b.rings, ∃ t : Int, 1 ≤ t ∧ t ≤ (thickF r (lightF b l, lightF b l)).1 ∧ (stressF r (t, t) l).2 ≤ limitF b := by
  unfold lightF at hw ⊢
  by_cases c1 : (needs b l).any (fun x => decide (0 = x)) = true
  · rw [if_pos c1] at hw; exact absurd rfl hw
  · rw [if_neg c1] at hw ⊢
    by_cases c2 : 100000 < firstF (doF b (needs b l)) 1 100000
    · rw [if_pos c2] at hw; exact absurd rfl hw
    · rw [if_neg c2]
      obtain ⟨f1, f2, f3⟩ := firstF_spec (F := doF b (needs b l)) (low := 1) (high := 100000) (by omega)
      refine ⟨f1, by omega, fun r hr => ?_⟩
      have hd := f3 (by omega)
      have hd := List.all_eq_true.1 (show ((b.rings.zip (needs b l)).all fun p => !decide ((thickF p.1 (firstF (doF b (needs b l)) 1 100000, firstF (doF b (needs b l)) 1 100000)).1 < p.2)) = true from hd)
      obtain ⟨i, hi, rfl⟩ := List.mem_iff_getElem.1 hr
      have hz : (b.rings[i], need1 b l b.rings[i]) ∈ b.rings.zip (needs b l) := by
        refine List.mem_iff_getElem?.2 ⟨i, ?_⟩
        rw [List.getElem?_zip_eq_some]
        exact ⟨by simp [hi], by simp [needs, hi]⟩
      have h1 := hd _ hz
      have h1 : need1 b l b.rings[i] ≤ (thickF b.rings[i] (firstF (doF b (needs b l)) 1 100000, firstF (doF b (needs b l)) 1 100000)).1 := by
        simpa using h1
      have h2 : need1 b l b.rings[i] ≠ 0 := fun e => by
        apply c1
        rw [List.any_eq_true]
        exact ⟨0, by rw [← e]; exact List.mem_map.2 ⟨_, hr, rfl⟩, by simp⟩
      obtain ⟨g1, g2, g3⟩ := firstF_spec (F := needF b l b.rings[i]) (low := 1) (high := 2000) (by omega)
      unfold need1 at h1 h2
      by_cases c3 : 2000 < firstF (needF b l b.rings[i]) 1 2000
      · rw [if_pos c3] at h2; exact absurd rfl h2
      · rw [if_neg c3] at h1
        refine ⟨_, g1, h1, ?_⟩
        have := g3 (by omega)
        simpa [needF] using this

/-- The walls that a weight makes of all rings. -/
def wallsF (b : Bottle) (n : Int) : List (Int × Int) := b.rings.map fun r => thickF r (n, n)
def mayF (ts : List (Int × Int)) : Bool := ts.all fun t => decide (1 ≤ t.1) && decide (t.2 ≤ 2000)
theorem holds_law (b : Bottle) (hc : chkE b = 0) (l : Load) (hg : goodL l = true) (hw : lightF b l ≠ 0) (n : Int) (hn : lightF b l ≤ n) (hm : mayF (wallsF b n) = true) :
    askE b (wallsF b n) l = 0 ∧ holdsF b (wallsF b n) l = (true, false) := by
  have hb := VB_of hc
  have hl := goodL_VL hg
  obtain ⟨w1, w2, w3⟩ := light_law b hb l hl hw
  have hmm : ∀ r ∈ b.rings, 1 ≤ (thickF r (n, n)).1 ∧ (thickF r (n, n)).1 ≤ (thickF r (n, n)).2 ∧ (thickF r (n, n)).2 ≤ 2000 := fun r hr => by
    unfold mayF at hm
    rw [List.all_eq_true] at hm
    have := hm (thickF r (n, n)) (List.mem_map.2 ⟨r, hr, rfl⟩)
    simp only [Bool.and_eq_true, decide_eq_true_eq] at this
    exact ⟨this.1, thick_le (hb.rs r hr) (by omega), this.2⟩
  have key : ∀ r ∈ b.rings, (stressF r (thickF r (n, n)) l).2 ≤ limitF b ∧ (stressF r (thickF r (n, n)) l).1 ≤ limitF b := fun r hr => by
    obtain ⟨t, t1, t2, t3⟩ := w3 r hr
    have hv := hb.rs r hr
    have a := thick_mono hv (show 0 ≤ lightF b l by omega) hn
    have c := stress_anti hv hl (t := (t, t)) (u := thickF r (n, n)) t1 (by simp only; omega)
    have d := stress_le hv hl (t := thickF r (n, n)) (hmm r hr).1 (hmm r hr).2.1
    omega
  have hz : ∀ p ∈ b.rings.zip (wallsF b n), ∃ r ∈ b.rings, p = (r, thickF r (n, n)) := fun p hp => by
    unfold wallsF at hp
    rw [List.zip_map_right] at hp
    obtain ⟨q, hq, rfl⟩ := List.mem_map.1 hp
    obtain ⟨i, hi, rfl⟩ := List.mem_iff_getElem.1 hq
    refine ⟨b.rings[i]'(by simpa using hi), List.getElem_mem _, by simp⟩
  constructor
  · unfold askE
    rw [if_pos hc]
    have e1 : decide (((wallsF b n).length : Int) = b.rings.length) = true := by simp [wallsF]
    have e2 : (wallsF b n).any (fun t => !spanF t 1 2000) = false := by
      rw [List.any_eq_false]
      intro t ht
      obtain ⟨r, hr, rfl⟩ := List.mem_map.1 ht
      rw [show spanF (thickF r (n, n)) 1 2000 = true from spanF_iff.2 (hmm r hr)]
      simp
    rw [e1, e2, hg]
    rfl
  · have h1 : (b.rings.zip (wallsF b n)).all (holdB b l) = true := by
      rw [List.all_eq_true]
      intro p hp
      obtain ⟨r, hr, rfl⟩ := hz p hp
      exact decide_eq_true (key r hr).1
    have h2 : (b.rings.zip (wallsF b n)).any (breakB b l) = false := by
      rw [List.any_eq_false]
      intro p hp
      obtain ⟨r, hr, rfl⟩ := hz p hp
      have := (key r hr).2
      simp [breakB]; omega
    unfold holdsF
    rw [h1, h2]
end Go.Proofs.YtbkjfjlmhlmdbaaG
