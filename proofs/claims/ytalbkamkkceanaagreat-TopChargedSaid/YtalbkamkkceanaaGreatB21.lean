/- What a best recipe brings and costs; errors of best recipes. No condition. -/
import Derived.Test.YtalbkamkkceanaaGreatB20
set_option linter.unusedVariables false
set_option linter.unusedSimpArgs false
set_option maxRecDepth 100000
set_option maxHeartbeats 4000000
namespace Go.Proofs.YtalbkamkkceanaaGreatG
open Go Go.AM Go.Proofs

theorem lowSum_cons {x : Int × Int} {l : List (Int × Int)} : lowSum (x :: l) = x.1 + lowSum l := by simp [lowSum]
theorem highSum_cons {x : Int × Int} {l : List (Int × Int)} : highSum (x :: l) = x.2 + highSum l := by simp [highSum]
theorem gAdd_low : ∀ {out c : List (Int × Int)} {a : Int}, out.length = c.length → lowSum (gAdd out a c) = lowSum out + a * lowSum c ∧ highSum (gAdd out a c) = highSum out + a * highSum c
  | [], [], a, _ => by simp [gAdd, lowSum, highSum]
  | o :: out, s :: c, a, h => by
    have ih := gAdd_low (out := out) (c := c) (a := a) (by simpa using h)
    simp only [gAdd, lowSum_cons, highSum_cons, ih.1, ih.2, Int.mul_add]
    omega
  | [], _ :: _, _, h => by simp at h
  | _ :: _, [], _, h => by simp at h
theorem gramsL_low : ∀ {ms : List Mat} {r : List Int} {out : List (Int × Int)}, (∀ m ∈ ms, m.content.length = out.length) →
    lowSum (gramsL ms r out) = lowSum out + dotF r (ms.map fun m => lowSum m.content) ∧ highSum (gramsL ms r out) = highSum out + dotF r (ms.map fun m => highSum m.content)
  | [], r, out, _ => by cases r <;> simp [gramsL, dotF]
  | m :: ms, [], out, _ => by simp [gramsL, dotF]
  | m :: ms, a :: r, out, h => by
    have hm := h m (by simp)
    have e := gAdd_low (a := a) hm.symm
    have el := gAdd_len (a := a) hm.symm
    have ih := gramsL_low (ms := ms) (r := r) (out := gAdd out a m.content) (fun x hx => by rw [el, hm]; exact h x (by simp [hx]))
    simp only [gramsL, List.map_cons, dotF, ih.1, ih.2, e.1, e.2]
    omega
theorem dotF_neg : ∀ {r l : List Int}, dotF r (l.map fun x => -x) = - dotF r l
  | [], l => by simp [dotF]
  | a :: r, [] => by simp [dotF]
  | a :: r, x :: l => by
    simp only [List.map_cons, dotF]
    rw [dotF_neg, Int.mul_neg]
    omega
theorem dotF_bound {A B : Int} (hAB : 0 ≤ A * B) : ∀ {r l : List Int}, (∀ k ∈ r, 0 ≤ k ∧ k ≤ A) → (∀ k ∈ l, 0 ≤ k ∧ k ≤ B) → 0 ≤ dotF r l ∧ dotF r l ≤ A * B * (l.length : Int)
  | [], l, _, _ => ⟨by simp [dotF], by simp only [dotF]; exact Int.mul_nonneg hAB (by omega)⟩
  | a :: r, [], _, _ => by simp [dotF]
  | a :: r, x :: l, h1, h2 => by
    have ih := dotF_bound hAB (r := r) (l := l) (fun k hk => h1 k (by simp [hk])) (fun k hk => h2 k (by simp [hk]))
    have b1 := h1 a (by simp)
    have b2 := h2 x (by simp)
    have m0 : 0 ≤ a * x := Int.mul_nonneg (by omega) (by omega)
    have m1 : a * x ≤ A * B := Int.mul_le_mul b1.2 (by omega) (by omega) (by omega)
    simp only [dotF, List.length_cons]
    rw [show A * B * (((l.length + 1 : Nat)) : Int) = A * B * (l.length : Int) + A * B by push_cast; rw [Int.mul_add]; omega]
    omega
theorem bst_keeps {right : List Int → Bool} {ms : List Mat} : ∀ {l : List (List Int)} {σ : Bst}, (σ.2.2 = true → right σ.1 = true) → (l.foldl (bstep right ms) σ).2.2 = true → right (l.foldl (bstep right ms) σ).1 = true
  | [], _, h, h2 => h h2
  | r :: l, σ, h, h2 => by
    simp only [List.foldl_cons] at h2 ⊢
    refine bst_keeps (fun h3 => ?_) h2
    unfold bstep at h3 ⊢
    split
    · rename_i h4; rw [Bool.and_eq_true] at h4; exact h4.2
    · rename_i h4; rw [if_neg h4] at h3; exact h h3
/-- A best recipe: what it costs, and the least that it brings. -/
def glassF (b : Bat) : Int × Int := ((bestR b).2.1, lowSum (gramsF b (bestR b).1))
structure Gl (b : Bat) : Prop where
  rok : Rok b.mats (bestR b).1
  cost : 0 ≤ (glassF b).1 ∧ (glassF b).1 ≤ 1200000000
  low : 1000 ≤ (glassF b).2
  high : (glassF b).2 ≤ highSum (gramsF b (bestR b).1) ∧ highSum (gramsF b (bestR b).1) ≤ 1440000000
theorem sum_le {B : Int} : ∀ {l : List (Int × Int)}, Gb B l → 0 ≤ lowSum l ∧ lowSum l ≤ highSum l ∧ highSum l ≤ B * (l.length : Int)
  | [], _ => by simp [lowSum, highSum]
  | x :: l, h => by
    have ih := sum_le (B := B) (l := l) (fun o ho => h o (by simp [ho]))
    have b1 := h x (by simp)
    rw [lowSum_cons, highSum_cons, List.length_cons, show B * (((l.length + 1 : Nat)) : Int) = B * (l.length : Int) + B by push_cast; rw [Int.mul_add]; omega]
    omega
theorem gl_of {b : Bat} (hb : Bf b) (hf : (bestR b).2.2 = true) : Gl b := by
  have ft := first_top b hb
  have hr := ft.2 hf
  have hnm := hb.nm
  have hno := hb.no
  have hw := hb.wanted
  have hk : keepsB (linesF b) (bestR b).1 = true := bst_keeps (fun h => by simp at h) hf
  have hg : Gb (0 + 10000000 * (b.mats.length : Int)) (gramsF b (bestR b).1) := gramsL_b (fun m hm => (hb.mat m hm).2.2.2.2.2.2.2.2.2.2.1) hr.el (by decide) (fun o ho => by rw [List.eq_of_mem_replicate ho]; simp)
  have hgl : (gramsF b (bestR b).1).length = b.oxides.length := by
    unfold gramsF
    rw [gramsL_len (fun m hm => by rw [List.length_replicate]; exact (hb.mat m hm).2.2.2.2.2.2.2.2.2.1), List.length_replicate]
  have hs := sum_le hg
  have m1 : (0 + 10000000 * (b.mats.length : Int)) * ((gramsF b (bestR b).1).length : Int) ≤ 120000000 * 12 := Int.mul_le_mul (by omega) (by rw [hgl]; omega) (by omega) (by omega)
  refine ⟨hr, ?_, ?_, ⟨hs.2.1, by omega⟩⟩
  · show 0 ≤ (bestR b).2.1 ∧ (bestR b).2.1 ≤ _
    rw [(bestR_first b).2.2 hf]
    have := dotF_bound (A := 10000) (B := 10000) (by decide) (r := (bestR b).1) (l := b.mats.map (·.price)) hr.el (fun k hk => by
      obtain ⟨m, hm, rfl⟩ := List.mem_map.1 hk
      have := hb.mat m hm
      omega)
    rw [List.length_map] at this
    unfold costB
    omega
  · show 1000 ≤ lowSum (gramsF b (bestR b).1)
    have e := (gramsL_low (ms := b.mats) (r := (bestR b).1) (out := List.replicate b.oxides.length (0, 0)) (fun m hm => by rw [List.length_replicate]; exact (hb.mat m hm).2.2.2.2.2.2.2.2.2.1)).1
    have e0 : lowSum (List.replicate b.oxides.length ((0 : Int), (0 : Int))) = 0 := by simp [lowSum]
    unfold gramsF
    rw [e, e0]
    unfold keepsB at hk
    rw [Bool.not_eq_true', List.any_eq_false] at hk
    have h1 := hk (b.mats.map low1, -1000 * b.wanted) (by simp [linesF, lines0])
    simp only [decide_eq_true_eq] at h1
    have e1 : b.mats.map low1 = (b.mats.map fun m => lowSum m.content).map fun x => -x := by rw [List.map_map]; rfl
    rw [e1, dotF_neg] at h1
    omega
def bestE (b : Bat) : Int := if batE b = 0 then if fewL b.mats 1 = true then 0 else 9 else batE b
def glassE (b : Bat) : Int := if bestE b ≠ 0 then bestE b else if (bestR b).2.2 = true then 0 else 7
theorem top_err {b : Bat} (h : bestE b ≠ 0) : bestTop b = .tup [nilD, int 0, boolD false, int (bestE b)] := by
  unfold bestE at h ⊢
  unfold bestTop
  split
  · rename_i h1
    rw [if_pos h1] at h
    split
    · rename_i h2; rw [if_pos h2] at h; exact absurd rfl h
    · rfl
  · rfl
theorem best_zero {b : Bat} (h : bestE b = 0) : batE b = 0 ∧ fewL b.mats 1 = true := by
  unfold bestE at h
  split at h
  · rename_i h1
    split at h
    · rename_i h2; exact ⟨h1, h2⟩
    · simp at h
  · rename_i h1; exact absurd h h1
theorem top_none {b : Bat} (h : bestE b = 0) (hf : (bestR b).2.2 = false) : bestTop b = .tup [nilD, int 0, boolD false, int 0] := by
  have hz := best_zero h
  unfold bestTop
  rw [if_pos hz.1, if_pos hz.2, hf, show (bestR b).2.1 = 0 from bst_none (fun _ => rfl) hf]
theorem top_some {b : Bat} (h : bestE b = 0) (hf : (bestR b).2.2 = true) : bestTop b = .tup [rowD (bestR b).1, int (glassF b).1, boolD true, int 0] := by
  have hz := best_zero h
  unfold bestTop
  rw [if_pos hz.1, if_pos hz.2, hf]
  rfl
theorem glass_zero {b : Bat} (h : glassE b = 0) : bestE b = 0 ∧ (bestR b).2.2 = true := by
  unfold glassE at h
  split at h
  · rename_i h1; exact absurd h h1
  · rename_i h1
    split at h
    · rename_i h2; exact ⟨by omega, h2⟩
    · simp at h
/-- The first error of best recipes. -/
def glassesE : List Bat → Int
  | [] => 0
  | b :: l => if glassE b ≠ 0 then glassE b else glassesE l
theorem glasses_zero : ∀ {l : List Bat}, glassesE l = 0 → ∀ b ∈ l, glassE b = 0
  | [], _ => fun b hb => by simp at hb
  | x :: l, h => fun b hb => by
    simp only [glassesE] at h
    split at h
    · rename_i h1; exact absurd h h1
    · rename_i h1
      rcases List.mem_cons.1 hb with rfl | hb
      · omega
      · exact glasses_zero h b hb
end Go.Proofs.YtalbkamkkceanaaGreatG
