/- What a furnace's machines make weighs no more than what is pulled. No condition. -/
import Derived.Test.YtmkmegcconjgoaaP27
set_option linter.unusedVariables false
set_option linter.unusedSimpArgs false
set_option maxRecDepth 100000
set_option maxHeartbeats 4000000
namespace Go.Proofs.YtmkmegcconjgoaaG
open Go Go.AM Go.Proofs

theorem madeA_rate {s : Season} (h : Fr s) {lost m b a : Int} (hl : 0 ≤ lost ∧ lost ≤ 1440) (hm : 0 ≤ m ∧ m < s.makers.length) (hb : b < s.arts.length) (h0 : 0 ≤ a) (ha : a < s.arts.length) : madeA s lost m b a ≤ rateF s m a := by
  unfold madeA
  rw [if_neg (by omega)]
  obtain ⟨M, r, _, _, e, h1, h2⟩ := rate_get h hm h0 ha
  have j := jobF_le h hb ⟨h0, ha⟩
  rw [e]
  have hq : max (1440 - (lost + (jobF s b a).1)) 0 ≤ 1440 := by omega
  have hn : 0 ≤ max (1440 - (lost + (jobF s b a).1)) 0 := by omega
  have h3 : r * max (1440 - (lost + (jobF s b a).1)) 0 ≤ r * 1440 := Int.mul_le_mul_of_nonneg_left hq h1
  rw [Int.tdiv_eq_ediv_of_nonneg (Int.mul_nonneg h1 hn)]
  omega

/-- What the machines of a furnace make on a day, in decigrams. -/
def topSum (s : Season) (p : List (List Int)) (o : Int) (d : Nat) : List Mk → Nat → Int
  | [], _ => 0
  | M :: Ms, j => (if M.oven = o ∧ 0 ≤ onA s p (d : Int) (j : Int) then madeD s p o (j : Int) d * wgt s (onA s p (d : Int) (j : Int)) else 0) + topSum s p o d Ms (j + 1)

theorem top_le {s : Season} (h : Fr s) {p : List (List Int)} (po : POk s p) {o : Int} {d : Nat} (hd : (d : Int) < s.days) : ∀ (Ms : List Mk) (j : Nat), j + Ms.length ≤ s.makers.length →
    0 ≤ topSum s p o d Ms j ∧ topSum s p o d Ms j ≤ decF s (mkFrom o Ms j) ((mkFrom o Ms j).map (onA s p (d : Int))) ∧ topSum s p o d Ms j ≤ 100000000000 * Ms.length
  | [], j, _ => by simp [topSum, mkFrom, decF]
  | M :: Ms, j, hj => by
    simp only [List.length_cons] at hj
    have ih := top_le h po (o := o) hd Ms (j + 1) (by omega)
    have hjm : 0 ≤ (j : Int) ∧ (j : Int) < s.makers.length := by omega
    have a1 := onA_art h po hjm (show (d : Int) - 1 < s.days by omega)
    have a2 := onA_art h po hjm hd
    have hmm : ∀ m ∈ makersF s o, 0 ≤ m ∧ m < s.makers.length := fun m hm => makersF_mem hm
    have hml := Nat.le_trans (makersF_len s o) h.nm
    have r1 := onF_row h po hmm (by omega) (show (d : Int) - 1 < s.days by omega)
    have r2 := onF_row h po hmm (by omega) hd
    have ll := lostF_le h r1.arts r2.arts
    unfold topSum mkFrom
    by_cases ho : M.oven = o
    · rw [if_pos ho]
      simp only [List.map_cons, decF, List.length_cons]
      by_cases h0 : 0 ≤ onA s p (d : Int) (j : Int)
      · rw [if_pos ⟨ho, h0⟩, if_pos h0]
        have t1 := term_le h hjm h0 a2.2
        have m0 := madeA_le h ⟨ll.1, ll.2.1⟩ hjm a1.2 a2.2
        have m1 := madeA_rate h ⟨ll.1, ll.2.1⟩ hjm a1.2 h0 a2.2
        obtain ⟨x, hx, _, ew⟩ := art_get h0 a2.2
        have hw := h.art x (List.mem_of_getElem? hx)
        have t2 : madeD s p o (j : Int) d * wgt s (onA s p (d : Int) (j : Int)) ≤ rateF s (j : Int) (onA s p (d : Int) (j : Int)) * wgt s (onA s p (d : Int) (j : Int)) :=
          Int.mul_le_mul_of_nonneg_right m1 (by rw [ew]; omega)
        have t3 : 0 ≤ madeD s p o (j : Int) d * wgt s (onA s p (d : Int) (j : Int)) := Int.mul_nonneg m0.1 (by rw [ew]; omega)
        omega
      · rw [if_neg (fun e => h0 e.2), if_neg h0]; omega
    · rw [if_neg (fun e => ho e.1), if_neg ho]
      simp only [List.length_cons]
      omega
theorem top_lt {s : Season} (h : Fr s) {p : List (List Int)} (po : POk s p) {o : Int} {d : Nat} (hd : (d : Int) < s.days) : 0 ≤ topSum s p o d s.makers 0 ∧ topSum s p o d s.makers 0 < 10000 * (pullD s p o d + 1) := by
  have h1 := top_le h po (o := o) hd s.makers 0 (by omega)
  have hmm : ∀ m ∈ makersF s o, 0 ≤ m ∧ m < s.makers.length := fun m hm => makersF_mem hm
  have hml := Nat.le_trans (makersF_len s o) h.nm
  have r2 := onF_row h po hmm (by omega) hd
  have h2 := decF_le h r2.ms r2.arts
  have e : decF s (mkFrom o s.makers 0) ((mkFrom o s.makers 0).map (onA s p (d : Int))) = decF s (makersF s o) (onF s p (makersF s o) (d : Int)) := rfl
  rw [e] at h1
  unfold pullD pullF
  rw [Int.tdiv_eq_ediv_of_nonneg h2.1]
  omega
end Go.Proofs.YtmkmegcconjgoaaG
