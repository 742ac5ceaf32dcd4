/- TopPulled: what its code computes. No condition. -/
import Derived.Test.YtbkjfjlmhlmdbaaP28
set_option linter.unusedVariables false
set_option linter.unusedSimpArgs false
set_option maxRecDepth 100000
set_option maxHeartbeats 4000000
namespace Go.Proofs.YtbkjfjlmhlmdbaaG
open Go Go.AM Go.Proofs

theorem top_term {s : Season} (h : Fr s) {p : List (List Int)} (po : POk s p) {o : Int} {d : Nat} (hd : (d : Int) < s.days) {j : Int} (hj : 0 ≤ j ∧ j < s.makers.length) (h0 : 0 ≤ onA s p (d : Int) j) :
    0 ≤ madeD s p o j d * wgt s (onA s p (d : Int) j) ∧ madeD s p o j d * wgt s (onA s p (d : Int) j) ≤ 100000000000 := by
  have a1 := onA_art h po hj (show (d : Int) - 1 < s.days by omega)
  have a2 := onA_art h po hj hd
  have hmm : ∀ m ∈ makersF s o, 0 ≤ m ∧ m < s.makers.length := fun m hm => makersF_mem hm
  have hml := Nat.le_trans (makersF_len s o) h.nm
  have r1 := onF_row h po hmm (by omega) (show (d : Int) - 1 < s.days by omega)
  have r2 := onF_row h po hmm (by omega) hd
  have ll := lostF_le h r1.arts r2.arts
  have t1 := term_le h hj h0 a2.2
  have m0 := madeA_le h ⟨ll.1, ll.2.1⟩ hj a1.2 a2.2
  have m1 := madeA_rate h ⟨ll.1, ll.2.1⟩ hj a1.2 h0 a2.2
  obtain ⟨x, hx, _, ew⟩ := art_get h0 a2.2
  have hw := h.art x (List.mem_of_getElem? hx)
  have t2 : madeD s p o j d * wgt s (onA s p (d : Int) j) ≤ rateF s j (onA s p (d : Int) j) * wgt s (onA s p (d : Int) j) :=
    Int.mul_le_mul_of_nonneg_right m1 (by rw [ew]; omega)
  have t3 : 0 ≤ madeD s p o j d * wgt s (onA s p (d : Int) j) := Int.mul_nonneg m0.1 (by rw [ew]; omega)
  omega
theorem onA_pos {s : Season} {p : List (List Int)} {d : Nat} {m : Int} : onA s p (d : Int) m = cell p m d := by unfold onA; rw [if_neg (by omega)]
end Go.Proofs.YtbkjfjlmhlmdbaaG
