/- Pulls. No condition. -/
import Derived.Test.YtmkmegcconjgoaaP18
set_option linter.unusedVariables false
set_option linter.unusedSimpArgs false
set_option maxRecDepth 100000
set_option maxHeartbeats 4000000
namespace Go.Proofs.YtmkmegcconjgoaaG
open Go Go.AM Go.Proofs

def pullD (s : Season) (p : List (List Int)) (k : Int) (d : Nat) : Int := pullF s (makersF s k) (onF s p (makersF s k) (d : Int))
def pullRow (s : Season) (p : List (List Int)) (k : Nat) : List Int := (List.range s.days.toNat).map (pullD s p (k : Int))
def pullsF (s : Season) (p : List (List Int)) : List (List Int) := (List.range s.ovens.length).map (pullRow s p)
def pullsTop (s : Season) (p : List (List Int)) : D := .tup [if keptE s p = 0 then planD (pullsF s p) else nilD, int (keptE s p)]
theorem map_range_succ {α : Type} (f : Nat → α) (n : Nat) : (List.range (n + 1)).map f = (List.range n).map f ++ [f n] := by simp [List.range_succ]

theorem Pulls_ok (s : Season) (hs : Sm s) (p : List (List Int)) (hp : SmP p) : PureFn Try.prog 24 [seasonD s, planD p] (pullsTop s p) := by
  have kp := kept_ok s hs p hp
  have kz := @kept_zero s hs p
  unfold pullsTop
  obtain ⟨E, hE⟩ : ∃ E, keptE s p = E := ⟨_, rfl⟩
  rw [hE] at kp kz ⊢
  refine pureFn_by Try.func24 k24 rfl rfl ?_
  conv => whnf
  refine ⟨_, kp, ?_⟩
  conv => whnf
  cases c0 : decide (E = 0)
  · have h1 := of_decide_eq_false c0
    rw [if_neg h1]
    conv => whnf
    kernel_rfl
  · have h1 := of_decide_eq_true c0
    obtain ⟨h, po, _⟩ := kz h1
    have hno := h.no
    have hdy := h.days
    subst h1
    rw [if_pos rfl]
    conv => whnf
    refine loopB (fun (x : Int × List (List D) × Nat) => ⟨mkT [(1, .d (planD p)), (2, .d (.fptr (cellsS s))), (7, .row 2 0 x.2.2 x.2.2), (20, .d (int (s.ovens.map i2).length)), (21, .d (int x.1))], mkB [(2, .row 1 x.2.1)]⟩)
      (fun x => ∃ k : Nat, x.1 = k ∧ k ≤ s.ovens.length ∧ x.2.1 = ((List.range k).map (pullRow s p)).map rowL ∧ x.2.2 = x.2.1.length) (fun x => (s.ovens.length - x.1).toNat) (0, [], 0) (by kernel_rfl) ⟨0, rfl, by omega, rfl, rfl⟩ ?_
    rintro ⟨_, els, n⟩ ⟨k, rfl, hk, he, hn⟩
    simp only at he hn
    conv => whnf
    cases c1 : decide ((k : Int) < ((s.ovens.map i2).length : Int))
    · have hk' : k = s.ovens.length := by have := of_decide_eq_false c1; rw [List.length_map] at this; omega
      subst hk'
      conv => whnf
      have fin : ∀ σ : St, σ.t 4 = .row 2 0 n n → σ.t 5 = .d (int 0) → σ.b 2 = .row 1 els → resA [.t 4, .t 5] σ = some (.tup [planD (pullsF s p), int 0]) := fun σ h1 h2 h3 => by
        have e1 : [RV.t 4, RV.t 5].mapM (readRV σ) = some [σ.t 4, σ.t 5] := rfl
        have e2 : Go.AM.snap σ.b 4 (σ.t 4) = some (planD (pullsF s p)) := by rw [h1, snap_row0 h3 hn, he]; rfl
        have e3 : Go.AM.snap σ.b 4 (σ.t 5) = some (int 0) := by rw [h2]; rfl
        unfold resA
        rw [e1]
        show ([σ.t 4, σ.t 5].mapM (Go.AM.snap σ.b 4)).map D.tup = _
        rw [mapM2 e2 e3]; rfl
      exact fin _ rfl rfl rfl
    · have hk' : k < s.ovens.length := by have := of_decide_eq_true c1; rw [List.length_map] at this; omega
      have hel : els.length = k := by rw [he]; simp
      have mk := makers_ok s h.sm (k : Int)
      have hml := Nat.le_trans (makersF_len s (k : Int)) h.nm
      obtain ⟨ms, hms⟩ : ∃ ms, makersF s (k : Int) = ms := ⟨_, rfl⟩
      have hmm : ∀ m ∈ ms, 0 ≤ m ∧ m < s.makers.length := fun m hm => makersF_mem (hms ▸ hm)
      have hpd : ∀ d : Nat, pullD s p (k : Int) d = pullF s ms (onF s p ms (d : Int)) := fun d => by unfold pullD; rw [hms]
      rw [hms] at mk hml
      conv => whnf
      refine ⟨_, mk, ?_⟩
      conv => whnf
      refine loopB (fun (x : Int × List (List D) × Nat) => ⟨mkT [(1, .d (planD p)), (2, .d (.fptr (cellsS s))), (7, .row 2 0 n n), (9, .d (rowD ms)), (10, .row 1 0 x.2.2 x.2.2), (20, .d (int (s.ovens.map i2).length)), (21, .d (int (k : Int))), (28, .d (int s.days)), (29, .d (int x.1))], mkB [(1, .row 1 x.2.1), (2, .row 1 els)]⟩)
        (fun x => ∃ d : Nat, x.1 = d ∧ (d : Int) ≤ s.days ∧ x.2.1 = ((List.range d).map (pullD s p (k : Int))).map i1 ∧ x.2.2 = x.2.1.length) (fun x => (s.days - x.1).toNat) (0, [], 0) (by kernel_rfl) ⟨0, rfl, by omega, rfl, rfl⟩ ?_
      rintro ⟨_, els1, n1⟩ ⟨d, rfl, hd, he1, hn1⟩
      simp only at he1 hn1
      have hel1 : els1.length = d := by rw [he1]; simp
      conv => whnf
      cases c2 : decide ((d : Int) < s.days)
      · have hd' : s.days.toNat = d := by have := of_decide_eq_false c2; omega
        have hrow : els1 = (pullRow s p k).map i1 := by rw [he1]; unfold pullRow; rw [hd']
        conv => whnf
        refine ⟨rfl, hn1, ?_⟩
        conv => whnf
        refine ⟨rfl, rfl, hn, most_le (by simp; omega), ?_⟩
        conv => whnf
        exact ⟨(IntKind.wrap .i64 ((k : Int) + 1), els ++ [[.list els1]], els.length + 1), by kernel_rfl, ⟨k + 1, nx (by omega), by omega, by rw [map_range_succ, List.map_append, ← he, hrow]; rfl, by simp⟩, by simp only; rw [nx (by omega)]; omega⟩
      · have hd' := of_decide_eq_true c2
        have on2 := on_ok s h p po ms hmm (by omega) (d : Int) hd'
        have r2 := onF_row h po hmm (by omega) hd'
        have dg := decigrams_ok s h ms _ r2
        have hle := decF_le h r2.ms r2.arts
        have hsm := r2.small
        have hq := quo_le hle.1 (show decF s ms (onF s p ms (d : Int)) ≤ 10000000000000 by omega)
        have ew : IntKind.wrap .i64 ((decF s ms (onF s p ms (d : Int))).tdiv 10000) = pullF s ms (onF s p ms (d : Int)) := wr_eq (by omega)
        conv => whnf
        refine ⟨_, on2, ?_⟩
        conv => whnf
        refine ⟨_, dg, ?_⟩
        conv => whnf
        refine ⟨by decide, ?_⟩
        rw [ew]
        conv => whnf
        refine ⟨rfl, rfl, hn1, most_le (by simp; omega), ?_⟩
        conv => whnf
        exact ⟨(IntKind.wrap .i64 ((d : Int) + 1), els1 ++ [[int (pullF s ms (onF s p ms (d : Int)))]], els1.length + 1), by kernel_rfl, ⟨d + 1, nx (by omega), by omega, by rw [map_range_succ, List.map_append, ← he1, hpd]; rfl, by simp⟩, by simp only; rw [nx (by omega)]; omega⟩
end Go.Proofs.YtmkmegcconjgoaaG
