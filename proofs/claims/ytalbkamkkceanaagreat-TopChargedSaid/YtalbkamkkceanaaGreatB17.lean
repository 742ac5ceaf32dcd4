/- The specification's search, and its best recipe. No condition. -/
import Derived.Test.YtalbkamkkceanaaGreatB16
set_option linter.unusedVariables false
set_option linter.unusedSimpArgs false
set_option maxRecDepth 100000
set_option maxHeartbeats 4000000
namespace Go.Proofs.YtalbkamkkceanaaGreatG
open Go Go.AM Go.Proofs

structure Pg (m : Mat) (n : Nat) (k : Int) : Prop where
  go : k ≤ m.most ↔ 0 < n
  eq : k = m.least + ((kcnt m : Int) - n) * m.step
  le : n ≤ kcnt m
theorem pg_first {m : Mat} (hs : 1 ≤ m.step) (hm : m.least ≤ m.most) : Pg m (kcnt m) m.least := by
  have hd : 0 ≤ (m.most - m.least) / m.step := Int.ediv_nonneg (by omega) (by omega)
  exact ⟨⟨fun _ => by unfold kcnt; omega, fun _ => hm⟩, by simp, Nat.le_refl _⟩
theorem pg_next {m : Mat} (hs : 1 ≤ m.step) (hm : m.least ≤ m.most) {n : Nat} {k : Int} (h : Pg m (n + 1) k) : Pg m n (k + m.step) := by
  have hl := prog_last hs hm (n + 1) k h.eq (by omega) h.le
  refine ⟨⟨fun h1 => by have := hl.1 h1; omega, fun h1 => hl.2 (by omega)⟩, ?_, by have := h.le; omega⟩
  rw [h.eq, show ((kcnt m : Int) - n) = ((kcnt m : Int) - ((n + 1 : Nat) : Int)) + 1 by omega, Int.add_mul]
  omega
theorem firstF_rok {right : List Int → Bool} {ms : List Mat} {l : List (List Int)} (hl : ∀ r ∈ l, Rok ms r) : ∀ {x : List Int × Bool}, (x.2 = true → Rok ms x.1) → ((l.foldl (fstep right ms) x).2 = true → Rok ms (l.foldl (fstep right ms) x).1) := by
  induction l with
  | nil => intro x h; exact h
  | cons r l ih =>
    intro x h
    simp only [List.foldl_cons]
    refine ih (fun y hy => hl y (by simp [hy])) ?_
    unfold fstep
    split
    · exact fun _ => hl r (by simp)
    · exact h
theorem first_ok (b : Bat) (hb : Bf b) : ∀ (rem : List Mat) (done : List Int) (x : List Int × Bool), b.mats.drop done.length = rem → done.length + rem.length = b.mats.length → (∀ k ∈ done, 0 ≤ k ∧ k ≤ 10000) → (x.2 = true → Rok b.mats x.1) →
    PureFn Tryz.prog 57 [batD b, linesD (linesF b), rowD done, recD x.2 x.1] (recD (firstF (keepsB (linesF b)) b.mats rem done x).2 (firstF (keepsB (linesF b)) b.mats rem done x).1) ∧ ((firstF (keepsB (linesF b)) b.mats rem done x).2 = true → Rok b.mats (firstF (keepsB (linesF b)) b.mats rem done x).1) := by
  intro rem
  induction rem with
  | nil =>
    intro done x hdr hl hd hx
    have e : firstF (keepsB (linesF b)) b.mats [] done x = fstep (keepsB (linesF b)) b.mats x done := by simp [firstF, recs]
    have hr : Rok b.mats done := ⟨by simpa using hl, hd⟩
    rw [e]
    refine ⟨first_leaf b hb done x hr hx, ?_⟩
    unfold fstep
    split
    · exact fun _ => hr
    · exact hx
  | cons m rem ih =>
    intro done x hdr hl hd hx
    have hnm := hb.nm
    simp only [List.length_cons] at hl
    have hm : b.mats[done.length]? = some m := by
      have := congrArg (fun l => l[0]?) hdr
      simpa [List.getElem?_drop] using this
    have hdr2 : b.mats.drop (done.length + 1) = rem := by
      have := drop_at hm
      rw [hdr] at this
      injection this with _ h2
      exact h2.symm
    have hmb := hb.mat m (List.mem_of_getElem? hm)
    rw [firstF_cons]
    obtain ⟨G, hG⟩ : ∃ G : List Int × Bool → Int → List Int × Bool, (fun x k => firstF (keepsB (linesF b)) b.mats rem (done ++ [k]) x) = G := ⟨_, rfl⟩
    have ihG : ∀ k x, 0 ≤ k ∧ k ≤ 10000 → (x.2 = true → Rok b.mats x.1) → PureFn Tryz.prog 57 [batD b, linesD (linesF b), rowD (done ++ [k]), recD x.2 x.1] (recD (G x k).2 (G x k).1) ∧ ((G x k).2 = true → Rok b.mats (G x k).1) := fun k x hk hx => by
      rw [← hG]
      exact ih (done ++ [k]) x (by simpa using hdr2) (by simp; omega) (fun y hy => by
        rcases List.mem_append.1 hy with hy | hy
        · exact hd y hy
        · simp at hy; subst hy; exact hk) hx
    rw [hG]
    have hrok : ∀ (n : Nat) (k : Int) (x : List Int × Bool), Pg m n k → m.least ≤ k → (x.2 = true → Rok b.mats x.1) → (((prog k m.step n).foldl G x).2 = true → Rok b.mats ((prog k m.step n).foldl G x).1) := fun n => by
      induction n with
      | zero => intro k x _ _ h; exact h
      | succ n ihn =>
        intro k x hp hk h
        simp only [prog, List.foldl_cons]
        have := hp.go.2 (by omega)
        exact ihn (k + m.step) (G x k) (pg_next (by omega) (by omega) hp) (by omega) (ihG k x (by omega) h).2
    obtain ⟨FIN, hFIN⟩ : ∃ FIN, (kilosF m).foldl G x = FIN := ⟨_, rfl⟩
    have hfr : FIN.2 = true → Rok b.mats FIN.1 := by rw [← hFIN]; exact hrok (kcnt m) m.least x (pg_first (by omega) (by omega)) (by omega) hx
    rw [hFIN]
    refine ⟨?_, hfr⟩
    refine pureFn_by Tryz.func57 k57 rfl rfl ?_
    conv => whnf
    rw [List.length_map, List.length_map, show decide ((done.length : Int) = (b.mats.length : Int)) = false from decide_eq_false (by omega)]
    conv => whnf
    refine ⟨by omega, _, (by rw [List.length_map]; exact gm hm), ?_⟩
    conv => whnf
    refine loopB (fun (x : Int × List Int × Bool) => ⟨mkT [(1, .d (linesD (linesF b))), (2, .d (rowD done)), (3, .d (recD x.2.2 x.2.1)), (4, .d (.fptr (cellsB b))), (9, .ptr 1 0), (10, .d (int x.1))], mkB [(1, .var [.d (strD m.name), .d (int m.price), .d (int m.redox), .d (int m.least), .d (int m.most), .d (int m.step), .d (pairsD m.content)])]⟩)
      (fun x => ∃ n : Nat, Pg m n x.1 ∧ m.least ≤ x.1 ∧ x.1 ≤ 20000 ∧ (prog x.1 m.step n).foldl G x.2 = FIN ∧ (x.2.2 = true → Rok b.mats x.2.1)) (fun x => (m.most + m.step - x.1).toNat) (m.least, x) (by kernel_rfl) ⟨kcnt m, pg_first (by omega) (by omega), Int.le_refl _, by simp only; omega, hFIN, hx⟩ ?_
    rintro ⟨k, x1, x2⟩ ⟨n, hp, hk0, hk1, hf, hxr⟩
    simp only at hp hk0 hk1 hf hxr
    conv => whnf
    cases c1 : decide (k ≤ m.most)
    · have hn : n = 0 := by have := of_decide_eq_false c1; have := hp.go; omega
      subst hn
      have hf : (x1, x2) = FIN := hf
      subst hf
      conv => whnf
      kernel_rfl
    · have hkm := of_decide_eq_true c1
      obtain ⟨n', rfl⟩ : ∃ n', n = n' + 1 := ⟨n - 1, by have := hp.go.1 hkm; omega⟩
      have hg := ihG k (x1, x2) (by omega) hxr
      simp only [prog, List.foldl_cons] at hf
      have ew : IntKind.wrap .i64 (k + m.step) = k + m.step := wr_eq (by omega)
      conv => whnf
      refine ⟨by rw [List.all_eq_true]; intro e h; obtain ⟨_, _, rfl⟩ := List.mem_map.1 h; rfl, ?_⟩
      conv => whnf
      refine ⟨most_le (by simp; omega), ?_⟩
      conv => whnf
      refine ⟨rfl, rfl, by simp, most_le (by simp; omega), ?_⟩
      conv => whnf
      have hg1 := hg.1
      rw [rowD, List.map_append] at hg1
      refine ⟨_, hg1, ?_⟩
      conv => whnf
      rw [ew]
      exact ⟨(k + m.step, G (x1, x2) k), by kernel_rfl, ⟨n', pg_next (by omega) (by omega) hp, by simp only; omega, by simp only; omega, hf, hg.2⟩, by simp only; omega⟩
end Go.Proofs.YtalbkamkkceanaaGreatG
