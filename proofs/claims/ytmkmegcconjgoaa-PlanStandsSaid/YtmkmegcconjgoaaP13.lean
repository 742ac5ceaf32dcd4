/- Plans: whether one may be, and whether it keeps a season. No condition. -/
import Derived.Test.YtmkmegcconjgoaaP12
set_option linter.unusedVariables false
set_option linter.unusedSimpArgs false
set_option maxRecDepth 100000
set_option maxHeartbeats 4000000
namespace Go.Proofs.YtmkmegcconjgoaaG
open Go Go.AM Go.Proofs

theorem badArt_ok (s : Season) (hs : Sm s) (a : Int) : PureFn Try.prog 75 [int a, .fptr (cellsS s)] (boolD (!withinF a (-1) ((s.arts.length : Int) - 1))) := by
  have ha := hs.arts
  have hwa : IntKind.wrap .i64 (((s.arts.map artL).length : Int) - 1) = (s.arts.length : Int) - 1 := by rw [List.length_map, wr_eq (by omega)]
  refine pureFn_by Try.func75 k75 rfl rfl ?_
  conv => whnf
  refine ⟨_, within_ok _ _ _, ?_⟩
  rw [hwa]
  conv => whnf
  kernel_rfl
def planRow (s : Season) (r : List Int) : Bool := decide ((r.length : Int) = s.days) && !(r.any fun a => !withinF a (-1) ((s.arts.length : Int) - 1))
def planE (s : Season) (p : List (List Int)) : Int := if (p.length : Int) = s.makers.length then (if p.all (planRow s) = true then 0 else 1) else 1
/-- A plan is not long. -/
def SmP (p : List (List Int)) : Prop := p.length ≤ 20 ∧ ∀ r ∈ p, r.length ≤ 30

theorem checkPlan_ok (s : Season) (hs : Sm s) (p : List (List Int)) (hp : SmP p) : PureFn Try.prog 43 [seasonD s, planD p] (int (planE s p)) := by
  have hl := hp.1
  refine pureFn_by Try.func43 k43 rfl rfl ?_
  unfold planE
  obtain ⟨B, hB⟩ : ∃ B, p.all (planRow s) = B := ⟨_, rfl⟩
  rw [hB]
  conv => whnf
  rw [List.length_map, List.length_map]
  cases c0 : decide ((p.length : Int) = s.makers.length)
  · rw [if_neg (of_decide_eq_false c0)]
    conv => whnf
    kernel_rfl
  · rw [if_pos (of_decide_eq_true c0)]
    conv => whnf
    refine loopB (fun (i : Int) => ⟨mkT [(2, .d (.fptr (cellsS s))), (13, .d (planD p)), (14, .d (int (p.map rowL).length)), (15, .d (int i))], mkB []⟩)
      (fun i => ∃ k : Nat, i = k ∧ k ≤ p.length ∧ (p.drop k).all (planRow s) = B) (fun i => (p.length - i).toNat) 0 (by kernel_rfl) ⟨0, rfl, by omega, hB⟩ ?_
    rintro _ ⟨i, rfl, hi, hb⟩
    conv => whnf
    rw [List.length_map]
    cases c1 : decide ((i : Int) < (p.length : Int))
    · have hi' : i = p.length := by have := of_decide_eq_false c1; omega
      subst hi'
      rw [drop_end] at hb
      rw [← hb]
      conv => whnf
      kernel_rfl
    · have hi' : i < p.length := by have := of_decide_eq_true c1; omega
      obtain ⟨r, hx⟩ := get_lt hi'
      have hd := drop_at hx
      rw [hd, List.all_cons] at hb
      have key := any1_ok (fun a : Int => int a) r (fun a => !withinF a (-1) ((s.arts.length : Int) - 1)) 75 [.fptr (cellsS s)] (by have := hp.2 r (List.mem_of_getElem? hx); omega) (fun a _ => badArt_ok s hs a)
      have e : planRow s r = (decide ((r.length : Int) = s.days) && !(r.any fun a => !withinF a (-1) ((s.arts.length : Int) - 1))) := rfl
      rw [e] at hb
      conv => whnf
      refine ⟨by omega, _, gm hx, ?_⟩
      conv => whnf
      rw [List.length_map]
      cases c2 : decide ((r.length : Int) = s.days)
      · rw [c2] at hb
        rw [← hb]
        conv => whnf
        kernel_rfl
      · rw [c2] at hb
        conv => whnf
        refine ⟨_, key, ?_⟩
        cases c3 : (r.any fun a => !withinF a (-1) ((s.arts.length : Int) - 1))
        · rw [c3] at hb
          conv => whnf
          exact ⟨IntKind.wrap .i64 ((i : Int) + 1), by kernel_rfl, ⟨i + 1, nx (by omega), by omega, hb⟩, by rw [nx (by omega)]; omega⟩
        · rw [c3] at hb
          rw [← hb]
          conv => whnf
          kernel_rfl

/-- A plan that may be. -/
structure POk (s : Season) (p : List (List Int)) : Prop where
  len : p.length = s.makers.length
  rows : ∀ r ∈ p, (r.length : Int) = s.days ∧ Arts s r
theorem pok_of {s : Season} {p : List (List Int)} (h : planE s p = 0) : POk s p := by
  unfold planE at h
  split at h
  · rename_i h1
    split at h
    · rename_i h2
      refine ⟨by omega, fun r hr => ?_⟩
      have := List.all_eq_true.1 h2 r hr
      simp only [planRow, Bool.and_eq_true, decide_eq_true_eq, Bool.not_eq_true', List.any_eq_false] at this
      refine ⟨this.1, fun a ha => ?_⟩
      have := within_iff.1 (by simpa using this.2 a ha)
      omega
    · cases h
  · cases h

def cell (p : List (List Int)) (m d : Int) : Int := ((p[m.toNat]?).bind (·[d.toNat]?)).getD 0
def startF (s : Season) (m : Int) : Int := ((s.makers[m.toNat]?).map (·.start)).getD 0
def onA (s : Season) (p : List (List Int)) (d : Int) (m : Int) : Int := if d < 0 then startF s m else cell p m d
def onF (s : Season) (p : List (List Int)) (ms : List Int) (d : Int) : List Int := ms.map (onA s p d)

theorem cell_get {s : Season} {p : List (List Int)} (hp : POk s p) {m d : Int} (hm : 0 ≤ m ∧ m < s.makers.length) (hd : 0 ≤ d ∧ d < s.days) :
    ∃ r a, p[m.toNat]? = some r ∧ r[d.toNat]? = some a ∧ cell p m d = a ∧ -1 ≤ a ∧ a < s.arts.length := by
  have := hp.len
  obtain ⟨r, hr⟩ := get_lt (xs := p) (i := m.toNat) (by omega)
  have h1 := hp.rows r (List.mem_of_getElem? hr)
  obtain ⟨a, ha⟩ := get_lt (xs := r) (i := d.toNat) (by omega)
  exact ⟨r, a, hr, ha, by simp [cell, hr, ha], h1.2 a (List.mem_of_getElem? ha)⟩
theorem start_get {s : Season} (h : Fr s) {m : Int} (hm : 0 ≤ m ∧ m < s.makers.length) : ∃ M, s.makers[m.toNat]? = some M ∧ startF s m = M.start ∧ -1 ≤ M.start ∧ M.start < s.arts.length := by
  obtain ⟨M, hM⟩ := get_lt (xs := s.makers) (i := m.toNat) (by omega)
  have := h.maker M (List.mem_of_getElem? hM)
  exact ⟨M, hM, by simp [startF, hM], by omega, by omega⟩
theorem onA_art {s : Season} (h : Fr s) {p : List (List Int)} (hp : POk s p) {m d : Int} (hm : 0 ≤ m ∧ m < s.makers.length) (hd : d < s.days) : -1 ≤ onA s p d m ∧ onA s p d m < s.arts.length := by
  unfold onA
  split
  · obtain ⟨M, _, e, h1⟩ := start_get h hm; rw [e]; exact h1
  · obtain ⟨r, a, _, _, e, h1⟩ := cell_get hp hm ⟨by omega, hd⟩; rw [e]; exact h1
theorem onF_row {s : Season} (h : Fr s) {p : List (List Int)} (hp : POk s p) {ms : List Int} {d : Int} (hms : ∀ m ∈ ms, 0 ≤ m ∧ m < s.makers.length) (hl : ms.length ≤ 10) (hd : d < s.days) : Row s ms (onF s p ms d) :=
  ⟨by simp [onF], by simpa [onF] using hl, hms, fun a ha => by
    obtain ⟨m, hm, rfl⟩ := List.mem_map.1 ha
    exact onA_art h hp (hms m hm) hd⟩

theorem on_ok (s : Season) (h : Fr s) (p : List (List Int)) (hp : POk s p) (ms : List Int) (hms : ∀ m ∈ ms, 0 ≤ m ∧ m < s.makers.length) (hl : ms.length ≤ 10) (d : Int) (hd : d < s.days) :
    PureFn Try.prog 55 [seasonD s, planD p, rowD ms, int d] (rowD (onF s p ms d)) := by
  refine pureFn_by Try.func55 k55 rfl rfl ?_
  conv => whnf
  refine loopB (fun (x : Int × List (List D) × Nat) => ⟨mkT [(1, .d (planD p)), (3, .d (int d)), (4, .d (.fptr (cellsS s))), (9, .row 1 0 x.2.2 x.2.2), (12, .d (rowD ms)), (13, .d (int (ms.map i1).length)), (14, .d (int x.1))], mkB [(1, .row 1 x.2.1)]⟩)
    (fun x => ∃ i : Nat, x.1 = i ∧ i ≤ ms.length ∧ x.2.1 = (onF s p (ms.take i) d).map i1 ∧ x.2.2 = x.2.1.length) (fun x => (ms.length - x.1).toNat) (0, [], 0) (by kernel_rfl) ⟨0, rfl, by omega, rfl, rfl⟩ ?_
  rintro ⟨_, els, n⟩ ⟨i, rfl, hi, he, hn⟩
  simp only at he hn
  conv => whnf
  rw [List.length_map]
  cases c1 : decide ((i : Int) < (ms.length : Int))
  · have hi' : i = ms.length := by have := of_decide_eq_false c1; omega
    rw [hi', List.take_length] at he
    conv => whnf
    refine (resA_row (s := 1) (n := n) (esz := 1) (els := els) rfl rfl hn).trans ?_
    rw [he]
  · have hi' : i < ms.length := by have := of_decide_eq_true c1; omega
    obtain ⟨m, hx⟩ := get_lt hi'
    have hm := hms m (List.mem_of_getElem? hx)
    have htk : ms.take (i + 1) = ms.take i ++ [m] := by rw [List.take_add_one]; simp [hx]
    have hel : els.length = i := by rw [he]; simp [onF]; omega
    have hnew : ∀ v, onA s p d m = v → els ++ [[int v]] = (onF s p (ms.take (i + 1)) d).map i1 := fun v hv => by
      rw [htk, he]; simp [onF, hv]
    conv => whnf
    refine ⟨by omega, _, gm hx, ?_⟩
    conv => whnf
    cases c2 : decide (d < 0)
    · have h2 := of_decide_eq_false c2
      obtain ⟨r, a, hr, ha, ec, _⟩ := cell_get hp hm ⟨by omega, hd⟩
      have ho : onA s p d m = a := by unfold onA; rw [if_neg h2, ec]
      conv => whnf
      refine ⟨hm.1, _, gz hr, ?_⟩
      conv => whnf
      refine ⟨by omega, _, gz ha, ?_⟩
      conv => whnf
      refine ⟨rfl, rfl, hn, most_le (by simp; omega), ?_⟩
      conv => whnf
      exact ⟨(IntKind.wrap .i64 ((i : Int) + 1), els ++ [[int a]], els.length + 1), by kernel_rfl, ⟨i + 1, nx (by omega), by omega, hnew a ho, by simp⟩, by simp only; rw [nx (by omega)]; omega⟩
    · have h2 := of_decide_eq_true c2
      obtain ⟨M, hM, es, _⟩ := start_get h hm
      have ho : onA s p d m = M.start := by unfold onA; rw [if_pos h2, es]
      conv => whnf
      refine ⟨hm.1, _, gz hM, ?_⟩
      conv => whnf
      refine ⟨rfl, rfl, hn, most_le (by simp; omega), ?_⟩
      conv => whnf
      exact ⟨(IntKind.wrap .i64 ((i : Int) + 1), els ++ [[int M.start]], els.length + 1), by kernel_rfl, ⟨i + 1, nx (by omega), by omega, hnew _ ho, by simp⟩, by simp only; rw [nx (by omega)]; omega⟩
end Go.Proofs.YtmkmegcconjgoaaG
