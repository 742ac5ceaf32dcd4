/- The position of a motion. No condition. -/
import Derived.Test.YtgeficpcnlgnhaaC5
set_option linter.unusedVariables false
set_option linter.unusedSimpArgs false
set_option maxRecDepth 100000
namespace Go.Proofs.YtgeficpcnlgnhaaG
open Go Go.AM Go.Proofs

theorem pieces_ok (cycle home : Int) (l : List (Int × Int)) : PureFn Try.prog 45 [int cycle, int home, knotsD l] (.clo 61 [] [.fptr [knotsD l], .fptr [int cycle], .fptr [int home]]) :=
  pureFn_by Try.func45 k45 rfl rfl rfl

/-- An even part: from, to, start, end. -/
structure Pc where
  a : Int
  b : Int
  p : Int
  q : Int
def pcAt (cycle : Int) (l : List (Int × Int)) (i : Nat) : Pc :=
  let n := if i + 1 < l.length then l.getD (i + 1) (0, 0) else (cycle, (l.getD 0 (0, 0)).2)
  ⟨(l.getD i (0, 0)).1, n.1, (l.getD i (0, 0)).2, n.2⟩
def pcs (cycle home : Int) (l : List (Int × Int)) : List Pc := if l.length = 0 then [⟨0, cycle, home, home⟩] else (List.range l.length).map (pcAt cycle l)

def posF (num den : Int) (p : Pc) : Int × Int := 
  let span := wr (wr (p.b - p.a) * den)
  (wr (wr (p.p * span) + wr (wr (p.q - p.p) * wr (num - wr (p.a * den)))), span)
def timeF (cycle : Int) (at_ : Int × Int) : Int := (wr ((at_.1.tmod (wr (cycle * at_.2))) + wr (cycle * at_.2))).tmod (wr (cycle * at_.2))
def whereF (cycle home : Int) (l : List (Int × Int)) (r : Int × Int) : Int × Int :=
  match (pcs cycle home l).find? fun p => decide (timeF cycle r ≤ wr (p.b * r.2)) with
  | some p => posF (timeF cycle r) r.2 p
  | none => (home, 1)

theorem where_ok (cycle home : Int) (l : List (Int × Int)) (r : Int × Int) (hl : l.length ≤ 16) (h0 : wr (cycle * r.2) ≠ 0) : PureFn Try.prog 27 [int cycle, int home, knotsD l, ratD r] (ratD (whereF cycle home l r)) := by
  refine pureFn_by Try.func27 k27 rfl rfl ?_
  conv => whnf
  refine ⟨h0, ?_⟩
  conv => whnf
  refine ⟨h0, ?_⟩
  conv => whnf
  refine ⟨_, pieces_ok _ _ _, ?_⟩
  conv => whnf
  intro lp
  conv => whnf
  rw [List.length_map]
  cases c0 : decide ((l.length : Int) = 0)
  · have c0' : l.length ≠ 0 := by have := of_decide_eq_false c0; omega
    conv => whnf
    refine loopB (fun (x : Int) => ⟨mkT [(0, .d (.v (.func (.yield lp) #[] #[]))), (1, .d (.fptr [knotsD l])), (2, .d (.fptr [int cycle])), (17, .d (knotsD l)), (18, .d (int (l.map knD).length)), (19, .d (int x))],
        mkB [(0, .var [.d (int r.1), .d (int r.2)]), (1, .var [.d (int 0), .d (int 0)]), (2, .var [.d (int (timeF cycle r))]), (4, .fresh)]⟩)
      (fun x => ∃ i : Nat, x = i ∧ i ≤ l.length ∧ ∀ j, j < i → decide (timeF cycle r ≤ wr ((pcAt cycle l j).b * r.2)) = false) (fun x => (l.length - x).toNat) 0 rfl ⟨0, rfl, by omega, fun j h => by omega⟩ ?_
    have hps : pcs cycle home l = (List.range l.length).map (pcAt cycle l) := by simp [pcs, c0']
    rintro x ⟨i, rfl, hil, hb⟩
    conv => whnf
    rw [List.length_map]
    cases c1 : decide ((i : Int) < (l.length : Int))
    · have c1' := of_decide_eq_false c1
      have hi : i = l.length := by omega
      rw [show whereF cycle home l r = (home, 1) by
        unfold whereF
        rw [hps, List.find?_eq_none.2]
        intro q hq
        obtain ⟨j, hj, rfl⟩ := List.mem_map.1 hq
        rw [hb j (by have := List.mem_range.1 hj; omega)]; simp]
      conv => whnf
      exact ⟨_, whole_ok _, rfl⟩
    · have c1' := of_decide_eq_true c1
      have hi : i < l.length := by omega
      have hw := next_i (i := i) (n := l.length) hi (by omega)
      have hit : decide (timeF cycle r ≤ wr ((pcAt cycle l i).b * r.2)) = true → whereF cycle home l r = posF (timeF cycle r) r.2 (pcAt cycle l i) := fun h => by
        have hf : List.find? (fun p : Pc => decide (timeF cycle r ≤ wr (p.b * r.2))) ((List.range l.length).map (pcAt cycle l)) = some (pcAt cycle l i) := by
          rw [List.find?_eq_some_iff_append]
          refine ⟨h, (List.range i).map (pcAt cycle l), ((List.range' (i + 1) (l.length - (i + 1))).map (pcAt cycle l)), ?_, ?_⟩
          · rw [List.range_eq_range', List.range_eq_range', ← List.map_cons, ← List.map_append]
            congr 1
            rw [show List.range' 0 l.length = List.range' 0 (i + (l.length - (i + 1) + 1)) by congr 1; omega, ← List.range'_append_1, List.range'_succ]
            simp
          · intro q hq
            obtain ⟨j, hj, rfl⟩ := List.mem_map.1 hq
            rw [hb j (List.mem_range.1 hj)]; rfl
        unfold whereF
        rw [hps, hf]
      have next : decide (timeF cycle r ≤ wr ((pcAt cycle l i).b * r.2)) = false → ∃ j : Nat, IntKind.wrap .i64 ((i : Int) + 1) = j ∧ j ≤ l.length ∧ ∀ k, k < j → decide (timeF cycle r ≤ wr ((pcAt cycle l k).b * r.2)) = false := fun hbi =>
        ⟨i + 1, hw, hi, fun k hk => by
          by_cases e : k = i
          · rw [e]; exact hbi
          · exact hb k (by omega)⟩
      have dec : (l.length - IntKind.wrap .i64 ((i : Int) + 1) : Int).toNat < (l.length - (i : Int)).toNat := by rw [hw]; omega
      conv => whnf
      refine ⟨by omega, _, (by rw [Int.toNat_natCast]; exact kn_get hi), ?_⟩
      conv => whnf
      refine ⟨by omega, _, kn_get (show 0 < l.length by omega), ?_⟩
      conv => whnf
      rw [List.length_map, hw]
      cases c2 : decide (((i + 1 : Nat) : Int) < (l.length : Int))
      · have c2' := of_decide_eq_false c2
        have hpc : pcAt cycle l i = ⟨(l.getD i (0, 0)).1, cycle, (l.getD i (0, 0)).2, (l.getD 0 (0, 0)).2⟩ := by
          unfold pcAt; rw [if_neg (by omega)]
        conv => whnf
        refine ⟨rfl, ?_⟩
        conv => whnf
        cases c3 : decide (timeF cycle r ≤ wr (cycle * r.2))
        · have c3' : decide (timeF cycle r ≤ IntKind.wrap .i64 (cycle * r.2)) = false := c3
          (try rw [c3'])
          conv => whnf
          exact ⟨_, rfl, next (by rw [hpc]; exact c3), dec⟩
        · have c3' : decide (timeF cycle r ≤ IntKind.wrap .i64 (cycle * r.2)) = true := c3
          (try rw [c3']); rw [hit (by rw [hpc]; exact c3), hpc]
          rfl
      · have c2' := of_decide_eq_true c2
        have hi2 : i + 1 < l.length := by omega
        have hpc : pcAt cycle l i = ⟨(l.getD i (0, 0)).1, (l.getD (i + 1) (0, 0)).1, (l.getD i (0, 0)).2, (l.getD (i + 1) (0, 0)).2⟩ := by
          unfold pcAt; rw [if_pos hi2]
        conv => whnf
        rw [hw]
        refine ⟨by omega, _, (by rw [Int.toNat_natCast]; exact kn_get hi2), ?_⟩
        conv => whnf
        refine ⟨rfl, ?_⟩
        conv => whnf
        cases c3 : decide (timeF cycle r ≤ wr ((l.getD (i + 1) (0, 0)).1 * r.2))
        · have c3' : decide (timeF cycle r ≤ IntKind.wrap .i64 ((l.getD (i + 1) (0, 0)).1 * r.2)) = false := c3
          (try rw [c3'])
          conv => whnf
          exact ⟨_, rfl, next (by rw [hpc]; exact c3), dec⟩
        · have c3' : decide (timeF cycle r ≤ IntKind.wrap .i64 ((l.getD (i + 1) (0, 0)).1 * r.2)) = true := c3
          (try rw [c3']); rw [hit (by rw [hpc]; exact c3), hpc]
          rfl
  · have c0' : l.length = 0 := by have := of_decide_eq_true c0; omega
    conv => whnf
    refine ⟨rfl, ?_⟩
    conv => whnf
    have hp : pcs cycle home l = [⟨0, cycle, home, home⟩] := by simp [pcs, c0']
    cases c1 : decide (timeF cycle r ≤ wr (cycle * r.2))
    · rw [show whereF cycle home l r = (home, 1) by simp only [whereF, hp, List.find?, c1]]
      have c1'' : decide ((IntKind.wrap .i64 ((r.1.tmod (IntKind.wrap .i64 (cycle * r.2))) + IntKind.wrap .i64 (cycle * r.2))).tmod (IntKind.wrap .i64 (cycle * r.2)) ≤ IntKind.wrap .i64 (cycle * r.2)) = false := c1
      rw [c1'']
      conv => whnf
      exact ⟨_, whole_ok _, rfl⟩
    · rw [show whereF cycle home l r = posF (timeF cycle r) r.2 ⟨0, cycle, home, home⟩ by simp only [whereF, hp, List.find?, c1]]
      have c1'' : decide ((IntKind.wrap .i64 ((r.1.tmod (IntKind.wrap .i64 (cycle * r.2))) + IntKind.wrap .i64 (cycle * r.2))).tmod (IntKind.wrap .i64 (cycle * r.2)) ≤ IntKind.wrap .i64 (cycle * r.2)) = true := c1
      rw [c1'']
      rfl
end Go.Proofs.YtgeficpcnlgnhaaG
