/- The stretches of a motion. No condition. -/
import Derived.Test.YtgeficpcnlgnhaaC10
set_option linter.unusedVariables false
set_option linter.unusedSimpArgs false
set_option maxRecDepth 100000
namespace Go.Proofs.YtgeficpcnlgnhaaG
open Go Go.AM Go.Proofs

@[reducible] def strL (s : Str) : List D := [int s.1.1, int s.1.2, int s.2.1, int s.2.2]
@[reducible] def strsD (l : List Str) : D := .list (l.map strL)

/-- One part more. -/
def stepS (s : Int × Int) (out : List Str) (p : Pc) : List Str :=
  if (inF p s).2 = true then
    (if out.length ≠ 0 ∧ compareF (out.getD (out.length - 1) ((0, 0), (0, 0))).2 (inF p s).1.1 = 0 then out.set (out.length - 1) ((out.getD (out.length - 1) ((0, 0), (0, 0))).1, (inF p s).1.2) else out ++ [(inF p s).1])
  else out
def stretchesF (cycle home : Int) (l : List (Int × Int)) (s : Int × Int) (n : Nat) : List Str := (List.range n).foldl (fun o j => stepS s o (pcN cycle home l j)) []
theorem stretchesF_succ (cycle home : Int) (l : List (Int × Int)) (s : Int × Int) (n : Nat) : stretchesF cycle home l s (n + 1) = stepS s (stretchesF cycle home l s n) (pcN cycle home l n) := by
  simp [stretchesF, List.range_succ]

theorem cond_intro {c : Bool} {p q : Prop} (h : c = true) (hp : p) : cond c p q := by subst h; exact hp

theorem resA_row {σ : St} {i s n esz : Nat} {els : List (List D)} (h1 : σ.t i = .row s 0 n n) (h2 : σ.b s = .row esz els) (h3 : n = els.length) : resA [.t i] σ = some (.list els) := by
  subst h3; simp [resA, readRV, h1, snap, h2]

theorem stretches_ok {cycle home : Int} {l : List (Int × Int)} (h : Okm cycle home l) (s : Int × Int) (hs1 : -1000000 ≤ s.1 ∧ s.1 ≤ 2000000) (hs2 : -1000000 ≤ s.2 ∧ s.2 ≤ 2000000) :
    PureFn Try.prog 33 [int cycle, int home, knotsD l, ratD s] (strsD (stretchesF cycle home l s (max l.length 1))) := by
  have hl := h.len
  refine pureFn_by Try.func33 k33 rfl rfl ?_
  conv => whnf
  refine ⟨_, pieces_ok _ _ _, ?_⟩
  conv => whnf
  intro lp
  conv => whnf
  rw [List.length_map]
  cases c0 : decide ((l.length : Int) = 0)
  · have c0' : l.length ≠ 0 := by have := of_decide_eq_false c0; omega
    conv => whnf
    refine loopB (fun (x : Int × List (List D) × Nat) => ⟨mkT [(0, .d (.v (.func (.yield lp) #[] #[]))), (1, .d (.fptr [knotsD l])), (2, .d (.fptr [int cycle])), (17, .d (knotsD l)), (18, .d (int (l.map knD).length)), (19, .d (int x.1))],
        mkB [(0, .var [.d (int s.1), .d (int s.2)]), (1, .var [.row 4 0 x.2.2 x.2.2]), (4, .row 4 x.2.1), (5, .fresh)]⟩)
      (fun x => ∃ i : Nat, x.1 = i ∧ i ≤ l.length ∧ x.2.1 = (stretchesF cycle home l s i).map strL ∧ x.2.2 = x.2.1.length ∧ x.2.1.length ≤ i) (fun x => (l.length - x.1).toNat) (0, [], 0) rfl ⟨0, rfl, by omega, rfl, rfl, Nat.le_refl _⟩ ?_
    have hmax : max l.length 1 = l.length := by omega
    rintro ⟨x, els, n⟩ ⟨i, hx, hil, he, hn, hle⟩
    simp only at hx he hn hle
    subst hx
    conv => whnf
    rw [List.length_map]
    cases c1 : decide ((i : Int) < (l.length : Int))
    · have c1' := of_decide_eq_false c1
      have hi : i = l.length := by omega
      conv => whnf
      rw [hmax, ← hi]
      refine (resA_row (s := 4) (n := n) (esz := 4) (els := els) rfl rfl hn).trans ?_
      rw [he]
    · have c1' := of_decide_eq_true c1
      have hi : i < l.length := by omega
      have hw := next_i (i := i) (n := l.length) hi (by omega)
      conv => whnf
      refine ⟨by omega, _, (by rw [Int.toNat_natCast]; exact kn_get hi), ?_⟩
      conv => whnf
      refine ⟨by omega, _, kn_get (show 0 < l.length by omega), ?_⟩
      conv => whnf
      rw [List.length_map, hw]
      have hpc : pcN cycle home l i = pcAt cycle l i := by unfold pcN; rw [if_neg c0']
      have op := h.pc (i := i) (by omega)
      have hin := in_ok op h.c2 s hs1 hs2
      rw [hpc] at hin
      unfold pcAt at hin
      have hS := stretchesF_succ cycle home l s i
      rw [hpc] at hS
      unfold pcAt at hS
      have hlen : (stretchesF cycle home l s i).length = els.length := by rw [he]; simp
      have dec : (l.length - IntKind.wrap .i64 ((i : Int) + 1) : Int).toNat < (l.length - (i : Int)).toNat := by rw [hw]; omega
      cases c2 : decide (((i + 1 : Nat) : Int) < (l.length : Int))
      · have c2' := of_decide_eq_false c2
        rw [if_neg (by omega)] at hin hS
        conv => whnf
        refine ⟨rfl, ?_⟩
        conv => whnf
        refine ⟨_, hin, ?_⟩
        unfold stepS at hS
        generalize hq : inF _ s = r at hin hS ⊢
        obtain ⟨x, ok⟩ := r
        cases ok
        · rw [if_neg (by simp)] at hS
          conv => whnf
          refine ⟨(IntKind.wrap .i64 ((i : Int) + 1), els, n), rfl, ⟨i + 1, hw, hi, by rw [hS]; exact he, hn, by simp only; omega⟩, dec⟩
        · rw [if_pos rfl] at hS
          conv => whnf
          refine ⟨hn, ?_⟩
          conv => whnf
          by_cases h0 : els.length = 0
          · rw [show decide (0 ≤ IntKind.wrap .i64 ((n : Int) - 1)) = false by
              have := wr_in (n := (n : Int) - 1) ⟨by omega, by omega⟩
              rw [show IntKind.wrap .i64 ((n : Int) - 1) = _ from this]; simp; omega]
            conv => whnf
            refine ⟨rfl, ?_⟩
            conv => whnf
            refine ⟨rfl, hn, by simp [most]; omega, ?_⟩
            conv => whnf
            refine cond_intro (by show (true && ((els.length + 1 == (els ++ [strL x]).length) && true)) = true; simp) ?_
            conv => whnf
            refine ⟨(IntKind.wrap .i64 ((i : Int) + 1), els ++ [strL x], els.length + 1), rfl, ⟨i + 1, hw, hi, ?_, by simp, by simp; omega⟩, dec⟩
            show els ++ [strL x] = _
            rw [hS, if_neg (by rw [hlen]; omega), List.map_append, ← he]; rfl
          · rw [show decide (0 ≤ IntKind.wrap .i64 ((n : Int) - 1)) = true by
              have := wr_in (n := (n : Int) - 1) ⟨by omega, by omega⟩
              rw [show IntKind.wrap .i64 ((n : Int) - 1) = _ from this]; simp; omega]
            conv => whnf
            have hk : IntKind.wrap .i64 ((n : Int) - 1) = ((n - 1 : Nat) : Int) := by
              have := wr_in (n := (n : Int) - 1) ⟨by omega, by omega⟩
              rw [show IntKind.wrap .i64 ((n : Int) - 1) = _ from this]; omega
            obtain ⟨o, ho⟩ : ∃ o, (stretchesF cycle home l s i).getD ((stretchesF cycle home l s i).length - 1) ((0, 0), (0, 0)) = o := ⟨_, rfl⟩
            have hget : els[0 + ((n - 1 : Nat) : Int).toNat]? = some (strL o) := by
              rw [Nat.zero_add, Int.toNat_natCast, he, ← ho, hn, hlen]
              have : els.length - 1 < (stretchesF cycle home l s i).length := by omega
              simp [this, List.getD]
            rw [ho] at hS
            rw [hk]
            refine ⟨by omega, by simp only; omega, ?_⟩
            conv => whnf
            refine ⟨hn, ?_⟩
            conv => whnf
            refine ⟨hn, ?_⟩
            conv => whnf
            refine ⟨hn, _, hget, ?_⟩
            conv => whnf
            refine ⟨_, compare_ok o.2 x.1, ?_⟩
            conv => whnf
            cases d2 : decide (compareF o.2 x.1 = 0)
            · have d2' := of_decide_eq_false d2
              conv => whnf
              refine ⟨rfl, ?_⟩
              conv => whnf
              refine ⟨rfl, hn, by simp [most]; omega, ?_⟩
              conv => whnf
              refine cond_intro (by show (true && ((els.length + 1 == (els ++ [strL x]).length) && true)) = true; simp) ?_
              conv => whnf
              refine ⟨(IntKind.wrap .i64 ((i : Int) + 1), els ++ [strL x], els.length + 1), rfl, ⟨i + 1, hw, hi, ?_, by simp, by simp; omega⟩, dec⟩
              show els ++ [strL x] = _
              rw [hS, if_neg (fun e => d2' e.2), List.map_append, ← he]; rfl
            · have d2' := of_decide_eq_true d2
              conv => whnf
              refine ⟨by omega, by simp only; omega, ?_⟩
              conv => whnf
              refine ⟨hn, ?_⟩
              conv => whnf
              refine ⟨hn, ?_⟩
              conv => whnf
              refine ⟨hn, _, hget, ?_⟩
              conv => whnf
              refine ⟨(IntKind.wrap .i64 ((i : Int) + 1), els.set (0 + ((n - 1 : Nat) : Int).toNat) (strL (o.1, x.2)), n), rfl, ⟨i + 1, hw, hi, ?_, by simp only [List.length_set]; exact hn, by simp only [List.length_set]; omega⟩, dec⟩
              show els.set (0 + ((n - 1 : Nat) : Int).toNat) (strL (o.1, x.2)) = _
              rw [hS, if_pos ⟨by rw [hlen]; omega, d2'⟩, List.map_set, ← he, Nat.zero_add, Int.toNat_natCast, hlen, hn]
      · have c2' := of_decide_eq_true c2
        rw [if_pos (by omega)] at hin hS
        conv => whnf
        rw [hw]
        refine ⟨by omega, _, (by rw [Int.toNat_natCast]; exact kn_get (show i + 1 < l.length by omega)), ?_⟩
        conv => whnf
        refine ⟨rfl, ?_⟩
        conv => whnf
        refine ⟨_, hin, ?_⟩
        unfold stepS at hS
        generalize hq : inF _ s = r at hin hS ⊢
        obtain ⟨x, ok⟩ := r
        cases ok
        · rw [if_neg (by simp)] at hS
          conv => whnf
          refine ⟨(IntKind.wrap .i64 ((i : Int) + 1), els, n), rfl, ⟨i + 1, hw, hi, by rw [hS]; exact he, hn, by simp only; omega⟩, dec⟩
        · rw [if_pos rfl] at hS
          conv => whnf
          refine ⟨hn, ?_⟩
          conv => whnf
          by_cases h0 : els.length = 0
          · rw [show decide (0 ≤ IntKind.wrap .i64 ((n : Int) - 1)) = false by
              have := wr_in (n := (n : Int) - 1) ⟨by omega, by omega⟩
              rw [show IntKind.wrap .i64 ((n : Int) - 1) = _ from this]; simp; omega]
            conv => whnf
            refine ⟨rfl, ?_⟩
            conv => whnf
            refine ⟨rfl, hn, by simp [most]; omega, ?_⟩
            conv => whnf
            refine cond_intro (by show (true && ((els.length + 1 == (els ++ [strL x]).length) && true)) = true; simp) ?_
            conv => whnf
            refine ⟨(IntKind.wrap .i64 ((i : Int) + 1), els ++ [strL x], els.length + 1), rfl, ⟨i + 1, hw, hi, ?_, by simp, by simp; omega⟩, dec⟩
            show els ++ [strL x] = _
            rw [hS, if_neg (by rw [hlen]; omega), List.map_append, ← he]; rfl
          · rw [show decide (0 ≤ IntKind.wrap .i64 ((n : Int) - 1)) = true by
              have := wr_in (n := (n : Int) - 1) ⟨by omega, by omega⟩
              rw [show IntKind.wrap .i64 ((n : Int) - 1) = _ from this]; simp; omega]
            conv => whnf
            have hk : IntKind.wrap .i64 ((n : Int) - 1) = ((n - 1 : Nat) : Int) := by
              have := wr_in (n := (n : Int) - 1) ⟨by omega, by omega⟩
              rw [show IntKind.wrap .i64 ((n : Int) - 1) = _ from this]; omega
            obtain ⟨o, ho⟩ : ∃ o, (stretchesF cycle home l s i).getD ((stretchesF cycle home l s i).length - 1) ((0, 0), (0, 0)) = o := ⟨_, rfl⟩
            have hget : els[0 + ((n - 1 : Nat) : Int).toNat]? = some (strL o) := by
              rw [Nat.zero_add, Int.toNat_natCast, he, ← ho, hn, hlen]
              have : els.length - 1 < (stretchesF cycle home l s i).length := by omega
              simp [this, List.getD]
            rw [ho] at hS
            rw [hk]
            refine ⟨by omega, by simp only; omega, ?_⟩
            conv => whnf
            refine ⟨hn, ?_⟩
            conv => whnf
            refine ⟨hn, ?_⟩
            conv => whnf
            refine ⟨hn, _, hget, ?_⟩
            conv => whnf
            refine ⟨_, compare_ok o.2 x.1, ?_⟩
            conv => whnf
            cases d2 : decide (compareF o.2 x.1 = 0)
            · have d2' := of_decide_eq_false d2
              conv => whnf
              refine ⟨rfl, ?_⟩
              conv => whnf
              refine ⟨rfl, hn, by simp [most]; omega, ?_⟩
              conv => whnf
              refine cond_intro (by show (true && ((els.length + 1 == (els ++ [strL x]).length) && true)) = true; simp) ?_
              conv => whnf
              refine ⟨(IntKind.wrap .i64 ((i : Int) + 1), els ++ [strL x], els.length + 1), rfl, ⟨i + 1, hw, hi, ?_, by simp, by simp; omega⟩, dec⟩
              show els ++ [strL x] = _
              rw [hS, if_neg (fun e => d2' e.2), List.map_append, ← he]; rfl
            · have d2' := of_decide_eq_true d2
              conv => whnf
              refine ⟨by omega, by simp only; omega, ?_⟩
              conv => whnf
              refine ⟨hn, ?_⟩
              conv => whnf
              refine ⟨hn, ?_⟩
              conv => whnf
              refine ⟨hn, _, hget, ?_⟩
              conv => whnf
              refine ⟨(IntKind.wrap .i64 ((i : Int) + 1), els.set (0 + ((n - 1 : Nat) : Int).toNat) (strL (o.1, x.2)), n), rfl, ⟨i + 1, hw, hi, ?_, by simp only [List.length_set]; exact hn, by simp only [List.length_set]; omega⟩, dec⟩
              show els.set (0 + ((n - 1 : Nat) : Int).toNat) (strL (o.1, x.2)) = _
              rw [hS, if_pos ⟨by rw [hlen]; omega, d2'⟩, List.map_set, ← he, Nat.zero_add, Int.toNat_natCast, hlen, hn]
  · have c0' : l.length = 0 := by have := of_decide_eq_true c0; omega
    have hp : pcN cycle home l 0 = ⟨0, cycle, home, home⟩ := by simp [pcN, c0']
    have op := h.pc (i := 0) (by omega)
    have hin := in_ok op h.c2 s hs1 hs2
    rw [hp] at hin
    conv => whnf
    refine ⟨rfl, ?_⟩
    conv => whnf
    refine ⟨_, hin, ?_⟩
    conv => whnf
    have e : stretchesF cycle home l s (max l.length 1) = stepS s [] ⟨0, cycle, home, home⟩ := by
      rw [show max l.length 1 = 1 by omega, stretchesF_succ, hp]; rfl
    rw [e]
    cases c1 : (inF ⟨0, cycle, home, home⟩ s).2
    · rw [show stepS s [] ⟨0, cycle, home, home⟩ = [] by simp [stepS, c1]]
      rfl
    · rw [show stepS s [] ⟨0, cycle, home, home⟩ = [(inF ⟨0, cycle, home, home⟩ s).1] by simp [stepS, c1]]
      conv => whnf
      refine ⟨rfl, ?_⟩
      conv => whnf
      refine ⟨rfl, rfl, rfl, by simp [most], ?_⟩
      rfl
end Go.Proofs.YtgeficpcnlgnhaaG
