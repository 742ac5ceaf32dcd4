/- The first error of a bottle and of a load. No condition. -/
import Derived.Test.YtbkjfjlmhlmdbaaT6
set_option linter.unusedVariables false
set_option linter.unusedSimpArgs false
set_option maxRecDepth 100000
set_option maxHeartbeats 4000000
namespace Go.Proofs.YtbkjfjlmhlmdbaaG
open Go Go.AM Go.Proofs

def goodR (r : Ring) : Bool := (((spanF (r.rl, r.rh) 1 1000 && spanF (r.hl, r.hh) 1 5000) && spanF (r.sl, r.sh) 0 1000) && spanF (r.fl, r.fh) 0 10000) && spanF (r.il, r.ih) 0 10000
def sumS (f : Ring → Int) : List Ring → Int
  | [] => 0
  | r :: rs => f r + sumS f rs
def chkE (b : Bottle) : Int :=
  if ¬ (b.rings.length : Int) ≤ 24 then 3 else if ¬ 0 < (b.rings.length : Int) then 1 else if b.rings.any (fun r => !goodR r) = true then 1
  else if ¬ (sumS (·.sl) b.rings ≤ 1000 ∧ 1000 ≤ sumS (·.sh) b.rings) then 12
  else if ¬ (withinF b.flaw 1 1000 = true ∧ withinF b.tough 0 1000000000000000 = true) then 1 else 0
theorem demand_ok' (v : Bool) (h : v = true) (e : Int) : PureFn Try.prog 25 [boolD v, int e] (.tup []) := by subst h; exact demand_ok e
theorem demand_pan' (v : Bool) (h : v = false) (e : Int) : PanFn Try.prog 25 [boolD v, int e] (failV e) := by subst h; exact demand_pan e
theorem goodR_VR {r : Ring} (h : goodR r = true) : VR r := by
  simp only [goodR, Bool.and_eq_true, spanF_iff] at h
  obtain ⟨⟨⟨⟨⟨a1, a2, a3⟩, b1, b2, b3⟩, c1, c2, c3⟩, d1, d2, d3⟩, e1, e2, e3⟩ := h
  exact ⟨a1, a2, a3, b1, b2, b3, c1, c2, c3, d1, d2, d3, e1, e2, e3⟩

def opsR : List AOper := [⟨some 20, .fad 0 (.t 5), none, []⟩, ⟨some 21, .ld (.agg 2) (.t 20) [], none, []⟩, ⟨some 22, .call 26 [(.t 21), (.i .i64 1), (.i .i64 1000)], none, []⟩, ⟨some 23, .mv (.t 22), none, []⟩, ⟨some 24, .fad 2 (.t 5), (some (23, true)), []⟩, ⟨some 25, .ld (.agg 2) (.t 24) [], (some (23, true)), []⟩, ⟨some 26, .call 26 [(.t 25), (.i .i64 1), (.i .i64 5000)], (some (23, true)), []⟩, ⟨some 27, .pick (.t 23) (.t 26) (.bl false), none, []⟩, ⟨some 28, .mv (.t 27), none, []⟩, ⟨some 29, .fad 4 (.t 5), (some (28, true)), []⟩, ⟨some 30, .ld (.agg 2) (.t 29) [], (some (28, true)), []⟩, ⟨some 31, .call 26 [(.t 30), (.i .i64 0), (.i .i64 1000)], (some (28, true)), []⟩, ⟨some 32, .pick (.t 28) (.t 31) (.bl false), none, []⟩, ⟨some 33, .mv (.t 32), none, []⟩, ⟨some 34, .fad 6 (.t 5), (some (33, true)), []⟩, ⟨some 35, .ld (.agg 2) (.t 34) [], (some (33, true)), []⟩, ⟨some 36, .call 26 [(.t 35), (.i .i64 0), (.i .i64 10000)], (some (33, true)), []⟩, ⟨some 37, .pick (.t 33) (.t 36) (.bl false), none, []⟩, ⟨some 38, .mv (.t 37), none, []⟩, ⟨some 39, .fad 8 (.t 5), (some (38, true)), []⟩, ⟨some 40, .ld (.agg 2) (.t 39) [], (some (38, true)), []⟩, ⟨some 41, .call 26 [(.t 40), (.i .i64 0), (.i .i64 10000)], (some (38, true)), []⟩, ⟨some 42, .pick (.t 38) (.t 41) (.bl false), none, []⟩, ⟨some 43, .call 25 [(.t 42), (.i .i64 1)], none, []⟩]
theorem upd_eq {α : Type} (t : Nat → α) (i : Nat) (x : α) (h : t i = x) : t = upd t i x := by rw [← h, upd_self]
theorem ring_good (r : Ring) (g : goodR r = true) (Q : QB) (t : Nat → AC) (b : Nat → ABlk) (pr : List Nat) (h2 : t 2 = .ptr 1 0) (h3 : t 3 = .ptr 2 0) (h5 : t 5 = .ptr 3 0) (b3 : b 3 = .var ((ringL r).map AC.d))
    (hQ : ∀ t', t' 2 = .ptr 1 0 → t' 3 = .ptr 2 0 → t' 5 = .ptr 3 0 → Q .normal t' b) : bwp Try.prog noH false pr (.reg opsR) Q t b := by
  have sp : ∀ {t : Int × Int} {lo hi : Int}, spanF t lo hi = true → PureFn Try.prog 26 [spD t, int lo, int hi] (boolD true) := fun {t lo hi} h => by rw [← h]; exact span_ok _ _ _
  simp only [goodR, Bool.and_eq_true] at g
  obtain ⟨⟨⟨⟨g1, g2⟩, g3⟩, g4⟩, g5⟩ := g
  rw [upd_eq b 3 _ b3] at hQ ⊢
  rw [upd_eq t 2 _ h2, upd_eq _ 3 _ (show upd t 2 (.ptr 1 0) 3 = _ from h3), upd_eq _ 5 _ (show upd (upd t 2 (.ptr 1 0)) 3 (.ptr 2 0) 5 = _ from h5)]
  conv => whnf
  refine ⟨_, sp g1, ?_⟩
  conv => whnf
  refine ⟨_, sp g2, ?_⟩
  conv => whnf
  refine ⟨_, sp g3, ?_⟩
  conv => whnf
  refine ⟨_, sp g4, ?_⟩
  conv => whnf
  refine ⟨_, sp g5, ?_⟩
  conv => whnf
  refine ⟨_, demand_ok 1, ?_⟩
  exact hQ _ rfl rfl rfl
theorem bcheck_walk (b : Bottle) (Q : QB) (h0 : chkE b = 0 → ∀ t bb, Q .normal t bb) (h1 : ∀ e, chkE b = e → e ≠ 0 → ∀ t bb, Q (.panic [⟨failV e, false, false⟩]) t bb) : bwp Try.prog noH true [] a21 Q (iniT [bottleD b]) (fun _ => .fresh) := by
  have hlm : ((b.rings.map ringL).length : Int) = b.rings.length := by rw [List.length_map]
  rcases Decidable.em (¬ (b.rings.length : Int) ≤ 24) with c1 | c1
  · have he : chkE b = 3 := by unfold chkE; rw [if_pos c1]
    conv => whnf
    refine .inr ?_
    conv => whnf
    refine ⟨_, demand_pan' _ (decide_eq_false (by rw [hlm]; exact c1)) _, ?_⟩
    exact h1 3 he (by decide) _ _
  have c1 := Decidable.not_not.1 c1
  rcases Decidable.em (¬ 0 < (b.rings.length : Int)) with c2 | c2
  · have he : chkE b = 1 := by unfold chkE; rw [if_neg (by omega), if_pos c2]
    conv => whnf
    refine .inl ?_
    conv => whnf
    refine ⟨_, demand_ok' _ (decide_eq_true (by rw [hlm]; exact c1)) _, ?_⟩
    conv => whnf
    refine .inr ?_
    conv => whnf
    refine ⟨_, demand_pan' _ (decide_eq_false (by rw [hlm]; exact c2)) _, ?_⟩
    exact h1 1 he (by decide) _ _
  have c2 := Decidable.not_not.1 c2
  conv => whnf
  refine .inl ?_
  conv => whnf
  refine ⟨_, demand_ok' _ (decide_eq_true (by rw [hlm]; exact c1)) _, ?_⟩
  conv => whnf
  refine .inl ?_
  conv => whnf
  refine ⟨_, demand_ok' _ (decide_eq_true (by rw [hlm]; exact c2)) _, ?_⟩
  conv => whnf
  refine ⟨_, rings_ok b, ?_⟩
  conv => whnf
  intro lp
  conv => whnf
  refine loopB (fun (x : Int × Int × Int) => ⟨mkT [(0, .d (.v (.func (.yield lp) #[] #[]))), (6, .d (ringsD b.rings)), (7, .d (int (b.rings.map ringL).length)), (8, .d (int x.1))], mkB [(1, .var [.d (int x.2.1)]), (2, .var [.d (int x.2.2)]), (4, .fresh)]⟩)
    (fun x => ∃ i : Nat, x.1 = i ∧ i ≤ b.rings.length ∧ (∀ r ∈ b.rings.take i, goodR r = true) ∧ x.2.1 + sumS (·.sl) (b.rings.drop i) = sumS (·.sl) b.rings ∧ x.2.2 + sumS (·.sh) (b.rings.drop i) = sumS (·.sh) b.rings ∧ (0 ≤ x.2.1 ∧ x.2.1 ≤ 1000 * i) ∧ 0 ≤ x.2.2 ∧ x.2.2 ≤ 1000 * i)
    (fun x => (b.rings.length - x.1).toNat) (0, 0, 0) (by kernel_rfl) ⟨0, rfl, by omega, by simp, by simp, by simp, by simp, by simp⟩ ?_
  rintro ⟨_, lo, hi⟩ ⟨i, rfl, hil, hg, hlo, hhi, blo, bhi⟩
  simp only at hlo hhi blo bhi
  conv => whnf
  rw [List.length_map]
  cases c3 : decide ((i : Int) < (b.rings.length : Int))
  · have hi' : i = b.rings.length := by have := of_decide_eq_false c3; omega
    subst hi'
    rw [drop_end] at hlo hhi
    simp only [sumS, Int.add_zero] at hlo hhi
    have hall : b.rings.any (fun r => !goodR r) = false := by
      rw [List.any_eq_false]; intro r hr; rw [hg r (by simpa using hr)]; simp
    have hb : ¬ b.rings.any (fun r => !goodR r) = true := by rw [hall]; simp
    have hE : chkE b = if ¬ (lo ≤ 1000 ∧ 1000 ≤ hi) then 12 else if ¬ (withinF b.flaw 1 1000 = true ∧ withinF b.tough 0 1000000000000000 = true) then 1 else 0 := by
      unfold chkE; rw [if_neg (by omega), if_neg (by omega), if_neg hb, ← hlo, ← hhi]
    by_cases c4 : lo ≤ 1000 ∧ 1000 ≤ hi
    · rw [if_neg (by simpa using c4)] at hE
      have first : ∀ (R : Prop), R → R := fun _ h => h
      by_cases c5 : withinF b.flaw 1 1000 = true ∧ withinF b.tough 0 1000000000000000 = true
      · rw [if_neg (by simpa using c5)] at hE
        conv => whnf
        refine .inl ?_
        conv => whnf
        rw [show decide (lo ≤ 1000) = true from decide_eq_true c4.1]
        conv => whnf
        refine ⟨_, demand_ok' _ (decide_eq_true c4.2) _, ?_⟩
        conv => whnf
        refine .inl ?_
        conv => whnf
        refine ⟨_, swithin_ok _ _ _, ?_⟩
        conv => whnf
        rw [c5.1]
        conv => whnf
        refine ⟨_, swithin_ok _ _ _, ?_⟩
        conv => whnf
        refine ⟨_, demand_ok' _ c5.2 _, ?_⟩
        exact h0 hE _ _
      · rw [if_pos c5] at hE
        conv => whnf
        refine .inl ?_
        conv => whnf
        rw [show decide (lo ≤ 1000) = true from decide_eq_true c4.1]
        conv => whnf
        refine ⟨_, demand_ok' _ (decide_eq_true c4.2) _, ?_⟩
        conv => whnf
        refine .inr ?_
        conv => whnf
        refine ⟨_, swithin_ok _ _ _, ?_⟩
        conv => whnf
        cases c6 : withinF b.flaw 1 1000
        · conv => whnf
          refine ⟨_, demand_pan' _ rfl _, ?_⟩
          exact h1 1 hE (by decide) _ _
        · have c7 : withinF b.tough 0 1000000000000000 = false := by
            cases c8 : withinF b.tough 0 1000000000000000
            · rfl
            · exact absurd ⟨c6, c8⟩ c5
          conv => whnf
          refine ⟨_, swithin_ok _ _ _, ?_⟩
          conv => whnf
          refine ⟨_, demand_pan' _ c7 _, ?_⟩
          exact h1 1 hE (by decide) _ _
    · rw [if_pos c4] at hE
      conv => whnf
      refine .inr ?_
      conv => whnf
      cases c5 : decide (lo ≤ 1000)
      · conv => whnf
        refine ⟨_, demand_pan' _ rfl _, ?_⟩
        exact h1 12 hE (by decide) _ _
      · conv => whnf
        refine ⟨_, demand_pan' _ (decide_eq_false fun h => c4 ⟨of_decide_eq_true c5, h⟩) _, ?_⟩
        exact h1 12 hE (by decide) _ _
  · have hi' : i < b.rings.length := by have := of_decide_eq_true c3; omega
    obtain ⟨r, hx⟩ := get_lt hi'
    rw [drop_at hx] at hlo hhi
    simp only [sumS] at hlo hhi
    cases g : goodR r
    · have he : chkE b = 1 := by
        unfold chkE
        rw [if_neg (by omega), if_neg (by omega), if_pos]
        rw [List.any_eq_true]
        exact ⟨r, List.mem_of_getElem? hx, by rw [g]; rfl⟩
      conv => whnf
      refine ⟨by omega, _, gm hx, ?_⟩
      conv => whnf
      refine .inr ?_
      conv => whnf
      refine ⟨rfl, ?_⟩
      conv => whnf
      refine .inr ?_
      conv => whnf
      refine ⟨_, span_ok (r.rl, r.rh) _ _, ?_⟩
      conv => whnf
      have fin : ∀ t bb, Q (.panic [⟨failV 1, false, false⟩]) t bb := h1 1 he (by decide)
      unfold goodR at g
      cases g1 : spanF (r.rl, r.rh) 1 1000
      · conv => whnf
        refine ⟨_, demand_pan' _ rfl _, ?_⟩
        exact fin _ _
      rw [g1] at g
      conv => whnf
      refine ⟨_, span_ok (r.hl, r.hh) _ _, ?_⟩
      conv => whnf
      cases g2 : spanF (r.hl, r.hh) 1 5000
      · conv => whnf
        refine ⟨_, demand_pan' _ rfl _, ?_⟩
        exact fin _ _
      rw [g2] at g
      conv => whnf
      refine ⟨_, span_ok (r.sl, r.sh) _ _, ?_⟩
      conv => whnf
      cases g3 : spanF (r.sl, r.sh) 0 1000
      · conv => whnf
        refine ⟨_, demand_pan' _ rfl _, ?_⟩
        exact fin _ _
      rw [g3] at g
      conv => whnf
      refine ⟨_, span_ok (r.fl, r.fh) _ _, ?_⟩
      conv => whnf
      cases g4 : spanF (r.fl, r.fh) 0 10000
      · conv => whnf
        refine ⟨_, demand_pan' _ rfl _, ?_⟩
        exact fin _ _
      rw [g4] at g
      have g5 : spanF (r.il, r.ih) 0 10000 = false := by simpa using g
      conv => whnf
      refine ⟨_, span_ok (r.il, r.ih) _ _, ?_⟩
      conv => whnf
      refine ⟨_, demand_pan' _ g5 _, ?_⟩
      exact fin _ _
    · have hv := goodR_VR g
      have a1 := hv.s1; have a2 := hv.s2; have a3 := hv.s3
      have gg := g
      simp only [goodR, Bool.and_eq_true] at gg
      obtain ⟨⟨⟨⟨g1, g2⟩, g3⟩, g4⟩, g5⟩ := gg
      conv => whnf
      refine ⟨by omega, _, gm hx, ?_⟩
      conv => whnf
      refine .inl ?_
      conv => whnf
      refine ⟨rfl, ?_⟩
      conv => whnf
      refine .inl ?_
      refine ring_good r g _ _ _ _ rfl rfl rfl (by kernel_rfl) ?_
      intro t' h2 h3 h5
      rw [upd_eq t' 2 _ h2, upd_eq (upd t' 2 _) 3 _ (show upd t' 2 (.ptr 1 0) 3 = _ from h3), upd_eq (upd (upd t' 2 _) 3 _) 5 _ (show upd (upd t' 2 (.ptr 1 0)) 3 (.ptr 2 0) 5 = _ from h5)]
      conv => whnf
      have e1 : IntKind.wrap .i64 (lo + r.sl) = lo + r.sl := wr_eq (by omega)
      have e2 : IntKind.wrap .i64 (hi + r.sh) = hi + r.sh := wr_eq (by omega)
      refine ⟨(IntKind.wrap .i64 ((i : Int) + 1), IntKind.wrap .i64 (lo + r.sl), IntKind.wrap .i64 (hi + r.sh)), by kernel_rfl, ⟨i + 1, nx (by omega), by omega, ?_, ?_, ?_, ?_, ?_⟩, by simp only; rw [nx (by omega)]; omega⟩
      · intro q hq
        rw [take_next hx] at hq
        rcases List.mem_append.1 hq with hq | hq
        · exact hg q hq
        · have : q = r := by simpa using hq
          rw [this]; exact g
      · simp only; rw [e1]; omega
      · simp only; rw [e2]; omega
      · simp only; rw [e1]; omega
      · simp only; rw [e2]; omega

theorem bcheck_ok (b : Bottle) (h : chkE b = 0) : PureFn Try.prog 21 [bottleD b] (.tup []) := by
  refine pureFn_by Try.func21 k21 (by kernel_rfl) rfl ?_
  refine bcheck_walk b _ ?_ ?_
  · intro _ t bb
    exact rfl
  · exact fun e he hn => absurd (he.symm.trans h) hn
theorem bcheck_pan (b : Bottle) (e : Int) (h : chkE b = e) (hn : e ≠ 0) : PanFn Try.prog 21 [bottleD b] (failV e) := by
  refine panFn_by Try.func21 k21 (by kernel_rfl) rfl ?_
  refine bcheck_walk b _ (fun h0 => absurd (h.symm.trans h0) hn) (fun e' he' _ t bb => ?_)
  have : e' = e := he'.symm.trans h
  subst this
  exact rfl
end Go.Proofs.YtbkjfjlmhlmdbaaG
