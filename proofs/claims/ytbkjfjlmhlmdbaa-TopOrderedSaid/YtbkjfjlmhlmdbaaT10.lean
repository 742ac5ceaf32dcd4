/- Whether a bottle holds, as it is told. No condition. -/
import Derived.Test.YtbkjfjlmhlmdbaaT9
set_option linter.unusedVariables false
set_option linter.unusedSimpArgs false
set_option maxRecDepth 100000
set_option maxHeartbeats 4000000
namespace Go.Proofs.YtbkjfjlmhlmdbaaG
open Go Go.AM Go.Proofs

def askE (b : Bottle) (ts : List (Int × Int)) (l : Load) : Int :=
  if chkE b = 0 then (if (decide ((ts.length : Int) = b.rings.length) && !ts.any (fun t => !spanF t 1 2000)) = true then (if goodL l = true then 0 else 1) else 1) else chkE b
theorem VT_of (ts : List (Int × Int)) (h : ts.any (fun t => !spanF t 1 2000) = false) : ∀ t ∈ ts, VT t := fun t ht => by
  rw [List.any_eq_false] at h
  have := h t ht
  have : spanF t 1 2000 = true := by simpa using this
  obtain ⟨a, b, c⟩ := spanF_iff.1 this
  exact ⟨a, b, c⟩
section
variable (b : Bottle) (ts : List (Int × Int)) (l : Load) (hl : ts.length < 1000000000)
include hl
theorem asked_ok (h : askE b ts l = 0) : PureFn Try.prog 30 [bottleD b, spansD ts, loadD l] (.tup []) := by
  unfold askE at h
  by_cases c1 : chkE b = 0
  · rw [if_pos c1] at h
    cases c2 : (decide ((ts.length : Int) = b.rings.length) && !ts.any (fun t => !spanF t 1 2000))
    · rw [c2] at h; simp at h
    · rw [c2, if_pos rfl] at h
      cases c3 : goodL l
      · rw [c3] at h; simp at h
      · rw [Bool.and_eq_true] at c2
        obtain ⟨d1, d2⟩ := c2
        refine pureFn_by Try.func30 k30 rfl rfl ?_
        conv => whnf
        refine .inl ?_
        conv => whnf
        refine ⟨_, bcheck_ok b c1, ?_⟩
        conv => whnf
        refine .inl ?_
        conv => whnf
        rw [List.length_map, List.length_map, d1]
        conv => whnf
        refine ⟨_, anys_ok ts hl, ?_⟩
        conv => whnf
        refine ⟨_, demand_ok' _ d2 1, ?_⟩
        conv => whnf
        refine .inl ?_
        conv => whnf
        refine ⟨_, lcheck_ok l c3, ?_⟩
        conv => whnf
        exact rfl
  · rw [if_neg c1] at h; exact absurd h c1
theorem asked_pan (e : Int) (h : askE b ts l = e) (hn : e ≠ 0) : PanFn Try.prog 30 [bottleD b, spansD ts, loadD l] (failV e) := by
  unfold askE at h
  refine panFn_by Try.func30 k30 rfl rfl ?_
  conv => whnf
  by_cases c1 : chkE b = 0
  · rw [if_pos c1] at h
    refine .inl ?_
    conv => whnf
    refine ⟨_, bcheck_ok b c1, ?_⟩
    conv => whnf
    cases d1 : decide ((ts.length : Int) = b.rings.length)
    · rw [d1] at h
      have h : 1 = e := by simpa using h
      subst h
      refine .inr ?_
      conv => whnf
      rw [List.length_map, List.length_map, d1]
      conv => whnf
      refine ⟨_, demand_pan' _ rfl 1, ?_⟩
      exact rfl
    · rw [d1] at h
      cases d2 : !ts.any (fun t => !spanF t 1 2000)
      · rw [d2] at h
        have h : 1 = e := by simpa using h
        subst h
        refine .inr ?_
        conv => whnf
        rw [List.length_map, List.length_map, d1]
        conv => whnf
        refine ⟨_, anys_ok ts hl, ?_⟩
        conv => whnf
        refine ⟨_, demand_pan' _ d2 1, ?_⟩
        exact rfl
      · rw [d2] at h
        refine .inl ?_
        conv => whnf
        rw [List.length_map, List.length_map, d1]
        conv => whnf
        refine ⟨_, anys_ok ts hl, ?_⟩
        conv => whnf
        refine ⟨_, demand_ok' _ d2 1, ?_⟩
        conv => whnf
        refine .inr ?_
        conv => whnf
        cases c3 : goodL l
        · rw [c3] at h
          have h : 1 = e := by simpa using h
          subst h
          refine ⟨_, lcheck_pan l c3, ?_⟩
          exact rfl
        · rw [c3] at h
          exact absurd (by simpa using h.symm) hn
  · rw [if_neg c1] at h
    subst h
    refine .inr ?_
    conv => whnf
    refine ⟨_, bcheck_pan b _ rfl c1, ?_⟩
    exact rfl

def holP (b : Bottle) (ts : List (Int × Int)) (l : Load) : Bool × Bool := if askE b ts l = 0 then holdsF b ts l else (false, false)
theorem Holds_ok : PureFn Try.prog 12 [bottleD b, spansD ts, loadD l] (.tup [boolD (holP b ts l).1, boolD (holP b ts l).2, int (askE b ts l)]) := by
  refine defFn_by Try.func12 k12 k29 rfl rfl ?_
  conv => whnf
  refine ⟨2, rfl, ?_⟩
  unfold holP
  by_cases c1 : askE b ts l = 0
  · rw [if_pos c1, c1]
    have hc := c1
    unfold askE at hc
    by_cases c2 : chkE b = 0
    · rw [if_pos c2] at hc
      have hb := VB_of c2
      cases d1 : decide ((ts.length : Int) = b.rings.length)
      · rw [d1] at hc; simp at hc
      cases d2 : ts.any (fun t => !spanF t 1 2000)
      · rw [d1, d2] at hc
        have c3 : goodL l = true := by simpa using hc
        conv => whnf
        refine .inl ?_
        conv => whnf
        refine ⟨_, asked_ok b ts l hl c1, ?_⟩
        conv => whnf
        refine ⟨_, holds_ok b hb ts (by have := of_decide_eq_true d1; omega) (VT_of ts d2) l (goodL_VL c3), ?_⟩
        conv => whnf
        refine ⟨.nilIface, rfl, [6, 7, 8], [2], _, rfl, caught_nil 0, ?_⟩
        rintro y _ rfl
        kernel_rfl
      · rw [d1, d2] at hc; simp at hc
    · rw [if_neg c2] at hc; exact absurd hc c2
  · rw [if_neg c1]
    conv => whnf
    refine .inr ?_
    conv => whnf
    refine ⟨_, asked_pan b ts l hl _ rfl c1, ?_⟩
    conv => whnf
    refine ⟨failV (askE b ts l), rfl, [6, 7, 8], [2], _, rfl, caught_fail 0 (askE b ts l), ?_⟩
    rintro y _ rfl
    kernel_rfl
end
end Go.Proofs.YtbkjfjlmhlmdbaaG
