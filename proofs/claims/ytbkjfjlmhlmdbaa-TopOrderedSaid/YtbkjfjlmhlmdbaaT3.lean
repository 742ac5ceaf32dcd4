/- The search, and the first number that is so. No condition. -/
import Derived.Test.YtbkjfjlmhlmdbaaT2
set_option linter.unusedVariables false
set_option linter.unusedSimpArgs false
set_option maxRecDepth 100000
set_option maxHeartbeats 4000000
namespace Go.Proofs.YtbkjfjlmhlmdbaaG
open Go Go.AM Go.Proofs

def goS (F : Int → Bool) : Nat → Int → Int → Int
  | 0, i, _ => i
  | k + 1, i, j => if i < j then (if F ((i + j) / 2) = true then goS F k i ((i + j) / 2) else goS F k ((i + j) / 2 + 1) j) else i
def searchF (F : Int → Bool) (n : Int) : Int := goS F n.toNat 0 n
theorem goS_spec {F : Int → Bool} : ∀ {k : Nat} {i j : Int}, i ≤ j → j - i ≤ k → i ≤ goS F k i j ∧ goS F k i j ≤ j ∧ (goS F k i j < j → F (goS F k i j) = true)
  | 0, i, j, h1, h2 => by simp only [goS]; exact ⟨by omega, by omega, fun h => by omega⟩
  | k + 1, i, j, h1, h2 => by
    unfold goS
    split
    · rename_i hlt
      split
      · rename_i hF
        obtain ⟨a, b, c⟩ := goS_spec (F := F) (k := k) (i := i) (j := (i + j) / 2) (by omega) (by omega)
        refine ⟨a, by omega, fun h => ?_⟩
        by_cases e : goS F k i ((i + j) / 2) < (i + j) / 2
        · exact c e
        · have : goS F k i ((i + j) / 2) = (i + j) / 2 := by omega
          rw [this]; exact hF
      · rename_i hF
        obtain ⟨a, b, c⟩ := goS_spec (F := F) (k := k) (i := (i + j) / 2 + 1) (j := j) (by omega) (by omega)
        exact ⟨by omega, b, c⟩
    · exact ⟨by omega, by omega, fun h => by omega⟩
theorem search_spec {F : Int → Bool} {n : Int} (h : 0 ≤ n) : 0 ≤ searchF F n ∧ searchF F n ≤ n ∧ (searchF F n < n → F (searchF F n) = true) := goS_spec h (by omega)

theorem search_ok (n : Int) (hn : 0 ≤ n ∧ n ≤ 1000000000) (g : FuncId) (caps : List D) (F : Int → Bool) (hg : ∀ x, 0 ≤ x → x < n → PureFn Try.prog g (int x :: caps) (boolD (F x))) :
    PureFn Try.prog 55 [int n, .clo g [] caps] (int (searchF F n)) := by
  refine pureFn_by Try.func55 k55 rfl rfl ?_
  conv => whnf
  refine loopB (fun (p : Int × Int) => ⟨mkT [(1, .d (.clo g [] caps)), (5, .d (int p.1)), (6, .d (int p.2))], mkB []⟩)
    (fun p => 0 ≤ p.1 ∧ p.1 ≤ p.2 ∧ p.2 ≤ n ∧ ∃ k : Nat, p.2 - p.1 ≤ k ∧ goS F k p.1 p.2 = searchF F n) (fun p => (p.2 - p.1).toNat) (0, n) (by kernel_rfl) ⟨by simp, hn.1, by simp, n.toNat, by simp; omega, rfl⟩ ?_
  rintro ⟨i, j⟩ ⟨h0, h1, h2, k, hk, hS⟩
  dsimp only at h0 h1 h2 hk hS
  conv => whnf
  cases c1 : decide (i < j)
  · have hi : i = j := by have := of_decide_eq_false c1; omega
    subst hi
    have : goS F k i i = i := by
      cases k with
      | zero => rfl
      | succ k => simp [goS]
    rw [this] at hS
    rw [← hS]
    conv => whnf
    kernel_rfl
  · have hlt := of_decide_eq_true c1
    cases k with
    | zero => omega
    | succ k =>
    have hh : IntKind.wrap .i64 (Int.fdiv (IntKind.wrap .u64 (IntKind.wrap .i64 (i + j))) (2 ^ (min (Int.toNat 1) IntKind.u64.bits))) = (i + j) / 2 := by
      have e2 : ((2 : Int) ^ (min (Int.toNat 1) IntKind.u64.bits)) = 2 := rfl
      rw [wr_eq (n := i + j) (by omega), IntWalk.u64_in _ (by omega), e2, Int.fdiv_eq_ediv_of_nonneg _ (by omega), wr_eq (by omega)]
    conv => whnf
    refine ⟨by omega, ?_⟩
    conv => whnf
    refine ⟨boolD (F ((i + j) / 2)), ?_, ?_⟩
    · show PureFn Try.prog g (int (IntKind.wrap .i64 (Int.fdiv (IntKind.wrap .u64 (IntKind.wrap .i64 (i + j))) (2 ^ (min (Int.toNat 1) IntKind.u64.bits)))) :: caps) _
      rw [hh]
      exact hg _ (by omega) (by omega)
    · cases c2 : F ((i + j) / 2)
      · conv => whnf
        have e3 : IntKind.wrap .i64 (IntKind.wrap .i64 (Int.fdiv (IntKind.wrap .u64 (IntKind.wrap .i64 (i + j))) (2 ^ (min (Int.toNat 1) IntKind.u64.bits))) + 1) = (i + j) / 2 + 1 := by
          rw [hh]; exact wr_eq (by omega)
        refine ⟨(IntKind.wrap .i64 (IntKind.wrap .i64 (Int.fdiv (IntKind.wrap .u64 (IntKind.wrap .i64 (i + j))) (2 ^ (min (Int.toNat 1) IntKind.u64.bits))) + 1), j), by kernel_rfl, ?_, ?_⟩
        · rw [e3]
          dsimp only
          refine ⟨by omega, by omega, h2, k, by omega, ?_⟩
          rw [← hS]
          simp [goS, hlt, c2]
        · rw [e3]; dsimp only; omega
      · conv => whnf
        refine ⟨(i, IntKind.wrap .i64 (Int.fdiv (IntKind.wrap .u64 (IntKind.wrap .i64 (i + j))) (2 ^ (min (Int.toNat 1) IntKind.u64.bits)))), by kernel_rfl, ?_, ?_⟩
        · rw [hh]
          dsimp only
          refine ⟨h0, by omega, by omega, k, by omega, ?_⟩
          rw [← hS]
          simp [goS, hlt, c2]
        · rw [hh]; dsimp only; omega

/-- The first number from low on that is so; high + 1: there is none. -/
def firstF (F : Int → Bool) (low high : Int) : Int := low + searchF (fun i => F (low + i)) (high - low + 1)
theorem firstF_spec {F : Int → Bool} {low high : Int} (h : low ≤ high + 1) : low ≤ firstF F low high ∧ firstF F low high ≤ high + 1 ∧ (firstF F low high ≤ high → F (firstF F low high) = true) := by
  obtain ⟨a, b, c⟩ := search_spec (F := fun i => F (low + i)) (n := high - low + 1) (by omega)
  unfold firstF
  exact ⟨by omega, by omega, fun h => c (by omega)⟩
theorem first1_ok (low x : Int) (hx : -1000000000 ≤ low + x ∧ low + x ≤ 1000000000) (g : FuncId) (caps : List D) (v : Bool) (hg : PureFn Try.prog g (int (low + x) :: caps) (boolD v)) :
    PureFn Try.prog 56 [int x, .fptr [.clo g [] caps], .fptr [int low]] (boolD v) := by
  have e : IntKind.wrap .i64 (low + x) = low + x := wr_eq (by omega)
  rw [← e] at hg
  refine pureFn_by Try.func56 k56 rfl rfl ?_
  conv => whnf
  refine ⟨_, hg, ?_⟩
  conv => whnf
  kernel_rfl
theorem first_ok (low high : Int) (h0 : 0 ≤ low) (h1 : low ≤ high + 1) (h2 : high ≤ 100000000) (g : FuncId) (caps : List D) (F : Int → Bool) (hg : ∀ x, low ≤ x → x ≤ high → PureFn Try.prog g (int x :: caps) (boolD (F x))) :
    PureFn Try.prog 40 [int low, int high, .clo g [] caps] (int (firstF F low high)) := by
  have hsp := search_spec (F := fun i => F (low + i)) (n := high - low + 1) (by omega)
  have ks : PureFn Try.prog 55 [int (wr (wr (high - low) + 1)), .clo 56 [] [.fptr [.clo g [] caps], .fptr [int low]]] (int (searchF (fun i => F (low + i)) (high - low + 1))) := by
    rw [wr_in2 (n := high - low) (by omega), wr_in2 (n := high - low + 1) (by omega)]
    exact search_ok _ (by omega) 56 _ _ fun x hx hx2 => first1_ok low x (by omega) g caps _ (hg _ (by omega) (by omega))
  have e : firstF F low high = wr (low + searchF (fun i => F (low + i)) (high - low + 1)) := by
    show low + searchF (fun i => F (low + i)) (high - low + 1) = _
    exact (wr_in2 (n := low + searchF (fun i => F (low + i)) (high - low + 1)) (by omega)).symm
  rw [e]
  refine pureFn_by Try.func40 k40 rfl rfl ?_
  conv => whnf
  refine ⟨_, ks, ?_⟩
  conv => whnf
  kernel_rfl

/-- The greatest stress that a ring bears. -/
def limitF (b : Bottle) : Int := firstF (fun s => decide (b.tough / b.flaw < s * s)) 0 40000000 - 1
theorem limit1_ok (n s : Int) (h0 : 0 ≤ s) (h1 : s ≤ 40000000) : PureFn Try.prog 58 [int s, .fptr [int n]] (boolD (decide (n < s * s))) := by
  have hb := mb (show 0 ≤ s ∧ s ≤ 40000000 by omega) (show 0 ≤ s ∧ s ≤ 40000000 by omega)
  have e : IntKind.wrap .i64 (s * s) = s * s := wr_eq (by omega)
  rw [← e]
  refine pureFn_by Try.func58 k58 rfl rfl ?_
  conv => whnf
  kernel_rfl
theorem limit_ok (b : Bottle) (hf : 1 ≤ b.flaw) (ht : 0 ≤ b.tough) (ht2 : b.tough ≤ 1000000000000000) : PureFn Try.prog 47 [bottleD b] (int (limitF b)) := by
  have e : IntKind.wrap .i64 (b.tough.tdiv b.flaw) = b.tough / b.flaw := by
    rw [Int.tdiv_eq_ediv_of_nonneg ht]
    have h2 := dn_bd ht (show 0 < b.flaw by omega)
    exact wr_eq (by omega)
  have kf := first_ok 0 40000000 (by omega) (by omega) (by omega) 58 [.fptr [int (IntKind.wrap .i64 (b.tough.tdiv b.flaw))]] (fun s => decide (IntKind.wrap .i64 (b.tough.tdiv b.flaw) < s * s)) (fun x h0 h1 => limit1_ok _ x h0 h1)
  have hs := firstF_spec (F := fun s => decide (b.tough / b.flaw < s * s)) (low := 0) (high := 40000000) (by omega)
  have e2 : limitF b = IntKind.wrap .i64 (firstF (fun s => decide (IntKind.wrap .i64 (b.tough.tdiv b.flaw) < s * s)) 0 40000000 - 1) := by
    rw [e]; unfold limitF; exact (wr_eq (by omega)).symm
  rw [e2]
  refine pureFn_by Try.func47 k47 rfl rfl ?_
  conv => whnf
  refine ⟨by omega, ?_⟩
  conv => whnf
  refine ⟨_, kf, ?_⟩
  conv => whnf
  refine ⟨rfl, ?_⟩
  conv => whnf
  kernel_rfl
end Go.Proofs.YtbkjfjlmhlmdbaaG
