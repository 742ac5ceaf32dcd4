/- The lightest weight. No condition. -/
import Derived.Test.YtbkjfjlmhlmdbaaT4
set_option linter.unusedVariables false
set_option linter.unusedSimpArgs false
set_option maxRecDepth 100000
set_option maxHeartbeats 4000000
namespace Go.Proofs.YtbkjfjlmhlmdbaaG
open Go Go.AM Go.Proofs

theorem index_ok (xs : List Int) (v : Int) (hl : xs.length < 1000000000) : PureFn Try.prog 54 [rowD xs, int v] (int (idxF (fun x => decide (v = x)) xs)) := by
  refine pureFn_by Try.func54 k54 rfl rfl ?_
  conv => whnf
  refine loopB (fun (i : Int) => ⟨mkT [(0, .d (rowD xs)), (1, .d (int v)), (7, .d (int (xs.map i1).length)), (8, .d (int i))], mkB []⟩)
    (fun i => ∃ k : Nat, i = k ∧ k ≤ xs.length ∧ ∀ j, j < k → ∀ y, xs[j]? = some y → decide (v = y) = false) (fun i => (xs.length - i).toNat) 0 (by kernel_rfl) ⟨0, rfl, by omega, fun j hj => by omega⟩ ?_
  rintro _ ⟨i, rfl, hi, hb⟩
  conv => whnf
  rw [List.length_map]
  cases c1 : decide ((i : Int) < (xs.length : Int))
  · have hi' : i = xs.length := by have := of_decide_eq_false c1; omega
    subst hi'
    rw [idx_miss (p := fun x => decide (v = x)) hb]
    conv => whnf
    kernel_rfl
  · have hi' : i < xs.length := by have := of_decide_eq_true c1; omega
    obtain ⟨x, hx⟩ := get_lt hi'
    conv => whnf
    refine ⟨by omega, _, gm hx, ?_⟩
    conv => whnf
    cases c2 : decide (v = x)
    · conv => whnf
      refine ⟨IntKind.wrap .i64 ((i : Int) + 1), by kernel_rfl, ⟨i + 1, nx (by omega), by omega, fun j hj y hy => ?_⟩, by rw [nx (by omega)]; omega⟩
      by_cases e : j = i
      · subst e; rw [hx] at hy; cases hy; exact c2
      · exact hb j (by omega) y hy
    · rw [idx_hit (p := fun x => decide (v = x)) hx c2 hb]
      conv => whnf
      kernel_rfl
theorem contains_ok (xs : List Int) (v : Int) (hl : xs.length < 1000000000) : PureFn Try.prog 39 [rowD xs, int v] (boolD (xs.any fun x => decide (v = x))) := by
  rw [← idx_any]
  refine pureFn_by Try.func39 k39 rfl rfl ?_
  conv => whnf
  refine ⟨_, index_ok xs v hl, ?_⟩
  conv => whnf
  kernel_rfl

/-- Do walls that a weight makes do? -/
def doF (b : Bottle) (ns : List Int) (w : Int) : Bool := (b.rings.zip ns).all fun p => !decide ((thickF p.1 (w, w)).1 < p.2)
theorem do_ok (b : Bottle) (hb : VB b) (ns : List Int) (hns : ns.length = b.rings.length) (w : Int) (h1 : 1 ≤ w) (h2 : w ≤ 100000) :
    PureFn Try.prog 41 [int w, .fptr (cellsB b), .fptr [rowD ns]] (boolD (doF b ns w)) := by
  have hn := hb.n2
  refine pureFn_by Try.func41 k41 rfl rfl ?_
  conv => whnf
  refine ⟨_, rings_ok b, ?_⟩
  conv => whnf
  intro lp
  conv => whnf
  refine loopB (fun (i : Int) => ⟨mkT [(0, .d (.v (.func (.yield lp) #[] #[]))), (6, .d (ringsD b.rings)), (7, .d (int (b.rings.map ringL).length)), (8, .d (int i))], mkB [(1, .var [.d (boolD false)]), (3, .fresh)]⟩)
    (fun x => ∃ i : Nat, x = i ∧ i ≤ b.rings.length ∧ ∀ j, j < i → ∀ r n, b.rings[j]? = some r → ns[j]? = some n → decide ((thickF r (w, w)).1 < n) = false) (fun x => (b.rings.length - x).toNat) 0 (by kernel_rfl) ⟨0, rfl, by omega, fun j hj => by omega⟩ ?_
  rintro _ ⟨i, rfl, hi, hj⟩
  conv => whnf
  rw [List.length_map]
  cases c1 : decide ((i : Int) < (b.rings.length : Int))
  · have hi' : i = b.rings.length := by have := of_decide_eq_false c1; omega
    have : doF b ns w = true := by
      unfold doF
      rw [List.all_eq_true]
      intro p hp
      obtain ⟨j, hjl, rfl⟩ := List.mem_iff_getElem.1 hp
      have hjl' : j < b.rings.length := by simp at hjl; omega
      rw [hj j (by omega) _ _ (by rw [List.getElem_zip]; simp [hjl']) (by rw [List.getElem_zip]; simp [show j < ns.length by omega])]; rfl
    rw [this]
    conv => whnf
    kernel_rfl
  · have hi' : i < b.rings.length := by have := of_decide_eq_true c1; omega
    obtain ⟨r, hx⟩ := get_lt hi'
    obtain ⟨n, hxn⟩ := get_lt (show i < ns.length by omega)
    have hr := hb.rs r (List.mem_of_getElem? hx)
    conv => whnf
    refine ⟨by omega, _, gm hx, ?_⟩
    conv => whnf
    refine ⟨rfl, ?_⟩
    conv => whnf
    refine ⟨_, thickness_ok r hr (w, w) h1 (by simp) h2, ?_⟩
    conv => whnf
    refine ⟨by omega, _, gm hxn, ?_⟩
    conv => whnf
    cases c2 : decide ((thickF r (w, w)).1 < n)
    · conv => whnf
      refine ⟨IntKind.wrap .i64 ((i : Int) + 1), by kernel_rfl, ⟨i + 1, nx (by omega), by omega, fun j hj2 r' n' hr' hn' => ?_⟩, by rw [nx (by omega)]; omega⟩
      by_cases e : j = i
      · subst e; rw [hx] at hr'; cases hr'; rw [hxn] at hn'; cases hn'; exact c2
      · exact hj j (by omega) r' n' hr' hn'
    · have : doF b ns w = false := by
        unfold doF
        rw [List.all_eq_false]
        refine ⟨(r, n), List.mem_iff_getElem?.2 ⟨i, ?_⟩, by simp [c2]⟩
        rw [List.getElem?_zip_eq_some]; exact ⟨hx, hxn⟩
      rw [this]
      conv => whnf
      kernel_rfl

/-- The lightest weight that is enough; 0: there is none. -/
def lightF (b : Bottle) (l : Load) : Int :=
  if (needs b l).any (fun x => decide (0 = x)) = true then 0 else if 100000 < firstF (doF b (needs b l)) 1 100000 then 0 else firstF (doF b (needs b l)) 1 100000
theorem lightest_ok (b : Bottle) (hb : VB b) (l : Load) (hl : VL l) : PureFn Try.prog 23 [bottleD b, loadD l] (int (lightF b l)) := by
  have hn := hb.n2
  have hln : (needs b l).length = b.rings.length := by simp [needs]
  have kf := first_ok 1 100000 (by omega) (by omega) (by omega) 41 [.fptr (cellsB b), .fptr [rowD (needs b l)]] (doF b (needs b l)) (fun w h1 h2 => do_ok b hb _ hln w h1 h2)
  unfold lightF
  refine pureFn_by Try.func23 k23 rfl rfl ?_
  conv => whnf
  refine ⟨_, needed_ok b hb l hl, ?_⟩
  conv => whnf
  refine ⟨_, contains_ok (needs b l) 0 (by omega), ?_⟩
  conv => whnf
  cases c1 : (needs b l).any (fun x => decide (0 = x))
  · rw [if_neg (by simp)]
    conv => whnf
    refine ⟨_, kf, ?_⟩
    conv => whnf
    refine ⟨rfl, ?_⟩
    conv => whnf
    cases c2 : decide (100000 < firstF (doF b (needs b l)) 1 100000)
    · rw [if_neg (of_decide_eq_false c2)]
      conv => whnf
      kernel_rfl
    · rw [if_pos (of_decide_eq_true c2)]
      conv => whnf
      kernel_rfl
  · rw [if_pos rfl]
    conv => whnf
    kernel_rfl
end Go.Proofs.YtbkjfjlmhlmdbaaG
