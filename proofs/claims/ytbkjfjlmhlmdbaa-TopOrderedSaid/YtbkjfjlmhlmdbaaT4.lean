/- The least walls, and the least weight. No condition. -/
import Derived.Test.YtbkjfjlmhlmdbaaT3
set_option linter.unusedVariables false
set_option linter.unusedSimpArgs false
set_option maxRecDepth 100000
set_option maxHeartbeats 4000000
namespace Go.Proofs.YtbkjfjlmhlmdbaaG
open Go Go.AM Go.Proofs

/-- A bottle that may be. -/
structure VB (b : Bottle) : Prop where
  n1 : b.rings ≠ []
  n2 : b.rings.length ≤ 24
  rs : ∀ r ∈ b.rings, VR r
  f1 : 1 ≤ b.flaw
  f2 : b.flaw ≤ 1000
  t1 : 0 ≤ b.tough
  t2 : b.tough ≤ 1000000000000000

@[reducible] def cellsB (b : Bottle) : List D := [ringsD b.rings, int b.flaw, int b.tough]
theorem rings_ok (b : Bottle) : PureFn Try.prog 27 [bottleD b] (.clo 42 [] [.fptr (cellsB b)]) :=
  pureFn_by Try.func27 k27 rfl rfl rfl

def needF (b : Bottle) (l : Load) (r : Ring) (t : Int) : Bool := decide ((stressF r (t, t) l).2 ≤ limitF b)
theorem needed1_ok (m t : Int) (r : Ring) (hr : VR r) (l : Load) (hl : VL l) (h1 : 1 ≤ t) (h2 : t ≤ 2000) :
    PureFn Try.prog 53 [int t, .fptr (ringL r), .fptr [int l.press, int l.force, int l.speed, int l.other], .fptr [int m]] (boolD (decide ((stressF r (t, t) l).2 ≤ m))) := by
  refine pureFn_by Try.func53 k53 rfl rfl ?_
  conv => whnf
  refine ⟨_, stress_ok hr (t := (t, t)) ⟨h1, by simp, h2⟩ hl, ?_⟩
  conv => whnf
  kernel_rfl
def need1 (b : Bottle) (l : Load) (r : Ring) : Int := if 2000 < firstF (needF b l r) 1 2000 then 0 else firstF (needF b l r) 1 2000
def needs (b : Bottle) (l : Load) : List Int := b.rings.map (need1 b l)
theorem needed_ok (b : Bottle) (hb : VB b) (l : Load) (hl : VL l) : PureFn Try.prog 38 [bottleD b, loadD l] (rowD (needs b l)) := by
  have hn := hb.n2
  refine pureFn_by Try.func38 k38 rfl rfl ?_
  conv => whnf
  refine ⟨_, limit_ok b hb.f1 hb.t1 hb.t2, ?_⟩
  conv => whnf
  refine ⟨_, rings_ok b, ?_⟩
  conv => whnf
  intro lp
  conv => whnf
  refine loopB (fun (x : Int × List (List D) × Nat) => ⟨mkT [(0, .d (.v (.func (.yield lp) #[] #[]))), (6, .d (ringsD b.rings)), (7, .d (int (b.rings.map ringL).length)), (8, .d (int x.1))], mkB [(2, .var [.d (int (limitF b))]), (3, .var [.row 5 0 x.2.2 x.2.2]), (5, .row 1 x.2.1), (6, .fresh)]⟩)
    (fun x => ∃ (i : Nat) (acc : List Int), x.1 = i ∧ i ≤ b.rings.length ∧ x.2.1 = acc.map i1 ∧ x.2.2 = x.2.1.length ∧ acc ++ needs ⟨b.rings.drop i, b.flaw, b.tough⟩ l = needs b l ∧ acc.length = i) (fun x => (b.rings.length - x.1).toNat) (0, [], 0) (by kernel_rfl) ⟨0, [], rfl, by omega, rfl, rfl, rfl, rfl⟩ ?_
  rintro ⟨_, els, n⟩ ⟨i, acc, rfl, hi, he, hln, hacc, hal⟩
  simp only at he hln
  conv => whnf
  rw [List.length_map]
  cases c1 : decide ((i : Int) < (b.rings.length : Int))
  · have hi' : i = b.rings.length := by have := of_decide_eq_false c1; omega
    rw [hi', drop_end] at hacc
    have hacc : acc = needs b l := by simpa [needs] using hacc
    conv => whnf
    refine (resA_row (s := 5) (n := n) (esz := 1) (els := els) rfl rfl hln).trans ?_
    rw [he, hacc]
  · have hi' : i < b.rings.length := by have := of_decide_eq_true c1; omega
    obtain ⟨r, hx⟩ := get_lt hi'
    have hr := hb.rs r (List.mem_of_getElem? hx)
    have hacc : acc ++ need1 b l r :: needs ⟨b.rings.drop (i + 1), b.flaw, b.tough⟩ l = needs b l := by
      rw [← hacc, drop_at hx]; rfl
    have kf := first_ok 1 2000 (by omega) (by omega) (by omega) 53 [.fptr (ringL r), .fptr [int l.press, int l.force, int l.speed, int l.other], .fptr [int (limitF b)]] (needF b l r) (fun t h1 h2 => needed1_ok (limitF b) t r hr l hl h1 h2)
    conv => whnf
    refine ⟨by omega, _, gm hx, ?_⟩
    conv => whnf
    refine ⟨rfl, ?_⟩
    conv => whnf
    refine ⟨_, kf, ?_⟩
    conv => whnf
    refine ⟨rfl, ?_⟩
    conv => whnf
    unfold need1 at hacc
    cases c2 : decide (2000 < firstF (needF b l r) 1 2000)
    · rw [if_neg (of_decide_eq_false c2)] at hacc
      conv => whnf
      refine ⟨rfl, rfl, hln, most_le (by rw [he]; simp; omega), ?_⟩
      conv => whnf
      refine cond_intro (by show (true && ((els.length + 1 == (els ++ [[int (firstF (needF b l r) 1 2000)]]).length) && true)) = true; simp) ?_
      conv => whnf
      exact ⟨(IntKind.wrap .i64 ((i : Int) + 1), els ++ [[int (firstF (needF b l r) 1 2000)]], els.length + 1), by kernel_rfl, ⟨i + 1, acc ++ [firstF (needF b l r) 1 2000], nx (by omega), by omega, by rw [he]; simp, by simp, by simpa using hacc, by simp; omega⟩, by simp only; rw [nx (by omega)]; omega⟩
    · rw [if_pos (of_decide_eq_true c2)] at hacc
      conv => whnf
      refine ⟨rfl, rfl, hln, most_le (by rw [he]; simp; omega), ?_⟩
      conv => whnf
      refine cond_intro (by show (true && ((els.length + 1 == (els ++ [[int 0]]).length) && true)) = true; simp) ?_
      conv => whnf
      exact ⟨(IntKind.wrap .i64 ((i : Int) + 1), els ++ [[int 0]], els.length + 1), by kernel_rfl, ⟨i + 1, acc ++ [0], nx (by omega), by omega, by rw [he]; simp, by simp, by simpa using hacc, by simp; omega⟩, by simp only; rw [nx (by omega)]; omega⟩
end Go.Proofs.YtbkjfjlmhlmdbaaG
