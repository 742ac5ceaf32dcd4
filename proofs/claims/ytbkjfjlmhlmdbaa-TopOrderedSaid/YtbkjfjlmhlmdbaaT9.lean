/- The walls that weights make, as they are told. No condition. -/
import Derived.Test.YtbkjfjlmhlmdbaaT8
set_option linter.unusedVariables false
set_option linter.unusedSimpArgs false
set_option maxRecDepth 100000
set_option maxHeartbeats 4000000
namespace Go.Proofs.YtbkjfjlmhlmdbaaG
open Go Go.AM Go.Proofs

theorem resA_cc {σ : St} {i j : Nat} {x y : AC} {d e : D} (h1 : readRV σ (.c i .one) = some x) (h2 : readRV σ (.c j .one) = some y) (h3 : snap σ.b 4 x = some d) (h4 : snap σ.b 4 y = some e) : resA [.c i .one, .c j .one] σ = some (.tup [d, e]) := by
  simp [resA, List.mapM_cons, h1, h2, h3, h4]
@[reducible] def thB (n : Nat) (els : List (List D)) (e : Int) : Nat → ABlk := mkB [(2, .var [.row 5 0 n n]), (3, .var [.d (int e)]), (5, .row 2 els)]
theorem caughtT_nil (n : Nat) (els : List (List D)) (e : Int) : ImpFn Try.prog noH [2, 3, 5] 20 [.d (.v .nilIface), .ptr 3 0] (thB n els e) (fun _ b' => b' = thB n els e) := by
  refine impFn_by noH_le Try.func20 k20 rfl rfl ?_
  conv => whnf
  exact ⟨_, rfl, rfl⟩
theorem caughtT_fail (n : Nat) (els : List (List D)) (e e' : Int) : ImpFn Try.prog noH [2, 3, 5] 20 [.d (.v (failV e')), .ptr 3 0] (thB n els e) (fun _ b' => b' = thB n els e') := by
  refine impFn_by noH_le Try.func20 k20 rfl rfl ?_
  conv => whnf
  refine ⟨3, by simp, ?_⟩
  conv => whnf
  exact ⟨_, rfl, rfl⟩

/-- The walls that weights make. -/
def thiE (b : Bottle) (w : Int × Int) : Int := if chkE b = 0 then (if spanF w 1 100000 = true then 0 else 1) else chkE b
def thiF (b : Bottle) (w : Int × Int) : List (Int × Int) := if chkE b = 0 then (if spanF w 1 100000 = true then b.rings.map (fun r => thickF r w) else []) else []
theorem Thickness_ok (b : Bottle) (w : Int × Int) : PureFn Try.prog 11 [bottleD b, spD w] (.tup [spansD (thiF b w), int (thiE b w)]) := by
  refine defFn_by Try.func11 k11 k24 rfl rfl ?_
  conv => whnf
  refine ⟨3, rfl, ?_⟩
  by_cases c1 : chkE b = 0
  · have hb := VB_of c1
    have hn := hb.n2
    unfold thiE thiF
    rw [if_pos c1, if_pos c1]
    conv => whnf
    refine .inl ?_
    conv => whnf
    refine ⟨_, bcheck_ok b c1, ?_⟩
    cases c2 : spanF w 1 100000
    · rw [if_neg (by simp), if_neg (by simp)]
      conv => whnf
      refine .inr ?_
      conv => whnf
      refine ⟨_, span_ok w _ _, ?_⟩
      conv => whnf
      refine ⟨_, demand_pan' _ c2 1, ?_⟩
      conv => whnf
      refine ⟨failV 1, rfl, [4, 5], [2, 3, 5], _, rfl, caughtT_fail 0 [] 0 1, ?_⟩
      rintro y _ rfl
      kernel_rfl
    · rw [if_pos rfl, if_pos rfl]
      have hw := spanF_iff.1 c2
      conv => whnf
      refine .inl ?_
      conv => whnf
      refine ⟨_, span_ok w _ _, ?_⟩
      conv => whnf
      refine ⟨_, demand_ok' _ c2 1, ?_⟩
      conv => whnf
      refine ⟨_, rings_ok b, ?_⟩
      conv => whnf
      intro lp
      conv => whnf
      refine loopB (fun (x : Int × List (List D) × Nat) => ⟨mkT [(0, .d (.v (.func (.yield lp) #[] #[]))), (6, .d (ringsD b.rings)), (7, .d (int (b.rings.map ringL).length)), (8, .d (int x.1))], mkB [(2, .var [.row 5 0 x.2.2 x.2.2]), (3, .var [.d (int 0)]), (5, .row 2 x.2.1), (6, .fresh)]⟩)
        (fun x => ∃ (i : Nat) (acc : List (Int × Int)), x.1 = i ∧ i ≤ b.rings.length ∧ x.2.1 = acc.map i2 ∧ x.2.2 = x.2.1.length ∧ acc ++ (b.rings.drop i).map (fun r => thickF r w) = b.rings.map (fun r => thickF r w) ∧ acc.length = i) (fun x => (b.rings.length - x.1).toNat) (0, [], 0) (by kernel_rfl) ⟨0, [], rfl, by omega, rfl, rfl, rfl, rfl⟩ ?_
      rintro ⟨_, els, n⟩ ⟨i, acc, rfl, hi, he, hln, hacc, hal⟩
      simp only at he hln
      conv => whnf
      rw [List.length_map]
      cases c3 : decide ((i : Int) < (b.rings.length : Int))
      · have hi' : i = b.rings.length := by have := of_decide_eq_false c3; omega
        rw [hi', drop_end] at hacc
        have hacc : acc = b.rings.map (fun r => thickF r w) := by simpa using hacc
        conv => whnf
        refine cond_intro (by show (true && ((n == els.length) && true)) = true; simp [hln]) ?_
        conv => whnf
        refine ⟨.nilIface, rfl, [4, 5], [2, 3, 5], _, rfl, caughtT_nil n els 0, ?_⟩
        rintro y _ rfl
        refine (resA_cc (d := .list els) (e := int 0) rfl rfl (snap_row0 (s := 5) (esz := 2) (els := els) rfl hln) rfl).trans ?_
        rw [he, hacc]
      · have hi' : i < b.rings.length := by have := of_decide_eq_true c3; omega
        obtain ⟨r, hx⟩ := get_lt hi'
        have hr := hb.rs r (List.mem_of_getElem? hx)
        rw [drop_at hx, List.map_cons] at hacc
        conv => whnf
        refine ⟨by omega, _, gm hx, ?_⟩
        conv => whnf
        refine ⟨rfl, ?_⟩
        conv => whnf
        refine ⟨_, thickness_ok r hr w hw.1 hw.2.1 hw.2.2, ?_⟩
        conv => whnf
        refine ⟨rfl, rfl, hln, most_le (by rw [he]; simp; omega), ?_⟩
        conv => whnf
        refine cond_intro (by show (true && ((els.length + 1 == (els ++ [[int (thickF r w).1, int (thickF r w).2]]).length) && true)) = true; simp) ?_
        conv => whnf
        exact ⟨(IntKind.wrap .i64 ((i : Int) + 1), els ++ [[int (thickF r w).1, int (thickF r w).2]], els.length + 1), by kernel_rfl, ⟨i + 1, acc ++ [thickF r w], nx (by omega), by omega, by rw [he]; simp, by simp, by simpa using hacc, by simp; omega⟩, by simp only; rw [nx (by omega)]; omega⟩
  · unfold thiE thiF
    rw [if_neg c1, if_neg c1]
    conv => whnf
    refine .inr ?_
    conv => whnf
    refine ⟨_, bcheck_pan b _ rfl c1, ?_⟩
    conv => whnf
    refine ⟨failV (chkE b), rfl, [4, 5], [2, 3, 5], _, rfl, caughtT_fail 0 [] 0 (chkE b), ?_⟩
    rintro y _ rfl
    kernel_rfl
end Go.Proofs.YtbkjfjlmhlmdbaaG
