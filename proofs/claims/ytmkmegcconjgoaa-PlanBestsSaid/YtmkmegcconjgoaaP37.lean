/- The specification's shifts and its check. No condition. -/
import Derived.Test.YtmkmegcconjgoaaP36
set_option linter.unusedVariables false
set_option linter.unusedSimpArgs false
set_option maxRecDepth 100000
set_option maxHeartbeats 4000000
namespace Go.Proofs.YtmkmegcconjgoaaG
open Go Go.AM Go.Proofs

theorem pureFn_args {P : Program} {g : FuncId} {args args' : List D} {res : D} (hl : args'.length = args.length)
    (h : ∀ j (hj : j < args.length) (hj' : j < args'.length) (ok : Nat → Prop) (w : World) (v : Value), RelD ok w (args'[j]) v → RelD ok w (args[j]) v) (hP : PureFn P g args res) : PureFn P g args' res :=
  ⟨hP.1, fun ok w vs hz hR => hP.2 ok w vs (hz.trans hl) fun j hj => h j hj (by omega) ok w _ (hR j (by omega))⟩
theorem pureFn_res {P : Program} {g : FuncId} {args : List D} {res res' : D} (h : ∀ (ok : Nat → Prop) (w : World) (v : Value), RelD ok w res v → RelD ok w res' v) (hP : PureFn P g args res) : PureFn P g args res' :=
  ⟨hP.1, fun ok w vs hz hR => (hP.2 ok w vs hz hR).mono fun e w' ⟨v, h1, h2, h3⟩ => ⟨v, h1, h _ _ _ h2, h3⟩⟩
theorem impFn_args {P : Program} {H : Hand} {ls : List Nat} {g : FuncId} {args args' : List AC} {b : Nat → ABlk} {K : AC → (Nat → ABlk) → Prop} (hl : args'.length = args.length)
    (h : ∀ j (hj : j < args.length) (hj' : j < args'.length) (ok : Nat → Prop) (w : World) (m : Nat → AM.Loc) (v : Value), RelC ok w b m (args'[j]) v → RelC ok w b m (args[j]) v) (hP : ImpFn P H ls g args b K) : ImpFn P H ls g args' b K :=
  ⟨hP.1, fun X t lt m a w vs h1 h2 h3 h4 hz hR => hP.2 X t lt m a w vs h1 h2 h3 h4 (hz.trans hl) fun j hj => h j hj (by omega) _ w m _ (hR j (by omega))⟩
theorem rel_nil {ok : Nat → Prop} {w : World} {v : Value} (h : RelD ok w nilD v) : RelD ok w (.list []) v := by cases h; exact .empty none 0

def cOf : List (List D) → AC
  | [] => .d nilD
  | e :: l => .row 1 0 (e :: l).length (e :: l).length
def bOf : List (List D) → ABlk
  | [] => .fresh
  | e :: l => .row 1 (e :: l)
theorem bwp_eta {b : Nat → ABlk} {x : ABlk} (h : b 1 = x) : (St.forget ⟨fun _ => .junk, b⟩ [] [1]).b = mkB [(1, scrB [1] x)] := by rw [← h]; rfl
theorem gathF_len {s : Season} (h : s.arts.length ≤ 8) {k : Int} {ms : List Int} : ∀ {d : Nat} {pre : List Int}, (gathF s k ms d pre).length ≤ 9 ^ d
  | 0, pre => by simp only [gathF]; split <;> simp
  | d + 1, pre => by
    simp only [gathF, List.length_flatMap]
    have : ∀ (l : List Nat), (l.map fun (u : Nat) => (gathF s k ms d (pre ++ [(u : Int) - 1])).length).sum ≤ l.length * 9 ^ d := fun l => by
      induction l with
      | nil => simp
      | cons u l ih =>
        simp only [List.map_cons, List.sum_cons, List.length_cons, Nat.add_mul]
        have h1 := gathF_len h (k := k) (ms := ms) (d := d) (pre := pre ++ [(u : Int) - 1])
        omega
    refine Nat.le_trans (this _) ?_
    rw [List.length_range, Nat.pow_succ, Nat.mul_comm]
    exact Nat.mul_le_mul_left _ (by omega)
theorem gath_ok (s : Season) (h : Fr s) (k : Int) (hk : 0 ≤ k ∧ k < s.ovens.length) (ms : List Int) (hms : makersF s k = ms) (H : Hand) (hm : HLe H H) :
    ∀ (d : Nat) (pre : List Int) (els T : List (List D)), pre.length + d = ms.length → Arts s pre → els ++ (gathF s k ms d pre).map rowL = T → T.length ≤ 531441 →
      ImpFn Try.prog H [1] 73 [.d (seasonD s), .d (int k), .d (rowD pre), cOf els] (mkB [(1, bOf els)]) (fun y b' => y = cOf T ∧ b' = mkB [(1, bOf T)]) := by
  have hmm : ∀ m ∈ ms, 0 ≤ m ∧ m < s.makers.length := fun m hm => makersF_mem (hms ▸ hm)
  have hml : ms.length ≤ 6 := by rw [← hms]; exact Nat.le_trans (makersF_len s k) h.nm
  have mk := makers_ok' s h.sm k
  rw [hms] at mk
  have hna := h.na
  intro d
  induction d with
  | zero =>
    intro pre els T hp hA hT hTl
    have hy := may_ok s h k hk ms pre hms ⟨by omega, by omega, hmm, hA⟩
    refine impFn_by hm Try.func73 k73 rfl rfl ?_
    simp only [gathF] at hT
    conv => whnf
    refine ⟨_, mk, ?_⟩
    conv => whnf
    rw [decide_eq_true (show ((pre.map i1).length : Int) = ((ms.map i1).length : Int) by simp; omega)]
    conv => whnf
    refine ⟨_, hy, ?_⟩
    cases c1 : fitsF s k ms pre
    · rw [c1] at hT
      have hT : els = T := by simpa using hT
      subst hT
      rcases els with _ | ⟨e, l⟩
      · conv => whnf
        exact ⟨cOf [], by kernel_rfl, rfl, rfl⟩
      · conv => whnf
        exact ⟨cOf (e :: l), by kernel_rfl, rfl, rfl⟩
    · rw [c1] at hT
      have hT : els ++ [rowL pre] = T := by simpa using hT
      subst hT
      rcases els with _ | ⟨e, l⟩
      · conv => whnf
        refine ⟨rfl, most_le (by simp), ?_⟩
        conv => whnf
        exact ⟨.row 1 0 1 1, by kernel_rfl, rfl, rfl⟩
      · conv => whnf
        refine ⟨rfl, rfl, rfl, most_le (by simp at hTl ⊢; omega), ?_⟩
        conv => whnf
        refine ⟨.row 1 0 ((e :: l).length + 1) ((e :: l).length + 1), by kernel_rfl, ?_, rfl⟩
        show AC.row 1 0 ((e :: l).length + 1) ((e :: l).length + 1) = AC.row 1 0 ((e :: l) ++ [rowL pre]).length ((e :: l) ++ [rowL pre]).length
        simp
  | succ d ih =>
    intro pre els T hp hA hT hTl
    obtain ⟨F, hF⟩ : ∃ F : Nat → List (List Int), F = fun (u : Nat) => gathF s k ms d (pre ++ [(u : Int) - 1]) := ⟨_, rfl⟩
    have hT0 : els ++ (((List.range (s.arts.length + 1)).drop 0).flatMap F).map rowL = T := by rw [← hT, hF]; rfl
    refine impFn_by hm Try.func73 k73 rfl rfl ?_
    rcases els with _ | ⟨e0, l0⟩
    all_goals
      conv => whnf
      refine ⟨_, mk, ?_⟩
      conv => whnf
      rw [decide_eq_false (show ¬ ((pre.map i1).length : Int) = ((ms.map i1).length : Int) by simp; omega)]
      conv => whnf
      refine loopB (fun (x : Int × List (List D)) => ⟨mkT [(1, .d (int k)), (2, .d (rowD pre)), (3, cOf x.2), (4, .d (.fptr (cellsS s))), (9, .d (int x.1))], mkB [(1, bOf x.2)]⟩)
        (fun x => ∃ u : Nat, x.1 = (u : Int) - 1 ∧ u ≤ s.arts.length + 1 ∧ x.2 ++ (((List.range (s.arts.length + 1)).drop u).flatMap F).map rowL = T) (fun x => ((s.arts.length : Int) - x.1).toNat) (-1, _) (by kernel_rfl) ⟨0, by simp, by omega, hT0⟩ ?_
      rintro ⟨a, els⟩ ⟨u, ha, hu, hf⟩
      simp only at ha hf
      rcases hels : els with _ | ⟨e, l⟩
      all_goals
        conv => whnf
        rw [List.length_map]
        cases c1 : decide (a < (s.arts.length : Int))
        · have hu' : s.arts.length + 1 ≤ u := by have := of_decide_eq_false c1; omega
          rw [List.drop_of_length_le (by simpa using hu')] at hf
          have hf : els = T := by simpa using hf
          rw [← hf, hels]
          conv => whnf
          first
            | exact ⟨cOf [], by kernel_rfl, rfl, rfl⟩
            | exact ⟨cOf (e :: l), by kernel_rfl, rfl, rfl⟩
        · have hlt := of_decide_eq_true c1
          have hdr : (List.range (s.arts.length + 1)).drop u = u :: (List.range (s.arts.length + 1)).drop (u + 1) := drop_at (List.getElem?_range (by omega))
          have hFu : F u = gathF s k ms d (pre ++ [a]) := by rw [hF, ha]
          rw [hdr, List.flatMap_cons, List.map_append, ← List.append_assoc, hFu] at hf
          have ih' := fun (els : List (List D)) (L : List (List D)) (e1 : els ++ (gathF s k ms d (pre ++ [a])).map rowL = L) (e2 : L.length ≤ 531441) => ih (pre ++ [a]) els L (by simp; omega) (fun x hx => by
            rcases List.mem_append.1 hx with hx | hx
            · exact hA x hx
            · simp at hx; subst hx; omega) e1 e2
          rw [show rowD (pre ++ [a]) = .list (pre.map i1 ++ [[int a]]) by simp] at ih'
          have hwa : IntKind.wrap .i64 (a + 1) = ((u + 1 : Nat) : Int) - 1 := by rw [wr_eq (by omega)]; omega
          conv => whnf
          refine ⟨one_row pre, most_le (by simp; omega), ?_⟩
          conv => whnf
          refine ⟨rfl, rfl, rfl, most_le (by simp; omega), ?_⟩
          conv => whnf
          obtain ⟨L2, hL2⟩ : ∃ L2 : List (List D), els ++ (gathF s k ms d (pre ++ [a])).map rowL = L2 := ⟨_, rfl⟩
          rw [hL2] at hf
          have ihL := ih' els L2 hL2 (by rw [← hf] at hTl; simp at hTl ⊢; omega)
          rw [hels] at ihL
          first
            | refine ⟨⟨mkT [(1, .d (int k)), (2, .d (rowD pre)), (4, .d (.fptr (cellsS s))), (9, .d (int a))], mkB [(1, bOf [])]⟩, _, by kernel_rfl, (le_HM H).imp ihL, ?_⟩
            | refine ⟨⟨mkT [(1, .d (int k)), (2, .d (rowD pre)), (4, .d (.fptr (cellsS s))), (9, .d (int a))], mkB [(1, bOf (e :: l))]⟩, _, by kernel_rfl, (le_HM H).imp ihL, ?_⟩
          rintro y b' ⟨rfl, rfl⟩
          rcases L2 with _ | ⟨e2, l2⟩
          · conv => whnf
            exact ⟨(IntKind.wrap .i64 (a + 1), []), by kernel_rfl, ⟨u + 1, hwa, by omega, hf⟩, by simp only; rw [hwa]; omega⟩
          · conv => whnf
            exact ⟨(IntKind.wrap .i64 (a + 1), e2 :: l2), by kernel_rfl, ⟨u + 1, hwa, by omega, hf⟩, by simp only; rw [hwa]; omega⟩
end Go.Proofs.YtmkmegcconjgoaaG
