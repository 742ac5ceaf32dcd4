/- The lines of a batch, part 2: forms and lines. No condition. -/
import Derived.Test.YtalbkamkkceanaaGreatB4
set_option linter.unusedVariables false
set_option linter.unusedSimpArgs false
set_option maxRecDepth 100000
set_option maxHeartbeats 4000000
namespace Go.Proofs.YtalbkamkkceanaaGreatG
open Go Go.AM Go.Proofs

/-- A sum of coefficients, as its code has it. -/
structure Form where
  g : FuncId
  caps : List D
  co : Nat → Int
  tg : Int × Int
@[reducible] def formL (f : Form) : List D := [.clo f.g [] f.caps, int f.tg.1, int f.tg.2]
structure FormOk (n : Nat) (f : Form) : Prop where
  call : ∀ k : Nat, k < n → PureFn Tryz.prog f.g (int (k : Int) :: f.caps) (int (f.co k))
  co : ∀ k, k < n → -10000 ≤ f.co k ∧ f.co k ≤ 10000
  tg : -10000 ≤ f.tg.1 ∧ f.tg.1 ≤ 10000 ∧ -10000 ≤ f.tg.2 ∧ f.tg.2 ≤ 10000
theorem share1_ok (i k : Nat) : PureFn Tryz.prog 115 [int (k : Int), .fptr [int (i : Int)]] (int (if k = i then 1000 else 0)) := by
  by_cases h : k = i
  · rw [if_pos h]
    refine pureFn_by Tryz.func115 k115 rfl rfl ?_
    conv => whnf
    rw [decide_eq_true (show (k : Int) = (i : Int) by omega)]
    conv => whnf
    kernel_rfl
  · rw [if_neg h]
    refine pureFn_by Tryz.func115 k115 rfl rfl ?_
    conv => whnf
    rw [decide_eq_false (show ¬ (k : Int) = (i : Int) by omega)]
    conv => whnf
    kernel_rfl
theorem prop1_ok (p : Pty) (k : Nat) (h : k < p.coefs.length) : PureFn Tryz.prog 116 [int (k : Int), .fptr (ptyL p)] (int (p.coefs.getD k 0)) := by
  obtain ⟨c, hc⟩ := get_lt h
  have e : p.coefs.getD k 0 = c := by simp [List.getD, hc]
  rw [e]
  refine pureFn_by Tryz.func116 k116 rfl rfl ?_
  conv => whnf
  refine ⟨by omega, _, (by first | exact gm (by assumption) | exact gz (by assumption)), ?_⟩
  conv => whnf
  kernel_rfl
def shareForm (i : Nat) (s : Int × Int) : Form := ⟨115, [.fptr [int (i : Int)]], fun k => if k = i then 1000 else 0, s⟩
def propForm (p : Pty) : Form := ⟨116, [.fptr (ptyL p)], fun k => p.coefs.getD k 0, p.target⟩
def shareForms : List (Int × Int) → Nat → List Form
  | [], _ => []
  | s :: l, i => shareForm i s :: shareForms l (i + 1)
def formsF (b : Bat) : List Form := shareForms b.shares 0 ++ b.props.map propForm
theorem shareForms_ok {n : Nat} : ∀ {l : List (Int × Int)} {i : Nat}, (∀ s ∈ l, 0 ≤ s.1 ∧ s.1 ≤ s.2 ∧ s.2 ≤ 1000) → ∀ f ∈ shareForms l i, FormOk n f
  | [], _, _, f, hf => by cases hf
  | s :: l, i, h, f, hf => by
    rcases List.mem_cons.1 hf with rfl | hf
    · have hs := h s (by simp)
      refine ⟨fun k _ => share1_ok i k, fun k _ => ?_, by simp only [shareForm]; omega⟩
      simp only [shareForm]
      split <;> omega
    · exact shareForms_ok (fun x hx => h x (by simp [hx])) f hf
theorem forms_ok' {b : Bat} (hb : Bf b) : ∀ f ∈ formsF b, FormOk b.oxides.length f := fun f hf => by
  rcases List.mem_append.1 hf with hf | hf
  · exact shareForms_ok hb.share f hf
  · obtain ⟨p, hp, rfl⟩ := List.mem_map.1 hf
    obtain ⟨h1, h2, h3, h4, h5⟩ := hb.pty p hp
    refine ⟨fun k hk => prop1_ok p k (by omega), fun k hk => ?_, by simp only [propForm]; omega⟩
    obtain ⟨c, hc⟩ := get_lt (xs := p.coefs) (i := k) (by omega)
    have e : p.coefs.getD k 0 = c := by simp [List.getD, hc]
    simp only [propForm, e]
    exact h2 c (List.mem_of_getElem? hc)
theorem shareForms_len : ∀ {l : List (Int × Int)} {i : Nat}, (shareForms l i).length = l.length
  | [], _ => rfl
  | s :: l, i => by simp [shareForms, shareForms_len]
theorem formsF_len {b : Bat} (hb : Bf b) : (formsF b).length ≤ 18 := by
  have := hb.ns; have := hb.no; have := hb.np
  simp [formsF, shareForms_len]; omega
theorem up1_ok (f : Form) (n k : Nat) (hf : FormOk n f) (hk : k < n) : PureFn Tryz.prog 76 [int (k : Int), .fptr (formL f)] (int (f.co k - f.tg.2)) := by
  have hc := hf.co k hk
  have ht := hf.tg
  have ew : IntKind.wrap .i64 (f.co k - f.tg.2) = f.co k - f.tg.2 := wr_eq (by omega)
  rw [← ew]
  refine pureFn_by Tryz.func76 k76 rfl rfl ?_
  conv => whnf
  refine ⟨_, hf.call k hk, ?_⟩
  conv => whnf
  kernel_rfl
theorem down1_ok (f : Form) (n k : Nat) (hf : FormOk n f) (hk : k < n) : PureFn Tryz.prog 78 [int (k : Int), .fptr (formL f)] (int (f.tg.1 - f.co k)) := by
  have hc := hf.co k hk
  have ht := hf.tg
  have ew : IntKind.wrap .i64 (f.tg.1 - f.co k) = f.tg.1 - f.co k := wr_eq (by omega)
  rw [← ew]
  refine pureFn_by Tryz.func78 k78 rfl rfl ?_
  conv => whnf
  refine ⟨_, hf.call k hk, ?_⟩
  conv => whnf
  kernel_rfl
def upF (f : Form) (m : Mat) : Int := greatL (fun k => f.co k - f.tg.2) m.content 0
def downF (f : Form) (m : Mat) : Int := greatL (fun k => f.tg.1 - f.co k) m.content 0
theorem up_ok (f : Form) (m : Mat) (hc : Con m.content) (hf : FormOk m.content.length f) : PureFn Tryz.prog 74 [.agg (matL m), .fptr (formL f)] (int (upF f m)) := by
  have ht := hf.tg
  refine pureFn_by Tryz.func74 k74 rfl rfl ?_
  conv => whnf
  refine ⟨_, greatest_ok m hc 76 [.fptr (formL f)] (fun k => f.co k - f.tg.2) (fun i hi => by have := hf.co i hi; omega) (fun i hi => up1_ok f _ i hf hi), ?_⟩
  conv => whnf
  kernel_rfl
theorem down_ok (f : Form) (m : Mat) (hc : Con m.content) (hf : FormOk m.content.length f) : PureFn Tryz.prog 77 [.agg (matL m), .fptr (formL f)] (int (downF f m)) := by
  have ht := hf.tg
  refine pureFn_by Tryz.func77 k77 rfl rfl ?_
  conv => whnf
  refine ⟨_, greatest_ok m hc 78 [.fptr (formL f)] (fun k => f.tg.1 - f.co k) (fun i hi => by have := hf.co i hi; omega) (fun i hi => down1_ok f _ i hf hi), ?_⟩
  conv => whnf
  kernel_rfl
def low1 (m : Mat) : Int := -lowSum m.content
def redUp (b : Bat) (m : Mat) : Int := 1000000 * m.redox - min (b.redox.2 * lowSum m.content) (b.redox.2 * highSum m.content)
def redDown (b : Bat) (m : Mat) : Int := max (b.redox.1 * lowSum m.content) (b.redox.1 * highSum m.content) - 1000000 * m.redox
theorem sum_bound {l : List (Int × Int)} (h : Con l) : 0 ≤ lowSum l ∧ lowSum l ≤ 1000 * (l.length : Int) ∧ lowSum l ≤ highSum l ∧ highSum l ≤ 1000 * (l.length : Int) := by
  have key : ∀ l : List (Int × Int), (∀ s ∈ l, 0 ≤ s.1 ∧ s.1 ≤ s.2 ∧ s.2 ≤ 1000) → 0 ≤ lowSum l ∧ lowSum l ≤ 1000 * (l.length : Int) ∧ lowSum l ≤ highSum l ∧ highSum l ≤ 1000 * (l.length : Int) := fun l => by
    induction l with
    | nil => intro _; simp [lowSum, highSum]
    | cons s l ih =>
      intro h
      have h1 := h s (by simp)
      have h2 := ih (fun x hx => h x (by simp [hx]))
      simp only [lowSum, highSum, List.map_cons, List.sum_cons, List.length_cons] at h2 ⊢
      omega
  exact key l h.2
theorem lowm_ok (m : Mat) (hc : Con m.content) : PureFn Tryz.prog 71 [.agg (matL m)] (int (low1 m)) := by
  have hs := sum_bound hc
  have := hc.1
  have ew : IntKind.wrap .i64 (0 - lowSum m.content) = low1 m := by unfold low1; rw [wr_eq (by omega)]; omega
  rw [← ew]
  refine pureFn_by Tryz.func71 k71 rfl rfl ?_
  conv => whnf
  refine ⟨_, ends_ok m hc, ?_⟩
  conv => whnf
  kernel_rfl
theorem red_bound {u s : Int} (hu : -10000 ≤ u ∧ u ≤ 10000) (hs : 0 ≤ s ∧ s ≤ 12000) : -120000000 ≤ u * s ∧ u * s ≤ 120000000 := by
  constructor
  · have h1 : -10000 * s ≤ u * s := Int.mul_le_mul_of_nonneg_right hu.1 hs.1
    omega
  · have h1 : u * s ≤ 10000 * s := Int.mul_le_mul_of_nonneg_right hu.2 hs.1
    omega
theorem redUp_ok (b : Bat) (hb : Bf b) (m : Mat) (hm : m ∈ b.mats) (hc : Con m.content) : PureFn Tryz.prog 79 [.agg (matL m), .fptr [int b.redox.2]] (int (redUp b m)) := by
  have hs := sum_bound hc
  have hl := hc.1
  have hr := hb.redox
  have hx := hb.mat m hm
  have m1 := red_bound (u := b.redox.2) (s := lowSum m.content) (by omega) (by omega)
  have m2 := red_bound (u := b.redox.2) (s := highSum m.content) (by omega) (by omega)
  have e1 : IntKind.wrap .i64 (b.redox.2 * lowSum m.content) = b.redox.2 * lowSum m.content := wr_eq (by omega)
  have e2 : IntKind.wrap .i64 (b.redox.2 * highSum m.content) = b.redox.2 * highSum m.content := wr_eq (by omega)
  have e3 : IntKind.wrap .i64 (1000000 * m.redox) = 1000000 * m.redox := wr_eq (by omega)
  have ew : IntKind.wrap .i64 (IntKind.wrap .i64 (1000000 * m.redox) - min (IntKind.wrap .i64 (b.redox.2 * lowSum m.content)) (IntKind.wrap .i64 (b.redox.2 * highSum m.content))) = redUp b m := by
    rw [e1, e2, e3]; exact wr_eq (by omega)
  rw [← ew]
  refine pureFn_by Tryz.func79 k79 rfl rfl ?_
  conv => whnf
  refine ⟨_, ends_ok m hc, ?_⟩
  conv => whnf
  kernel_rfl
theorem redDown_ok (b : Bat) (hb : Bf b) (m : Mat) (hm : m ∈ b.mats) (hc : Con m.content) : PureFn Tryz.prog 80 [.agg (matL m), .fptr [int b.redox.1]] (int (redDown b m)) := by
  have hs := sum_bound hc
  have hl := hc.1
  have hr := hb.redox
  have hx := hb.mat m hm
  have m1 := red_bound (u := b.redox.1) (s := lowSum m.content) (by omega) (by omega)
  have m2 := red_bound (u := b.redox.1) (s := highSum m.content) (by omega) (by omega)
  have e1 : IntKind.wrap .i64 (b.redox.1 * lowSum m.content) = b.redox.1 * lowSum m.content := wr_eq (by omega)
  have e2 : IntKind.wrap .i64 (b.redox.1 * highSum m.content) = b.redox.1 * highSum m.content := wr_eq (by omega)
  have e3 : IntKind.wrap .i64 (1000000 * m.redox) = 1000000 * m.redox := wr_eq (by omega)
  have ew : IntKind.wrap .i64 (max (IntKind.wrap .i64 (b.redox.1 * lowSum m.content)) (IntKind.wrap .i64 (b.redox.1 * highSum m.content)) - IntKind.wrap .i64 (1000000 * m.redox)) = redDown b m := by
    rw [e1, e2, e3]; exact wr_eq (by omega)
  rw [← ew]
  refine pureFn_by Tryz.func80 k80 rfl rfl ?_
  conv => whnf
  refine ⟨_, ends_ok m hc, ?_⟩
  conv => whnf
  kernel_rfl
theorem put_ok (H : Hand) (hm : HLe H H) (f : Form) (els : List (List D)) (n : Nat) (hn : n = els.length) (hl : els.length ≤ 1000) :
    ImpFn Tryz.prog H [1, 5] 114 [.ptr 1 0, .agg [.d (.clo f.g [] f.caps), .d (int f.tg.1), .d (int f.tg.2)]] (mkB [(1, .var [.row 5 0 n n]), (5, .row 3 els)]) (fun _ b' => b' = mkB [(1, .var [.row 5 0 (els.length + 1) (els.length + 1)]), (5, .row 3 (els ++ [formL f]))]) := by
  refine impFn_by hm Tryz.func114 k114 rfl rfl ?_
  conv => whnf
  refine ⟨rfl, rfl, hn, most_le (by simp; omega), ?_⟩
  conv => whnf
  refine cond_intro (by show (true && ((els.length + 1 == (els ++ [formL f]).length) && true)) = true; simp) ?_
  conv => whnf
  exact ⟨.tup [], by kernel_rfl, rfl⟩
theorem forms_ok (b : Bat) (hb : Bf b) : PureFn Tryz.prog 73 [batD b] (.list ((formsF b).map formL)) := by
  have hns := hb.ns
  have hno := hb.no
  have hnp := hb.np
  refine pureFn_by Tryz.func73 k73 rfl rfl ?_
  conv => whnf
  refine loopB (fun (x : Int × List (List D) × Nat) => ⟨mkT [(1, .d (.fptr (cellsB b))), (3, .ptr 1 0), (9, .d (pairsD b.shares)), (10, .d (int (b.shares.map i2).length)), (11, .d (int x.1))], mkB [(1, .var [.row 5 0 x.2.2 x.2.2]), (5, .row 3 x.2.1)]⟩)
    (fun x => ∃ k : Nat, x.1 = k ∧ k ≤ b.shares.length ∧ x.2.1 ++ (shareForms (b.shares.drop k) k).map formL = (shareForms b.shares 0).map formL ∧ x.2.2 = x.2.1.length) (fun x => (b.shares.length - x.1).toNat) (0, [], 0) (by kernel_rfl) ⟨0, rfl, by omega, rfl, rfl⟩ ?_
  rintro ⟨_, els, n⟩ ⟨k, rfl, hk, he, hn⟩
  simp only at he hn
  have hel : els.length + (b.shares.length - k) = b.shares.length := by
    have := congrArg List.length he
    simpa [shareForms_len] using this
  conv => whnf
  cases c1 : decide ((k : Int) < ((b.shares.map i2).length : Int))
  · have hk' : k = b.shares.length := by have := of_decide_eq_false c1; rw [List.length_map] at this; omega
    rw [hk', drop_end] at he
    have he : els = (shareForms b.shares 0).map formL := by simpa [shareForms] using he
    conv => whnf
    refine loopB (fun (x : Int × List (List D) × Nat) => ⟨mkT [(3, .ptr 1 0), (22, .d (.list (b.props.map ptyL))), (23, .d (int (b.props.map ptyL).length)), (24, .d (int x.1))], mkB [(1, .var [.row 5 0 x.2.2 x.2.2]), (5, .row 3 x.2.1)]⟩)
      (fun x => ∃ k : Nat, x.1 = k ∧ k ≤ b.props.length ∧ x.2.1 ++ ((b.props.drop k).map propForm).map formL = (formsF b).map formL ∧ x.2.2 = x.2.1.length) (fun x => (b.props.length - x.1).toNat) (0, els, n) (by kernel_rfl) ⟨0, rfl, by omega, by simp [formsF, he], hn⟩ ?_
    rintro ⟨_, els, n⟩ ⟨j, rfl, hj, he2, hn2⟩
    simp only at he2 hn2
    have hel2 : els.length ≤ 18 := by
      have := congrArg List.length he2
      have := formsF_len hb
      simp at *; omega
    conv => whnf
    cases c2 : decide ((j : Int) < ((b.props.map ptyL).length : Int))
    · have hj' : j = b.props.length := by have := of_decide_eq_false c2; rw [List.length_map] at this; omega
      rw [hj', drop_end] at he2
      have he2 : els = (formsF b).map formL := by simpa using he2
      conv => whnf
      rw [← he2]
      exact resA_row (s := 5) (esz := 3) (els := els) rfl rfl hn2
    · have hj' : j < b.props.length := by have := of_decide_eq_true c2; rw [List.length_map] at this; omega
      obtain ⟨p, hp⟩ := get_lt hj'
      rw [drop_at hp] at he2
      conv => whnf
      refine ⟨by omega, _, (by first | exact gm (by assumption) | exact gz (by assumption)), ?_⟩
      conv => whnf
      refine givI [(3, .ptr 1 0), (7, .ptr 4 0), (22, .d (.list (b.props.map ptyL))), (23, .d (int (b.props.map ptyL).length)), (24, .d (int (j : Int)))] [(1, .var [.row 5 0 n n]), (4, .var [.d (strD p.name), .d (rowD p.coefs), .d (int p.target.1), .d (int p.target.2)]), (5, .row 3 els)]
        [(3, .ptr 1 0), (7, .d (.fptr (ptyL p))), (22, .d (.list (b.props.map ptyL))), (23, .d (int (b.props.map ptyL).length)), (24, .d (int (j : Int)))] [(1, .var [.row 5 0 n n]), (4, .dead), (5, .row 3 els)] (by kernel_rfl)
        (fun s hs => by simp at hs; subst hs; exact .inr ⟨_, rfl⟩) ⟨rfl, .inl rfl, rfl, .inr ⟨_, rfl, rfl⟩, rfl, .inl rfl, rfl, .inl rfl, rfl, .inl rfl, trivial⟩
        ⟨rfl, .inr ⟨rfl, .inl rfl⟩, rfl, .inl ⟨rfl, rfl⟩, rfl, .inr ⟨rfl, .inl rfl⟩, trivial⟩ ?_
      conv => whnf
      refine ⟨⟨mkT [(3, .ptr 1 0), (22, .d (.list (b.props.map ptyL))), (23, .d (int (b.props.map ptyL).length)), (24, .d (int (j : Int)))], mkB [(1, .var [.row 5 0 n n]), (5, .row 3 els)]⟩, _, by kernel_rfl, put_ok (HM noH) (HM_mono noH) (propForm p) els n hn2 (by omega), ?_⟩
      rintro y b' rfl
      conv => whnf
      exact ⟨(IntKind.wrap .i64 ((j : Int) + 1), els ++ [formL (propForm p)], els.length + 1), by kernel_rfl, ⟨j + 1, nx (by omega), by omega, by rw [← he2]; simp, by simp⟩, by simp only; rw [nx (by omega)]; omega⟩
  · have hk' : k < b.shares.length := by have := of_decide_eq_true c1; rw [List.length_map] at this; omega
    obtain ⟨s, hs⟩ := get_lt hk'
    rw [drop_at hs, shareForms] at he
    conv => whnf
    refine ⟨by omega, _, (by first | exact gm (by assumption) | exact gz (by assumption)), ?_⟩
    conv => whnf
    refine givI [(1, .d (.fptr (cellsB b))), (3, .ptr 1 0), (4, .ptr 2 0), (5, .ptr 3 0), (9, .d (pairsD b.shares)), (10, .d (int (b.shares.map i2).length)), (11, .d (int (k : Int)))] [(1, .var [.row 5 0 n n]), (2, .var [.d (int (k : Int))]), (3, .var [.d (int s.1), .d (int s.2)]), (5, .row 3 els)]
      [(1, .d (.fptr (cellsB b))), (3, .ptr 1 0), (4, .d (.fptr [int (k : Int)])), (5, .d (.fptr (i2 s))), (9, .d (pairsD b.shares)), (10, .d (int (b.shares.map i2).length)), (11, .d (int (k : Int)))] [(1, .var [.row 5 0 n n]), (2, .dead), (3, .dead), (5, .row 3 els)] (by kernel_rfl)
      (fun q hq => by simp at hq; rcases hq with rfl | rfl <;> exact .inr ⟨_, rfl⟩) ⟨rfl, .inl rfl, rfl, .inl rfl, rfl, .inr ⟨_, rfl, rfl⟩, rfl, .inr ⟨_, rfl, rfl⟩, rfl, .inl rfl, rfl, .inl rfl, rfl, .inl rfl, trivial⟩
      ⟨rfl, .inr ⟨rfl, .inl rfl⟩, rfl, .inl ⟨rfl, rfl⟩, rfl, .inl ⟨rfl, rfl⟩, rfl, .inr ⟨rfl, .inl rfl⟩, trivial⟩ ?_
    conv => whnf
    refine ⟨⟨mkT [(1, .d (.fptr (cellsB b))), (3, .ptr 1 0), (9, .d (pairsD b.shares)), (10, .d (int (b.shares.map i2).length)), (11, .d (int (k : Int)))], mkB [(1, .var [.row 5 0 n n]), (5, .row 3 els)]⟩, _, by kernel_rfl, put_ok (HM noH) (HM_mono noH) (shareForm k s) els n hn (by omega), ?_⟩
    rintro y b' rfl
    conv => whnf
    exact ⟨(IntKind.wrap .i64 ((k : Int) + 1), els ++ [formL (shareForm k s)], els.length + 1), by kernel_rfl, ⟨k + 1, nx (by omega), by omega, by rw [← he]; simp, by simp⟩, by simp only; rw [nx (by omega)]; omega⟩
end Go.Proofs.YtalbkamkkceanaaGreatG
