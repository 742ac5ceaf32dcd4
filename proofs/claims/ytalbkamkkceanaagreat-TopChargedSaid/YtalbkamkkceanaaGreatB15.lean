/- The specification's lines are the program's. No condition. -/
import Derived.Test.YtalbkamkkceanaaGreatB14
set_option linter.unusedVariables false
set_option linter.unusedSimpArgs false
set_option maxRecDepth 100000
set_option maxHeartbeats 4000000
namespace Go.Proofs.YtalbkamkkceanaaGreatG
open Go Go.AM Go.Proofs

theorem greatL_congr {d d' : Nat → Int} : ∀ {l : List (Int × Int)} {i : Nat}, (∀ j, i ≤ j → j < i + l.length → d j = d' j) → greatL d l i = greatL d' l i
  | [], _, _ => rfl
  | s :: l, i, h => by
    simp only [greatL]
    rw [h i (Nat.le_refl _) (by simp), greatL_congr (l := l) (i := i + 1) (fun j h1 h2 => h j (by omega) (by simp; omega))]
def ptyLines (b : Bat) (p : Pty) : List (List Int × Int) := [(b.mats.map fun m => aboveF p.coefs m.content p.target.2, 0), (b.mats.map fun m => belowF p.coefs m.content p.target.1, 0)]
theorem share_co {n i k : Nat} (h : k < n) : ((List.replicate n (0 : Int)).set i 1000).getD k 0 = if k = i then 1000 else 0 := by
  rw [List.getD_eq_getElem?_getD, List.getElem?_set]
  by_cases e : i = k
  · subst e; simp [h]
  · rw [if_neg e, if_neg (fun h => e h.symm), List.getElem?_replicate, if_pos h]; rfl
theorem shareLines {b : Bat} (hb : Bf b) (i : Nat) (s : Int × Int) : formLines b (shareForm i s) = ptyLines b (shareP b.oxides.length i s) := by
  have h1 : ∀ m ∈ b.mats, upF (shareForm i s) m = aboveF (shareP b.oxides.length i s).coefs m.content s.2 := fun m hm => by
    have hl := (hb.mat m hm).2.2.2.2.2.2.2.2.2.1
    exact greatL_congr (fun j _ hj => by simp only [shareForm, shareP]; rw [share_co (by omega)])
  have h2 : ∀ m ∈ b.mats, downF (shareForm i s) m = belowF (shareP b.oxides.length i s).coefs m.content s.1 := fun m hm => by
    have hl := (hb.mat m hm).2.2.2.2.2.2.2.2.2.1
    exact greatL_congr (fun j _ hj => by simp only [shareForm, shareP]; rw [share_co (by omega)])
  unfold formLines ptyLines
  rw [List.map_congr_left h1, List.map_congr_left h2]
  rfl
theorem linesEq {b : Bat} (hb : Bf b) : (formsF b).flatMap (formLines b) = (formsR b).flatMap (ptyLines b) := by
  unfold formsF formsR
  rw [List.flatMap_append, List.flatMap_append]
  congr 1
  · have key : ∀ (l : List (Int × Int)) (i : Nat), (shareForms l i).flatMap (formLines b) = (sharePs b.oxides.length l i).flatMap (ptyLines b) := fun l => by
      induction l with
      | nil => intro _; rfl
      | cons s l ih => intro i; simp only [shareForms, sharePs, List.flatMap_cons]; rw [ih, shareLines hb]
    exact key _ _
  · induction b.props with
    | nil => rfl
    | cons p l ih => simp only [List.map_cons, List.flatMap_cons]; rw [ih]; rfl
theorem formsR_mem {b : Bat} (hb : Bf b) : ∀ p ∈ formsR b, p.coefs.length = b.oxides.length ∧ (∀ c ∈ p.coefs, -10000 ≤ c ∧ c ≤ 10000) ∧ -10000 ≤ p.target.1 ∧ p.target.1 ≤ 10000 ∧ -10000 ≤ p.target.2 ∧ p.target.2 ≤ 10000 := fun p hp => by
  rcases List.mem_append.1 hp with hp | hp
  · have key : ∀ (l : List (Int × Int)) (i : Nat), (∀ s ∈ l, 0 ≤ s.1 ∧ s.1 ≤ s.2 ∧ s.2 ≤ 1000) → p ∈ sharePs b.oxides.length l i → p.coefs.length = b.oxides.length ∧ (∀ c ∈ p.coefs, -10000 ≤ c ∧ c ≤ 10000) ∧ -10000 ≤ p.target.1 ∧ p.target.1 ≤ 10000 ∧ -10000 ≤ p.target.2 ∧ p.target.2 ≤ 10000 := fun l => by
      induction l with
      | nil => intro _ _ h; cases h
      | cons s l ih =>
        intro i h1 h
        rcases List.mem_cons.1 h with rfl | h
        · have := h1 s (by simp)
          refine ⟨by simp [shareP], fun c hc => ?_, by simp only [shareP]; omega⟩
          rcases List.mem_or_eq_of_mem_set hc with hc | rfl
          · rw [List.eq_of_mem_replicate hc]; omega
          · omega
        · exact ih (i + 1) (fun x hx => h1 x (by simp [hx])) h
    exact key _ _ hb.share hp
  · obtain ⟨h1, h2, h3, h4, h5⟩ := hb.pty p hp
    exact ⟨h1, h2, by omega⟩
theorem formsR_len {b : Bat} (hb : Bf b) : (formsR b).length ≤ 18 := by
  have := hb.ns; have := hb.no; have := hb.np
  simp [formsR, sharePs_len]; omega
theorem allLines_ok (b : Bat) (hb : Bf b) : PureFn Tryz.prog 58 [batD b] (linesD (linesF b)) := by
  have hfl := formsR_len hb
  have hnm := hb.nm
  have hw := hb.wanted
  have hrx := hb.redox
  have ew : IntKind.wrap .i64 (-1000 * b.wanted) = -1000 * b.wanted := wr_eq (by omega)
  refine pureFn_by Tryz.func58 k58 rfl rfl ?_
  conv => whnf
  rw [ew]
  refine loopB (fun (x : Int × List (List D) × Nat) => ⟨mkT [(1, .d (.fptr (cellsB b))), (3, .ptr 1 0), (4, .d (int x.1))], mkB [(1, .var [.row 7 0 x.2.2 x.2.2, .d (int (-1000 * b.wanted))]), (7, .row 1 x.2.1)]⟩)
    (fun x => ∃ k : Nat, x.1 = k ∧ k ≤ b.mats.length ∧ x.2.1 = ((b.mats.take k).map low1).map i1 ∧ x.2.2 = x.2.1.length) (fun x => (b.mats.length - x.1).toNat) (0, [], 0) (by kernel_rfl) ⟨0, rfl, by omega, rfl, rfl⟩ ?_
  rintro ⟨_, els, n⟩ ⟨k, rfl, hk, he, hn⟩
  simp only at he hn
  conv => whnf
  rw [List.length_map]
  cases c1 : decide ((k : Int) < (b.mats.length : Int))
  case true =>
    have hk' : k < b.mats.length := by have := of_decide_eq_true c1; omega
    obtain ⟨m, hm⟩ := get_lt hk'
    have hel : els.length = k := by rw [he]; simp; omega
    have htk : b.mats.take (k + 1) = b.mats.take k ++ [m] := by rw [List.take_add_one, hm]; rfl
    have hcm := con_of hb (List.mem_of_getElem? hm)
    have hsb := sum_bound hcm
    have hcl := hcm.1
    conv => whnf
    refine ⟨by omega, _, (by first | exact gm (by assumption) | exact gz (by assumption)), ?_⟩
    conv => whnf
    refine ⟨_, sumsR_ok m.content hcm, ?_⟩
    conv => whnf
    have e1 : IntKind.wrap .i64 (0 - lowSum m.content) = low1 m := by unfold low1; rw [wr_eq (by omega)]; omega
    rw [e1]
    refine ⟨rfl, rfl, hn, most_le (by simp; omega), ?_⟩
    conv => whnf
    refine cond_intro (by show (true && ((els.length + 1 == (els ++ [[int (low1 m)]]).length) && true)) = true; simp) ?_
    conv => whnf
    exact ⟨(IntKind.wrap .i64 ((k : Int) + 1), els ++ [[int (low1 m)]], els.length + 1), by kernel_rfl, ⟨k + 1, nx (by omega), by omega, by rw [he, htk]; simp, by simp⟩, by simp only; rw [nx (by omega)]; omega⟩
  have hk' : k = b.mats.length := by have := of_decide_eq_false c1; omega
  rw [hk', List.take_length] at he
  conv => whnf
  refine givI [(1, .d (.fptr (cellsB b))), (3, .ptr 1 0)] [(1, .var [.row 7 0 n n, .d (int (-1000 * b.wanted))]), (7, .row 1 els)]
    [(1, .d (.fptr (cellsB b))), (3, .ptr 1 0)] [(1, .var [.d (.list els), .d (int (-1000 * b.wanted))]), (7, .dead)] (by kernel_rfl)
    (fun q hq => by simp at hq; subst hq; exact .inl ⟨_, _, rfl⟩) ⟨rfl, .inl rfl, rfl, .inl rfl, trivial⟩
    ⟨rfl, .inr ⟨rfl, .inr ⟨_, _, rfl, rfl, .inr ⟨_, snap_row0 (s := 7) (esz := 1) rfl hn, rfl⟩, .inl rfl, trivial⟩⟩, rfl, .inl ⟨rfl, rfl⟩, trivial⟩ ?_
  conv => whnf
  refine ⟨_, formsR_ok b hb, ?_⟩
  conv => whnf
  refine loopB (fun (x : Int × List (List D) × Nat) => ⟨mkT [(1, .d (.fptr (cellsB b))), (7, .row 10 0 x.2.2 x.2.2), (8, .d (.list ((formsR b).map ptyL))), (9, .d (int x.1))], mkB [(10, .row 2 x.2.1)]⟩)
    (fun x => ∃ k : Nat, x.1 = k ∧ k ≤ (formsR b).length ∧ x.2.1 ++ (((formsR b).drop k).flatMap (ptyLines b)).map lineL = (lines0 b).map lineL ∧ x.2.2 = x.2.1.length) (fun x => ((formsR b).length - x.1).toNat) (0, [[.list els, int (-1000 * b.wanted)]], 1) (by kernel_rfl) ⟨0, rfl, by omega, by rw [he, lines0, linesEq hb]; rfl, rfl⟩ ?_
  rintro ⟨_, gels, g⟩ ⟨j, rfl, hj, hg, hgn⟩
  simp only at hg hgn
  have hgl : gels.length ≤ 37 := by
    have h1 := congrArg List.length hg
    have h2 : ((formsF b).flatMap (formLines b)).length = 2 * (formsF b).length := flat_len 2 (fun _ => rfl)
    have h3 := formsF_len hb
    rw [List.length_append, List.length_map, List.length_map, lines0, List.length_cons, h2] at h1
    omega
  conv => whnf
  rw [List.length_map]
  cases c2 : decide ((j : Int) < ((formsR b).length : Int))
  case true =>
    have hj' : j < (formsR b).length := by have := of_decide_eq_true c2; omega
    obtain ⟨p, hp⟩ := get_lt hj'
    obtain ⟨p1, p2, p3⟩ := formsR_mem hb p (List.mem_of_getElem? hp)
    rw [drop_at hp, List.flatMap_cons] at hg
    conv => whnf
    refine loopB (fun (x : Int × (List (List D) × Nat) × List (List D) × Nat) => ⟨mkT [(1, .d (.fptr (cellsB b))), (7, .row 10 0 g g), (8, .d (.list ((formsR b).map ptyL))), (9, .d (int (j : Int))), (10, .ptr 2 0), (11, .ptr 3 0), (12, .d (int x.1))],
        mkB [(2, .var [.row 8 0 x.2.1.2 x.2.1.2, .d (int 0)]), (3, .var [.row 9 0 x.2.2.2 x.2.2.2, .d (int 0)]), (8, .row 1 x.2.1.1), (9, .row 1 x.2.2.1), (10, .row 2 gels)]⟩)
      (fun x => ∃ k : Nat, x.1 = k ∧ k ≤ b.mats.length ∧ x.2.1.1 = ((b.mats.take k).map fun m => aboveF p.coefs m.content p.target.2).map i1 ∧ x.2.1.2 = x.2.1.1.length ∧ x.2.2.1 = ((b.mats.take k).map fun m => belowF p.coefs m.content p.target.1).map i1 ∧ x.2.2.2 = x.2.2.1.length) (fun x => (b.mats.length - x.1).toNat) (0, ([], 0), [], 0) (by kernel_rfl) ⟨0, rfl, by omega, rfl, rfl, rfl, rfl⟩ ?_
    rintro ⟨_, ⟨ue, un⟩, de, dn⟩ ⟨i, rfl, hi, hu, hun, hd, hdn⟩
    simp only at hu hun hd hdn
    conv => whnf
    rw [List.length_map]
    cases c3 : decide ((i : Int) < (b.mats.length : Int))
    case true =>
      have hi' : i < b.mats.length := by have := of_decide_eq_true c3; omega
      obtain ⟨m, hm⟩ := get_lt hi'
      have hmb := hb.mat m (List.mem_of_getElem? hm)
      have hcm := con_of hb (List.mem_of_getElem? hm)
      have hul : ue.length = i := by rw [hu]; simp; omega
      have hdl : de.length = i := by rw [hd]; simp; omega
      have htk : b.mats.take (i + 1) = b.mats.take i ++ [m] := by rw [List.take_add_one, hm]; rfl
      have ab := above_ok p.coefs m.content p.target.2 hcm.1 (by omega) p2 (by omega) hcm.2
      have bl := below_ok p.coefs m.content p.target.1 hcm.1 (by omega) p2 (by omega) hcm.2
      conv => whnf
      refine ⟨by omega, _, (by first | exact gm (by assumption) | exact gz (by assumption)), ?_⟩
      conv => whnf
      conv => whnf
      refine ⟨by omega, _, (by first | exact gm (by assumption) | exact gz (by assumption)), ?_⟩
      conv => whnf
      conv => whnf
      refine ⟨by omega, _, (by first | exact gm (by assumption) | exact gz (by assumption)), ?_⟩
      conv => whnf
      refine ⟨_, ab, ?_⟩
      conv => whnf
      refine ⟨rfl, rfl, hun, most_le (by simp; omega), ?_⟩
      conv => whnf
      refine cond_intro (by show (true && ((ue.length + 1 == (ue ++ [[int (aboveF p.coefs m.content p.target.2)]]).length) && true)) = true; simp) ?_
      conv => whnf
      conv => whnf
      refine ⟨by omega, _, (by first | exact gm (by assumption) | exact gz (by assumption)), ?_⟩
      conv => whnf
      conv => whnf
      refine ⟨by omega, _, (by first | exact gm (by assumption) | exact gz (by assumption)), ?_⟩
      conv => whnf
      conv => whnf
      refine ⟨by omega, _, (by first | exact gm (by assumption) | exact gz (by assumption)), ?_⟩
      conv => whnf
      refine ⟨_, bl, ?_⟩
      conv => whnf
      refine ⟨rfl, rfl, hdn, most_le (by simp; omega), ?_⟩
      conv => whnf
      refine cond_intro (by show (true && ((de.length + 1 == (de ++ [[int (belowF p.coefs m.content p.target.1)]]).length) && true)) = true; simp) ?_
      conv => whnf
      exact ⟨(IntKind.wrap .i64 ((i : Int) + 1), (ue ++ [[int (aboveF p.coefs m.content p.target.2)]], ue.length + 1), de ++ [[int (belowF p.coefs m.content p.target.1)]], de.length + 1), by kernel_rfl, ⟨i + 1, nx (by omega), by omega, by rw [hu, htk]; simp, by simp, by rw [hd, htk]; simp, by simp⟩, by simp only; rw [nx (by omega)]; omega⟩
    have hi' : i = b.mats.length := by have := of_decide_eq_false c3; omega
    rw [hi', List.take_length] at hu hd
    conv => whnf
    refine givI [(1, .d (.fptr (cellsB b))), (7, .row 10 0 g g), (8, .d (.list ((formsR b).map ptyL))), (9, .d (int (j : Int))), (10, .ptr 2 0), (11, .ptr 3 0)]
        [(2, .var [.row 8 0 un un, .d (int 0)]), (3, .var [.row 9 0 dn dn, .d (int 0)]), (8, .row 1 ue), (9, .row 1 de), (10, .row 2 gels)]
      [(1, .d (.fptr (cellsB b))), (7, .row 10 0 g g), (8, .d (.list ((formsR b).map ptyL))), (9, .d (int (j : Int))), (10, .ptr 2 0), (11, .ptr 3 0)]
        [(2, .var [.d (.list ue), .d (int 0)]), (3, .var [.d (.list de), .d (int 0)]), (8, .dead), (9, .dead), (10, .row 2 gels)] (by kernel_rfl)
      (fun q hq => by simp at hq; rcases hq with rfl | rfl <;> exact .inl ⟨_, _, rfl⟩) ⟨rfl, .inl rfl, rfl, .inl rfl, rfl, .inl rfl, rfl, .inl rfl, rfl, .inl rfl, rfl, .inl rfl, trivial⟩
      ⟨rfl, .inr ⟨rfl, .inr ⟨_, _, rfl, rfl, .inr ⟨_, snap_row0 (s := 8) (esz := 1) rfl hun, rfl⟩, .inl rfl, trivial⟩⟩, rfl, .inr ⟨rfl, .inr ⟨_, _, rfl, rfl, .inr ⟨_, snap_row0 (s := 9) (esz := 1) rfl hdn, rfl⟩, .inl rfl, trivial⟩⟩, rfl, .inl ⟨rfl, rfl⟩, rfl, .inl ⟨rfl, rfl⟩, rfl, .inr ⟨rfl, .inl rfl⟩, trivial⟩ ?_
    conv => whnf
    refine ⟨rfl, rfl, hgn, most_le (by simp; omega), ?_⟩
    conv => whnf
    exact ⟨(IntKind.wrap .i64 ((j : Int) + 1), gels ++ [[.list ue, int 0], [.list de, int 0]], gels.length + 2), by kernel_rfl, ⟨j + 1, nx (by omega), by omega, by rw [← hg, hu, hd]; simp [ptyLines], by simp⟩, by simp only; rw [nx (by omega)]; omega⟩
  have hj' : j = (formsR b).length := by have := of_decide_eq_false c2; omega
  rw [hj', drop_end] at hg
  have hg : gels = (lines0 b).map lineL := by simpa using hg
  conv => whnf
  refine loopB (fun (x : Int × (List (List D) × Nat) × List (List D) × Nat) => ⟨mkT [(1, .d (.fptr (cellsB b))), (7, .row 10 0 g g), (13, .ptr 4 0), (14, .ptr 5 0), (15, .d (int x.1))],
      mkB [(4, .var [.row 11 0 x.2.1.2 x.2.1.2, .d (int 0)]), (5, .var [.row 12 0 x.2.2.2 x.2.2.2, .d (int 0)]), (10, .row 2 gels), (11, .row 1 x.2.1.1), (12, .row 1 x.2.2.1)]⟩)
    (fun x => ∃ k : Nat, x.1 = k ∧ k ≤ b.mats.length ∧ x.2.1.1 = ((b.mats.take k).map (redUp b)).map i1 ∧ x.2.1.2 = x.2.1.1.length ∧ x.2.2.1 = ((b.mats.take k).map (redDown b)).map i1 ∧ x.2.2.2 = x.2.2.1.length) (fun x => (b.mats.length - x.1).toNat) (0, ([], 0), [], 0) (by kernel_rfl) ⟨0, rfl, by omega, rfl, rfl, rfl, rfl⟩ ?_
  rintro ⟨_, ⟨ue, un⟩, de, dn⟩ ⟨i, rfl, hi, hu, hun, hd, hdn⟩
  simp only at hu hun hd hdn
  conv => whnf
  rw [List.length_map]
  cases c3 : decide ((i : Int) < (b.mats.length : Int))
  case true =>
    have hi' : i < b.mats.length := by have := of_decide_eq_true c3; omega
    obtain ⟨m, hm⟩ := get_lt hi'
    have hx := hb.mat m (List.mem_of_getElem? hm)
    have hcm := con_of hb (List.mem_of_getElem? hm)
    have hs := sum_bound hcm
    have hl := hcm.1
    have hul : ue.length = i := by rw [hu]; simp; omega
    have hdl : de.length = i := by rw [hd]; simp; omega
    have htk : b.mats.take (i + 1) = b.mats.take i ++ [m] := by rw [List.take_add_one, hm]; rfl
    have m1 := red_bound (u := b.redox.2) (s := lowSum m.content) (by omega) (by omega)
    have m2 := red_bound (u := b.redox.2) (s := highSum m.content) (by omega) (by omega)
    have m3 := red_bound (u := b.redox.1) (s := lowSum m.content) (by omega) (by omega)
    have m4 := red_bound (u := b.redox.1) (s := highSum m.content) (by omega) (by omega)
    have e1 : IntKind.wrap .i64 (b.redox.2 * lowSum m.content) = b.redox.2 * lowSum m.content := wr_eq (by omega)
    have e2 : IntKind.wrap .i64 (b.redox.2 * highSum m.content) = b.redox.2 * highSum m.content := wr_eq (by omega)
    have e3 : IntKind.wrap .i64 (1000000 * m.redox) = 1000000 * m.redox := wr_eq (by omega)
    have eu : IntKind.wrap .i64 (IntKind.wrap .i64 (1000000 * m.redox) - min (IntKind.wrap .i64 (b.redox.2 * lowSum m.content)) (IntKind.wrap .i64 (b.redox.2 * highSum m.content))) = redUp b m := by
      rw [e1, e2, e3]; exact wr_eq (by omega)
    have e4 : IntKind.wrap .i64 (b.redox.1 * lowSum m.content) = b.redox.1 * lowSum m.content := wr_eq (by omega)
    have e5 : IntKind.wrap .i64 (b.redox.1 * highSum m.content) = b.redox.1 * highSum m.content := wr_eq (by omega)
    have ed : IntKind.wrap .i64 (max (IntKind.wrap .i64 (b.redox.1 * lowSum m.content)) (IntKind.wrap .i64 (b.redox.1 * highSum m.content)) - IntKind.wrap .i64 (1000000 * m.redox)) = redDown b m := by
      rw [e4, e5, e3]; exact wr_eq (by omega)
    conv => whnf
    refine ⟨by omega, _, (by first | exact gm (by assumption) | exact gz (by assumption)), ?_⟩
    conv => whnf
    refine ⟨_, sumsR_ok m.content hcm, ?_⟩
    conv => whnf
    rw [eu]
    refine ⟨rfl, rfl, hun, most_le (by simp; omega), ?_⟩
    conv => whnf
    refine cond_intro (by show (true && ((ue.length + 1 == (ue ++ [[int (redUp b m)]]).length) && true)) = true; simp) ?_
    conv => whnf
    rw [ed]
    refine ⟨rfl, rfl, hdn, most_le (by simp; omega), ?_⟩
    conv => whnf
    refine cond_intro (by show (true && ((de.length + 1 == (de ++ [[int (redDown b m)]]).length) && true)) = true; simp) ?_
    conv => whnf
    exact ⟨(IntKind.wrap .i64 ((i : Int) + 1), (ue ++ [[int (redUp b m)]], ue.length + 1), de ++ [[int (redDown b m)]], de.length + 1), by kernel_rfl, ⟨i + 1, nx (by omega), by omega, by rw [hu, htk]; simp, by simp, by rw [hd, htk]; simp, by simp⟩, by simp only; rw [nx (by omega)]; omega⟩
  have hi' : i = b.mats.length := by have := of_decide_eq_false c3; omega
  rw [hi', List.take_length] at hu hd
  conv => whnf
  refine givI [(1, .d (.fptr (cellsB b))), (7, .row 10 0 g g), (13, .ptr 4 0), (14, .ptr 5 0)]
      [(4, .var [.row 11 0 un un, .d (int 0)]), (5, .var [.row 12 0 dn dn, .d (int 0)]), (10, .row 2 gels), (11, .row 1 ue), (12, .row 1 de)]
    [(1, .d (.fptr (cellsB b))), (7, .row 10 0 g g), (13, .ptr 4 0), (14, .ptr 5 0)]
      [(4, .var [.d (.list ue), .d (int 0)]), (5, .var [.d (.list de), .d (int 0)]), (10, .row 2 gels), (11, .dead), (12, .dead)] (by kernel_rfl)
    (fun q hq => by simp at hq; rcases hq with rfl | rfl <;> exact .inl ⟨_, _, rfl⟩) ⟨rfl, .inl rfl, rfl, .inl rfl, rfl, .inl rfl, rfl, .inl rfl, trivial⟩
    ⟨rfl, .inr ⟨rfl, .inr ⟨_, _, rfl, rfl, .inr ⟨_, snap_row0 (s := 11) (esz := 1) rfl hun, rfl⟩, .inl rfl, trivial⟩⟩, rfl, .inr ⟨rfl, .inr ⟨_, _, rfl, rfl, .inr ⟨_, snap_row0 (s := 12) (esz := 1) rfl hdn, rfl⟩, .inl rfl, trivial⟩⟩, rfl, .inr ⟨rfl, .inl rfl⟩, rfl, .inl ⟨rfl, rfl⟩, rfl, .inl ⟨rfl, rfl⟩, trivial⟩ ?_
  conv => whnf
  refine ⟨rfl, rfl, hgn, most_le (by simp; omega), ?_⟩
  conv => whnf
  refine (resA_row (s := 10) (n := gels.length + 2) (esz := 2) (els := gels ++ [[.list ue, int 0], [.list de, int 0]]) rfl rfl (by simp)).trans ?_
  rw [hg, hu, hd]
  show _ = some (D.list ((lines0 b ++ _).map lineL))
  rw [List.map_append]
  rfl
end Go.Proofs.YtalbkamkkceanaaGreatG
