/- The specification's Gap. No condition. -/
import Derived.Test.YtgeficpcnlgnhaaC23
set_option linter.unusedVariables false
set_option linter.unusedSimpArgs false
set_option maxRecDepth 100000
set_option maxHeartbeats 4000000
namespace Go.Proofs.YtgeficpcnlgnhaaG
open Go Go.AM Go.Proofs

theorem may_iff {r : Int × Int} : mayF r = true ↔ (1 ≤ r.2 ∧ r.2 ≤ 1000000) ∧ Int.gcd r.1 r.2 = 1 := by
  constructor
  · intro h; obtain ⟨h1, h2, h3⟩ := mayF_spec h; exact ⟨⟨h1, h2⟩, h3⟩
  · rintro ⟨⟨h1, h2⟩, h3⟩
    simp only [mayF, withinF, Bool.and_eq_true, decide_eq_true_eq]
    refine ⟨⟨h1, h2⟩, ?_⟩
    rw [divisorF_gcd h1 ⟨by omega, by omega⟩, h3]; rfl
theorem rLow_iff {r : Int × Int} : rLowestF r = true ↔ (1 ≤ r.2 ∧ r.2 ≤ 1000000) ∧ (-1000000000000000 ≤ r.1 ∧ r.1 ≤ 1000000000000000) ∧ Int.gcd r.1 r.2 = 1 := by
  simp only [rLowestF, Bool.and_eq_true, decide_eq_true_eq]
  constructor
  · rintro ⟨h1, h2, h3, h4, h5⟩
    rw [dv_abs ⟨by omega, by omega⟩ h1] at h5
    exact ⟨⟨h1, h2⟩, ⟨h3, h4⟩, by omega⟩
  · rintro ⟨⟨h1, h2⟩, ⟨h3, h4⟩, h5⟩
    refine ⟨h1, h2, h3, h4, ?_⟩
    rw [dv_abs ⟨by omega, by omega⟩ h1, h5]; rfl

theorem gok_rok {cycle : Int} {x : Str} (h1 : I64 x.1.1) (h2 : I64 x.2.1) (hc : 1 ≤ cycle ∧ cycle ≤ 3600) :
    gokF cycle x = (rLowestF x.1 && (rLowestF x.2 && (!ltF x.1 (0, 1) && (!ltF (cycle, 1) x.2 && !ltF x.2 x.1)))) := by
  rw [Bool.eq_iff_iff]
  constructor
  · intro h
    obtain ⟨gd, o, t, g1, g2⟩ := gokF_spec h1 h2 hc h
    have a1 : rLowestF x.1 = true := rLow_iff.2 ⟨gd.fd, by have := gd.f; omega, g1⟩
    have a2 : rLowestF x.2 = true := rLow_iff.2 ⟨gd.td, by have := gd.t; omega, g2⟩
    have f := gd.f
    rw [a1, a2]
    simp [ltF]
    omega
  · intro h
    simp only [Bool.and_eq_true, rLow_iff, ltF, Bool.not_eq_true', decide_eq_false_iff_not] at h
    obtain ⟨⟨a1, a2, a3⟩, ⟨b1, b2, b3⟩, c1, c2, c3⟩ := h
    have r1 : RI x.1 := ⟨h1, a1.1, by omega, by omega⟩
    have r2 : RI x.2 := ⟨h2, b1.1, by omega, by omega⟩
    simp only [gokF, Bool.and_eq_true, may_iff, Bool.not_eq_true', decide_eq_false_iff_not]
    refine ⟨⟨a1, a3⟩, ⟨b1, b3⟩, by omega, ?_, ?_⟩
    · rw [compareF_eq r2 ⟨by simp only; exact ⟨by omega, by omega⟩, by simp, by simp [I64]⟩, cmpF_pos]; simp only; omega
    · rw [compareF_eq r1 r2, cmpF_pos]; omega

theorem checkStretch_ok {cycle : Int} {x : Str} (h1 : I64 x.1.1) (h2 : I64 x.2.1) (hc : 1 ≤ cycle ∧ cycle ≤ 3600) : PureFn Try.prog 38 [int cycle, strD x] (int (if gokF cycle x = true then 0 else 1)) := by
  rw [gok_rok h1 h2 hc]
  refine pureFn_by Try.func38 k38 rfl rfl ?_
  conv => whnf
  refine ⟨_, rLowest_ok x.1, ?_⟩
  conv => whnf
  cases a1 : rLowestF x.1
  · conv => whnf
    kernel_rfl
  conv => whnf
  refine ⟨_, rLowest_ok x.2, ?_⟩
  conv => whnf
  cases a2 : rLowestF x.2
  · conv => whnf
    kernel_rfl
  have r1 : RI x.1 := by obtain ⟨b1, b2, b3⟩ := rLow_iff.1 a1; exact ⟨h1, b1.1, by omega, by omega⟩
  have r2 : RI x.2 := by obtain ⟨b1, b2, b3⟩ := rLow_iff.1 a2; exact ⟨h2, b1.1, by omega, by omega⟩
  conv => whnf
  refine ⟨_, rWhole_ok 0, ?_⟩
  conv => whnf
  refine ⟨_, less_ok x.1 (0, 1) r1 lw_zero.ri, ?_⟩
  conv => whnf
  cases a3 : ltF x.1 (0, 1)
  case true =>
    conv => whnf
    kernel_rfl
  conv => whnf
  refine ⟨_, rWhole_ok cycle, ?_⟩
  conv => whnf
  refine ⟨_, less_ok (cycle, 1) x.2 ⟨by simp only; exact ⟨by omega, by omega⟩, by simp, by simp [I64]⟩ r2, ?_⟩
  conv => whnf
  cases a4 : ltF (cycle, 1) x.2
  case true =>
    conv => whnf
    kernel_rfl
  conv => whnf
  refine ⟨_, less_ok x.2 x.1 r2 r1, ?_⟩
  conv => whnf
  cases a5 : ltF x.2 x.1
  case true =>
    conv => whnf
    kernel_rfl
  conv => whnf
  kernel_rfl

theorem rGapTop_ok (cycle : Int) (a b : List Str) (shift : Int) (ia : ∀ x ∈ a, I64 x.1.1 ∧ I64 x.2.1) (ib : ∀ x ∈ b, I64 x.1.1 ∧ I64 x.2.1) (la : a.length ≤ 100) (lb : b.length ≤ 100) :
    PureFn Try.prog 15 [int cycle, strsD a, strsD b, int shift] (gpD (GapR cycle a b shift)) := by
  refine pureFn_by Try.func15 k15 rfl rfl ?_
  conv => whnf
  by_cases hk : (1 ≤ cycle ∧ cycle ≤ 3600) ∧ 0 ≤ shift ∧ shift < cycle
  case neg =>
    have hG : GapR cycle a b shift = ((0, 0), false, 1) := by
      unfold GapR okCy
      rw [if_neg]
      intro h
      simp only [withinF, Bool.and_eq_true, decide_eq_true_eq] at h
      rw [show wr (cycle - 1) = cycle - 1 from wr_in ⟨by omega, by omega⟩] at h
      omega
    rw [hG]
    cases n0 : decide (cycle < 1)
    case true =>
      conv => whnf
      refine loopB (fun (_ : Unit) => ⟨mkT [(0, .d (int cycle)), (1, .d (strsD a)), (2, .d (strsD b)), (3, .d (int shift)), (8, .ptr 0 0), (11, .d (int 1)), (12, .d (int 0))], mkB [(0, .var [.d (int 0), .d (int 0)])]⟩) (fun _ => True) (fun _ => 0) () (by kernel_rfl) trivial ?_
      rintro _ _
      conv => whnf
      cases decide ((0 : Int) < ((a.map strL).length : Int))
      · conv => whnf
        refine loopB (fun (_ : Unit) => ⟨mkT [(0, .d (int cycle)), (1, .d (strsD a)), (2, .d (strsD b)), (3, .d (int shift)), (8, .ptr 0 0), (11, .d (int 1)), (13, .d (int 0))], mkB [(0, .var [.d (int 0), .d (int 0)])]⟩) (fun _ => True) (fun _ => 0) () (by kernel_rfl) trivial ?_
        rintro _ _
        conv => whnf
        cases decide ((0 : Int) < ((b.map strL).length : Int))
        · conv => whnf
          kernel_rfl
        · conv => whnf
          kernel_rfl
      · conv => whnf
        refine loopB (fun (_ : Unit) => ⟨mkT [(0, .d (int cycle)), (1, .d (strsD a)), (2, .d (strsD b)), (3, .d (int shift)), (8, .ptr 0 0), (11, .d (int 1)), (13, .d (int 0))], mkB [(0, .var [.d (int 0), .d (int 0)])]⟩) (fun _ => True) (fun _ => 0) () (by kernel_rfl) trivial ?_
        rintro _ _
        conv => whnf
        cases decide ((0 : Int) < ((b.map strL).length : Int))
        · conv => whnf
          kernel_rfl
        · conv => whnf
          kernel_rfl
    conv => whnf
    cases n1 : decide (3600 < cycle)
    case true =>
      conv => whnf
      refine loopB (fun (_ : Unit) => ⟨mkT [(0, .d (int cycle)), (1, .d (strsD a)), (2, .d (strsD b)), (3, .d (int shift)), (8, .ptr 0 0), (11, .d (int 1)), (12, .d (int 0))], mkB [(0, .var [.d (int 0), .d (int 0)])]⟩) (fun _ => True) (fun _ => 0) () (by kernel_rfl) trivial ?_
      rintro _ _
      conv => whnf
      cases decide ((0 : Int) < ((a.map strL).length : Int))
      · conv => whnf
        refine loopB (fun (_ : Unit) => ⟨mkT [(0, .d (int cycle)), (1, .d (strsD a)), (2, .d (strsD b)), (3, .d (int shift)), (8, .ptr 0 0), (11, .d (int 1)), (13, .d (int 0))], mkB [(0, .var [.d (int 0), .d (int 0)])]⟩) (fun _ => True) (fun _ => 0) () (by kernel_rfl) trivial ?_
        rintro _ _
        conv => whnf
        cases decide ((0 : Int) < ((b.map strL).length : Int))
        · conv => whnf
          kernel_rfl
        · conv => whnf
          kernel_rfl
      · conv => whnf
        refine loopB (fun (_ : Unit) => ⟨mkT [(0, .d (int cycle)), (1, .d (strsD a)), (2, .d (strsD b)), (3, .d (int shift)), (8, .ptr 0 0), (11, .d (int 1)), (13, .d (int 0))], mkB [(0, .var [.d (int 0), .d (int 0)])]⟩) (fun _ => True) (fun _ => 0) () (by kernel_rfl) trivial ?_
        rintro _ _
        conv => whnf
        cases decide ((0 : Int) < ((b.map strL).length : Int))
        · conv => whnf
          kernel_rfl
        · conv => whnf
          kernel_rfl
    conv => whnf
    cases n2 : decide (shift < 0)
    case true =>
      conv => whnf
      refine loopB (fun (_ : Unit) => ⟨mkT [(0, .d (int cycle)), (1, .d (strsD a)), (2, .d (strsD b)), (3, .d (int shift)), (8, .ptr 0 0), (11, .d (int 1)), (12, .d (int 0))], mkB [(0, .var [.d (int 0), .d (int 0)])]⟩) (fun _ => True) (fun _ => 0) () (by kernel_rfl) trivial ?_
      rintro _ _
      conv => whnf
      cases decide ((0 : Int) < ((a.map strL).length : Int))
      · conv => whnf
        refine loopB (fun (_ : Unit) => ⟨mkT [(0, .d (int cycle)), (1, .d (strsD a)), (2, .d (strsD b)), (3, .d (int shift)), (8, .ptr 0 0), (11, .d (int 1)), (13, .d (int 0))], mkB [(0, .var [.d (int 0), .d (int 0)])]⟩) (fun _ => True) (fun _ => 0) () (by kernel_rfl) trivial ?_
        rintro _ _
        conv => whnf
        cases decide ((0 : Int) < ((b.map strL).length : Int))
        · conv => whnf
          kernel_rfl
        · conv => whnf
          kernel_rfl
      · conv => whnf
        refine loopB (fun (_ : Unit) => ⟨mkT [(0, .d (int cycle)), (1, .d (strsD a)), (2, .d (strsD b)), (3, .d (int shift)), (8, .ptr 0 0), (11, .d (int 1)), (13, .d (int 0))], mkB [(0, .var [.d (int 0), .d (int 0)])]⟩) (fun _ => True) (fun _ => 0) () (by kernel_rfl) trivial ?_
        rintro _ _
        conv => whnf
        cases decide ((0 : Int) < ((b.map strL).length : Int))
        · conv => whnf
          kernel_rfl
        · conv => whnf
          kernel_rfl
    conv => whnf
    cases n3 : decide (cycle ≤ shift)
    case true =>
      conv => whnf
      refine loopB (fun (_ : Unit) => ⟨mkT [(0, .d (int cycle)), (1, .d (strsD a)), (2, .d (strsD b)), (3, .d (int shift)), (8, .ptr 0 0), (11, .d (int 1)), (12, .d (int 0))], mkB [(0, .var [.d (int 0), .d (int 0)])]⟩) (fun _ => True) (fun _ => 0) () (by kernel_rfl) trivial ?_
      rintro _ _
      conv => whnf
      cases decide ((0 : Int) < ((a.map strL).length : Int))
      · conv => whnf
        refine loopB (fun (_ : Unit) => ⟨mkT [(0, .d (int cycle)), (1, .d (strsD a)), (2, .d (strsD b)), (3, .d (int shift)), (8, .ptr 0 0), (11, .d (int 1)), (13, .d (int 0))], mkB [(0, .var [.d (int 0), .d (int 0)])]⟩) (fun _ => True) (fun _ => 0) () (by kernel_rfl) trivial ?_
        rintro _ _
        conv => whnf
        cases decide ((0 : Int) < ((b.map strL).length : Int))
        · conv => whnf
          kernel_rfl
        · conv => whnf
          kernel_rfl
      · conv => whnf
        refine loopB (fun (_ : Unit) => ⟨mkT [(0, .d (int cycle)), (1, .d (strsD a)), (2, .d (strsD b)), (3, .d (int shift)), (8, .ptr 0 0), (11, .d (int 1)), (13, .d (int 0))], mkB [(0, .var [.d (int 0), .d (int 0)])]⟩) (fun _ => True) (fun _ => 0) () (by kernel_rfl) trivial ?_
        rintro _ _
        conv => whnf
        cases decide ((0 : Int) < ((b.map strL).length : Int))
        · conv => whnf
          kernel_rfl
        · conv => whnf
          kernel_rfl
    conv => whnf
    have := of_decide_eq_false n0; have := of_decide_eq_false n1; have := of_decide_eq_false n2; have := of_decide_eq_false n3
    omega
  obtain ⟨hcy, hsh⟩ := hk
  have hck : okCy cycle shift = true := by
    unfold okCy
    simp only [withinF, Bool.and_eq_true, decide_eq_true_eq]
    rw [show wr (cycle - 1) = cycle - 1 from wr_in ⟨by omega, by omega⟩]
    omega
  have bad : ∀ y, (y ∈ a ∨ y ∈ b) → gokF cycle y = false → GapR cycle a b shift = ((0, 0), false, 1) := fun y hy h => by
    unfold GapR
    rw [if_neg]
    intro hk
    simp only [Bool.and_eq_true, List.all_eq_true] at hk
    rcases hy with hy | hy
    · have := hk.2.1 y hy; rw [h] at this; cases this
    · have := hk.2.2 y hy; rw [h] at this; cases this
  rw [show decide (cycle < 1) = false by simp; omega]
  conv => whnf
  rw [show decide (3600 < cycle) = false by simp; omega]
  conv => whnf
  rw [show decide (shift < 0) = false by simp; omega]
  conv => whnf
  rw [show decide (cycle ≤ shift) = false by simp; omega]
  conv => whnf
  refine loopB (fun (x : Int × Int) => ⟨mkT [(0, .d (int cycle)), (1, .d (strsD a)), (2, .d (strsD b)), (3, .d (int shift)), (8, .ptr 0 0), (11, .d (int x.2)), (12, .d (int x.1))], mkB [(0, .var [.d (int 0), .d (int 0)])]⟩)
    (fun x => ∃ j : Nat, x.1 = j ∧ j ≤ a.length ∧ (x.2 = 0 ∧ (a.take j).all (gokF cycle) = true ∨ x.2 = 1 ∧ GapR cycle a b shift = ((0, 0), false, 1))) (fun x => (a.length - x.1).toNat) (0, 0) (by kernel_rfl)
    ⟨0, rfl, by omega, .inl ⟨rfl, by simp⟩⟩ ?_
  rintro ⟨x, e⟩ ⟨j, hx, hjl, he⟩
  simp only at hx he
  subst hx
  rcases he with ⟨rfl, hall⟩ | ⟨rfl, hG⟩
  case inr =>
    rw [hG]
    conv => whnf
    cases decide ((j : Int) < ((a.map strL).length : Int))
    · conv => whnf
      refine loopB (fun (_ : Unit) => ⟨mkT [(0, .d (int cycle)), (1, .d (strsD a)), (2, .d (strsD b)), (3, .d (int shift)), (8, .ptr 0 0), (11, .d (int 1)), (13, .d (int 0))], mkB [(0, .var [.d (int 0), .d (int 0)])]⟩) (fun _ => True) (fun _ => 0) () (by kernel_rfl) trivial ?_
      rintro _ _
      conv => whnf
      cases decide ((0 : Int) < ((b.map strL).length : Int))
      · conv => whnf
        kernel_rfl
      · conv => whnf
        kernel_rfl
    · conv => whnf
      refine loopB (fun (_ : Unit) => ⟨mkT [(0, .d (int cycle)), (1, .d (strsD a)), (2, .d (strsD b)), (3, .d (int shift)), (8, .ptr 0 0), (11, .d (int 1)), (13, .d (int 0))], mkB [(0, .var [.d (int 0), .d (int 0)])]⟩) (fun _ => True) (fun _ => 0) () (by kernel_rfl) trivial ?_
      rintro _ _
      conv => whnf
      cases decide ((0 : Int) < ((b.map strL).length : Int))
      · conv => whnf
        kernel_rfl
      · conv => whnf
        kernel_rfl
  conv => whnf
  rw [List.length_map]
  cases c1 : decide ((j : Int) < (a.length : Int))
  case true =>
    have hj : j < a.length := by have := of_decide_eq_true c1; omega
    have hw := next_big (i := j) (by omega)
    have mem : a[j] ∈ a := List.getElem_mem _
    have hg : (a.map strL)[(j : Int).toNat]? = some (strL a[j]) := by rw [Int.toNat_natCast]; simp [hj]
    have hT : a.take (j + 1) = a.take j ++ [a[j]] := List.take_succ_eq_append_getElem hj
    generalize a[j] = y at mem hg hT
    have hcs := checkStretch_ok (ia y mem).1 (ia y mem).2 hcy
    conv => whnf
    refine ⟨by omega, _, hg, ?_⟩
    conv => whnf
    refine ⟨_, hcs, ?_⟩
    conv => whnf
    refine ⟨(IntKind.wrap .i64 ((j : Int) + 1), if gokF cycle y = true then 0 else 1), by kernel_rfl, ⟨j + 1, hw, hj, ?_⟩, by simp only; rw [hw]; omega⟩
    simp only
    cases hy : gokF cycle y
    · exact .inr ⟨by simp, bad y (.inl mem) hy⟩
    · exact .inl ⟨by simp, by rw [hT, List.all_append, hall]; simp [hy]⟩
  have hj : j = a.length := by have := of_decide_eq_false c1; omega
  rw [hj, List.take_length] at hall
  clear c1 hjl hj
  conv => whnf
  refine loopB (fun (x : Int × Int) => ⟨mkT [(0, .d (int cycle)), (1, .d (strsD a)), (2, .d (strsD b)), (3, .d (int shift)), (8, .ptr 0 0), (11, .d (int x.2)), (13, .d (int x.1))], mkB [(0, .var [.d (int 0), .d (int 0)])]⟩)
    (fun x => ∃ j : Nat, x.1 = j ∧ j ≤ b.length ∧ (x.2 = 0 ∧ (b.take j).all (gokF cycle) = true ∨ x.2 = 1 ∧ GapR cycle a b shift = ((0, 0), false, 1))) (fun x => (b.length - x.1).toNat) (0, 0) (by kernel_rfl)
    ⟨0, rfl, by omega, .inl ⟨rfl, by simp⟩⟩ ?_
  rintro ⟨x, e⟩ ⟨j, hx, hjl, he⟩
  simp only at hx he
  subst hx
  rcases he with ⟨rfl, hallb⟩ | ⟨rfl, hG⟩
  case inr =>
    rw [hG]
    conv => whnf
    cases decide ((j : Int) < ((b.map strL).length : Int))
    · conv => whnf
      kernel_rfl
    · conv => whnf
      kernel_rfl
  conv => whnf
  rw [List.length_map]
  cases c1 : decide ((j : Int) < (b.length : Int))
  case true =>
    have hj : j < b.length := by have := of_decide_eq_true c1; omega
    have hw := next_big (i := j) (by omega)
    have mem : b[j] ∈ b := List.getElem_mem _
    have hg : (b.map strL)[(j : Int).toNat]? = some (strL b[j]) := by rw [Int.toNat_natCast]; simp [hj]
    have hT : b.take (j + 1) = b.take j ++ [b[j]] := List.take_succ_eq_append_getElem hj
    generalize b[j] = y at mem hg hT
    have hcs := checkStretch_ok (ib y mem).1 (ib y mem).2 hcy
    conv => whnf
    refine ⟨by omega, _, hg, ?_⟩
    conv => whnf
    refine ⟨_, hcs, ?_⟩
    conv => whnf
    refine ⟨(IntKind.wrap .i64 ((j : Int) + 1), if gokF cycle y = true then 0 else 1), by kernel_rfl, ⟨j + 1, hw, hj, ?_⟩, by simp only; rw [hw]; omega⟩
    simp only
    cases hy : gokF cycle y
    · exact .inr ⟨by simp, bad y (.inr mem) hy⟩
    · exact .inl ⟨by simp, by rw [hT, List.all_append, hallb]; simp [hy]⟩
  have hj : j = b.length := by have := of_decide_eq_false c1; omega
  rw [hj, List.take_length] at hallb
  have sa := fun x hx => gokF_spec (ia x hx).1 (ia x hx).2 hcy (List.all_eq_true.1 hall x hx)
  have sb := fun x hx => gokF_spec (ib x hx).1 (ib x hx).2 hcy (List.all_eq_true.1 hallb x hx)
  have hG : GapR cycle a b shift = ((gapF cycle shift a b).1, !(gapF cycle shift a b).2, 0) := by unfold GapR; rw [hck, hall, hallb]; rfl
  have hp := rGap_ok cycle shift a b hcy hsh (fun x hx => (sa x hx).1) (fun x hx => (sb x hx).1) (fun x hx => (sa x hx).2.1) (fun x hx => (sb x hx).2.1) la lb
  have hbg := best_gap (cycle := cycle) (shift := shift) hcy hsh (fun x hx => (sa x hx).1) (fun x hx => (sb x hx).1)
  rw [hG]
  generalize gapF cycle shift a b = G at hbg
  generalize bestOf (farsA cycle shift a b) = B at hp hbg
  obtain ⟨r, f⟩ := G
  obtain ⟨m, any⟩ := B
  obtain ⟨h1, h2, h3⟩ := hbg
  simp only at h1 h2 h3
  subst h1
  conv => whnf
  refine ⟨_, hp, ?_⟩
  conv => whnf
  cases any
  · rw [h2 rfl]
    conv => whnf
    refine ⟨_, rWhole_ok 0, ?_⟩
    conv => whnf
    kernel_rfl
  · rw [← h3 rfl]
    conv => whnf
    kernel_rfl
end Go.Proofs.YtgeficpcnlgnhaaG
