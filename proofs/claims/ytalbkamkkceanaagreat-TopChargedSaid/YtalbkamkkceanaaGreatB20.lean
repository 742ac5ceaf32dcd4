/- Whether batches are more than is looked at. No condition. -/
import Derived.Test.YtalbkamkkceanaaGreatB19
set_option linter.unusedVariables false
set_option linter.unusedSimpArgs false
set_option maxRecDepth 100000
set_option maxHeartbeats 4000000
namespace Go.Proofs.YtalbkamkkceanaaGreatG
open Go Go.AM Go.Proofs

def gbP : List Pty → Int → Bool
  | [], n => decide (2000 < n)
  | p :: l, n => if 20 < p.coefs.length then true else gbP l (IntKind.wrap .i64 (n + (p.name.size : Int)))
def gbM (ps : List Pty) : List Mat → Int → Bool
  | [], n => gbP ps n
  | m :: l, n => if 20 < m.content.length then true else gbM ps l (IntKind.wrap .i64 (n + (m.name.size : Int)))
def gbO (b : Bat) : List ByteArray → Int → Bool
  | [], n => gbM b.props b.mats n
  | s :: l, n => gbO b l (IntKind.wrap .i64 (n + (s.size : Int)))
def greatB (b : Bat) : Bool := decide (20 < b.oxides.length ∨ 20 < b.mats.length ∨ 20 < b.shares.length ∨ 20 < b.props.length) || gbO b b.oxides 0
theorem gbP_false : ∀ {l : List Pty} {n : Int}, gbP l n = false → ∀ p ∈ l, p.coefs.length ≤ 20
  | [], _, _ => fun p hp => by simp at hp
  | q :: l, n, h => fun p hp => by
    simp only [gbP] at h
    split at h
    · simp at h
    · rcases List.mem_cons.1 hp with rfl | hp
      · omega
      · exact gbP_false h p hp
theorem gbM_false {ps : List Pty} : ∀ {l : List Mat} {n : Int}, gbM ps l n = false → (∀ m ∈ l, m.content.length ≤ 20) ∧ ∀ p ∈ ps, p.coefs.length ≤ 20
  | [], n, h => ⟨fun p hp => by simp at hp, gbP_false h⟩
  | q :: l, n, h => by
    simp only [gbM] at h
    split at h
    · simp at h
    · have ih := gbM_false h
      refine ⟨fun p hp => ?_, ih.2⟩
      rcases List.mem_cons.1 hp with rfl | hp
      · omega
      · exact ih.1 p hp
theorem gbO_false {b : Bat} : ∀ {l : List ByteArray} {n : Int}, gbO b l n = false → (∀ m ∈ b.mats, m.content.length ≤ 20) ∧ ∀ p ∈ b.props, p.coefs.length ≤ 20
  | [], n, h => gbM_false h
  | q :: l, n, h => gbO_false (l := l) h
theorem sb_of {b : Bat} (h : greatB b = false) : Sb b := by
  unfold greatB at h
  rw [Bool.or_eq_false_iff, decide_eq_false_iff_not] at h
  have h2 := gbO_false h.2
  exact ⟨by omega, by omega, by omega, by omega, h2.1, h2.2⟩
theorem greatB_ok (b : Bat) : PureFn Tryz.prog 18 [batD b] (boolD (greatB b)) := by
  refine pureFn_by Tryz.func18 k18 rfl rfl ?_
  have big : (20 < b.oxides.length ∨ 20 < b.mats.length ∨ 20 < b.shares.length ∨ 20 < b.props.length) → greatB b = true := fun h => by
    unfold greatB; rw [decide_eq_true h]; rfl
  conv => whnf
  cases d1 : decide ((20 : Int) < ((b.oxides.map s1).length : Int))
  · have e1 := of_decide_eq_false d1
    rw [List.length_map] at e1
    conv => whnf
    cases d2 : decide ((20 : Int) < ((b.mats.map matL).length : Int))
    · have e2 := of_decide_eq_false d2
      rw [List.length_map] at e2
      conv => whnf
      cases d3 : decide ((20 : Int) < ((b.shares.map i2).length : Int))
      · have e3 := of_decide_eq_false d3
        rw [List.length_map] at e3
        conv => whnf
        cases d4 : decide ((20 : Int) < ((b.props.map ptyL).length : Int))
        · have e4 := of_decide_eq_false d4
          rw [List.length_map] at e4
          have eG : greatB b = gbO b b.oxides 0 := by
            unfold greatB; rw [decide_eq_false (by omega)]; rfl
          rw [eG]
          clear big
          obtain ⟨G, hG⟩ : ∃ G, gbO b b.oxides 0 = G := ⟨_, rfl⟩
          rw [hG]
          conv => whnf
          refine loopB (fun (x : Int × Int) => ⟨mkT [(1, .d (.fptr (cellsB b))), (3, .d (int x.2)), (4, .d (int x.1))], mkB []⟩)
            (fun x => ∃ k : Nat, x.1 = k ∧ k ≤ b.oxides.length ∧ gbO b (b.oxides.drop k) x.2 = G) (fun x => (b.oxides.length - x.1).toNat) (0, 0) (by kernel_rfl) ⟨0, rfl, by omega, hG⟩ ?_
          rintro ⟨_, n⟩ ⟨i, rfl, hi, hg⟩
          simp only at hg
          conv => whnf
          cases q1 : decide ((i : Int) < ((b.oxides.map s1).length : Int))
          · have hi' : i = b.oxides.length := by have := of_decide_eq_false q1; rw [List.length_map] at this; omega
            rw [hi', drop_end] at hg
            clear hG
            have hG : gbM b.props b.mats n = G := hg
            conv => whnf
            refine loopB (fun (x : Int × Int) => ⟨mkT [(1, .d (.fptr (cellsB b))), (3, .d (int x.2)), (5, .d (int x.1))], mkB []⟩)
              (fun x => ∃ k : Nat, x.1 = k ∧ k ≤ b.mats.length ∧ gbM b.props (b.mats.drop k) x.2 = G) (fun x => (b.mats.length - x.1).toNat) (0, n) (by kernel_rfl) ⟨0, rfl, by omega, hG⟩ ?_
            clear hG hg
            rintro ⟨_, n⟩ ⟨i, rfl, hi, hg⟩
            simp only at hg
            conv => whnf
            cases q1 : decide ((i : Int) < ((b.mats.map matL).length : Int))
            · have hi' : i = b.mats.length := by have := of_decide_eq_false q1; rw [List.length_map] at this; omega
              rw [hi', drop_end] at hg
              have hG : gbP b.props n = G := hg
              conv => whnf
              refine loopB (fun (x : Int × Int) => ⟨mkT [(1, .d (.fptr (cellsB b))), (3, .d (int x.2)), (6, .d (int x.1))], mkB []⟩)
                (fun x => ∃ k : Nat, x.1 = k ∧ k ≤ b.props.length ∧ gbP (b.props.drop k) x.2 = G) (fun x => (b.props.length - x.1).toNat) (0, n) (by kernel_rfl) ⟨0, rfl, by omega, hG⟩ ?_
              clear hG hg
              rintro ⟨_, n⟩ ⟨i, rfl, hi, hg⟩
              simp only at hg
              conv => whnf
              cases q1 : decide ((i : Int) < ((b.props.map ptyL).length : Int))
              · have hi' : i = b.props.length := by have := of_decide_eq_false q1; rw [List.length_map] at this; omega
                rw [hi', drop_end] at hg
                have hG : decide (2000 < n) = G := hg
                rw [← hG]
                conv => whnf
                kernel_rfl
              · have hi' : i < b.props.length := by have := of_decide_eq_true q1; rw [List.length_map] at this; omega
                obtain ⟨m, hm⟩ := get_lt hi'
                rw [drop_at hm, gbP] at hg
                conv => whnf
                refine ⟨by omega, _, (by first | exact gm (by assumption) | exact gz (by assumption)), ?_⟩
                conv => whnf
                refine ⟨by omega, _, (by first | exact gm (by assumption) | exact gz (by assumption)), ?_⟩
                conv => whnf
                cases q2 : decide ((20 : Int) < ((m.coefs.map i1).length : Int))
                · rw [if_neg (by have := of_decide_eq_false q2; rw [List.length_map] at this; omega)] at hg
                  exact ⟨(IntKind.wrap .i64 ((i : Int) + 1), IntKind.wrap .i64 (n + (m.name.size : Int))), by kernel_rfl, ⟨i + 1, nx (by omega), by omega, hg⟩, by simp only; rw [nx (by omega)]; omega⟩
                · rw [if_pos (by have := of_decide_eq_true q2; rw [List.length_map] at this; omega)] at hg
                  rw [← hg]
                  conv => whnf
                  kernel_rfl
            · have hi' : i < b.mats.length := by have := of_decide_eq_true q1; rw [List.length_map] at this; omega
              obtain ⟨m, hm⟩ := get_lt hi'
              rw [drop_at hm, gbM] at hg
              conv => whnf
              refine ⟨by omega, _, (by first | exact gm (by assumption) | exact gz (by assumption)), ?_⟩
              conv => whnf
              refine ⟨by omega, _, (by first | exact gm (by assumption) | exact gz (by assumption)), ?_⟩
              conv => whnf
              cases q2 : decide ((20 : Int) < ((m.content.map i2).length : Int))
              · rw [if_neg (by have := of_decide_eq_false q2; rw [List.length_map] at this; omega)] at hg
                exact ⟨(IntKind.wrap .i64 ((i : Int) + 1), IntKind.wrap .i64 (n + (m.name.size : Int))), by kernel_rfl, ⟨i + 1, nx (by omega), by omega, hg⟩, by simp only; rw [nx (by omega)]; omega⟩
              · rw [if_pos (by have := of_decide_eq_true q2; rw [List.length_map] at this; omega)] at hg
                rw [← hg]
                conv => whnf
                kernel_rfl
          · have hi' : i < b.oxides.length := by have := of_decide_eq_true q1; rw [List.length_map] at this; omega
            obtain ⟨m, hm⟩ := get_lt hi'
            rw [drop_at hm, gbO] at hg
            conv => whnf
            refine ⟨by omega, _, (by first | exact gm (by assumption) | exact gz (by assumption)), ?_⟩
            conv => whnf
            exact ⟨(IntKind.wrap .i64 ((i : Int) + 1), IntKind.wrap .i64 (n + (m.size : Int))), by kernel_rfl, ⟨i + 1, nx (by omega), by omega, hg⟩, by simp only; rw [nx (by omega)]; omega⟩
        · rw [big (by have := of_decide_eq_true d4; rw [List.length_map] at this; omega)]
          conv => whnf
          kernel_rfl
      · rw [big (by have := of_decide_eq_true d3; rw [List.length_map] at this; omega)]
        conv => whnf
        kernel_rfl
    · rw [big (by have := of_decide_eq_true d2; rw [List.length_map] at this; omega)]
      conv => whnf
      kernel_rfl
  · rw [big (by have := of_decide_eq_true d1; rw [List.length_map] at this; omega)]
    conv => whnf
    kernel_rfl
@[reducible] def batsD (l : List Bat) : D := .list (l.map cellsB)
def fewOne (b : Bat) : Bool := decide (2000 < choicesL b.mats 1) && decide (choicesL b.mats 1 ≤ 100000)
def meltedL : List Bat → Bool
  | [] => false
  | b :: l => if greatB b = true then true else if batE b = 0 ∧ fewOne b = true then true else meltedL l
def meltedF (l : List Bat) : Bool := decide (4 < l.length) || meltedL l
theorem meltedL_false : ∀ {l : List Bat}, meltedL l = false → ∀ b ∈ l, Sb b
  | [], _ => fun b hb => by simp at hb
  | x :: l, h => fun b hb => by
    simp only [meltedL] at h
    split at h
    · simp at h
    · rename_i h1
      split at h
      · simp at h
      · rcases List.mem_cons.1 hb with rfl | hb
        · exact sb_of (by simpa using h1)
        · exact meltedL_false h b hb
theorem meltedF_false {l : List Bat} (h : meltedF l = false) : l.length ≤ 4 ∧ ∀ b ∈ l, Sb b := by
  unfold meltedF at h
  rw [Bool.or_eq_false_iff, decide_eq_false_iff_not] at h
  exact ⟨by omega, meltedL_false h.2⟩
theorem melted_ok (l : List Bat) : PureFn Tryz.prog 8 [batsD l] (boolD (meltedF l)) := by
  refine pureFn_by Tryz.func8 k8 rfl rfl ?_
  unfold meltedF
  conv => whnf
  cases d1 : decide ((4 : Int) < ((l.map cellsB).length : Int))
  · have e1 := of_decide_eq_false d1
    rw [List.length_map] at e1
    rw [show decide (4 < l.length) = false from decide_eq_false (by omega)]
    obtain ⟨G, hG⟩ : ∃ G, meltedL l = G := ⟨_, rfl⟩
    rw [hG]
    conv => whnf
    refine loopB (fun (x : Int) => ⟨mkT [(0, .d (batsD l)), (3, .d (int x))], mkB []⟩)
      (fun x => ∃ k : Nat, x = k ∧ k ≤ l.length ∧ meltedL (l.drop k) = G) (fun x => (l.length - x).toNat) 0 (by kernel_rfl) ⟨0, rfl, by omega, hG⟩ ?_
    rintro _ ⟨i, rfl, hi, hg⟩
    conv => whnf
    cases q1 : decide ((i : Int) < ((l.map cellsB).length : Int))
    · have hi' : i = l.length := by have := of_decide_eq_false q1; rw [List.length_map] at this; omega
      rw [hi', drop_end] at hg
      rw [← hg]
      conv => whnf
      kernel_rfl
    · have hi' : i < l.length := by have := of_decide_eq_true q1; rw [List.length_map] at this; omega
      obtain ⟨b, hb⟩ := get_lt hi'
      rw [drop_at hb, meltedL] at hg
      conv => whnf
      refine ⟨by omega, _, (by first | exact gm (by assumption) | exact gz (by assumption)), ?_⟩
      conv => whnf
      refine ⟨_, greatB_ok b, ?_⟩
      cases q2 : greatB b
      · have sb := sb_of q2
        rw [if_neg (by simp [q2])] at hg
        conv => whnf
        refine ⟨by omega, _, (by first | exact gm (by assumption) | exact gz (by assumption)), ?_⟩
        conv => whnf
        refine ⟨_, checkR_ok b sb, ?_⟩
        conv => whnf
        cases q3 : decide (batE b = 0)
        · rw [if_neg (by intro h; exact of_decide_eq_false q3 h.1)] at hg
          conv => whnf
          exact ⟨IntKind.wrap .i64 ((i : Int) + 1), by kernel_rfl, ⟨i + 1, nx (by omega), by omega, hg⟩, by rw [nx (by omega)]; omega⟩
        · have h0 := of_decide_eq_true q3
          rw [fewOne] at hg
          conv => whnf
          refine ⟨by omega, _, (by first | exact gm (by assumption) | exact gz (by assumption)), ?_⟩
          conv => whnf
          refine ⟨_, choices_ok b (bf_of sb h0), ?_⟩
          conv => whnf
          cases q4 : decide (2000 < choicesL b.mats 1)
          · rw [q4, if_neg (by simp)] at hg
            conv => whnf
            exact ⟨IntKind.wrap .i64 ((i : Int) + 1), by kernel_rfl, ⟨i + 1, nx (by omega), by omega, hg⟩, by rw [nx (by omega)]; omega⟩
          · conv => whnf
            cases q5 : decide (choicesL b.mats 1 ≤ 100000)
            · rw [q5, if_neg (by simp)] at hg
              conv => whnf
              exact ⟨IntKind.wrap .i64 ((i : Int) + 1), by kernel_rfl, ⟨i + 1, nx (by omega), by omega, hg⟩, by rw [nx (by omega)]; omega⟩
            · rw [q4, q5, if_pos ⟨h0, rfl⟩] at hg
              rw [← hg]
              conv => whnf
              kernel_rfl
      · rw [if_pos (by simp [q2])] at hg
        rw [← hg]
        conv => whnf
        kernel_rfl
  · have e1 := of_decide_eq_true d1
    rw [List.length_map] at e1
    rw [show decide (4 < l.length) = true from decide_eq_true (by omega)]
    conv => whnf
    kernel_rfl
end Go.Proofs.YtalbkamkkceanaaGreatG
