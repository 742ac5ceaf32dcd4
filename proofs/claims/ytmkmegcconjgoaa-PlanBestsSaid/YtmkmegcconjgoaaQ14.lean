/- The program's enumeration, walked: the next choice. No condition. -/
import Derived.Test.YtmkmegcconjgoaaQ13
set_option linter.unusedVariables false
set_option linter.unusedSimpArgs false
set_option maxRecDepth 100000
set_option maxHeartbeats 4000000
namespace Go.Proofs.YtmkmegcconjgoaaG
open Go Go.AM Go.Proofs

structure AtN (s : Season) (lp : Nat) (σ : Option Plan × Int) (p : Plan) (els : List (List D)) (i : Int) (u : St) : Prop where
  t0 : u.t 0 = .d (.v (.func (.yield lp) #[] #[]))
  t1 : u.t 1 = .d (.fptr (cellsS s))
  t2 : u.t 2 = .d (.fptr [planD (ofF s)])
  t3 : u.t 3 = .d (.fptr [allsD (allsF s)])
  t5 : u.t 5 = .vs 1000 0 (s.makers.map mkL).length
  t7 : u.t 7 = .row 1002 0 (s.days.toNat * s.ovens.length) (s.days.toNat * s.ovens.length)
  t14 : u.t 14 = .d (int i)
  b1 : u.b 1 = .var [.d (bestD σ.1)]
  b2 : u.b 2 = .var [.d (int σ.2)]
  b3 : u.b 3 = .var [.d (boolD σ.1.isSome)]
  b4 : u.b 4 = .dead
  b6 : u.b 6 = .fresh
  bc : u.b 1000 = .var (cellsP s)
  k1 : u.b 1001 = blkP p 0
  kc : u.b 1002 = .row 1 els
  k3 : u.b 1003 = blkP p 1
  k4 : u.b 1004 = blkP p 2
theorem next_loop (s : Season) (hf : Fr s) (hm3 : s.makers.length ≤ 3) (H : Hand) (lp : Nat) (σ : Option Plan × Int) (p : Plan) (ch : List Int) (hc : OkCs s ch)
    (Q : QB) (t : Nat → AC) (b' : Nat → ABlk)
    (h0 : St.forget ⟨t, b'⟩ [0, 1, 2, 3, 5, 7, 14] LS2 = ⟨mkT (tO s lp ++ [(14, .d (int 0))]), stP σ (cellsP s) (blkP p 0) (blkP p 1) (blkP p 2) (.row 1 (ch.map i1))⟩)
    (hQ1 : ∀ (u : St) (i : Nat) (ch' : List Int), i < ch.length → nextC (sizesF s) ch = some ch' → AtN s lp σ p (ch'.map i1) (i : Int) u → Q (.exit 8) u.t u.b)
    (hQ2 : ∀ (u : St) (els : List (List D)), els.length = ch.length → nextC (sizesF s) ch = none → AtN s lp σ p els (ch.length : Int) u → Q (.exit 8) u.t u.b) :
    LoopB (fun Q t b => bwp Try.prog H false [1, 2, 3, 4, 6] l31i95_3 Q t b) [0, 1, 2, 3, 5, 7, 14] LS2 Q t b' := by
  have hcl := hc.1
  have hno := hf.no
  have hdy := hf.days
  have hNs : s.days.toNat * s.ovens.length ≤ 14 * 3 := Nat.mul_le_mul (by omega) hno
  refine loopB (fun (x : Int × List Int) => ⟨mkT (tO s lp ++ [(14, .d (int x.1))]), stP σ (cellsP s) (blkP p 0) (blkP p 1) (blkP p 2) (.row 1 (x.2.map i1))⟩)
    (fun x => ∃ i : Nat, x.1 = i ∧ i ≤ ch.length ∧ x.2 = List.replicate i 0 ++ ch.drop i ∧ nextC (sizesF s) ch = (nextC ((sizesF s).drop i) (ch.drop i)).map fun r => List.replicate i 0 ++ r) (fun x => (ch.length - x.1).toNat) (0, ch) h0 ⟨0, rfl, by omega, rfl, by simp⟩ ?_
  rintro ⟨_, cur⟩ ⟨i, rfl, hi, hcur, hn⟩
  simp only at hcur hn
  have hcurl : cur.length = ch.length := by rw [hcur]; simp; omega
  conv => whnf
  refine ⟨by simp; omega, ?_⟩
  conv => whnf
  cases c1 : decide ((i : Int) < ((s.days.toNat * s.ovens.length : Nat) : Int))
  · have hi' : i = ch.length := by have := of_decide_eq_false c1; rw [← hcl] at this; omega
    subst hi'
    have hsl : (sizesF s).length = ch.length := by rw [hcl]; simp [sizesF]
    rw [drop_end, ← hsl, drop_end] at hn
    conv => whnf
    exact hQ2 ⟨_, _⟩ (cur.map i1) (by rw [List.length_map, hcurl]) hn ⟨rfl, rfl, rfl, rfl, rfl, rfl, rfl, rfl, rfl, rfl, rfl, rfl, rfl, rfl, rfl, rfl, rfl⟩
  · have hi' : i < ch.length := by have := of_decide_eq_true c1; rw [← hcl] at this; omega
    obtain ⟨c, hcx⟩ := get_lt hi'
    have hok := hc.2 i c hcx
    have hO : 0 < s.ovens.length := by
      rcases Nat.eq_zero_or_pos s.ovens.length with h | h
      · rw [h, Nat.mul_zero] at hcl; omega
      · exact h
    have hk := Nat.mod_lt i hO
    have hall := alls_get hk
    have hsl := shifts_few hf hm3 ((i % s.ovens.length : Nat) : Int)
    unfold OkC at hok
    have hns : (sizesF s)[i]? = some (shiftsF s ((i % s.ovens.length : Nat) : Int)).length := by unfold sizesF; rw [List.getElem?_map, List.getElem?_range (by omega)]; rfl
    obtain ⟨sh, hsh⟩ : ∃ sh, shiftsF s ((i % s.ovens.length : Nat) : Int) = sh := ⟨_, rfl⟩
    rw [hsh] at hall hsl hok hns
    have hcc : cur[i]? = some c := by
      rw [hcur, List.getElem?_append_right (by simp)]
      simp [List.getElem?_drop, hcx]
    have e1 : ((i : Int)).tmod ((s.ovens.map i2).length : Int) = ((i % s.ovens.length : Nat) : Int) := by rw [List.length_map]; exact rem_nat _ _
    have e3 : IntKind.wrap .i64 (c + 1) = c + 1 := wr_eq (by omega)
    have hset : ∀ v : Int, (cur.map i1).set (0 + ((i : Nat) : Int).toNat) (List.take 0 (i1 c) ++ [int v] ++ List.drop (0 + 1) (i1 c)) = (cur.set i v).map i1 := fun v => by
      rw [Nat.zero_add, Int.toNat_natCast, List.map_set]; rfl
    have hcs : ∀ v : Int, cur.set i v = List.replicate i 0 ++ v :: ch.drop (i + 1) := fun v => by
      rw [hcur, drop_at hcx, List.set_append_right _ _ (by simp)]
      simp
    have hg1 : ∀ v : Int, ((cur.map i1).set (0 + ((i : Nat) : Int).toNat) (List.take 0 (i1 c) ++ [int v] ++ List.drop (0 + 1) (i1 c)))[0 + ((i : Nat) : Int).toNat]? = some (i1 v) := fun v => by
      rw [hset, Nat.zero_add]; exact gm (by rw [List.getElem?_set_self (by omega)])
    conv => whnf
    refine ⟨by omega, by omega, ?_⟩
    conv => whnf
    refine ⟨by simp; omega, ?_⟩
    conv => whnf
    refine ⟨by simp; omega, _, (by rw [Nat.zero_add]; exact gm hcc), ?_⟩
    conv => whnf
    refine ⟨by omega, by omega, ?_⟩
    conv => whnf
    refine ⟨by simp; omega, ?_⟩
    conv => whnf
    refine ⟨by simp; omega, _, (by rw [Nat.zero_add]; exact gm hcc), ?_⟩
    rw [e3]
    conv => whnf
    refine ⟨by omega, by omega, ?_⟩
    conv => whnf
    refine ⟨by simp; omega, ?_⟩
    conv => whnf
    refine ⟨by simp; omega, _, hg1 (c + 1), ?_⟩
    conv => whnf
    refine ⟨by rw [List.length_map]; omega, ?_⟩
    rw [e1]
    conv => whnf
    refine ⟨by omega, _, gm hall, ?_⟩
    conv => whnf
    cases c2 : decide (c + 1 < ((sh.map rowL).length : Int))
    · have h2 : ¬ c + 1 < (sh.length : Int) := by have := of_decide_eq_false c2; rw [List.length_map] at this; omega
      have hset2 : ((cur.map i1).set (0 + ((i : Nat) : Int).toNat) (List.take 0 (i1 c) ++ [int (c + 1)] ++ List.drop (0 + 1) (i1 c))).set (0 + ((i : Nat) : Int).toNat) (List.take 0 (i1 (c + 1)) ++ [int 0] ++ List.drop (0 + 1) (i1 (c + 1))) = (cur.set i 0).map i1 := by
        rw [hset, Nat.zero_add, Int.toNat_natCast, List.map_set, List.map_set, List.set_set]; rfl
      conv => whnf
      refine ⟨by omega, by omega, ?_⟩
      conv => whnf
      refine ⟨by simp; omega, ?_⟩
      conv => whnf
      refine ⟨by simp; omega, _, hg1 (c + 1), ?_⟩
      conv => whnf
      exact ⟨(IntKind.wrap .i64 ((i : Int) + 1), cur.set i 0), fgtS rfl rfl rfl rfl rfl rfl rfl (congrArg (ABlk.row 1) hset2) rfl rfl (by kernel_rfl), ⟨i + 1, nx (by omega), by omega, by simp only; rw [hcs, List.replicate_succ']; simp, carry_go hn hns hcx h2⟩, by simp only; rw [nx (by omega)]; omega⟩
    · have h2 : c + 1 < (sh.length : Int) := by have := of_decide_eq_true c2; rw [List.length_map] at this; omega
      have hf2 := carry_found hn hns hcx h2
      rw [← hcs] at hf2
      conv => whnf
      exact hQ1 ⟨_, _⟩ i (cur.set i (c + 1)) hi' hf2 ⟨rfl, rfl, rfl, rfl, rfl, rfl, rfl, rfl, rfl, rfl, rfl, rfl, rfl, rfl, congrArg (ABlk.row 1) (hset (c + 1)), rfl, rfl⟩
end Go.Proofs.YtmkmegcconjgoaaG
