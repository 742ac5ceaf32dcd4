/- What the checks of machines and orders answer. No condition. -/
import Derived.Test.YtmkmegcconjgoaaP3
set_option linter.unusedVariables false
set_option linter.unusedSimpArgs false
set_option maxRecDepth 100000
set_option maxHeartbeats 4000000
namespace Go.Proofs.YtmkmegcconjgoaaG
open Go Go.AM Go.Proofs

def mkBad (s : Season) (m : Mk) : Bool :=
  !decide ((m.rates.length : Int) = s.arts.length) || m.rates.any (fun n => !rateOk n) || !withinF m.idle 0 1000000 || !withinF m.start (-1) ((s.arts.length : Int) - 1)
def mkE (s : Season) (_ : Nat) (m : Mk) : Int := if withinF m.oven 0 ((s.ovens.length : Int) - 1) = false then 7 else if mkBad s m = true then 1 else 0
def makersE (s : Season) : Int := if 6 < s.makers.length then 3 else firstE (mkE s) s.makers 0

theorem makersE_ok (s : Season) (hs : Sm s) : PureFn Try.prog 48 [seasonD s] (int (makersE s)) := by
  have ha := hs.arts
  have ho := hs.ovens
  have hm := hs.makers
  refine pureFn_by Try.func48 k48 rfl rfl ?_
  unfold makersE
  obtain ⟨E, hE⟩ : ∃ E, firstE (mkE s) s.makers 0 = E := ⟨_, rfl⟩
  rw [hE]
  conv => whnf
  rw [List.length_map]
  cases c1 : decide (6 < (s.makers.length : Int))
  · have h1 : ¬ 6 < s.makers.length := by have := of_decide_eq_false c1; omega
    rw [if_neg h1]
    conv => whnf
    refine loopB (fun (i : Int) => ⟨mkT [(1, .d (.fptr (cellsS s))), (10, .d (.list (s.makers.map mkL))), (11, .d (int (s.makers.map mkL).length)), (12, .d (int i))], mkB []⟩)
      (fun i => ∃ k : Nat, i = k ∧ k ≤ s.makers.length ∧ firstE (mkE s) (s.makers.drop k) k = E) (fun i => (s.makers.length - i).toNat) 0 (by kernel_rfl) ⟨0, rfl, by omega, hE⟩ ?_
    rintro _ ⟨i, rfl, hi, hb⟩
    conv => whnf
    rw [List.length_map]
    cases c2 : decide ((i : Int) < (s.makers.length : Int))
    · have hi' : i = s.makers.length := by have := of_decide_eq_false c2; omega
      subst hi'
      rw [firstE_end] at hb
      rw [← hb]
      conv => whnf
      kernel_rfl
    · have hi' : i < s.makers.length := by have := of_decide_eq_true c2; omega
      obtain ⟨m, hx⟩ := get_lt hi'
      rw [firstE_at hx] at hb
      have hwo : IntKind.wrap .i64 (((s.ovens.map i2).length : Int) - 1) = (s.ovens.length : Int) - 1 := by rw [List.length_map, wr_eq (by omega)]
      have hwa : IntKind.wrap .i64 (((s.arts.map artL).length : Int) - 1) = (s.arts.length : Int) - 1 := by rw [List.length_map, wr_eq (by omega)]
      have hrl := hs.rates m (List.mem_of_getElem? hx)
      have key := any1_ok (fun n : Int => int n) m.rates (fun n => !rateOk n) 80 [] (by omega) (fun n _ => badRate_ok n)
      have fw : ∀ b, withinF m.oven 0 ((s.ovens.length : Int) - 1) = true → mkBad s m = b → (if b = true then E = 1 else firstE (mkE s) (s.makers.drop (i + 1)) (i + 1) = E) := fun b h0 h => by
        have : mkE s i m = if b = true then 1 else 0 := by unfold mkE; rw [h, h0]; rfl
        rw [this] at hb
        clear this h
        cases b
        · exact hb
        · exact hb.symm
      have e : mkBad s m = (!decide ((m.rates.length : Int) = s.arts.length) || m.rates.any (fun n => !rateOk n) || !withinF m.idle 0 1000000 || !withinF m.start (-1) ((s.arts.length : Int) - 1)) := rfl
      rw [e] at fw
      conv => whnf
      refine ⟨by omega, _, gm hx, ?_⟩
      conv => whnf
      refine ⟨_, within_ok _ _ _, ?_⟩
      rw [hwo]
      cases c3 : withinF m.oven 0 ((s.ovens.length : Int) - 1)
      · have : mkE s i m = 7 := by unfold mkE; rw [c3]; rfl
        rw [this, if_neg (by decide)] at hb
        rw [← hb]
        conv => whnf
        kernel_rfl
      · have fw := fun b => fw b c3
        conv => whnf
        rw [List.length_map, List.length_map]
        cases c4 : decide ((m.rates.length : Int) = s.arts.length)
        · rw [fw true (by rw [c4]; rfl)]
          conv => whnf
          kernel_rfl
        · conv => whnf
          refine ⟨_, key, ?_⟩
          cases c5 : m.rates.any (fun n => !rateOk n)
          · conv => whnf
            refine ⟨_, within_ok _ _ _, ?_⟩
            cases c6 : withinF m.idle 0 1000000
            · rw [fw true (by rw [c4, c5, c6]; rfl)]
              conv => whnf
              kernel_rfl
            · conv => whnf
              refine ⟨_, within_ok _ _ _, ?_⟩
              rw [hwa]
              cases c7 : withinF m.start (-1) ((s.arts.length : Int) - 1)
              · rw [fw true (by rw [c4, c5, c6, c7]; rfl)]
                conv => whnf
                kernel_rfl
              · conv => whnf
                exact ⟨IntKind.wrap .i64 ((i : Int) + 1), by kernel_rfl, ⟨i + 1, nx (by omega), by omega, fw false (by rw [c4, c5, c6, c7]; rfl)⟩, by rw [nx (by omega)]; omega⟩
          · rw [fw true (by rw [c4, c5]; rfl)]
            conv => whnf
            kernel_rfl
  · have h1 : 6 < s.makers.length := by have := of_decide_eq_true c1; omega
    rw [if_pos h1]
    conv => whnf
    kernel_rfl

def ordBad (s : Season) (o : Ord) : Bool := !withinF o.quantity 0 1000000 || !withinF o.due 0 (IntKind.wrap .i64 (s.days - 1)) || !withinF o.penalty 0 1000000
def ordE (s : Season) (i : Nat) (o : Ord) : Int :=
  if withinF o.article 0 ((s.arts.length : Int) - 1) = false then 7 else if (s.orders.take i).any (fun x => decide (x.article = o.article)) = true then 6 else if ordBad s o = true then 1 else 0
def ordersE (s : Season) : Int := if s.arts.length < s.orders.length then 3 else firstE (ordE s) s.orders 0

theorem ordersE_ok (s : Season) (hs : Sm s) : PureFn Try.prog 50 [seasonD s] (int (ordersE s)) := by
  have ha := hs.arts
  have hm := hs.orders
  refine pureFn_by Try.func50 k50 rfl rfl ?_
  unfold ordersE
  obtain ⟨E, hE⟩ : ∃ E, firstE (ordE s) s.orders 0 = E := ⟨_, rfl⟩
  rw [hE]
  conv => whnf
  rw [List.length_map, List.length_map]
  cases c1 : decide ((s.arts.length : Int) < (s.orders.length : Int))
  · have h1 : ¬ s.arts.length < s.orders.length := by have := of_decide_eq_false c1; omega
    rw [if_neg h1]
    conv => whnf
    refine loopB (fun (i : Int) => ⟨mkT [(1, .d (.fptr (cellsS s))), (13, .d (.list (s.orders.map ordL))), (14, .d (int (s.orders.map ordL).length)), (15, .d (int i))], mkB []⟩)
      (fun i => ∃ k : Nat, i = k ∧ k ≤ s.orders.length ∧ firstE (ordE s) (s.orders.drop k) k = E) (fun i => (s.orders.length - i).toNat) 0 (by kernel_rfl) ⟨0, rfl, by omega, hE⟩ ?_
    rintro _ ⟨i, rfl, hi, hb⟩
    conv => whnf
    rw [List.length_map]
    cases c2 : decide ((i : Int) < (s.orders.length : Int))
    · have hi' : i = s.orders.length := by have := of_decide_eq_false c2; omega
      subst hi'
      rw [firstE_end] at hb
      rw [← hb]
      conv => whnf
      kernel_rfl
    · have hi' : i < s.orders.length := by have := of_decide_eq_true c2; omega
      obtain ⟨o, hx⟩ := get_lt hi'
      rw [firstE_at hx] at hb
      have hwa : IntKind.wrap .i64 (((s.arts.map artL).length : Int) - 1) = (s.arts.length : Int) - 1 := by rw [List.length_map, wr_eq (by omega)]
      have key := any4_ok (fun x : Ord => int x.article) (fun x => int x.quantity) (fun x => int x.due) (fun x => int x.penalty) (s.orders.take i) (fun x => decide (x.article = o.article)) 84 [.fptr (ordL o)] (by simp; omega) (fun x _ => sameArt_ok x o)
      have ek : (s.orders.take i).map ordL = ((s.orders.map ordL).drop (0 : Int).toNat).take ((i : Int).toNat - (0 : Int).toNat) := by simp [List.map_take]
      have key : PureFn Try.prog 83 [.list (((s.orders.map ordL).drop (0 : Int).toNat).take ((i : Int).toNat - (0 : Int).toNat)), .clo 84 [] [.fptr (ordL o)]] (boolD ((s.orders.take i).any fun x => decide (x.article = o.article))) := by rw [← ek]; exact key
      have fw : ∀ b, withinF o.article 0 ((s.arts.length : Int) - 1) = true → (s.orders.take i).any (fun x => decide (x.article = o.article)) = false → ordBad s o = b → (if b = true then E = 1 else firstE (ordE s) (s.orders.drop (i + 1)) (i + 1) = E) := fun b h0 h1 h => by
        have : ordE s i o = if b = true then 1 else 0 := by unfold ordE; rw [h, h0, h1]; rfl
        rw [this] at hb
        clear this h
        cases b
        · exact hb
        · exact hb.symm
      have e : ordBad s o = (!withinF o.quantity 0 1000000 || !withinF o.due 0 (IntKind.wrap .i64 (s.days - 1)) || !withinF o.penalty 0 1000000) := rfl
      rw [e] at fw
      conv => whnf
      refine ⟨by omega, _, gm hx, ?_⟩
      conv => whnf
      refine ⟨_, within_ok _ _ _, ?_⟩
      rw [hwa]
      cases c3 : withinF o.article 0 ((s.arts.length : Int) - 1)
      · have : ordE s i o = 7 := by unfold ordE; rw [c3]; rfl
        rw [this, if_neg (by decide)] at hb
        rw [← hb]
        conv => whnf
        kernel_rfl
      · conv => whnf
        refine ⟨by omega, by omega, by rw [List.length_map]; omega, fun _ => ?_, ?_⟩
        · obtain ⟨o0, h0⟩ := get_lt (show 0 < s.orders.length by omega)
          show ((s.orders.map ordL).getD 0 []).length = 4
          simp [List.getD, h0]
        conv => whnf
        refine ⟨_, key, rfl, ?_⟩
        cases c4 : (s.orders.take i).any (fun x => decide (x.article = o.article))
        · have fw := fun b => fw b c3 c4
          conv => whnf
          refine ⟨_, within_ok _ _ _, ?_⟩
          cases c5 : withinF o.quantity 0 1000000
          · rw [fw true (by rw [c5]; rfl)]
            conv => whnf
            kernel_rfl
          · conv => whnf
            refine ⟨_, within_ok _ _ _, ?_⟩
            cases c6 : withinF o.due 0 (IntKind.wrap .i64 (s.days - 1))
            · rw [fw true (by rw [c5, c6]; rfl)]
              conv => whnf
              kernel_rfl
            · conv => whnf
              refine ⟨_, within_ok _ _ _, ?_⟩
              cases c7 : withinF o.penalty 0 1000000
              · rw [fw true (by rw [c5, c6, c7]; rfl)]
                conv => whnf
                kernel_rfl
              · conv => whnf
                exact ⟨IntKind.wrap .i64 ((i : Int) + 1), by kernel_rfl, ⟨i + 1, nx (by omega), by omega, fw false (by rw [c5, c6, c7]; rfl)⟩, by rw [nx (by omega)]; omega⟩
        · have : ordE s i o = 6 := by unfold ordE; rw [c3, c4]; rfl
          rw [this, if_neg (by decide)] at hb
          rw [← hb]
          conv => whnf
          kernel_rfl
  · have h1 : s.arts.length < s.orders.length := by have := of_decide_eq_true c1; omega
    rw [if_pos h1]
    conv => whnf
    kernel_rfl
end Go.Proofs.YtmkmegcconjgoaaG
