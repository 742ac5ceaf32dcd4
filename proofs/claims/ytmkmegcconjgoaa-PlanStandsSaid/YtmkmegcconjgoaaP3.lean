/- What the checks of articles, furnaces and machines answer. No condition. -/
import Derived.Test.YtmkmegcconjgoaaP2
set_option linter.unusedVariables false
set_option linter.unusedSimpArgs false
set_option maxRecDepth 100000
set_option maxHeartbeats 4000000
namespace Go.Proofs.YtmkmegcconjgoaaG
open Go Go.AM Go.Proofs

theorem firstE_at {α : Type} {e : Nat → α → Int} {xs : List α} {i : Nat} {x : α} (h : xs[i]? = some x) : firstE e (xs.drop i) i = if e i x = 0 then firstE e (xs.drop (i + 1)) (i + 1) else e i x := by
  rw [drop_at h]; rfl
theorem firstE_end {α : Type} {e : Nat → α → Int} {xs : List α} {i : Nat} : firstE e (xs.drop xs.length) i = 0 := by rw [drop_end]; rfl

def artE (s : Season) (i : Nat) (a : Art) : Int :=
  if nameF a.name = false then 5 else if articleF s a.name < i then 6 else if withinF a.colour 0 ((s.cols.length : Int) - 1) = false then 7 else if withinF a.weight 1 100000 = false then 1 else 0
def ovE (_ : Nat) (o : Int × Int) : Int := if (decide (o.1 < 0) || decide (o.2 < o.1) || decide (1000000 < o.2)) = true then 1 else 0
def articlesE (s : Season) : Int :=
  if 8 < s.arts.length then 3 else if firstE (artE s) s.arts 0 ≠ 0 then firstE (artE s) s.arts 0 else if 3 < s.ovens.length then 3 else firstE ovE s.ovens 0

theorem articles_ok (s : Season) (hs : Sm s) : PureFn Try.prog 47 [seasonD s] (int (articlesE s)) := by
  have ha := hs.arts
  have ho := hs.ovens
  have hc := hs.cols
  refine pureFn_by Try.func47 k47 rfl rfl ?_
  unfold articlesE
  obtain ⟨E, hE⟩ : ∃ E, firstE (artE s) s.arts 0 = E := ⟨_, rfl⟩
  obtain ⟨F, hF⟩ : ∃ F, firstE ovE s.ovens 0 = F := ⟨_, rfl⟩
  rw [hE, hF]
  conv => whnf
  rw [List.length_map]
  cases c1 : decide (8 < (s.arts.length : Int))
  · have h1 : ¬ 8 < s.arts.length := by have := of_decide_eq_false c1; omega
    rw [if_neg h1]
    conv => whnf
    refine loopB (fun (i : Int) => ⟨mkT [(1, .d (.fptr (cellsS s))), (12, .d (.list (s.arts.map artL))), (13, .d (int (s.arts.map artL).length)), (14, .d (int i))], mkB []⟩)
      (fun i => ∃ k : Nat, i = k ∧ k ≤ s.arts.length ∧ firstE (artE s) (s.arts.drop k) k = E) (fun i => (s.arts.length - i).toNat) 0 (by kernel_rfl) ⟨0, rfl, by omega, hE⟩ ?_
    rintro _ ⟨i, rfl, hi, hb⟩
    conv => whnf
    rw [List.length_map]
    cases c2 : decide ((i : Int) < (s.arts.length : Int))
    · have hi' : i = s.arts.length := by have := of_decide_eq_false c2; omega
      subst hi'
      rw [firstE_end] at hb
      rw [if_neg (by simp [← hb])]
      conv => whnf
      rw [List.length_map]
      cases c3 : decide (3 < (s.ovens.length : Int))
      · have h3 : ¬ 3 < s.ovens.length := by have := of_decide_eq_false c3; omega
        rw [if_neg h3]
        conv => whnf
        refine loopB (fun (i : Int) => ⟨mkT [(51, .d (pairsD s.ovens)), (52, .d (int (s.ovens.map i2).length)), (53, .d (int i))], mkB []⟩)
          (fun i => ∃ k : Nat, i = k ∧ k ≤ s.ovens.length ∧ firstE ovE (s.ovens.drop k) k = F) (fun i => (s.ovens.length - i).toNat) 0 (by kernel_rfl) ⟨0, rfl, by omega, hF⟩ ?_
        rintro _ ⟨j, rfl, hj, hbj⟩
        conv => whnf
        rw [List.length_map]
        cases c4 : decide ((j : Int) < (s.ovens.length : Int))
        · have hj' : j = s.ovens.length := by have := of_decide_eq_false c4; omega
          subst hj'
          rw [firstE_end] at hbj
          rw [← hbj]
          conv => whnf
          kernel_rfl
        · have hj' : j < s.ovens.length := by have := of_decide_eq_true c4; omega
          obtain ⟨o, hx⟩ := get_lt hj'
          rw [firstE_at hx] at hbj
          have fw : ∀ b, (decide (o.1 < 0) || decide (o.2 < o.1) || decide (1000000 < o.2)) = b → (if b = true then F = 1 else firstE ovE (s.ovens.drop (j + 1)) (j + 1) = F) := fun b h => by
            have : ovE j o = if b = true then 1 else 0 := by unfold ovE; rw [h]
            rw [this] at hbj
            clear this h
            cases b
            · exact hbj
            · exact hbj.symm
          conv => whnf
          refine ⟨by omega, _, gm hx, ?_⟩
          conv => whnf
          cases c5 : decide (o.1 < 0)
          · conv => whnf
            cases c6 : decide (o.2 < o.1)
            · conv => whnf
              cases c7 : decide (1000000 < o.2)
              · conv => whnf
                exact ⟨IntKind.wrap .i64 ((j : Int) + 1), by kernel_rfl, ⟨j + 1, nx (by omega), by omega, fw false (by rw [c5, c6, c7]; rfl)⟩, by rw [nx (by omega)]; omega⟩
              · rw [fw true (by rw [c5, c6, c7]; rfl)]
                conv => whnf
                kernel_rfl
            · rw [fw true (by rw [c5, c6]; rfl)]
              conv => whnf
              kernel_rfl
          · rw [fw true (by rw [c5]; rfl)]
            conv => whnf
            kernel_rfl
      · have h3 : 3 < s.ovens.length := by have := of_decide_eq_true c3; omega
        rw [if_pos h3]
        conv => whnf
        kernel_rfl
    · have hi' : i < s.arts.length := by have := of_decide_eq_true c2; omega
      obtain ⟨a, hx⟩ := get_lt hi'
      rw [firstE_at hx] at hb
      have hwc : IntKind.wrap .i64 (((s.cols.map pairsL).length : Int) - 1) = (s.cols.length : Int) - 1 := by rw [List.length_map, wr_eq (by omega)]
      have hbad : ∀ e : Int, e ≠ 0 → artE s i a = e → E = e ∧ E ≠ 0 := fun e h0 h => by rw [h, if_neg h0] at hb; exact ⟨hb.symm, hb ▸ h0⟩
      have ex : artE s i a = (if nameF a.name = false then 5 else if articleF s a.name < i then 6 else if withinF a.colour 0 ((s.cols.length : Int) - 1) = false then 7 else if withinF a.weight 1 100000 = false then 1 else 0) := rfl
      have nm := name_ok a.name
      have ar := article_ok s hs a.name
      conv => whnf
      refine ⟨by omega, _, gm hx, ?_⟩
      conv => whnf
      refine ⟨_, nm, ?_⟩
      cases c3 : nameF a.name
      · obtain ⟨h1, h2⟩ := hbad 5 (by decide) (by rw [ex, c3]; rfl)
        rw [if_pos h2, h1]
        conv => whnf
        kernel_rfl
      · conv => whnf
        refine ⟨_, ar, ?_⟩
        conv => whnf
        cases c4 : decide (articleF s a.name < (i : Int))
        · have h4 : ¬ articleF s a.name < (i : Int) := of_decide_eq_false c4
          conv => whnf
          refine ⟨_, within_ok _ _ _, ?_⟩
          rw [hwc]
          cases c5 : withinF a.colour 0 ((s.cols.length : Int) - 1)
          · obtain ⟨h1, h2⟩ := hbad 7 (by decide) (by rw [ex, c3, c5, if_neg (by simp), if_neg h4]; rfl)
            rw [if_pos h2, h1]
            conv => whnf
            kernel_rfl
          · conv => whnf
            refine ⟨_, within_ok _ _ _, ?_⟩
            cases c6 : withinF a.weight 1 100000
            · obtain ⟨h1, h2⟩ := hbad 1 (by decide) (by rw [ex, c3, c5, c6, if_neg (by simp), if_neg h4]; rfl)
              rw [if_pos h2, h1]
              conv => whnf
              kernel_rfl
            · have h0 : artE s i a = 0 := by rw [ex, c3, c5, c6, if_neg (by simp), if_neg h4]; rfl
              rw [if_pos h0] at hb
              conv => whnf
              exact ⟨IntKind.wrap .i64 ((i : Int) + 1), by kernel_rfl, ⟨i + 1, nx (by omega), by omega, hb⟩, by rw [nx (by omega)]; omega⟩
        · have h4 : articleF s a.name < (i : Int) := of_decide_eq_true c4
          obtain ⟨h1, h2⟩ := hbad 6 (by decide) (by rw [ex, c3, if_neg (by simp), if_pos h4])
          rw [if_pos h2, h1]
          conv => whnf
          kernel_rfl
  · have h1 : 8 < s.arts.length := by have := of_decide_eq_true c1; omega
    rw [if_pos h1]
    conv => whnf
    kernel_rfl
end Go.Proofs.YtmkmegcconjgoaaG
