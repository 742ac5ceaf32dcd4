/- The best recipes of batches, as the program and as the specification gather them. No condition. -/
import Derived.Test.YtalbkamkkceanaaGreatB21
set_option linter.unusedVariables false
set_option linter.unusedSimpArgs false
set_option maxRecDepth 100000
set_option maxHeartbeats 4000000
namespace Go.Proofs.YtalbkamkkceanaaGreatG
open Go Go.AM Go.Proofs

theorem low_nonneg : ∀ {l : List (Int × Int)}, (∀ o ∈ l, 0 ≤ o.1) → 0 ≤ lowSum l
  | [], _ => by simp [lowSum]
  | x :: l, h => by
    have := low_nonneg (l := l) (fun o ho => h o (by simp [ho]))
    have := h x (by simp)
    rw [lowSum_cons]; omega
theorem gramsF_len {b : Bat} (hb : Bf b) (r : List Int) : (gramsF b r).length = b.oxides.length := by
  unfold gramsF
  rw [gramsL_len (fun m hm => by rw [List.length_replicate]; exact (hb.mat m hm).2.2.2.2.2.2.2.2.2.1), List.length_replicate]
theorem glasses_ok (l : List Bat) (hl : l.length ≤ 4) (hs : ∀ b ∈ l, Sb b) : PureFn Tryz.prog 24 [batsD l] (if glassesE l = 0 then .tup [pairsD (l.map glassF), int 0] else .tup [nilD, int (glassesE l)]) := by
  refine pureFn_by Tryz.func24 k24 rfl rfl ?_
  obtain ⟨E, hE⟩ : ∃ E, glassesE l = E := ⟨_, rfl⟩
  rw [hE]
  conv => whnf
  refine loopB (fun (x : Int × List (List D) × Nat) => ⟨mkT [(4, .row 3 0 x.2.2 x.2.2), (15, .d (batsD l)), (16, .d (int (l.map cellsB).length)), (17, .d (int x.1))], mkB [(3, .row 2 x.2.1)]⟩)
    (fun x => ∃ k : Nat, x.1 = k ∧ k ≤ l.length ∧ x.2.1 = ((l.take k).map glassF).map i2 ∧ x.2.2 = x.2.1.length ∧ glassesE (l.drop k) = E) (fun x => (l.length - x.1).toNat) (0, [], 0) (by kernel_rfl) ⟨0, rfl, by omega, rfl, rfl, hE⟩ ?_
  rintro ⟨_, els, n⟩ ⟨k, rfl, hk, he, hn, hg⟩
  simp only at he hn
  conv => whnf
  cases c1 : decide ((k : Int) < ((l.map cellsB).length : Int))
  · have hk' : k = l.length := by have := of_decide_eq_false c1; rw [List.length_map] at this; omega
    rw [hk', drop_end] at hg
    have hg : 0 = E := hg
    rw [hk', List.take_length] at he
    subst hg
    rw [if_pos rfl]
    conv => whnf
    have fin : ∀ σ : St, σ.t 2 = .row 3 0 n n → σ.t 3 = .d (int 0) → σ.b 3 = .row 2 els → resA [.t 2, .t 3] σ = some (.tup [pairsD (l.map glassF), int 0]) := fun σ h1 h2 h3 => by
      have e1 : [RV.t 2, RV.t 3].mapM (readRV σ) = some [σ.t 2, σ.t 3] := rfl
      have e2 : Go.AM.snap σ.b 4 (σ.t 2) = some (pairsD (l.map glassF)) := by rw [h1, snap_row0 h3 hn, he]
      have e3 : Go.AM.snap σ.b 4 (σ.t 3) = some (int 0) := by rw [h2]; rfl
      unfold resA
      rw [e1]
      show ([σ.t 2, σ.t 3].mapM (Go.AM.snap σ.b 4)).map D.tup = _
      rw [mapM2 e2 e3]; rfl
    exact fin _ rfl rfl rfl
  · have hk' : k < l.length := by have := of_decide_eq_true c1; rw [List.length_map] at this; omega
    obtain ⟨b, hb⟩ := get_lt hk'
    have sb := hs b (List.mem_of_getElem? hb)
    rw [drop_at hb, glassesE] at hg
    have hel : els.length = k := by rw [he]; simp; omega
    have htk : l.take (k + 1) = l.take k ++ [b] := by rw [List.take_add_one, hb]; rfl
    conv => whnf
    refine ⟨by omega, _, (by first | exact gm (by assumption) | exact gz (by assumption)), ?_⟩
    conv => whnf
    refine ⟨_, best_ok b sb, ?_⟩
    cases c2 : decide (bestE b = 0)
    · have h2 := of_decide_eq_false c2
      have hge : glassE b = bestE b := by unfold glassE; rw [if_pos h2]
      rw [hge, if_pos h2] at hg
      rw [top_err h2]
      conv => whnf
      rw [c2]
      rw [hg] at h2 ⊢
      rw [if_neg h2]
      conv => whnf
      kernel_rfl
    · have h2 := of_decide_eq_true c2
      cases c3 : (bestR b).2.2
      · have hge : glassE b = 7 := by unfold glassE; rw [if_neg (by omega), c3]; simp
        rw [hge, if_pos (by decide)] at hg
        rw [top_none h2 c3, ← hg, if_neg (by decide)]
        conv => whnf
        kernel_rfl
      · have hge : glassE b = 0 := by unfold glassE; rw [if_neg (by omega), c3]; simp
        rw [hge, if_neg (by decide)] at hg
        rw [top_some h2 c3]
        have hz := best_zero h2
        have hbf := bf_of sb hz.1
        have gl := gl_of hbf c3
        conv => whnf
        refine ⟨_, gramsTop_ok b sb hz.1 _ gl.rok, ?_⟩
        conv => whnf
        have hgr := gl.rok
        have hsum := sum_le (B := 120000000) (l := gramsF b (bestR b).1) (fun o ho => by
          have h1 := gramsL_b (ms := b.mats) (r := (bestR b).1) (out := List.replicate b.oxides.length (0, 0)) (B := 0) (fun m hm => (hbf.mat m hm).2.2.2.2.2.2.2.2.2.2.1) hgr.el (by decide) (fun o ho => by rw [List.eq_of_mem_replicate ho]; simp) o ho
          have := hbf.nm
          omega)
        have hhi := gl.high
        have hgl := gramsF_len hbf (bestR b).1
        have hno := hbf.no
        have hgb : ∀ o ∈ gramsF b (bestR b).1, 0 ≤ o.1 := fun o ho => (gramsL_b (ms := b.mats) (r := (bestR b).1) (out := List.replicate b.oxides.length (0, 0)) (B := 0) (fun m hm => (hbf.mat m hm).2.2.2.2.2.2.2.2.2.2.1) hgr.el (by decide) (fun o ho => by rw [List.eq_of_mem_replicate ho]; simp) o ho).1
        have eg : glassF b = ((glassF b).1, lowSum (gramsF b (bestR b).1)) := rfl
        obtain ⟨gs, hgs⟩ : ∃ gs, gramsF b (bestR b).1 = gs := ⟨_, rfl⟩
        obtain ⟨c, hc⟩ : ∃ c, (glassF b).1 = c := ⟨_, rfl⟩
        rw [hgs] at hsum hhi hgb eg hgl ⊢
        rw [hc] at eg ⊢
        refine loopB (fun (x : Int × Int) => ⟨mkT [(4, .row 3 0 n n), (11, .ptr 1 0), (15, .d (batsD l)), (16, .d (int (l.map cellsB).length)), (17, .d (int (k : Int))), (44, .d (pairsD gs)), (45, .d (int (gs.map i2).length)), (46, .d (int x.1))], mkB [(1, .var [.d (int c), .d (int x.2)]), (3, .row 2 els)]⟩)
          (fun x => ∃ j : Nat, x.1 = j ∧ j ≤ gs.length ∧ x.2 + lowSum (gs.drop j) = lowSum gs ∧ 0 ≤ x.2) (fun x => (gs.length - x.1).toNat) (0, 0) (by kernel_rfl) ⟨0, rfl, by omega, by simp, by decide⟩ ?_
        rintro ⟨_, acc⟩ ⟨j, rfl, hj, ha, ha0⟩
        simp only at ha ha0
        conv => whnf
        cases q1 : decide ((j : Int) < ((gs.map i2).length : Int))
        · have hj' : j = gs.length := by have := of_decide_eq_false q1; rw [List.length_map] at this; omega
          rw [hj', drop_end] at ha
          have ha : acc = lowSum gs := by simpa [lowSum] using ha
          subst ha
          conv => whnf
          refine ⟨rfl, rfl, hn, most_le (by simp; omega), ?_⟩
          conv => whnf
          exact ⟨(IntKind.wrap .i64 ((k : Int) + 1), els ++ [i2 (c, lowSum gs)], els.length + 1), by kernel_rfl, ⟨k + 1, nx (by omega), by omega, by rw [he, htk, List.map_append, List.map_append, List.map_cons, eg]; rfl, by simp, hg⟩, by simp only; rw [nx (by omega)]; omega⟩
        · have hj' : j < gs.length := by have := of_decide_eq_true q1; rw [List.length_map] at this; omega
          obtain ⟨o, ho⟩ := get_lt hj'
          have hob := hgb o (List.mem_of_getElem? ho)
          rw [lowSum_at ho] at ha
          have hrest : 0 ≤ lowSum (gs.drop (j + 1)) := (low_nonneg fun x hx => hgb x (List.mem_of_mem_drop hx))
          have ew : IntKind.wrap .i64 (acc + o.1) = acc + o.1 := wr_eq (by omega)
          conv => whnf
          refine ⟨by omega, _, (by first | exact gm (by assumption) | exact gz (by assumption)), ?_⟩
          conv => whnf
          exact ⟨(IntKind.wrap .i64 ((j : Int) + 1), IntKind.wrap .i64 (acc + o.1)), by kernel_rfl, ⟨j + 1, nx (by omega), by omega, by simp only; rw [ew]; omega, by simp only; rw [ew]; omega⟩, by simp only; rw [nx (by omega)]; omega⟩
end Go.Proofs.YtalbkamkkceanaaGreatG
