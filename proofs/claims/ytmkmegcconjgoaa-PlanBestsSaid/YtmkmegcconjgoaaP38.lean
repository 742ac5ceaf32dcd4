/- The specification's check, shifts, plans that keep a season, pulls. No condition. -/
import Derived.Test.YtmkmegcconjgoaaP37
set_option linter.unusedVariables false
set_option linter.unusedSimpArgs false
set_option maxRecDepth 100000
set_option maxHeartbeats 4000000
namespace Go.Proofs.YtmkmegcconjgoaaG
open Go Go.AM Go.Proofs

def allD : List (List D) → D
  | [] => nilD
  | e :: l => .list (e :: l)
theorem All_ok' (s : Season) (h : Fr s) (k : Int) (hk : 0 ≤ k ∧ k < s.ovens.length) : PureFn Try.prog 42 [seasonD s, int k] (planD (shiftsF s k)) := by
  have hsl := shiftsF_len h k
  have g := gath_ok s h k hk (makersF s k) rfl (HM noH) (HM_mono noH) (makersF s k).length [] [] ((shiftsF s k).map rowL) (by simp) (fun a ha => by cases ha) (by rw [shifts_gath]; rfl) (by simpa using hsl)
  have g2 := impFn_args (args := [.d (seasonD s), .d (int k), .d (rowD []), cOf []]) (args' := [.d (seasonD s), .d (int k), .d nilD, .d nilD]) rfl (fun j hj hj' ok w m v hv => match j, hj with
    | 0, _ => hv
    | 1, _ => hv
    | 2, _ => by cases hv with | d hv => exact .d (rel_nil hv)
    | 3, _ => hv) g
  obtain ⟨T, hT⟩ : ∃ T, (shiftsF s k).map rowL = T := ⟨_, rfl⟩
  rw [hT] at g2
  show PureFn Try.prog 42 [seasonD s, int k] (.list ((shiftsF s k).map rowL))
  rw [hT]
  refine pureFn_res (res := allD T) (fun ok w v hv => ?_) ?_
  · cases T with
    | nil => exact rel_nil hv
    | cons e l => exact hv
  refine pureFn_by Try.func42 k42 rfl rfl ?_
  conv => whnf
  refine ⟨⟨mkT [], mkB [(1, .fresh)]⟩, _, by kernel_rfl, g2, ?_⟩
  rintro y b' ⟨rfl, rfl⟩
  cases T with
  | nil =>
    conv => whnf
    kernel_rfl
  | cons e l =>
    conv => whnf
    exact resA_row (s := 1) (esz := 1) (els := e :: l) rfl rfl rfl
theorem check_ok' (s : Season) (hs : Sm s) : PureFn Try.prog 20 [seasonD s] (int (checkE s)) := by
  have hov := hs.ovens
  have fk := frame_ok' s hs
  refine pureFn_by Try.func20 k20 rfl rfl ?_
  obtain ⟨R, hR⟩ : ∃ R, checkE s = R := ⟨_, rfl⟩
  rw [hR]
  unfold checkE at hR
  have hfr := frame_fr hs
  obtain ⟨FE, hFE⟩ : ∃ FE, frameE s = FE := ⟨_, rfl⟩
  rw [hFE] at fk hR hfr
  conv => whnf
  refine ⟨_, fk, ?_⟩
  conv => whnf
  cases c1 : decide (FE = 0)
  · have n1 := of_decide_eq_false c1
    rw [if_pos n1] at hR
    rw [hR]
    conv => whnf
    kernel_rfl
  · have n1 := of_decide_eq_true c1
    have h := hfr n1
    rw [if_neg (fun e => e n1)] at hR
    conv => whnf
    refine loopB (fun (i : Int) => ⟨mkT [(1, .d (.fptr (cellsS s))), (4, .d (int i))], mkB []⟩)
      (fun z => ∃ k : Nat, z = k ∧ k ≤ s.ovens.length ∧ firstE (scopeE s) ((List.range s.ovens.length).drop k) k = R) (fun k => (s.ovens.length - k).toNat) 0 (by kernel_rfl) ⟨0, rfl, by omega, hR⟩ ?_
    rintro _ ⟨k, rfl, hk, hb⟩
    conv => whnf
    cases c2 : decide ((k : Int) < ((s.ovens.map i2).length : Int))
    · have hk' : s.ovens.length ≤ k := by have := of_decide_eq_false c2; rw [List.length_map] at this; omega
      rw [List.drop_of_length_le (by simpa using hk')] at hb
      have hb : 0 = R := hb
      rw [← hb]
      conv => whnf
      kernel_rfl
    · have hk' : k < s.ovens.length := by have := of_decide_eq_true c2; rw [List.length_map] at this; omega
      have st := firstE_step (show (List.range s.ovens.length)[k]? = some k by simp [hk']) hb
      have ak := All_ok' s h (k : Int) ⟨by omega, by omega⟩
      have hsl := shiftsF_len h (k : Int)
      have es : scopeE s k k = if 3000 < (shiftsF s (k : Int)).length * (shiftsF s (k : Int)).length then 9 else 0 := rfl
      obtain ⟨L, hL⟩ : ∃ L, shiftsF s (k : Int) = L := ⟨_, rfl⟩
      rw [hL] at ak hsl es
      have hsq : L.length * L.length ≤ 531441 * 531441 := Nat.mul_le_mul hsl hsl
      have ew : IntKind.wrap .i64 (((L.map rowL).length : Int) * ((L.map rowL).length : Int)) = ((L.length * L.length : Nat) : Int) := by rw [List.length_map, ← Int.natCast_mul]; exact wr_eq (by omega)
      conv => whnf
      refine ⟨_, ak, ?_⟩
      conv => whnf
      rw [ew]
      cases c3 : decide (3000 < ((L.length * L.length : Nat) : Int))
      · have n3 : ¬ 3000 < L.length * L.length := by have := of_decide_eq_false c3; omega
        rw [if_neg n3] at es
        conv => whnf
        exact ⟨IntKind.wrap .i64 ((k : Int) + 1), by kernel_rfl, ⟨k + 1, nx (by omega), by omega, st.1 es⟩, by rw [nx (by omega)]; omega⟩
      · have n3 : 3000 < L.length * L.length := by have := of_decide_eq_true c3; omega
        rw [if_pos n3] at es
        rw [es] at st
        have := st.2 (by decide)
        rw [this]
        conv => whnf
        kernel_rfl
theorem Shifts_ok' (s : Season) (hs : Sm s) (k : Int) : PureFn Try.prog 16 [seasonD s, int k] (.tup [if shiftsE s k = 0 then planD (shiftsF s k) else nilD, int (shiftsE s k)]) := by
  have hov := hs.ovens
  have ck := check_ok' s hs
  obtain ⟨E, hE⟩ : ∃ E, shiftsE s k = E := ⟨_, rfl⟩
  rw [hE]
  unfold shiftsE at hE
  have ew : IntKind.wrap .i64 (((s.ovens.map i2).length : Int) - 1) = (s.ovens.length : Int) - 1 := by rw [List.length_map, wr_eq (by omega)]
  by_cases h0 : checkE s = 0
  · have h := fr_of hs h0
    rw [if_neg (fun e => e h0)] at hE
    rw [h0] at ck
    cases c1 : withinF k 0 ((s.ovens.length : Int) - 1)
    · rw [c1, if_pos rfl] at hE
      subst hE
      have wk := within_ok' k 0 ((s.ovens.length : Int) - 1)
      rw [c1] at wk
      rw [if_neg (by decide)]
      refine pureFn_by Try.func16 k16 rfl rfl ?_
      conv => whnf
      refine ⟨_, ck, ?_⟩
      conv => whnf
      rw [ew]
      refine ⟨_, wk, ?_⟩
      conv => whnf
      kernel_rfl
    · rw [c1, if_neg (by decide)] at hE
      subst hE
      have hk := within_iff.1 c1
      have wk := within_ok' k 0 ((s.ovens.length : Int) - 1)
      rw [c1] at wk
      rw [if_pos rfl]
      refine pureFn_by Try.func16 k16 rfl rfl ?_
      conv => whnf
      refine ⟨_, ck, ?_⟩
      conv => whnf
      rw [ew]
      refine ⟨_, wk, ?_⟩
      conv => whnf
      refine ⟨_, All_ok' s h k (by omega), ?_⟩
      conv => whnf
      kernel_rfl
  · rw [if_pos h0] at hE
    rw [hE] at ck h0
    rw [if_neg h0]
    refine pureFn_by Try.func16 k16 rfl rfl ?_
    conv => whnf
    refine ⟨_, ck, ?_⟩
    conv => whnf
    rw [decide_eq_false h0]
    conv => whnf
    kernel_rfl
theorem planned_all {s : Season} {p : List (List Int)} (hl : (p.length : Int) = s.makers.length) : planE s p = if p.all (planRow s) = true then 0 else 1 := by unfold planE; rw [if_pos hl]
def plannedE (s : Season) (p : List (List Int)) : Int := if checkE s ≠ 0 then checkE s else planE s p
theorem planned_ok' (s : Season) (hs : Sm s) (p : List (List Int)) (hp : SmP p) : PureFn Try.prog 45 [seasonD s, planD p] (int (plannedE s p)) := by
  have har := hs.arts
  have hmk := hs.makers
  have ck := check_ok' s hs
  have hp1 := hp.1
  obtain ⟨R, hR⟩ : ∃ R, plannedE s p = R := ⟨_, rfl⟩
  rw [hR]
  unfold plannedE at hR
  by_cases h0 : checkE s = 0
  · have h := fr_of hs h0
    have hdy := h.days
    rw [if_neg (fun e => e h0)] at hR
    rw [h0] at ck
    refine pureFn_by Try.func45 k45 rfl rfl ?_
    conv => whnf
    refine ⟨_, ck, ?_⟩
    conv => whnf
    rw [List.length_map, List.length_map]
    cases c1 : decide ((p.length : Int) = (s.makers.length : Int))
    · have n1 := of_decide_eq_false c1
      unfold planE at hR
      rw [if_neg n1] at hR
      rw [← hR]
      conv => whnf
      kernel_rfl
    · have n1 := of_decide_eq_true c1
      rw [planned_all n1] at hR
      obtain ⟨A, hA⟩ : ∃ A, p.all (planRow s) = A := ⟨_, rfl⟩
      rw [hA] at hR
      conv => whnf
      refine loopB (fun (i : Int) => ⟨mkT [(1, .d (planD p)), (2, .d (.fptr (cellsS s))), (6, .d (int i))], mkB []⟩)
        (fun z => ∃ k : Nat, z = k ∧ k ≤ p.length ∧ (p.drop k).all (planRow s) = A) (fun k => (p.length - k).toNat) 0 (by kernel_rfl) ⟨0, rfl, by omega, hA⟩ ?_
      rintro _ ⟨k, rfl, hk, hb⟩
      conv => whnf
      cases c2 : decide ((k : Int) < ((p.map rowL).length : Int))
      · have hk' : k = p.length := by have := of_decide_eq_false c2; rw [List.length_map] at this; omega
        rw [hk', drop_end] at hb
        have hb : true = A := hb
        rw [← hb, if_pos rfl] at hR
        rw [← hR]
        conv => whnf
        kernel_rfl
      · have hk' : k < p.length := by have := of_decide_eq_true c2; rw [List.length_map] at this; omega
        obtain ⟨r, hr⟩ := get_lt hk'
        rw [all_at hr] at hb
        have bad : planRow s r = false → R = 1 := fun e => by
          rw [e] at hb
          have hb : false = A := hb
          rw [← hb, if_neg (by decide)] at hR
          exact hR.symm
        conv => whnf
        refine ⟨by omega, _, (by first | exact gm (by assumption) | exact gz (by assumption)), ?_⟩
        conv => whnf
        rw [List.length_map]
        cases c3 : decide ((r.length : Int) = s.days)
        · rw [bad (by unfold planRow; rw [c3]; rfl)]
          conv => whnf
          kernel_rfl
        · have n3 := of_decide_eq_true c3
          obtain ⟨T, hT⟩ : ∃ T, (r.any fun a => !withinF a (-1) ((s.arts.length : Int) - 1)) = T := ⟨_, rfl⟩
          have epr : planRow s r = !T := by unfold planRow; rw [c3, hT]; rfl
          have ew : IntKind.wrap .i64 (((s.arts.map artL).length : Int) - 1) = (s.arts.length : Int) - 1 := by rw [List.length_map, wr_eq (by omega)]
          conv => whnf
          refine loopB (fun (i : Int) => ⟨mkT [(1, .d (planD p)), (2, .d (.fptr (cellsS s))), (6, .d (int (k : Int))), (7, .d (int i))], mkB []⟩)
            (fun z => ∃ k : Nat, z = k ∧ k ≤ r.length ∧ ((r.drop k).any fun a => !withinF a (-1) ((s.arts.length : Int) - 1)) = T) (fun k => (r.length - k).toNat) 0 (by kernel_rfl) ⟨0, rfl, by omega, hT⟩ ?_
          rintro _ ⟨j, rfl, hj, hb2⟩
          conv => whnf
          cases c4 : decide ((j : Int) < s.days)
          · have hj' : j = r.length := by have := of_decide_eq_false c4; omega
            rw [hj', drop_end] at hb2
            have hb2 : false = T := hb2
            rw [epr, ← hb2] at hb
            conv => whnf
            exact ⟨IntKind.wrap .i64 ((k : Int) + 1), by kernel_rfl, ⟨k + 1, nx (by omega), by omega, hb⟩, by rw [nx (by omega)]; omega⟩
          · have hj' : j < r.length := by have := of_decide_eq_true c4; omega
            obtain ⟨a, ha⟩ := get_lt hj'
            rw [all_split ha] at hb2
            conv => whnf
            refine ⟨by omega, _, (by first | exact gm (by assumption) | exact gz (by assumption)), ?_⟩
            conv => whnf
            refine ⟨by omega, _, (by first | exact gm (by assumption) | exact gz (by assumption)), ?_⟩
            conv => whnf
            rw [ew]
            refine ⟨_, within_ok' _ _ _, ?_⟩
            cases c5 : withinF a (-1) ((s.arts.length : Int) - 1)
            · rw [c5] at hb2
              have hb2 : true = T := hb2
              rw [bad (by rw [epr, ← hb2]; rfl)]
              conv => whnf
              kernel_rfl
            · rw [c5] at hb2
              conv => whnf
              exact ⟨IntKind.wrap .i64 ((j : Int) + 1), by kernel_rfl, ⟨j + 1, nx (by omega), by omega, hb2⟩, by rw [nx (by omega)]; omega⟩
  · rw [if_pos h0] at hR
    rw [hR] at ck h0
    refine pureFn_by Try.func45 k45 rfl rfl ?_
    conv => whnf
    refine ⟨_, ck, ?_⟩
    conv => whnf
    rw [decide_eq_false h0]
    conv => whnf
    kernel_rfl
theorem shift_ok' (s : Season) (h : Fr s) (p : List (List Int)) (hp : POk s p) (k : Int) (d : Int) (hd : d < s.days) :
    PureFn Try.prog 59 [seasonD s, planD p, int k, int d] (rowD (onF s p (makersF s k) d)) := by
  have mk := makers_ok' s h.sm k
  have hml := Nat.le_trans (makersF_len s k) h.nm
  obtain ⟨ms, hms⟩ : ∃ ms, makersF s k = ms := ⟨_, rfl⟩
  have hmm : ∀ m ∈ ms, 0 ≤ m ∧ m < s.makers.length := fun m hm => makersF_mem (hms ▸ hm)
  rw [hms] at mk hml ⊢
  refine pureFn_by Try.func59 k59 rfl rfl ?_
  conv => whnf
  refine ⟨_, mk, ?_⟩
  conv => whnf
  refine loopB (fun (x : Int × List (List D) × Nat) => ⟨mkT [(1, .d (planD p)), (3, .d (int d)), (4, .d (.fptr (cellsS s))), (9, .row 1 0 x.2.2 x.2.2), (10, .d (rowD ms)), (11, .d (int x.1))], mkB [(1, .row 1 x.2.1)]⟩)
    (fun x => ∃ i : Nat, x.1 = i ∧ i ≤ ms.length ∧ x.2.1 = (onF s p (ms.take i) d).map i1 ∧ x.2.2 = x.2.1.length) (fun x => (ms.length - x.1).toNat) (0, [], 0) (by kernel_rfl) ⟨0, rfl, by omega, rfl, rfl⟩ ?_
  rintro ⟨_, els, n⟩ ⟨i, rfl, hi, he, hn⟩
  simp only at he hn
  conv => whnf
  rw [List.length_map]
  cases c1 : decide ((i : Int) < (ms.length : Int))
  · have hi' : i = ms.length := by have := of_decide_eq_false c1; omega
    rw [hi', List.take_length] at he
    conv => whnf
    show _ = some (D.list ((onF s p ms d).map i1))
    rw [← he]
    exact resA_row (s := 1) (esz := 1) (els := els) rfl rfl hn
  · have hi' : i < ms.length := by have := of_decide_eq_true c1; omega
    obtain ⟨m, hm⟩ := get_lt hi'
    have hmr := hmm m (List.mem_of_getElem? hm)
    have hel : els.length = i := by rw [he]; simp [onF]; omega
    have htk : ms.take (i + 1) = ms.take i ++ [m] := by rw [List.take_add_one, hm]; rfl
    conv => whnf
    cases c2 : decide (d < 0)
    · have hd0 := of_decide_eq_false c2
      obtain ⟨r, a, hr, hra, ec, ea⟩ := cell_get hp (m := m) (d := d) hmr (by omega)
      have eo : onA s p d m = a := by unfold onA; rw [if_neg hd0, ec]
      conv => whnf
      refine ⟨by omega, _, (by first | exact gm (by assumption) | exact gz (by assumption)), ?_⟩
      conv => whnf
      refine ⟨by omega, _, (by first | exact gm (by assumption) | exact gz (by assumption)), ?_⟩
      conv => whnf
      refine ⟨by omega, _, (by first | exact gm (by assumption) | exact gz (by assumption)), ?_⟩
      conv => whnf
      refine ⟨rfl, rfl, hn, most_le (by simp; omega), ?_⟩
      conv => whnf
      exact ⟨(IntKind.wrap .i64 ((i : Int) + 1), els ++ [[int a]], els.length + 1), by kernel_rfl, ⟨i + 1, nx (by omega), by omega, by rw [he, htk]; simp [onF, eo], by simp⟩, by simp only; rw [nx (by omega)]; omega⟩
    · have hd0 := of_decide_eq_true c2
      obtain ⟨M, hM, es, ea⟩ := start_get h hmr
      have eo : onA s p d m = M.start := by unfold onA; rw [if_pos hd0, es]
      conv => whnf
      refine ⟨by omega, _, (by first | exact gm (by assumption) | exact gz (by assumption)), ?_⟩
      conv => whnf
      refine ⟨by omega, _, (by first | exact gm (by assumption) | exact gz (by assumption)), ?_⟩
      conv => whnf
      refine ⟨rfl, rfl, hn, most_le (by simp; omega), ?_⟩
      conv => whnf
      exact ⟨(IntKind.wrap .i64 ((i : Int) + 1), els ++ [[int M.start]], els.length + 1), by kernel_rfl, ⟨i + 1, nx (by omega), by omega, by rw [he, htk]; simp [onF, eo], by simp⟩, by simp only; rw [nx (by omega)]; omega⟩
theorem keeps_ok' (s : Season) (h : Fr s) (p : List (List Int)) (hp : POk s p) : PureFn Try.prog 46 [seasonD s, planD p] (boolD (keepsF s p)) := by
  have hno := h.no
  have hdy := h.days
  refine pureFn_by Try.func46 k46 rfl rfl ?_
  obtain ⟨R, hR⟩ : ∃ R, keepsF s p = R := ⟨_, rfl⟩
  rw [hR]
  unfold keepsF at hR
  conv => whnf
  refine loopB (fun (i : Int) => ⟨mkT [(1, .d (planD p)), (2, .d (.fptr (cellsS s))), (5, .d (int i))], mkB []⟩)
    (fun z => ∃ k : Nat, z = k ∧ k ≤ s.ovens.length ∧ ((List.range s.ovens.length).drop k).all (keepK s p) = R) (fun k => (s.ovens.length - k).toNat) 0 (by kernel_rfl) ⟨0, rfl, by omega, hR⟩ ?_
  rintro _ ⟨k, rfl, hk, hb⟩
  conv => whnf
  cases c1 : decide ((k : Int) < ((s.ovens.map i2).length : Int))
  · have hk' : s.ovens.length ≤ k := by have := of_decide_eq_false c1; rw [List.length_map] at this; omega
    rw [List.drop_of_length_le (by simpa using hk')] at hb
    have hb : true = R := hb
    rw [← hb]
    conv => whnf
    kernel_rfl
  · have hk' : k < s.ovens.length := by have := of_decide_eq_true c1; rw [List.length_map] at this; omega
    rw [all_at (show (List.range s.ovens.length)[k]? = some k by simp [hk'])] at hb
    obtain ⟨A, hA⟩ : ∃ A, keepK s p k = A := ⟨_, rfl⟩
    rw [hA] at hb
    unfold keepK at hA
    conv => whnf
    refine loopB (fun (i : Int) => ⟨mkT [(1, .d (planD p)), (2, .d (.fptr (cellsS s))), (5, .d (int (k : Int))), (6, .d (int i))], mkB []⟩)
      (fun z => ∃ d : Nat, z = d ∧ (d : Int) ≤ s.days ∧ ((List.range s.days.toNat).drop d).all (fitD s p (k : Int)) = A) (fun d => (s.days - d).toNat) 0 (by kernel_rfl) ⟨0, rfl, by omega, hA⟩ ?_
    rintro _ ⟨d, rfl, hd, hb2⟩
    conv => whnf
    cases c2 : decide ((d : Int) < s.days)
    · have hd' : s.days.toNat ≤ d := by have := of_decide_eq_false c2; omega
      rw [List.drop_of_length_le (by simpa using hd')] at hb2
      have hb2 : true = A := hb2
      rw [← hb2] at hb
      conv => whnf
      exact ⟨IntKind.wrap .i64 ((k : Int) + 1), by kernel_rfl, ⟨k + 1, nx (by omega), by omega, hb⟩, by rw [nx (by omega)]; omega⟩
    · have hd' := of_decide_eq_true c2
      rw [all_at (show (List.range s.days.toNat)[d]? = some d by simp [show d < s.days.toNat by omega])] at hb2
      have sk := shift_ok' s h p hp (k : Int) (d : Int) hd'
      have hmm : ∀ m ∈ makersF s (k : Int), 0 ≤ m ∧ m < s.makers.length := fun m hm => makersF_mem hm
      have hml := Nat.le_trans (makersF_len s (k : Int)) h.nm
      have r2 := onF_row h hp hmm (by omega) hd'
      have mk := may_ok s h (k : Int) ⟨by omega, by omega⟩ (makersF s (k : Int)) (onF s p (makersF s (k : Int)) (d : Int)) rfl r2
      rw [show fitsF s (k : Int) (makersF s (k : Int)) (onF s p (makersF s (k : Int)) (d : Int)) = fitD s p (k : Int) d from rfl] at mk
      conv => whnf
      refine ⟨_, sk, ?_⟩
      conv => whnf
      refine ⟨_, mk, ?_⟩
      cases c3 : fitD s p (k : Int) d
      · rw [c3] at hb2
        have hb2 : false = A := hb2
        rw [← hb2] at hb
        have hb : false = R := hb
        rw [← hb]
        conv => whnf
        kernel_rfl
      · rw [c3] at hb2
        conv => whnf
        exact ⟨IntKind.wrap .i64 ((d : Int) + 1), by kernel_rfl, ⟨d + 1, nx (by omega), by omega, hb2⟩, by rw [nx (by omega)]; omega⟩
theorem keepsR_eq (s : Season) (p : List (List Int)) : keepsR s p = if plannedE s p = 0 then (keepsF s p, 0) else (false, plannedE s p) := by
  unfold keepsR plannedE
  by_cases h : checkE s = 0 <;> by_cases h2 : planE s p = 0 <;> simp [h, h2]
theorem planned_zero {s : Season} (hs : Sm s) {p : List (List Int)} (h : plannedE s p = 0) : Fr s ∧ POk s p := by
  unfold plannedE at h
  split at h
  · rename_i h1; exact absurd h h1
  · rename_i h1; exact ⟨fr_of hs (Decidable.not_not.1 h1), pok_of h⟩
theorem Keeps_ok' (s : Season) (hs : Sm s) (p : List (List Int)) (hp : SmP p) : PureFn Try.prog 18 [seasonD s, planD p] (.tup [boolD (keepsR s p).1, int (keepsR s p).2]) := by
  have pk := planned_ok' s hs p hp
  have hz := @planned_zero s hs p
  rw [keepsR_eq]
  obtain ⟨E, hE⟩ : ∃ E, plannedE s p = E := ⟨_, rfl⟩
  rw [hE] at pk hz ⊢
  by_cases h0 : E = 0
  · obtain ⟨h, po⟩ := hz h0
    rw [if_pos h0]
    subst h0
    refine pureFn_by Try.func18 k18 rfl rfl ?_
    conv => whnf
    refine ⟨_, pk, ?_⟩
    conv => whnf
    refine ⟨_, keeps_ok' s h p po, ?_⟩
    conv => whnf
    kernel_rfl
  · rw [if_neg h0]
    refine pureFn_by Try.func18 k18 rfl rfl ?_
    conv => whnf
    refine ⟨_, pk, ?_⟩
    conv => whnf
    rw [decide_eq_false h0]
    conv => whnf
    kernel_rfl
theorem kept_ok' (s : Season) (hs : Sm s) (p : List (List Int)) (hp : SmP p) : PureFn Try.prog 56 [seasonD s, planD p] (int (keptE s p)) := by
  have pk := planned_ok' s hs p hp
  have hz := @planned_zero s hs p
  unfold keptE
  rw [keepsR_eq]
  obtain ⟨E, hE⟩ : ∃ E, plannedE s p = E := ⟨_, rfl⟩
  rw [hE] at pk hz ⊢
  by_cases h0 : E = 0
  · obtain ⟨h, po⟩ := hz h0
    have kk := keeps_ok' s h p po
    rw [if_pos h0]
    subst h0
    cases hk : keepsF s p
    · rw [hk] at kk
      refine pureFn_by Try.func56 k56 rfl rfl ?_
      conv => whnf
      refine ⟨_, pk, ?_⟩
      conv => whnf
      refine ⟨_, kk, ?_⟩
      conv => whnf
      kernel_rfl
    · rw [hk] at kk
      refine pureFn_by Try.func56 k56 rfl rfl ?_
      conv => whnf
      refine ⟨_, pk, ?_⟩
      conv => whnf
      refine ⟨_, kk, ?_⟩
      conv => whnf
      kernel_rfl
  · rw [if_neg h0, if_neg (show ¬ (false, E).2 = 0 from h0)]
    refine pureFn_by Try.func56 k56 rfl rfl ?_
    conv => whnf
    refine ⟨_, pk, ?_⟩
    conv => whnf
    rw [decide_eq_false h0]
    conv => whnf
    kernel_rfl
theorem sameLists_ok (a b : List (List Int)) (hl : a.length < 1000000000) (hr : ∀ r ∈ a, r.length < 1000000000) : PureFn Try.prog 21 [planD a, planD b] (boolD (decide (a = b))) := by
  refine pureFn_by Try.func21 k21 rfl rfl ?_
  obtain ⟨R, hR⟩ : ∃ R, decide (a = b) = R := ⟨_, rfl⟩
  rw [hR]
  conv => whnf
  cases c1 : decide (((a.map rowL).length : Int) = ((b.map rowL).length : Int))
  · have h1 : a ≠ b := fun e => by subst e; simp at c1
    rw [← hR, decide_eq_false h1]
    conv => whnf
    kernel_rfl
  · have h1 : a.length = b.length := by have := of_decide_eq_true c1; rw [List.length_map, List.length_map] at this; omega
    conv => whnf
    refine loopB (fun (i : Int) => ⟨mkT [(0, .d (planD a)), (1, .d (planD b)), (5, .d (int i))], mkB []⟩)
      (fun i => ∃ k : Nat, i = k ∧ k ≤ a.length ∧ decide (a.drop k = b.drop k) = R) (fun i => (a.length - i).toNat) 0 (by kernel_rfl) ⟨0, rfl, by omega, hR⟩ ?_
    rintro _ ⟨i, rfl, hi, hb⟩
    conv => whnf
    cases c2 : decide ((i : Int) < ((a.map rowL).length : Int))
    · have hi' : i = a.length := by have := of_decide_eq_false c2; rw [List.length_map] at this; omega
      rw [hi', drop_end, h1, drop_end] at hb
      rw [← hb]
      conv => whnf
      kernel_rfl
    · have hi' : i < a.length := by have := of_decide_eq_true c2; rw [List.length_map] at this; omega
      obtain ⟨x, hx⟩ := get_lt hi'
      obtain ⟨y, hy⟩ := get_lt (xs := b) (i := i) (by omega)
      rw [drop_at hx, drop_at hy] at hb
      conv => whnf
      refine ⟨by omega, _, (by first | exact gm (by assumption) | exact gz (by assumption)), ?_⟩
      conv => whnf
      refine ⟨by omega, _, (by first | exact gm (by assumption) | exact gz (by assumption)), ?_⟩
      conv => whnf
      refine ⟨_, sameInts_ok x y (hr x (List.mem_of_getElem? hx)), ?_⟩
      cases c3 : decide (x = y)
      · have h3 := of_decide_eq_false c3
        have hb : false = R := by rw [← hb]; exact (decide_eq_false (fun e => h3 (by simpa using (List.cons.inj e).1))).symm
        rw [← hb]
        conv => whnf
        kernel_rfl
      · have h3 := of_decide_eq_true c3
        subst h3
        have hb : decide (a.drop (i + 1) = b.drop (i + 1)) = R := by rw [← hb]; simp
        conv => whnf
        exact ⟨IntKind.wrap .i64 ((i : Int) + 1), by kernel_rfl, ⟨i + 1, nx (by omega), by omega, hb⟩, by rw [nx (by omega)]; omega⟩
end Go.Proofs.YtmkmegcconjgoaaG
