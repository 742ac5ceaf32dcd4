/- The specification's best plan. No condition. -/
import Derived.Test.YtmkmegcconjgoaaQ6
set_option linter.unusedVariables false
set_option linter.unusedSimpArgs false
set_option maxRecDepth 100000
set_option maxHeartbeats 4000000
namespace Go.Proofs.YtmkmegcconjgoaaG
open Go Go.AM Go.Proofs

/-- The best one of all plans. -/
def bestP (s : Season) : Option Plan := (leafs s s.days.toNat (List.range s.ovens.length) (List.replicate s.makers.length [])).foldl (updF s) none
def noneF (s : Season) : Bool := (allsF s).any fun x => decide (x.length = 0)
def topP (s : Season) : Option Plan → D
  | none => .tup [nilD, int 0, boolD false, int 0]
  | some p => .tup [planD p, int (costF s p), boolD true, int 0]
def bestPlan (s : Season) : D :=
  if checkE s ≠ 0 then .tup [nilD, int 0, boolD false, int (checkE s)]
  else if noneF s = true then .tup [nilD, int 0, boolD false, int 0]
  else if fewF s (allsF s) = false then .tup [nilD, int 0, boolD false, int 9]
  else topP s (bestP s)
theorem each_zero : ∀ {l : List (List (List Int))} {n : Int}, (l.any fun x => decide (x.length = 0)) = true → eachL l n = 0 ∨ eachL l n = 0
  | [], n, h => by simp at h
  | x :: l, n, h => by
    simp only [List.any_cons, Bool.or_eq_true, decide_eq_true_eq] at h
    simp only [eachL]
    rcases h with h | h
    · rw [h]
      have key : ∀ l : List (List (List Int)), eachL l 0 = 0 := fun l => by
        induction l with
        | nil => rfl
        | cons y l ih => simp only [eachL, Int.zero_mul]; exact ih
      left
      simpa using key l
    · exact each_zero h
theorem plansN_zero : ∀ {d : Nat} {n : Int}, n ≤ 200000 → plansN d 0 n ≤ 200000
  | 0, n, h => h
  | d + 1, n, h => by
    simp only [plansN, if_pos h, Int.mul_zero]
    exact plansN_zero (by decide)
theorem none_few {s : Season} (h : noneF s = true) : plansN s.days.toNat (eachL (allsF s) 1) 1 ≤ 200000 := by
  have := each_zero (n := 1) h
  rw [show eachL (allsF s) 1 = 0 by omega]
  exact plansN_zero (by decide)
theorem rel_blank {ok : Nat → Prop} {w : World} {v : Value} {n : Nat} (h : RelD ok w (.list (List.replicate n [nilD])) v) : RelD ok w (planD (List.replicate n [])) v := by
  have e : (List.replicate n ([] : List Int)).map rowL = List.replicate n [.list []] := by simp [rowL, rowD]
  rw [planD, e]
  generalize hx : D.list (List.replicate n [nilD]) = x at h
  cases h with
  | v x => cases hx
  | empty a cap =>
    cases n with
    | zero => exact .empty a cap
    | succ n => simp [List.replicate_succ] at hx
  | list xs B off cap esz f hok hB hcap hsz hc h1 hr =>
    injection hx with hx
    subst hx
    have := RelD.list (ok := ok) (w := w) (List.replicate n [D.list []]) B off cap esz f hok hB (by simpa using hcap) (fun i hi => by have := hsz i (by simpa using hi); simpa using this)
      (fun i j hi hj => hc i j (by simpa using hi) hj) (fun i j hi hj => h1 i j (by simpa using hi) hj) (fun i j hi hj => by
        have hi' : i < n := by simpa using hi
        have hj' : j = 0 := by simp at hj; exact hj
        subst hj'
        have := hr i 0 (by simpa using hi) (by simp)
        simp only [List.getElem_replicate] at this ⊢
        exact rel_nil this)
    simpa using this
  | fptr => cases hx
  | clo => cases hx
  | agg => cases hx
  | tup => cases hx
theorem searchTop_ok (s : Season) (h : Fr s) (h3 : s.makers.length ≤ 3) : PureFn Try.prog 72 [seasonD s, allsD (allsF s), int 0, int 0, .list (List.replicate s.makers.length [nilD]), nilD] (bestD (bestP s)) := by
  have hd := h.days
  have hs := search_ok s h h3 s.days.toNat (by omega) s.ovens.length 0 (by omega) (fun _ => rfl) (List.replicate s.makers.length []) none (pre_first h) (fun q hq => by cases hq) (fun _ => rfl)
  rw [show s.days - ((s.days.toNat : Nat) : Int) = 0 by omega] at hs
  simp only [List.drop_zero] at hs
  refine pureFn_args (args := [seasonD s, allsD (allsF s), int ((0 : Nat) : Int), int 0, planD (List.replicate s.makers.length []), bestD none]) (args' := [seasonD s, allsD (allsF s), int 0, int 0, .list (List.replicate s.makers.length [nilD]), nilD]) rfl (fun j hj hj' ok w v hv => ?_) hs
  match j, hj with
  | 0, _ => exact hv
  | 1, _ => exact hv
  | 2, _ => exact hv
  | 3, _ => exact hv
  | 4, _ => exact rel_blank hv
  | 5, _ => exact hv
theorem bestP_ok {s : Season} (h : Fr s) : ∀ q, bestP s = some q → POk s q := by
  have hd := h.days
  refine fold_ok (fun q hq => by cases hq) (fun p hp => ?_)
  exact leafs_pok h (o := 0) (n := s.days.toNat) (Nat.zero_le _) (fun _ => rfl) (pre_first h) p (by simpa using hp)
theorem upd_some {s : Season} {b : Option Plan} {p : Plan} : ∃ q, updF s b p = some q := by
  cases b with
  | none => exact ⟨p, rfl⟩
  | some r => simp only [updF]; split; exact ⟨_, rfl⟩; split <;> exact ⟨_, rfl⟩
theorem fold_some {s : Season} : ∀ {l : List Plan} {q : Plan}, ∃ r, l.foldl (updF s) (some q) = some r
  | [], q => ⟨q, rfl⟩
  | p :: l, q => by
    obtain ⟨r, hr⟩ := upd_some (s := s) (b := some q) (p := p)
    simp only [List.foldl_cons, hr]
    exact fold_some
theorem fold_some' {s : Season} {l : List Plan} (h : l ≠ []) : ∃ r, l.foldl (updF s) none = some r := by
  cases l with
  | nil => exact absurd rfl h
  | cons p l => exact fold_some (q := p)
theorem leavesO_ne {s : Season} (hn : noneF s = false) : ∀ {rem : List Nat} {p : Plan}, (∀ k ∈ rem, k < s.ovens.length) → leavesO s rem p ≠ []
  | [], p, _ => by simp [leavesO]
  | k :: rem, p, h => by
    unfold noneF at hn
    rw [List.any_eq_false] at hn
    have h1 := hn _ (List.mem_of_getElem? (alls_get (h k (by simp))))
    simp only [decide_eq_true_eq] at h1
    simp only [leavesO]
    cases e : shiftsF s (k : Int) with
    | nil => rw [e] at h1; simp at h1
    | cons row l =>
      intro h2
      rw [List.flatMap_cons, List.append_eq_nil_iff] at h2
      exact leavesO_ne (s := s) (by unfold noneF; rw [List.any_eq_false]; exact hn) (fun x hx => h x (by simp [hx])) h2.1
theorem leafs_ne {s : Season} (hn : noneF s = false) : ∀ {n : Nat} {p : Plan}, leafs s n (List.range s.ovens.length) p ≠ []
  | 0, p => by simp [leafs]
  | n + 1, p => by
    simp only [leafs]
    have h1 := leavesO_ne hn (p := p) (rem := List.range s.ovens.length) (fun k hk => by simpa using hk)
    cases e : leavesO s (List.range s.ovens.length) p with
    | nil => exact absurd e h1
    | cons q l =>
      intro h2
      rw [List.flatMap_cons, List.append_eq_nil_iff] at h2
      exact leafs_ne hn h2.1
theorem check_fr {s : Season} (hs : Sm s) (h : checkE s = 0) : Fr s := by
  refine frame_fr hs ?_
  unfold checkE at h
  split at h
  · rename_i h1; exact absurd h h1
  · rename_i h1; omega
theorem bestR_ok (s : Season) (hs : Sm s) (h3 : s.makers.length ≤ 3 ∨ 6 < s.makers.length) : PureFn Try.prog 32 [seasonD s] (bestPlan s) := by
  have ck := check_ok' s hs
  unfold bestPlan
  by_cases hE : checkE s = 0
  · rw [if_neg (by omega)]
    have h : Fr s := check_fr hs hE
    have hnm := h.nm
    have h3 : s.makers.length ≤ 3 := by omega
    have hno := h.no
    have pl := plans_ok s h h3
    have st := searchTop_ok s h h3
    have hff : fewF s (allsF s) = decide (plansN s.days.toNat (eachL (allsF s) 1) 1 ≤ 200000) := rfl
    have hnf := @none_few s
    have hp := bestP_ok h
    have hsm : noneF s = false → ∃ r, bestP s = some r := fun hn => fold_some' (leafs_ne hn)
    obtain ⟨N, hN⟩ : ∃ N, plansN s.days.toNat (eachL (allsF s) 1) 1 = N := ⟨_, rfl⟩
    rw [hN] at pl hff hnf
    rw [hff]
    rw [hE] at ck
    cases c1 : decide (200000 < N)
    · have h1 : N ≤ 200000 := by have := of_decide_eq_false c1; omega
      rw [show decide (N ≤ 200000) = true from decide_eq_true h1]
      obtain ⟨R, hR⟩ : ∃ R, (if noneF s = true then D.tup [nilD, int 0, boolD false, int 0] else if true = false then D.tup [nilD, int 0, boolD false, int 9] else topP s (bestP s)) = R := ⟨_, rfl⟩
      rw [hR]
      have hal : (allsF s).length = s.ovens.length := by simp [allsF]
      refine pureFn_by Try.func32 k32 rfl rfl ?_
      conv => whnf
      refine ⟨_, ck, ?_⟩
      conv => whnf
      refine ⟨_, pl, ?_⟩
      conv => whnf
      rw [c1]
      conv => whnf
      refine loopB (fun (x : Int × List (List D) × Nat) => ⟨mkT [(1, .d (.fptr (cellsS s))), (7, .row 1 0 x.2.2 x.2.2), (8, .d (int x.1))], mkB [(1, .row 1 x.2.1)]⟩)
        (fun x => ∃ k : Nat, x.1 = k ∧ k ≤ s.ovens.length ∧ x.2.1 = ((allsF s).take k).map plansL ∧ x.2.2 = x.2.1.length ∧ ((allsF s).drop k).any (fun x => decide (x.length = 0)) = noneF s) (fun x => (s.ovens.length - x.1).toNat) (0, [], 0) (by kernel_rfl) ⟨0, rfl, by omega, rfl, rfl, rfl⟩ ?_
      rintro ⟨_, els, n⟩ ⟨k, rfl, hk, he, hn, hany⟩
      simp only at he hn hany
      conv => whnf
      cases q1 : decide ((k : Int) < ((s.ovens.map i2).length : Int))
      · have hk' : k = s.ovens.length := by have := of_decide_eq_false q1; rw [List.length_map] at this; omega
        rw [hk', ← hal, drop_end] at hany
        have hany : false = noneF s := hany
        rw [hk', ← hal, List.take_length] at he
        obtain ⟨p, hbp⟩ := hsm hany.symm
        have po := hp p hbp
        have cp := cost_ok' s h h3 p po
        rw [← hany, hbp, if_neg (by simp), if_neg (by simp)] at hR
        rw [hbp] at st
        subst he
        rw [← hR]
        conv => whnf
        refine ⟨rfl, ?_⟩
        conv => whnf
        refine ⟨hn, ?_⟩
        conv => whnf
        refine ⟨by omega, by rw [List.length_map]; unfold most; omega, ?_⟩
        have st2 : PureFn Try.prog 72 [seasonD s, allsD (allsF s), int 0, int 0, .list (List.replicate ((s.makers.map mkL).length : Int).toNat [nilD]), nilD] (bestD (some p)) := by
          rw [List.length_map, Int.toNat_natCast]; exact st
        conv => whnf
        refine ⟨_, st2, ?_⟩
        conv => whnf
        refine ⟨_, cp, ?_⟩
        conv => whnf
        kernel_rfl
      · have hk' : k < s.ovens.length := by have := of_decide_eq_true q1; rw [List.length_map] at this; omega
        have hel : els.length = k := by rw [he]; simp; omega
        have hx := alls_get hk'
        have htk : (allsF s).take (k + 1) = (allsF s).take k ++ [shiftsF s (k : Int)] := by rw [List.take_add_one, hx]; rfl
        have hget : (els ++ [plansL (shiftsF s (k : Int))])[0 + ((k : Nat) : Int).toNat]? = some (plansL (shiftsF s (k : Int))) := by rw [Nat.zero_add, Int.toNat_natCast, ← hel]; simp
        rw [drop_at hx, List.any_cons] at hany
        conv => whnf
        refine ⟨_, All_ok' s h (k : Int) (by omega), ?_⟩
        conv => whnf
        refine ⟨rfl, rfl, hn, most_le (by simp; omega), ?_⟩
        conv => whnf
        refine ⟨by omega, by simp only [List.length_cons, List.length_nil]; omega, ?_⟩
        conv => whnf
        refine ⟨by simp, ?_⟩
        conv => whnf
        refine ⟨by simp, _, hget, ?_⟩
        conv => whnf
        cases c3 : decide ((((shiftsF s (k : Int)).map rowL).length : Int) = 0)
        · have h4 := of_decide_eq_false c3
          rw [List.length_map] at h4
          rw [decide_eq_false (show ¬ (shiftsF s (k : Int)).length = 0 by omega), Bool.false_or] at hany
          conv => whnf
          exact ⟨(IntKind.wrap .i64 ((k : Int) + 1), els ++ [plansL (shiftsF s (k : Int))], els.length + 1), by kernel_rfl, ⟨k + 1, nx (by omega), by omega, by rw [he, htk, List.map_append]; rfl, by simp, hany⟩, by simp only; rw [nx (by omega)]; omega⟩
        · have h4 := of_decide_eq_true c3
          rw [List.length_map] at h4
          rw [decide_eq_true (show (shiftsF s (k : Int)).length = 0 by omega), Bool.true_or] at hany
          rw [← hany, if_pos rfl] at hR
          rw [← hR]
          conv => whnf
          kernel_rfl
    · have h1 := of_decide_eq_true c1
      have hn0 : noneF s = false := by
        cases e : noneF s with
        | false => rfl
        | true => have := hnf e; omega
      rw [hn0, show decide (N ≤ 200000) = false from decide_eq_false (by omega), if_neg (by simp), if_pos rfl]
      refine pureFn_by Try.func32 k32 rfl rfl ?_
      conv => whnf
      refine ⟨_, ck, ?_⟩
      conv => whnf
      refine ⟨_, pl, ?_⟩
      conv => whnf
      rw [c1]
      conv => whnf
      kernel_rfl
  · rw [if_pos hE]
    obtain ⟨E, hE2⟩ : ∃ E, checkE s = E := ⟨_, rfl⟩
    rw [hE2] at ck hE ⊢
    have h0 : decide (E = 0) = false := decide_eq_false hE
    refine pureFn_by Try.func32 k32 rfl rfl ?_
    conv => whnf
    refine ⟨_, ck, ?_⟩
    conv => whnf
    rw [h0]
    conv => whnf
    kernel_rfl
end Go.Proofs.YtmkmegcconjgoaaG
