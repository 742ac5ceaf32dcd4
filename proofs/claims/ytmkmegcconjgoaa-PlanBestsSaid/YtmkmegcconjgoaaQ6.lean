/- The specification's search, whole. No condition. -/
import Derived.Test.YtmkmegcconjgoaaQ5
set_option linter.unusedVariables false
set_option linter.unusedSimpArgs false
set_option maxRecDepth 100000
set_option maxHeartbeats 4000000
namespace Go.Proofs.YtmkmegcconjgoaaG
open Go Go.AM Go.Proofs

theorem pre_short {s : Season} (hf : Fr s) {n o : Nat} {p : Plan} (h : Pre s n o p) {m : Nat} {r : List Int} (hr : p[m]? = some r) : r.length ≤ 20 := by
  obtain ⟨M, hM⟩ := get_lt (xs := s.makers) (i := m) (by have := h.len; have := (List.getElem?_eq_some_iff.1 hr).1; omega)
  have := h.rows m M r hM hr
  have hd := hf.days
  split at this <;> omega
theorem fgt1 {t T : Nat → AC} {b : Nat → ABlk} {lt : List Nat} {els : List (List D)} (h : b 1 = .row 1 els) (ht : mkT (lt.map fun i => (i, scrC [1] (t i))) = T) : St.forget ⟨t, b⟩ lt [1] = ⟨T, mkB [(1, .row 1 els)]⟩ := by
  have h2 : (St.forget ⟨t, b⟩ lt [1]).t = T := ht
  have h1 : (St.forget ⟨t, b⟩ lt [1]).b = mkB [(1, .row 1 els)] := by
    show mkB [(1, scrB [1] (b 1))] = _
    rw [h]
    rfl
  calc St.forget ⟨t, b⟩ lt [1] = ⟨(St.forget ⟨t, b⟩ lt [1]).t, (St.forget ⟨t, b⟩ lt [1]).b⟩ := rfl
    _ = _ := by rw [h1, h2]
theorem search_ok (s : Season) (h : Fr s) (h3 : s.makers.length ≤ 3) : ∀ (n : Nat), (n : Int) ≤ s.days → ∀ (j o : Nat), o + j = s.ovens.length → (n = 0 → o = 0) → ∀ (p : Plan) (b : Option Plan), Pre s n o p → (∀ q, b = some q → POk s q) → (s.makers.length = 0 → b = none) →
    PureFn Try.prog 72 [seasonD s, allsD (allsF s), int (o : Int), int (s.days - (n : Int)), planD p, bestD b] (bestD ((leafs s n ((List.range s.ovens.length).drop o) p).foldl (updF s) b)) := by
  intro n
  have hdy := h.days
  have hno := h.no
  induction n with
  | zero =>
    intro _ j o hoj h0 p b hp hb hz
    have := h0 rfl
    subst this
    have e : s.days - ((0 : Nat) : Int) = s.days := by omega
    rw [e]
    exact leaf_ok s h h3 p (pre_pok h hp) b hb hz _ _
  | succ n ih =>
    intro hn j
    induction j with
    | zero =>
      intro o hoj _ p b hp hb hz
      have : o = s.ovens.length := by omega
      subst this
      have hr : (List.range s.ovens.length).drop s.ovens.length = [] := by rw [List.drop_eq_nil_iff]; simp
      rw [hr, leafs_nil]
      have hc := ih (by omega) s.ovens.length 0 (by omega) (fun _ => rfl) p b (pre_day h hp) hb hz
      simp only [List.drop_zero] at hc
      have ew : s.days - (n : Int) = IntKind.wrap .i64 (s.days - ((n + 1 : Nat) : Int) + 1) := by rw [wr_eq (by omega)]; omega
      rw [ew] at hc
      have e1 : decide (s.days - ((n + 1 : Nat) : Int) = s.days) = false := decide_eq_false (by omega)
      have e2 : decide (((s.ovens.length : Nat) : Int) = ((s.ovens.map i2).length : Int)) = true := decide_eq_true (by rw [List.length_map])
      refine pureFn_by Try.func72 k72 rfl rfl ?_
      conv => whnf
      rw [e1]
      conv => whnf
      rw [e2]
      conv => whnf
      refine ⟨_, hc, ?_⟩
      conv => whnf
      kernel_rfl
    | succ j ihj =>
      intro o hoj _ p b hp hb hz
      have ho : o < s.ovens.length := by omega
      have hr : (List.range s.ovens.length).drop o = o :: (List.range s.ovens.length).drop (o + 1) := drop_at (List.getElem?_range ho)
      rw [hr, leafs_cons]
      have hpl := hp.len
      have hml := Nat.le_trans (makersF_len s (o : Int)) h3
      have hmm : ∀ m ∈ makersF s (o : Int), 0 ≤ m ∧ m < s.makers.length := fun m hm => makersF_mem hm
      have mk := makers_ok' s h.sm (o : Int)
      have hsl := shifts_few h h3 (o : Int)
      have hso := fun hz => shifts_one h hz (o : Int)
      have hall := alls_get ho
      have e1 : decide (s.days - ((n + 1 : Nat) : Int) = s.days) = false := decide_eq_false (by omega)
      have e2 : decide ((o : Int) = ((s.ovens.map i2).length : Int)) = false := decide_eq_false (by rw [List.length_map]; omega)
      have hrow : ∀ row ∈ shiftsF s (o : Int), row.length = (makersF s (o : Int)).length ∧ Pre s (n + 1) (o + 1) (putRow (makersF s (o : Int)) row p) := fun row hr => ⟨(shifts_mem.1 hr).1, pre_add hp hr⟩
      obtain ⟨sh, hsh⟩ : ∃ sh, shiftsF s (o : Int) = sh := ⟨_, rfl⟩
      obtain ⟨ms, hms⟩ : ∃ ms, makersF s (o : Int) = ms := ⟨_, rfl⟩
      rw [hsh] at hsl hall hrow hso ⊢
      rw [hms] at hml hmm mk hrow ⊢
      obtain ⟨R, hR⟩ : ∃ R, ((sh.flatMap fun row => leafs s (n + 1) ((List.range s.ovens.length).drop (o + 1)) (putRow ms row p)).foldl (updF s) b) = R := ⟨_, rfl⟩
      rw [hR]
      refine pureFn_by Try.func72 k72 rfl rfl ?_
      conv => whnf
      rw [e1]
      conv => whnf
      rw [e2]
      conv => whnf
      refine ⟨_, mk, ?_⟩
      conv => whnf
      refine loopB (fun (x : Int × Option Plan) => ⟨mkT [(1, .d (allsD (allsF s))), (2, .d (int (o : Int))), (3, .d (int (s.days - ((n + 1 : Nat) : Int)))), (4, .d (planD p)), (5, .d (bestD x.2)), (6, .d (.fptr (cellsS s))), (13, .d (rowD ms)), (14, .d (int x.1))], mkB []⟩)
        (fun x => ∃ i : Nat, x.1 = i ∧ i ≤ sh.length ∧ (∀ q, x.2 = some q → POk s q) ∧ (i = 0 → x.2 = b) ∧ (((sh.drop i).flatMap fun row => leafs s (n + 1) ((List.range s.ovens.length).drop (o + 1)) (putRow ms row p)).foldl (updF s) x.2) = R) (fun x => (sh.length - x.1).toNat) (0, b) (by kernel_rfl) ⟨0, rfl, by omega, hb, fun _ => rfl, hR⟩ ?_
      rintro ⟨_, b2⟩ ⟨i, rfl, hi, hb2, hi0, hf⟩
      simp only at hb2 hi0 hf
      conv => whnf
      refine ⟨by omega, _, (by first | exact gm (by assumption) | exact gz (by assumption)), ?_⟩
      conv => whnf
      cases c1 : decide ((i : Int) < ((sh.map rowL).length : Int))
      · have hi' : i = sh.length := by have := of_decide_eq_false c1; rw [List.length_map] at this; omega
        rw [hi', drop_end] at hf
        have hf : b2 = R := hf
        subst hf
        conv => whnf
        kernel_rfl
      · have hi' : i < sh.length := by have := of_decide_eq_true c1; rw [List.length_map] at this; omega
        obtain ⟨row, hrx⟩ := get_lt hi'
        obtain ⟨hrl, hpre⟩ := hrow row (List.mem_of_getElem? hrx)
        rw [drop_at hrx, List.flatMap_cons, List.foldl_append] at hf
        have hz2 : s.makers.length = 0 → b2 = none := fun hm => by
          have h1 := hso hm
          have h2 : i = 0 := by omega
          rw [hi0 h2]
          exact hz hm
        have hc := ihj (o + 1) (by omega) (fun h => by omega) (putRow ms row p) b2 hpre hb2 hz2
        have hb3 : ∀ q, ((leafs s (n + 1) ((List.range s.ovens.length).drop (o + 1)) (putRow ms row p)).foldl (updF s) b2) = some q → POk s q := fold_ok hb2 (leafs_pok h (by omega) (fun h => by omega) hpre)
        obtain ⟨B, hB⟩ : ∃ B, ((leafs s (n + 1) ((List.range s.ovens.length).drop (o + 1)) (putRow ms row p)).foldl (updF s) b2) = B := ⟨_, rfl⟩
        rw [hB] at hc hb3 hf
        have ew : (((o + 1 : Nat)) : Int) = IntKind.wrap .i64 ((o : Int) + 1) := by rw [wr_eq (by omega)]; omega
        rw [ew] at hc
        conv => whnf
        refine ⟨by rw [List.all_eq_true]; intro e he; obtain ⟨_, _, rfl⟩ := List.mem_map.1 he; rfl, ?_⟩
        conv => whnf
        refine ⟨most_le (by simp; omega), ?_⟩
        conv => whnf
        refine loopB (fun (x : Int × Plan) => ⟨mkT [(1, .d (allsD (allsF s))), (2, .d (int (o : Int))), (3, .d (int (s.days - ((n + 1 : Nat) : Int)))), (4, .d (planD p)), (5, .d (bestD b2)), (6, .d (.fptr (cellsS s))), (13, .d (rowD ms)), (14, .d (int (i : Int))), (15, .row 1 0 (p.map rowL).length (p.map rowL).length), (16, .d (int x.1))], mkB [(1, .row 1 (x.2.map rowL))]⟩)
          (fun x => ∃ u : Nat, x.1 = u ∧ u ≤ ms.length ∧ x.2.length = p.length ∧ setsF p (ms.drop u) (row.drop u) x.2 = putRow ms row p) (fun x => (ms.length - x.1).toNat) (0, p) (by kernel_rfl) ⟨0, rfl, by omega, rfl, rfl⟩ ?_
        rintro ⟨_, q⟩ ⟨u, rfl, hu, hql, hq⟩
        simp only at hql hq
        conv => whnf
        cases c2 : decide ((u : Int) < ((ms.map i1).length : Int))
        · have hu' : u = ms.length := by have := of_decide_eq_false c2; rw [List.length_map] at this; omega
          rw [hu', drop_end] at hq
          have hq : q = putRow ms row p := hq
          subst hq
          conv => whnf
          refine ⟨rfl, by simp [hql], ?_⟩
          conv => whnf
          refine ⟨_, hc, ?_⟩
          conv => whnf
          exact ⟨(IntKind.wrap .i64 ((i : Int) + 1), B), by kernel_rfl, ⟨i + 1, nx (by omega), by omega, hb3, fun h => by omega, hf⟩, by simp only; rw [nx (by omega)]; omega⟩
        · have hu' : u < ms.length := by have := of_decide_eq_true c2; rw [List.length_map] at this; omega
          obtain ⟨m, hm⟩ := get_lt hu'
          obtain ⟨x, hx⟩ := get_lt (xs := row) (i := u) (by omega)
          have hmr := hmm m (List.mem_of_getElem? hm)
          obtain ⟨r, hrr⟩ := get_lt (xs := p) (i := m.toNat) (by omega)
          obtain ⟨r2, hr2⟩ := get_lt (xs := q) (i := m.toNat) (by omega)
          have hrs := pre_short h hp hrr
          rw [drop_at hm, drop_at hx, setsF, getD_of hrr] at hq
          conv => whnf
          refine ⟨by omega, _, (by first | exact gm (by assumption) | exact gz (by assumption)), ?_⟩
          conv => whnf
          refine ⟨by omega, _, (by first | exact gm (by assumption) | exact gz (by assumption)), ?_⟩
          conv => whnf
          refine ⟨hmr.1, _, gz hrr, ?_⟩
          conv => whnf
          refine ⟨by rw [List.all_eq_true]; intro e he; obtain ⟨_, _, rfl⟩ := List.mem_map.1 he; rfl, ?_⟩
          conv => whnf
          refine ⟨most_le (by simp; omega), ?_⟩
          conv => whnf
          refine ⟨by omega, _, (by first | exact gm (by assumption) | exact gz (by assumption)), ?_⟩
          conv => whnf
          refine ⟨by omega, _, (by first | exact gm (by assumption) | exact gz (by assumption)), ?_⟩
          conv => whnf
          refine ⟨by omega, _, (by first | exact gm (by assumption) | exact gz (by assumption)), ?_⟩
          conv => whnf
          refine ⟨rfl, rfl, by simp, most_le (by simp; omega), ?_⟩
          conv => whnf
          refine ⟨hmr.1, by simp; omega, by simp [hql], ?_⟩
          conv => whnf
          refine ⟨by simp [hql], _, (by rw [Nat.zero_add]; exact gz hr2), ?_⟩
          conv => whnf
          have hset : ((q.map rowL).set (0 + m.toNat) (List.take 0 (rowL r2) ++ [D.list (r.map i1 ++ [[int x]])] ++ List.drop (0 + 1) (rowL r2))) = (q.set m.toNat (r ++ [x])).map rowL := by
            rw [Nat.zero_add, List.map_set, show rowL (r ++ [x]) = [D.list (r.map i1 ++ [[int x]])] by rw [rowL, rowD, List.map_append]; rfl]; rfl
          exact ⟨(IntKind.wrap .i64 ((u : Int) + 1), q.set m.toNat (r ++ [x])), fgt1 (congrArg (ABlk.row 1) hset) (by kernel_rfl), ⟨u + 1, nx (by omega), by omega, by simp only; simp [hql], hq⟩, by simp only; rw [nx (by omega)]; omega⟩
end Go.Proofs.YtmkmegcconjgoaaG
