/- The specification's frame: names, articles, machines, changes, orders. No condition. -/
import Derived.Test.YtmkmegcconjgoaaP28
import Derived.Laws.Strings
set_option linter.unusedVariables false
set_option linter.unusedSimpArgs false
set_option maxRecDepth 100000
set_option maxHeartbeats 4000000
namespace Go.Proofs.YtmkmegcconjgoaaG
open Go Go.AM Go.Proofs

theorem empty_size (s : ByteArray) : (s.toList == (⟨#[]⟩ : ByteArray).toList) = !decide (1 ≤ s.size) := by
  have e1 : s.toList.length = s.size := by rw [ByteArray.toList_eq]; simp
  rw [ByteArray.toList_eq (⟨#[]⟩ : ByteArray)]
  by_cases h : 1 ≤ s.size
  · rw [decide_eq_true h]
    cases hl : s.toList with
    | nil => rw [hl] at e1; simp at e1; omega
    | cons a l => rfl
  · rw [decide_eq_false h]
    have : s.toList = [] := List.eq_nil_of_length_eq_zero (by omega)
    rw [this]; rfl
theorem name_ok' (s : ByteArray) : PureFn Try.prog 106 [strD s] (boolD (nameF s)) := by
  refine pureFn_by Try.func106 k106 rfl rfl ?_
  obtain ⟨R, hR⟩ : ∃ R, nameF s = R := ⟨_, rfl⟩
  rw [hR]
  unfold nameF at hR
  obtain ⟨A, hA⟩ : ∃ A, ((List.range s.size).all fun i => chOk (byteAt s i)) = A := ⟨_, rfl⟩
  rw [hA] at hR
  conv => whnf
  rw [empty_size]
  cases c1 : decide (1 ≤ s.size)
  · rw [c1] at hR
    have hR : false = R := by rw [← hR]; rfl
    rw [← hR]
    conv => whnf
    kernel_rfl
  · have h1 := of_decide_eq_true c1
    conv => whnf
    cases c2 : decide (16 < (s.size : Int))
    · have h2 : s.size ≤ 16 := by have := of_decide_eq_false c2; omega
      conv => whnf
      refine ⟨by omega, by omega, ?_⟩
      conv => whnf
      cases c3 : decide (byteAt s 0 < 97)
      · have h3 : 97 ≤ byteAt s 0 := by have := of_decide_eq_false c3; omega
        conv => whnf
        refine ⟨by omega, by omega, ?_⟩
        conv => whnf
        cases c4 : decide (122 < byteAt s 0)
        · have h4 : byteAt s 0 ≤ 122 := by have := of_decide_eq_false c4; omega
          rw [c1, decide_eq_true h2, decide_eq_true h3, decide_eq_true h4] at hR
          have hR : A = R := by simpa using hR
          rw [← hR]
          conv => whnf
          refine loopB (fun (i : Int) => ⟨mkT [(0, .d (strD s)), (3, .d (int i))], mkB []⟩)
            (fun i => ∃ k : Nat, i = k ∧ k ≤ s.size ∧ ((List.range s.size).drop k).all (fun i => chOk (byteAt s i)) = A) (fun i => (s.size - i).toNat) 0 (by kernel_rfl) ⟨0, rfl, by omega, hA⟩ ?_
          rintro _ ⟨i, rfl, hi, hb⟩
          conv => whnf
          cases c5 : decide ((i : Int) < (s.size : Int))
          · have hi' : i = s.size := by have := of_decide_eq_false c5; omega
            rw [List.drop_of_length_le (by simp [hi'])] at hb
            rw [← hb]
            conv => whnf
            kernel_rfl
          · have hi' : i < s.size := by have := of_decide_eq_true c5; omega
            have hd := drop_at (show (List.range s.size)[i]? = some i by simp [hi'])
            rw [hd, List.all_cons] at hb
            have hch : chOk (byteAt s i) = ((decide (97 ≤ byteAt s i) && decide (byteAt s i ≤ 122)) || (decide (48 ≤ byteAt s i) && decide (byteAt s i ≤ 57)) || decide (byteAt s i = 45)) := rfl
            rw [hch] at hb
            obtain ⟨B, hB⟩ : ∃ B, ((List.range s.size).drop (i + 1)).all (fun i => chOk (byteAt s i)) = B := ⟨_, rfl⟩
            rw [hB] at hb
            cases a1 : decide (97 ≤ byteAt s (i : Int)) <;> cases a2 : decide (byteAt s (i : Int) ≤ 122) <;> cases a3 : decide (48 ≤ byteAt s (i : Int)) <;> cases a4 : decide (byteAt s (i : Int) ≤ 57) <;> cases a5 : decide (byteAt s (i : Int) = 45) <;>
              rw [a1, a2, a3, a4, a5] at hb <;> (repeat ((conv => whnf); first | rw [a1] | rw [a2] | rw [a3] | rw [a4] | rw [a5] | refine ⟨by omega, by omega, ?_⟩)) <;> (conv => whnf)
            all_goals first
              | exact ⟨IntKind.wrap .i64 ((i : Int) + 1), by kernel_rfl, ⟨i + 1, nx (by omega), by omega, hB.trans hb⟩, by rw [nx (by omega)]; omega⟩
              | (have hb : false = A := hb; rw [← hb]; (conv => whnf); kernel_rfl)
        · rw [c1, decide_eq_true h2, decide_eq_true h3, decide_eq_false (show ¬ byteAt s 0 ≤ 122 by have := of_decide_eq_true c4; omega)] at hR
          have hR : false = R := hR
          rw [← hR]
          conv => whnf
          kernel_rfl
      · rw [c1, decide_eq_true h2, decide_eq_false (show ¬ 97 ≤ byteAt s 0 by have := of_decide_eq_true c3; omega)] at hR
        have hR : false = R := hR
        rw [← hR]
        conv => whnf
        kernel_rfl
    · rw [c1, decide_eq_false (show ¬ s.size ≤ 16 by have := of_decide_eq_true c2; omega)] at hR
      have hR : false = R := hR
      rw [← hR]
      conv => whnf
      kernel_rfl
theorem idx_lt {α : Type} {p : α → Bool} {xs : List α} {i : Nat} {x : α} (hx : xs[i]? = some x) (hp : p x = true) : decide (idxF p xs < (i : Int)) = (xs.take i).any p := by
  cases h : (xs.take i).any p
  · have : idxF p xs = i := idx_hit hx hp fun j hj y hy => by
      rw [List.any_eq_false] at h
      have := h y (List.mem_of_getElem? (i := j) (by simp [List.getElem?_take, hj, hy]))
      simpa using this
    rw [this]; simp
  · rw [List.any_eq_true] at h
    obtain ⟨y, hy, hpy⟩ := h
    obtain ⟨j, hj, e⟩ := List.mem_iff_getElem.1 hy
    have hj2 : j < i ∧ j < xs.length := by simp at hj; omega
    have e : xs[j] = y := by rw [← e]; simp
    apply decide_eq_true
    unfold idxF
    cases hf : xs.findIdx? p with
    | none =>
      have := List.findIdx?_eq_none_iff.1 hf y (e ▸ List.getElem_mem _)
      rw [this] at hpy; cases hpy
    | some m =>
      obtain ⟨hm, hpm, hb⟩ := List.findIdx?_eq_some_iff_getElem.1 hf
      have : m ≤ j := by
        apply Nat.le_of_not_lt
        intro hlt
        have := hb j hlt
        rw [e] at this
        exact this hpy
      show (m : Int) < i
      omega
theorem take_any_at {α : Type} {p : α → Bool} {xs : List α} {k i : Nat} {x : α} (hx : xs[k]? = some x) (h : k < i) : ((xs.take i).drop k).any p = (p x || ((xs.take i).drop (k + 1)).any p) := by
  rw [drop_at (show (xs.take i)[k]? = some x by simp [List.getElem?_take, h, hx]), List.any_cons]
theorem article_ok' (s : Season) (hs : Sm s) (i : Nat) (a : Art) (ha : s.arts[i]? = some a) : PureFn Try.prog 88 [seasonD s, int (i : Int)] (int (artE s i a)) := by
  have hil := (List.getElem?_eq_some_iff.1 ha).1
  have har := hs.arts
  have hco := hs.cols
  have hix : decide (articleF s a.name < (i : Int)) = (s.arts.take i).any fun b => b.name.toList == a.name.toList := idx_lt (p := fun b : Art => b.name.toList == a.name.toList) ha (by simp)
  have nk := name_ok' a.name
  refine pureFn_by Try.func88 k88 rfl rfl ?_
  obtain ⟨R, hR⟩ : ∃ R, artE s i a = R := ⟨_, rfl⟩
  rw [hR]
  unfold artE at hR
  obtain ⟨T, hT⟩ : ∃ T, ((s.arts.take i).any fun b => b.name.toList == a.name.toList) = T := ⟨_, rfl⟩
  rw [hT] at hix
  conv => whnf
  refine ⟨by omega, _, (by first | exact gm (by assumption) | exact gz (by assumption)), ?_⟩
  conv => whnf
  refine ⟨_, nk, ?_⟩
  cases c1 : nameF a.name
  · rw [c1, if_pos rfl] at hR
    rw [← hR]
    conv => whnf
    kernel_rfl
  · rw [c1, if_neg (by decide)] at hR
    conv => whnf
    refine loopB (fun (k : Int) => ⟨mkT [(1, .d (int (i : Int))), (2, .d (.fptr (cellsS s))), (5, .ptr 1 0), (6, .d (int k))], mkB [(1, .var [.d (strD a.name), .d (int a.colour), .d (int a.weight)])]⟩)
      (fun z => ∃ k : Nat, z = k ∧ k ≤ i ∧ ((s.arts.take i).drop k).any (fun b => b.name.toList == a.name.toList) = T) (fun k => (i - k).toNat) 0 (by kernel_rfl) ⟨0, rfl, by omega, hT⟩ ?_
    rintro _ ⟨k, rfl, hk, hb⟩
    conv => whnf
    cases c2 : decide ((k : Int) < (i : Int))
    · have hk' : i ≤ k := by have := of_decide_eq_false c2; omega
      rw [List.drop_of_length_le (by simp; omega)] at hb
      have hb : false = T := hb
      rw [← hb] at hix
      rw [if_neg (of_decide_eq_false hix)] at hR
      have ew : IntKind.wrap .i64 (((s.cols.map pairsL).length : Int) - 1) = (s.cols.length : Int) - 1 := by rw [List.length_map, wr_eq (by omega)]
      conv => whnf
      rw [ew]
      refine ⟨_, within_ok' _ _ _, ?_⟩
      cases c3 : withinF a.colour 0 ((s.cols.length : Int) - 1)
      · rw [c3, if_pos rfl] at hR
        rw [← hR]
        conv => whnf
        kernel_rfl
      · rw [c3, if_neg (by decide)] at hR
        conv => whnf
        refine ⟨_, within_ok' _ _ _, ?_⟩
        cases c4 : withinF a.weight 1 100000
        · rw [c4, if_pos rfl] at hR
          rw [← hR]
          conv => whnf
          kernel_rfl
        · rw [c4, if_neg (by decide)] at hR
          rw [← hR]
          conv => whnf
          kernel_rfl
    · have hk' : k < i := by have := of_decide_eq_true c2; omega
      obtain ⟨b, hbk⟩ := get_lt (xs := s.arts) (i := k) (by omega)
      rw [take_any_at hbk hk'] at hb
      conv => whnf
      refine ⟨by omega, _, (by first | exact gm (by assumption) | exact gz (by assumption)), ?_⟩
      conv => whnf
      cases c3 : (b.name.toList == a.name.toList)
      · rw [c3] at hb
        conv => whnf
        exact ⟨IntKind.wrap .i64 ((k : Int) + 1), by kernel_rfl, ⟨k + 1, nx (by omega), by omega, hb⟩, by rw [nx (by omega)]; omega⟩
      · rw [c3] at hb
        have hb : true = T := hb
        rw [← hb] at hix
        rw [if_pos (of_decide_eq_true hix)] at hR
        rw [← hR]
        conv => whnf
        kernel_rfl
theorem all_split {α : Type} {p : α → Bool} {xs : List α} {i : Nat} {x : α} (hx : xs[i]? = some x) : (xs.drop i).any p = (p x || (xs.drop (i + 1)).any p) := by rw [drop_at hx, List.any_cons]
theorem maker_ok' (s : Season) (hs : Sm s) (m : Mk) (hr : m.rates.length ≤ 20) (j : Nat) : PureFn Try.prog 89 [seasonD s, .agg (mkL m)] (int (mkE s j m)) := by
  have har := hs.arts
  have hov := hs.ovens
  refine pureFn_by Try.func89 k89 rfl rfl ?_
  obtain ⟨R, hR⟩ : ∃ R, mkE s j m = R := ⟨_, rfl⟩
  rw [hR]
  unfold mkE mkBad at hR
  have ew : IntKind.wrap .i64 (((s.ovens.map i2).length : Int) - 1) = (s.ovens.length : Int) - 1 := by rw [List.length_map, wr_eq (by omega)]
  have ew2 : IntKind.wrap .i64 (((s.arts.map artL).length : Int) - 1) = (s.arts.length : Int) - 1 := by rw [List.length_map, wr_eq (by omega)]
  have el : decide (((m.rates.map i1).length : Int) = ((s.arts.map artL).length : Int)) = decide ((m.rates.length : Int) = s.arts.length) := by rw [List.length_map, List.length_map]
  conv => whnf
  rw [ew]
  refine ⟨_, within_ok' _ _ _, ?_⟩
  cases c1 : withinF m.oven 0 ((s.ovens.length : Int) - 1)
  · rw [c1, if_pos rfl] at hR
    rw [← hR]
    conv => whnf
    kernel_rfl
  · rw [c1, if_neg (by decide)] at hR
    obtain ⟨T, hT⟩ : ∃ T, (m.rates.any fun n => !rateOk n) = T := ⟨_, rfl⟩
    rw [hT] at hR
    conv => whnf
    rw [el]
    cases c2 : decide ((m.rates.length : Int) = s.arts.length)
    · rw [c2] at hR
      have hR : 1 = R := hR
      rw [← hR]
      conv => whnf
      kernel_rfl
    · rw [c2] at hR
      conv => whnf
      refine ⟨_, within_ok' _ _ _, ?_⟩
      cases c3 : withinF m.idle 0 1000000
      · rw [c3] at hR
        have hR : 1 = R := by rw [← hR]; cases T <;> rfl
        rw [← hR]
        conv => whnf
        kernel_rfl
      · rw [c3] at hR
        conv => whnf
        rw [ew2]
        refine ⟨_, within_ok' _ _ _, ?_⟩
        cases c4 : withinF m.start (-1) ((s.arts.length : Int) - 1)
        · rw [c4] at hR
          have hR : 1 = R := by rw [← hR]; cases T <;> rfl
          rw [← hR]
          conv => whnf
          kernel_rfl
        · rw [c4] at hR
          conv => whnf
          refine loopB (fun (k : Int) => ⟨mkT [(3, .d (.fptr (mkL m))), (5, .d (int k))], mkB []⟩)
            (fun z => ∃ k : Nat, z = k ∧ k ≤ m.rates.length ∧ ((m.rates.drop k).any fun n => !rateOk n) = T) (fun k => (m.rates.length - k).toNat) 0 (by kernel_rfl) ⟨0, rfl, by omega, hT⟩ ?_
          rintro _ ⟨k, rfl, hk, hb⟩
          conv => whnf
          cases c5 : decide ((k : Int) < ((m.rates.map i1).length : Int))
          · have hk' : k = m.rates.length := by have := of_decide_eq_false c5; rw [List.length_map] at this; omega
            rw [hk', drop_end] at hb
            have hb : false = T := hb
            rw [← hb] at hR
            have hR : 0 = R := hR
            rw [← hR]
            conv => whnf
            kernel_rfl
          · have hk' : k < m.rates.length := by have := of_decide_eq_true c5; rw [List.length_map] at this; omega
            obtain ⟨n, hn⟩ := get_lt hk'
            rw [all_split hn] at hb
            unfold rateOk at hb
            conv => whnf
            refine ⟨by omega, _, (by first | exact gm (by assumption) | exact gz (by assumption)), ?_⟩
            conv => whnf
            refine ⟨_, within_ok' _ _ _, ?_⟩
            cases c6 : withinF n 0 1000000
            · rw [c6] at hb
              have hb : true = T := hb
              rw [← hb] at hR
              have hR : 1 = R := hR
              rw [← hR]
              conv => whnf
              kernel_rfl
            · rw [c6] at hb
              conv => whnf
              exact ⟨IntKind.wrap .i64 ((k : Int) + 1), by kernel_rfl, ⟨k + 1, nx (by omega), by omega, hb⟩, by rw [nx (by omega)]; omega⟩
theorem all_at {α : Type} {p : α → Bool} {xs : List α} {i : Nat} {x : α} (hx : xs[i]? = some x) : (xs.drop i).all p = (p x && (xs.drop (i + 1)).all p) := by rw [drop_at hx, List.all_cons]
theorem turns_ok' (l : List (List (Int × Int))) (n : Int) (h1 : l.length ≤ 1000000) : PureFn Try.prog 90 [turnsD l, int n] (boolD (turnsF l n)) := by
  refine pureFn_by Try.func90 k90 rfl rfl ?_
  obtain ⟨R, hR⟩ : ∃ R, turnsF l n = R := ⟨_, rfl⟩
  rw [hR]
  unfold turnsF at hR
  conv => whnf
  rw [List.length_map]
  cases c1 : decide ((l.length : Int) = n)
  · rw [c1] at hR
    have hR : false = R := hR
    rw [← hR]
    conv => whnf
    kernel_rfl
  · rw [c1, Bool.true_and] at hR
    have hn := of_decide_eq_true c1
    conv => whnf
    refine loopB (fun (k : Int) => ⟨mkT [(0, .d (turnsD l)), (1, .d (int n)), (5, .d (int k))], mkB []⟩)
      (fun z => ∃ k : Nat, z = k ∧ k ≤ l.length ∧ ((l.drop k).all (rowOk n)) = R) (fun k => (l.length - k).toNat) 0 (by kernel_rfl) ⟨0, rfl, by omega, hR⟩ ?_
    rintro _ ⟨k, rfl, hk, hb⟩
    conv => whnf
    cases c2 : decide ((k : Int) < n)
    · have hk' : k = l.length := by have := of_decide_eq_false c2; omega
      rw [hk', drop_end] at hb
      have hb : true = R := hb
      rw [← hb]
      conv => whnf
      kernel_rfl
    · have hk' : k < l.length := by have := of_decide_eq_true c2; omega
      obtain ⟨r, hr⟩ := get_lt hk'
      rw [all_at hr] at hb
      conv => whnf
      refine ⟨by omega, _, (by first | exact gm (by assumption) | exact gz (by assumption)), ?_⟩
      conv => whnf
      rw [List.length_map]
      cases c3 : decide ((r.length : Int) = n)
      · have : rowOk n r = false := by unfold rowOk; rw [c3]; rfl
        rw [this] at hb
        have hb : false = R := hb
        rw [← hb]
        conv => whnf
        kernel_rfl
      · have hrn := of_decide_eq_true c3
        obtain ⟨T, hT⟩ : ∃ T, (r.any fun t => !turnOk t) = T := ⟨_, rfl⟩
        have : rowOk n r = !T := by unfold rowOk; rw [c3, hT]; rfl
        rw [this] at hb
        conv => whnf
        refine loopB (fun (j : Int) => ⟨mkT [(0, .d (turnsD l)), (1, .d (int n)), (5, .d (int (k : Int))), (6, .d (int j))], mkB []⟩)
          (fun z => ∃ j : Nat, z = j ∧ j ≤ r.length ∧ ((r.drop j).any fun t => !turnOk t) = T) (fun j => (r.length - j).toNat) 0 (by kernel_rfl) ⟨0, rfl, by omega, hT⟩ ?_
        rintro _ ⟨j, rfl, hj, hb2⟩
        conv => whnf
        cases c4 : decide ((j : Int) < n)
        · have hj' : j = r.length := by have := of_decide_eq_false c4; omega
          rw [hj', drop_end] at hb2
          have hb2 : false = T := hb2
          rw [← hb2] at hb
          conv => whnf
          exact ⟨IntKind.wrap .i64 ((k : Int) + 1), by kernel_rfl, ⟨k + 1, nx (by omega), by omega, hb⟩, by rw [nx (by omega)]; omega⟩
        · have hj' : j < r.length := by have := of_decide_eq_true c4; omega
          obtain ⟨t, ht⟩ := get_lt hj'
          rw [all_split ht] at hb2
          conv => whnf
          refine ⟨by omega, _, (by first | exact gm (by assumption) | exact gz (by assumption)), ?_⟩
          conv => whnf
          refine ⟨by omega, _, (by first | exact gm (by assumption) | exact gz (by assumption)), ?_⟩
          conv => whnf
          refine ⟨_, within_ok' _ _ _, ?_⟩
          cases c5 : withinF t.1 0 1440
          · have : turnOk t = false := by unfold turnOk; rw [c5]; rfl
            rw [this] at hb2
            have hb2 : true = T := hb2
            rw [← hb2] at hb
            have hb : false = R := hb
            rw [← hb]
            conv => whnf
            kernel_rfl
          · conv => whnf
            refine ⟨by omega, _, (by first | exact gm (by assumption) | exact gz (by assumption)), ?_⟩
            conv => whnf
            refine ⟨by omega, _, (by first | exact gm (by assumption) | exact gz (by assumption)), ?_⟩
            conv => whnf
            refine ⟨_, within_ok' _ _ _, ?_⟩
            cases c6 : withinF t.2 0 1000000
            · have : turnOk t = false := by unfold turnOk; rw [c6, Bool.and_false]
              rw [this] at hb2
              have hb2 : true = T := hb2
              rw [← hb2] at hb
              have hb : false = R := hb
              rw [← hb]
              conv => whnf
              kernel_rfl
            · have : turnOk t = true := by unfold turnOk; rw [c5, c6]; rfl
              rw [this] at hb2
              conv => whnf
              exact ⟨IntKind.wrap .i64 ((j : Int) + 1), by kernel_rfl, ⟨j + 1, nx (by omega), by omega, hb2⟩, by rw [nx (by omega)]; omega⟩
theorem order_ok' (s : Season) (hs : Sm s) (i : Nat) (o : Ord) (ho : s.orders[i]? = some o) : PureFn Try.prog 91 [seasonD s, int (i : Int)] (int (ordE s i o)) := by
  have hil := (List.getElem?_eq_some_iff.1 ho).1
  have har := hs.arts
  have hor := hs.orders
  refine pureFn_by Try.func91 k91 rfl rfl ?_
  obtain ⟨R, hR⟩ : ∃ R, ordE s i o = R := ⟨_, rfl⟩
  rw [hR]
  unfold ordE ordBad at hR
  obtain ⟨T, hT⟩ : ∃ T, ((s.orders.take i).any fun x => decide (x.article = o.article)) = T := ⟨_, rfl⟩
  rw [hT] at hR
  have ew2 : IntKind.wrap .i64 (((s.arts.map artL).length : Int) - 1) = (s.arts.length : Int) - 1 := by rw [List.length_map, wr_eq (by omega)]
  conv => whnf
  refine ⟨by omega, _, (by first | exact gm (by assumption) | exact gz (by assumption)), ?_⟩
  conv => whnf
  rw [ew2]
  refine ⟨_, within_ok' _ _ _, ?_⟩
  cases c1 : withinF o.article 0 ((s.arts.length : Int) - 1)
  · rw [c1, if_pos rfl] at hR
    rw [← hR]
    conv => whnf
    kernel_rfl
  · rw [c1, if_neg (by decide)] at hR
    conv => whnf
    refine loopB (fun (k : Int) => ⟨mkT [(1, .d (int (i : Int))), (2, .d (.fptr (cellsS s))), (5, .ptr 1 0), (6, .d (int k))], mkB [(1, .var [.d (int o.article), .d (int o.quantity), .d (int o.due), .d (int o.penalty)])]⟩)
      (fun z => ∃ k : Nat, z = k ∧ k ≤ i ∧ ((s.orders.take i).drop k).any (fun x => decide (x.article = o.article)) = T) (fun k => (i - k).toNat) 0 (by kernel_rfl) ⟨0, rfl, by omega, hT⟩ ?_
    rintro _ ⟨k, rfl, hk, hb⟩
    conv => whnf
    cases c2 : decide ((k : Int) < (i : Int))
    · have hk' : i ≤ k := by have := of_decide_eq_false c2; omega
      rw [List.drop_of_length_le (by simp; omega)] at hb
      have hb : false = T := hb
      rw [← hb, if_neg (by decide)] at hR
      conv => whnf
      refine ⟨_, within_ok' _ _ _, ?_⟩
      cases c3 : withinF o.quantity 0 1000000
      · rw [c3] at hR
        have hR : 1 = R := hR
        rw [← hR]
        conv => whnf
        kernel_rfl
      · rw [c3] at hR
        conv => whnf
        refine ⟨_, within_ok' _ _ _, ?_⟩
        cases c4 : withinF o.due 0 (IntKind.wrap .i64 (s.days - 1))
        · rw [c4] at hR
          have hR : 1 = R := hR
          rw [← hR]
          conv => whnf
          kernel_rfl
        · rw [c4] at hR
          conv => whnf
          refine ⟨_, within_ok' _ _ _, ?_⟩
          cases c5 : withinF o.penalty 0 1000000
          · rw [c5] at hR
            have hR : 1 = R := hR
            rw [← hR]
            conv => whnf
            kernel_rfl
          · rw [c5] at hR
            have hR : 0 = R := hR
            rw [← hR]
            conv => whnf
            kernel_rfl
    · have hk' : k < i := by have := of_decide_eq_true c2; omega
      obtain ⟨b, hbk⟩ := get_lt (xs := s.orders) (i := k) (by omega)
      rw [take_any_at hbk hk'] at hb
      conv => whnf
      refine ⟨by omega, _, (by first | exact gm (by assumption) | exact gz (by assumption)), ?_⟩
      conv => whnf
      cases c3 : decide (b.article = o.article)
      · rw [c3] at hb
        conv => whnf
        exact ⟨IntKind.wrap .i64 ((k : Int) + 1), by kernel_rfl, ⟨k + 1, nx (by omega), by omega, hb⟩, by rw [nx (by omega)]; omega⟩
      · rw [c3] at hb
        have hb : true = T := hb
        rw [← hb, if_pos rfl] at hR
        rw [← hR]
        conv => whnf
        kernel_rfl
end Go.Proofs.YtmkmegcconjgoaaG
