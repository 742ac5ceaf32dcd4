/- The cheapest recipe. No condition. -/
import Derived.Test.YtalbkamkkceanaaGreatB6
set_option linter.unusedVariables false
set_option linter.unusedSimpArgs false
set_option maxRecDepth 100000
set_option maxHeartbeats 4000000
namespace Go.Proofs.YtalbkamkkceanaaGreatG
open Go Go.AM Go.Proofs

abbrev Bst := List Int × Int × Bool
@[reducible] def recD : Bool → List Int → D
  | true, r => rowD r
  | false, _ => nilD
def bstep (right : List Int → Bool) (ms : List Mat) (σ : Bst) (r : List Int) : Bst := if ((!σ.2.2 || decide (costB ms r < σ.2.1)) && right r) = true then (r, costB ms r, true) else σ
def bestF (right : List Int → Bool) (ms : List Mat) : Bst := (recs ms).foldl (bstep right ms) ([], 0, false)
theorem recipes_ok (b : Bat) : PureFn Tryz.prog 81 [batD b] (.clo 117 [] [.fptr (cellsB b)]) := by
  refine pureFn_by Tryz.func81 k81 rfl rfl ?_
  conv => whnf
  kernel_rfl
theorem orb_tail {α : Type} {nx : α → Option α} : ∀ {pre : List α} {x : α} {rest : List α}, OrbTo nx (pre ++ x :: rest) none → (rest = [] → nx x = none) ∧ (∀ y l, rest = y :: l → nx x = some y)
  | [], x, [], h => ⟨fun _ => h, fun y l e => (nomatch e)⟩
  | [], x, y :: l, h => ⟨fun e => (nomatch e), fun y' l' e => by cases e; exact h.1⟩
  | [p], x, rest, h => orb_tail (pre := []) h.2
  | p :: q :: pre, x, rest, h => orb_tail (pre := q :: pre) h.2
@[reducible] def bstB (σ : Bst) (els : List (List D)) : Nat → ABlk := mkB [(2, .var [.d (recD σ.2.2 σ.1)]), (3, .var [.d (int σ.2.1)]), (4, .var [.d (boolD σ.2.2)]), (5, .fresh), (1002, .row 1 els)]
theorem fgtB {t T : Nat → AC} {b : Nat → ABlk} {lt : List Nat} {σ : Bst} {row : List Int} (b2 : b 2 = .var [.d (recD σ.2.2 σ.1)]) (b3 : b 3 = .var [.d (int σ.2.1)]) (b4 : b 4 = .var [.d (boolD σ.2.2)]) (b5 : b 5 = .fresh) (b6 : b 1002 = .row 1 (row.map i1))
    (ht : mkT (lt.map fun i => (i, scrC [2, 3, 4, 5, 1002] (t i))) = T) : St.forget ⟨t, b⟩ lt [2, 3, 4, 5, 1002] = ⟨T, bstB σ (row.map i1)⟩ := by
  have h2 : (St.forget ⟨t, b⟩ lt [2, 3, 4, 5, 1002]).t = T := ht
  have h1 : (St.forget ⟨t, b⟩ lt [2, 3, 4, 5, 1002]).b = bstB σ (row.map i1) := by
    show mkB [(2, scrB [2, 3, 4, 5, 1002] (b 2)), (3, scrB [2, 3, 4, 5, 1002] (b 3)), (4, scrB [2, 3, 4, 5, 1002] (b 4)), (5, scrB [2, 3, 4, 5, 1002] (b 5)), (1002, scrB [2, 3, 4, 5, 1002] (b 1002))] = _
    rw [b2, b3, b4, b5, b6]
    rfl
  calc St.forget ⟨t, b⟩ lt [2, 3, 4, 5, 1002] = ⟨(St.forget ⟨t, b⟩ lt [2, 3, 4, 5, 1002]).t, (St.forget ⟨t, b⟩ lt [2, 3, 4, 5, 1002]).b⟩ := rfl
    _ = _ := by rw [h1, h2]
structure AtB (b : Bat) (lp : Nat) (σ : Bst) (row : List Int) (s : St) : Prop where
  t0 : s.t 0 = .d (.v (.func (.yield lp) #[] #[]))
  t1 : s.t 1 = .d (.fptr (cellsB b))
  t3 : s.t 3 = .row 1002 0 ((b.mats.map matL).length : Int).toNat ((b.mats.map matL).length : Int).toNat
  b2 : s.b 2 = .var [.d (recD σ.2.2 σ.1)]
  b3 : s.b 3 = .var [.d (int σ.2.1)]
  b4 : s.b 4 = .var [.d (boolD σ.2.2)]
  b5 : s.b 5 = .fresh
  b6 : s.b 1002 = .row 1 (row.map i1)
theorem fgtA {b : Bat} {lp : Nat} {σ : Bst} {row : List Int} {s : St} (hs : AtB b lp σ row s) : St.forget ⟨s.t, s.b⟩ [0, 1, 3] [2, 3, 4, 5, 1002] =
    ⟨mkT [(0, .d (.v (.func (.yield lp) #[] #[]))), (1, .d (.fptr (cellsB b))), (3, .row 1002 0 ((b.mats.map matL).length : Int).toNat ((b.mats.map matL).length : Int).toNat)], bstB σ (row.map i1)⟩ := by
  refine fgtB hs.b2 hs.b3 hs.b4 hs.b5 hs.b6 ?_
  show mkT [(0, scrC _ (s.t 0)), (1, scrC _ (s.t 1)), (3, scrC _ (s.t 3))] = _
  rw [hs.t0, hs.t1, hs.t3]
  rfl
theorem carry_loop (b : Bat) (hb : Bf b) (H : Hand) (lp : Nat) (σ : Bst) (r : List Int) (hr : Rok b.mats r) (z : Int) (hz : z = r.length - 1) (Q : QB) (t : Nat → AC) (b' : Nat → ABlk)
    (h0 : St.forget ⟨t, b'⟩ [0, 1, 3, 6] [2, 3, 4, 5, 1002] = ⟨mkT [(0, .d (.v (.func (.yield lp) #[] #[]))), (1, .d (.fptr (cellsB b))), (3, .row 1002 0 ((b.mats.map matL).length : Int).toNat ((b.mats.map matL).length : Int).toNat), (6, .d (int z))], bstB σ (r.map i1)⟩)
    (hQ3 : ∀ r', nextR b.mats r = some r' → ∀ s : St, AtB b lp σ r' s → Q (.exit 3) s.t s.b) (hQ4 : nextR b.mats r = none → ∀ t : Nat → AC, Q (.exit 4) t (bstB σ ((leasts b.mats).map i1))) :
    LoopB (fun Q t b => bwp Tryz.prog H false [2, 3, 4, 5] l39i117_1 Q t b) [0, 1, 3, 6] [2, 3, 4, 5, 1002] Q t b' := by
  have hnm := hb.nm
  have hrl := hr.len
  refine loopB (fun (x : Int × List (List D)) => ⟨mkT [(0, .d (.v (.func (.yield lp) #[] #[]))), (1, .d (.fptr (cellsB b))), (3, .row 1002 0 ((b.mats.map matL).length : Int).toNat ((b.mats.map matL).length : Int).toNat), (6, .d (int x.1))], bstB σ x.2⟩)
    (fun x => ∃ (j : Nat) (row : List Int), x.1 = (j : Int) - 1 ∧ j ≤ b.mats.length ∧ x.2 = row.map i1 ∧ row = r.take j ++ leasts (b.mats.drop j) ∧ nextR (b.mats.drop j) (r.drop j) = none) (fun x => (x.1 + 1).toNat) (z, r.map i1) h0
    ⟨r.length, r, hz, by omega, rfl, by rw [List.take_length, hrl, drop_end]; simp [leasts], by rw [hrl, drop_end]; rfl⟩ ?_
  rintro ⟨_, els⟩ ⟨j, row, rfl, hj, he, hrow, hnone⟩
  simp only at he
  subst he
  have hrowl : row.length = b.mats.length := by rw [hrow]; simp [leasts, hrl]; omega
  conv => whnf
  cases c1 : decide ((j : Int) - 1 ≥ 0)
  · have hj0 : j = 0 := by have := of_decide_eq_false c1; omega
    subst hj0
    conv => whnf
    have e : row = leasts b.mats := by rw [hrow]; rfl
    subst e
    exact hQ4 hnone _
  · obtain ⟨i, hi⟩ : ∃ i : Nat, j = i + 1 := ⟨j - 1, by have := of_decide_eq_true c1; omega⟩
    subst hi
    have hix : ((i + 1 : Nat) : Int) - 1 = (i : Int) := by omega
    rw [hix] at *
    obtain ⟨m, hm⟩ := get_lt (xs := b.mats) (i := i) (by omega)
    obtain ⟨k, hk⟩ := get_lt (xs := r) (i := i) (by omega)
    have hmb := hb.mat m (List.mem_of_getElem? hm)
    have hkb := hr.el k (List.mem_of_getElem? hk)
    have hrk : row[i]? = some k := by
      rw [hrow, List.getElem?_append_left (by simp; omega), List.getElem?_take_of_lt (by omega)]; exact hk
    have e1 : IntKind.wrap .i64 (k + m.step) = k + m.step := wr_eq (by omega)
    have hset : ∀ v : Int, ABlk.row 1 ((row.map i1).set (0 + ((i : Nat) : Int).toNat) (List.take 0 (i1 k) ++ [int v] ++ List.drop (0 + 1) (i1 k))) = .row 1 ((row.set i v).map i1) := fun v => by
      rw [Nat.zero_add, Int.toNat_natCast, List.map_set]; rfl
    have hrs : ∀ v : Int, row.set i v = r.take i ++ v :: leasts (b.mats.drop (i + 1)) := fun v => by
      have e : r.take (i + 1) = r.take i ++ [k] := by rw [List.take_add_one, hk]; rfl
      rw [hrow, e, List.append_assoc, List.set_append_right _ _ (by simp; exact Nat.min_le_left _ _)]
      simp [show i - min i r.length = 0 by omega]
    conv => whnf
    refine ⟨by omega, _, (by first | exact gm (by assumption) | exact gz (by assumption)), ?_⟩
    conv => whnf
    refine ⟨by omega, by simp; omega, by simp [hrowl], ?_⟩
    conv => whnf
    refine ⟨by simp [hrowl], _, (by rw [Nat.zero_add]; exact gm hrk), ?_⟩
    conv => whnf
    rw [e1]
    cases c2 : decide (k + m.step ≤ m.most)
    · have hk2 := of_decide_eq_false c2
      conv => whnf
      refine ⟨by omega, by simp; omega, by simp [hrowl], ?_⟩
      conv => whnf
      refine ⟨by simp [hrowl], _, (by rw [Nat.zero_add]; exact gm hrk), ?_⟩
      conv => whnf
      have e2 : IntKind.wrap .i64 ((i : Int) - 1) = (i : Int) - 1 := wr_eq (by omega)
      refine ⟨(IntKind.wrap .i64 ((i : Int) - 1), (row.set i m.least).map i1), ?_, ⟨i, row.set i m.least, e2, by omega, rfl, ?_, nextR_carry hrl hm hk hnone hk2⟩, by simp only; rw [e2]; omega⟩
      · exact fgtB rfl rfl rfl rfl (hset m.least) (by kernel_rfl)
      · rw [hrs, drop_at hm]; rfl
    · have hk2 := of_decide_eq_true c2
      conv => whnf
      refine ⟨by omega, by simp; omega, by simp [hrowl], ?_⟩
      conv => whnf
      refine ⟨by simp [hrowl], _, (by rw [Nat.zero_add]; exact gm hrk), ?_⟩
      conv => whnf
      rw [e1]
      refine ⟨by omega, by simp; omega, by simp [hrowl], ?_⟩
      conv => whnf
      refine ⟨by simp [hrowl], _, (by rw [Nat.zero_add]; exact gm hrk), ?_⟩
      conv => whnf
      have hn := nextR_found hm hk hnone hk2
      rw [← hrs] at hn
      exact hQ3 _ hn ⟨_, _⟩ ⟨rfl, rfl, rfl, rfl, rfl, rfl, rfl, hset (k + m.step)⟩
theorem cheap_ok (b : Bat) (hb : Bf b) (g : FuncId) (caps : List D) (right : List Int → Bool) (hg : ∀ r, Rok b.mats r → PureFn Tryz.prog g (rowD r :: caps) (boolD (right r))) :
    PureFn Tryz.prog 39 [batD b, .clo g [] caps] (.tup [recD (bestF right b.mats).2.2 (bestF right b.mats).1, int (bestF right b.mats).2.1, boolD (bestF right b.mats).2.2]) := by
  have hnm := hb.nm
  have hms : ∀ m ∈ b.mats, 1 ≤ m.step ∧ m.least ≤ m.most := fun m hm => by have := hb.mat m hm; omega
  obtain ⟨horb, l0, hl0⟩ := recs_orb b.mats hms
  have hrok : ∀ r ∈ recs b.mats, Rok b.mats r := fun r hr => ⟨recs_len hr, fun k hk => by
    obtain ⟨i, hi, rfl⟩ := List.mem_iff_getElem.1 hk
    have hl := recs_len hr
    obtain ⟨m, hm⟩ := get_lt (xs := b.mats) (i := i) (by omega)
    have h1 := recs_mem hms hr i m r[i] hm (by simp [hi])
    have h2 := hb.mat m (List.mem_of_getElem? hm)
    omega⟩
  obtain ⟨R, hR⟩ : ∃ R, bestF right b.mats = R := ⟨_, rfl⟩
  rw [hR]
  refine pureFn_by Tryz.func39 k39 rfl rfl ?_
  conv => whnf
  refine ⟨_, recipes_ok b, ?_⟩
  conv => whnf
  intro lp
  conv => whnf
  refine ⟨by omega, by rw [List.length_map]; unfold most; omega, ?_⟩
  conv => whnf
  refine loopB (fun (x : Int × List (List D)) => ⟨mkT [(0, .d (.v (.func (.yield lp) #[] #[]))), (1, .d (.fptr (cellsB b))), (3, .row 1002 0 ((b.mats.map matL).length : Int).toNat ((b.mats.map matL).length : Int).toNat), (13, .d (.list (b.mats.map matL))), (14, .d (int (b.mats.map matL).length)), (15, .d (int x.1))], bstB ([], 0, false) x.2⟩)
    (fun x => ∃ (k : Nat) (row : List Int), x.1 = k ∧ k ≤ b.mats.length ∧ x.2 = row.map i1 ∧ row.length = b.mats.length ∧ row.take k = leasts (b.mats.take k)) (fun x => (b.mats.length - x.1).toNat) (0, List.replicate ((b.mats.map matL).length : Int).toNat [D.v (Z.val (.i .i64))]) (by kernel_rfl) ⟨0, List.replicate b.mats.length 0, rfl, by omega, by simp [Z.val], by simp, rfl⟩ ?_
  rintro ⟨_, els⟩ ⟨k, row, rfl, hk, he, hrl, hrt⟩
  simp only at he
  subst he
  conv => whnf
  cases c1 : decide ((k : Int) < ((b.mats.map matL).length : Int))
  · have hk' : k = b.mats.length := by have := of_decide_eq_false c1; rw [List.length_map] at this; omega
    rw [hk', List.take_length, List.take_of_length_le (by omega)] at hrt
    subst hrt
    conv => whnf
    have ew : IntKind.wrap .i64 (((b.mats.length : Nat) : Int) - 1) = (b.mats.length : Int) - 1 := wr_eq (by omega)
    refine loopB (fun (x : List (List Int) × List Int × Bst) => ⟨mkT [(0, .d (.v (.func (.yield lp) #[] #[]))), (1, .d (.fptr (cellsB b))), (3, .row 1002 0 ((b.mats.map matL).length : Int).toNat ((b.mats.map matL).length : Int).toNat)], bstB x.2.2 (x.2.1.map i1)⟩)
      (fun x => ∃ pre : List (List Int), recs b.mats = pre ++ x.2.1 :: x.1 ∧ x.2.2 = pre.foldl (bstep right b.mats) ([], 0, false)) (fun x => x.1.length) (l0, leasts b.mats, [], 0, false) (by kernel_rfl) ⟨[], hl0, rfl⟩ ?_
    rintro ⟨rest, row, σ⟩ ⟨pre, hrs, hσ⟩
    simp only at hrs hσ
    have hrow := hrok row (by rw [hrs]; simp)
    have hrl := hrow.len
    have horb2 := orb_tail (hrs ▸ horb)
    have hend : ∀ σ', bstep right b.mats σ row = σ' → ∀ r', nextR b.mats row = some r' → ∃ l, rest = r' :: l ∧ recs b.mats = (pre ++ [row]) ++ r' :: l ∧ σ' = (pre ++ [row]).foldl (bstep right b.mats) ([], 0, false) := fun σ' hs r' hn => by
      cases rest with
      | nil => rw [horb2.1 rfl] at hn; cases hn
      | cons y l =>
        have := horb2.2 y l rfl
        rw [this] at hn; cases hn
        exact ⟨l, rfl, by rw [hrs]; simp, by rw [List.foldl_append, ← hσ]; exact hs.symm⟩
    have hlast : ∀ σ', bstep right b.mats σ row = σ' → nextR b.mats row = none → σ' = R := fun σ' hs hn => by
      cases rest with
      | nil => rw [← hR, bestF, hrs, List.foldl_append, ← hσ]; exact hs.symm
      | cons y l => rw [horb2.2 y l rfl] at hn; cases hn
    obtain ⟨X, n, f⟩ := σ
    conv => whnf
    refine ⟨rfl, ?_⟩
    conv => whnf
    rw [call2 (d := batD b) (e := rowD row) rfl (snap_row0 (s := 1002) (esz := 1) (els := row.map i1) rfl (by simp [hrl]))]
    conv => whnf
    refine ⟨_, costB_ok b hb row hrow, rfl, ?_⟩
    conv => whnf
    have hz : IntKind.wrap .i64 ((((b.mats.map matL).length : Int).toNat : Int) - 1) = (row.length : Int) - 1 := by
      rw [hrl, List.length_map, Int.toNat_natCast]; exact ew
    cases f
    · conv => whnf
      rw [call1 (d := rowD row) (snap_row0 (s := 1002) (esz := 1) (els := row.map i1) rfl (by simp [hrl]))]
      conv => whnf
      refine ⟨_, hg row hrow, rfl, ?_⟩
      cases cr : right row
      · have hbs : bstep right b.mats (X, n, false) row = (X, n, false) := by simp [bstep, cr]
        conv => whnf
        conv => whnf
        refine ⟨by simp [hrl], ?_⟩
        conv => whnf
        refine carry_loop b hb _ lp (X, n, false) row hrow (IntKind.wrap .i64 ((((b.mats.map matL).length : Int).toNat : Int) - 1)) hz _ _ _ ?_ ?_ ?_
        · exact fgtB rfl rfl rfl rfl rfl (by kernel_rfl)
        · intro r' hn s hs
          obtain ⟨l, rfl, h1, h2⟩ := hend _ hbs r' hn
          conv => whnf
          exact ⟨(l, r', (X, n, false)), fgtA hs, ⟨pre ++ [row], h1, h2⟩, by simp⟩
        · intro hn t'
          have e := hlast _ hbs hn
          subst e
          conv => whnf
          kernel_rfl
      · have hbs : bstep right b.mats (X, n, false) row = (row, costB b.mats row, true) := by simp [bstep, cr]
        conv => whnf
        rw [call1 (d := rowD row) (snap_row0 (s := 1002) (esz := 1) (els := row.map i1) rfl (by simp [hrl]))]
        conv => whnf
        refine ⟨_, clone_ok row (by omega), ?_⟩
        conv => whnf
        refine ⟨by simp [hrl], ?_⟩
        conv => whnf
        refine carry_loop b hb _ lp (row, costB b.mats row, true) row hrow (IntKind.wrap .i64 ((((b.mats.map matL).length : Int).toNat : Int) - 1)) hz _ _ _ ?_ ?_ ?_
        · exact fgtB rfl rfl rfl rfl rfl (by kernel_rfl)
        · intro r' hn s hs
          obtain ⟨l, rfl, h1, h2⟩ := hend _ hbs r' hn
          conv => whnf
          exact ⟨(l, r', (row, costB b.mats row, true)), fgtA hs, ⟨pre ++ [row], h1, h2⟩, by simp⟩
        · intro hn t'
          have e := hlast _ hbs hn
          subst e
          conv => whnf
          kernel_rfl
    · conv => whnf
      cases cn : decide (costB b.mats row < n)
      · have hn := of_decide_eq_false cn
        have hbs : bstep right b.mats (X, n, true) row = (X, n, true) := by simp [bstep, hn]
        conv => whnf
        conv => whnf
        refine ⟨by simp [hrl], ?_⟩
        conv => whnf
        refine carry_loop b hb _ lp (X, n, true) row hrow (IntKind.wrap .i64 ((((b.mats.map matL).length : Int).toNat : Int) - 1)) hz _ _ _ ?_ ?_ ?_
        · exact fgtB rfl rfl rfl rfl rfl (by kernel_rfl)
        · intro r' hn s hs
          obtain ⟨l, rfl, h1, h2⟩ := hend _ hbs r' hn
          conv => whnf
          exact ⟨(l, r', (X, n, true)), fgtA hs, ⟨pre ++ [row], h1, h2⟩, by simp⟩
        · intro hn t'
          have e := hlast _ hbs hn
          subst e
          conv => whnf
          kernel_rfl
      · have hn := of_decide_eq_true cn
        conv => whnf
        rw [call1 (d := rowD row) (snap_row0 (s := 1002) (esz := 1) (els := row.map i1) rfl (by simp [hrl]))]
        conv => whnf
        refine ⟨_, hg row hrow, rfl, ?_⟩
        cases cr : right row
        · have hbs : bstep right b.mats (X, n, true) row = (X, n, true) := by simp [bstep, cr]
          conv => whnf
          conv => whnf
          refine ⟨by simp [hrl], ?_⟩
          conv => whnf
          refine carry_loop b hb _ lp (X, n, true) row hrow (IntKind.wrap .i64 ((((b.mats.map matL).length : Int).toNat : Int) - 1)) hz _ _ _ ?_ ?_ ?_
          · exact fgtB rfl rfl rfl rfl rfl (by kernel_rfl)
          · intro r' hn s hs
            obtain ⟨l, rfl, h1, h2⟩ := hend _ hbs r' hn
            conv => whnf
            exact ⟨(l, r', (X, n, true)), fgtA hs, ⟨pre ++ [row], h1, h2⟩, by simp⟩
          · intro hn t'
            have e := hlast _ hbs hn
            subst e
            conv => whnf
            kernel_rfl
        · have hbs : bstep right b.mats (X, n, true) row = (row, costB b.mats row, true) := by simp [bstep, cr, hn]
          conv => whnf
          rw [call1 (d := rowD row) (snap_row0 (s := 1002) (esz := 1) (els := row.map i1) rfl (by simp [hrl]))]
          conv => whnf
          refine ⟨_, clone_ok row (by omega), ?_⟩
          conv => whnf
          refine ⟨by simp [hrl], ?_⟩
          conv => whnf
          refine carry_loop b hb _ lp (row, costB b.mats row, true) row hrow (IntKind.wrap .i64 ((((b.mats.map matL).length : Int).toNat : Int) - 1)) hz _ _ _ ?_ ?_ ?_
          · exact fgtB rfl rfl rfl rfl rfl (by kernel_rfl)
          · intro r' hn s hs
            obtain ⟨l, rfl, h1, h2⟩ := hend _ hbs r' hn
            conv => whnf
            exact ⟨(l, r', (row, costB b.mats row, true)), fgtA hs, ⟨pre ++ [row], h1, h2⟩, by simp⟩
          · intro hn t'
            have e := hlast _ hbs hn
            subst e
            conv => whnf
            kernel_rfl
  · have hk' : k < b.mats.length := by have := of_decide_eq_true c1; rw [List.length_map] at this; omega
    obtain ⟨m, hm⟩ := get_lt hk'
    obtain ⟨o, ho⟩ := get_lt (xs := row) (i := k) (by omega)
    have hset : ABlk.row 1 ((row.map i1).set (0 + ((k : Nat) : Int).toNat) (List.take 0 (i1 o) ++ [int m.least] ++ List.drop (0 + 1) (i1 o))) = .row 1 ((row.set k m.least).map i1) := by
      rw [Nat.zero_add, Int.toNat_natCast, List.map_set]; rfl
    conv => whnf
    refine ⟨by omega, _, (by first | exact gm (by assumption) | exact gz (by assumption)), ?_⟩
    conv => whnf
    refine ⟨by omega, by simp; omega, by simp [hrl], ?_⟩
    conv => whnf
    refine ⟨by simp [hrl], _, (by rw [Nat.zero_add]; exact gm ho), ?_⟩
    conv => whnf
    refine ⟨(IntKind.wrap .i64 ((k : Int) + 1), (row.set k m.least).map i1), ?_, ⟨k + 1, row.set k m.least, nx (by omega), by omega, rfl, by simp [hrl], ?_⟩, by simp only; rw [nx (by omega)]; omega⟩
    · exact fgtB rfl rfl rfl rfl hset (by kernel_rfl)
    · rw [List.take_add_one, List.take_set_of_le (by omega), hrt, List.take_add_one, hm]
      simp [leasts, show k < row.length by omega]
end Go.Proofs.YtalbkamkkceanaaGreatG
