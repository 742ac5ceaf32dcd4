/- FormingNear answers true. No condition. -/
import Derived.Test.YtgeficpcnlgnhaaC28
set_option linter.unusedVariables false
set_option linter.unusedSimpArgs false
set_option maxRecDepth 100000
set_option maxHeartbeats 8000000
namespace Go.Proofs.YtgeficpcnlgnhaaG
open Go Go.AM Go.Proofs

def denOK (x : Str) : Bool := !decide (x.1.2 < 1) && (!decide (x.2.2 < 1) && (!decide (1000000 < x.1.2) && !decide (1000000 < x.2.2)))
def ordF (cycle : Int) (l : List Str) : Bool := l.all denOK && (decide (1 ≤ cycle) && decide (cycle ≤ 3600))
theorem ordered_ok (cycle : Int) (l : List Str) (hl : l.length ≤ 1000) : PureFn Try.prog 20 [int cycle, strsD l] (boolD (ordF cycle l)) := by
  refine pureFn_by Try.func20 k20 rfl rfl ?_
  conv => whnf
  refine loopB (fun (x : Int) => ⟨mkT [(0, .d (int cycle)), (1, .d (strsD l)), (5, .d (int x))], mkB []⟩) (fun x => ∃ i : Nat, x = i ∧ i ≤ l.length ∧ (l.take i).all denOK = true) (fun x => (l.length - x).toNat) 0 (by kernel_rfl) ⟨0, rfl, by omega, by simp⟩ ?_
  rintro x ⟨i, rfl, hil, hall⟩
  conv => whnf
  rw [List.length_map]
  cases c1 : decide ((i : Int) < (l.length : Int))
  · have hi : i = l.length := by have := of_decide_eq_false c1; omega
    rw [hi, List.take_length] at hall
    unfold ordF
    rw [hall]
    conv => whnf
    cases c2 : decide (1 ≤ cycle)
    · conv => whnf
      kernel_rfl
    · conv => whnf
      kernel_rfl
  · have hi : i < l.length := by have := of_decide_eq_true c1; omega
    have hw := next_big (i := i) (by omega)
    have mem : l[i] ∈ l := List.getElem_mem _
    have hg : (l.map strL)[(i : Int).toNat]? = some (strL l[i]) := by rw [Int.toNat_natCast]; simp [hi]
    have hT : l.take (i + 1) = l.take i ++ [l[i]] := List.take_succ_eq_append_getElem hi
    generalize l[i] = y at mem hg hT
    have bad : denOK y = false → ordF cycle l = false := fun h => by
      unfold ordF
      rw [show l.all denOK = false by
        rw [List.all_eq_false]
        exact ⟨y, mem, by rw [h]; simp⟩]
      rfl
    conv => whnf
    refine ⟨by omega, _, hg, ?_⟩
    conv => whnf
    cases d1 : decide (y.1.2 < 1)
    case true =>
      rw [bad (by simp [denOK, of_decide_eq_true d1])]
      conv => whnf
      kernel_rfl
    conv => whnf
    refine ⟨by omega, _, hg, ?_⟩
    conv => whnf
    cases d2 : decide (y.2.2 < 1)
    case true =>
      rw [bad (by simp [denOK, of_decide_eq_true d2])]
      conv => whnf
      kernel_rfl
    conv => whnf
    refine ⟨by omega, _, hg, ?_⟩
    conv => whnf
    cases d3 : decide (1000000 < y.1.2)
    case true =>
      rw [bad (by simp [denOK, of_decide_eq_true d3])]
      conv => whnf
      kernel_rfl
    conv => whnf
    refine ⟨by omega, _, hg, ?_⟩
    conv => whnf
    cases d4 : decide (1000000 < y.2.2)
    case true =>
      rw [bad (by simp [denOK, of_decide_eq_true d4])]
      conv => whnf
      kernel_rfl
    conv => whnf
    refine ⟨IntKind.wrap .i64 ((i : Int) + 1), by kernel_rfl, ⟨i + 1, hw, hi, ?_⟩, by rw [hw]; omega⟩
    rw [hT, List.all_append, hall]
    simp [denOK, of_decide_eq_false d1, of_decide_eq_false d2, of_decide_eq_false d3, of_decide_eq_false d4]

theorem idx_bd (i : Int) {n : Nat} (h1 : 1 ≤ n) (h2 : n ≤ 1000) : 0 ≤ (IntKind.wrap .i64 (i.tmod n + n)).tmod n ∧ (IntKind.wrap .i64 (i.tmod n + n)).tmod n < n := by
  have a1 := Int.tmod_lt_of_pos i (show (0 : Int) < n by omega)
  have a2 : -(n : Int) < i.tmod n := by
    have := Int.lt_tmod_of_pos i (show (0 : Int) < n by omega)
    omega
  have e : IntKind.wrap .i64 (i.tmod n + n) = i.tmod n + n := wr_in ⟨by omega, by omega⟩
  rw [e]
  exact ⟨Int.tmod_nonneg _ (by omega), Int.tmod_lt_of_pos _ (by omega)⟩

theorem gapR_ok {c s : Int} {a b : List Str} (hc : 1 ≤ c ∧ c ≤ 3600) (hs : 0 ≤ s ∧ s < c) (ha : a.all (gokF c) = true) (hb : b.all (gokF c) = true) : GapR c a b s = ((gapF c s a b).1, !(gapF c s a b).2, 0) := by
  unfold GapR
  rw [ha, hb, show okCy c s = true by
    unfold okCy
    simp only [withinF, Bool.and_eq_true, decide_eq_true_eq]
    rw [show wr (c - 1) = c - 1 from wr_in ⟨by omega, by omega⟩]
    omega]
  rfl
theorem near_made {c : Int} {p q : Str} (hc : 1 ≤ c ∧ c ≤ 3600) {s : Int} (hs : 0 ≤ s ∧ s < c) (hp : Gs c p) (hq : Gs c q) (turn : Int) (ht : I64 turn) : ∃ (j : Int) (D : Int × Int), (-1 ≤ j ∧ j ≤ 1) ∧ Lw D ∧ D = minusE (plusE q.1 (s + j * c)) p.2 ∧
    PureFn Try.prog 21 [int (IntKind.wrap .i64 (IntKind.wrap .i64 (IntKind.wrap .i64 (q.1.1 + IntKind.wrap .i64 (IntKind.wrap .i64 (s + IntKind.wrap .i64 (IntKind.wrap .i64 ((IntKind.wrap .i64 (turn.tmod 3 + 3)).tmod 3 - 1) * c)) * q.1.2)) * p.2.2) - IntKind.wrap .i64 (p.2.1 * q.1.2))),
      int (IntKind.wrap .i64 (q.1.2 * p.2.2))] (ratD D) := by
  have t1 := idx_bd turn (n := 3) (by omega) (by omega)
  simp only [Int.cast_ofNat_Int] at t1
  generalize (IntKind.wrap .i64 (turn.tmod 3 + 3)).tmod 3 = t at t1
  have w0 : IntKind.wrap .i64 (t - 1) = t - 1 := wr_in ⟨by omega, by omega⟩
  have kb := mul_bd (x := t - 1) (y := c) (A := 2) (B := 3600) ⟨by omega, by omega⟩ ⟨by omega, by omega⟩
  have w1 : IntKind.wrap .i64 ((t - 1) * c) = (t - 1) * c := wr_in ⟨by omega, by omega⟩
  have hn : -15000 ≤ s + (t - 1) * c ∧ s + (t - 1) * c ≤ 15000 := by omega
  have w2 : IntKind.wrap .i64 (s + (t - 1) * c) = s + (t - 1) * c := wr_in ⟨by omega, by omega⟩
  have w3 : IntKind.wrap .i64 (q.1.1 + IntKind.wrap .i64 ((s + (t - 1) * c) * q.1.2)) = (plusE q.1 (s + (t - 1) * c)).1 := congrArg Prod.fst (plusE_eq hq.g.f hq.g.fd hn).1
  have l := lw_minus (bdp1 hq hn) (bd2 hp)
  have m := minus_bd (bdp1 hq hn) (bd2 hp)
  have dd : (plusE q.1 (s + (t - 1) * c)).2 = q.1.2 := rfl
  rw [dd] at m
  have w4 : IntKind.wrap .i64 ((plusE q.1 (s + (t - 1) * c)).1 * p.2.2) = (plusE q.1 (s + (t - 1) * c)).1 * p.2.2 := wr_in ⟨by omega, by omega⟩
  have w5 : IntKind.wrap .i64 (p.2.1 * q.1.2) = p.2.1 * q.1.2 := wr_in ⟨by omega, by omega⟩
  have w6 : IntKind.wrap .i64 (q.1.2 * p.2.2) = q.1.2 * p.2.2 := wr_in ⟨by omega, by omega⟩
  have w7 : IntKind.wrap .i64 ((plusE q.1 (s + (t - 1) * c)).1 * p.2.2 - p.2.1 * q.1.2) = (plusE q.1 (s + (t - 1) * c)).1 * p.2.2 - p.2.1 * q.1.2 := wr_in ⟨by omega, by omega⟩
  refine ⟨t - 1, _, by omega, l, rfl, ?_⟩
  rw [w0, w1, w2, w3, w4, w5, w6, w7]
  exact made_ok _ _ ⟨by omega, by omega⟩ (by omega) ⟨by omega, by omega⟩
theorem near_law (cycle : Int) (a b : List Str) (shift i k turn : Int) (hcI : I64 cycle) (ia : ∀ s ∈ a, (I64 s.1.1 ∧ I64 s.1.2) ∧ (I64 s.2.1 ∧ I64 s.2.2)) (ib : ∀ s ∈ b, (I64 s.1.1 ∧ I64 s.1.2) ∧ (I64 s.2.1 ∧ I64 s.2.2)) (hsI : I64 shift) (hiI : I64 i) (hkI : I64 k) (htI : I64 turn) :
    PureFn Try.prog 7 [int cycle, strsD a, strsD b, int shift, int i, int k, int turn] (boolD true) := by
  have ja : ∀ x ∈ a, I64 x.1.1 ∧ I64 x.2.1 := fun x hx => ⟨(ia x hx).1.1, (ia x hx).2.1⟩
  have jb : ∀ x ∈ b, I64 x.1.1 ∧ I64 x.2.1 := fun x hx => ⟨(ib x hx).1.1, (ib x hx).2.1⟩
  refine pureFn_by Try.func7 k7 rfl rfl ?_
  conv => whnf
  rw [List.length_map]
  cases c1 : decide (20 < (a.length : Int))
  case true =>
    conv => whnf
    exact ⟨_, turns_ok, rfl⟩
  conv => whnf
  rw [List.length_map]
  cases c2 : decide (20 < (b.length : Int))
  case true =>
    conv => whnf
    exact ⟨_, turns_ok, rfl⟩
  have la := of_decide_eq_false c1
  have lb := of_decide_eq_false c2
  conv => whnf
  refine ⟨_, ordered_ok cycle a (by omega), ?_⟩
  conv => whnf
  cases o1 : ordF cycle a
  · conv => whnf
    exact ⟨_, turns_ok, rfl⟩
  conv => whnf
  refine ⟨_, ordered_ok cycle b (by omega), ?_⟩
  conv => whnf
  cases o2 : ordF cycle b
  · conv => whnf
    exact ⟨_, turns_ok, rfl⟩
  have hcy : 1 ≤ cycle ∧ cycle ≤ 3600 := by
    simp only [ordF, Bool.and_eq_true, decide_eq_true_eq] at o1; exact o1.2
  clear o1 o2 c1 c2
  have x := Gap_ok cycle a b shift ja jb (by omega) (by omega)
  conv => whnf
  cases hk : (okCy cycle shift && (a.all (gokF cycle) && b.all (gokF cycle)))
  · rw [show GapR cycle a b shift = ((0, 0), false, 1) by unfold GapR; rw [hk]; rfl] at x
    refine ⟨_, x, ?_⟩
    conv => whnf
    refine ⟨_, turns_ok, ?_⟩
    conv => whnf
    kernel_rfl
  simp only [Bool.and_eq_true] at hk
  obtain ⟨hcs, ha, hb⟩ := hk
  have hsh : 0 ≤ shift ∧ shift < cycle := by
    simp only [okCy, withinF, Bool.and_eq_true, decide_eq_true_eq] at hcs
    rw [show wr (cycle - 1) = cycle - 1 from wr_in ⟨by omega, by omega⟩] at hcs
    omega
  have gs : ∀ {l : List Str}, (∀ x ∈ l, I64 x.1.1 ∧ I64 x.2.1) → l.all (gokF cycle) = true → ∀ x ∈ l, Gs cycle x := fun {l} hl hg x hx => by
    obtain ⟨h1, h2, h3, _⟩ := gokF_spec (hl x hx).1 (hl x hx).2 hcy (List.all_eq_true.1 hg x hx)
    exact ⟨h1, h2, h3⟩
  have ga := gs ja ha
  have gb := gs jb hb
  have hback : (IntKind.wrap .i64 (cycle - shift)).tmod cycle = back cycle shift := by
    rw [show IntKind.wrap .i64 (cycle - shift) = cycle - shift from wr_in ⟨by omega, by omega⟩]
    unfold back
    split
    · rename_i h; rw [h, Int.sub_zero]; simp
    · rw [Int.tmod_eq_of_lt (by omega) (by omega)]
  have hbs := back_bd hcy.1 hsh
  have y := Gap_ok cycle b a ((IntKind.wrap .i64 (cycle - shift)).tmod cycle) jb ja (by omega) (by omega)
  rw [gapR_ok hcy hsh ha hb] at x
  rw [show GapR cycle b a ((IntKind.wrap .i64 (cycle - shift)).tmod cycle) = ((gapF cycle shift a b).1, !(gapF cycle shift a b).2, 0) by
    rw [hback, gapR_ok hcy hbs hb ha, gap_back hcy hsh ga gb]] at y
  obtain ⟨e1, l1, z1, m1⟩ := gap_char hcy hsh ga gb
  -- the facts of what follows
  have half := gap_half hcy hsh ga gb
  have near : ∀ p ∈ a, ∀ q ∈ b, ∀ j : Int, -1 ≤ j → j ≤ 1 → 0 ≤ (minusE (plusE q.1 (shift + j * cycle)) p.2).1 → leQ (gapF cycle shift a b).1 (minusE (plusE q.1 (shift + j * cycle)) p.2) :=
    fun p hp q hq j j1 j2 hd => gap_near hcy hsh ga gb hp hq (by omega) (by omega) hd
  have ha' : (a.take (a.length - 1)).all (gokF cycle) = true := by
    rw [List.all_eq_true] at ha ⊢
    exact fun x hx => ha x (List.mem_of_mem_take hx)
  have ga' : ∀ x ∈ a.take (a.length - 1), Gs cycle x := fun x hx => ga x (List.mem_of_mem_take hx)
  have less := gap_less (a' := a.take (a.length - 1)) hcy hsh ga gb (fun x hx => List.mem_of_mem_take hx)
  obtain ⟨e3, l3, _, _⟩ := gap_char hcy hsh ga' gb
  have z := Gap_ok cycle (a.take (a.length - 1)) b shift (fun x hx => ja x (List.mem_of_mem_take hx)) jb (by simp; omega) (by omega)
  rw [gapR_ok hcy hsh ha' hb] at z
  have he3 : 2 ≤ a.length → 1 ≤ b.length → (gapF cycle shift (a.take (a.length - 1)) b).2 = true := fun h1 h2 => by
    rw [e3]
    have n1 : (a.take (a.length - 1)).isEmpty = false := by
      cases h : (a.take (a.length - 1)) with
      | nil => have := congrArg List.length h; simp at this; omega
      | cons => rfl
    have n2 : b.isEmpty = false := by cases b with | nil => simp at h2 | cons => rfl
    rw [n1, n2]; rfl
  generalize gapF cycle shift (a.take (a.length - 1)) b = Z at z less l3 he3
  clear e3
  generalize gapF cycle shift a b = G at x y e1 l1 z1 half near less
  clear m1
  obtain ⟨g, f⟩ := G
  obtain ⟨gz, fz⟩ := Z
  simp only at e1 l1 z1 half near less l3 he3
  refine ⟨_, x, ?_⟩
  conv => whnf
  refine ⟨by omega, ?_⟩
  conv => whnf
  refine ⟨_, y, ?_⟩
  cases f
  · rw [z1 rfl]
    conv => whnf
    rw [List.length_map]
    cases n1 : decide ((a.length : Int) = 0)
    case true =>
      conv => whnf
      refine ⟨_, lWhole_ok 0, ?_⟩
      conv => whnf
      refine ⟨_, turns_ok, ?_⟩
      conv => whnf
      kernel_rfl
    have n1' := of_decide_eq_false n1
    have n2 : decide ((b.length : Int) = 0) = true := by
      cases a with
      | nil => simp at n1'
      | cons => cases b with
        | nil => rfl
        | cons => simp at e1
    conv => whnf
    rw [List.length_map, n2]
    conv => whnf
    refine ⟨_, lWhole_ok 0, ?_⟩
    conv => whnf
    refine ⟨_, turns_ok, ?_⟩
    conv => whnf
    kernel_rfl
  have na : 1 ≤ a.length := by cases a with | nil => simp at e1 | cons => simp
  have nb : 1 ≤ b.length := by cases b with | nil => simp at e1 | cons => simp
  have half := half rfl
  have pick : ∀ (l : List Str) (n : Int), 1 ≤ l.length → l.length ≤ 20 → (((l.map strL).length : Int) ≠ 0) ∧ 0 ≤ (IntKind.wrap .i64 (n.tmod (l.map strL).length + (l.map strL).length)).tmod (l.map strL).length ∧
      ∃ p, p ∈ l ∧ (l.map strL)[((IntKind.wrap .i64 (n.tmod (l.map strL).length + (l.map strL).length)).tmod (l.map strL).length).toNat]? = some (strL p) := fun l n h1 h2 => by
    obtain ⟨i1, i2⟩ := idx_bd n h1 (by omega)
    rw [List.length_map]
    refine ⟨by omega, i1, l[((IntKind.wrap .i64 (n.tmod l.length + l.length)).tmod l.length).toNat]'(by omega), List.getElem_mem _, ?_⟩
    rw [List.getElem?_map, List.getElem?_eq_getElem (by omega)]; rfl
  have pa := pick a i na (by omega)
  have qb := pick b k nb (by omega)
  obtain ⟨p, hp, hgp⟩ := pa.2.2
  obtain ⟨q, hq, hgq⟩ := qb.2.2
  obtain ⟨j, D, hj, lD, hD, md⟩ := near_made hcy hsh (ga p hp) (gb q hq) turn htI
  have near := near p hp q hq j hj.1 hj.2
  rw [← hD] at near
  have rc : RI (red (cycle, 2)) := by
    have g0 := gcd_pos (n := cycle) (d := 2) (by omega)
    have gl := gcd_le (n := cycle) (d := 2) (by omega)
    exact ⟨ediv_i64 (by exact hcI) g0, by show 1 ≤ 2 / (Int.gcd cycle 2 : Int); exact Int.le_ediv_of_mul_le (by omega) (by omega), ediv_i64 (by unfold I64; simp) g0⟩
  conv => whnf
  rw [List.length_map, show decide ((a.length : Int) = 0) = false by simp; intro h; subst h; simp at na]
  conv => whnf
  rw [List.length_map, show decide ((b.length : Int) = 0) = false by simp; intro h; subst h; simp at nb]
  conv => whnf
  rw [dself, dself]
  conv => whnf
  refine ⟨_, made_ok cycle 2 ⟨by omega, by omega⟩ (by omega) (by simp [I64]), ?_⟩
  conv => whnf
  have q1 := less_ok (red (cycle, 2)) g rc l1.ri
  rw [ltF_not.2 half] at q1
  refine ⟨_, q1, ?_⟩
  conv => whnf
  refine ⟨pa.1, ?_⟩
  conv => whnf
  refine ⟨pa.1, ?_⟩
  conv => whnf
  refine ⟨pa.2.1, _, hgp, ?_⟩
  conv => whnf
  refine ⟨qb.1, ?_⟩
  conv => whnf
  refine ⟨qb.1, ?_⟩
  conv => whnf
  refine ⟨qb.2.1, _, hgq, ?_⟩
  conv => whnf
  refine ⟨by omega, ?_⟩
  conv => whnf
  refine ⟨by omega, ?_⟩
  conv => whnf
  refine ⟨_, md, ?_⟩
  have less1 : leQ g D → PureFn Try.prog 16 [ratD D, ratD g] (boolD false) := fun h => by
    have := less_ok D g lD.ri l1.ri
    rwa [ltF_not.2 h] at this
  have wl : IntKind.wrap .i64 (((a.map strL).length : Int) - 1) = ((a.length - 1 : Nat) : Int) := by
    rw [List.length_map, show IntKind.wrap .i64 ((a.length : Int) - 1) = (a.length : Int) - 1 from wr_in ⟨by omega, by omega⟩]; omega
  have hz : ((a.map strL).drop (Int.toNat 0)).take ((IntKind.wrap .i64 (((a.map strL).length : Int) - 1)).toNat - Int.toNat 0) = (a.take (a.length - 1)).map strL := by
    rw [wl, Int.toNat_natCast]; simp [List.map_take]
  have z : PureFn Try.prog 14 [int cycle, .list (((a.map strL).drop (Int.toNat 0)).take ((IntKind.wrap .i64 (((a.map strL).length : Int) - 1)).toNat - Int.toNat 0)), strsD b, int shift] (gpD (gz, !fz, 0)) := by rw [hz]; exact z
  have wl0 : 0 ≤ IntKind.wrap .i64 (((a.map strL).length : Int) - 1) ∧ IntKind.wrap .i64 (((a.map strL).length : Int) - 1) ≤ ((a.map strL).length : Int) := by rw [wl, List.length_map]; omega
  have wl1 : ((a.map strL).getD (Int.toNat 0) []).length = 4 := by
    cases a with
    | nil => simp at na
    | cons x a => rfl
  have less2 : decide (((a.map strL).length : Int) = 1) = false → PureFn Try.prog 16 [ratD gz, ratD g] (boolD false) := fun h => by
    have h := of_decide_eq_false h
    rw [List.length_map] at h
    have := less_ok gz g l3.ri l1.ri
    rwa [ltF_not.2 (less (he3 (by omega) nb))] at this
  obtain ⟨Dn, Dd⟩ := D
  cases Dn
  case' ofNat n =>
    have less1 := less1 (near (Int.natCast_nonneg n))
    conv => whnf
    refine ⟨_, less1, ?_⟩
  all_goals
    conv => whnf
    refine ⟨by omega, wl0.1, wl0.2, fun _ => wl1, ?_⟩
    conv => whnf
    refine ⟨_, z, ?_⟩
    conv => whnf
    refine Or.elim (Bool.eq_false_or_eq_true (decide (((a.map strL).length : Int) = 1))) (fun hl => ?_) (fun hl => ?_)
    · repeat ((conv => arg 2; rw [hl]); (conv => whnf))
      refine ⟨_, turns_ok, ?_⟩
      conv => whnf
      kernel_rfl
    · have less2 := less2 hl
      repeat ((conv => arg 2; rw [hl]); (conv => whnf))
      refine ⟨_, less2, ?_⟩
      conv => whnf
      repeat ((conv => arg 2; rw [hl]); (conv => whnf))
      refine ⟨_, turns_ok, ?_⟩
      conv => whnf
      kernel_rfl
end Go.Proofs.YtgeficpcnlgnhaaG
