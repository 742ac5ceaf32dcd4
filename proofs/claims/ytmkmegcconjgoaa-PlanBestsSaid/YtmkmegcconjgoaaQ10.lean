/- The program's enumeration sees just the plans that keep the season. No condition. -/
import Derived.Test.YtmkmegcconjgoaaQ9
set_option linter.unusedVariables false
set_option linter.unusedSimpArgs false
set_option maxRecDepth 100000
set_option maxHeartbeats 4000000
namespace Go.Proofs.YtmkmegcconjgoaaG
open Go Go.AM Go.Proofs

/-- Each is followed by its next one, the last by e. -/
def OrbTo {α : Type} (nx : α → Option α) : List α → Option α → Prop
  | [], _ => False
  | [x], e => nx x = e
  | x :: y :: l, e => nx x = some y ∧ OrbTo nx (y :: l) e
theorem OrbTo.append {α : Type} {nx : α → Option α} : ∀ {a : List α} {y : α} {b : List α} {e : Option α}, OrbTo nx a (some y) → OrbTo nx (y :: b) e → OrbTo nx (a ++ y :: b) e
  | [], _, _, _, h, _ => h.elim
  | [x], y, b, e, h, k => ⟨h, k⟩
  | x :: z :: l, y, b, e, h, k => ⟨h.1, OrbTo.append (a := z :: l) h.2 k⟩
theorem orb_tail {α : Type} {nx : α → Option α} : ∀ {pre : List α} {x : α} {rest : List α}, OrbTo nx (pre ++ x :: rest) none → (rest = [] → nx x = none) ∧ (∀ y l, rest = y :: l → nx x = some y)
  | [], x, [], h => ⟨fun _ => h, fun y l e => (nomatch e)⟩
  | [], x, y :: l, h => ⟨fun e => (nomatch e), fun y' l' e => by cases e; exact h.1⟩
  | [p], x, rest, h => orb_tail (pre := []) h.2
  | p :: q :: pre, x, rest, h => orb_tail (pre := q :: pre) h.2
def allC : List Nat → List (List Int)
  | [] => [[]]
  | n :: ns => (allC ns).flatMap fun r => (List.range' 0 n).map fun (c : Nat) => (c : Int) :: r
def nextC : List Nat → List Int → Option (List Int)
  | n :: ns, c :: r => if c + 1 < (n : Int) then some ((c + 1) :: r) else (nextC ns r).map fun r' => 0 :: r'
  | _, _ => none
theorem blk_orb {n : Nat} {ns : List Nat} {r : List Int} {e : Option (List Int)} (he : (nextC ns r).map (fun r' => (0 : Int) :: r') = e) : ∀ (k c : Nat), c + (k + 1) = n → OrbTo (nextC (n :: ns)) ((List.range' c (k + 1)).map fun (c : Nat) => (c : Int) :: r) e
  | 0, c, h => by
    show nextC (n :: ns) ((c : Int) :: r) = e
    simp only [nextC]
    rw [if_neg (show ¬ ((c : Int) + 1 < (n : Int)) by omega)]
    exact he
  | k + 1, c, h => by
    have ih := blk_orb (n := n) he k (c + 1) (by omega)
    simp only [List.range'_succ, List.map_cons] at ih ⊢
    refine ⟨?_, ih⟩
    simp only [nextC]
    rw [if_pos (show (c : Int) + 1 < (n : Int) by omega)]
    congr 2
theorem flat_orb {n : Nat} {ns : List Nat} (hn : 1 ≤ n) : ∀ {l : List (List Int)}, OrbTo (nextC ns) l none → OrbTo (nextC (n :: ns)) (l.flatMap fun r => (List.range' 0 n).map fun (c : Nat) => (c : Int) :: r) none
  | [], h => h.elim
  | [x], h => by
    simp only [List.flatMap_cons, List.flatMap_nil, List.append_nil]
    obtain ⟨k, rfl⟩ : ∃ k, n = k + 1 := ⟨n - 1, by omega⟩
    have h : nextC ns x = none := h
    exact blk_orb (by rw [h]; rfl) k 0 (by omega)
  | x :: y :: l, h => by
    have ih := flat_orb hn (l := y :: l) h.2
    obtain ⟨k, rfl⟩ : ∃ k, n = k + 1 := ⟨n - 1, by omega⟩
    have e : (y :: l).flatMap (fun r => (List.range' 0 (k + 1)).map fun (c : Nat) => (c : Int) :: r) = ((0 : Int) :: y) :: ((List.range' 1 k).map (fun (c : Nat) => (c : Int) :: y) ++ l.flatMap fun r => (List.range' 0 (k + 1)).map fun (c : Nat) => (c : Int) :: r) := by
      simp only [List.flatMap_cons, List.range'_succ, List.map_cons, List.cons_append]
      rfl
    rw [List.flatMap_cons, e]
    rw [e] at ih
    exact OrbTo.append (blk_orb (by rw [h.1]; rfl) k 0 (by omega)) ih
theorem allC_orb : ∀ {ns : List Nat}, (∀ n ∈ ns, 1 ≤ n) → OrbTo (nextC ns) (allC ns) none ∧ ∃ l, allC ns = List.replicate ns.length 0 :: l
  | [], _ => ⟨rfl, [], rfl⟩
  | n :: ns, h => by
    obtain ⟨ih, l, hl⟩ := allC_orb (ns := ns) (fun x hx => h x (by simp [hx]))
    have hn := h n (by simp)
    refine ⟨flat_orb hn ih, ?_⟩
    obtain ⟨k, rfl⟩ : ∃ k, n = k + 1 := ⟨n - 1, by omega⟩
    simp only [allC, hl, List.flatMap_cons, List.range'_succ, List.map_cons, List.cons_append, List.length_cons, List.replicate_succ]
    exact ⟨_, rfl⟩
theorem allC_mem : ∀ {ns : List Nat} {ch : List Int}, ch ∈ allC ns ↔ ch.length = ns.length ∧ ∀ (i n : Nat) (c : Int), ns[i]? = some n → ch[i]? = some c → 0 ≤ c ∧ c < (n : Int)
  | [], ch => by
    simp only [allC, List.mem_singleton]
    constructor
    · rintro rfl; exact ⟨rfl, fun i n c h => by simp at h⟩
    · intro h; exact List.length_eq_zero_iff.1 h.1
  | n :: ns, ch => by
    simp only [allC, List.mem_flatMap, List.mem_map, List.mem_range'_1]
    constructor
    · rintro ⟨r, hr, c, hc, rfl⟩
      obtain ⟨h1, h2⟩ := allC_mem.1 hr
      refine ⟨by simp [h1], fun i n' c' g1 g2 => ?_⟩
      cases i with
      | zero => simp at g1 g2; subst g1 g2; omega
      | succ i => exact h2 i n' c' (by simpa using g1) (by simpa using g2)
    · rintro ⟨h1, h2⟩
      cases ch with
      | nil => simp at h1
      | cons c r =>
        have h0 := h2 0 n c rfl rfl
        refine ⟨r, allC_mem.2 ⟨by simpa using h1, fun i n' c' g1 g2 => h2 (i + 1) n' c' (by simpa using g1) (by simpa using g2)⟩, c.toNat, by omega, ?_⟩
        congr 1; omega
theorem carry_go {ns : List Nat} {ch : List Int} {i n : Nat} {c : Int} (h : nextC ns ch = (nextC (ns.drop i) (ch.drop i)).map fun r => List.replicate i 0 ++ r) (hn : ns[i]? = some n) (hc : ch[i]? = some c) (hg : ¬ c + 1 < (n : Int)) :
    nextC ns ch = (nextC (ns.drop (i + 1)) (ch.drop (i + 1))).map fun r => List.replicate (i + 1) 0 ++ r := by
  rw [h, drop_at hn, drop_at hc]
  simp only [nextC]
  rw [if_neg hg, Option.map_map]
  congr 1
  funext r
  simp only [Function.comp, List.replicate_succ', List.append_assoc, List.singleton_append]
theorem carry_found {ns : List Nat} {ch : List Int} {i n : Nat} {c : Int} (h : nextC ns ch = (nextC (ns.drop i) (ch.drop i)).map fun r => List.replicate i 0 ++ r) (hn : ns[i]? = some n) (hc : ch[i]? = some c) (hg : c + 1 < (n : Int)) :
    nextC ns ch = some (List.replicate i 0 ++ (c + 1) :: ch.drop (i + 1)) := by
  rw [h, drop_at hn, drop_at hc]
  simp only [nextC]
  rw [if_pos hg]
  rfl
def setD (d : Nat) : List Int → List Int → Plan → Plan
  | m :: ms, x :: row, q => setD d ms row (q.set m.toNat ((q.getD m.toNat []).set d x))
  | _, _, q => q
theorem setD_len {d : Nat} : ∀ {ms row : List Int} {q : Plan}, (setD d ms row q).length = q.length
  | [], _, q => rfl
  | _ :: _, [], q => rfl
  | m :: ms, x :: row, q => by simp only [setD]; rw [setD_len]; simp
theorem setD_not {d i : Nat} : ∀ {ms row : List Int} {q : Plan}, (∀ m ∈ ms, m.toNat ≠ i) → (setD d ms row q)[i]? = q[i]?
  | [], _, q, _ => rfl
  | _ :: _, [], q, _ => rfl
  | m :: ms, x :: row, q, h => by
    simp only [setD]
    rw [setD_not fun y hy => h y (by simp [hy]), List.getElem?_set_ne (h m (by simp))]
theorem setD_at {d : Nat} : ∀ {ms row : List Int} {q : Plan} {j : Nat} {m x : Int}, ms.Pairwise (fun a b => a.toNat ≠ b.toNat) → ms[j]? = some m → row[j]? = some x → m.toNat < q.length →
    (setD d ms row q)[m.toNat]? = some ((q.getD m.toNat []).set d x)
  | [], _, q, j, m, x, _, h, _, _ => by simp at h
  | _ :: _, [], q, j, m, x, _, _, h, _ => by simp at h
  | m0 :: ms, x0 :: row, q, 0, m, x, hp, h1, h2, hq => by
    simp at h1 h2
    subst h1 h2
    have hp := List.pairwise_cons.1 hp
    simp only [setD]
    rw [setD_not fun y hy => (hp.1 y hy).symm]
    simp [hq]
  | m0 :: ms, x0 :: row, q, j + 1, m, x, hp, h1, h2, hq => by
    have hp := List.pairwise_cons.1 hp
    simp only [setD]
    rw [setD_at hp.2 (by simpa using h1) (by simpa using h2) (by simpa using hq)]
    have hne := hp.1 m (List.mem_of_getElem? (by simpa using h1 : ms[j]? = some m))
    congr 2
    simp only [List.getD]
    rw [List.getElem?_set_ne hne]
structure Shp (s : Season) (p : Plan) : Prop where
  len : p.length = s.makers.length
  rows : ∀ r ∈ p, (r.length : Int) = s.days
theorem setD_row {s : Season} {k d m : Nat} {M : Mk} {p : Plan} {row : List Int} (hp : Shp s p) (hr : row.length = (makersF s (k : Int)).length) (hM : s.makers[m]? = some M) (ho : M.oven = (k : Int)) :
    ∃ (j : Nat) (x : Int) (r : List Int), (makersF s (k : Int))[j]? = some (m : Int) ∧ row[j]? = some x ∧ p[m]? = some r ∧ (setD d (makersF s (k : Int)) row p)[m]? = some (r.set d x) := by
  have hm := (List.getElem?_eq_some_iff.1 hM).1
  have hl := hp.len
  obtain ⟨j, hj, hje⟩ := List.mem_iff_getElem.1 (makers_in hM ho)
  obtain ⟨x, hx⟩ := get_lt (xs := row) (i := j) (by omega)
  obtain ⟨r, hr2⟩ := get_lt (xs := p) (i := m) (by omega)
  have hj2 : (makersF s (k : Int))[j]? = some (m : Int) := by rw [List.getElem?_eq_getElem hj, hje]
  have hlt : (makersF s (k : Int)).Pairwise (fun a b => a.toNat ≠ b.toNat) := mkFrom_lt
  have := setD_at (d := d) (q := p) hlt hj2 hx (by simp; omega)
  rw [Int.toNat_natCast] at this
  exact ⟨j, x, r, hj2, hx, hr2, by rw [this, getD_of hr2]⟩
theorem setD_shp {s : Season} {k d : Nat} {p : Plan} {row : List Int} (hp : Shp s p) (hr : row.length = (makersF s (k : Int)).length) : Shp s (setD d (makersF s (k : Int)) row p) := by
  have hl := hp.len
  refine ⟨by rw [setD_len, hl], fun r hr2 => ?_⟩
  obtain ⟨m, hm, hme⟩ := List.mem_iff_getElem.1 hr2
  rw [setD_len] at hm
  obtain ⟨M, hM⟩ := get_lt (xs := s.makers) (i := m) (by omega)
  have hx : (setD d (makersF s (k : Int)) row p)[m]? = some r := by rw [List.getElem?_eq_getElem (by rw [setD_len]; exact hm), hme]
  by_cases ho : M.oven = (k : Int)
  · obtain ⟨j, x, r', h1, h2, h3, h4⟩ := setD_row (d := d) hp hr hM ho
    rw [h4] at hx
    cases hx
    rw [List.length_set]
    exact hp.rows r' (List.mem_of_getElem? h3)
  · rw [setD_not (makers_not hM ho)] at hx
    exact hp.rows r (List.mem_of_getElem? hx)
theorem setD_on {s : Season} {k d : Nat} {p : Plan} {row : List Int} (hp : Shp s p) (hr : row.length = (makersF s (k : Int)).length) (hd : (d : Int) < s.days) : onF s (setD d (makersF s (k : Int)) row p) (makersF s (k : Int)) (d : Int) = row := by
  refine onF_row' hr fun j m M x h1 h2 h3 h4 => ?_
  obtain ⟨j', x', r, g1, g2, g3, g4⟩ := setD_row (d := d) hp hr h3 h4
  have hlt : (makersF s (k : Int)).Pairwise (fun a b => a.toNat ≠ b.toNat) := mkFrom_lt
  have hj : j' = j := by
    obtain ⟨b1, e1⟩ := List.getElem?_eq_some_iff.1 g1
    obtain ⟨b2, e2⟩ := List.getElem?_eq_some_iff.1 h1
    rcases Nat.lt_trichotomy j' j with h6 | h6 | h6
    · exact absurd (by rw [e1, e2]) (List.pairwise_iff_getElem.1 hlt j' j b1 b2 h6)
    · exact h6
    · exact absurd (by rw [e1, e2]) (List.pairwise_iff_getElem.1 hlt j j' b2 b1 h6)
  subst hj
  rw [g2] at h2
  cases h2
  have hrl := hp.rows r (List.mem_of_getElem? g3)
  refine cell_of g4 ?_
  rw [List.getElem?_set_self (by omega)]
theorem setD_other {s : Season} {k d k' d' : Nat} {p : Plan} {row : List Int} (hp : Shp s p) (hr : row.length = (makersF s (k : Int)).length) (hne : ¬ (k' = k ∧ d' = d)) : onF s (setD d (makersF s (k : Int)) row p) (makersF s (k' : Int)) (d' : Int) = onF s p (makersF s (k' : Int)) (d' : Int) := by
  refine onF_same fun m M h1 h2 => ?_
  refine cell_eq ?_
  by_cases ho : k' = k
  · subst ho
    obtain ⟨j', x', r, g1, g2, g3, g4⟩ := setD_row (d := d) hp hr h1 h2
    rw [g4, g3]
    simp only [Option.bind_some]
    rw [List.getElem?_set_ne (by omega)]
  · rw [setD_not (makers_not h1 (by omega))]
theorem shp_eq {s : Season} (hf : Fr s) {p q : Plan} (hp : Shp s p) (hq : Shp s q) (h : ∀ (k d : Nat), k < s.ovens.length → (d : Int) < s.days → onF s p (makersF s (k : Int)) (d : Int) = onF s q (makersF s (k : Int)) (d : Int)) : p = q := by
  have hpl := hp.len
  have hql := hq.len
  refine plan_ext hpl hql fun m hm => ?_
  obtain ⟨M, hM⟩ := get_lt hm
  obtain ⟨r, hr⟩ := get_lt (xs := p) (i := m) (by omega)
  obtain ⟨t, ht⟩ := get_lt (xs := q) (i := m) (by omega)
  have hk := hf.maker M (List.mem_of_getElem? hM)
  have h1 := hp.rows r (List.mem_of_getElem? hr)
  have h2 := hq.rows t (List.mem_of_getElem? ht)
  have hd := hf.days
  rw [hr, ht]
  congr 1
  refine List.ext_getElem? fun d => ?_
  rcases Nat.lt_or_ge d r.length with h3 | h3
  · obtain ⟨x, hx⟩ := get_lt h3
    obtain ⟨y, hy⟩ := get_lt (xs := t) (i := d) (by omega)
    have h4 := h M.oven.toNat d (by omega) (by omega)
    have hin := makers_in (k := M.oven.toNat) hM (by omega)
    unfold onF at h4
    have h5 := List.map_inj_left.1 h4 _ hin
    rw [onA_cell, onA_cell, cell_of hr hx, cell_of ht hy] at h5
    rw [hx, hy, h5]
  · rw [List.getElem?_eq_none (by omega), List.getElem?_eq_none (by omega)]
def rowOf (s : Season) (k : Nat) (c : Int) : List Int := (shiftsF s (k : Int)).getD c.toNat []
def stepF (s : Season) (i : Nat) (c : Int) (p : Plan) : Plan := setD (i / s.ovens.length) (makersF s ((i % s.ovens.length : Nat) : Int)) (rowOf s (i % s.ovens.length) c) p
def fillL (s : Season) : Nat → List Int → Plan → Plan
  | _, [], p => p
  | i, c :: cs, p => fillL s (i + 1) cs (stepF s i c p)
def OkC (s : Season) (i : Nat) (c : Int) : Prop := 0 ≤ c ∧ c < ((shiftsF s ((i % s.ovens.length : Nat) : Int)).length : Int)
theorem rowOf_mem {s : Season} {k : Nat} {c : Int} (h : 0 ≤ c ∧ c < ((shiftsF s (k : Int)).length : Int)) : rowOf s k c ∈ shiftsF s (k : Int) := by
  obtain ⟨r, hr⟩ := get_lt (xs := shiftsF s (k : Int)) (i := c.toNat) (by omega)
  unfold rowOf
  rw [getD_of hr]
  exact List.mem_of_getElem? hr
theorem fill_on {s : Season} : ∀ {cs : List Int} {i : Nat} {p : Plan}, i + cs.length ≤ s.days.toNat * s.ovens.length → (∀ (j : Nat) (c : Int), cs[j]? = some c → OkC s (i + j) c) → Shp s p →
    Shp s (fillL s i cs p) ∧ ∀ (k d : Nat), k < s.ovens.length → (d : Int) < s.days → (d * s.ovens.length + k < i → onF s (fillL s i cs p) (makersF s (k : Int)) (d : Int) = onF s p (makersF s (k : Int)) (d : Int)) ∧
      (∀ (j : Nat) (c : Int), cs[j]? = some c → d * s.ovens.length + k = i + j → onF s (fillL s i cs p) (makersF s (k : Int)) (d : Int) = rowOf s k c)
  | [], i, p, _, _, hp => ⟨hp, fun k d hk hd => ⟨fun _ => rfl, fun j c h => by simp at h⟩⟩
  | c :: cs, i, p, hl, hc, hp => by
    simp only [List.length_cons] at hl
    have h0 := hc 0 c rfl
    have hO : 0 < s.ovens.length := by
      rcases Nat.eq_zero_or_pos s.ovens.length with h | h
      · rw [h] at hl; simp at hl
      · exact h
    have hrl : (rowOf s (i % s.ovens.length) c).length = (makersF s ((i % s.ovens.length : Nat) : Int)).length := (shifts_mem.1 (rowOf_mem h0)).1
    have hs1 : Shp s (stepF s i c p) := setD_shp hp hrl
    have ih := fill_on (s := s) (cs := cs) (i := i + 1) (p := stepF s i c p) (by omega) (fun j c' h => by have := hc (j + 1) c' (by simpa using h); rwa [show i + 1 + j = i + (j + 1) by omega]) hs1
    refine ⟨ih.1, fun k d hk hd => ?_⟩
    have hi := ih.2 k d hk hd
    have hdm : ∀ x : Nat, d * s.ovens.length + k = x → x % s.ovens.length = k ∧ x / s.ovens.length = d := fun x hx => by
      subst hx
      exact ⟨by rw [Nat.add_comm, Nat.add_mul_mod_self_right, Nat.mod_eq_of_lt hk], by rw [Nat.mul_comm, Nat.mul_add_div hO, Nat.div_eq_of_lt hk]; omega⟩
    have hmd : k = i % s.ovens.length ∧ d = i / s.ovens.length → d * s.ovens.length + k = i := fun h => by
      rw [h.1, h.2, Nat.mul_comm]; exact Nat.div_add_mod i s.ovens.length
    refine ⟨fun hlt => ?_, fun j c' hj hx => ?_⟩
    · simp only [fillL]
      rw [hi.1 (by omega)]
      exact setD_other hp hrl (fun h => by have := hmd h; omega)
    · cases j with
      | zero =>
        simp at hj
        subst hj
        obtain ⟨e1, e2⟩ := hdm i (by omega)
        simp only [fillL]
        rw [hi.1 (by omega)]
        have := setD_on (k := i % s.ovens.length) (d := i / s.ovens.length) hp hrl (by omega)
        unfold stepF
        rw [e1, e2] at this ⊢
        exact this
      | succ j =>
        simp only [fillL]
        exact hi.2 j c' (by simpa using hj) (by omega)
end Go.Proofs.YtmkmegcconjgoaaG
