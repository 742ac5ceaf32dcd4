/- The lines of a batch, part 3; what keeps them; costs; whether there are few recipes. No condition. -/
import Derived.Test.YtalbkamkkceanaaGreatB5
set_option linter.unusedVariables false
set_option linter.unusedSimpArgs false
set_option maxRecDepth 100000
set_option maxHeartbeats 4000000
namespace Go.Proofs.YtalbkamkkceanaaGreatG
open Go Go.AM Go.Proofs

def formLines (b : Bat) (f : Form) : List (List Int × Int) := [(b.mats.map (upF f), 0), (b.mats.map (downF f), 0)]
def lines0 (b : Bat) : List (List Int × Int) := (b.mats.map low1, -1000 * b.wanted) :: (formsF b).flatMap (formLines b)
def linesF (b : Bat) : List (List Int × Int) := lines0 b ++ [(b.mats.map (redUp b), 0), (b.mats.map (redDown b), 0)]
theorem con_of {b : Bat} (hb : Bf b) {m : Mat} (hm : m ∈ b.mats) : Con m.content := by
  have hx := hb.mat m hm
  have ho := hb.no
  exact ⟨by omega, hx.2.2.2.2.2.2.2.2.2.2.1⟩
theorem formOk_of {b : Bat} (hb : Bf b) {m : Mat} (hm : m ∈ b.mats) {f : Form} (hf : f ∈ formsF b) : FormOk m.content.length f := by
  have hx := hb.mat m hm
  rw [hx.2.2.2.2.2.2.2.2.2.1]
  exact forms_ok' hb f hf
theorem flat_len {α β : Type} {f : α → List β} (n : Nat) (h : ∀ x, (f x).length = n) : ∀ {l : List α}, (l.flatMap f).length = n * l.length
  | [] => by simp
  | x :: l => by rw [List.flatMap_cons, List.length_append, h, flat_len n h, List.length_cons, Nat.mul_succ]; omega
theorem lines_ok (b : Bat) (hb : Bf b) : PureFn Tryz.prog 38 [batD b] (linesD (linesF b)) := by
  have hfl := formsF_len hb
  have hw := hb.wanted
  have ew : IntKind.wrap .i64 (-1000 * b.wanted) = -1000 * b.wanted := wr_eq (by omega)
  refine pureFn_by Tryz.func38 k38 rfl rfl ?_
  conv => whnf
  refine ⟨_, line_ok b hb (IntKind.wrap .i64 (-1000 * b.wanted)) 71 [] low1 (fun m hm => lowm_ok m (con_of hb hm)), ?_⟩
  rw [ew]
  conv => whnf
  refine ⟨_, forms_ok b hb, ?_⟩
  conv => whnf
  refine loopB (fun (x : Int × List (List D) × Nat) => ⟨mkT [(1, .d (.fptr (cellsB b))), (3, .row 4 0 x.2.2 x.2.2), (15, .d (.list ((formsF b).map formL))), (16, .d (int ((formsF b).map formL).length)), (17, .d (int x.1))], mkB [(4, .row 2 x.2.1)]⟩)
    (fun x => ∃ k : Nat, x.1 = k ∧ k ≤ (formsF b).length ∧ x.2.1 ++ (((formsF b).drop k).flatMap (formLines b)).map lineL = (lines0 b).map lineL ∧ x.2.2 = x.2.1.length) (fun x => ((formsF b).length - x.1).toNat) (0, [lineL (b.mats.map low1, -1000 * b.wanted)], 1) (by kernel_rfl) ⟨0, rfl, by omega, rfl, rfl⟩ ?_
  rintro ⟨_, els, n⟩ ⟨k, rfl, hk, he, hn⟩
  simp only at he hn
  have hel : els.length ≤ 37 := by
    have h1 := congrArg List.length he
    have h2 : ((formsF b).flatMap (formLines b)).length = 2 * (formsF b).length := flat_len 2 (fun _ => rfl)
    rw [List.length_append, List.length_map, List.length_map, lines0, List.length_cons, h2] at h1
    omega
  conv => whnf
  cases c1 : decide ((k : Int) < (((formsF b).map formL).length : Int))
  · have hk' : k = (formsF b).length := by have := of_decide_eq_false c1; rw [List.length_map] at this; omega
    rw [hk', drop_end] at he
    have he : els = (lines0 b).map lineL := by simpa using he
    conv => whnf
    refine givI [(1, .d (.fptr (cellsB b))), (3, .row 4 0 n n), (6, .ptr 2 0), (7, .ptr 3 0)] [(2, .var [.d (int b.redox.1)]), (3, .var [.d (int b.redox.2)]), (4, .row 2 els)]
      [(1, .d (.fptr (cellsB b))), (3, .row 4 0 n n), (6, .d (.fptr [int b.redox.1])), (7, .d (.fptr [int b.redox.2]))] [(2, .dead), (3, .dead), (4, .row 2 els)] (by kernel_rfl)
      (fun s hs => by simp at hs; rcases hs with rfl | rfl <;> exact .inr ⟨_, rfl⟩) ⟨rfl, .inl rfl, rfl, .inl rfl, rfl, .inr ⟨_, rfl, rfl⟩, rfl, .inr ⟨_, rfl, rfl⟩, trivial⟩
      ⟨rfl, .inl ⟨rfl, rfl⟩, rfl, .inl ⟨rfl, rfl⟩, rfl, .inr ⟨rfl, .inl rfl⟩, trivial⟩ ?_
    conv => whnf
    refine ⟨_, line_ok b hb 0 79 [.fptr [int b.redox.2]] (redUp b) (fun m hm => redUp_ok b hb m hm (con_of hb hm)), ?_⟩
    conv => whnf
    refine ⟨_, line_ok b hb 0 80 [.fptr [int b.redox.1]] (redDown b) (fun m hm => redDown_ok b hb m hm (con_of hb hm)), ?_⟩
    conv => whnf
    refine ⟨rfl, rfl, hn, most_le (by simp; omega), ?_⟩
    conv => whnf
    refine (resA_row (s := 4) (n := els.length + 2) (esz := 2) (els := els ++ [lineL (b.mats.map (redUp b), 0), lineL (b.mats.map (redDown b), 0)]) rfl rfl (by simp)).trans ?_
    rw [he]
    show _ = some (D.list ((lines0 b ++ _).map lineL))
    rw [List.map_append]
    rfl
  · have hk' : k < (formsF b).length := by have := of_decide_eq_true c1; rw [List.length_map] at this; omega
    obtain ⟨f, hf⟩ := get_lt hk'
    have hfm := List.mem_of_getElem? hf
    rw [drop_at hf, List.flatMap_cons] at he
    conv => whnf
    refine ⟨by omega, _, (by first | exact gm (by assumption) | exact gz (by assumption)), ?_⟩
    conv => whnf
    refine givI [(1, .d (.fptr (cellsB b))), (3, .row 4 0 n n), (5, .ptr 1 0), (15, .d (.list ((formsF b).map formL))), (16, .d (int ((formsF b).map formL).length)), (17, .d (int (k : Int)))] [(1, .var [.d (.clo f.g [] f.caps), .d (int f.tg.1), .d (int f.tg.2)]), (4, .row 2 els)]
      [(1, .d (.fptr (cellsB b))), (3, .row 4 0 n n), (5, .d (.fptr (formL f))), (15, .d (.list ((formsF b).map formL))), (16, .d (int ((formsF b).map formL).length)), (17, .d (int (k : Int)))] [(1, .dead), (4, .row 2 els)] (by kernel_rfl)
      (fun s hs => by simp at hs; subst hs; exact .inr ⟨_, rfl⟩) ⟨rfl, .inl rfl, rfl, .inl rfl, rfl, .inr ⟨_, rfl, rfl⟩, rfl, .inl rfl, rfl, .inl rfl, rfl, .inl rfl, trivial⟩
      ⟨rfl, .inl ⟨rfl, rfl⟩, rfl, .inr ⟨rfl, .inl rfl⟩, trivial⟩ ?_
    conv => whnf
    refine ⟨_, line_ok b hb 0 74 [.fptr (formL f)] (upF f) (fun m hm => up_ok f m (con_of hb hm) (formOk_of hb hm hfm)), ?_⟩
    conv => whnf
    refine ⟨_, line_ok b hb 0 77 [.fptr (formL f)] (downF f) (fun m hm => down_ok f m (con_of hb hm) (formOk_of hb hm hfm)), ?_⟩
    conv => whnf
    refine ⟨rfl, rfl, hn, most_le (by simp; omega), ?_⟩
    conv => whnf
    exact ⟨(IntKind.wrap .i64 ((k : Int) + 1), els ++ [lineL (b.mats.map (upF f), 0), lineL (b.mats.map (downF f), 0)], els.length + 2), by kernel_rfl, ⟨k + 1, nx (by omega), by omega, by rw [← he]; simp [formLines], by simp⟩, by simp only; rw [nx (by omega)]; omega⟩
/-- The sum of products. -/
def dotF : List Int → List Int → Int
  | a :: r, c :: f => a * c + dotF r f
  | _, _ => 0
theorem dotF_at {r f : List Int} {i : Nat} {a c : Int} (h1 : r[i]? = some a) (h2 : f[i]? = some c) : dotF (r.drop i) (f.drop i) = a * c + dotF (r.drop (i + 1)) (f.drop (i + 1)) := by
  rw [drop_at h1, drop_at h2, dotF]
theorem dotF_nil {r : List Int} : dotF r [] = 0 := by cases r <;> rfl
/-- A recipe that may be. -/
structure Rok (ms : List Mat) (r : List Int) : Prop where
  len : r.length = ms.length
  el : ∀ k ∈ r, 0 ≤ k ∧ k ≤ 10000
theorem kg_bound {a c : Int} (ha : 0 ≤ a ∧ a ≤ 10000) (hc : -2000000000 ≤ c ∧ c ≤ 2000000000) : -20000000000000 ≤ a * c ∧ a * c ≤ 20000000000000 := by
  constructor
  · have h1 : a * -2000000000 ≤ a * c := Int.mul_le_mul_of_nonneg_left hc.1 ha.1
    omega
  · have h1 : a * c ≤ a * 2000000000 := Int.mul_le_mul_of_nonneg_left hc.2 ha.1
    omega
theorem value_ok (l : List Int × Int) (r : List Int) (hl : l.1.length ≤ 12) (hr : r.length = l.1.length) (hk : ∀ k ∈ r, 0 ≤ k ∧ k ≤ 10000) (hf : ∀ c ∈ l.1, -2000000000 ≤ c ∧ c ≤ 2000000000) :
    PureFn Tryz.prog 86 [.agg (lineL l), rowD r] (int (dotF r l.1)) := by
  refine pureFn_by Tryz.func86 k86 rfl rfl ?_
  obtain ⟨A, hA⟩ : ∃ A, dotF r l.1 = A := ⟨_, rfl⟩
  rw [hA]
  conv => whnf
  refine loopB (fun (x : Int × Int) => ⟨mkT [(1, .d (rowD r)), (5, .d (int x.2)), (9, .d (rowD l.1)), (10, .d (int (l.1.map i1).length)), (11, .d (int x.1))], mkB []⟩)
    (fun x => ∃ k : Nat, x.1 = k ∧ k ≤ l.1.length ∧ x.2 + dotF (r.drop k) (l.1.drop k) = A ∧ -20000000000000 * (k : Int) ≤ x.2 ∧ x.2 ≤ 20000000000000 * (k : Int)) (fun x => (l.1.length - x.1).toNat) (0, 0) (by kernel_rfl) ⟨0, rfl, by omega, by simpa using hA, by simp, by simp⟩ ?_
  rintro ⟨_, acc⟩ ⟨k, rfl, hkl, h1, a0, a1⟩
  simp only at h1 a0 a1
  conv => whnf
  cases c1 : decide ((k : Int) < ((l.1.map i1).length : Int))
  · have hk' : k = l.1.length := by have := of_decide_eq_false c1; rw [List.length_map] at this; omega
    rw [hk', drop_end, dotF_nil] at h1
    have h1 : acc = A := by omega
    rw [← h1]
    conv => whnf
    kernel_rfl
  · have hk' : k < l.1.length := by have := of_decide_eq_true c1; rw [List.length_map] at this; omega
    obtain ⟨c, hc⟩ := get_lt hk'
    obtain ⟨a, ha⟩ := get_lt (xs := r) (i := k) (by omega)
    have m1 := kg_bound (hk a (List.mem_of_getElem? ha)) (hf c (List.mem_of_getElem? hc))
    rw [dotF_at ha hc] at h1
    have e1 : IntKind.wrap .i64 (a * c) = a * c := wr_eq (by omega)
    have e3 : IntKind.wrap .i64 (acc + IntKind.wrap .i64 (a * c)) = acc + a * c := by rw [e1]; exact wr_eq (by omega)
    conv => whnf
    refine ⟨by omega, _, (by first | exact gm (by assumption) | exact gz (by assumption)), ?_⟩
    conv => whnf
    conv => whnf
    refine ⟨by omega, _, (by first | exact gm (by assumption) | exact gz (by assumption)), ?_⟩
    conv => whnf
    exact ⟨(IntKind.wrap .i64 ((k : Int) + 1), IntKind.wrap .i64 (acc + IntKind.wrap .i64 (a * c))), by kernel_rfl, ⟨k + 1, nx (by omega), by omega, by simp only; rw [e3]; omega, by simp only; rw [e3]; omega, by simp only; rw [e3]; omega⟩, by simp only; rw [nx (by omega)]; omega⟩
structure Lok (n : Nat) (l : List Int × Int) : Prop where
  len : l.1.length = n
  el : ∀ c ∈ l.1, -2000000000 ≤ c ∧ c ≤ 2000000000
  bd : -10000000 ≤ l.2 ∧ l.2 ≤ 0
def keepsB (ls : List (List Int × Int)) (r : List Int) : Bool := !ls.any fun l => decide (l.2 < dotF r l.1)
theorem keep1_ok (l : List Int × Int) (r : List Int) {n : Nat} (hn : n ≤ 12) (hl : Lok n l) (hr : r.length = n) (hk : ∀ k ∈ r, 0 ≤ k ∧ k ≤ 10000) :
    PureFn Tryz.prog 85 [.agg (lineL l), .fptr [rowD r], .fptr [int 1]] (boolD (decide (l.2 < dotF r l.1))) := by
  have hb := hl.bd
  have e : IntKind.wrap .i64 (1 * l.2) = l.2 := by rw [wr_eq (by omega)]; omega
  rw [← congrArg (fun z => decide (z < dotF r l.1)) e]
  refine pureFn_by Tryz.func85 k85 rfl rfl ?_
  conv => whnf
  refine ⟨_, value_ok l r (by rw [hl.len]; exact hn) (by rw [hr, hl.len]) hk hl.el, ?_⟩
  conv => whnf
  kernel_rfl
theorem keepsB_ok (ls : List (List Int × Int)) (r : List Int) {n : Nat} (hn : n ≤ 12) (hl : ∀ l ∈ ls, Lok n l) (hll : ls.length ≤ 100) (hr : r.length = n) (hk : ∀ k ∈ r, 0 ≤ k ∧ k ≤ 10000) :
    PureFn Tryz.prog 41 [linesD ls, rowD r, int 1] (boolD (keepsB ls r)) := by
  refine pureFn_by Tryz.func41 k41 rfl rfl ?_
  conv => whnf
  refine ⟨_, anyLine_ok (fun l : List Int × Int => rowD l.1) (fun l : List Int × Int => int l.2) ls (fun l => decide (l.2 < dotF r l.1)) 85 [.fptr [rowD r], .fptr [int 1]] (by omega) (fun l h => keep1_ok l r hn (hl l h) hr hk), ?_⟩
  conv => whnf
  kernel_rfl
def costB (ms : List Mat) (r : List Int) : Int := dotF r (ms.map (·.price))
theorem costB_ok (b : Bat) (hb : Bf b) (r : List Int) (hr : Rok b.mats r) : PureFn Tryz.prog 82 [batD b, rowD r] (int (costB b.mats r)) := by
  have hnm := hb.nm
  have hrl := hr.len
  refine pureFn_by Tryz.func82 k82 rfl rfl ?_
  obtain ⟨A, hA⟩ : ∃ A, costB b.mats r = A := ⟨_, rfl⟩
  rw [hA]
  conv => whnf
  refine loopB (fun (x : Int × Int) => ⟨mkT [(1, .d (rowD r)), (5, .d (int x.2)), (9, .d (.list (b.mats.map matL))), (10, .d (int (b.mats.map matL).length)), (11, .d (int x.1))], mkB []⟩)
    (fun x => ∃ k : Nat, x.1 = k ∧ k ≤ b.mats.length ∧ x.2 + costB (b.mats.drop k) (r.drop k) = A ∧ 0 ≤ x.2 ∧ x.2 ≤ 100000000 * (k : Int)) (fun x => (b.mats.length - x.1).toNat) (0, 0) (by kernel_rfl) ⟨0, rfl, by omega, by simpa using hA, by simp, by simp⟩ ?_
  rintro ⟨_, acc⟩ ⟨k, rfl, hkl, h1, a0, a1⟩
  simp only at h1 a0 a1
  conv => whnf
  cases c1 : decide ((k : Int) < ((b.mats.map matL).length : Int))
  · have hk' : k = b.mats.length := by have := of_decide_eq_false c1; rw [List.length_map] at this; omega
    rw [hk', drop_end] at h1
    have h1 : acc = A := by simpa [costB, dotF_nil] using h1
    rw [← h1]
    conv => whnf
    kernel_rfl
  · have hk' : k < b.mats.length := by have := of_decide_eq_true c1; rw [List.length_map] at this; omega
    obtain ⟨m, hm⟩ := get_lt hk'
    obtain ⟨a, ha⟩ := get_lt (xs := r) (i := k) (by omega)
    have hak := hr.el a (List.mem_of_getElem? ha)
    have hmp := hb.mat m (List.mem_of_getElem? hm)
    have m0 : 0 ≤ a * m.price := Int.mul_nonneg (by omega) (by omega)
    have m1 : a * m.price ≤ 10000 * 10000 := Int.mul_le_mul hak.2 hmp.2.1 (by omega) (by omega)
    have h1 : acc + (a * m.price + costB (b.mats.drop (k + 1)) (r.drop (k + 1))) = A := by
      rw [← h1, drop_at hm, drop_at ha]; rfl
    have e1 : IntKind.wrap .i64 (a * m.price) = a * m.price := wr_eq (by omega)
    have e3 : IntKind.wrap .i64 (acc + IntKind.wrap .i64 (a * m.price)) = acc + a * m.price := by rw [e1]; exact wr_eq (by omega)
    conv => whnf
    refine ⟨by omega, _, (by first | exact gm (by assumption) | exact gz (by assumption)), ?_⟩
    conv => whnf
    conv => whnf
    refine ⟨by omega, _, (by first | exact gm (by assumption) | exact gz (by assumption)), ?_⟩
    conv => whnf
    exact ⟨(IntKind.wrap .i64 ((k : Int) + 1), IntKind.wrap .i64 (acc + IntKind.wrap .i64 (a * m.price))), by kernel_rfl, ⟨k + 1, nx (by omega), by omega, by simp only; rw [e3]; omega, by simp only; rw [e3]; omega, by simp only; rw [e3]; omega⟩, by simp only; rw [nx (by omega)]; omega⟩
/-- How many kilograms of a material may be. -/
def kn (m : Mat) : Int := (m.most - m.least).tdiv m.step + 1
def fewL : List Mat → Int → Bool
  | [], _ => true
  | m :: l, n => if 100000 < n * kn m then false else fewL l (n * kn m)
theorem kn_bound {b : Bat} (hb : Bf b) {m : Mat} (hm : m ∈ b.mats) : 1 ≤ kn m ∧ kn m ≤ 10001 := by
  have hx := hb.mat m hm
  unfold kn
  rw [Int.tdiv_eq_ediv_of_nonneg (by omega)]
  have h1 : 0 ≤ (m.most - m.least) / m.step := Int.ediv_nonneg (by omega) (by omega)
  have h2 : (m.most - m.least) / m.step ≤ m.most - m.least := Int.ediv_le_self _ (by omega)
  omega
theorem few_ok (b : Bat) (hb : Bf b) : PureFn Tryz.prog 37 [batD b] (boolD (fewL b.mats 1)) := by
  have hnm := hb.nm
  refine pureFn_by Tryz.func37 k37 rfl rfl ?_
  obtain ⟨A, hA⟩ : ∃ A, fewL b.mats 1 = A := ⟨_, rfl⟩
  rw [hA]
  conv => whnf
  refine loopB (fun (x : Int × Int) => ⟨mkT [(3, .d (int x.2)), (7, .d (.list (b.mats.map matL))), (8, .d (int (b.mats.map matL).length)), (9, .d (int x.1))], mkB []⟩)
    (fun x => ∃ k : Nat, x.1 = k ∧ k ≤ b.mats.length ∧ fewL (b.mats.drop k) x.2 = A ∧ 0 ≤ x.2 ∧ x.2 ≤ 100000) (fun x => (b.mats.length - x.1).toNat) (0, 1) (by kernel_rfl) ⟨0, rfl, by omega, by simpa using hA, by simp, by simp⟩ ?_
  rintro ⟨_, n⟩ ⟨k, rfl, hkl, h1, a0, a1⟩
  simp only at h1 a0 a1
  conv => whnf
  cases c1 : decide ((k : Int) < ((b.mats.map matL).length : Int))
  · have hk' : k = b.mats.length := by have := of_decide_eq_false c1; rw [List.length_map] at this; omega
    rw [hk', drop_end] at h1
    rw [← h1]
    conv => whnf
    kernel_rfl
  · have hk' : k < b.mats.length := by have := of_decide_eq_true c1; rw [List.length_map] at this; omega
    obtain ⟨m, hm⟩ := get_lt hk'
    have hx := hb.mat m (List.mem_of_getElem? hm)
    have hkn := kn_bound hb (List.mem_of_getElem? hm)
    rw [drop_at hm, fewL] at h1
    have e1 : IntKind.wrap .i64 (m.most - m.least) = m.most - m.least := wr_eq (by omega)
    have e2 : IntKind.wrap .i64 ((IntKind.wrap .i64 (m.most - m.least)).tdiv m.step) = (m.most - m.least).tdiv m.step := by rw [e1]; exact wr_eq (by unfold kn at hkn; omega)
    have e3 : IntKind.wrap .i64 (IntKind.wrap .i64 ((IntKind.wrap .i64 (m.most - m.least)).tdiv m.step) + 1) = kn m := by rw [e2]; exact wr_eq (by unfold kn at hkn; omega)
    have m0 : 0 ≤ n * kn m := Int.mul_nonneg (by omega) (by omega)
    have m1 : n * kn m ≤ 100000 * 10001 := Int.mul_le_mul a1 hkn.2 (by omega) (by omega)
    have e4 : IntKind.wrap .i64 (n * kn m) = n * kn m := wr_eq (by omega)
    conv => whnf
    refine ⟨by omega, _, (by first | exact gm (by assumption) | exact gz (by assumption)), ?_⟩
    conv => whnf
    refine ⟨by omega, ?_⟩
    conv => whnf
    rw [e3, e4]
    cases c2 : decide (n * kn m > 100000)
    · have := of_decide_eq_false c2
      rw [if_neg this] at h1
      conv => whnf
      exact ⟨(IntKind.wrap .i64 ((k : Int) + 1), n * kn m), by kernel_rfl, ⟨k + 1, nx (by omega), by omega, h1, m0, by simp only; omega⟩, by simp only; rw [nx (by omega)]; omega⟩
    · have := of_decide_eq_true c2
      rw [if_pos this] at h1
      rw [← h1]
      conv => whnf
      kernel_rfl
end Go.Proofs.YtalbkamkkceanaaGreatG
