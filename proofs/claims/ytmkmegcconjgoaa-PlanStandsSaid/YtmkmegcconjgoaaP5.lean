/- A furnace's machines; the colour of a shift. No condition. -/
import Derived.Test.YtmkmegcconjgoaaP4
set_option linter.unusedVariables false
set_option linter.unusedSimpArgs false
set_option maxRecDepth 100000
set_option maxHeartbeats 4000000
namespace Go.Proofs.YtmkmegcconjgoaaG
open Go Go.AM Go.Proofs

theorem resA_row {σ : St} {i s n esz : Nat} {els : List (List D)} (h1 : σ.t i = .row s 0 n n) (h2 : σ.b s = .row esz els) (h3 : n = els.length) : resA [.t i] σ = some (.list els) := by
  subst h3; simp [resA, readRV, h1, snap, h2]
theorem most_le {n : Nat} (h : n ≤ 1000000) : n ≤ most := by unfold most; omega

def mkFrom (k : Int) : List Mk → Nat → List Int
  | [], _ => []
  | m :: ms, i => if m.oven = k then (i : Int) :: mkFrom k ms (i + 1) else mkFrom k ms (i + 1)
def makersF (s : Season) (k : Int) : List Int := mkFrom k s.makers 0
theorem mkFrom_mem {k : Int} : ∀ {ms : List Mk} {i : Nat} {x : Int}, x ∈ mkFrom k ms i → (i : Int) ≤ x ∧ x < (i + ms.length : Nat)
  | [], i, x, h => by simp [mkFrom] at h
  | m :: ms, i, x, h => by
    unfold mkFrom at h
    split at h
    · rcases List.mem_cons.1 h with rfl | h
      · simp; omega
      · have := mkFrom_mem h; simp at this ⊢; omega
    · have := mkFrom_mem h; simp at this ⊢; omega
theorem mkFrom_len {k : Int} : ∀ {ms : List Mk} {i : Nat}, (mkFrom k ms i).length ≤ ms.length
  | [], i => by simp [mkFrom]
  | m :: ms, i => by
    unfold mkFrom
    have := mkFrom_len (k := k) (ms := ms) (i := i + 1)
    split <;> simp <;> omega
theorem makersF_len (s : Season) (k : Int) : (makersF s k).length ≤ s.makers.length := mkFrom_len
theorem makersF_mem {s : Season} {k x : Int} (h : x ∈ makersF s k) : 0 ≤ x ∧ x < s.makers.length := by
  have := mkFrom_mem h; simp at this; omega

theorem makers_ok (s : Season) (hs : Sm s) (k : Int) : PureFn Try.prog 53 [seasonD s, int k] (rowD (makersF s k)) := by
  have hm := hs.makers
  refine pureFn_by Try.func53 k53 rfl rfl ?_
  conv => whnf
  refine loopB (fun (x : Int × List (List D) × Nat) => ⟨mkT [(1, .d (int k)), (5, .row 2 0 x.2.2 x.2.2), (9, .d (.list (s.makers.map mkL))), (10, .d (int (s.makers.map mkL).length)), (11, .d (int x.1))], mkB [(2, .row 1 x.2.1)]⟩)
    (fun x => ∃ (i : Nat) (acc : List Int), x.1 = i ∧ i ≤ s.makers.length ∧ x.2.1 = acc.map i1 ∧ x.2.2 = x.2.1.length ∧ acc ++ mkFrom k (s.makers.drop i) i = makersF s k) (fun x => (s.makers.length - x.1).toNat) (0, [], 0) (by kernel_rfl) ⟨0, [], rfl, by omega, rfl, rfl, rfl⟩ ?_
  rintro ⟨_, els, n⟩ ⟨i, acc, rfl, hi, he, hn, hb⟩
  simp only at he hn
  conv => whnf
  rw [List.length_map]
  cases c1 : decide ((i : Int) < (s.makers.length : Int))
  · have hi' : i = s.makers.length := by have := of_decide_eq_false c1; omega
    rw [hi', drop_end] at hb
    simp only [mkFrom, List.append_nil] at hb
    conv => whnf
    refine (resA_row (s := 2) (n := n) (esz := 1) (els := els) rfl rfl hn).trans ?_
    rw [he, hb]
  · have hi' : i < s.makers.length := by have := of_decide_eq_true c1; omega
    obtain ⟨m, hx⟩ := get_lt hi'
    rw [drop_at hx, mkFrom] at hb
    have hlen : acc.length ≤ 10 := by
      have := congrArg List.length hb
      have h2 := makersF_len s k
      split at this <;> simp at this <;> omega
    conv => whnf
    refine ⟨by omega, _, gm hx, ?_⟩
    conv => whnf
    cases c2 : decide (m.oven = k)
    · have h2 := of_decide_eq_false c2
      rw [if_neg h2] at hb
      conv => whnf
      exact ⟨(IntKind.wrap .i64 ((i : Int) + 1), els, n), by kernel_rfl, ⟨i + 1, acc, nx (by omega), by omega, he, hn, hb⟩, by simp only; rw [nx (by omega)]; omega⟩
    · have h2 := of_decide_eq_true c2
      rw [if_pos h2] at hb
      conv => whnf
      refine ⟨rfl, rfl, hn, most_le (by rw [he]; simp; omega), ?_⟩
      conv => whnf
      exact ⟨(IntKind.wrap .i64 ((i : Int) + 1), els ++ [[int (i : Int)]], els.length + 1), by kernel_rfl, ⟨i + 1, acc ++ [(i : Int)], nx (by omega), by omega, by rw [he]; simp, by simp, by simpa using hb⟩, by simp only; rw [nx (by omega)]; omega⟩

theorem makers_ok' (s : Season) (hs : Sm s) (k : Int) : PureFn Try.prog 58 [seasonD s, int k] (rowD (makersF s k)) := by
  have hm := hs.makers
  refine pureFn_by Try.func58 k58 rfl rfl ?_
  conv => whnf
  refine loopB (fun (x : Int × List (List D) × Nat) => ⟨mkT [(1, .d (int k)), (2, .d (.fptr (cellsS s))), (5, .row 1 0 x.2.2 x.2.2), (6, .d (int x.1))], mkB [(1, .row 1 x.2.1)]⟩)
    (fun x => ∃ (i : Nat) (acc : List Int), x.1 = i ∧ i ≤ s.makers.length ∧ x.2.1 = acc.map i1 ∧ x.2.2 = x.2.1.length ∧ acc ++ mkFrom k (s.makers.drop i) i = makersF s k) (fun x => (s.makers.length - x.1).toNat) (0, [], 0) (by kernel_rfl) ⟨0, [], rfl, by omega, rfl, rfl, rfl⟩ ?_
  rintro ⟨_, els, n⟩ ⟨i, acc, rfl, hi, he, hn, hb⟩
  simp only at he hn
  conv => whnf
  rw [List.length_map]
  cases c1 : decide ((i : Int) < (s.makers.length : Int))
  · have hi' : i = s.makers.length := by have := of_decide_eq_false c1; omega
    rw [hi', drop_end] at hb
    simp only [mkFrom, List.append_nil] at hb
    conv => whnf
    refine (resA_row (s := 1) (n := n) (esz := 1) (els := els) rfl rfl hn).trans ?_
    rw [he, hb]
  · have hi' : i < s.makers.length := by have := of_decide_eq_true c1; omega
    obtain ⟨m, hx⟩ := get_lt hi'
    rw [drop_at hx, mkFrom] at hb
    have hlen : acc.length ≤ 10 := by
      have := congrArg List.length hb
      have h2 := makersF_len s k
      split at this <;> simp at this <;> omega
    conv => whnf
    refine ⟨by omega, _, gm hx, ?_⟩
    conv => whnf
    cases c2 : decide (m.oven = k)
    · have h2 := of_decide_eq_false c2
      rw [if_neg h2] at hb
      conv => whnf
      exact ⟨(IntKind.wrap .i64 ((i : Int) + 1), els, n), by kernel_rfl, ⟨i + 1, acc, nx (by omega), by omega, he, hn, hb⟩, by simp only; rw [nx (by omega)]; omega⟩
    · have h2 := of_decide_eq_true c2
      rw [if_pos h2] at hb
      conv => whnf
      refine ⟨rfl, rfl, hn, most_le (by rw [he]; simp; omega), ?_⟩
      conv => whnf
      exact ⟨(IntKind.wrap .i64 ((i : Int) + 1), els ++ [[int (i : Int)]], els.length + 1), by kernel_rfl, ⟨i + 1, acc ++ [(i : Int)], nx (by omega), by omega, by rw [he]; simp, by simp, by simpa using hb⟩, by simp only; rw [nx (by omega)]; omega⟩

def colA (s : Season) (a : Int) : Int := ((s.arts[a.toNat]?).map (·.colour)).getD 0
def wgt (s : Season) (a : Int) : Int := ((s.arts[a.toNat]?).map (·.weight)).getD 0
def rateF (s : Season) (m a : Int) : Int := ((s.makers[m.toNat]?).bind (·.rates[a.toNat]?)).getD 0
def colF (s : Season) : List Int → Int
  | [] => -1
  | a :: r => if 0 ≤ a then colA s a else colF s r
/-- A shift's articles are the season's. -/
def Arts (s : Season) (l : List Int) : Prop := ∀ a ∈ l, -1 ≤ a ∧ a < s.arts.length

theorem art_get {s : Season} {a : Int} (h0 : 0 ≤ a) (h : a < s.arts.length) : ∃ x, s.arts[a.toNat]? = some x ∧ colA s a = x.colour ∧ wgt s a = x.weight := by
  obtain ⟨x, hx⟩ := get_lt (xs := s.arts) (i := a.toNat) (by omega)
  exact ⟨x, hx, by simp [colA, hx], by simp [wgt, hx]⟩

theorem colour_ok (s : Season) (l : List Int) (hl : l.length < 1000000) (hA : Arts s l) : PureFn Try.prog 87 [seasonD s, rowD l] (int (colF s l)) := by
  refine pureFn_by Try.func87 k87 rfl rfl ?_
  conv => whnf
  refine loopB (fun (x : Int) => ⟨mkT [(2, .d (.fptr (cellsS s))), (7, .d (rowD l)), (8, .d (int (l.map i1).length)), (9, .d (int x))], mkB []⟩)
    (fun x => ∃ i : Nat, x = i ∧ i ≤ l.length ∧ colF s (l.drop i) = colF s l) (fun x => (l.length - x).toNat) 0 (by kernel_rfl) ⟨0, rfl, by omega, rfl⟩ ?_
  rintro _ ⟨i, rfl, hi, hb⟩
  conv => whnf
  rw [List.length_map]
  cases c1 : decide ((i : Int) < (l.length : Int))
  · have hi' : i = l.length := by have := of_decide_eq_false c1; omega
    rw [hi', drop_end] at hb
    rw [← hb]
    conv => whnf
    kernel_rfl
  · have hi' : i < l.length := by have := of_decide_eq_true c1; omega
    obtain ⟨a, hx⟩ := get_lt hi'
    have ha := hA a (List.mem_of_getElem? hx)
    rw [drop_at hx, colF] at hb
    conv => whnf
    refine ⟨by omega, _, gm hx, ?_⟩
    conv => whnf
    cases c2 : decide (0 ≤ a)
    · rw [if_neg (of_decide_eq_false c2)] at hb
      conv => whnf
      exact ⟨IntKind.wrap .i64 ((i : Int) + 1), by kernel_rfl, ⟨i + 1, nx (by omega), by omega, hb⟩, by rw [nx (by omega)]; omega⟩
    · have h0 := of_decide_eq_true c2
      obtain ⟨x, hax, hc, _⟩ := art_get h0 ha.2
      rw [if_pos h0, hc] at hb
      rw [← hb]
      conv => whnf
      refine ⟨h0, _, gz hax, ?_⟩
      conv => whnf
      kernel_rfl

theorem colour_ok' (s : Season) (l : List Int) (hl : l.length < 1000000) (hA : Arts s l) : PureFn Try.prog 101 [seasonD s, rowD l] (int (colF s l)) := by
  refine pureFn_by Try.func101 k101 rfl rfl ?_
  conv => whnf
  refine loopB (fun (x : Int) => ⟨mkT [(1, .d (rowD l)), (2, .d (.fptr (cellsS s))), (5, .d (int x))], mkB []⟩)
    (fun x => ∃ i : Nat, x = i ∧ i ≤ l.length ∧ colF s (l.drop i) = colF s l) (fun x => (l.length - x).toNat) 0 (by kernel_rfl) ⟨0, rfl, by omega, rfl⟩ ?_
  rintro _ ⟨i, rfl, hi, hb⟩
  conv => whnf
  rw [List.length_map]
  cases c1 : decide ((i : Int) < (l.length : Int))
  · have hi' : i = l.length := by have := of_decide_eq_false c1; omega
    rw [hi', drop_end] at hb
    rw [← hb]
    conv => whnf
    kernel_rfl
  · have hi' : i < l.length := by have := of_decide_eq_true c1; omega
    obtain ⟨a, hx⟩ := get_lt hi'
    have ha := hA a (List.mem_of_getElem? hx)
    rw [drop_at hx, colF] at hb
    conv => whnf
    refine ⟨by omega, _, gm hx, ?_⟩
    conv => whnf
    cases c2 : decide (0 ≤ a)
    · rw [if_neg (of_decide_eq_false c2)] at hb
      conv => whnf
      exact ⟨IntKind.wrap .i64 ((i : Int) + 1), by kernel_rfl, ⟨i + 1, nx (by omega), by omega, hb⟩, by rw [nx (by omega)]; omega⟩
    · have h0 := of_decide_eq_true c2
      obtain ⟨x, hax, hc, _⟩ := art_get h0 ha.2
      rw [if_pos h0, hc] at hb
      rw [← hb]
      conv => whnf
      refine ⟨by omega, _, gm hx, ?_⟩
      conv => whnf
      refine ⟨h0, _, gz hax, ?_⟩
      conv => whnf
      kernel_rfl
end Go.Proofs.YtmkmegcconjgoaaG
