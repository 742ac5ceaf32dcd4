/- All recipes of a batch, one behind the other. No condition. -/
import Derived.Test.YtalbkamkkceanaaGreatP35
set_option linter.unusedVariables false
set_option linter.unusedSimpArgs false
set_option maxRecDepth 100000
set_option maxHeartbeats 4000000
namespace Go.Proofs.YtalbkamkkceanaaGreatG
open Go Go.AM Go.Proofs

structure Mat where
  name : ByteArray
  price : Int
  redox : Int
  least : Int
  most : Int
  step : Int
  content : List (Int × Int)
def prog (k d : Int) : Nat → List Int
  | 0 => []
  | n + 1 => k :: prog (k + d) d n
def kcnt (m : Mat) : Nat := ((m.most - m.least) / m.step + 1).toNat
def kilosF (m : Mat) : List Int := prog m.least m.step (kcnt m)
/-- All recipes that are allowed, in order. -/
def recs : List Mat → List (List Int)
  | [] => [[]]
  | m :: ms => (kilosF m).flatMap fun k => (recs ms).map fun r => k :: r
def leasts (ms : List Mat) : List Int := ms.map (·.least)
/-- The recipe behind one. -/
def nextR : List Mat → List Int → Option (List Int)
  | m :: ms, k :: r => match nextR ms r with
    | some r' => some (k :: r')
    | none => if k + m.step ≤ m.most then some ((k + m.step) :: leasts ms) else none
  | _, _ => none
/-- Each is followed by its next one, the last by e. -/
def OrbTo {α : Type} (nx : α → Option α) : List α → Option α → Prop
  | [], _ => False
  | [x], e => nx x = e
  | x :: y :: l, e => nx x = some y ∧ OrbTo nx (y :: l) e
theorem OrbTo.append {α : Type} {nx : α → Option α} : ∀ {a : List α} {y : α} {b : List α} {e : Option α}, OrbTo nx a (some y) → OrbTo nx (y :: b) e → OrbTo nx (a ++ y :: b) e
  | [], _, _, _, h, _ => h.elim
  | [x], y, b, e, h, k => ⟨h, k⟩
  | x :: z :: l, y, b, e, h, k => ⟨h.1, OrbTo.append (a := z :: l) h.2 k⟩
theorem OrbTo.map {α β : Type} {nx : α → Option α} {nx' : β → Option β} {f : α → β} {e' : Option β} (h1 : ∀ x y, nx x = some y → nx' (f x) = some (f y)) (h2 : ∀ x, nx x = none → nx' (f x) = e') :
    ∀ {l : List α}, OrbTo nx l none → OrbTo nx' (l.map f) e'
  | [], h => h.elim
  | [x], h => h2 x h
  | x :: y :: l, h => ⟨h1 x y h.1, OrbTo.map (l := y :: l) h1 h2 h.2⟩
theorem prog_last {m : Mat} (hs : 1 ≤ m.step) (hm : m.least ≤ m.most) : ∀ (n : Nat) (k : Int), k = m.least + ((kcnt m : Int) - n) * m.step → 0 < n → n ≤ kcnt m → (k + m.step ≤ m.most ↔ 1 < n) := fun n k hk h0 hn => by
  have hd : 0 ≤ (m.most - m.least) / m.step := Int.ediv_nonneg (by omega) (by omega)
  have hc : (kcnt m : Int) = (m.most - m.least) / m.step + 1 := by unfold kcnt; omega
  have h1 : (m.most - m.least) / m.step * m.step ≤ m.most - m.least := Int.ediv_mul_le _ (by omega)
  have h2 : m.most - m.least < ((m.most - m.least) / m.step + 1) * m.step := Int.lt_ediv_add_one_mul_self _ (by omega)
  obtain ⟨Q, hQ⟩ : ∃ Q, (m.most - m.least) / m.step = Q := ⟨_, rfl⟩
  rw [hQ] at h1 h2 hc
  rw [hc] at hk
  constructor
  · intro h
    apply Nat.lt_of_not_le
    intro h3
    have : n = 1 := by omega
    subst this
    have e : (Q + 1 - ((1 : Nat) : Int)) * m.step = Q * m.step := by congr 1; omega
    rw [e] at hk
    have e2 : (Q + 1) * m.step = Q * m.step + m.step := by rw [Int.add_mul]; omega
    omega
  · intro h
    have h3 : (Q + 1 - (n : Int)) * m.step ≤ (Q - 1) * m.step := Int.mul_le_mul_of_nonneg_right (by omega) (by omega)
    have e2 : (Q - 1) * m.step = Q * m.step - m.step := by rw [Int.sub_mul]; omega
    omega
theorem recs_orb : ∀ (ms : List Mat), (∀ m ∈ ms, 1 ≤ m.step ∧ m.least ≤ m.most) → OrbTo (nextR ms) (recs ms) none ∧ ∃ l, recs ms = leasts ms :: l
  | [], _ => ⟨rfl, [], rfl⟩
  | m :: ms, h => by
    have hm := h m (by simp)
    obtain ⟨ih, l0, hl0⟩ := recs_orb ms (fun x hx => h x (by simp [hx]))
    have hd : 0 ≤ (m.most - m.least) / m.step := Int.ediv_nonneg (by omega) (by omega)
    have hk0 : 0 < kcnt m := by unfold kcnt; omega
    have blk : ∀ k e, (if k + m.step ≤ m.most then some ((k + m.step) :: leasts ms) else none) = e → OrbTo (nextR (m :: ms)) ((recs ms).map fun r => k :: r) e := fun k e he => by
      refine OrbTo.map (nx := nextR ms) (fun x y hxy => ?_) (fun x hx => ?_) ih
      · simp only [nextR, hxy]
      · simp only [nextR, hx]; exact he
    have key : ∀ (n : Nat) (k : Int), k = m.least + ((kcnt m : Int) - n) * m.step → 0 < n → n ≤ kcnt m →
        OrbTo (nextR (m :: ms)) ((prog k m.step n).flatMap fun k => (recs ms).map fun r => k :: r) none ∧ ∃ l, (prog k m.step n).flatMap (fun k => (recs ms).map fun r => k :: r) = (k :: leasts ms) :: l := by
      intro n
      induction n with
      | zero => intro k _ h0; omega
      | succ n ihn =>
        intro k hk _ hn
        have hlast := prog_last hm.1 hm.2 (n + 1) k hk (by omega) hn
        have hhead : ∃ l, (prog k m.step (n + 1)).flatMap (fun k => (recs ms).map fun r => k :: r) = (k :: leasts ms) :: l := by
          simp only [prog, List.flatMap_cons, hl0, List.map_cons, List.cons_append]
          exact ⟨_, rfl⟩
        refine ⟨?_, hhead⟩
        by_cases hn1 : n = 0
        · subst hn1
          simp only [prog, List.flatMap_cons, List.flatMap_nil, List.append_nil]
          exact blk k none (if_neg (fun h => by have := hlast.1 h; omega))
        · have hk' : k + m.step = m.least + ((kcnt m : Int) - n) * m.step := by
            rw [hk]
            have : ((kcnt m : Int) - ((n + 1 : Nat) : Int)) * m.step + m.step = ((kcnt m : Int) - n) * m.step := by
              rw [show ((kcnt m : Int) - n) = ((kcnt m : Int) - ((n + 1 : Nat) : Int)) + 1 by omega, Int.add_mul]; omega
            omega
          obtain ⟨o, l, hl⟩ := ihn (k + m.step) hk' (by omega) (by omega)
          simp only [prog, List.flatMap_cons]
          rw [hl] at o ⊢
          exact OrbTo.append (blk k _ (if_pos (hlast.2 (by omega)))) o
    have := key (kcnt m) m.least (by simp) hk0 (Nat.le_refl _)
    exact this
theorem nextR_carry {ms : List Mat} {r : List Int} (hl : r.length = ms.length) : ∀ {i : Nat} {m : Mat} {k : Int}, ms[i]? = some m → r[i]? = some k → nextR (ms.drop (i + 1)) (r.drop (i + 1)) = none → ¬ k + m.step ≤ m.most → nextR (ms.drop i) (r.drop i) = none := fun {i m k} hm hk h1 h2 => by
  rw [drop_at hm, drop_at hk]
  simp only [nextR, h1, if_neg h2]
theorem nextR_found : ∀ {ms : List Mat} {r : List Int} {i : Nat} {m : Mat} {k : Int}, ms[i]? = some m → r[i]? = some k → nextR (ms.drop (i + 1)) (r.drop (i + 1)) = none → k + m.step ≤ m.most →
    nextR ms r = some (r.take i ++ (k + m.step) :: leasts (ms.drop (i + 1)))
  | [], _, _, _, _, h, _, _, _ => by simp at h
  | _ :: _, [], _, _, _, _, h, _, _ => by simp at h
  | m0 :: ms, k0 :: r, 0, m, k, hm, hk, h1, h2 => by
    simp at hm hk
    subst hm hk
    simp only [List.drop_succ_cons, List.drop_zero] at h1
    simp only [nextR, h1, if_pos h2]
    rfl
  | m0 :: ms, k0 :: r, i + 1, m, k, hm, hk, h1, h2 => by
    have ih := nextR_found (ms := ms) (r := r) (i := i) (by simpa using hm) (by simpa using hk) (by simpa using h1) h2
    simp only [nextR, ih]
    rfl
theorem recs_len {ms : List Mat} : ∀ {r : List Int}, r ∈ recs ms → r.length = ms.length := by
  induction ms with
  | nil => intro r h; simp [recs] at h; simp [h]
  | cons m ms ih =>
    intro r h
    simp only [recs, List.mem_flatMap, List.mem_map] at h
    obtain ⟨k, _, r', hr', rfl⟩ := h
    simp [ih hr']
theorem prog_mem {m : Mat} (hs : 1 ≤ m.step) (hm : m.least ≤ m.most) {k : Int} (h : k ∈ kilosF m) : m.least ≤ k ∧ k ≤ m.most := by
  have hd : 0 ≤ (m.most - m.least) / m.step := Int.ediv_nonneg (by omega) (by omega)
  have hc : (kcnt m : Int) = (m.most - m.least) / m.step + 1 := by unfold kcnt; omega
  have h1 : (m.most - m.least) / m.step * m.step ≤ m.most - m.least := Int.ediv_mul_le _ (by omega)
  have key : ∀ (n : Nat) (a : Int), k ∈ prog a m.step n → a ≤ k ∧ k ≤ a + ((n : Int) - 1) * m.step := by
    intro n
    induction n with
    | zero => intro a h; simp [prog] at h
    | succ n ih =>
      intro a h
      have e : (((n + 1 : Nat) : Int) - 1) * m.step = (n : Int) * m.step := by congr 1; omega
      have h0 : 0 ≤ (n : Int) * m.step := Int.mul_nonneg (by omega) (by omega)
      rcases List.mem_cons.1 h with rfl | h
      · omega
      · have := ih _ h
        have e2 : ((n : Int) - 1) * m.step = (n : Int) * m.step - m.step := by rw [Int.sub_mul]; omega
        omega
  have := key _ _ h
  rw [hc] at this
  have e : ((m.most - m.least) / m.step + 1 - 1) * m.step = (m.most - m.least) / m.step * m.step := by congr 1; omega
  omega
theorem recs_mem {ms : List Mat} (h : ∀ m ∈ ms, 1 ≤ m.step ∧ m.least ≤ m.most) : ∀ {r : List Int}, r ∈ recs ms → ∀ (i : Nat) (m : Mat) (k : Int), ms[i]? = some m → r[i]? = some k → m.least ≤ k ∧ k ≤ m.most := by
  induction ms with
  | nil => intro r _ i m k hm; simp at hm
  | cons m0 ms ih =>
    intro r hr i m k hm hk
    simp only [recs, List.mem_flatMap, List.mem_map] at hr
    obtain ⟨k0, hk0, r', hr', rfl⟩ := hr
    cases i with
    | zero =>
      simp at hm hk
      subst hm hk
      exact prog_mem (h _ (by simp)).1 (h _ (by simp)).2 hk0
    | succ i => exact ih (fun x hx => h x (by simp [hx])) hr' i m k (by simpa using hm) (by simpa using hk)
end Go.Proofs.YtalbkamkkceanaaGreatG
