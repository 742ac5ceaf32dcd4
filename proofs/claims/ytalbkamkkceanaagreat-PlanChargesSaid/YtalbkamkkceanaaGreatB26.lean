/- A day's colour; what a plan's glass costs at least and at most. No condition. -/
import Derived.Test.YtalbkamkkceanaaGreatB23
set_option linter.unusedVariables false
set_option linter.unusedSimpArgs false
set_option maxRecDepth 100000
set_option maxHeartbeats 4000000
namespace Go.Proofs.YtalbkamkkceanaaGreatG
open Go Go.AM Go.Proofs

theorem mkFrom_iff {k : Int} : ∀ {ms : List Mk} {i : Nat} {x : Int}, x ∈ mkFrom k ms i ↔ ∃ j m, ms[j]? = some m ∧ m.oven = k ∧ x = ((i + j : Nat) : Int)
  | [], i, x => by simp [mkFrom]
  | m :: ms, i, x => by
    have ih := mkFrom_iff (k := k) (ms := ms) (i := i + 1) (x := x)
    unfold mkFrom
    constructor
    · intro h
      split at h
      · rename_i h1
        rcases List.mem_cons.1 h with rfl | h
        · exact ⟨0, m, rfl, h1, rfl⟩
        · obtain ⟨j, m', h2, h3, h4⟩ := ih.1 h
          exact ⟨j + 1, m', h2, h3, by rw [h4]; congr 1; omega⟩
      · obtain ⟨j, m', h2, h3, h4⟩ := ih.1 h
        exact ⟨j + 1, m', h2, h3, by rw [h4]; congr 1; omega⟩
    · rintro ⟨j, m', h2, h3, h4⟩
      cases j with
      | zero =>
        simp at h2
        subst h2
        rw [if_pos h3, h4]
        simp
      | succ j =>
        have h5 := ih.2 ⟨j, m', by simpa using h2, h3, by rw [h4]; congr 1; omega⟩
        split
        · exact List.mem_cons_of_mem _ h5
        · exact h5
theorem okRow_map {s : Season} {c : Int} {f : Int → Int} : ∀ {ms : List Int}, okRow s c ms (ms.map f) = true → ∀ m ∈ ms, 0 ≤ f m → colA s (f m) = c
  | [], _ => fun m hm => by simp at hm
  | x :: ms, h => fun m hm h0 => by
    simp only [List.map_cons, okRow, Bool.and_eq_true] at h
    rcases List.mem_cons.1 hm with rfl | hm
    · have h1 := h.1
      rw [decide_eq_true h0] at h1
      simp at h1
      exact h1.2
    · exact okRow_map h.2 m hm h0
theorem colF_none {s : Season} : ∀ {l : List Int}, (∀ a ∈ l, a < 0) → colF s l = -1
  | [], _ => rfl
  | a :: l, h => by
    have := h a (by simp)
    simp only [colF]
    rw [if_neg (by omega)]
    exact colF_none fun x hx => h x (by simp [hx])
/-- In a plan that keeps the season each article of a furnace's day has the day's colour. -/
theorem day_col {s : Season} (h : Fr s) {p : List (List Int)} (hp : keepsF s p = true) {k d : Nat} (hk : k < s.ovens.length) (hd : (d : Int) < s.days) {i : Nat} {M : Mk} (hM : s.makers[i]? = some M) (ho : M.oven = k) (h0 : 0 ≤ cell p (i : Int) (d : Int)) :
    colA s (cell p (i : Int) (d : Int)) = dayC s p k d := by
  unfold keepsF at hp
  rw [List.all_eq_true] at hp
  have h1 := hp k (by simp [hk])
  unfold keepK at h1
  rw [List.all_eq_true] at h1
  have h2 := h1 d (by simp; omega)
  unfold fitD fitsF at h2
  rw [Bool.and_eq_true] at h2
  have hm : (i : Int) ∈ makersF s (k : Int) := mkFrom_iff.2 ⟨i, M, hM, ho, by simp⟩
  have ea : onA s p (d : Int) (i : Int) = cell p (i : Int) (d : Int) := by unfold onA; rw [if_neg (by omega)]
  have := okRow_map (f := onA s p (d : Int)) h2.1 (i : Int) hm (by rw [ea]; exact h0)
  rw [ea] at this
  exact this
theorem day_none {s : Season} {p : List (List Int)} {k d : Nat} (hn : ∀ (i : Nat) (M : Mk), s.makers[i]? = some M → M.oven = (k : Int) → cell p (i : Int) (d : Int) < 0) : dayC s p k d = -1 := by
  unfold dayC onF
  refine colF_none fun a ha => ?_
  obtain ⟨m, hm, rfl⟩ := List.mem_map.1 ha
  obtain ⟨j, M, hM, ho, e⟩ := mkFrom_iff.1 hm
  rw [Nat.zero_add] at e
  subst e
  unfold onA
  rw [if_neg (by omega)]
  exact hn j M hM ho
def hiG (b : Bat) : Int := highSum (gramsF b (bestR b).1)
def loT (b : Bat) (q : Int) : Int := (1000 * q / hiG b) * (glassF b).1
def hiT (b : Bat) (q : Int) : Int := (1000 * q / (glassF b).2 + 1) * (glassF b).1
theorem div_low {x g : Int} (hx : 0 ≤ x) (hg : 0 < g) : x / g ≤ (x + g - 1) / g ∧ (x + g - 1) / g ≤ x / g + 1 := by
  refine ⟨Int.ediv_le_ediv hg (by omega), ?_⟩
  have h1 : (x + g - 1) / g ≤ (x + g * 1) / g := Int.ediv_le_ediv hg (by omega)
  rw [Int.add_mul_ediv_left _ _ (by omega)] at h1
  exact h1
theorem div_anti {x g m : Int} (hx : 0 ≤ x) (hg : 0 < g) (hm : g ≤ m) : x / m ≤ x / g := by
  refine Int.le_ediv_of_mul_le hg ?_
  have h0 : 0 ≤ x / m := Int.ediv_nonneg hx (by omega)
  have h1 : x / m * g ≤ x / m * m := Int.mul_le_mul_of_nonneg_left hm h0
  have h2 : x / m * m ≤ x := Int.ediv_mul_le x (by omega)
  omega
theorem lo_le {b : Bat} (gl : Gl b) {q : Int} (h0 : 0 ≤ q) (h1 : q ≤ 1000000) : 0 ≤ loT b q ∧ loT b q ≤ termG (glassF b) q ∧ termG (glassF b) q ≤ hiT b q ∧ hiT b q ≤ 2000000000000000 := by
  have hl := gl.low
  have hh := gl.high
  have hc := gl.cost
  have d1 := div_low (x := 1000 * q) (g := (glassF b).2) (by omega) (by omega)
  have d2 := div_anti (x := 1000 * q) (g := (glassF b).2) (m := hiG b) (by omega) (by omega) hh.1
  have d0 : 0 ≤ 1000 * q / hiG b := Int.ediv_nonneg (by omega) (by unfold hiG; omega)
  have d3 : 1000 * q / (glassF b).2 < 1000001 := Int.ediv_lt_of_lt_mul (by omega) (by omega)
  unfold loT hiT termG
  rw [Int.mul_comm (glassF b).1]
  refine ⟨Int.mul_nonneg d0 hc.1, Int.mul_le_mul_of_nonneg_right (by omega) hc.1, Int.mul_le_mul_of_nonneg_right d1.2 hc.1, ?_⟩
  have : (1000 * q / (glassF b).2 + 1) * (glassF b).1 ≤ 1000001 * 1200000000 := Int.mul_le_mul (by omega) hc.2 hc.1 (by decide)
  omega
def ofB (f : Bat → Int → Int) (s : Season) (p : List (List Int)) (l : List Bat) (k d : Nat) : Int := if 0 ≤ dayC s p k d then ((l[(dayC s p k d).toNat]?).map fun b => f b (pullD s p (k : Int) d)).getD 0 else 0
def ovenB (f : Bat → Int → Int) (s : Season) (p : List (List Int)) (l : List Bat) (k : Nat) : Int := sumTo (ofB f s p l k) s.days.toNat
def sumB (f : Bat → Int → Int) (s : Season) (p : List (List Int)) (l : List Bat) : Int := sumTo (ovenB f s p l) s.ovens.length
theorem ofB_none {f : Bat → Int → Int} {s : Season} {p : List (List Int)} {l : List Bat} {k d : Nat} (h : dayC s p k d = -1) : ofB f s p l k d = 0 := by unfold ofB; rw [h]; rfl
theorem ofB_some {f : Bat → Int → Int} {s : Season} {p : List (List Int)} {l : List Bat} {k d : Nat} {b : Bat} (h0 : 0 ≤ dayC s p k d) (h : l[(dayC s p k d).toNat]? = some b) : ofB f s p l k d = f b (pullD s p (k : Int) d) := by
  unfold ofB; rw [if_pos h0, h]; rfl
theorem sumTo_le {f g : Nat → Int} : ∀ {n : Nat}, (∀ i, i < n → f i ≤ g i) → sumTo f n ≤ sumTo g n
  | 0, _ => Int.le_refl _
  | n + 1, h => by
    have ih := sumTo_le (n := n) (fun i hi => h i (by omega))
    have := h n (by omega)
    simp only [sumTo]
    omega
theorem day_cases {s : Season} (h : Fr s) {p : List (List Int)} (po : POk s p) {k d : Nat} (hd : (d : Int) < s.days) : dayC s p k d = -1 ∨ 0 ≤ dayC s p k d ∧ dayC s p k d < s.cols.length := by
  have hmm : ∀ m ∈ makersF s (k : Int), 0 ≤ m ∧ m < s.makers.length := fun m hm => makersF_mem hm
  have hml := Nat.le_trans (makersF_len s (k : Int)) h.nm
  exact colF_lt h (onF_row h po hmm (by omega) hd).arts
theorem of_range {f : Bat → Int → Int} {s : Season} (h : Fr s) {p : List (List Int)} (po : POk s p) (hp : keepsF s p = true) {l : List Bat} (hl : l.length = s.cols.length) (hf : ∀ b ∈ l, ∀ q, 0 ≤ q → q ≤ 1000000 → 0 ≤ f b q ∧ f b q ≤ 2000000000000000)
    {k d : Nat} (hk : k < s.ovens.length) (hd : (d : Int) < s.days) : 0 ≤ ofB f s p l k d ∧ ofB f s p l k d ≤ 2000000000000000 := by
  rcases day_cases h po (k := k) hd with e | ⟨h0, h1⟩
  · rw [ofB_none e]; omega
  · obtain ⟨b, hb⟩ := get_lt (xs := l) (i := (dayC s p k d).toNat) (by omega)
    rw [ofB_some h0 hb]
    have hq := pull_range h hp hk hd
    exact hf b (List.mem_of_getElem? hb) _ hq.1 hq.2
theorem melt_between {s : Season} (h : Fr s) {p : List (List Int)} (po : POk s p) (hp : keepsF s p = true) {l : List Bat} (hl : l.length = s.cols.length) (hg : ∀ b ∈ l, Gl b) : sumB loT s p l ≤ meltF s p (l.map glassF) ∧ meltF s p (l.map glassF) ≤ sumB hiT s p l := by
  have key : ∀ k d : Nat, k < s.ovens.length → (d : Int) < s.days → ofB loT s p l k d ≤ termF s p (l.map glassF) k d ∧ termF s p (l.map glassF) k d ≤ ofB hiT s p l k d := fun k d hk hd => by
    rcases day_cases h po (k := k) hd with e | ⟨h0, h1⟩
    · rw [ofB_none e, ofB_none e]
      unfold termF
      rw [e]
      simp
    · obtain ⟨b, hb⟩ := get_lt (xs := l) (i := (dayC s p k d).toNat) (by omega)
      rw [ofB_some h0 hb, ofB_some h0 hb]
      have hq := pull_range h hp hk hd
      have := lo_le (hg b (List.mem_of_getElem? hb)) hq.1 hq.2
      unfold termF
      rw [if_pos h0, getD_of (x := glassF b) (by simp [hb])]
      omega
  have hdy := h.days
  exact ⟨sumTo_le fun k hk => sumTo_le fun d hd => (key k d hk (by omega)).1, sumTo_le fun k hk => sumTo_le fun d hd => (key k d hk (by omega)).2⟩
theorem ovenB_bound {f : Bat → Int → Int} {s : Season} (h : Fr s) {p : List (List Int)} (po : POk s p) (hp : keepsF s p = true) {l : List Bat} (hl : l.length = s.cols.length) (hf : ∀ b ∈ l, ∀ q, 0 ≤ q → q ≤ 1000000 → 0 ≤ f b q ∧ f b q ≤ 2000000000000000)
    {k : Nat} (hk : k < s.ovens.length) {n : Nat} (hn : (n : Int) ≤ s.days) : 0 ≤ sumTo (ofB f s p l k) n ∧ sumTo (ofB f s p l k) n ≤ 28000000000000000 := by
  have hd := h.days
  have := sumTo_bound (n := n) (f := ofB f s p l k) (fun i hi => of_range h po hp hl hf hk (d := i) (by omega))
  omega
theorem sumB_bound {f : Bat → Int → Int} {s : Season} (h : Fr s) {p : List (List Int)} (po : POk s p) (hp : keepsF s p = true) {l : List Bat} (hl : l.length = s.cols.length) (hf : ∀ b ∈ l, ∀ q, 0 ≤ q → q ≤ 1000000 → 0 ≤ f b q ∧ f b q ≤ 2000000000000000)
    {n : Nat} (hn : n ≤ s.ovens.length) : 0 ≤ sumTo (ovenB f s p l) n ∧ sumTo (ovenB f s p l) n ≤ 90000000000000000 := by
  have ho := h.no
  have hd := h.days
  have := sumTo_bound (n := n) (f := ovenB f s p l) (fun i hi => ovenB_bound h po hp hl hf (k := i) (by omega) (n := s.days.toNat) (by omega))
  omega
end Go.Proofs.YtalbkamkkceanaaGreatG
