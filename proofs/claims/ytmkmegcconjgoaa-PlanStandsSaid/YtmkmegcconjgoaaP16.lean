/- Lists that a frame's cells own: how they lie, and what an append turns. No condition. -/
import Derived.Test.YtmkmegcconjgoaaP15
set_option linter.unusedVariables false
set_option linter.unusedSimpArgs false
set_option maxRecDepth 100000
set_option maxHeartbeats 4000000
namespace Go.Proofs.YtmkmegcconjgoaaG
open Go Go.AM Go.Proofs

def sel (j : Nat) (b0 b1 b2 : ABlk) : ABlk := match j with | 0 => b0 | 1 => b1 | _ => b2
/-- A cell holds nil, or the row in the slot with its number. -/
def CellR (q j : Nat) (x : List Int) (c : AC) (b : ABlk) : Prop := (x = [] ∧ c = .d (.v (.slice none 0 0)) ∧ b = .fresh) ∨ (c = .row (q + j) 0 x.length x.length ∧ b = .row 1 (x.map i1))
structure Out (q : Nat) (xs : List (List Int)) (cs : List AC) (b0 b1 b2 : ABlk) : Prop where
  len : cs.length = xs.length
  small : xs.length ≤ 3
  cells : ∀ (j : Nat) (x : List Int) (c : AC), xs[j]? = some x → cs[j]? = some c → CellR q j x c (sel j b0 b1 b2)

theorem Out.get {q : Nat} {xs : List (List Int)} {cs : List AC} {b0 b1 b2 : ABlk} (h : Out q xs cs b0 b1 b2) {j : Nat} {x : List Int} (hx : xs[j]? = some x) : ∃ c, cs[j]? = some c ∧ CellR q j x c (sel j b0 b1 b2) ∧ j < 3 := by
  have hj := (List.getElem?_eq_some_iff.1 hx).1
  have := h.len
  have := h.small
  obtain ⟨c, hc⟩ := get_lt (xs := cs) (i := j) (by omega)
  exact ⟨c, hc, h.cells j x c hx hc, by omega⟩

theorem CellR.scr {q j : Nat} {x : List Int} {c : AC} {b : ABlk} {ls : List Nat} (h : CellR q j x c b) (hq : q + j ∈ ls) : scrC ls c = c ∧ scrB ls b = b := by
  rcases h with ⟨_, rfl, rfl⟩ | ⟨rfl, rfl⟩
  · exact ⟨rfl, rfl⟩
  · refine ⟨?_, rfl⟩
    simp [scrC, onlyC, hq]

theorem Out.scr {q : Nat} {xs : List (List Int)} {cs : List AC} {b0 b1 b2 : ABlk} {ls : List Nat} (h : Out q xs cs b0 b1 b2) (h0 : q ∈ ls) (h1 : q + 1 ∈ ls) (h2 : q + 2 ∈ ls) : cs.map (scrC ls) = cs := by
  apply List.ext_getElem (by simp)
  intro j hj1 hj2
  have hl := h.len
  have hs := h.small
  obtain ⟨x, hx⟩ := get_lt (xs := xs) (i := j) (by omega)
  have := h.cells j x cs[j] hx (by simp [hj2])
  rw [List.getElem_map]
  have hq : q + j ∈ ls := by
    have : j = 0 ∨ j = 1 ∨ j = 2 := by omega
    rcases this with rfl | rfl | rfl <;> assumption
  exact (this.scr hq).1

theorem Out.start {q n : Nat} (h : n ≤ 3) : Out q (List.replicate n []) (List.replicate n (.d (.v (.slice none 0 0)))) .fresh .fresh .fresh := by
  refine ⟨by simp, by simpa using h, fun j x c hx hc => ?_⟩
  obtain ⟨hj, rfl⟩ := List.getElem?_eq_some_iff.1 hx
  obtain ⟨_, rfl⟩ := List.getElem?_eq_some_iff.1 hc
  left
  refine ⟨by simp, by simp, ?_⟩
  have : j = 0 ∨ j = 1 ∨ j = 2 := by simp at hj; omega
  rcases this with rfl | rfl | rfl <;> rfl

/-- One more at the end of a list. -/
theorem Out.put {q : Nat} {xs : List (List Int)} {cs : List AC} {b0 b1 b2 b0' b1' b2' : ABlk} (h : Out q xs cs b0 b1 b2) {j : Nat} {x : List Int} (hx : xs[j]? = some x) {v : Int}
    (hj : sel j b0' b1' b2' = .row 1 (x.map i1 ++ [[int v]])) (ho : ∀ i, i ≠ j → i < 3 → sel i b0' b1' b2' = sel i b0 b1 b2) :
    Out q (xs.set j (x ++ [v])) (cs.take j ++ [AC.row (q + j) 0 (x.length + 1) (x.length + 1)] ++ cs.drop (j + 1)) b0' b1' b2' := by
  have hjl := (List.getElem?_eq_some_iff.1 hx).1
  have hl := h.len
  have hs := h.small
  have e : cs.take j ++ [AC.row (q + j) 0 (x.length + 1) (x.length + 1)] ++ cs.drop (j + 1) = cs.set j (.row (q + j) 0 (x.length + 1) (x.length + 1)) := by
    rw [List.set_eq_take_append_cons_drop, if_pos (by omega)]; simp
  rw [e]
  refine ⟨by simpa using hl, by simpa using hs, fun i y c hy hc => ?_⟩
  by_cases hi : i = j
  · subst hi
    rw [List.getElem?_set_self (by omega)] at hy hc
    cases hy; cases hc
    right
    exact ⟨by simp, by rw [hj]; simp⟩
  · rw [List.getElem?_set_ne (Ne.symm hi)] at hy hc
    rw [ho i hi (by have := (List.getElem?_eq_some_iff.1 hy).1; omega)]
    exact h.cells i y c hy hc

/-- What a day adds to the lists of some machines. -/
def addRow : List (List Int) → List Int → List Int → List (List Int)
  | xs, m :: ms, v :: vs => addRow (xs.set m.toNat ((xs[m.toNat]?.getD []) ++ [v])) ms vs
  | xs, _, _ => xs
theorem addRow_len : ∀ (ms vs : List Int) (xs : List (List Int)), (addRow xs ms vs).length = xs.length
  | [], vs, xs => by unfold addRow; rfl
  | m :: ms, [], xs => by unfold addRow; rfl
  | m :: ms, v :: vs, xs => by unfold addRow; rw [addRow_len ms vs]; simp
/-- A day of a furnace. -/
def dayF (s : Season) (p : List (List Int)) (ms : List Int) (st : List (List Int) × Int) (d : Nat) : List (List Int) × Int :=
  (addRow st.1 ms (workedF s ms (onF s p ms ((d : Int) - 1)) (onF s p ms (d : Int))).1, st.2 + (workedF s ms (onF s p ms ((d : Int) - 1)) (onF s p ms (d : Int))).2)
def daysF (s : Season) (p : List (List Int)) (st : List (List Int) × Int) (k : Nat) : List (List Int) × Int := (List.range s.days.toNat).foldl (dayF s p (makersF s (k : Int))) st
def madeF (s : Season) (p : List (List Int)) : List (List Int) × Int := (List.range s.ovens.length).foldl (daysF s p) (List.replicate s.makers.length [], 0)
end Go.Proofs.YtmkmegcconjgoaaG
