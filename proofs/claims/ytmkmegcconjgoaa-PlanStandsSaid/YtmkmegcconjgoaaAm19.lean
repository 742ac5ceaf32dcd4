/- The abstract machine, part 19: what a claim's reading of an argument says of it as pure data. No condition. -/
import Derived.Test.YtmkmegcconjgoaaAm16
import Derived.DataReads
import Derived.ChangeArms
import Derived.ChangeShapes
import Derived.WideShapes
set_option linter.unusedVariables false
set_option linter.unusedSimpArgs false
namespace Go.AM
open Go

/-- A struct's fields lie one behind the other, each of a type that is taken in. -/
def fieldsT (P : Program) (ok : TypeId → Bool) : Nat → List Field → Option Nat
  | off, [] => some off
  | off, fl :: fs => if fl.offset == off && ok fl.type then fieldsT P ok (off + P.cellsOf fl.type) fs else none

/-- A type of numbers, Bools, strings, slices and structs. -/
def okT (P : Program) : Nat → TypeId → Bool
  | 0, _ => false
  | f + 1, t => match P.underlying t with
    | some (.int _) => true
    | some .bool => true
    | some .string => true
    | some (.slice e) => decide (1 ≤ P.cellsOf e) && okT P f e
    | some (.struct fs) => fieldsT P (okT P f) 0 fs.toList == some (P.cellsOf t)
    | _ => false

def shapeFs (sh : TypeId → List D → Prop) : List Field → List D → Prop
  | [], ds => ds = []
  | fl :: fs, ds => ∃ a b, ds = a ++ b ∧ sh fl.type a ∧ shapeFs sh fs b

/-- The cells of a value of a type. -/
def ShapeT (P : Program) : Nat → TypeId → List D → Prop
  | 0, _, _ => False
  | f + 1, t, ds => match P.underlying t with
    | some (.int k) => ∃ n, ds = [.v (.int k n)] ∧ k.min ≤ n ∧ n ≤ k.max
    | some .bool => ∃ b, ds = [.v (.bool b)]
    | some .string => ∃ s, ds = [.v (.string s)] ∧ s.size ≤ maxLen
    | some (.slice e) => ∃ xs, ds = [.list xs] ∧ xs.length ≤ maxLen ∧ ∀ x ∈ xs, ShapeT P f e x
    | some (.struct fs) => shapeFs (ShapeT P f) fs.toList ds
    | _ => False

section
variable {H : Type} {enc : TypeId × Value → H} {P : Program} {w : World} {base : Nat} {spare : Nat → Bool} {held : Bool}

/-- Cells read as that. -/
def Reads1 (w : World) (ds : List D) (cs : List Value) : Prop := ds.length = cs.length ∧ ∀ j (hj : j < ds.length), RelD (fun _ => True) w (ds[j]) (cs.getD j undef) ∧ (cs.getD j undef).oneCell' = true

theorem Reads1.append {a b : List D} {u v : List Value} (h : Reads1 w a u) (k : Reads1 w b v) : Reads1 w (a ++ b) (u ++ v) := by
  refine ⟨by simp [h.1, k.1], fun j hj => ?_⟩
  by_cases hlt : j < a.length
  · have e1 : (a ++ b)[j] = a[j] := List.getElem_append_left hlt
    have e2 : (u ++ v).getD j undef = u.getD j undef := by simp [List.getD, List.getElem?_append_left (h.1 ▸ hlt)]
    rw [e1, e2]; exact h.2 j hlt
  · have hb : j - a.length < b.length := by simp at hj; omega
    have e1 : (a ++ b)[j] = b[j - a.length] := List.getElem_append_right (by omega)
    have e2 : (u ++ v).getD j undef = v.getD (j - a.length) undef := by
      simp [List.getD, List.getElem?_append_right (show u.length ≤ j by rw [← h.1]; omega), h.1]
    rw [e1, e2]; exact k.2 _ hb

theorem reads_fields {f : Nat} {n : Nat} (ih : ∀ (t : TypeId) (fuel : Nat) (cs : List Value) (x : DataW H × List MemPlace), okT P f t = true → DataW.trod enc P w base spare held fuel t cs = some x → ∃ ds, ShapeT P f t ds ∧ Reads1 w ds cs) :
    ∀ (fs : List Field) (off tot : Nat) (cs : List Value), fieldsT P (okT P f) off fs = some tot → cs.length = tot → (∀ fl ∈ fs, ∃ x, DataW.trod enc P w base spare held n fl.type ((cs.drop fl.offset).take (P.cellsOf fl.type)) = some x) →
      ∃ ds, shapeFs (ShapeT P f) fs ds ∧ Reads1 w ds (cs.drop off) := by
  intro fs
  induction fs with
  | nil =>
    intro off tot cs h hl _
    simp [fieldsT] at h; subst h
    refine ⟨[], rfl, ?_, fun j hj => by simp at hj⟩
    simp [hl]
  | cons fl fs ihf =>
    intro off tot cs h hl hx
    simp only [fieldsT] at h
    split at h <;> try (cases h; done)
    rename_i hc
    simp only [Bool.and_eq_true, beq_iff_eq] at hc
    obtain ⟨ho, hok⟩ := hc
    obtain ⟨x, hx0⟩ := hx fl (by simp)
    obtain ⟨ds1, hs1, hr1⟩ := ih _ _ _ _ hok hx0
    obtain ⟨ds2, hs2, hr2⟩ := ihf _ tot cs h hl (fun g hg => hx g (by simp [hg]))
    refine ⟨ds1 ++ ds2, ⟨ds1, ds2, rfl, hs1, hs2⟩, ?_⟩
    have e : cs.drop off = (cs.drop fl.offset).take (P.cellsOf fl.type) ++ cs.drop (off + P.cellsOf fl.type) := by
      rw [ho, ← List.drop_drop, List.take_append_drop]
    rw [e]; exact hr1.append hr2

/-- **What is read is that pure data.** -/
theorem trod_reads : ∀ (f : Nat) (t : TypeId) (fuel : Nat) (cs : List Value) (x : DataW H × List MemPlace), okT P f t = true → DataW.trod enc P w base spare held fuel t cs = some x → ∃ ds, ShapeT P f t ds ∧ Reads1 w ds cs := by
  intro f
  induction f with
  | zero => intro t fuel cs x h; simp [okT] at h
  | succ f ih =>
    intro t fuel cs x hok h
    unfold okT at hok
    unfold ShapeT
    have one : ∀ (d : D) (v : Value), RelD (fun _ => True) w d v → v.oneCell' = true → Reads1 w [d] [v] := fun d v hd hv => ⟨rfl, fun j hj => by
      have : j = 0 := by simp at hj; omega
      subst this; exact ⟨hd, hv⟩⟩
    split at hok
    · rename_i k hu
      obtain ⟨n, rfl, _, hw⟩ := DataW.trod_int hu h
      simp only [Lit.wf, Bool.and_eq_true, decide_eq_true_eq] at hw
      exact ⟨_, ⟨n, rfl, hw.1, hw.2⟩, one _ _ (.v _) rfl⟩
    · rename_i hu
      obtain ⟨b, rfl, _⟩ := DataW.trod_bool hu h
      exact ⟨_, ⟨b, rfl⟩, one _ _ (.v _) rfl⟩
    · rename_i hu
      obtain ⟨s, rfl, _, hs⟩ := DataW.trod_string hu h
      exact ⟨_, ⟨s, rfl, hs⟩, one _ _ (.v _) rfl⟩
    · rename_i e hu
      simp only [Bool.and_eq_true, decide_eq_true_eq] at hok
      obtain ⟨he1, hoke⟩ := hok
      rcases DataW.trod_slice hu h with ⟨rfl, _⟩ | ⟨a, len, cap, elems, rest, n, _, rfl, _, hb, hl, hm, hlen, hel, _, _⟩
      · exact ⟨_, ⟨[], rfl, by simp, fun x hx => by cases hx⟩, one _ _ (.empty _ _) rfl⟩
      · by_cases h0 : len = 0
        · subst h0
          exact ⟨_, ⟨[], rfl, by simp, fun x hx => by cases hx⟩, one _ _ (.empty _ _) rfl⟩
        have each : ∀ i, i < len → ∃ cs ds, w.cells? base (a.add (i * P.cellsOf e)) (P.cellsOf e) = some cs ∧ ShapeT P f e ds ∧ Reads1 w ds cs := fun i hi => by
          have h1 := hel i hi
          obtain ⟨y, hy⟩ : ∃ y, elems[i]? = some y := ⟨elems[i], by simp [hlen, hi]⟩
          rw [hy] at h1
          cases hc : w.cells? base (a.add (i * P.cellsOf e)) (P.cellsOf e) with
          | none => rw [hc] at h1; cases h1
          | some cs =>
            rw [hc] at h1
            obtain ⟨ds, hs, hr⟩ := ih _ _ _ _ hoke h1
            exact ⟨cs, ds, rfl, hs, hr⟩
        have ex : ∃ g : Nat → List Value × List D, ∀ i, i < len → w.cells? base (a.add (i * P.cellsOf e)) (P.cellsOf e) = some (g i).1 ∧ ShapeT P f e (g i).2 ∧ Reads1 w (g i).2 (g i).1 := by
          classical
          refine ⟨fun i => if hi : i < len then ((each i hi).choose, (each i hi).choose_spec.choose) else ([], []), fun i hi => ?_⟩
          simp only [hi, dif_pos]
          exact (each i hi).choose_spec.choose_spec
        obtain ⟨g, hg⟩ := ex
        have cell : ∀ i j, i < len → j < P.cellsOf e → w.cell? ((a.add (i * P.cellsOf e)).add j) = some ((g i).1.getD j undef) := fun i j hi hj => by
          obtain ⟨_, hl2, hc⟩ := World.cells?_some (hg i hi).1
          rw [hc j hj, List.getD_eq_getElem?_getD]
          have : j < (g i).1.length := by omega
          simp [this]
        have hspot : a.spot = none := by
          have := cell 0 0 (by omega) (by omega)
          unfold World.cell? at this
          split at this
          · rename_i c _ _ _
            by_cases hs : a.spot = none
            · exact hs
            · have : ((a.add (0 * P.cellsOf e)).add 0).spot.isSome = true := by simp [Addr.add]; exact Option.isSome_iff_ne_none.2 hs
              simp_all
          · cases this
        obtain ⟨B, off, sp⟩ := a
        simp only at hspot
        subst hspot
        have hB : B < w.heap.size := by
          have := cell 0 0 (by omega) (by omega)
          rw [add_plain, add_plain] at this
          exact cell_lt this
        have hxl : ((List.range len).map fun i => (g i).2).length = len := by simp
        refine ⟨[.list ((List.range len).map fun i => (g i).2)], ⟨_, rfl, by rw [hxl]; omega, fun y hy => ?_⟩, ?_⟩
        · obtain ⟨i, hi, rfl⟩ := List.mem_map.1 hy
          exact (hg i (List.mem_range.1 hi)).2.1
        · refine one _ _ ?_ rfl
          have key := RelD.list (ok := fun _ => True) (w := w) ((List.range len).map fun i => (g i).2) B off cap (P.cellsOf e) (fun i j => (g i).1.getD j undef) trivial hB (by rw [hxl]; exact hl)
            (fun i hi => by
              rw [hxl] at hi
              simp only [List.getElem_map, List.getElem_range]
              rw [(hg i hi).2.2.1]; exact (World.cells?_some (hg i hi).1).2.1)
            (fun i j hi hj => by
              rw [hxl] at hi
              have := cell i j hi hj
              rw [add_plain, add_plain, Nat.add_assoc] at this
              exact this)
            (fun i j hi hj => by
              rw [hxl] at hi
              exact ((hg i hi).2.2.2 j (by rw [(hg i hi).2.2.1, (World.cells?_some (hg i hi).1).2.1]; exact hj)).2)
            (fun i j hi hj => by
              rw [hxl] at hi
              simp only [List.getElem_map, List.getElem_range] at hj ⊢
              exact ((hg i hi).2.2.2 j hj).1)
          rwa [hxl] at key
    · rename_i fs hu
      obtain ⟨xs, n, _, _, hl, hxl, hfs⟩ := DataW.trod_struct hu h
      have hok := beq_iff_eq.1 hok
      obtain ⟨ds, hs, hr⟩ := reads_fields (n := n) ih fs.toList 0 _ cs hok hl (fun fl hfl => by
        obtain ⟨i, hi, rfl⟩ := List.mem_iff_getElem.1 hfl
        have := hfs i _ (show fs[i]? = some fs.toList[i] by simp)
        rw [this]
        have : i < xs.length := by rw [hxl]; simpa using hi
        exact ⟨xs[i], by simp [this]⟩)
      exact ⟨ds, hs, by simpa using hr⟩
    · cases hok
theorem slice_reads {r : Reach} {b0 f : Nat} {t e : TypeId} {v : Value} {d : DataW H} {p : List MemPlace} (hu : P.underlying t = some (.slice e)) (hok : okT P (f + 1) t = true) (hval : Value.okWide P w r b0 t v) (h : DataW.Trod enc P w base spare held t v d p) :
    ∃ xs : List (List D), RelD (fun _ => True) w (.list xs) v ∧ xs.length ≤ maxLen ∧ ∀ x ∈ xs, ShapeT P f e x := by
  obtain ⟨a, len, cap, rfl⟩ := Go.WideShapes.okWide_slice hu hval
  obtain ⟨fuel, hf⟩ := h
  obtain ⟨ds, hs, hr⟩ := trod_reads (f + 1) t fuel _ _ hok hf
  unfold ShapeT at hs
  rw [hu] at hs
  obtain ⟨xs, rfl, hl, hx⟩ := hs
  have := hr.2 0 (by simp)
  exact ⟨xs, by simpa [Value.cells] using this.1, hl, hx⟩
theorem struct_reads {r : Reach} {b0 f : Nat} {t : TypeId} {fs : Array Field} {v : Value} {d : DataW H} {p : List MemPlace} (hu : P.underlying t = some (.struct fs)) (hok : okT P (f + 1) t = true) (hval : Value.okWide P w r b0 t v) (h : DataW.Trod enc P w base spare held t v d p) :
    ∃ ds : List D, RelD (fun _ => True) w (.agg ds) v ∧ shapeFs (ShapeT P f) fs.toList ds := by
  obtain ⟨cs, rfl, hsz⟩ := Go.WideShapes.okWide_struct hu hval
  obtain ⟨fuel, hf⟩ := h
  obtain ⟨ds, hs, hr⟩ := trod_reads (f + 1) t fuel _ _ hok hf
  unfold ShapeT at hs
  rw [hu] at hs
  have hc : (Value.agg cs).cells.toList = cs.toList := rfl
  rw [hc] at hr
  refine ⟨ds, .agg ds cs (by rw [hr.1]; simp) fun j hj => ?_, hs⟩
  have := (hr.2 j hj).1
  simpa [Array.getD_eq_getD_getElem?, List.getD] using this
end
end Go.AM
