/- What TopOrdered's arguments read as; a call that returns true. No condition. -/
import Derived.Test.YtbkjfjlmhlmdbaaT13
import Derived.Test.YtbkjfjlmhlmdbaaAm19
import Derived.ProofKit
import Derived.SizedLaws
set_option linter.unusedVariables false
set_option linter.unusedSimpArgs false
set_option maxRecDepth 100000
namespace Go.Proofs.YtbkjfjlmhlmdbaaG
open Go Go.AM Go.Proofs Go.ChangeShapes Go.WideShapes Go.ChangeAt Go.RowKit
theorem own : ownKnob Try.prog.godebug = none := by kernel_rfl
theorem laidOut : laidOutB Try.prog = true := by kernel_rfl

theorem int_shape {f : Nat} {t : TypeId} {ds : List D} (hu : Try.prog.underlying t = some (.int .i64)) (h : ShapeT Try.prog (f + 1) t ds) : ∃ n, ds = [int n] := by
  unfold ShapeT at h
  rw [hu] at h
  obtain ⟨n, rfl, h1, h2⟩ := h
  exact ⟨n, rfl⟩
theorem str_shape {f : Nat} {t : TypeId} {ds : List D} (hu : Try.prog.underlying t = some .string) (h : ShapeT Try.prog (f + 1) t ds) : ∃ n, ds = [strD n] := by
  unfold ShapeT at h
  rw [hu] at h
  obtain ⟨n, rfl, h1⟩ := h
  exact ⟨n, rfl⟩
theorem map_shape {α : Type} {f : Nat} {e : TypeId} {φ : α → List D} (h1 : ∀ x, ShapeT Try.prog f e x → ∃ a, x = φ a) : ∀ {xs : List (List D)}, (∀ x ∈ xs, ShapeT Try.prog f e x) → ∃ l : List α, xs = l.map φ
  | [], _ => ⟨[], rfl⟩
  | x :: xs, h => by
    obtain ⟨l, rfl⟩ := map_shape h1 (xs := xs) fun y hy => h y (by simp [hy])
    obtain ⟨a, rfl⟩ := h1 x (h x (by simp))
    exact ⟨a :: l, rfl⟩
theorem list_shape {α : Type} {f : Nat} {t e : TypeId} {φ : α → List D} {ds : List D} (hu : Try.prog.underlying t = some (.slice e)) (h : ShapeT Try.prog (f + 1) t ds) (h1 : ∀ x, ShapeT Try.prog f e x → ∃ a, x = φ a) : ∃ l : List α, ds = [.list (l.map φ)] := by
  unfold ShapeT at h
  rw [hu] at h
  obtain ⟨xs, rfl, _, h2⟩ := h
  obtain ⟨l, rfl⟩ := map_shape h1 h2
  exact ⟨l, rfl⟩
theorem row_shape {f : Nat} {ds : List D} (h : ShapeT Try.prog (f + 2) 30 ds) : ∃ l : List Int, ds = [rowD l] := list_shape Try.underlying30 h fun x hx => int_shape Try.underlying3 hx
theorem plan_shape {f : Nat} {ds : List D} (h : ShapeT Try.prog (f + 3) 29 ds) : ∃ l : List (List Int), ds = [planD l] := list_shape Try.underlying29 h fun x hx => row_shape hx
theorem pair_shape {f : Nat} {ds : List D} (h : ShapeT Try.prog (f + 2) 90 ds) : ∃ t : Int × Int, ds = i2 t := by
  unfold ShapeT at h
  rw [Try.underlying90] at h
  obtain ⟨_, _, rfl, h0, _, _, rfl, h1, h2⟩ := h
  obtain ⟨a, rfl⟩ := int_shape Try.underlying3 h0
  obtain ⟨b, rfl⟩ := int_shape Try.underlying3 h1
  subst h2
  exact ⟨(a, b), rfl⟩
theorem oven_shape {f : Nat} {ds : List D} (h : ShapeT Try.prog (f + 2) 92 ds) : ∃ t : Int × Int, ds = i2 t := by
  unfold ShapeT at h
  rw [Try.underlying92] at h
  obtain ⟨_, _, rfl, h0, _, _, rfl, h1, h2⟩ := h
  obtain ⟨a, rfl⟩ := int_shape Try.underlying3 h0
  obtain ⟨b, rfl⟩ := int_shape Try.underlying3 h1
  subst h2
  exact ⟨(a, b), rfl⟩
theorem turns_shape {f : Nat} {ds : List D} (h : ShapeT Try.prog (f + 4) 25 ds) : ∃ l : List (List (Int × Int)), ds = [turnsD l] := list_shape Try.underlying25 h fun x hx => list_shape Try.underlying65 hx fun y hy => pair_shape hy
theorem art_shape {f : Nat} {ds : List D} (h : ShapeT Try.prog (f + 2) 54 ds) : ∃ a : Art, ds = artL a := by
  unfold ShapeT at h
  rw [Try.underlying54] at h
  obtain ⟨_, _, rfl, h0, _, _, rfl, h1, _, _, rfl, h2, h3⟩ := h
  obtain ⟨a, rfl⟩ := str_shape Try.underlying9 h0
  obtain ⟨b, rfl⟩ := int_shape Try.underlying3 h1
  obtain ⟨c, rfl⟩ := int_shape Try.underlying3 h2
  subst h3
  exact ⟨⟨a, b, c⟩, rfl⟩
theorem mk_shape {f : Nat} {ds : List D} (h : ShapeT Try.prog (f + 3) 64 ds) : ∃ a : Mk, ds = mkL a := by
  unfold ShapeT at h
  rw [Try.underlying64] at h
  obtain ⟨_, _, rfl, h0, _, _, rfl, h1, _, _, rfl, h2, _, _, rfl, h3, h4⟩ := h
  obtain ⟨a, rfl⟩ := int_shape Try.underlying3 h0
  obtain ⟨b, rfl⟩ := row_shape h1
  obtain ⟨c, rfl⟩ := int_shape Try.underlying3 h2
  obtain ⟨d, rfl⟩ := int_shape Try.underlying3 h3
  subst h4
  exact ⟨⟨a, b, c, d⟩, rfl⟩
theorem ord_shape {f : Nat} {ds : List D} (h : ShapeT Try.prog (f + 2) 52 ds) : ∃ a : Ord, ds = ordL a := by
  unfold ShapeT at h
  rw [Try.underlying52] at h
  obtain ⟨_, _, rfl, h0, _, _, rfl, h1, _, _, rfl, h2, _, _, rfl, h3, h4⟩ := h
  obtain ⟨a, rfl⟩ := int_shape Try.underlying3 h0
  obtain ⟨b, rfl⟩ := int_shape Try.underlying3 h1
  obtain ⟨c, rfl⟩ := int_shape Try.underlying3 h2
  obtain ⟨d, rfl⟩ := int_shape Try.underlying3 h3
  subst h4
  exact ⟨⟨a, b, c, d⟩, rfl⟩
theorem season_shape {f0 f1 f2 f3 f4 f5 f6 : Field} {ds : List D} (t0 : f0.type = 3) (t1 : f1.type = 22) (t2 : f2.type = 23) (t3 : f3.type = 24) (t4 : f4.type = 25) (t5 : f5.type = 25) (t6 : f6.type = 26)
    (h : shapeFs (ShapeT Try.prog 4) [f0, f1, f2, f3, f4, f5, f6] ds) : ∃ s : Season, ds = cellsS s := by
  obtain ⟨_, _, rfl, h0, _, _, rfl, h1, _, _, rfl, h2, _, _, rfl, h3, _, _, rfl, h4, _, _, rfl, h5, _, _, rfl, h6, h7⟩ := h
  rw [t0] at h0; rw [t1] at h1; rw [t2] at h2; rw [t3] at h3; rw [t4] at h4; rw [t5] at h5; rw [t6] at h6
  obtain ⟨a, rfl⟩ := int_shape Try.underlying3 h0
  obtain ⟨b, rfl⟩ := list_shape Try.underlying22 h1 fun x hx => art_shape hx
  obtain ⟨c, rfl⟩ := list_shape Try.underlying23 h2 fun x hx => oven_shape hx
  obtain ⟨d, rfl⟩ := list_shape Try.underlying24 h3 fun x hx => mk_shape hx
  obtain ⟨e, rfl⟩ := turns_shape h4
  obtain ⟨u, rfl⟩ := turns_shape h5
  obtain ⟨v, rfl⟩ := list_shape Try.underlying26 h6 fun x hx => ord_shape hx
  subst h7
  exact ⟨⟨a, b, c, d, e, u, v⟩, rfl⟩
theorem ask_shape {f0 f1 f2 f3 : Field} {ds : List D} (t0 : f0.type = 29) (t1 : f1.type = 29) (t2 : f2.type = 3) (t3 : f3.type = 30) (h : shapeFs (ShapeT Try.prog 3) [f0, f1, f2, f3] ds) : ∃ x : Ask, ds = askL x := by
  obtain ⟨_, _, rfl, h0, _, _, rfl, h1, _, _, rfl, h2, _, _, rfl, h3, h4⟩ := h
  rw [t0] at h0; rw [t1] at h1; rw [t2] at h2; rw [t3] at h3
  obtain ⟨a, rfl⟩ := plan_shape h0
  obtain ⟨b, rfl⟩ := plan_shape h1
  obtain ⟨c, rfl⟩ := int_shape Try.underlying3 h2
  obtain ⟨d, rfl⟩ := row_shape h3
  subst h4
  exact ⟨⟨a, b, c, d⟩, rfl⟩

theorem span_shape {f : Nat} {ds : List D} (h : ShapeT Try.prog (f + 2) 59 ds) : ∃ t : Int × Int, ds = i2 t := by
  unfold ShapeT at h
  rw [Try.underlying59] at h
  obtain ⟨_, _, rfl, h0, _, _, rfl, h1, h2⟩ := h
  obtain ⟨a, rfl⟩ := int_shape Try.underlying3 h0
  obtain ⟨b, rfl⟩ := int_shape Try.underlying3 h1
  subst h2
  exact ⟨(a, b), rfl⟩
theorem ring_shape {f : Nat} {ds : List D} (h : ShapeT Try.prog (f + 3) 83 ds) : ∃ r : Ring, ds = ringL r := by
  unfold ShapeT at h
  rw [Try.underlying83] at h
  obtain ⟨_, _, rfl, h0, _, _, rfl, h1, _, _, rfl, h2, _, _, rfl, h3, _, _, rfl, h4, h5⟩ := h
  obtain ⟨a, rfl⟩ := span_shape h0
  obtain ⟨b, rfl⟩ := span_shape h1
  obtain ⟨c, rfl⟩ := span_shape h2
  obtain ⟨d, rfl⟩ := span_shape h3
  obtain ⟨e, rfl⟩ := span_shape h4
  subst h5
  exact ⟨⟨a.1, a.2, b.1, b.2, c.1, c.2, d.1, d.2, e.1, e.2⟩, rfl⟩
theorem bottle_shape {f : Nat} {ds : List D} (h : ShapeT Try.prog (f + 5) 35 ds) : ∃ b : Bottle, ds = cellsB b := by
  unfold ShapeT at h
  rw [Try.underlying35] at h
  obtain ⟨_, _, rfl, h0, _, _, rfl, h1, _, _, rfl, h2, h3⟩ := h
  obtain ⟨a, rfl⟩ := list_shape Try.underlying33 h0 fun x hx => ring_shape hx
  obtain ⟨b, rfl⟩ := int_shape Try.underlying3 h1
  obtain ⟨c, rfl⟩ := int_shape Try.underlying3 h2
  subst h3
  exact ⟨⟨a, b, c⟩, rfl⟩
theorem load_shape {f : Nat} {ds : List D} (h : ShapeT Try.prog (f + 2) 37 ds) : ∃ l : Load, ds = [int l.press, int l.force, int l.speed, int l.other] := by
  unfold ShapeT at h
  rw [Try.underlying37] at h
  obtain ⟨_, _, rfl, h0, _, _, rfl, h1, _, _, rfl, h2, _, _, rfl, h3, h4⟩ := h
  obtain ⟨a, rfl⟩ := int_shape Try.underlying3 h0
  obtain ⟨b, rfl⟩ := int_shape Try.underlying3 h1
  obtain ⟨c, rfl⟩ := int_shape Try.underlying3 h2
  obtain ⟨d, rfl⟩ := int_shape Try.underlying3 h3
  subst h4
  exact ⟨⟨a, b, c, d⟩, rfl⟩
theorem btl_shape {f0 f1 : Field} {ds : List D} (t0 : f0.type = 35) (t1 : f1.type = 37) (h : shapeFs (ShapeT Try.prog 5) [f0, f1] ds) : ∃ y : Bottle × Load, ds = btlL y.1 y.2 := by
  obtain ⟨_, _, rfl, h0, _, _, rfl, h1, h2⟩ := h
  rw [t0] at h0; rw [t1] at h1
  obtain ⟨b, rfl⟩ := bottle_shape h0
  obtain ⟨l, rfl⟩ := load_shape h1
  subst h2
  exact ⟨(b, l), rfl⟩
theorem ordered_law' (s : Season) (x : Ask) (y : Bottle × Load) : PureFn Try.prog 3 [seasonD s, askD x, btlD y.1 y.2] (boolD true) := ordered_law s x y.1 y.2

/-- A call that takes pure data and returns true. -/
theorem call_true {g : FuncId} {args : List D} (h : PureFn Try.prog g args (boolD true)) (W : World) (vs : Array Value) (hz : vs.size = args.length) (hR : ∀ j (hj : j < args.length), RelD (fun _ => True) W (args[j]) (vs.getD j undef)) :
    Calls Try.prog g vs W fun e w' => e = .returned (.bool true) ∧ Below W.heap.size W w' := by
  refine (h.2 (fun _ => True) W vs hz hR).mono ?_
  rintro e w' ⟨v, rfl, hv, hf⟩
  cases hv
  exact ⟨rfl, hf.below⟩

theorem cons_mk {H : Type} {enc : TypeId × Value → H} {P : Program} {w : World} {base : Nat} {spare : Nat → Bool} {held : Bool} {t : TypeId} {ts : List TypeId} {v : Value} {vs : List Value} {d : DataW H} {ds : List (DataW H)} {p q : List MemPlace}
    (h : DataW.Trod enc P w base spare held t v d p) (hs : DataW.TrodAll enc P w base spare held ts vs ds q) : DataW.TrodAll enc P w base spare held (t :: ts) (v :: vs) (d :: ds) (p ++ q) := ⟨p, q, h, hs, rfl⟩
theorem nil_mk {H : Type} {enc : TypeId × Value → H} {P : Program} {w : World} {base : Nat} {spare : Nat → Bool} {held : Bool} : DataW.TrodAll enc P w base spare held [] [] [] [] := rfl
end Go.Proofs.YtbkjfjlmhlmdbaaG
