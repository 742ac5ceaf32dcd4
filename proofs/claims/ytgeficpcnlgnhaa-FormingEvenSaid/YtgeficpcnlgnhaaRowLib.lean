/- What a law's arguments read as; a call that returns true. No condition. -/
import Derived.Test.YtgeficpcnlgnhaaC5
import Derived.Test.YtgeficpcnlgnhaaC11
import Derived.Test.YtgeficpcnlgnhaaAm19
import Derived.ProofKit
import Derived.SizedLaws
set_option linter.unusedVariables false
set_option linter.unusedSimpArgs false
set_option maxRecDepth 100000
namespace Go.Proofs.YtgeficpcnlgnhaaG
open Go Go.AM Go.Proofs Go.ChangeShapes Go.WideShapes Go.ChangeAt Go.RowKit
theorem own : ownKnob Try.prog.godebug = none := by kernel_rfl
theorem laidOut : laidOutB Try.prog = true := by kernel_rfl

theorem int_shape {f : Nat} {t : TypeId} {ds : List D} (hu : Try.prog.underlying t = some (.int .i64)) (h : ShapeT Try.prog (f + 1) t ds) : ∃ n, ds = [int n] ∧ I64 n := by
  unfold ShapeT at h
  rw [hu] at h
  obtain ⟨n, rfl, h1, h2⟩ := h
  exact ⟨n, rfl, h1, h2⟩
/-- Two numbers. -/
theorem two_shape {f : Nat} {f0 f1 : Field} {ds : List D} (h0 : Try.prog.underlying f0.type = some (.int .i64)) (h1 : Try.prog.underlying f1.type = some (.int .i64)) (h : shapeFs (ShapeT Try.prog (f + 1)) [f0, f1] ds) : ∃ a b, ds = [int a, int b] ∧ I64 a ∧ I64 b := by
  obtain ⟨x, y, rfl, hx, u, v, rfl, hu, hv⟩ := h
  obtain ⟨a, rfl, ha⟩ := int_shape h0 hx
  obtain ⟨b, rfl, hb⟩ := int_shape h1 hu
  simp only [shapeFs] at hv
  subst hv
  exact ⟨a, b, rfl, ha, hb⟩
/-- Knots. -/
theorem knots_shape : ∀ {xs : List (List D)}, (∀ x ∈ xs, ShapeT Try.prog 2 47 x) → ∃ l : List (Int × Int), xs = l.map knD ∧ ∀ k ∈ l, I64 k.1 ∧ I64 k.2
  | [], _ => ⟨[], rfl, by simp⟩
  | x :: xs, h => by
    obtain ⟨l, rfl, hl⟩ := knots_shape (xs := xs) fun y hy => h y (by simp [hy])
    have h0 := h x (by simp)
    unfold ShapeT at h0
    rw [Try.underlying47] at h0
    obtain ⟨a, b, rfl, ha, hb⟩ := two_shape (f := 0) Try.underlying3 Try.underlying3 h0
    exact ⟨(a, b) :: l, rfl, fun k hk => by
      rcases List.mem_cons.1 hk with rfl | hk
      · exact ⟨ha, hb⟩
      · exact hl k hk⟩
/-- Stretches. -/
theorem str_shape {x : List D} (h : ShapeT Try.prog 3 41 x) : ∃ s : Str, x = strL s ∧ (I64 s.1.1 ∧ I64 s.1.2) ∧ (I64 s.2.1 ∧ I64 s.2.2) := by
  unfold ShapeT at h
  rw [Try.underlying41] at h
  obtain ⟨p, q, rfl, hp, u, v, rfl, hu, hv⟩ := h
  unfold ShapeT at hp hu
  simp only at hp hu
  rw [Try.underlying24] at hp hu
  obtain ⟨a, b, rfl, ha, hb⟩ := two_shape (f := 0) Try.underlying3 Try.underlying3 hp
  obtain ⟨c, d, rfl, hc, hd⟩ := two_shape (f := 0) Try.underlying3 Try.underlying3 hu
  simp only [shapeFs] at hv
  subst hv
  exact ⟨((a, b), (c, d)), rfl, ⟨ha, hb⟩, hc, hd⟩
theorem strs_shape : ∀ {xs : List (List D)}, (∀ x ∈ xs, ShapeT Try.prog 3 41 x) → ∃ l : List Str, xs = l.map strL ∧ ∀ s ∈ l, (I64 s.1.1 ∧ I64 s.1.2) ∧ (I64 s.2.1 ∧ I64 s.2.2)
  | [], _ => ⟨[], rfl, by simp⟩
  | x :: xs, h => by
    obtain ⟨l, rfl, hl⟩ := strs_shape (xs := xs) fun y hy => h y (by simp [hy])
    obtain ⟨s, rfl, hs⟩ := str_shape (h x (by simp))
    exact ⟨s :: l, rfl, fun k hk => by
      rcases List.mem_cons.1 hk with rfl | hk
      · exact hs
      · exact hl k hk⟩

/-- A call that takes pure data and returns true. -/
theorem call_true {g : FuncId} {args : List D} (h : PureFn Try.prog g args (boolD true)) (W : World) (vs : Array Value) (hz : vs.size = args.length) (hR : ∀ j (hj : j < args.length), RelD (fun _ => True) W (args[j]) (vs.getD j undef)) :
    Calls Try.prog g vs W fun e w' => e = .returned (.bool true) ∧ Below W.heap.size W w' := by
  refine (h.2 (fun _ => True) W vs hz hR).mono ?_
  rintro e w' ⟨v, rfl, hv, hf⟩
  cases hv
  exact ⟨rfl, hf.below⟩

theorem cons_mk {H : Type} {enc : TypeId × Value → H} {P : Program} {w : World} {base : Nat} {spare : Nat → Bool} {held : Bool} {t : TypeId} {ts : List TypeId} {v : Value} {vs : List Value} {d : DataW H} {ds : List (DataW H)} {p q : List MemPlace}
    (h : DataW.Trod enc P w base spare held t v d p) (hs : DataW.TrodAll enc P w base spare held ts vs ds q) : DataW.TrodAll enc P w base spare held (t :: ts) (v :: vs) (d :: ds) (p ++ q) := ⟨p, q, h, hs, rfl⟩
theorem nil_mk {H : Type} {enc : TypeId × Value → H} {P : Program} {w : World} {base : Nat} {spare : Nat → Bool} {held : Bool} : DataW.TrodAll enc P w base spare held [] [] [] [] := rfl
end Go.Proofs.YtgeficpcnlgnhaaG
