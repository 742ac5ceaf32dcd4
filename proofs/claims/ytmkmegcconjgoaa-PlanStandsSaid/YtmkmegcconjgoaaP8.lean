/- Copies; a furnace's shifts, one by one: what they are. No condition. -/
import Derived.Test.YtmkmegcconjgoaaP7
set_option linter.unusedVariables false
set_option linter.unusedSimpArgs false
set_option maxRecDepth 100000
set_option maxHeartbeats 4000000
namespace Go.Proofs.YtmkmegcconjgoaaG
open Go Go.AM Go.Proofs

theorem snap_take {b : Nat → ABlk} {s n tot esz : Nat} {els : List (List D)} (h1 : b s = .row esz els) (h2 : tot = els.length) (h3 : n ≤ els.length) : snap b 4 (.row s 0 n tot) = some (.list (els.take n)) := by
  subst h2; simp [snap, h1, h3]
theorem snap_row0 {b : Nat → ABlk} {s n esz : Nat} {els : List (List D)} (h1 : b s = .row esz els) (h2 : n = els.length) : snap b 4 (.row s 0 n n) = some (.list els) := by
  subst h2; simp [snap, h1]
theorem mapM2 {b : Nat → ABlk} {x y : AC} {d e : D} (h1 : snap b 4 x = some d) (h2 : snap b 4 y = some e) : [x, y].mapM (snap b 4) = some [d, e] := by
  simp [List.mapM_cons, h1, h2]
theorem call1 {t : Nat → AC} {b : Nat → ABlk} {o1 : Opnd} {d : D} (h1 : snap b 4 (evO t o1) = some d) : ([o1].map (evO t)).mapM (snap b 4) = some [d] := by
  simp [List.mapM_cons, h1]
theorem call2 {t : Nat → AC} {b : Nat → ABlk} {o1 o2 : Opnd} {d e : D} (h1 : snap b 4 (evO t o1) = some d) (h2 : snap b 4 (evO t o2) = some e) : ([o1, o2].map (evO t)).mapM (snap b 4) = some [d, e] := mapM2 h1 h2
theorem call4 {t : Nat → AC} {b : Nat → ABlk} {o1 o2 o3 o4 : Opnd} {d1 d2 d3 d4 : D} (h1 : snap b 4 (evO t o1) = some d1) (h2 : snap b 4 (evO t o2) = some d2) (h3 : snap b 4 (evO t o3) = some d3) (h4 : snap b 4 (evO t o4) = some d4) :
    ([o1, o2, o3, o4].map (evO t)).mapM (snap b 4) = some [d1, d2, d3, d4] := by
  simp [List.mapM_cons, h1, h2, h3, h4]

theorem newD_row {σ : St} {s n esz : Nat} {els : List (List D)} (h2 : σ.b s = .row esz els) (h3 : n = els.length) (h4 : els.all (fun e => e.all flatD) = true) : newD σ (.row s 0 n n) = some (.list els) := by
  subst h3; simp only [newD, h2]; simp [h4]
theorem flat_row (l : List Int) : (l.map i1).all (fun e => e.all flatD) = true := by
  rw [List.all_eq_true]; intro x hx; obtain ⟨n, _, rfl⟩ := List.mem_map.1 hx; rfl
theorem one_row (l : List Int) : (l.map i1).all (fun e => Nat.beq e.length 1) = true := by
  rw [List.all_eq_true]; intro x hx; obtain ⟨n, _, rfl⟩ := List.mem_map.1 hx; rfl

theorem clone_ok (l : List Int) (hl : l.length ≤ 1000000) : FnNew Try.prog 71 [rowD l] (rowD l) := by
  cases l with
  | nil =>
    refine fnNew_by Try.func71 k71 rfl rfl ?_
    conv => whnf
    refine ⟨?_, ?_⟩
    · conv => whnf
      kernel_rfl
    · conv => whnf
      refine ⟨rfl, rfl, rfl, most_le (by simp), ?_⟩
      conv => whnf
      kernel_rfl
  | cons x r =>
    refine fnNew_by Try.func71 k71 rfl rfl ?_
    conv => whnf
    refine ⟨one_row (x :: r), rfl, rfl, most_le (by simp at hl ⊢; omega), ?_⟩
    conv => whnf
    have fin : ∀ σ : St, σ.b 0 = .row 1 ([] ++ (x :: r).map i1) → newD σ (.row 0 0 (([] : List (List D)).length + ((x :: r).map i1).length) (([] : List (List D)).length + ((x :: r).map i1).length)) = some (rowD (x :: r)) := fun σ hσ =>
      newD_row (s := 0) (esz := 1) (els := [] ++ (x :: r).map i1) hσ (by simp) (flat_row (x :: r))
    exact fin _ rfl

theorem shifts_ok (s : Season) (h : Fr s) (k : Int) : PureFn Try.prog 51 [seasonD s, int k] (.clo 85 [] [.fptr [rowD (makersF s k)], .fptr (cellsS s), .fptr [int k]]) := by
  refine pureFn_by Try.func51 k51 rfl rfl ?_
  conv => whnf
  refine ⟨_, makers_ok s h.sm k, ?_⟩
  conv => whnf
  kernel_rfl

@[reducible] def LS : List Nat := [1, 2, 3, 1001, 1002, 1003]
/-- What takes the shifts, one by one. -/
structure Cons (S : Type) where
  go : S → Bool
  step : S → List Int → S
  c1 : S → ABlk
  c2 : S → ABlk
  c3 : S → ABlk
  h1 : ∀ σ, scrB LS (c1 σ) = c1 σ
  h2 : ∀ σ, scrB LS (c2 σ) = c2 σ
  h3 : ∀ σ, scrB LS (c3 σ) = c3 σ
def Cons.st {S : Type} (C : Cons S) (σ : S) (r : List Int) : S := if C.go σ = true then C.step σ r else σ
def Cons.all {S : Type} (C : Cons S) (rs : List (List Int)) (σ : S) : S := rs.foldl C.st σ
theorem Cons.all_stop {S : Type} (C : Cons S) {rs : List (List Int)} {σ : S} (h : C.go σ = false) : C.all rs σ = σ := by
  induction rs with
  | nil => rfl
  | cons r rs ih => simp only [Cons.all, List.foldl_cons]; rw [show C.st σ r = σ by simp [Cons.st, h]]; exact ih
theorem Cons.all_append {S : Type} (C : Cons S) (a b : List (List Int)) (σ : S) : C.all (a ++ b) σ = C.all b (C.all a σ) := by simp [Cons.all, List.foldl_append]

section
variable {S : Type} (C : Cons S) (s : Season) (k : Int) (ms : List Int) (lp : Nat)
@[reducible] def fcaps : List AC := [.d (.fptr [rowD ms]), .d (.fptr (cellsS s)), .d (.fptr [int k]), .ptr 1001 0, .d (.fptr [.v (.func (.yield lp) #[] #[])]), .ptr 1002 0]
@[reducible] def fst' (x : S × List (List D)) : Nat → ABlk :=
  mkB [(1, C.c1 x.1), (2, C.c2 x.1), (3, C.c3 x.1), (1001, .var [.row 1003 0 ms.length ms.length]), (1002, .var [.clo 86 [] (fcaps s k ms lp)]), (1003, .row 1 x.2)]
/-- The slots lie so. -/
structure Lie (x : S × List (List D)) (b : Nat → ABlk) : Prop where
  b1 : b 1 = C.c1 x.1
  b2 : b 2 = C.c2 x.1
  b3 : b 3 = C.c3 x.1
  b4 : b 1001 = .var [.row 1003 0 ms.length ms.length]
  b5 : b 1002 = .var [.clo 86 [] (fcaps s k ms lp)]
  b6 : b 1003 = .row 1 x.2
theorem Lie.forget {x : S × List (List D)} {t : Nat → AC} {b : Nat → ABlk} (h : Lie C s k ms lp x b) (lt : List Nat) : (St.forget ⟨t, b⟩ lt LS).b = fst' C s k ms lp x := by
  show mkB [(1, scrB LS (b 1)), (2, scrB LS (b 2)), (3, scrB LS (b 3)), (1001, scrB LS (b 1001)), (1002, scrB LS (b 1002)), (1003, scrB LS (b 1003))] = _
  rw [h.b1, h.b2, h.b3, h.b4, h.b5, h.b6, C.h1, C.h2, C.h3]
  rfl
end
/-- Is an article left out behind others? -/
def skipF (s : Season) (ms pre : List Int) (a : Int) : Bool := decide (0 ≤ a) && (decide (rateF s (ms.getD pre.length 0) a = 0) || !decide (colA s a = colF s (pre ++ [a])))
/-- The shifts that begin with some articles. -/
def rowsF (s : Season) (k : Int) (ms : List Int) : Nat → List Int → List (List Int)
  | 0, pre => if fitsF s k ms pre = true then [pre] else []
  | d + 1, pre => (List.range (s.arts.length + 1)).flatMap fun (u : Nat) => if skipF s ms pre ((u : Int) - 1) = true then [] else rowsF s k ms d (pre ++ [(u : Int) - 1])
def shiftsF (s : Season) (k : Int) : List (List Int) := rowsF s k (makersF s k) (makersF s k).length []
end Go.Proofs.YtmkmegcconjgoaaG
