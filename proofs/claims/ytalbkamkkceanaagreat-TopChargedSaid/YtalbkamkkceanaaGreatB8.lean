/- The best recipe and what a recipe brings. No condition. -/
import Derived.Test.YtalbkamkkceanaaGreatB7
set_option linter.unusedVariables false
set_option linter.unusedSimpArgs false
set_option maxRecDepth 100000
set_option maxHeartbeats 4000000
namespace Go.Proofs.YtalbkamkkceanaaGreatG
open Go Go.AM Go.Proofs

theorem greatL_bound {d : Nat → Int} : ∀ {l : List (Int × Int)} {i : Nat}, (∀ j, i ≤ j → j < i + l.length → -20000 ≤ d j ∧ d j ≤ 20000) → (∀ s ∈ l, 0 ≤ s.1 ∧ s.1 ≤ s.2 ∧ s.2 ≤ 1000) → -20000000 * (l.length : Int) ≤ greatL d l i ∧ greatL d l i ≤ 20000000 * (l.length : Int)
  | [], _, _, _ => by simp [greatL]
  | s :: l, i, hd, hs => by
    have h1 := hs s (by simp)
    have h2 := hd i (Nat.le_refl _) (by simp)
    have h3 := greatL_bound (d := d) (l := l) (i := i + 1) (fun j h1 h2 => hd j (by omega) (by simp; omega)) (fun x hx => hs x (by simp [hx]))
    have m1 := mul_bound (B := 20000) h2 (s := s.1) (by omega)
    have m2 := mul_bound (B := 20000) h2 (s := s.2) (by omega)
    simp only [greatL, List.length_cons]
    omega
theorem lok_of {b : Bat} (hb : Bf b) : ∀ l ∈ linesF b, Lok b.mats.length l := fun l hl => by
  have hw := hb.wanted
  rcases List.mem_append.1 hl with hl | hl
  · rcases List.mem_cons.1 hl with rfl | hl
    · refine ⟨by simp, fun c hc => ?_, by simp only; omega⟩
      obtain ⟨m, hm, rfl⟩ := List.mem_map.1 hc
      have h1 := con_of hb hm
      have h2 := sum_bound h1
      have h3 := h1.1
      unfold low1; omega
    · obtain ⟨f, hf, hl⟩ := List.mem_flatMap.1 hl
      simp only [formLines, List.mem_cons, List.not_mem_nil, or_false] at hl
      rcases hl with rfl | rfl
      · refine ⟨by simp, fun c hc => ?_, by simp⟩
        obtain ⟨m, hm, rfl⟩ := List.mem_map.1 hc
        have h1 := con_of hb hm
        have h4 := formOk_of hb hm hf
        have h2 := greatL_bound (d := fun k => f.co k - f.tg.2) (l := m.content) (i := 0) (fun j _ hj => by have := h4.co j (by omega); have := h4.tg; omega) h1.2
        have h3 := h1.1
        unfold upF; omega
      · refine ⟨by simp, fun c hc => ?_, by simp⟩
        obtain ⟨m, hm, rfl⟩ := List.mem_map.1 hc
        have h1 := con_of hb hm
        have h4 := formOk_of hb hm hf
        have h2 := greatL_bound (d := fun k => f.tg.1 - f.co k) (l := m.content) (i := 0) (fun j _ hj => by have := h4.co j (by omega); have := h4.tg; omega) h1.2
        have h3 := h1.1
        unfold downF; omega
  · have hr := hb.redox
    simp only [List.mem_cons, List.not_mem_nil, or_false] at hl
    rcases hl with rfl | rfl
    · refine ⟨by simp, fun c hc => ?_, by simp⟩
      obtain ⟨m, hm, rfl⟩ := List.mem_map.1 hc
      have h1 := con_of hb hm
      have h2 := sum_bound h1
      have h3 := h1.1
      have h4 := hb.mat m hm
      have m1 := red_bound (u := b.redox.2) (s := lowSum m.content) (by omega) (by omega)
      have m2 := red_bound (u := b.redox.2) (s := highSum m.content) (by omega) (by omega)
      unfold redUp; omega
    · refine ⟨by simp, fun c hc => ?_, by simp⟩
      obtain ⟨m, hm, rfl⟩ := List.mem_map.1 hc
      have h1 := con_of hb hm
      have h2 := sum_bound h1
      have h3 := h1.1
      have h4 := hb.mat m hm
      have m1 := red_bound (u := b.redox.1) (s := lowSum m.content) (by omega) (by omega)
      have m2 := red_bound (u := b.redox.1) (s := highSum m.content) (by omega) (by omega)
      unfold redDown; omega
theorem linesF_len {b : Bat} (hb : Bf b) : (linesF b).length ≤ 100 := by
  have h1 := formsF_len hb
  have h2 : ((formsF b).flatMap (formLines b)).length = 2 * (formsF b).length := flat_len 2 (fun _ => rfl)
  rw [linesF, lines0, List.length_append, List.length_cons, h2]
  simp only [List.length_cons, List.length_nil]; omega
theorem right_ok (b : Bat) (hb : Bf b) (r : List Int) (hr : Rok b.mats r) : PureFn Tryz.prog 40 [rowD r, .fptr [linesD (linesF b)]] (boolD (keepsB (linesF b) r)) := by
  refine pureFn_by Tryz.func40 k40 rfl rfl ?_
  conv => whnf
  refine ⟨_, keepsB_ok (linesF b) r hb.nm.2 (lok_of hb) (linesF_len hb) hr.len hr.el, ?_⟩
  conv => whnf
  kernel_rfl
/-- The best recipe of a batch that may be. -/
def bestR (b : Bat) : Bst := bestF (keepsB (linesF b)) b.mats
def bestTop (b : Bat) : D :=
  if batE b = 0 then if fewL b.mats 1 = true then .tup [recD (bestR b).2.2 (bestR b).1, int (bestR b).2.1, boolD (bestR b).2.2, int 0] else .tup [nilD, int 0, boolD false, int 9] else .tup [nilD, int 0, boolD false, int (batE b)]
theorem best_ok (b : Bat) (sb : Sb b) : PureFn Tryz.prog 13 [batD b] (bestTop b) := by
  unfold bestTop
  cases c1 : decide (batE b = 0)
  · have h1 := of_decide_eq_false c1
    rw [if_neg h1]
    refine pureFn_by Tryz.func13 k13 rfl rfl ?_
    conv => whnf
    refine ⟨_, bcheck_ok b sb, ?_⟩
    conv => whnf
    rw [c1]
    conv => whnf
    kernel_rfl
  · have h1 := of_decide_eq_true c1
    have hb := bf_of sb h1
    rw [if_pos h1]
    cases c2 : fewL b.mats 1
    · rw [if_neg (by simp)]
      refine pureFn_by Tryz.func13 k13 rfl rfl ?_
      conv => whnf
      refine ⟨_, bcheck_ok b sb, ?_⟩
      conv => whnf
      rw [c1]
      conv => whnf
      refine ⟨_, few_ok b hb, ?_⟩
      rw [c2]
      conv => whnf
      kernel_rfl
    · rw [if_pos rfl]
      refine pureFn_by Tryz.func13 k13 rfl rfl ?_
      conv => whnf
      refine ⟨_, bcheck_ok b sb, ?_⟩
      conv => whnf
      rw [c1]
      conv => whnf
      refine ⟨_, few_ok b hb, ?_⟩
      rw [c2]
      conv => whnf
      refine ⟨_, lines_ok b hb, ?_⟩
      conv => whnf
      refine givI [(1, .d (.fptr (cellsB b))), (7, .ptr 1 0)] [(1, .var [.d (linesD (linesF b))])]
        [(1, .d (.fptr (cellsB b))), (7, .d (.fptr [linesD (linesF b)]))] [(1, .dead)] (by kernel_rfl)
        (fun s hs => by simp at hs; subst hs; exact .inr ⟨_, rfl⟩) ⟨rfl, .inl rfl, rfl, .inr ⟨_, rfl, rfl⟩, trivial⟩
        ⟨rfl, .inl ⟨rfl, rfl⟩, trivial⟩ ?_
      conv => whnf
      refine ⟨_, cheap_ok b hb 40 [.fptr [linesD (linesF b)]] (keepsB (linesF b)) (fun r hr => right_ok b hb r hr), ?_⟩
      rw [show bestF (keepsB (linesF b)) b.mats = bestR b from rfl]
      obtain ⟨X, n, f⟩ := bestR b
      cases f
      · conv => whnf
        kernel_rfl
      · conv => whnf
        kernel_rfl
theorem badKilo_ok (n : Int) : PureFn Tryz.prog 119 [int n] (boolD (!withinF n 0 10000)) := by
  refine pureFn_by Tryz.func119 k119 rfl rfl ?_
  conv => whnf
  refine ⟨_, withinB_ok n 0 10000, ?_⟩
  conv => whnf
  kernel_rfl
theorem asked_ok (b : Bat) (sb : Sb b) (h0 : batE b = 0) (r : List Int) (hr : Rok b.mats r) : PureFn Tryz.prog 42 [batD b, rowD r] (int 0) := by
  have hb := bf_of sb h0
  have hnm := hb.nm
  have hrl := hr.len
  have hany : (r.any fun n => !withinF n 0 10000) = false := by
    rw [List.any_eq_false]; intro k hk
    have := hr.el k hk
    simp [withinF, this.1, this.2]
  have chk : PureFn Tryz.prog 87 [batD b, rowD r] (int 0) := by
    refine pureFn_by Tryz.func87 k87 rfl rfl ?_
    conv => whnf
    have e : decide (((r.map i1).length : Int) = ((b.mats.map matL).length : Int)) = true := by rw [List.length_map, List.length_map]; exact decide_eq_true (by omega)
    rw [e]
    conv => whnf
    refine ⟨_, any1_ok int r (fun n => !withinF n 0 10000) 119 [] (by omega) (fun n _ => badKilo_ok n), ?_⟩
    rw [hany]
    conv => whnf
    kernel_rfl
  refine pureFn_by Tryz.func42 k42 rfl rfl ?_
  conv => whnf
  refine ⟨_, bcheck_ok b sb, ?_⟩
  rw [h0]
  conv => whnf
  refine ⟨_, chk, ?_⟩
  conv => whnf
  kernel_rfl
def gAdd : List (Int × Int) → Int → List (Int × Int) → List (Int × Int)
  | o :: out, a, s :: c => (o.1 + a * s.1, o.2 + a * s.2) :: gAdd out a c
  | _, _, _ => []
def gramsL : List Mat → List Int → List (Int × Int) → List (Int × Int)
  | m :: ms, a :: r, out => gramsL ms r (gAdd out a m.content)
  | _, _, out => out
def gramsF (b : Bat) (r : List Int) : List (Int × Int) := gramsL b.mats r (List.replicate b.oxides.length (0, 0))
theorem gAdd_len : ∀ {out : List (Int × Int)} {a : Int} {c : List (Int × Int)}, out.length = c.length → (gAdd out a c).length = c.length
  | [], _, [], _ => rfl
  | o :: out, a, s :: c, h => by simp only [gAdd, List.length_cons]; rw [gAdd_len (by simpa using h)]
  | [], _, _ :: _, h => by simp at h
  | _ :: _, _, [], h => by simp at h
theorem gAdd_get : ∀ {out : List (Int × Int)} {a : Int} {c : List (Int × Int)} {i : Nat} {o s : Int × Int}, out[i]? = some o → c[i]? = some s → (gAdd out a c)[i]? = some (o.1 + a * s.1, o.2 + a * s.2)
  | [], _, _, _, _, _, h, _ => by simp at h
  | _ :: _, _, [], _, _, _, _, h => by simp at h
  | o0 :: out, a, s0 :: c, 0, o, s, h1, h2 => by simp at h1 h2; subst h1 h2; rfl
  | o0 :: out, a, s0 :: c, i + 1, o, s, h1, h2 => by
    simp only [gAdd, List.getElem?_cons_succ] at *
    exact gAdd_get h1 h2
def Gb (B : Int) (out : List (Int × Int)) : Prop := ∀ o ∈ out, 0 ≤ o.1 ∧ o.1 ≤ o.2 ∧ o.2 ≤ B
theorem gAdd_b {B a : Int} (ha : 0 ≤ a ∧ a ≤ 10000) : ∀ {out c : List (Int × Int)}, Gb B out → (∀ s ∈ c, 0 ≤ s.1 ∧ s.1 ≤ s.2 ∧ s.2 ≤ 1000) → Gb (B + 10000000) (gAdd out a c)
  | [], _, _, _ => fun o ho => by simp [gAdd] at ho
  | _ :: _, [], _, _ => fun o ho => by simp [gAdd] at ho
  | o0 :: out, s0 :: c, h1, h2 => fun o ho => by
    simp only [gAdd] at ho
    rcases List.mem_cons.1 ho with rfl | ho
    · have b1 := h1 o0 (by simp)
      have b2 := h2 s0 (by simp)
      have m0 : 0 ≤ a * s0.1 := Int.mul_nonneg (by omega) (by omega)
      have m1 : a * s0.1 ≤ a * s0.2 := Int.mul_le_mul_of_nonneg_left (by omega) (by omega)
      have m2 : a * s0.2 ≤ 10000 * 1000 := Int.mul_le_mul ha.2 (by omega) (by omega) (by omega)
      simp only; omega
    · exact gAdd_b ha (fun x hx => h1 x (by simp [hx])) (fun x hx => h2 x (by simp [hx])) o ho
end Go.Proofs.YtalbkamkkceanaaGreatG
