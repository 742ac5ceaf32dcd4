/- FormingEven answers true. No condition. -/
import Derived.Test.YtgeficpcnlgnhaaC34
import Derived.Test.YtgeficpcnlgnhaaC33
set_option linter.unusedVariables false
set_option linter.unusedSimpArgs false
set_option maxRecDepth 100000
set_option maxHeartbeats 8000000
namespace Go.Proofs.YtgeficpcnlgnhaaG
open Go Go.AM Go.Proofs

section
variable {cycle home : Int} {l : List (Int × Int)} {M : Int}
theorem whereE_mod (u : Int × Int) : whereE cycle home l u = whereE cycle home l (u.1 % (cycle * u.2), u.2) := by
  unfold whereE
  simp only [Int.emod_emod]
theorem where_bd (h : Okm cycle home l) {t : Int × Int} (d1 : 1 ≤ t.2) (d2 : t.2 ≤ 50) (t0 : 0 ≤ t.1) (t1 : t.1 < cycle * t.2) :
    (0 ≤ (red (whereE cycle home l t)).1 ∧ (red (whereE cycle home l t)).1 ≤ 180000000000) ∧ 1 ≤ (red (whereE cycle home l t)).2 ∧ (red (whereE cycle home l t)).2 ≤ 180000 := by
  obtain ⟨i, hi, ti, ew, _⟩ := where_part h d1 (by omega) t0 t1
  have ok := h.pc hi
  have ab := ok.ab
  have W : 1 ≤ ((pcN cycle home l i).b - (pcN cycle home l i).a) * t.2 := Int.mul_pos (a := (pcN cycle home l i).b - (pcN cycle home l i).a) (b := t.2) (by omega) (by omega)
  have W2 := mul_bd (x := (pcN cycle home l i).b - (pcN cycle home l i).a) (y := t.2) (A := 3600) (B := 50) ⟨by have := ok.a0; have := ok.bc; have := h.c2; omega, by have := ok.a0; have := ok.bc; have := h.c2; omega⟩ ⟨by omega, by omega⟩
  have b0 : 0 ≤ (posE t.1 t.2 (pcN cycle home l i)).1 ∧ (posE t.1 t.2 (pcN cycle home l i)).1 ≤ 1000000 * (((pcN cycle home l i).b - (pcN cycle home l i).a) * t.2) := by
    have s0 := (inF_iff ok (0, 1000000) (t := t) d1)
    unfold posE
    simp only
    obtain ⟨u1, u2⟩ := ti
    have e : ((pcN cycle home l i).b - (pcN cycle home l i).a) * t.2 = (pcN cycle home l i).b * t.2 - (pcN cycle home l i).a * t.2 := Int.sub_mul ..
    generalize hw : ((pcN cycle home l i).b - (pcN cycle home l i).a) * t.2 = w at *
    generalize hv : t.1 - (pcN cycle home l i).a * t.2 = v
    have v0 : 0 ≤ v := by omega
    have v1 : 0 ≤ w - v := by omega
    have e1 : (pcN cycle home l i).p * w + ((pcN cycle home l i).q - (pcN cycle home l i).p) * v = (pcN cycle home l i).p * (w - v) + (pcN cycle home l i).q * v := by
      rw [Int.sub_mul, Int.mul_sub]; omega
    rw [e1]
    have m1 := Int.mul_nonneg ok.p0 v1
    have m2 := Int.mul_nonneg ok.q0 v0
    have m3 := Int.mul_le_mul_of_nonneg_right ok.p1 v1
    have m4 := Int.mul_le_mul_of_nonneg_right ok.q1 v0
    omega
  rw [ew]
  have wd : (posE t.1 t.2 (pcN cycle home l i)).2 = ((pcN cycle home l i).b - (pcN cycle home l i).a) * t.2 := rfl
  generalize posE t.1 t.2 (pcN cycle home l i) = r at *
  rw [← wd] at W W2 b0
  have g := gcd_pos (n := r.1) W
  have gl := gcd_le (n := r.1) W
  unfold red
  simp only
  refine ⟨⟨Int.ediv_nonneg b0.1 (by omega), ?_⟩, Int.le_ediv_of_mul_le (by omega) (by omega), ?_⟩
  · have := Int.ediv_le_self (Int.gcd r.1 r.2 : Int) b0.1; omega
  · have := Int.ediv_le_self (Int.gcd r.1 r.2 : Int) (show 0 ≤ r.2 by omega); omega
theorem even_main (h : Okm cycle home l) (f : Fast cycle home l M) {t : Int × Int} (ht : Tm cycle t) (more : Int) :
    Lp M t.2 (max more (-more) * t.2) (red (whereE cycle home l t)) (red (whereE cycle home l (t.1 + more * t.2, t.2))) := by
  have d1 := ht.d.1
  have cD : 1 ≤ cycle * t.2 := Int.mul_pos (a := cycle) (b := t.2) (by have := h.c1; omega) (by omega)
  rw [whereE_mod (t.1 + more * t.2, t.2)]
  simp only
  have m0 := Int.emod_nonneg (t.1 + more * t.2) (b := cycle * t.2) (by omega)
  have m1 := Int.emod_lt_of_pos (t.1 + more * t.2) (b := cycle * t.2) (by omega)
  have me := Int.mul_ediv_add_emod (t.1 + more * t.2) (cycle * t.2)
  generalize (t.1 + more * t.2) % (cycle * t.2) = B at *
  generalize (t.1 + more * t.2) / (cycle * t.2) = k at *
  obtain ⟨i, hi, ti, ei, _⟩ := where_part h d1 (by have := ht.d; omega) ht.n0 ht.n1
  obtain ⟨j, hj, tj, ej, _⟩ := where_part h (t := (B, t.2)) d1 (by have := ht.d; omega) m0 m1
  rw [ei, ej]
  have di := posE_den (D := t.2) (h.pc hi).ab d1 t.1
  have dj := posE_den (D := t.2) (h.pc hj).ab d1 B
  refine Lp.red di dj ?_
  have em : max more (-more) * t.2 = max (more * t.2) (-(more * t.2)) := by
    rcases Int.le_total 0 more with c | c
    · have := Int.mul_nonneg c (show 0 ≤ t.2 by omega)
      rw [Int.max_eq_left (by omega), Int.max_eq_left (by omega)]
    · have := Int.mul_nonpos_of_nonpos_of_nonneg c (show 0 ≤ t.2 by omega)
      rw [Int.max_eq_right (by omega), Int.max_eq_right (by omega), Int.neg_mul]
  rw [em]
  have n0 := ht.n0
  have n1 := ht.n1
  -- more * D = k c D + (B - A)
  have kk : k = 0 ∨ 1 ≤ k ∨ k ≤ -1 := by omega
  have kc : (k = 0 → cycle * t.2 * k = 0) ∧ (1 ≤ k → cycle * t.2 ≤ cycle * t.2 * k) ∧ (k ≤ -1 → cycle * t.2 * k ≤ -(cycle * t.2)) := by
    refine ⟨fun e => by rw [e, Int.mul_zero], fun e => ?_, fun e => ?_⟩
    · have := Int.mul_le_mul_of_nonneg_left e (show 0 ≤ cycle * t.2 by omega); omega
    · have := Int.mul_le_mul_of_nonneg_left e (show 0 ≤ cycle * t.2 by omega); omega
  generalize hz : cycle * t.2 * k = z at *
  rcases Int.le_total t.1 B with c | c
  · rcases kk with e | e | e
    · have := kc.1 e
      exact (lp_times h f d1 hi hj ti tj c).mono f.m0 di dj (by omega)
    · have := kc.2.1 e
      exact (lp_times h f d1 hi hj ti tj c).mono f.m0 di dj (by omega)
    · have := kc.2.2 e
      exact (lp_round h f d1 hi hj ti tj n0 (by omega)).mono f.m0 di dj (by omega)
  · rcases kk with e | e | e
    · have := kc.1 e
      exact (lp_times h f d1 hj hi tj ti c).symm.mono f.m0 di dj (by omega)
    · have := kc.2.1 e
      exact (lp_round h f d1 hj hi tj ti m0 (by omega)).symm.mono f.m0 di dj (by omega)
    · have := kc.2.2 e
      exact (lp_times h f d1 hj hi tj ti c).symm.mono f.m0 di dj (by omega)
end

/-- The least whole number of places in a tick that is enough. -/
theorem ceil_ok {d n : Int} (hd : -1000000 ≤ d ∧ d ≤ 1000000) (hn : 1 ≤ n ∧ n ≤ 3600) : 0 ≤ (max d (-d) + n - 1).tdiv n ∧ (max d (-d) + n - 1).tdiv n ≤ 1003600 ∧ d ≤ (max d (-d) + n - 1).tdiv n * n ∧ -d ≤ (max d (-d) + n - 1).tdiv n * n := by
  have e := Int.mul_tdiv_add_tmod (max d (-d) + n - 1) n
  have r0 := Int.tmod_nonneg (a := max d (-d) + n - 1) n (by omega)
  have r1 := Int.tmod_lt_of_pos (max d (-d) + n - 1) (show 0 < n by omega)
  have q0 : 0 ≤ (max d (-d) + n - 1).tdiv n := Int.tdiv_nonneg (by omega) (by omega)
  rw [Int.mul_comm] at e
  generalize (max d (-d) + n - 1).tdiv n = q at *
  generalize (max d (-d) + n - 1).tmod n = r at *
  have : q ≤ q * n := by
    have := Int.mul_le_mul_of_nonneg_left hn.1 q0; omega
  omega

theorem even_law (cycle home : Int) (l : List (Int × Int)) (num den more : Int) (hcI : I64 cycle) (hhI : I64 home) (hl : ∀ k ∈ l, I64 k.1 ∧ I64 k.2) (hn : I64 num) (hd : I64 den) (hm : I64 more) :
    PureFn Try.prog 6 [int cycle, int home, knotsD l, int num, int den, int more] (boolD true) := by
  have x := Stretches_ok cycle home l (0, 0)
  refine pureFn_by Try.func6 k6 rfl rfl ?_
  conv => whnf
  cases c1 : decide (100 < ((l.map knD).length : Int))
  case true =>
    conv => whnf
    exact ⟨_, turns_ok, rfl⟩
  conv => whnf
  cases c2 : decide (50 < more)
  case true =>
    conv => whnf
    exact ⟨_, turns_ok, rfl⟩
  conv => whnf
  cases c3 : decide (more < -50)
  case true =>
    conv => whnf
    exact ⟨_, turns_ok, rfl⟩
  have m1 := of_decide_eq_false c2
  have m2 := of_decide_eq_false c3
  have sf := str_facts (cycle := cycle) (home := home) (l := l) (s := (0, 0))
  generalize StretchesR cycle home l (0, 0) = R at x sf
  obtain ⟨S, e⟩ := R
  simp only at sf
  conv => whnf
  refine ⟨_, x, ?_⟩
  rcases sf with ⟨he, rfl⟩ | ⟨rfl, ok, h0, so, hlen, iff⟩
  · conv => whnf
    rw [show decide (e = 0) = false by simpa using he]
    conv => whnf
    exact ⟨_, turns_ok, rfl⟩
  clear so hlen iff x
  have hcy : 1 ≤ cycle ∧ cycle ≤ 3600 := ⟨ok.c1, ok.c2⟩
  have hlen := ok.len
  conv => whnf
  refine loopB (fun (x : Int × Int) => ⟨mkT [(0, .d (int cycle)), (1, .d (int home)), (2, .d (knotsD l)), (3, .d (int num)), (4, .d (int den)), (5, .d (int more)), (15, .d (int x.2)), (16, .d (int x.1))], mkB []⟩)
    (fun x => ∃ i : Nat, x.1 = i ∧ i ≤ l.length ∧ (0 ≤ x.2 ∧ x.2 ≤ 1003600) ∧ ∀ j, j < i → (pcAt cycle l j).q - (pcAt cycle l j).p ≤ x.2 * ((pcAt cycle l j).b - (pcAt cycle l j).a) ∧ (pcAt cycle l j).p - (pcAt cycle l j).q ≤ x.2 * ((pcAt cycle l j).b - (pcAt cycle l j).a))
    (fun x => (l.length - x.1).toNat) (0, 0) (by kernel_rfl) ⟨0, rfl, by omega, by simp, fun j hj => by omega⟩ ?_
  rintro ⟨x, M⟩ ⟨i, hx, hil, hM, hj⟩
  simp only at hx hM hj
  subst hx
  conv => whnf
  rw [List.length_map]
  cases c4 : decide ((i : Int) < (l.length : Int))
  case true =>
    have hi : i < l.length := by have := of_decide_eq_true c4; omega
    have hw := next_big (i := i) (by omega)
    have hg : (l.map knD)[(i : Int).toNat]? = some (knD (l.getD i (0, 0))) := by rw [Int.toNat_natCast]; exact kn_get hi
    have hg0 : (l.map knD)[(0 : Int).toNat]? = some (knD (l.getD 0 (0, 0))) := kn_get (show 0 < l.length by omega)
    have pe : pcN cycle home l i = pcAt cycle l i := by unfold pcN; rw [if_neg (by omega)]
    have op := ok.pc (i := i) (by omega)
    rw [pe] at op
    have ab := op.ab
    have w1 : IntKind.wrap .i64 ((pcAt cycle l i).q - (pcAt cycle l i).p) = (pcAt cycle l i).q - (pcAt cycle l i).p := wr_in ⟨by have := op.q0; have := op.p1; omega, by have := op.q1; have := op.p0; omega⟩
    have w2 : IntKind.wrap .i64 ((pcAt cycle l i).b - (pcAt cycle l i).a) = (pcAt cycle l i).b - (pcAt cycle l i).a := wr_in ⟨by omega, by have := op.bc; have := op.a0; omega⟩
    have db : -1000000 ≤ (pcAt cycle l i).q - (pcAt cycle l i).p ∧ (pcAt cycle l i).q - (pcAt cycle l i).p ≤ 1000000 := by have := op.q0; have := op.p1; have := op.q1; have := op.p0; omega
    have nb : 1 ≤ (pcAt cycle l i).b - (pcAt cycle l i).a ∧ (pcAt cycle l i).b - (pcAt cycle l i).a ≤ 3600 := by have := op.bc; have := op.a0; omega
    have w3 : IntKind.wrap .i64 (0 - ((pcAt cycle l i).q - (pcAt cycle l i).p)) = -((pcAt cycle l i).q - (pcAt cycle l i).p) := by rw [Int.zero_sub]; exact wr_in ⟨by omega, by omega⟩
    have w4 : IntKind.wrap .i64 (max ((pcAt cycle l i).q - (pcAt cycle l i).p) (-((pcAt cycle l i).q - (pcAt cycle l i).p)) + ((pcAt cycle l i).b - (pcAt cycle l i).a)) = max ((pcAt cycle l i).q - (pcAt cycle l i).p) (-((pcAt cycle l i).q - (pcAt cycle l i).p)) + ((pcAt cycle l i).b - (pcAt cycle l i).a) := wr_in ⟨by omega, by omega⟩
    have w5 : IntKind.wrap .i64 (max ((pcAt cycle l i).q - (pcAt cycle l i).p) (-((pcAt cycle l i).q - (pcAt cycle l i).p)) + ((pcAt cycle l i).b - (pcAt cycle l i).a) - 1) = max ((pcAt cycle l i).q - (pcAt cycle l i).p) (-((pcAt cycle l i).q - (pcAt cycle l i).p)) + ((pcAt cycle l i).b - (pcAt cycle l i).a) - 1 := wr_in ⟨by omega, by omega⟩
    have ce := ceil_ok db nb
    have w6 : IntKind.wrap .i64 ((max ((pcAt cycle l i).q - (pcAt cycle l i).p) (-((pcAt cycle l i).q - (pcAt cycle l i).p)) + ((pcAt cycle l i).b - (pcAt cycle l i).a) - 1).tdiv ((pcAt cycle l i).b - (pcAt cycle l i).a)) = (max ((pcAt cycle l i).q - (pcAt cycle l i).p) (-((pcAt cycle l i).q - (pcAt cycle l i).p)) + ((pcAt cycle l i).b - (pcAt cycle l i).a) - 1).tdiv ((pcAt cycle l i).b - (pcAt cycle l i).a) := wr_in ⟨by omega, by omega⟩
    -- the new most
    have mono : ∀ {a b n : Int}, a ≤ b → 0 ≤ n → a * n ≤ b * n := fun h hn => Int.mul_le_mul_of_nonneg_right h hn
    have inv : ∀ Q, Q = (max ((pcAt cycle l i).q - (pcAt cycle l i).p) (-((pcAt cycle l i).q - (pcAt cycle l i).p)) + ((pcAt cycle l i).b - (pcAt cycle l i).a) - 1).tdiv ((pcAt cycle l i).b - (pcAt cycle l i).a) →
        (0 ≤ max M Q ∧ max M Q ≤ 1003600) ∧ ∀ j, j < i + 1 → (pcAt cycle l j).q - (pcAt cycle l j).p ≤ max M Q * ((pcAt cycle l j).b - (pcAt cycle l j).a) ∧ (pcAt cycle l j).p - (pcAt cycle l j).q ≤ max M Q * ((pcAt cycle l j).b - (pcAt cycle l j).a) := fun Q hQ => by
      subst hQ
      refine ⟨by omega, fun j hji => ?_⟩
      by_cases e : j = i
      · subst e
        have := mono (n := (pcAt cycle l j).b - (pcAt cycle l j).a) (Int.le_max_right M _) (by omega) |> Int.le_trans ce.2.2.1
        have := mono (n := (pcAt cycle l j).b - (pcAt cycle l j).a) (Int.le_max_right M _) (by omega) |> Int.le_trans ce.2.2.2
        omega
      · have pj : pcN cycle home l j = pcAt cycle l j := by unfold pcN; rw [if_neg (by omega)]
        have opj := ok.pc (i := j) (by omega)
        rw [pj] at opj
        have := opj.ab
        have h2 := hj j (by omega)
        have := mono (n := (pcAt cycle l j).b - (pcAt cycle l j).a) (Int.le_max_left M ((max ((pcAt cycle l i).q - (pcAt cycle l i).p) (-((pcAt cycle l i).q - (pcAt cycle l i).p)) + ((pcAt cycle l i).b - (pcAt cycle l i).a) - 1).tdiv ((pcAt cycle l i).b - (pcAt cycle l i).a))) (by omega)
        omega
    have inv := inv _ rfl
    rw [← w6, ← w5, ← w4, ← w3, ← w2, ← w1] at inv
    have nz : IntKind.wrap .i64 ((pcAt cycle l i).b - (pcAt cycle l i).a) ≠ 0 := by rw [w2]; omega
    by_cases hn1 : i + 1 < l.length
    · have hpc : pcAt cycle l i = ⟨(l.getD i (0, 0)).1, (l.getD (i + 1) (0, 0)).1, (l.getD i (0, 0)).2, (l.getD (i + 1) (0, 0)).2⟩ := by unfold pcAt; simp only [if_pos hn1]
      have hgN : (l.map knD)[(IntKind.wrap .i64 ((i : Int) + 1)).toNat]? = some (knD (l.getD (i + 1) (0, 0))) := by rw [hw, Int.toNat_natCast]; exact kn_get hn1
      have hN0 : 0 ≤ IntKind.wrap .i64 ((i : Int) + 1) := by rw [hw]; omega
      have hlt : decide (IntKind.wrap .i64 ((i : Int) + 1) < ((l.map knD).length : Int)) = true := by rw [hw, List.length_map]; simp; omega
      rw [hpc] at nz
      have hmax : ∃ Q, Q = max M (IntKind.wrap .i64 ((IntKind.wrap .i64 (IntKind.wrap .i64 (max (IntKind.wrap .i64 ((l.getD (i + 1) (0, 0)).2 - (l.getD i (0, 0)).2)) (IntKind.wrap .i64 (0 - IntKind.wrap .i64 ((l.getD (i + 1) (0, 0)).2 - (l.getD i (0, 0)).2))) + IntKind.wrap .i64 ((l.getD (i + 1) (0, 0)).1 - (l.getD i (0, 0)).1)) - 1)).tdiv (IntKind.wrap .i64 ((l.getD (i + 1) (0, 0)).1 - (l.getD i (0, 0)).1)))) ∧
          (0 ≤ Q ∧ Q ≤ 1003600) ∧ ∀ j, j < i + 1 → (pcAt cycle l j).q - (pcAt cycle l j).p ≤ Q * ((pcAt cycle l j).b - (pcAt cycle l j).a) ∧ (pcAt cycle l j).p - (pcAt cycle l j).q ≤ Q * ((pcAt cycle l j).b - (pcAt cycle l j).a) := by
        refine ⟨_, rfl, ?_⟩
        have := inv
        rw [hpc] at this
        exact this
      obtain ⟨Q, hQ, invQ⟩ := hmax
      generalize l.getD i (0, 0) = A at hg nz hQ
      generalize l.getD (i + 1) (0, 0) = N at hgN nz hQ
      generalize l.getD 0 (0, 0) = Z at hg0
      conv => whnf
      refine ⟨by omega, _, hg0, ?_⟩
      conv => whnf
      rw [hlt]
      conv => whnf
      refine ⟨hN0, _, hgN, ?_⟩
      conv => whnf
      refine ⟨by omega, _, hg, ?_⟩
      conv => whnf
      refine ⟨by omega, _, hg, ?_⟩
      conv => whnf
      refine ⟨nz, ?_⟩
      conv => whnf
      subst hQ
      refine ⟨(IntKind.wrap .i64 ((i : Int) + 1), _), by kernel_rfl, ⟨i + 1, hw, hi, invQ⟩, by simp only; rw [hw]; omega⟩
    · have hpc : pcAt cycle l i = ⟨(l.getD i (0, 0)).1, cycle, (l.getD i (0, 0)).2, (l.getD 0 (0, 0)).2⟩ := by unfold pcAt; simp only [if_neg hn1]
      have hlt : decide (IntKind.wrap .i64 ((i : Int) + 1) < ((l.map knD).length : Int)) = false := by rw [hw, List.length_map]; simp; omega
      rw [hpc] at nz
      have hmax : ∃ Q, Q = max M (IntKind.wrap .i64 ((IntKind.wrap .i64 (IntKind.wrap .i64 (max (IntKind.wrap .i64 ((l.getD 0 (0, 0)).2 - (l.getD i (0, 0)).2)) (IntKind.wrap .i64 (0 - IntKind.wrap .i64 ((l.getD 0 (0, 0)).2 - (l.getD i (0, 0)).2))) + IntKind.wrap .i64 (cycle - (l.getD i (0, 0)).1)) - 1)).tdiv (IntKind.wrap .i64 (cycle - (l.getD i (0, 0)).1)))) ∧
          (0 ≤ Q ∧ Q ≤ 1003600) ∧ ∀ j, j < i + 1 → (pcAt cycle l j).q - (pcAt cycle l j).p ≤ Q * ((pcAt cycle l j).b - (pcAt cycle l j).a) ∧ (pcAt cycle l j).p - (pcAt cycle l j).q ≤ Q * ((pcAt cycle l j).b - (pcAt cycle l j).a) := by
        refine ⟨_, rfl, ?_⟩
        have := inv
        rw [hpc] at this
        exact this
      obtain ⟨Q, hQ, invQ⟩ := hmax
      generalize l.getD i (0, 0) = A at hg nz hQ
      generalize l.getD 0 (0, 0) = Z at hg0 hQ
      conv => whnf
      refine ⟨by omega, _, hg0, ?_⟩
      conv => whnf
      rw [hlt]
      conv => whnf
      refine ⟨by omega, _, hg, ?_⟩
      conv => whnf
      refine ⟨by omega, _, hg, ?_⟩
      conv => whnf
      refine ⟨nz, ?_⟩
      conv => whnf
      subst hQ
      refine ⟨(IntKind.wrap .i64 ((i : Int) + 1), _), by kernel_rfl, ⟨i + 1, hw, hi, invQ⟩, by simp only; rw [hw]; omega⟩
  have hi : i = l.length := by have := of_decide_eq_false c4; omega
  have fast : Fast cycle home l M := by
    refine ⟨hM.1, fun j hjl => ?_, fun j hjl => ?_⟩
    all_goals
      unfold pcN
      split
      · simp only; rw [Int.sub_self]; exact Int.mul_nonneg hM.1 (by omega)
      · first | exact (hj j (by omega)).1 | exact (hj j (by omega)).2
  obtain ⟨t, tt, qt⟩ := time_ok cycle num den hcy hn hd
  have td := tt.d
  have cb := mul_bd (x := cycle) (y := t.2) (A := 3600) (B := 50) ⟨by omega, by omega⟩ ⟨by omega, by omega⟩
  have mb := mul_bd (x := more) (y := t.2) (A := 50) (B := 50) ⟨by omega, by omega⟩ ⟨by omega, by omega⟩
  have cp : 1 ≤ cycle * t.2 := Int.mul_pos (a := cycle) (b := t.2) (by omega) (by omega)
  have n0 := tt.n0
  have n1 := tt.n1
  have okp : ∀ k : Int, -180000 ≤ k * t.2 → k * t.2 ≤ 180000 → okAt (t.1 + k * t.2, t.2) = true := fun k k1 k2 => by
    have g := tt.lw.g
    simp only [okAt, Bool.and_eq_true, decide_eq_true_eq]
    rw [Int.gcd_add_mul_right_left]
    omega
  have rW : ∀ k : Int, -180000 ≤ k * t.2 → k * t.2 ≤ 180000 → PureFn Try.prog 9 [int cycle, int home, knotsD l, ratD (IntKind.wrap .i64 (t.1 + IntKind.wrap .i64 (k * t.2)), t.2)] (whD (red (whereE cycle home l (t.1 + k * t.2, t.2)), 0)) := fun k k1 k2 => by
    have w1 : IntKind.wrap .i64 (k * t.2) = k * t.2 := wr_in ⟨by omega, by omega⟩
    have w2 : IntKind.wrap .i64 (t.1 + k * t.2) = t.1 + k * t.2 := wr_in ⟨by omega, by omega⟩
    rw [w1, w2]
    have q := Where_ok cycle home l (t.1 + k * t.2, t.2) ⟨by simp only; omega, by simp only; omega⟩
    rwa [show WhereR cycle home l (t.1 + k * t.2, t.2) = (red (whereE cycle home l (t.1 + k * t.2, t.2)), 0) by
      unfold WhereR; rw [if_neg (by simpa using h0), if_pos (okp k k1 k2)]] at q
  have qw := Where_ok cycle home l t tt.lw.ri.n
  rw [show WhereR cycle home l t = (red (whereE cycle home l t), 0) by
    unfold WhereR; rw [if_neg (by simpa using h0), if_pos (tm_okAt hcy tt)]] at qw
  have qu := rW more (by omega) (by omega)
  have qv := rW cycle (by omega) (by omega)
  rw [show whereE cycle home l (t.1 + cycle * t.2, t.2) = whereE cycle home l t by
    rw [whereE_mod, whereE_mod t]; simp only [Int.add_emod_right]] at qv
  have bt := where_bd ok td.1 td.2 n0 n1
  have bu : (0 ≤ (red (whereE cycle home l (t.1 + more * t.2, t.2))).1 ∧ (red (whereE cycle home l (t.1 + more * t.2, t.2))).1 ≤ 180000000000) ∧ 1 ≤ (red (whereE cycle home l (t.1 + more * t.2, t.2))).2 ∧ (red (whereE cycle home l (t.1 + more * t.2, t.2))).2 ≤ 180000 := by
    rw [whereE_mod]
    exact where_bd ok (t := ((t.1 + more * t.2) % (cycle * t.2), t.2)) td.1 td.2 (Int.emod_nonneg _ (by omega)) (Int.emod_lt_of_pos _ (by omega))
  have lp := even_main ok fast tt more
  generalize red (whereE cycle home l (t.1 + more * t.2, t.2)) = Q at qu bu lp
  generalize red (whereE cycle home l t) = P at qw qv bt lp
  -- the numbers
  have fin : decide (max (IntKind.wrap .i64 (IntKind.wrap .i64 (P.1 * Q.2) - IntKind.wrap .i64 (Q.1 * P.2))) (IntKind.wrap .i64 (0 - IntKind.wrap .i64 (IntKind.wrap .i64 (P.1 * Q.2) - IntKind.wrap .i64 (Q.1 * P.2)))) ≤
      IntKind.wrap .i64 (IntKind.wrap .i64 (IntKind.wrap .i64 (M * max more (IntKind.wrap .i64 (0 - more))) * P.2) * Q.2)) = true := by
    have a1 := mul_bd (x := P.1) (y := Q.2) (A := 180000000000) (B := 180000) ⟨by omega, by omega⟩ ⟨by omega, by omega⟩
    have a2 := mul_bd (x := Q.1) (y := P.2) (A := 180000000000) (B := 180000) ⟨by omega, by omega⟩ ⟨by omega, by omega⟩
    have w1 : IntKind.wrap .i64 (P.1 * Q.2) = P.1 * Q.2 := wr_in ⟨by omega, by omega⟩
    have w2 : IntKind.wrap .i64 (Q.1 * P.2) = Q.1 * P.2 := wr_in ⟨by omega, by omega⟩
    have w3 : IntKind.wrap .i64 (P.1 * Q.2 - Q.1 * P.2) = P.1 * Q.2 - Q.1 * P.2 := wr_in ⟨by omega, by omega⟩
    have w4 : IntKind.wrap .i64 (0 - (P.1 * Q.2 - Q.1 * P.2)) = Q.1 * P.2 - P.1 * Q.2 := by
      rw [show (0 : Int) - (P.1 * Q.2 - Q.1 * P.2) = Q.1 * P.2 - P.1 * Q.2 by omega]; exact wr_in ⟨by omega, by omega⟩
    have w5 : IntKind.wrap .i64 (0 - more) = -more := by rw [Int.zero_sub]; exact wr_in ⟨by omega, by omega⟩
    have a3 := mul_bd (x := M) (y := max more (-more)) (A := 1003600) (B := 50) ⟨by omega, by omega⟩ ⟨by omega, by omega⟩
    have w6 : IntKind.wrap .i64 (M * max more (-more)) = M * max more (-more) := wr_in ⟨by omega, by omega⟩
    have a4 := mul_bd (x := M * max more (-more)) (y := P.2) (A := 50180000) (B := 180000) ⟨by omega, by omega⟩ ⟨by omega, by omega⟩
    have w7 : IntKind.wrap .i64 (M * max more (-more) * P.2) = M * max more (-more) * P.2 := wr_in ⟨by omega, by omega⟩
    have a5 := mul_bd (x := M * max more (-more) * P.2) (y := Q.2) (A := 9032400000000) (B := 180000) ⟨by omega, by omega⟩ ⟨by omega, by omega⟩
    have w8 : IntKind.wrap .i64 (M * max more (-more) * P.2 * Q.2) = M * max more (-more) * P.2 * Q.2 := wr_in ⟨by omega, by omega⟩
    rw [w1, w2, w3, w4, w5, w6, w7, w8]
    obtain ⟨l1, l2⟩ := lp
    have e : M * (max more (-more) * t.2) * (P.2 * Q.2) = M * max more (-more) * P.2 * Q.2 * t.2 := by ac_rfl
    rw [e] at l1 l2
    have k1 := Int.le_of_mul_le_mul_right l1 (by omega)
    have k2 := Int.le_of_mul_le_mul_right l2 (by omega)
    simp only [decide_eq_true_eq]; omega
  conv => whnf
  refine ⟨_, qt, ?_⟩
  conv => whnf
  refine ⟨_, qw, ?_⟩
  conv => whnf
  refine ⟨_, qu, ?_⟩
  conv => whnf
  refine ⟨_, qv, ?_⟩
  conv => whnf
  rw [dself, dself]
  conv => whnf
  repeat ((conv => arg 2; rw [fin]); (conv => whnf))
  refine ⟨_, turns_ok, ?_⟩
  conv => whnf
  repeat ((conv => arg 2; rw [fin]); (conv => whnf))
  kernel_rfl
end Go.Proofs.YtgeficpcnlgnhaaG
