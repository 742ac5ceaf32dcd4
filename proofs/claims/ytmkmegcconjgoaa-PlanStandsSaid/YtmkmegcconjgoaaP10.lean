/- All shifts of a furnace. No condition. -/
import Derived.Test.YtmkmegcconjgoaaP9
set_option linter.unusedVariables false
set_option linter.unusedSimpArgs false
set_option maxRecDepth 100000
set_option maxHeartbeats 4000000
namespace Go.Proofs.YtmkmegcconjgoaaG
open Go Go.AM Go.Proofs

theorem rowsF_len {s : Season} (h : s.arts.length ≤ 8) {k : Int} {ms : List Int} : ∀ {d : Nat} {pre : List Int}, (rowsF s k ms d pre).length ≤ 9 ^ d
  | 0, pre => by simp only [rowsF]; split <;> simp
  | d + 1, pre => by
    simp only [rowsF, List.length_flatMap]
    have : ∀ (l : List Nat), (l.map fun (u : Nat) => (if skipF s ms pre ((u : Int) - 1) = true then [] else rowsF s k ms d (pre ++ [(u : Int) - 1])).length).sum ≤ l.length * 9 ^ d := fun l => by
      induction l with
      | nil => simp
      | cons u l ih =>
        simp only [List.map_cons, List.sum_cons, List.length_cons, Nat.add_mul]
        have h1 : (if skipF s ms pre ((u : Int) - 1) = true then [] else rowsF s k ms d (pre ++ [(u : Int) - 1])).length ≤ 9 ^ d := by
          split
          · simp
          · exact rowsF_len h
        omega
    refine Nat.le_trans (this _) ?_
    rw [List.length_range, Nat.pow_succ, Nat.mul_comm]
    exact Nat.mul_le_mul_left _ (by omega)
theorem shiftsF_len {s : Season} (h : Fr s) (k : Int) : (shiftsF s k).length ≤ 531441 := by
  have h1 := rowsF_len h.na (k := k) (ms := makersF s k) (d := (makersF s k).length) (pre := [])
  have h2 : (makersF s k).length ≤ 6 := Nat.le_trans (makersF_len s k) h.nm
  have h3 : 9 ^ (makersF s k).length ≤ 9 ^ 6 := Nat.pow_le_pow_right (by omega) h2
  have : (9 : Nat) ^ 6 = 531441 := by decide
  unfold shiftsF; omega
theorem cond_intro {c : Bool} {p q : Prop} (h : c = true) (hp : p) : cond c p q := by subst h; exact hp
theorem planD_row (p : List (List Int)) : (p.map rowL).length = p.length := by simp

/-- The list that all shifts are appended to. -/
def CAll : Cons (List (List Int)) where
  go := fun _ => true
  step := fun acc r => acc ++ [r]
  c1 := fun acc => .var [.row 2 0 acc.length acc.length]
  c2 := fun acc => .row 1 (acc.map rowL)
  c3 := fun _ => .fresh
  h1 := fun _ => rfl
  h2 := fun _ => rfl
  h3 := fun _ => rfl
theorem CAll_all : ∀ (rs acc : List (List Int)), CAll.all rs acc = acc ++ rs
  | [], acc => by simp [Cons.all]
  | r :: rs, acc => by
    have : CAll.all (r :: rs) acc = CAll.all rs (acc ++ [r]) := rfl
    rw [this, CAll_all rs]; simp

theorem all_ok (s : Season) (h : Fr s) (k : Int) (hk : 0 ≤ k ∧ k < s.ovens.length) : PureFn Try.prog 40 [seasonD s, int k] (planD (shiftsF s k)) := by
  have sh := shifts_ok s h k
  have hlen := shiftsF_len h k
  have hml := Nat.le_trans (makersF_len s k) h.nm
  obtain ⟨ms, hms⟩ : ∃ ms, makersF s k = ms := ⟨_, rfl⟩
  have hmm : ∀ m ∈ ms, 0 ≤ m ∧ m < s.makers.length := fun m hm => makersF_mem (hms ▸ hm)
  obtain ⟨ALL, hALL⟩ : ∃ ALL, shiftsF s k = ALL := ⟨_, rfl⟩
  have hA2 : rowsF s k ms ms.length [] = ALL := by rw [← hALL, shiftsF, hms]
  rw [hms] at sh hml
  rw [hALL] at hlen ⊢
  refine pureFn_by Try.func40 k40 rfl rfl ?_
  conv => whnf
  refine ⟨_, sh, ?_⟩
  conv => whnf
  intro lp
  conv => whnf
  refine ⟨by omega, by rw [List.length_map]; unfold most; omega, ?_⟩
  conv => whnf
  refine cond_intro (by show (true && ((((ms.map i1).length : Int).toNat == (List.replicate ((ms.map i1).length : Int).toNat [D.v (Z.val (.i .i64))]).length) && true)) = true; simp) ?_
  conv => whnf
  refine ⟨⟨mkT [], fst' CAll s k ms lp ([], (List.replicate ms.length (0 : Int)).map i1)⟩, _, Lie.fgt ⟨rfl, rfl, rfl, ?_, ?_, ?_⟩ (by kernel_rfl),
    from_ok CAll s h k hk ms hmm hml lp _ (HM_mono _) ALL [] ?_ ms.length 0 [] (List.replicate ms.length 0) [] [] [] (by simp [hA2]) rfl (by simp) rfl (by simp) rfl (fun x hx => by cases hx) rfl, ?_⟩
  · show ABlk.var [.row 1003 0 (((ms.map i1).length : Nat) : Int).toNat (((ms.map i1).length : Nat) : Int).toNat] = _
    simp
  · rfl
  · show ABlk.row 1 (List.replicate (((ms.map i1).length : Nat) : Int).toNat [D.v (Z.val (.i .i64))]) = _
    simp [Z.val]
  · intro rs row σ hσ hex _ hrl hAr
    rw [CAll_all, List.nil_append] at hσ
    subst hσ
    have hsl : σ.length ≤ 531441 := by
      obtain ⟨rest, e⟩ := hex
      have := congrArg List.length e
      simp at this; omega
    refine le_HM _ _ _ _ _ _ _ (fun _ _ h => h) ?_
    conv => whnf
    refine ⟨rfl, ?_⟩
    conv => whnf
    rw [call1 (d := rowD row) (snap_row0 (s := 1003) (esz := 1) (els := row.map i1) rfl (by simp [hrl]))]
    conv => whnf
    refine ⟨_, clone_ok row (by omega), ?_⟩
    conv => whnf
    refine ⟨rfl, rfl, (planD_row σ).symm, most_le (by simp; omega), ?_⟩
    conv => whnf
    refine cond_intro (by show (true && (((σ.map rowL).length + 1 == ((σ.map rowL) ++ [rowL row]).length) && true)) = true; simp) ?_
    conv => whnf
    refine ⟨rfl, ?_, ?_, rfl, rfl, rfl, rfl⟩
    · show ABlk.var [.row 2 0 ((σ.map rowL).length + 1) ((σ.map rowL).length + 1)] = .var [.row 2 0 (σ ++ [row]).length (σ ++ [row]).length]
      simp
    · show ABlk.row 1 (σ.map rowL ++ [rowL row]) = .row 1 ((σ ++ [row]).map rowL)
      simp
  · rintro _ _ ⟨row', hl', ht', rfl, rfl⟩
    rw [show rowsF s k ms ms.length [] = ALL from hA2, CAll_all, List.nil_append]
    conv => whnf
    have fin : ∀ σ : St, σ.t 4 = .row 2 0 ALL.length ALL.length → σ.b 2 = .row 1 (ALL.map rowL) → resA [.t 4] σ = some (planD ALL) := fun σ h1 h2 => resA_row h1 h2 (by simp)
    exact fin _ rfl rfl
end Go.Proofs.YtmkmegcconjgoaaG
