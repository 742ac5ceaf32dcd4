/- The program's and the specification's best plan are the same. No condition. -/
import Derived.Test.YtmkmegcconjgoaaQ10
set_option linter.unusedVariables false
set_option linter.unusedSimpArgs false
set_option maxRecDepth 100000
set_option maxHeartbeats 4000000
namespace Go.Proofs.YtmkmegcconjgoaaG
open Go Go.AM Go.Proofs

def sizesF (s : Season) : List Nat := (List.range (s.days.toNat * s.ovens.length)).map fun i => (shiftsF s ((i % s.ovens.length : Nat) : Int)).length
def blankP (s : Season) : Plan := List.replicate s.makers.length (List.replicate s.days.toNat 0)
def planC (s : Season) (ch : List Int) : Plan := fillL s 0 ch (blankP s)
def OkCs (s : Season) (ch : List Int) : Prop := ch.length = s.days.toNat * s.ovens.length ∧ ∀ (j : Nat) (c : Int), ch[j]? = some c → OkC s j c
theorem blank_shp {s : Season} (hf : Fr s) : Shp s (blankP s) := ⟨by simp [blankP], fun r hr => by
  have := hf.days
  rw [List.eq_of_mem_replicate hr]; simp; omega⟩
theorem okcs_iff {s : Season} {ch : List Int} : ch ∈ allC (sizesF s) ↔ OkCs s ch := by
  rw [allC_mem]
  have hl : (sizesF s).length = s.days.toNat * s.ovens.length := by simp [sizesF]
  constructor
  · rintro ⟨h1, h2⟩
    refine ⟨by omega, fun j c hc => ?_⟩
    have hj := (List.getElem?_eq_some_iff.1 hc).1
    exact h2 j _ c (by unfold sizesF; rw [List.getElem?_map, List.getElem?_range (by omega)]; rfl) hc
  · rintro ⟨h1, h2⟩
    refine ⟨by omega, fun i n c hn hc => ?_⟩
    have := h2 i c hc
    unfold sizesF at hn
    have hi := (List.getElem?_eq_some_iff.1 hc).1
    rw [List.getElem?_map, List.getElem?_range (by omega)] at hn
    cases hn
    exact this
theorem idx_lt_mul {d k D O : Nat} (hd : d < D) (hk : k < O) : d * O + k < D * O := by
  have : (d + 1) * O ≤ D * O := Nat.mul_le_mul_right _ hd
  rw [Nat.add_mul] at this
  omega
/-- What is filled in hangs on the choice alone. -/
theorem fill_plan {s : Season} (hf : Fr s) {ch : List Int} (hc : OkCs s ch) {p : Plan} (hp : Shp s p) : fillL s 0 ch p = planC s ch := by
  have h1 := fill_on (s := s) (cs := ch) (i := 0) (p := p) (by rw [hc.1]; omega) (fun j c h => by rw [Nat.zero_add]; exact hc.2 j c h) hp
  have h2 := fill_on (s := s) (cs := ch) (i := 0) (p := blankP s) (by rw [hc.1]; omega) (fun j c h => by rw [Nat.zero_add]; exact hc.2 j c h) (blank_shp hf)
  refine shp_eq hf h1.1 h2.1 fun k d hk hd => ?_
  have hi := idx_lt_mul (d := d) (k := k) (D := s.days.toNat) (O := s.ovens.length) (by omega) hk
  obtain ⟨c, hcc⟩ := get_lt (xs := ch) (i := d * s.ovens.length + k) (by rw [hc.1]; exact hi)
  unfold planC
  rw [(h1.2 k d hk hd).2 _ c hcc (by omega), (h2.2 k d hk hd).2 _ c hcc (by omega)]
theorem mod_of {d k O : Nat} (hk : k < O) : (d * O + k) % O = k := by rw [Nat.add_comm, Nat.add_mul_mod_self_right, Nat.mod_eq_of_lt hk]
theorem div_of {d k O : Nat} (hk : k < O) : (d * O + k) / O = d := by rw [Nat.mul_comm, Nat.mul_add_div (by omega), Nat.div_eq_of_lt hk]; omega
theorem planC_on {s : Season} (hf : Fr s) {ch : List Int} (hc : OkCs s ch) {k d : Nat} (hk : k < s.ovens.length) (hd : (d : Int) < s.days) : onF s (planC s ch) (makersF s (k : Int)) (d : Int) ∈ shiftsF s (k : Int) := by
  have h2 := fill_on (s := s) (cs := ch) (i := 0) (p := blankP s) (by rw [hc.1]; omega) (fun j c h => by rw [Nat.zero_add]; exact hc.2 j c h) (blank_shp hf)
  have hi := idx_lt_mul (d := d) (k := k) (D := s.days.toNat) (O := s.ovens.length) (by omega) hk
  obtain ⟨c, hcc⟩ := get_lt (xs := ch) (i := d * s.ovens.length + k) (by rw [hc.1]; exact hi)
  unfold planC
  rw [(h2.2 k d hk hd).2 _ c hcc (by omega)]
  have := hc.2 _ c hcc
  unfold OkC at this
  rw [mod_of hk] at this
  exact rowOf_mem this
theorem shp_in {s : Season} (hf : Fr s) {P : Plan} (hp : Shp s P) (h : ∀ (k d : Nat), k < s.ovens.length → (d : Int) < s.days → onF s P (makersF s (k : Int)) (d : Int) ∈ shiftsF s (k : Int)) : InS s P := by
  have hpl := hp.len
  refine ⟨⟨hpl, fun r hr => ⟨hp.rows r hr, fun a ha => ?_⟩⟩, h⟩
  obtain ⟨m, hm, hme⟩ := List.mem_iff_getElem.1 hr
  obtain ⟨d, hd, hde⟩ := List.mem_iff_getElem.1 ha
  obtain ⟨M, hM⟩ := get_lt (xs := s.makers) (i := m) (by omega)
  have hk := hf.maker M (List.mem_of_getElem? hM)
  have hrl := hp.rows r hr
  have h4 := h M.oven.toNat d (by omega) (by omega)
  have hin := makers_in (k := M.oven.toNat) hM (by omega)
  have hc := cell_of (p := P) (m := m) (d := d) (r := r) (x := a) (by rw [List.getElem?_eq_getElem hm, hme]) (by rw [List.getElem?_eq_getElem hd, hde])
  refine (shifts_mem.1 h4).2.1 a ?_
  unfold onF
  exact List.mem_map.2 ⟨_, hin, by rw [onA_cell, hc]⟩
theorem choices_iff {s : Season} (hf : Fr s) {P : Plan} : P ∈ (allC (sizesF s)).map (planC s) ↔ InS s P := by
  rw [List.mem_map]
  constructor
  · rintro ⟨ch, hch, rfl⟩
    have hc := okcs_iff.1 hch
    have h2 := fill_on (s := s) (cs := ch) (i := 0) (p := blankP s) (by rw [hc.1]; omega) (fun j c h => by rw [Nat.zero_add]; exact hc.2 j c h) (blank_shp hf)
    exact shp_in hf h2.1 fun k d hk hd => planC_on hf hc hk hd
  · intro h
    have hd := hf.days
    obtain ⟨ch, hch⟩ : ∃ ch : List Int, ch = (List.range (s.days.toNat * s.ovens.length)).map fun i => (((shiftsF s ((i % s.ovens.length : Nat) : Int)).idxOf (onF s P (makersF s ((i % s.ovens.length : Nat) : Int)) ((i / s.ovens.length : Nat) : Int)) : Nat) : Int) := ⟨_, rfl⟩
    have hin : ∀ i, i < s.days.toNat * s.ovens.length → onF s P (makersF s ((i % s.ovens.length : Nat) : Int)) ((i / s.ovens.length : Nat) : Int) ∈ shiftsF s ((i % s.ovens.length : Nat) : Int) := fun i hi => by
      have hO : 0 < s.ovens.length := by
        rcases Nat.eq_zero_or_pos s.ovens.length with h | h
        · rw [h] at hi; simp at hi
        · exact h
      have h1 := Nat.mod_lt i hO
      have h2 : i / s.ovens.length < s.days.toNat := (Nat.div_lt_iff_lt_mul hO).2 hi
      exact h.on _ _ h1 (by omega)
    have hget : ∀ i, i < s.days.toNat * s.ovens.length → ch[i]? = some (((shiftsF s ((i % s.ovens.length : Nat) : Int)).idxOf (onF s P (makersF s ((i % s.ovens.length : Nat) : Int)) ((i / s.ovens.length : Nat) : Int)) : Nat) : Int) := fun i hi => by
      rw [hch, List.getElem?_map, List.getElem?_range hi]; rfl
    have hl : ch.length = s.days.toNat * s.ovens.length := by rw [hch]; simp
    have hc : OkCs s ch := ⟨hl, fun j c hj => by
      have hj2 := (List.getElem?_eq_some_iff.1 hj).1
      rw [hget j (by omega)] at hj
      cases hj
      have := List.idxOf_lt_length_of_mem (hin j (by omega))
      unfold OkC; omega⟩
    refine ⟨ch, okcs_iff.2 hc, ?_⟩
    have h2 := fill_on (s := s) (cs := ch) (i := 0) (p := blankP s) (by rw [hc.1]; omega) (fun j c h => by rw [Nat.zero_add]; exact hc.2 j c h) (blank_shp hf)
    refine shp_eq hf h2.1 ⟨h.pok.len, fun r hr => (h.pok.rows r hr).1⟩ fun k d hk hd2 => ?_
    have hi := idx_lt_mul (d := d) (k := k) (D := s.days.toNat) (O := s.ovens.length) (by omega) hk
    have hg := hget _ hi
    have hm := hin _ hi
    rw [mod_of hk, div_of hk] at hg hm
    unfold planC
    rw [(h2.2 k d hk hd2).2 _ _ hg (by omega)]
    unfold rowOf
    rw [Int.toNat_natCast]
    have hlt := List.idxOf_lt_length_of_mem hm
    rw [getD_of (List.getElem?_eq_getElem hlt), List.getElem_idxOf]
/-- **The best plan that the program finds is that of the specification.** -/
theorem best_same {s : Season} (hf : Fr s) : ((allC (sizesF s)).map (planC s)).foldl (updF s) none = bestP s :=
  fold_same fun x => by rw [choices_iff hf]; exact (leafs_iff hf).symm
end Go.Proofs.YtmkmegcconjgoaaG
