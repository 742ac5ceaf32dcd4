/- The specification's forms and lines. No condition. -/
import Derived.Test.YtalbkamkkceanaaGreatB13
set_option linter.unusedVariables false
set_option linter.unusedSimpArgs false
set_option maxRecDepth 100000
set_option maxHeartbeats 4000000
namespace Go.Proofs.YtalbkamkkceanaaGreatG
open Go Go.AM Go.Proofs

def shareP (n i : Nat) (s : Int × Int) : Pty := ⟨⟨#[]⟩, (List.replicate n 0).set i 1000, s⟩
def sharePs (n : Nat) : List (Int × Int) → Nat → List Pty
  | [], _ => []
  | s :: l, i => shareP n i s :: sharePs n l (i + 1)
def formsR (b : Bat) : List Pty := sharePs b.oxides.length b.shares 0 ++ b.props
theorem sharePs_len {n : Nat} : ∀ {l : List (Int × Int)} {i : Nat}, (sharePs n l i).length = l.length
  | [], _ => rfl
  | s :: l, i => by simp [sharePs, sharePs_len]
theorem fill_row {b : Nat → ABlk} {t : Nat → AC} {o : Opnd} {s n esz off : Nat} {els : List (List D)} {cs : List AC} {ps : List (Nat × Sh × Opnd)} (h1 : evO t o = .row s 0 n n) (h2 : b s = .row esz els) (h3 : n = els.length) (h4 : off + 1 ≤ cs.length) :
    fillC b t cs ((off, .one, o) :: ps) = fillC b t (cs.take off ++ [.row s 0 n n] ++ cs.drop (off + 1)) ps := by
  subst h3
  simp [fillC, h1, cellsC, standsB, h2, h4]
theorem formsR_ok (b : Bat) (hb : Bf b) : PureFn Tryz.prog 102 [batD b] (.list ((formsR b).map ptyL)) := by
  have hns := hb.ns
  have hno := hb.no
  have hnp := hb.np
  refine pureFn_by Tryz.func102 k102 rfl rfl ?_
  conv => whnf
  refine loopB (fun (x : Int × List (List D) × Nat) => ⟨mkT [(1, .d (.fptr (cellsB b))), (3, .row 3 0 x.2.2 x.2.2), (4, .d (int x.1))], mkB [(3, .row 4 x.2.1)]⟩)
    (fun x => ∃ k : Nat, x.1 = k ∧ k ≤ b.oxides.length ∧ x.2.1 ++ (sharePs b.oxides.length (b.shares.drop k) k).map ptyL = (sharePs b.oxides.length b.shares 0).map ptyL ∧ x.2.2 = x.2.1.length) (fun x => (b.oxides.length - x.1).toNat) (0, [], 0) (by kernel_rfl) ⟨0, rfl, by omega, rfl, rfl⟩ ?_
  rintro ⟨_, els, n⟩ ⟨k, rfl, hk, he, hn⟩
  simp only at he hn
  have hel : els.length + (b.shares.length - k) = b.shares.length := by
    have := congrArg List.length he
    simpa [sharePs_len] using this
  conv => whnf
  rw [List.length_map]
  cases c1 : decide ((k : Int) < (b.oxides.length : Int))
  · have hk' : k = b.shares.length := by have := of_decide_eq_false c1; omega
    rw [hk', drop_end] at he
    have he : els = (sharePs b.oxides.length b.shares 0).map ptyL := by simpa [sharePs] using he
    conv => whnf
    refine ⟨by rw [List.all_eq_true]; intro e h; obtain ⟨p, _, rfl⟩ := List.mem_map.1 h; rfl, ?_⟩
    conv => whnf
    have hfin : (formsR b).map ptyL = els ++ b.props.map ptyL := by rw [he, formsR, List.map_append]
    refine ⟨rfl, hn, most_le (by simp; omega), ?_⟩
    conv => whnf
    rw [hfin]
    exact resA_row (s := 3) (esz := 4) (els := els ++ b.props.map ptyL) rfl rfl (by simp)
  · have hk' : k < b.shares.length := by have := of_decide_eq_true c1; omega
    obtain ⟨s, hs⟩ := get_lt hk'
    rw [drop_at hs, sharePs] at he
    conv => whnf
    refine ⟨by omega, by rw [List.length_map]; unfold most; omega, ?_⟩
    conv => whnf
    conv => whnf
    refine ⟨by omega, _, (by first | exact gm (by assumption) | exact gz (by assumption)), ?_⟩
    conv => whnf
    rw [fill_row (o := .t 16) (s := 2) (n := ((b.oxides.map s1).length : Int).toNat) (esz := 1) (els := List.replicate ((b.oxides.map s1).length : Int).toNat [D.v (Z.val (.i .i64))]) rfl rfl (by simp) (by decide)]
    conv => whnf
    have hlx : ((b.oxides.map s1).length : Int).toNat = b.oxides.length := by simp
    refine cond_intro (by show (true && (true && ((((b.oxides.map s1).length : Int).toNat == (List.replicate ((b.oxides.map s1).length : Int).toNat [D.v (Z.val (.i .i64))]).length) && (true && (true && true))))) = true; simp) ?_
    conv => whnf
    refine ⟨by omega, by rw [hlx]; omega, ?_⟩
    conv => whnf
    refine ⟨by simp, ?_⟩
    conv => whnf
    refine ⟨by simp, [D.v (Z.val (.i .i64))], (by rw [Nat.zero_add, Int.toNat_natCast, List.getElem?_replicate, if_pos (by rw [List.length_map]; show k < _; omega)]; rfl), ?_⟩
    have hset : ((List.replicate ((b.oxides.map s1).length : Int).toNat (List.map (fun z : Z => D.v z.val) [.i .i64])).set (0 + ((k : Nat) : Int).toNat) (List.take 0 [D.v (Z.val (.i .i64))] ++ [int 1000] ++ List.drop (0 + 1) [D.v (Z.val (.i .i64))])) = ((List.replicate b.oxides.length 0).set k 1000).map i1 := by
      rw [hlx, Nat.zero_add, Int.toNat_natCast, List.map_set, List.map_replicate]; rfl
    conv => whnf
    refine givI [(1, .d (.fptr (cellsB b))), (3, .row 3 0 n n), (4, .d (int (k : Int))), (5, .ptr 1 0)] [(1, .var [.d (strD ⟨#[]⟩), .row 2 0 ((b.oxides.map s1).length : Int).toNat ((b.oxides.map s1).length : Int).toNat, .d (int s.1), .d (int s.2)]), (2, .row 1 ((List.replicate ((b.oxides.map s1).length : Int).toNat (List.map (fun z : Z => D.v z.val) [.i .i64])).set (0 + ((k : Nat) : Int).toNat) (List.take 0 [D.v (Z.val (.i .i64))] ++ [int 1000] ++ List.drop (0 + 1) [D.v (Z.val (.i .i64))]))), (3, .row 4 els)]
      [(1, .d (.fptr (cellsB b))), (3, .row 3 0 n n), (4, .d (int (k : Int))), (5, .ptr 1 0)] [(1, .var [.d (strD ⟨#[]⟩), .d (.list ((List.replicate ((b.oxides.map s1).length : Int).toNat (List.map (fun z : Z => D.v z.val) [.i .i64])).set (0 + ((k : Nat) : Int).toNat) (List.take 0 [D.v (Z.val (.i .i64))] ++ [int 1000] ++ List.drop (0 + 1) [D.v (Z.val (.i .i64))]))), .d (int s.1), .d (int s.2)]), (2, .dead), (3, .row 4 els)] (by kernel_rfl)
      (fun q hq => by simp at hq; subst hq; exact .inl ⟨_, _, rfl⟩) ⟨rfl, .inl rfl, rfl, .inl rfl, rfl, .inl rfl, rfl, .inl rfl, trivial⟩
      ⟨rfl, .inr ⟨rfl, .inr ⟨_, _, rfl, rfl, .inl rfl, .inr ⟨_, snap_row0 (s := 2) (esz := 1) rfl (by simp), rfl⟩, .inl rfl, .inl rfl, trivial⟩⟩, rfl, .inl ⟨rfl, rfl⟩, rfl, .inr ⟨rfl, .inl rfl⟩, trivial⟩ ?_
    conv => whnf
    refine ⟨rfl, rfl, hn, most_le (by simp; omega), ?_⟩
    conv => whnf
    refine ⟨(IntKind.wrap .i64 ((k : Int) + 1), els ++ [[strD ⟨#[]⟩, .list ((List.replicate ((b.oxides.map s1).length : Int).toNat (List.map (fun z : Z => D.v z.val) [.i .i64])).set (0 + ((k : Nat) : Int).toNat) (List.take 0 [D.v (Z.val (.i .i64))] ++ [int 1000] ++ List.drop (0 + 1) [D.v (Z.val (.i .i64))])), int s.1, int s.2]], els.length + 1), by kernel_rfl, ⟨k + 1, nx (by omega), by omega, ?_, by simp⟩, by simp only; rw [nx (by omega)]; omega⟩
    rw [hset, ← he]
    simp [shareP]
end Go.Proofs.YtalbkamkkceanaaGreatG
