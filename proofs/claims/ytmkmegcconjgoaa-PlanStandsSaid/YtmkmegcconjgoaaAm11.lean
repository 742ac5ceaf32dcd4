/- The abstract machine, part 11: append. No condition. -/
import Derived.Test.YtmkmegcconjgoaaAm10
set_option linter.unusedVariables false
set_option linter.unusedSimpArgs false
namespace Go.AM
open Go
section
variable {P : Program} {X : Ctx} {σ : St} {m : Nat → Loc} {a : Act} {w : World} {o : Oper} {K : AC → (Nat → ABlk) → Prop}

theorem run_app_room {t u e e2 ty : TypeId} {i : TypeInfo} (hu : P.underlying t = some (.slice e)) (huu : P.underlying u = some (.slice e2)) (hi : P.info? e = some i)
    {base xb : Option Addr} {sLen sCap n xc : Nat} {news : Array Value} (hn : (Builtin.firstCells i.size n (.slice xb n xc)).run P w = .ok news w) (hroom : sLen + n ≤ sCap) :
    (Builtin.append_ #[t, u] ty #[.slice base sLen sCap, .slice xb n xc]).run P w =
      (match base with
      | some b => (storeCells (b.add (sLen * i.size)) news.toList).run P w
      | none => .ok () w).andThen fun _ w' => .ok (.slice base (sLen + n) sCap) w' := by
  cases base with
  | none => simp [Builtin.append_, run_underlying' hu, run_underlying' huu, sizeOf, run_typeInfo_some hi, Builtin.lenOf, hroom, hn]
  | some b => simp [Builtin.append_, run_underlying' hu, run_underlying' huu, sizeOf, run_typeInfo_some hi, Builtin.lenOf, hroom, hn]

theorem run_app_grow {t u e e2 ty : TypeId} {i : TypeInfo} {z : Value} (hu : P.underlying t = some (.slice e)) (huu : P.underlying u = some (.slice e2)) (hi : P.info? e = some i) (hz : i.zero = some z) (hby : i.bytes ≤ 4096)
    {base xb : Option Addr} {sLen sCap n xc : Nat} {olds news : Array Value} (ho : (Builtin.firstCells i.size sLen (.slice base sLen sCap)).run P w.drew = .ok olds w.drew)
    (hn : (Builtin.firstCells i.size n (.slice xb n xc)).run P w.drew = .ok news w.drew) (hroom : sCap < sLen + n) (hmost : sLen + n ≤ most) :
    ∃ cap', sLen + n ≤ cap' ∧ (Builtin.append_ #[t, u] ty #[.slice base sLen sCap, .slice xb n xc]).run P w =
      .ok (.slice (some ⟨w.heap.size, 0, none⟩) (sLen + n) cap') (w.drew.alloc (.cells (olds ++ news ++ Builtin.zeroCells z.cells (cap' - (sLen + n))) e)) := by
  have hm : sLen + n ≤ 4294967296 := hmost
  have hn' : ¬ (sLen + n ≤ sCap) := by omega
  have h63' : ¬ (9223372036854775807 < ((sLen : Int) + (n : Int))) := by omega
  have hnc := nextslicecap_le hroom
  have h48' : ¬ (281474976710656 < Builtin.nextslicecap (sLen + n) sCap * i.bytes) := by
    have h1 : Builtin.nextslicecap (sLen + n) sCap * i.bytes ≤ (2 * (sLen + n)) * 4096 := Nat.mul_le_mul hnc hby
    omega
  refine ⟨grownCap w (sLen + n) sCap e, by simp only [grownCap, Question.cut]; omega, ?_⟩
  simp [Builtin.append_, run_underlying' hu, run_underlying' huu, sizeOf, run_typeInfo_some hi, zeroValue, hz, Builtin.lenOf, hn', h63', h48', Question.forced, hn, ho, newRow, grownCap]

/-- A value whose cells can be read as the elements of a slice. -/
structure Reads (P : Program) (ok : Nat → Prop) (w : World) (esz : Nat) (v : Value) (es : List (List D)) (cells : Array Value) : Prop where
  ex : ∃ b cap, v = .slice b es.length cap
  size : cells.size = es.length * esz
  lens : ∀ i (hi : i < es.length), (es[i]).length = esz
  rel : ∀ i j (hi : i < es.length) (hj : j < (es[i]).length), RelD ok w ((es[i])[j]) (cells.getD (i * esz + j) undef)
  one : ∀ k, k < es.length * esz → (cells.getD k undef).oneCell' = true
  first : ∀ w' : World, (∀ k, k < w.heap.size → w'.heap[k]? = w.heap[k]?) → (Builtin.firstCells esz es.length v).run P w' = .ok cells w'

theorem getD_rangeN {n : Nat} {f : Nat → Value} {j : Nat} (hj : j < n) : (((List.range n).map f).toArray).getD j undef = f j := by
  simp [Array.getD, hj]

theorem reads_cells {ok : Nat → Prop} {esz : Nat} {es : List (List D)} {B off cap : Nat} (hB : B < w.heap.size) (hl : ∀ i (hi : i < es.length), (es[i]).length = esz) {f : Nat → Nat → Value}
    (hc : ∀ i j, i < es.length → j < esz → w.cell? ⟨B, off + (i * esz + j), none⟩ = some (f i j)) (h1 : ∀ i j, i < es.length → j < esz → (f i j).oneCell' = true) (hr : ∀ i j (hi : i < es.length) (hj : j < (es[i]).length), RelD ok w ((es[i])[j]) (f i j)) :
    ∃ cells, Reads P ok w esz (.slice (some ⟨B, off, none⟩) es.length cap) es cells := by
  have hdiv : ∀ i j, j < esz → (i * esz + j) / esz = i ∧ (i * esz + j) % esz = j := fun i j hj => by
    constructor
    · rw [Nat.add_comm, Nat.add_mul_div_right _ _ (by omega), Nat.div_eq_of_lt hj, Nat.zero_add]
    · rw [Nat.add_comm, Nat.add_mul_mod_self_right, Nat.mod_eq_of_lt hj]
  refine ⟨((List.range (es.length * esz)).map fun k => f (k / esz) (k % esz)).toArray, ⟨_, _, rfl⟩, by simp, hl, fun i j hi hj => ?_, fun k hk => ?_, fun w' hw' => ?_⟩
  · have hj' := hl i hi
    rw [getD_rangeN (pos_lt hi (by omega))]
    obtain ⟨e1, e2⟩ := hdiv i j (by omega)
    rw [e1, e2]; exact hr i j hi hj
  · rw [getD_rangeN hk]
    have hpos : 0 < esz := by rcases Nat.eq_zero_or_pos esz with h | h; · subst h; simp at hk
                              · exact h
    exact h1 _ _ (Nat.div_lt_of_lt_mul (by rw [Nat.mul_comm]; exact hk)) (Nat.mod_lt _ hpos)
  · refine run_loadCells (P := P) w' ⟨B, off, none⟩ (es.length * esz) (fun k => f (k / esz) (k % esz)) (fun k hk => ?_)
    have hpos : 0 < esz := by rcases Nat.eq_zero_or_pos esz with h | h; · subst h; simp at hk
                              · exact h
    have h1 : k / esz < es.length := Nat.div_lt_of_lt_mul (by rw [Nat.mul_comm]; exact hk)
    have h2 : k % esz < esz := Nat.mod_lt _ hpos
    have h3 : k / esz * esz + k % esz = k := by rw [Nat.mul_comm]; exact Nat.div_add_mod k esz
    have := hc _ _ h1 h2
    rw [h3] at this
    rw [add_plain, cell_same (w := w) (hw' _ hB)]
    exact this

theorem reads_nil {ok : Nat → Prop} {esz : Nat} {b : Option Addr} {cap : Nat} : Reads P ok w esz (.slice b 0 cap) [] #[] where
  ex := ⟨b, cap, rfl⟩
  size := by simp
  lens := fun i hi => by simp at hi
  rel := fun i j hi => by simp at hi
  one := fun k hk => by simp at hk
  first := fun w' _ => by cases b <;> simp [Builtin.firstCells, loadCells, loadCellsFrom]

theorem reads_row (hr : Rel X σ m a w) {s off len tot esz : Nat} {els : List (List D)} {v : Value} (hR : RelC (X.ok m) w σ.b m (.row s off len tot) v) (hb : σ.b s = .row esz els) (ht : tot = els.length) (hle : off + len ≤ els.length) :
    ∃ cells, Reads P (X.ok m) w esz v ((els.drop off).take len) cells := by
  rcases row_val hR hb ht with ⟨hl, _, rfl⟩ | ⟨_, h0, h1, rfl, rfl⟩
  · rcases slot_row hr hb with ⟨hnl, _⟩ | ⟨_, c, e, hh, hz, hcap, hel, hone, hcs⟩
    · rw [hl] at hnl; cases hnl
    have hlen : ((els.drop off).take len).length = len := by simp; omega
    have := reads_cells (P := P) (ok := X.ok m) (w := w) (esz := esz) (es := (els.drop off).take len) (B := (m s).blk) (off := off * esz) (cap := (m s).cap - off) (hr.blkLt hl)
      (fun i hi => by simpa using hel (off + i) (by omega)) (f := fun i j => c.getD ((off + i) * esz + j) undef)
      (fun i j hi hj => by
        rw [hlen] at hi
        rw [← Nat.add_assoc, ← Nat.add_mul]
        exact cell_of hh (by rw [hz]; exact pos_lt (by omega) hj))
      (fun i j hi hj => hone _ (pos_lt (by omega) hj))
      (fun i j hi hj => by simpa using hcs (off + i) j (by omega) (by simpa using hj))
    rwa [hlen] at this
  · subst h0; subst h1; exact ⟨#[], reads_nil⟩

theorem adds_reads (hr : Rel X σ m a w) {y : AC} {v : Value} {esz : Nat} {es : List (List D)} (hR : RelC (X.ok m) w σ.b m y v) (hy : addsC σ.b y = some es) (hl : es.all (fun e => e.length == esz) = true) :
    ∃ cells, Reads P (X.ok m) w esz v es cells := by
  have hl' : ∀ i (hi : i < es.length), (es[i]).length = esz := fun i hi => by
    have := List.all_eq_true.1 hl _ (List.getElem_mem hi); simpa using this
  unfold addsC at hy
  split at hy
  · cases hy
    cases hR with
    | d hD =>
      cases hD with
      | empty => exact ⟨#[], reads_nil⟩
      | list _ B off cap esz' f hok hB hcap hsz' hcell hone hrel =>
        cases es with
        | nil => exact ⟨#[], reads_nil⟩
        | cons e0 es0 =>
          have : esz' = esz := by rw [← hsz' 0 (by simp), hl' 0 (by simp)]
          subst this
          exact reads_cells hB hl' hcell hone hrel
  · cases hy
    rw [relC_v hR]; exact ⟨#[], reads_nil⟩
  · rename_i s off len tot
    split at hy <;> try (cases hy; done)
    rename_i esz' els hb
    split at hy <;> try (cases hy; done)
    rename_i hc
    cases hy
    obtain ⟨cells, hrd⟩ := reads_row (P := P) hr hR hb hc.1 hc.2
    by_cases h0 : ((els.drop off).take len) = []
    · rw [h0]
      obtain ⟨b, cap, hv⟩ := hrd.ex
      rw [h0] at hv; rw [hv]; exact ⟨#[], reads_nil⟩
    · have hp : 0 < ((els.drop off).take len).length := List.length_pos_iff.2 h0
      have : esz' = esz := by rw [← hrd.lens 0 hp, hl' 0 hp]
      subst this
      exact ⟨cells, hrd⟩
  · cases hy

theorem zeroCells_size (z : Array Value) (n : Nat) : (Builtin.zeroCells z n).size = n * z.size := by simp [Builtin.zeroCells]

/-- The elements of a row behind an append. -/
theorem app_cells {ok : Nat → Prop} {w' : World} {esz : Nat} {els ys : List (List D)} {c : Array Value} (hel : ∀ i (hi : i < els.length), (els[i]).length = esz) (hys : ∀ i (hi : i < ys.length), (ys[i]).length = esz)
    (h1 : ∀ i j (hi : i < els.length) (hj : j < (els[i]).length), RelD ok w' ((els[i])[j]) (c.getD (i * esz + j) undef))
    (h2 : ∀ i j (hi : i < ys.length) (hj : j < (ys[i]).length), RelD ok w' ((ys[i])[j]) (c.getD ((els.length + i) * esz + j) undef)) :
    (∀ i (hi : i < (els ++ ys).length), ((els ++ ys)[i]).length = esz) ∧ ∀ i j (hi : i < (els ++ ys).length) (hj : j < ((els ++ ys)[i]).length), RelD ok w' (((els ++ ys)[i])[j]) (c.getD (i * esz + j) undef) := by
  refine ⟨fun i hi => ?_, fun i j hi hj => ?_⟩
  · by_cases hlt : i < els.length
    · rw [List.getElem_append_left hlt]; exact hel i hlt
    · rw [List.getElem_append_right (by omega)]; exact hys _ _
  · by_cases hlt : i < els.length
    · have := h1 i j hlt (by rwa [List.getElem_append_left hlt] at hj)
      simpa [List.getElem_append_left hlt] using this
    · have hlen : i - els.length < ys.length := by simp at hi; omega
      have := h2 (i - els.length) j hlen (by rwa [List.getElem_append_right (by omega)] at hj)
      rw [show els.length + (i - els.length) = i by omega] at this
      simpa [List.getElem_append_right (show els.length ≤ i by omega)] using this

theorem getD_append_left {x y : Array Value} {k : Nat} (h : k < x.size) : (x ++ y).getD k undef = x.getD k undef := by
  simp [Array.getD_eq_getD_getElem?, Array.getElem?_append_left h]
theorem getD_append_right {x y : Array Value} {k : Nat} (h : x.size ≤ k) : (x ++ y).getD k undef = y.getD (k - x.size) undef := by
  simp [Array.getD_eq_getD_getElem?, Array.getElem?_append_right h]

theorem drew_heap (w : World) : ∀ k, k < w.heap.size → w.drew.heap[k]? = w.heap[k]? := fun _ _ => rfl

/-- A new array holds the old elements and the new ones. -/
theorem app_new (hr : Rel X σ m a w) {s esz : Nat} {els ys : List (List D)} {olds news zs : Array Value} {e : TypeId} {bs : ABlk} {vo vn : Value} (hO : Reads P (X.ok m) w esz vo els olds) (hN : Reads P (X.ok m) w esz vn ys news)
    (hb : σ.b s = bs) (hbs : bs = .fresh ∨ (bs = .row esz els ∧ (els.length < (els ++ ys).length ∨ ((els ++ ys).length = els.length ∧ False)))) {cap' : Nat} (hcap : els.length + ys.length ≤ cap') (hz : zs.size = (cap' - (els.length + ys.length)) * esz) :
    Rel X ⟨σ.t, upd σ.b s (.row esz (els ++ ys))⟩ (upd m s ⟨true, w.heap.size, cap'⟩) a (w.drew.alloc (.cells (olds ++ news ++ zs) e)) ∧
    RelC (X.ok (upd m s ⟨true, w.heap.size, cap'⟩)) (w.drew.alloc (.cells (olds ++ news ++ zs) e)) (upd σ.b s (.row esz (els ++ ys))) (upd m s ⟨true, w.heap.size, cap'⟩)
      (.row s 0 (els.length + ys.length) (els.length + ys.length)) (.slice (some ⟨w.heap.size, 0, none⟩) (els.length + ys.length) cap') := by
  have ht : Turn X σ m w s (.row esz (els ++ ys)) ⟨true, w.heap.size, cap'⟩ _ := turn_new (ob := .cells (olds ++ news ++ zs) e) (.inr rfl) (by
    rcases hbs with h | ⟨h, h2 | h2⟩
    · exact .fresh (hb.trans h)
    · exact .rowGrow esz els _ (hb.trans h) rfl h2
    · exact h2.2.elim) rfl
  have ho := hO.size
  have hn := hN.size
  refine ⟨hr.turn ht (fun q => ⟨by rw [hb]; intro e; rcases hbs with h | h <;> simp [e] at h, by simp⟩) ?_, ?_⟩
  · unfold SlotOK
    rw [upd_same, upd_same]
    obtain ⟨k1, k2⟩ := app_cells (ok := X.ok (upd m s ⟨true, w.heap.size, cap'⟩)) (w' := w.drew.alloc (.cells (olds ++ news ++ zs) e)) (c := olds ++ news ++ zs) hO.lens hN.lens
      (fun i j hi hj => by
        have := pos_lt hi (show j < esz by have := hO.lens i hi; omega)
        have e1 : (olds ++ news ++ zs).getD (i * esz + j) undef = olds.getD (i * esz + j) undef := by rw [Array.append_assoc, getD_append_left (by omega)]
        rw [e1]
        exact ht.relD (hO.rel i j hi hj))
      (fun i j hi hj => by
        have h1 := pos_lt hi (show j < esz by have := hN.lens i hi; omega)
        have e1 : (olds ++ news ++ zs).getD ((els.length + i) * esz + j) undef = news.getD (i * esz + j) undef := by
          rw [Array.append_assoc, Nat.add_mul, getD_append_right (by omega), getD_append_left (by omega)]
          rw [show els.length * esz + i * esz + j - olds.size = i * esz + j by omega]
        rw [e1]
        exact ht.relD (hN.rel i j hi hj))
    refine .inr ⟨rfl, _, e, heap_new w.drew _, ?_, by simpa using hcap, k1, fun k hk => ?_, k2⟩
    · have hc : cap' = els.length + ys.length + (cap' - (els.length + ys.length)) := by omega
      have hm : cap' * esz = els.length * esz + ys.length * esz + (cap' - (els.length + ys.length)) * esz := by rw [← Nat.add_mul, ← Nat.add_mul, ← hc]
      simp only [Array.size_append]; omega
    · have hk' : k < els.length * esz + ys.length * esz := by rw [← Nat.add_mul]; simpa using hk
      by_cases hlt : k < els.length * esz
      · rw [Array.append_assoc, getD_append_left (by omega)]; exact hO.one k hlt
      · rw [Array.append_assoc, getD_append_right (by omega), getD_append_left (by omega)]; exact hN.one _ (by omega)
  · have := RelC.row (ok := X.ok (upd m s ⟨true, w.heap.size, cap'⟩)) (w := w.drew.alloc (.cells (olds ++ news ++ zs) e)) (b := upd σ.b s (.row esz (els ++ ys))) (m := upd m s ⟨true, w.heap.size, cap'⟩) s 0 (els.length + ys.length) esz (els ++ ys) (upd_same _ _ _) (by rw [upd_same]) (by simp)
    rw [upd_same] at this
    simpa using this

theorem op_app {s esz : Nat} {x y : Opnd} (hc : chkA P o.op (.app s esz x y) = true) (h : opA P (.app s esz x y) σ K) (hr : Rel X σ m a w) : Gives P o a w (Post X σ a K) := by
  cases hop : o.op <;> rw [hop] at hc <;> simp only [chkA, Bool.false_eq_true] at hc
  rename_i c
  split at hc <;> try (cases hc; done)
  rename_i x' y' t u hcal hargs hty
  simp only [Bool.and_eq_true] at hc
  obtain ⟨⟨⟨hx, hy⟩, hf⟩, hu2⟩ := hc
  split at hf <;> try (cases hf; done)
  rename_i e hu
  split at hu2 <;> try (cases hu2; done)
  rename_i e2 huu
  simp only [Bool.and_eq_true] at hf
  obtain ⟨hsz, hby⟩ := hf
  obtain ⟨i, hi, hisz, hbytes, z, hz, hzz⟩ : ∃ i, P.info? e = some i ∧ i.size = esz ∧ i.bytes ≤ 4096 ∧ ∃ z, i.zero = some z ∧ z.cells.size = esz := by
    unfold sizeIs at hsz; unfold bytesSmall at hby
    split at hsz <;> try (cases hsz; done)
    rename_i i hi
    rw [hi] at hby
    simp at hsz hby
    obtain ⟨z, hz⟩ : ∃ z, i.zero = some z := by cases h : i.zero <;> simp [h] at hby; exact ⟨_, rfl⟩
    simp [hz] at hby
    exact ⟨i, hi, hsz, hby.1, z, hz, by omega⟩
  have hRx := chkO_sound hr hx
  have hRy := chkO_sound hr hy
  have ha : c.args = #[x', y'] := by apply Array.ext'; simpa using hargs
  have hat : c.argTypes = #[t, u] := by apply Array.ext'; simpa using hty
  have hex : ∀ {v : Value} {w' : World}, (Builtin.append_ #[t, u] o.type #[a.eval x', a.eval y']).run P w = .ok v w' → (execOp a.eval o).run P w = .ok (.value v) w' := fun e => by
    simp [execOp, hop, resolve, hcal, ha, hat, invoke, builtin, e]
  simp only [opA, appA] at h
  split at h <;> try (exact h.elim)
  rename_i ys hys
  obtain ⟨hall, h⟩ := h
  obtain ⟨news, hN⟩ := adds_reads (P := P) hr hRy hys hall
  obtain ⟨yb, yc, hyv⟩ := hN.ex
  have hfy : ∀ w' : World, (∀ k, k < w.heap.size → w'.heap[k]? = w.heap[k]?) → (Builtin.firstCells i.size ys.length (.slice yb ys.length yc)).run P w' = .ok news w' := fun w' hw' => by
    have := hN.first w' hw'; rw [hyv] at this; rw [hisz]; exact this
  have hnewsone : ∀ v ∈ news.toList, v.oneCell' = true := fun v hv => by
    obtain ⟨k, hk, rfl⟩ := List.mem_iff_getElem.1 hv
    have hk' : k < news.size := by simpa using hk
    have := hN.one k (by rw [← hN.size]; exact hk')
    simpa [Array.getD, hk'] using this
  have hzc : ∀ q, (Builtin.zeroCells z.cells q).size = q * esz := fun q => by rw [zeroCells_size, hzz]
  split at h
  · -- onto a row
    rename_i s' off len tot hxs
    obtain ⟨rfl, rfl, rfl, h⟩ := h
    rw [hxs] at hRx
    split at h <;> try (exact h.elim)
    rename_i esz' els hb
    obtain ⟨rfl, ht, hmost, h⟩ := h
    have hold := reads_row (P := P) hr hRx hb ht (by omega)
    rw [ht] at hold
    simp only [List.drop_zero, List.take_length] at hold
    obtain ⟨olds, hO⟩ := hold
    rcases row_val hRx hb ht with ⟨hl, _, hxv⟩ | ⟨hnl, _, hl0, hxv, hnil⟩
    · -- it has an array
      subst ht
      simp only [Nat.zero_mul, Nat.sub_zero] at hxv
      rcases slot_row hr hb with ⟨hnl, _⟩ | ⟨_, cc, e', hh, hzz', hcap, hel, hone, hcs⟩
      · rw [hl] at hnl; cases hnl
      by_cases hroom : els.length + ys.length ≤ (m s').cap
      · -- there is room
        have hle : els.length * esz' + news.size ≤ cc.size := by
          have : (els.length + ys.length) * esz' ≤ (m s').cap * esz' := Nat.mul_le_mul_right _ hroom
          rw [Nat.add_mul] at this
          rw [hN.size, hzz']; omega
        have hst := run_storeCells_at P (m s').blk (els.length * esz') e' news.toList 0 cc w hh (by simpa using hle) hnewsone
        simp only [Nat.add_zero, Array.length_toList] at hst
        obtain ⟨c2, hc2⟩ : ∃ c2, c2 = (cc.toList.take (els.length * esz') ++ news.toList ++ cc.toList.drop (els.length * esz' + news.size)).toArray := ⟨_, rfl⟩
        have hrun : (execOp a.eval o).run P w = .ok (.value (.slice (some ⟨(m s').blk, 0, none⟩) (els.length + ys.length) (m s').cap)) (w.setRow (m s').blk c2) := by
          refine hex ?_
          rw [hxv, hyv, run_app_room hu huu hi (hfy w (fun _ _ => rfl)) hroom]
          simp only [add_plain, Nat.zero_add, hisz, hst, Result.andThen_ok, hc2]
        have htn : Turns (σ.b s') (.row esz' (els ++ ys)) (m s') (m s') := by
          by_cases hy0 : ys = []
          · subst hy0; simp only [List.append_nil]; exact .same hb rfl
          · exact .rowGrow esz' els _ hb rfl (by have := List.length_pos_iff.2 hy0; simp; omega)
        have ht : Turn X σ m w s' (.row esz' (els ++ ys)) (m s') _ := turn_set (cs := c2) hr htn hl
        have hgd : ∀ k, c2.getD k undef = if els.length * esz' ≤ k ∧ k < els.length * esz' + news.size then news.getD (k - els.length * esz') undef else cc.getD k undef := fun k => by rw [hc2]; exact splice_getD hle k
        obtain ⟨k1, k2⟩ := app_cells (ok := X.ok (upd m s' (m s'))) (w' := w.setRow (m s').blk c2) (c := c2) hel hN.lens
          (fun i j hi hj => by
            have := pos_lt hi (show j < esz' by have := hel i hi; omega)
            rw [hgd, if_neg (by omega)]
            exact ht.relD (hcs i j hi hj))
          (fun i j hi hj => by
            have h1 := pos_lt hi (show j < esz' by have := hN.lens i hi; omega)
            rw [hgd, if_pos (by rw [Nat.add_mul, hN.size]; omega)]
            have := ht.relD (hN.rel i j hi hj)
            rwa [show (els.length + i) * esz' + j - els.length * esz' = i * esz' + j by rw [Nat.add_mul]; omega])
        refine gives_at (m' := upd m s' (m s')) (.inl hrun) h (hr.turn ht (fun q => ⟨by simp [hb], by simp⟩) ?_) ?_
        · unfold SlotOK
          rw [upd_same, upd_same]
          refine .inr ⟨hl, _, e', setRow_heap _ _ _ _ _ _ hh, by rw [hc2, splice_size hle, hzz'], by simpa using hroom, k1, fun k hk => ?_, k2⟩
          have hk' : k < els.length * esz' + ys.length * esz' := by rw [← Nat.add_mul]; simpa using hk
          rw [hgd]
          split
          · exact hN.one _ (by have := hN.size; omega)
          · exact hone k (by have := hN.size; omega)
        · have := RelC.row (ok := X.ok (upd m s' (m s'))) (w := w.setRow (m s').blk c2) (b := upd σ.b s' (.row esz' (els ++ ys))) (m := upd m s' (m s')) s' 0 (els.length + ys.length) esz' (els ++ ys) (upd_same _ _ _) (by rw [upd_same]; exact hl) (by simp)
          rw [upd_same] at this
          simpa using this
      · have hfo : (Builtin.firstCells i.size els.length (.slice (some ⟨(m s').blk, 0, none⟩) els.length (m s').cap)).run P w.drew = .ok olds w.drew := by
          have := hO.first w.drew (drew_heap w); rw [hxv] at this; rw [hisz]; exact this
        obtain ⟨cap', hcap', hrun⟩ := run_app_grow (ty := o.type) hu huu hi hz hbytes hfo (hfy w.drew (drew_heap w)) (by omega) hmost
        have hlt : els.length < (els ++ ys).length := by simp; omega
        obtain ⟨r1, r2⟩ := app_new (P := P) (e := e) hr hO hN hb (.inr ⟨rfl, .inl hlt⟩) hcap' (hzc _)
        exact gives_at (.inl (hex (by rw [hxv, hyv]; exact hrun))) h r1 r2
    · -- a nil row
      subst hnil
      subst hl0
      by_cases hy0 : ys = []
      · subst hy0
        have hrun : (execOp a.eval o).run P w = .ok (.value (.slice none 0 0)) w := by
          refine hex ?_
          rw [hxv, hyv, run_app_room hu huu hi (hfy w (fun _ _ => rfl)) (by simp)]
          rfl
        have hb' : upd σ.b s' (.row esz' ([] ++ [])) = σ.b := by rw [List.append_nil, ← hb]; exact upd_self _ _
        rw [hb'] at h
        exact gives_pure hr hrun h (.rowNil s' esz' hb hnl)
      · have hlt := List.length_pos_iff.2 hy0
        have hfo : (Builtin.firstCells i.size 0 (.slice none 0 0)).run P w.drew = .ok #[] w.drew := by simp [Builtin.firstCells]
        obtain ⟨cap', hcap', hrun⟩ := run_app_grow (ty := o.type) hu huu hi hz hbytes hfo (hfy w.drew (drew_heap w)) (by omega) (by simpa using hmost)
        obtain ⟨r1, r2⟩ := app_new (P := P) (e := e) (vo := .slice none 0 0) (els := []) (olds := #[]) hr reads_nil hN hb (.inr ⟨rfl, .inl (by simp; omega)⟩) (by simpa using hcap') (hzc _)
        exact gives_at (.inl (hex (by rw [hxv, hyv]; exact hrun))) h r1 r2
  · -- onto nil
    rename_i hxs
    have hxv := relC_v (hxs ▸ hRx)
    split at h <;> try (exact h.elim)
    rename_i hb
    obtain ⟨hmost, h⟩ := h
    by_cases hy0 : ys = []
    · subst hy0
      have hrun : (execOp a.eval o).run P w = .ok (.value (.slice none 0 0)) w := by
        refine hex ?_
        rw [hxv, hyv, run_app_room hu huu hi (hfy w (fun _ _ => rfl)) (by simp)]
        rfl
      have hnl : (m s).live = false := by have := hr.slots s; unfold SlotOK at this; rw [hb] at this; exact this
      have ht : Turn X σ m w s (.row esz []) ⟨false, 0, 0⟩ w := ⟨rfl, rfl, rfl, Nat.le_refl _, fun _ _ _ => rfl, .fresh hb, fun h => by cases h⟩
      refine gives_at (m' := upd m s ⟨false, 0, 0⟩) (.inl hrun) h (hr.turn ht (fun q => ⟨by simp [hb], by simp⟩) ?_) ?_
      · unfold SlotOK
        rw [upd_same, upd_same]
        exact .inl ⟨rfl, rfl⟩
      · exact .rowNil s esz (upd_same _ _ _) (by rw [upd_same])
    · have hlt := List.length_pos_iff.2 hy0
      have hfo : (Builtin.firstCells i.size 0 (.slice none 0 0)).run P w.drew = .ok #[] w.drew := by simp [Builtin.firstCells]
      obtain ⟨cap', hcap', hrun⟩ := run_app_grow (ty := o.type) hu huu hi hz hbytes hfo (hfy w.drew (drew_heap w)) (by omega) (by simpa using hmost)
      obtain ⟨r1, r2⟩ := app_new (P := P) (e := e) (vo := .slice none 0 0) (els := []) (olds := #[]) hr reads_nil hN hb (.inl rfl) (by simpa using hcap') (hzc _)
      simp only [List.length_nil, Nat.zero_add, List.nil_append] at r1 r2 hrun
      exact gives_at (.inl (hex (by rw [hxv, hyv]; exact hrun))) h r1 r2
  · exact h.elim

theorem op_appd {ss : List Nat} {esz : Nat} {x y : Opnd} (hc : chkA P o.op (.appd ss esz x y) = true) (h : opA P (.appd ss esz x y) σ K) (hr : Rel X σ m a w) : Gives P o a w (Post X σ a K) := by
  obtain ⟨s, _, h⟩ := h
  exact op_app (s := s) (x := x) (y := y) (esz := esz) (by cases hop : o.op <;> rw [hop] at hc <;> simp only [chkA, Bool.false_eq_true] at hc ⊢; exact hc) h hr

/-- A row is given up: what it is of is pure data from then on. -/
theorem freeze {t : Nat → AC} {b : Nat → ABlk} (hr : Rel X ⟨t, b⟩ m a w) {s esz : Nat} {els : List (List D)} {v : Value} (hb : b s = .row esz els) (hR : RelC (X.ok m) w b m (.row s 0 els.length els.length) v) :
    ∃ m', Rel X ⟨t, upd b s .dead⟩ m' a w ∧ RelC (X.ok m') w (upd b s .dead) m' (.d (.list els)) v := by
  have ht : Turn X ⟨t, b⟩ m w s .dead ⟨false, 0, 0⟩ w := ⟨rfl, rfl, rfl, Nat.le_refl _, fun _ _ _ => rfl, .dead rfl, fun h => by cases h⟩
  refine ⟨upd m s ⟨false, 0, 0⟩, hr.turn ht (fun q => ⟨by simp [hb], by simp⟩) ?_, .d ?_⟩
  · unfold SlotOK
    simp only [upd_same]
  · have h0 := row_val (σ := ⟨t, b⟩) hR hb rfl
    rcases h0 with ⟨hl, _, rfl⟩ | ⟨_, _, _, rfl, rfl⟩
    · rcases slot_row (σ := ⟨t, b⟩) hr hb with ⟨hl', _⟩ | ⟨_, c, e, hh, hz, hcap, hel, hone, hcs⟩
      · rw [hl] at hl'; cases hl'
      · have hok : X.ok (upd m s ⟨false, 0, 0⟩) (m s).blk := by
          refine ⟨.inr (hr.own s hl), fun s' hl2 => ?_⟩
          by_cases e : s' = s
          · subst e; rw [upd_same] at hl2; cases hl2
          · rw [upd_ne _ _ e] at hl2 ⊢; exact fun e' => e (hr.inj _ _ hl2 hl e')
        have hlt : ∀ i j, i < els.length → j < esz → i * esz + j < c.size := fun i j hi hj => by rw [hz]; exact pos_lt (by omega) hj
        refine .list els (m s).blk (0 * esz) _ esz (fun i j => c.getD (i * esz + j) undef) hok (hr.blkLt hl) (by omega) hel (fun i j hi hj => ?_) (fun i j hi hj => hone _ (pos_lt hi hj)) (fun i j hi hj => ht.relD (hcs i j hi hj))
        rw [Nat.zero_mul, Nat.zero_add]; exact cell_of hh (hlt i j hi hj)
    · exact .empty _ _

theorem post_freeze {K' : AC → (Nat → ABlk) → Prop} {v : Value} {w' : World} (h : Post X σ a K' v w') (hk : ∀ y b', K' y b' → ∃ s esz els, y = .row s 0 els.length els.length ∧ b' s = .row esz els ∧ K (.d (.list els)) (upd b' s .dead)) : Post X σ a K v w' := by
  obtain ⟨y, b', m', hK, hr, hy⟩ := h
  obtain ⟨s, esz, els, rfl, hb, hK⟩ := hk _ _ hK
  obtain ⟨m2, hr2, hy2⟩ := freeze hr hb hy
  exact ⟨_, _, m2, hK, hr2, hy2⟩

theorem Gives.mono {R R' : Value → World → Prop} (h : Gives P o a w R) (hk : ∀ v w', R v w' → R' v w') : Gives P o a w R' := by
  rcases h with ⟨v, w', hr, hrun⟩ | ⟨g, vs, hrun, hc⟩
  · exact .inl ⟨v, w', hk _ _ hr, hrun⟩
  · refine .inr ⟨g, vs, hrun, ?_⟩
    refine callsIn_wide.1 ((callsIn_wide.2 hc : CallsIn Fence.wide 0 P g vs w _).mono ?_)
    rintro e w' ⟨v, rfl, hr⟩
    exact ⟨v, rfl, hk _ _ hr⟩

theorem op_mvf {s : Nat} {x : Opnd} (hc : chkA P o.op (.mvf s x) = true) (h : opA P (.mvf s x) σ K) (hr : Rel X σ m a w) : Gives P o a w (Post X σ a K) := by
  cases hop : o.op <;> rw [hop] at hc <;> simp [chkA] at hc
  all_goals
    have hR := chkO_sound hr hc
    simp only [opA] at h
    split at h <;> try (exact h.elim)
    rename_i s' off len tot hx
    obtain ⟨rfl, rfl, rfl, h⟩ := h
    split at h <;> try (exact h.elim)
    rename_i esz els hb
    obtain ⟨rfl, h⟩ := h
    rw [hx] at hR
    obtain ⟨m', hr', hy⟩ := freeze hr hb hR
    exact .inl ⟨_, w, ⟨_, _, m', h, hr', hy⟩, .inl (by simp [execOp, hop])⟩

theorem op_appz {s esz : Nat} {x y : Opnd} (hc : chkA P o.op (.appz s esz x y) = true) (h : opA P (.appz s esz x y) σ K) (hr : Rel X σ m a w) : Gives P o a w (Post X σ a K) := by
  have hc' : chkA P o.op (.app s esz x y) = true := by
    cases hop : o.op <;> rw [hop] at hc <;> simpa only [chkA] using hc
  refine (op_app (K := fun y' b' => ∃ els, y' = .row s 0 els.length els.length ∧ b' = upd σ.b s (.row esz els) ∧ K (.d (.list els)) (upd σ.b s .dead)) hc' ?_ hr).mono (fun v w' hp => post_freeze hp ?_)
  · simp only [opA, appZ] at h
    simp only [opA, appA]
    split at h <;> try (exact h.elim)
    rename_i ys hy
    obtain ⟨h1, h⟩ := h
    refine ⟨h1, ?_⟩
    split at h <;> try (exact h.elim)
    · rename_i s' off len tot hx
      obtain ⟨rfl, rfl, rfl, h⟩ := h
      split at h <;> try (exact h.elim)
      rename_i esz' els hb
      obtain ⟨rfl, rfl, h2, h⟩ := h
      exact ⟨rfl, rfl, rfl, rfl, rfl, h2, els ++ ys, by simp, rfl, h⟩
    · rename_i hx
      split at h <;> try (exact h.elim)
      rename_i hb
      exact ⟨h.1, ys, rfl, rfl, h.2⟩
  · rintro y' b' ⟨els, rfl, rfl, hK⟩
    refine ⟨s, esz, els, rfl, upd_same _ _ _, ?_⟩
    have : upd (upd σ.b s (.row esz els)) s .dead = upd σ.b s .dead := by
      funext i; unfold upd; split <;> rfl
    rw [this]; exact hK

end
end Go.AM
