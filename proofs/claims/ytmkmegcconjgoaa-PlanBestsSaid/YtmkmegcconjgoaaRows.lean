/-
  No cell of these rows narrows 'for every input' (looked for: loops, veiled, ifaces, maps, wideKeys, modest, calm, conditions, laid).
  DERIVED. THE GIVEN ROWS OF THIS SEAT. 7 by the template 'for every input the law returns true; each argument reads behind the call as it read before'; 0 by the template 'total and deterministic' (their statements: YtmkmegcconjgoaaTotals.lean).
  GIVEN WITH THE SEED: the statements are not yours to turn. If you find one false, say at which input.
  Laid BY PROGRAM, IN A SANDBOX (cutbox-rows.mjs): the forced cells as the released guide's own fill.sh prints them over the translation 2af2acacf43d03e0… (all of the seat's roots in one cut). By AI agents, Wed Nov 11 2026. No macro, syntax, notation, axiom, sorry.
-/
import Derived.Test.YtmkmegcconjgoaaChecked
import GoSem.Claim
import GoSem.ClaimJoined
import GoSem.ClaimMapViews
import Derived.JoinedTies
import Derived.KernelRfl
namespace Go.Proofs.Ytmkmegcconjgoaa
/- THE CELL 'sum', in the pinned program and in every row, IS THE sha256 OF THE DUMP (.gsa) THAT YtmkmegcconjgoaaProg.lean LOADS. Nothing in Lean hashes anything: it is a label: what it is worth is what the hold of that sum in a sandbox is worth. -/
noncomputable def Try.pinned : Pinned := { name := "ytmkmegcconjgoaa", sum := "2af2acacf43d03e079765649e39e5ae18d8b68fa28cf0d97440b8157bebdc9d3", checked := Try.checked }
namespace Rows
def none {H : Type} : Left H := { results := [], args := [] }

/-- 'culletlaw08.PlanDearer': WHATEVER THE INPUT: true; the input reads as it did. -/
def planDearerSpec : ChangeSpec := { name := "planDearer", fn := fun _ => fun
  | [d1, d2] => { results := [.lit (.bool true)], args := [d1, d2] }
  | _ => none }
def planDearerRow : OpenClaim := { program := "ytmkmegcconjgoaa", sum := "2af2acacf43d03e079765649e39e5ae18d8b68fa28cf0d97440b8157bebdc9d3", func := "cullet/culletlaw08.PlanDearer", spec := "planDearer", unfollowed := true, recurses := true, apart := false }
def PlanDearerSaid : Prop := planDearerRow.holds Try.pinned (OpenSpec.ofChange planDearerSpec)

/-- ITS FALSE NEIGHBOUR: 'it returns false'. Refute it at one input. -/
def planDearerWrong : ChangeSpec := { name := "planDearer", fn := fun _ => fun
  | [d1, d2] => { results := [.lit (.bool false)], args := [d1, d2] }
  | _ => none }
def PlanDearerWrongFalsely : Prop := planDearerRow.holds Try.pinned (OpenSpec.ofChange planDearerWrong)

/-- 'culletlaw08.PlanChecks': WHATEVER THE INPUT: true; the input reads as it did. -/
def planChecksSpec : ChangeSpec := { name := "planChecks", fn := fun _ => fun
  | [d1, d2] => { results := [.lit (.bool true)], args := [d1, d2] }
  | _ => none }
def planChecksRow : OpenClaim := { program := "ytmkmegcconjgoaa", sum := "2af2acacf43d03e079765649e39e5ae18d8b68fa28cf0d97440b8157bebdc9d3", func := "cullet/culletlaw08.PlanChecks", spec := "planChecks", unfollowed := true, recurses := true, apart := false }
def PlanChecksSaid : Prop := planChecksRow.holds Try.pinned (OpenSpec.ofChange planChecksSpec)

/-- ITS FALSE NEIGHBOUR: 'it returns false'. Refute it at one input. -/
def planChecksWrong : ChangeSpec := { name := "planChecks", fn := fun _ => fun
  | [d1, d2] => { results := [.lit (.bool false)], args := [d1, d2] }
  | _ => none }
def PlanChecksWrongFalsely : Prop := planChecksRow.holds Try.pinned (OpenSpec.ofChange planChecksWrong)

/-- 'culletlaw08.PlanShifts': WHATEVER THE INPUT: true; the input reads as it did. -/
def planShiftsSpec : ChangeSpec := { name := "planShifts", fn := fun _ => fun
  | [d1, d2] => { results := [.lit (.bool true)], args := [d1, d2] }
  | _ => none }
def planShiftsRow : OpenClaim := { program := "ytmkmegcconjgoaa", sum := "2af2acacf43d03e079765649e39e5ae18d8b68fa28cf0d97440b8157bebdc9d3", func := "cullet/culletlaw08.PlanShifts", spec := "planShifts", unfollowed := true, recurses := true, apart := false }
def PlanShiftsSaid : Prop := planShiftsRow.holds Try.pinned (OpenSpec.ofChange planShiftsSpec)

/-- ITS FALSE NEIGHBOUR: 'it returns false'. Refute it at one input. -/
def planShiftsWrong : ChangeSpec := { name := "planShifts", fn := fun _ => fun
  | [d1, d2] => { results := [.lit (.bool false)], args := [d1, d2] }
  | _ => none }
def PlanShiftsWrongFalsely : Prop := planShiftsRow.holds Try.pinned (OpenSpec.ofChange planShiftsWrong)

/-- 'culletlaw08.PlanResults': WHATEVER THE INPUT: true; the input reads as it did. -/
def planResultsSpec : ChangeSpec := { name := "planResults", fn := fun _ => fun
  | [d1, d2] => { results := [.lit (.bool true)], args := [d1, d2] }
  | _ => none }
def planResultsRow : OpenClaim := { program := "ytmkmegcconjgoaa", sum := "2af2acacf43d03e079765649e39e5ae18d8b68fa28cf0d97440b8157bebdc9d3", func := "cullet/culletlaw08.PlanResults", spec := "planResults", unfollowed := true, recurses := true, apart := false }
def PlanResultsSaid : Prop := planResultsRow.holds Try.pinned (OpenSpec.ofChange planResultsSpec)

/-- ITS FALSE NEIGHBOUR: 'it returns false'. Refute it at one input. -/
def planResultsWrong : ChangeSpec := { name := "planResults", fn := fun _ => fun
  | [d1, d2] => { results := [.lit (.bool false)], args := [d1, d2] }
  | _ => none }
def PlanResultsWrongFalsely : Prop := planResultsRow.holds Try.pinned (OpenSpec.ofChange planResultsWrong)

/-- 'culletlaw08.PlanStands': WHATEVER THE INPUT: true; the input reads as it did. -/
def planStandsSpec : ChangeSpec := { name := "planStands", fn := fun _ => fun
  | [d1, d2] => { results := [.lit (.bool true)], args := [d1, d2] }
  | _ => none }
def planStandsRow : OpenClaim := { program := "ytmkmegcconjgoaa", sum := "2af2acacf43d03e079765649e39e5ae18d8b68fa28cf0d97440b8157bebdc9d3", func := "cullet/culletlaw08.PlanStands", spec := "planStands", unfollowed := true, recurses := true, apart := false }
def PlanStandsSaid : Prop := planStandsRow.holds Try.pinned (OpenSpec.ofChange planStandsSpec)

/-- ITS FALSE NEIGHBOUR: 'it returns false'. Refute it at one input. -/
def planStandsWrong : ChangeSpec := { name := "planStands", fn := fun _ => fun
  | [d1, d2] => { results := [.lit (.bool false)], args := [d1, d2] }
  | _ => none }
def PlanStandsWrongFalsely : Prop := planStandsRow.holds Try.pinned (OpenSpec.ofChange planStandsWrong)

/-- 'culletlaw08.PlanBests': WHATEVER THE INPUT: true; the input reads as it did. -/
def planBestsSpec : ChangeSpec := { name := "planBests", fn := fun _ => fun
  | [d] => { results := [.lit (.bool true)], args := [d] }
  | _ => none }
def planBestsRow : OpenClaim := { program := "ytmkmegcconjgoaa", sum := "2af2acacf43d03e079765649e39e5ae18d8b68fa28cf0d97440b8157bebdc9d3", func := "cullet/culletlaw08.PlanBests", spec := "planBests", unfollowed := true, recurses := true, apart := false }
def PlanBestsSaid : Prop := planBestsRow.holds Try.pinned (OpenSpec.ofChange planBestsSpec)

/-- ITS FALSE NEIGHBOUR: 'it returns false'. Refute it at one input. -/
def planBestsWrong : ChangeSpec := { name := "planBests", fn := fun _ => fun
  | [d] => { results := [.lit (.bool false)], args := [d] }
  | _ => none }
def PlanBestsWrongFalsely : Prop := planBestsRow.holds Try.pinned (OpenSpec.ofChange planBestsWrong)

/-- 'cullettop.TopPulled': WHATEVER THE INPUT: true; the input reads as it did. -/
def topPulledSpec : ChangeSpec := { name := "topPulled", fn := fun _ => fun
  | [d1, d2] => { results := [.lit (.bool true)], args := [d1, d2] }
  | _ => none }
def topPulledRow : OpenClaim := { program := "ytmkmegcconjgoaa", sum := "2af2acacf43d03e079765649e39e5ae18d8b68fa28cf0d97440b8157bebdc9d3", func := "cullet/cullettop.TopPulled", spec := "topPulled", unfollowed := true, recurses := true, apart := false }
def TopPulledSaid : Prop := topPulledRow.holds Try.pinned (OpenSpec.ofChange topPulledSpec)

/-- ITS FALSE NEIGHBOUR: 'it returns false'. Refute it at one input. -/
def topPulledWrong : ChangeSpec := { name := "topPulled", fn := fun _ => fun
  | [d1, d2] => { results := [.lit (.bool false)], args := [d1, d2] }
  | _ => none }
def TopPulledWrongFalsely : Prop := topPulledRow.holds Try.pinned (OpenSpec.ofChange topPulledWrong)

/- THE SECOND FORM. 'bulk': how many values and letters a reading holds, each counted each time it is reached (what is shared counts as often as it is met; a slice's spare places count too). A statement '..UptoSaid' is the law's where the arguments, and the package variables that the reading takes, are together of bulk at most 1048576: NARROWER than '..Said'. Prove '..Said' where nothing that the law and all that it calls make is longer than what came in: it says more and counts as full. Else prove '..UptoSaid'. A law counts once. -/
mutual
def uptoBulk {H : Type} : DataW H → Nat
  | .lit (.string bytes) => bytes.length + 1
  | .lit _ => 1
  | .nil => 1
  | .ptr d => uptoBulk d + 1
  | .slice elems spare => uptoBulkAll elems + uptoBulkAll spare + 1
  | .agg parts => uptoBulkAll parts + 1
  | .iface _ d => uptoBulk d + 1
  | .map entries => uptoBulkEntries entries + 1
  | .held _ => 1
def uptoBulkAll {H : Type} : List (DataW H) → Nat
  | [] => 0
  | d :: r => uptoBulk d + uptoBulkAll r
def uptoBulkEntries {H : Type} : List (Lit × DataW H) → Nat
  | [] => 0
  | x :: r => uptoBulkEntry x + uptoBulkEntries r
def uptoBulkEntry {H : Type} : Lit × DataW H → Nat
  | (.string bytes, d) => bytes.length + uptoBulk d + 1
  | (_, d) => uptoBulk d + 1
 end
def uptoSmall : (H : Type) → List (DataW H) → Bool := fun _ ds => decide (uptoBulkAll ds ≤ 1048576)
def OpenSpec.upto (s : _root_.Go.ChangeSpec) : _root_.Go.OpenSpec := { _root_.Go.OpenSpec.ofChange s with cond := some uptoSmall }

/-- 'culletlaw08.PlanDearer', WHERE WHAT IT READS IS OF BULK AT MOST 1048576: true; the input reads as it did. -/
def planDearerUptoRow : OpenClaim := { program := "ytmkmegcconjgoaa", sum := "2af2acacf43d03e079765649e39e5ae18d8b68fa28cf0d97440b8157bebdc9d3", func := "cullet/culletlaw08.PlanDearer", spec := "planDearer", unfollowed := true, recurses := true, apart := false, narrowed := true }
def PlanDearerUptoSaid : Prop := planDearerUptoRow.holds Try.pinned (OpenSpec.upto planDearerSpec)

/-- 'culletlaw08.PlanChecks', WHERE WHAT IT READS IS OF BULK AT MOST 1048576: true; the input reads as it did. -/
def planChecksUptoRow : OpenClaim := { program := "ytmkmegcconjgoaa", sum := "2af2acacf43d03e079765649e39e5ae18d8b68fa28cf0d97440b8157bebdc9d3", func := "cullet/culletlaw08.PlanChecks", spec := "planChecks", unfollowed := true, recurses := true, apart := false, narrowed := true }
def PlanChecksUptoSaid : Prop := planChecksUptoRow.holds Try.pinned (OpenSpec.upto planChecksSpec)

/-- 'culletlaw08.PlanShifts', WHERE WHAT IT READS IS OF BULK AT MOST 1048576: true; the input reads as it did. -/
def planShiftsUptoRow : OpenClaim := { program := "ytmkmegcconjgoaa", sum := "2af2acacf43d03e079765649e39e5ae18d8b68fa28cf0d97440b8157bebdc9d3", func := "cullet/culletlaw08.PlanShifts", spec := "planShifts", unfollowed := true, recurses := true, apart := false, narrowed := true }
def PlanShiftsUptoSaid : Prop := planShiftsUptoRow.holds Try.pinned (OpenSpec.upto planShiftsSpec)

/-- 'culletlaw08.PlanResults', WHERE WHAT IT READS IS OF BULK AT MOST 1048576: true; the input reads as it did. -/
def planResultsUptoRow : OpenClaim := { program := "ytmkmegcconjgoaa", sum := "2af2acacf43d03e079765649e39e5ae18d8b68fa28cf0d97440b8157bebdc9d3", func := "cullet/culletlaw08.PlanResults", spec := "planResults", unfollowed := true, recurses := true, apart := false, narrowed := true }
def PlanResultsUptoSaid : Prop := planResultsUptoRow.holds Try.pinned (OpenSpec.upto planResultsSpec)

/-- 'culletlaw08.PlanStands', WHERE WHAT IT READS IS OF BULK AT MOST 1048576: true; the input reads as it did. -/
def planStandsUptoRow : OpenClaim := { program := "ytmkmegcconjgoaa", sum := "2af2acacf43d03e079765649e39e5ae18d8b68fa28cf0d97440b8157bebdc9d3", func := "cullet/culletlaw08.PlanStands", spec := "planStands", unfollowed := true, recurses := true, apart := false, narrowed := true }
def PlanStandsUptoSaid : Prop := planStandsUptoRow.holds Try.pinned (OpenSpec.upto planStandsSpec)

/-- 'culletlaw08.PlanBests', WHERE WHAT IT READS IS OF BULK AT MOST 1048576: true; the input reads as it did. -/
def planBestsUptoRow : OpenClaim := { program := "ytmkmegcconjgoaa", sum := "2af2acacf43d03e079765649e39e5ae18d8b68fa28cf0d97440b8157bebdc9d3", func := "cullet/culletlaw08.PlanBests", spec := "planBests", unfollowed := true, recurses := true, apart := false, narrowed := true }
def PlanBestsUptoSaid : Prop := planBestsUptoRow.holds Try.pinned (OpenSpec.upto planBestsSpec)

/-- 'cullettop.TopPulled', WHERE WHAT IT READS IS OF BULK AT MOST 1048576: true; the input reads as it did. -/
def topPulledUptoRow : OpenClaim := { program := "ytmkmegcconjgoaa", sum := "2af2acacf43d03e079765649e39e5ae18d8b68fa28cf0d97440b8157bebdc9d3", func := "cullet/cullettop.TopPulled", spec := "topPulled", unfollowed := true, recurses := true, apart := false, narrowed := true }
def TopPulledUptoSaid : Prop := topPulledUptoRow.holds Try.pinned (OpenSpec.upto topPulledSpec)

end Rows
end Go.Proofs.Ytmkmegcconjgoaa
