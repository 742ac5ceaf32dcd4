/-
  No cell of these rows narrows 'for every input' (looked for: loops, veiled, ifaces, maps, wideKeys, modest, calm, conditions, laid).
  DERIVED. THE GIVEN ROWS OF THIS SEAT. 5 by the template 'for every input the law returns true; each argument reads behind the call as it read before'; 0 by the template 'total and deterministic' (their statements: YtgeficpcnlgnhaaTotals.lean).
  GIVEN WITH THE SEED: the statements are not yours to turn. If you find one false, say at which input.
  Laid BY PROGRAM, IN A SANDBOX (cutbox-rows.mjs): the forced cells as the released guide's own fill.sh prints them over the translation 6119a6195ab83b83… (all of the seat's roots in one cut). By AI agents, Wed Nov 11 2026. No macro, syntax, notation, axiom, sorry.
-/
import Derived.Test.YtgeficpcnlgnhaaChecked
import GoSem.Claim
import GoSem.ClaimJoined
import GoSem.ClaimMapViews
import Derived.JoinedTies
import Derived.KernelRfl
namespace Go.Proofs.Ytgeficpcnlgnhaa
/- THE CELL 'sum', in the pinned program and in every row, IS THE sha256 OF THE DUMP (.gsa) THAT YtgeficpcnlgnhaaProg.lean LOADS. Nothing in Lean hashes anything: it is a label: what it is worth is what the hold of that sum in a sandbox is worth. -/
noncomputable def Try.pinned : Pinned := { name := "ytgeficpcnlgnhaa", sum := "6119a6195ab83b832dd2b2aeda15299d15cbae440e82933abd48192ccd6e3f93", checked := Try.checked }
namespace Rows
def none {H : Type} : Left H := { results := [], args := [] }

/-- 'culletlaw04.FormingMotions': WHATEVER THE INPUT: true; the input reads as it did. -/
def formingMotionsSpec : ChangeSpec := { name := "formingMotions", fn := fun _ => fun
  | [d1, d2, d3, d4, d5] => { results := [.lit (.bool true)], args := [d1, d2, d3, d4, d5] }
  | _ => none }
def formingMotionsRow : OpenClaim := { program := "ytgeficpcnlgnhaa", sum := "6119a6195ab83b832dd2b2aeda15299d15cbae440e82933abd48192ccd6e3f93", func := "cullet/culletlaw04.FormingMotions", spec := "formingMotions", unfollowed := true, recurses := true, apart := false }
def FormingMotionsSaid : Prop := formingMotionsRow.holds Try.pinned (OpenSpec.ofChange formingMotionsSpec)

/-- ITS FALSE NEIGHBOUR: 'it returns false'. Refute it at one input. -/
def formingMotionsWrong : ChangeSpec := { name := "formingMotions", fn := fun _ => fun
  | [d1, d2, d3, d4, d5] => { results := [.lit (.bool false)], args := [d1, d2, d3, d4, d5] }
  | _ => none }
def FormingMotionsWrongFalsely : Prop := formingMotionsRow.holds Try.pinned (OpenSpec.ofChange formingMotionsWrong)

/-- 'culletlaw04.FormingGap': WHATEVER THE INPUT: true; the input reads as it did. -/
def formingGapSpec : ChangeSpec := { name := "formingGap", fn := fun _ => fun
  | [d1, d2, d3, d4] => { results := [.lit (.bool true)], args := [d1, d2, d3, d4] }
  | _ => none }
def formingGapRow : OpenClaim := { program := "ytgeficpcnlgnhaa", sum := "6119a6195ab83b832dd2b2aeda15299d15cbae440e82933abd48192ccd6e3f93", func := "cullet/culletlaw04.FormingGap", spec := "formingGap", unfollowed := true, recurses := true, apart := false }
def FormingGapSaid : Prop := formingGapRow.holds Try.pinned (OpenSpec.ofChange formingGapSpec)

/-- ITS FALSE NEIGHBOUR: 'it returns false'. Refute it at one input. -/
def formingGapWrong : ChangeSpec := { name := "formingGap", fn := fun _ => fun
  | [d1, d2, d3, d4] => { results := [.lit (.bool false)], args := [d1, d2, d3, d4] }
  | _ => none }
def FormingGapWrongFalsely : Prop := formingGapRow.holds Try.pinned (OpenSpec.ofChange formingGapWrong)

/-- 'culletlaw04.FormingAll': WHATEVER THE INPUT: true; the input reads as it did. -/
def formingAllSpec : ChangeSpec := { name := "formingAll", fn := fun _ => fun
  | [d1, d2, d3, d4, d5, d6] => { results := [.lit (.bool true)], args := [d1, d2, d3, d4, d5, d6] }
  | _ => none }
def formingAllRow : OpenClaim := { program := "ytgeficpcnlgnhaa", sum := "6119a6195ab83b832dd2b2aeda15299d15cbae440e82933abd48192ccd6e3f93", func := "cullet/culletlaw04.FormingAll", spec := "formingAll", unfollowed := true, recurses := true, apart := false }
def FormingAllSaid : Prop := formingAllRow.holds Try.pinned (OpenSpec.ofChange formingAllSpec)

/-- ITS FALSE NEIGHBOUR: 'it returns false'. Refute it at one input. -/
def formingAllWrong : ChangeSpec := { name := "formingAll", fn := fun _ => fun
  | [d1, d2, d3, d4, d5, d6] => { results := [.lit (.bool false)], args := [d1, d2, d3, d4, d5, d6] }
  | _ => none }
def FormingAllWrongFalsely : Prop := formingAllRow.holds Try.pinned (OpenSpec.ofChange formingAllWrong)

/-- 'culletlaw04.FormingEven': WHATEVER THE INPUT: true; the input reads as it did. -/
def formingEvenSpec : ChangeSpec := { name := "formingEven", fn := fun _ => fun
  | [d1, d2, d3, d4, d5, d6] => { results := [.lit (.bool true)], args := [d1, d2, d3, d4, d5, d6] }
  | _ => none }
def formingEvenRow : OpenClaim := { program := "ytgeficpcnlgnhaa", sum := "6119a6195ab83b832dd2b2aeda15299d15cbae440e82933abd48192ccd6e3f93", func := "cullet/culletlaw04.FormingEven", spec := "formingEven", unfollowed := true, recurses := true, apart := false }
def FormingEvenSaid : Prop := formingEvenRow.holds Try.pinned (OpenSpec.ofChange formingEvenSpec)

/-- ITS FALSE NEIGHBOUR: 'it returns false'. Refute it at one input. -/
def formingEvenWrong : ChangeSpec := { name := "formingEven", fn := fun _ => fun
  | [d1, d2, d3, d4, d5, d6] => { results := [.lit (.bool false)], args := [d1, d2, d3, d4, d5, d6] }
  | _ => none }
def FormingEvenWrongFalsely : Prop := formingEvenRow.holds Try.pinned (OpenSpec.ofChange formingEvenWrong)

/-- 'culletlaw04.FormingNear': WHATEVER THE INPUT: true; the input reads as it did. -/
def formingNearSpec : ChangeSpec := { name := "formingNear", fn := fun _ => fun
  | [d1, d2, d3, d4, d5, d6, d7] => { results := [.lit (.bool true)], args := [d1, d2, d3, d4, d5, d6, d7] }
  | _ => none }
def formingNearRow : OpenClaim := { program := "ytgeficpcnlgnhaa", sum := "6119a6195ab83b832dd2b2aeda15299d15cbae440e82933abd48192ccd6e3f93", func := "cullet/culletlaw04.FormingNear", spec := "formingNear", unfollowed := true, recurses := true, apart := false }
def FormingNearSaid : Prop := formingNearRow.holds Try.pinned (OpenSpec.ofChange formingNearSpec)

/-- ITS FALSE NEIGHBOUR: 'it returns false'. Refute it at one input. -/
def formingNearWrong : ChangeSpec := { name := "formingNear", fn := fun _ => fun
  | [d1, d2, d3, d4, d5, d6, d7] => { results := [.lit (.bool false)], args := [d1, d2, d3, d4, d5, d6, d7] }
  | _ => none }
def FormingNearWrongFalsely : Prop := formingNearRow.holds Try.pinned (OpenSpec.ofChange formingNearWrong)

/- THE SECOND FORM. 'bulk': how many values and letters a reading holds, each counted each time it is reached (what is shared counts as often as it is met; a slice's spare places count too). A statement '..UptoSaid' is the law's where the arguments, and the package variables that the reading takes, are together of bulk at most 1048576: NARROWER than '..Said'. Prove '..Said' where nothing that the law and all that it calls make is longer than what came in: it says more and counts as full. Else prove '..UptoSaid'. A law counts once. -/
mutual
def uptoBulk {H : Type} : DataW H → Nat
  | .lit (.string bytes) => bytes.length + 1
  | .lit _ => 1
  | .nil => 1
  | .ptr d => uptoBulk d + 1
  | .slice elems spare => uptoBulkAll elems + uptoBulkAll spare + 1
  | .agg parts => uptoBulkAll parts + 1
  | .iface _ d => uptoBulk d + 1
  | .map entries => uptoBulkEntries entries + 1
  | .held _ => 1
def uptoBulkAll {H : Type} : List (DataW H) → Nat
  | [] => 0
  | d :: r => uptoBulk d + uptoBulkAll r
def uptoBulkEntries {H : Type} : List (Lit × DataW H) → Nat
  | [] => 0
  | x :: r => uptoBulkEntry x + uptoBulkEntries r
def uptoBulkEntry {H : Type} : Lit × DataW H → Nat
  | (.string bytes, d) => bytes.length + uptoBulk d + 1
  | (_, d) => uptoBulk d + 1
 end
def uptoSmall : (H : Type) → List (DataW H) → Bool := fun _ ds => decide (uptoBulkAll ds ≤ 1048576)
def OpenSpec.upto (s : _root_.Go.ChangeSpec) : _root_.Go.OpenSpec := { _root_.Go.OpenSpec.ofChange s with cond := some uptoSmall }

/-- 'culletlaw04.FormingMotions', WHERE WHAT IT READS IS OF BULK AT MOST 1048576: true; the input reads as it did. -/
def formingMotionsUptoRow : OpenClaim := { program := "ytgeficpcnlgnhaa", sum := "6119a6195ab83b832dd2b2aeda15299d15cbae440e82933abd48192ccd6e3f93", func := "cullet/culletlaw04.FormingMotions", spec := "formingMotions", unfollowed := true, recurses := true, apart := false, narrowed := true }
def FormingMotionsUptoSaid : Prop := formingMotionsUptoRow.holds Try.pinned (OpenSpec.upto formingMotionsSpec)

/-- 'culletlaw04.FormingGap', WHERE WHAT IT READS IS OF BULK AT MOST 1048576: true; the input reads as it did. -/
def formingGapUptoRow : OpenClaim := { program := "ytgeficpcnlgnhaa", sum := "6119a6195ab83b832dd2b2aeda15299d15cbae440e82933abd48192ccd6e3f93", func := "cullet/culletlaw04.FormingGap", spec := "formingGap", unfollowed := true, recurses := true, apart := false, narrowed := true }
def FormingGapUptoSaid : Prop := formingGapUptoRow.holds Try.pinned (OpenSpec.upto formingGapSpec)

/-- 'culletlaw04.FormingAll', WHERE WHAT IT READS IS OF BULK AT MOST 1048576: true; the input reads as it did. -/
def formingAllUptoRow : OpenClaim := { program := "ytgeficpcnlgnhaa", sum := "6119a6195ab83b832dd2b2aeda15299d15cbae440e82933abd48192ccd6e3f93", func := "cullet/culletlaw04.FormingAll", spec := "formingAll", unfollowed := true, recurses := true, apart := false, narrowed := true }
def FormingAllUptoSaid : Prop := formingAllUptoRow.holds Try.pinned (OpenSpec.upto formingAllSpec)

/-- 'culletlaw04.FormingEven', WHERE WHAT IT READS IS OF BULK AT MOST 1048576: true; the input reads as it did. -/
def formingEvenUptoRow : OpenClaim := { program := "ytgeficpcnlgnhaa", sum := "6119a6195ab83b832dd2b2aeda15299d15cbae440e82933abd48192ccd6e3f93", func := "cullet/culletlaw04.FormingEven", spec := "formingEven", unfollowed := true, recurses := true, apart := false, narrowed := true }
def FormingEvenUptoSaid : Prop := formingEvenUptoRow.holds Try.pinned (OpenSpec.upto formingEvenSpec)

/-- 'culletlaw04.FormingNear', WHERE WHAT IT READS IS OF BULK AT MOST 1048576: true; the input reads as it did. -/
def formingNearUptoRow : OpenClaim := { program := "ytgeficpcnlgnhaa", sum := "6119a6195ab83b832dd2b2aeda15299d15cbae440e82933abd48192ccd6e3f93", func := "cullet/culletlaw04.FormingNear", spec := "formingNear", unfollowed := true, recurses := true, apart := false, narrowed := true }
def FormingNearUptoSaid : Prop := formingNearUptoRow.holds Try.pinned (OpenSpec.upto formingNearSpec)

end Rows
end Go.Proofs.Ytgeficpcnlgnhaa
