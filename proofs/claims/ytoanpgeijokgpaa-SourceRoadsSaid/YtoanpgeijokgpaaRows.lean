/-
  No cell of these rows narrows 'for every input' (looked for: loops, veiled, ifaces, maps, wideKeys, modest, calm, conditions, laid).
  DERIVED. THE GIVEN ROWS OF THIS SEAT. 3 by the template 'for every input the law returns true; each argument reads behind the call as it read before'; 0 by the template 'total and deterministic' (their statements: YtoanpgeijokgpaaTotals.lean).
  GIVEN WITH THE SEED: the statements are not yours to turn. If you find one false, say at which input.
  Laid BY PROGRAM, IN A SANDBOX (cutbox-rows.mjs): the forced cells as the released guide's own fill.sh prints them over the translation fda29f034cb4c88d… (all of the seat's roots in one cut). By AI agents, Wed Nov 11 2026. No macro, syntax, notation, axiom, sorry.
-/
import Derived.Test.YtoanpgeijokgpaaChecked
import GoSem.Claim
import GoSem.ClaimJoined
import GoSem.ClaimMapViews
import Derived.JoinedTies
import Derived.KernelRfl
namespace Go.Proofs.Ytoanpgeijokgpaa
/- THE CELL 'sum', in the pinned program and in every row, IS THE sha256 OF THE DUMP (.gsa) THAT YtoanpgeijokgpaaProg.lean LOADS. Nothing in Lean hashes anything: it is a label: what it is worth is what the hold of that sum in a sandbox is worth. -/
noncomputable def Try.pinned : Pinned := { name := "ytoanpgeijokgpaa", sum := "fda29f034cb4c88d935749568cb75a218089ecc4ae981011eab1f189c77555b8", checked := Try.checked }
namespace Rows
def none {H : Type} : Left H := { results := [], args := [] }

/-- 'wrackkeep1.SourceBad': WHATEVER THE INPUT: true; the input reads as it did. -/
def sourceBadSpec : ChangeSpec := { name := "sourceBad", fn := fun _ => fun
  | [d1, d2, d3] => { results := [.lit (.bool true)], args := [d1, d2, d3] }
  | _ => none }
def sourceBadRow : OpenClaim := { program := "ytoanpgeijokgpaa", sum := "fda29f034cb4c88d935749568cb75a218089ecc4ae981011eab1f189c77555b8", func := "wrackline/wrackkeep1.SourceBad", spec := "sourceBad", unfollowed := true, recurses := true, apart := false }
def SourceBadSaid : Prop := sourceBadRow.holds Try.pinned (OpenSpec.ofChange sourceBadSpec)

/-- ITS FALSE NEIGHBOUR: 'it returns false'. Refute it at one input. -/
def sourceBadWrong : ChangeSpec := { name := "sourceBad", fn := fun _ => fun
  | [d1, d2, d3] => { results := [.lit (.bool false)], args := [d1, d2, d3] }
  | _ => none }
def SourceBadWrongFalsely : Prop := sourceBadRow.holds Try.pinned (OpenSpec.ofChange sourceBadWrong)

/-- 'wrackkeep1.SourceApart': WHATEVER THE INPUT: true; the input reads as it did. -/
def sourceApartSpec : ChangeSpec := { name := "sourceApart", fn := fun _ => fun
  | [d1, d2] => { results := [.lit (.bool true)], args := [d1, d2] }
  | _ => none }
def sourceApartRow : OpenClaim := { program := "ytoanpgeijokgpaa", sum := "fda29f034cb4c88d935749568cb75a218089ecc4ae981011eab1f189c77555b8", func := "wrackline/wrackkeep1.SourceApart", spec := "sourceApart", unfollowed := true, recurses := true, apart := false }
def SourceApartSaid : Prop := sourceApartRow.holds Try.pinned (OpenSpec.ofChange sourceApartSpec)

/-- ITS FALSE NEIGHBOUR: 'it returns false'. Refute it at one input. -/
def sourceApartWrong : ChangeSpec := { name := "sourceApart", fn := fun _ => fun
  | [d1, d2] => { results := [.lit (.bool false)], args := [d1, d2] }
  | _ => none }
def SourceApartWrongFalsely : Prop := sourceApartRow.holds Try.pinned (OpenSpec.ofChange sourceApartWrong)

/-- 'wrackkeep1.SourceRoads': WHATEVER THE INPUT: true; the input reads as it did. -/
def sourceRoadsSpec : ChangeSpec := { name := "sourceRoads", fn := fun _ => fun
  | [d1, d2, d3, d4, d5] => { results := [.lit (.bool true)], args := [d1, d2, d3, d4, d5] }
  | _ => none }
def sourceRoadsRow : OpenClaim := { program := "ytoanpgeijokgpaa", sum := "fda29f034cb4c88d935749568cb75a218089ecc4ae981011eab1f189c77555b8", func := "wrackline/wrackkeep1.SourceRoads", spec := "sourceRoads", unfollowed := true, recurses := true, apart := false }
def SourceRoadsSaid : Prop := sourceRoadsRow.holds Try.pinned (OpenSpec.ofChange sourceRoadsSpec)

/-- ITS FALSE NEIGHBOUR: 'it returns false'. Refute it at one input. -/
def sourceRoadsWrong : ChangeSpec := { name := "sourceRoads", fn := fun _ => fun
  | [d1, d2, d3, d4, d5] => { results := [.lit (.bool false)], args := [d1, d2, d3, d4, d5] }
  | _ => none }
def SourceRoadsWrongFalsely : Prop := sourceRoadsRow.holds Try.pinned (OpenSpec.ofChange sourceRoadsWrong)

/- THE SECOND FORM. 'bulk': how many values and letters a reading holds, each counted each time it is reached (what is shared counts as often as it is met; a slice's spare places count too). A statement '..UptoSaid' is the law's where the arguments, and the package variables that the reading takes, are together of bulk at most 1048576: NARROWER than '..Said'. Prove '..Said' where nothing that the law and all that it calls make is longer than what came in: it says more and counts as full. Else prove '..UptoSaid'. A law counts once. -/
mutual
def uptoBulk {H : Type} : DataW H → Nat
  | .lit (.string bytes) => bytes.length + 1
  | .lit _ => 1
  | .nil => 1
  | .ptr d => uptoBulk d + 1
  | .slice elems spare => uptoBulkAll elems + uptoBulkAll spare + 1
  | .agg parts => uptoBulkAll parts + 1
  | .iface _ d => uptoBulk d + 1
  | .map entries => uptoBulkEntries entries + 1
  | .held _ => 1
def uptoBulkAll {H : Type} : List (DataW H) → Nat
  | [] => 0
  | d :: r => uptoBulk d + uptoBulkAll r
def uptoBulkEntries {H : Type} : List (Lit × DataW H) → Nat
  | [] => 0
  | x :: r => uptoBulkEntry x + uptoBulkEntries r
def uptoBulkEntry {H : Type} : Lit × DataW H → Nat
  | (.string bytes, d) => bytes.length + uptoBulk d + 1
  | (_, d) => uptoBulk d + 1
 end
def uptoSmall : (H : Type) → List (DataW H) → Bool := fun _ ds => decide (uptoBulkAll ds ≤ 1048576)
def OpenSpec.upto (s : _root_.Go.ChangeSpec) : _root_.Go.OpenSpec := { _root_.Go.OpenSpec.ofChange s with cond := some uptoSmall }

/-- 'wrackkeep1.SourceBad', WHERE WHAT IT READS IS OF BULK AT MOST 1048576: true; the input reads as it did. -/
def sourceBadUptoRow : OpenClaim := { program := "ytoanpgeijokgpaa", sum := "fda29f034cb4c88d935749568cb75a218089ecc4ae981011eab1f189c77555b8", func := "wrackline/wrackkeep1.SourceBad", spec := "sourceBad", unfollowed := true, recurses := true, apart := false, narrowed := true }
def SourceBadUptoSaid : Prop := sourceBadUptoRow.holds Try.pinned (OpenSpec.upto sourceBadSpec)

/-- 'wrackkeep1.SourceApart', WHERE WHAT IT READS IS OF BULK AT MOST 1048576: true; the input reads as it did. -/
def sourceApartUptoRow : OpenClaim := { program := "ytoanpgeijokgpaa", sum := "fda29f034cb4c88d935749568cb75a218089ecc4ae981011eab1f189c77555b8", func := "wrackline/wrackkeep1.SourceApart", spec := "sourceApart", unfollowed := true, recurses := true, apart := false, narrowed := true }
def SourceApartUptoSaid : Prop := sourceApartUptoRow.holds Try.pinned (OpenSpec.upto sourceApartSpec)

/-- 'wrackkeep1.SourceRoads', WHERE WHAT IT READS IS OF BULK AT MOST 1048576: true; the input reads as it did. -/
def sourceRoadsUptoRow : OpenClaim := { program := "ytoanpgeijokgpaa", sum := "fda29f034cb4c88d935749568cb75a218089ecc4ae981011eab1f189c77555b8", func := "wrackline/wrackkeep1.SourceRoads", spec := "sourceRoads", unfollowed := true, recurses := true, apart := false, narrowed := true }
def SourceRoadsUptoSaid : Prop := sourceRoadsUptoRow.holds Try.pinned (OpenSpec.upto sourceRoadsSpec)

end Rows
end Go.Proofs.Ytoanpgeijokgpaa
