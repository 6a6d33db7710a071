/-
  No cell of these rows narrows 'for every input' (looked for: loops, veiled, ifaces, maps, wideKeys, modest, calm, conditions, laid).
  DERIVED. THE GIVEN ROWS OF THIS SEAT. 8 by the template 'for every input the law returns true; each argument reads behind the call as it read before'; 0 by the template 'total and deterministic' (their statements: YtnlmdmpfgdiipaaTotals.lean).
  GIVEN WITH THE SEED: the statements are not yours to turn. If you find one false, say at which input.
  Laid BY PROGRAM, IN A SANDBOX (cutbox-rows.mjs): the forced cells as the released guide's own fill.sh prints them over the translation 441ef058bbf7d0d0… (all of the seat's roots in one cut). By AI agents, Wed Nov 11 2026. No macro, syntax, notation, axiom, sorry.
-/
import Derived.Test.YtnlmdmpfgdiipaaChecked
import GoSem.Claim
import GoSem.ClaimJoined
import GoSem.ClaimMapViews
import Derived.JoinedTies
import Derived.KernelRfl
namespace Go.Proofs.Ytnlmdmpfgdiipaa
/- THE CELL 'sum', in the pinned program and in every row, IS THE sha256 OF THE DUMP (.gsa) THAT YtnlmdmpfgdiipaaProg.lean LOADS. Nothing in Lean hashes anything: it is a label: what it is worth is what the hold of that sum in a sandbox is worth. -/
noncomputable def Try.pinned : Pinned := { name := "ytnlmdmpfgdiipaa", sum := "441ef058bbf7d0d0cdb3afc7bc334feebcc520b6e483297a84cd5c7fab3adaa9", checked := Try.checked }
namespace Rows
def none {H : Type} : Left H := { results := [], args := [] }

/-- 'wrackkeep3.GramShown': WHATEVER THE INPUT: true; the input reads as it did. -/
def gramShownSpec : ChangeSpec := { name := "gramShown", fn := fun _ => fun
  | [d1, d2] => { results := [.lit (.bool true)], args := [d1, d2] }
  | _ => none }
def gramShownRow : OpenClaim := { program := "ytnlmdmpfgdiipaa", sum := "441ef058bbf7d0d0cdb3afc7bc334feebcc520b6e483297a84cd5c7fab3adaa9", func := "wrackline/wrackkeep3.GramShown", spec := "gramShown", inPlace := ["internal/bytealg.IndexByte", "internal/bytealg.Index"], named := ["internal/bytealg.MaxLen"], apart := false }
def GramShownSaid : Prop := gramShownRow.holds Try.pinned (OpenSpec.ofChange gramShownSpec)

/-- ITS FALSE NEIGHBOUR: 'it returns false'. Refute it at one input. -/
def gramShownWrong : ChangeSpec := { name := "gramShown", fn := fun _ => fun
  | [d1, d2] => { results := [.lit (.bool false)], args := [d1, d2] }
  | _ => none }
def GramShownWrongFalsely : Prop := gramShownRow.holds Try.pinned (OpenSpec.ofChange gramShownWrong)

/-- 'wrackkeep3.StatBounds': WHATEVER THE INPUT: true; the input reads as it did. -/
def statBoundsSpec : ChangeSpec := { name := "statBounds", fn := fun _ => fun
  | [d] => { results := [.lit (.bool true)], args := [d] }
  | _ => none }
def statBoundsRow : OpenClaim := { program := "ytnlmdmpfgdiipaa", sum := "441ef058bbf7d0d0cdb3afc7bc334feebcc520b6e483297a84cd5c7fab3adaa9", func := "wrackline/wrackkeep3.StatBounds", spec := "statBounds", recurses := true, apart := false }
def StatBoundsSaid : Prop := statBoundsRow.holds Try.pinned (OpenSpec.ofChange statBoundsSpec)

/-- ITS FALSE NEIGHBOUR: 'it returns false'. Refute it at one input. -/
def statBoundsWrong : ChangeSpec := { name := "statBounds", fn := fun _ => fun
  | [d] => { results := [.lit (.bool false)], args := [d] }
  | _ => none }
def StatBoundsWrongFalsely : Prop := statBoundsRow.holds Try.pinned (OpenSpec.ofChange statBoundsWrong)

/-- 'wrackkeep1.SpanCuts': WHATEVER THE INPUT: true; the input reads as it did. -/
def spanCutsSpec : ChangeSpec := { name := "spanCuts", fn := fun _ => fun
  | [d1, d2, d3] => { results := [.lit (.bool true)], args := [d1, d2, d3] }
  | _ => none }
def spanCutsRow : OpenClaim := { program := "ytnlmdmpfgdiipaa", sum := "441ef058bbf7d0d0cdb3afc7bc334feebcc520b6e483297a84cd5c7fab3adaa9", func := "wrackline/wrackkeep1.SpanCuts", spec := "spanCuts", unfollowed := true, recurses := true, apart := false }
def SpanCutsSaid : Prop := spanCutsRow.holds Try.pinned (OpenSpec.ofChange spanCutsSpec)

/-- ITS FALSE NEIGHBOUR: 'it returns false'. Refute it at one input. -/
def spanCutsWrong : ChangeSpec := { name := "spanCuts", fn := fun _ => fun
  | [d1, d2, d3] => { results := [.lit (.bool false)], args := [d1, d2, d3] }
  | _ => none }
def SpanCutsWrongFalsely : Prop := spanCutsRow.holds Try.pinned (OpenSpec.ofChange spanCutsWrong)

/-- 'wrackkeep3.NearSelf': WHATEVER THE INPUT: true; the input reads as it did. -/
def nearSelfSpec : ChangeSpec := { name := "nearSelf", fn := fun _ => fun
  | [d1, d2] => { results := [.lit (.bool true)], args := [d1, d2] }
  | _ => none }
def nearSelfRow : OpenClaim := { program := "ytnlmdmpfgdiipaa", sum := "441ef058bbf7d0d0cdb3afc7bc334feebcc520b6e483297a84cd5c7fab3adaa9", func := "wrackline/wrackkeep3.NearSelf", spec := "nearSelf", recurses := true, apart := false }
def NearSelfSaid : Prop := nearSelfRow.holds Try.pinned (OpenSpec.ofChange nearSelfSpec)

/-- ITS FALSE NEIGHBOUR: 'it returns false'. Refute it at one input. -/
def nearSelfWrong : ChangeSpec := { name := "nearSelf", fn := fun _ => fun
  | [d1, d2] => { results := [.lit (.bool false)], args := [d1, d2] }
  | _ => none }
def NearSelfWrongFalsely : Prop := nearSelfRow.holds Try.pinned (OpenSpec.ofChange nearSelfWrong)

/-- 'wrackkeep1.SpanAlgebra': WHATEVER THE INPUT: true; the input reads as it did. -/
def spanAlgebraSpec : ChangeSpec := { name := "spanAlgebra", fn := fun _ => fun
  | [d1, d2, d3] => { results := [.lit (.bool true)], args := [d1, d2, d3] }
  | _ => none }
def spanAlgebraRow : OpenClaim := { program := "ytnlmdmpfgdiipaa", sum := "441ef058bbf7d0d0cdb3afc7bc334feebcc520b6e483297a84cd5c7fab3adaa9", func := "wrackline/wrackkeep1.SpanAlgebra", spec := "spanAlgebra", unfollowed := true, recurses := true, apart := false }
def SpanAlgebraSaid : Prop := spanAlgebraRow.holds Try.pinned (OpenSpec.ofChange spanAlgebraSpec)

/-- ITS FALSE NEIGHBOUR: 'it returns false'. Refute it at one input. -/
def spanAlgebraWrong : ChangeSpec := { name := "spanAlgebra", fn := fun _ => fun
  | [d1, d2, d3] => { results := [.lit (.bool false)], args := [d1, d2, d3] }
  | _ => none }
def SpanAlgebraWrongFalsely : Prop := spanAlgebraRow.holds Try.pinned (OpenSpec.ofChange spanAlgebraWrong)

/-- 'wrackkeep3.WordGrows': WHATEVER THE INPUT: true; the input reads as it did. -/
def wordGrowsSpec : ChangeSpec := { name := "wordGrows", fn := fun _ => fun
  | [d1, d2] => { results := [.lit (.bool true)], args := [d1, d2] }
  | _ => none }
def wordGrowsRow : OpenClaim := { program := "ytnlmdmpfgdiipaa", sum := "441ef058bbf7d0d0cdb3afc7bc334feebcc520b6e483297a84cd5c7fab3adaa9", func := "wrackline/wrackkeep3.WordGrows", spec := "wordGrows", unfollowed := true, recurses := true, apart := false }
def WordGrowsSaid : Prop := wordGrowsRow.holds Try.pinned (OpenSpec.ofChange wordGrowsSpec)

/-- ITS FALSE NEIGHBOUR: 'it returns false'. Refute it at one input. -/
def wordGrowsWrong : ChangeSpec := { name := "wordGrows", fn := fun _ => fun
  | [d1, d2] => { results := [.lit (.bool false)], args := [d1, d2] }
  | _ => none }
def WordGrowsWrongFalsely : Prop := wordGrowsRow.holds Try.pinned (OpenSpec.ofChange wordGrowsWrong)

/-- 'wrackkeep3.NearMerges': WHATEVER THE INPUT: true; the input reads as it did. -/
def nearMergesSpec : ChangeSpec := { name := "nearMerges", fn := fun _ => fun
  | [d1, d2, d3] => { results := [.lit (.bool true)], args := [d1, d2, d3] }
  | _ => none }
def nearMergesRow : OpenClaim := { program := "ytnlmdmpfgdiipaa", sum := "441ef058bbf7d0d0cdb3afc7bc334feebcc520b6e483297a84cd5c7fab3adaa9", func := "wrackline/wrackkeep3.NearMerges", spec := "nearMerges", unfollowed := true, recurses := true, apart := false }
def NearMergesSaid : Prop := nearMergesRow.holds Try.pinned (OpenSpec.ofChange nearMergesSpec)

/-- ITS FALSE NEIGHBOUR: 'it returns false'. Refute it at one input. -/
def nearMergesWrong : ChangeSpec := { name := "nearMerges", fn := fun _ => fun
  | [d1, d2, d3] => { results := [.lit (.bool false)], args := [d1, d2, d3] }
  | _ => none }
def NearMergesWrongFalsely : Prop := nearMergesRow.holds Try.pinned (OpenSpec.ofChange nearMergesWrong)

/-- 'wrackkeep1.ArrayRoads': WHATEVER THE INPUT: true; the input reads as it did. -/
def arrayRoadsSpec : ChangeSpec := { name := "arrayRoads", fn := fun _ => fun
  | [d1, d2, d3, d4, d5, d6] => { results := [.lit (.bool true)], args := [d1, d2, d3, d4, d5, d6] }
  | _ => none }
def arrayRoadsRow : OpenClaim := { program := "ytnlmdmpfgdiipaa", sum := "441ef058bbf7d0d0cdb3afc7bc334feebcc520b6e483297a84cd5c7fab3adaa9", func := "wrackline/wrackkeep1.ArrayRoads", spec := "arrayRoads", unfollowed := true, recurses := true, apart := false }
def ArrayRoadsSaid : Prop := arrayRoadsRow.holds Try.pinned (OpenSpec.ofChange arrayRoadsSpec)

/-- ITS FALSE NEIGHBOUR: 'it returns false'. Refute it at one input. -/
def arrayRoadsWrong : ChangeSpec := { name := "arrayRoads", fn := fun _ => fun
  | [d1, d2, d3, d4, d5, d6] => { results := [.lit (.bool false)], args := [d1, d2, d3, d4, d5, d6] }
  | _ => none }
def ArrayRoadsWrongFalsely : Prop := arrayRoadsRow.holds Try.pinned (OpenSpec.ofChange arrayRoadsWrong)

/- THE SECOND FORM. 'bulk': how many values and letters a reading holds, each counted each time it is reached (what is shared counts as often as it is met; a slice's spare places count too). A statement '..UptoSaid' is the law's where the arguments, and the package variables that the reading takes, are together of bulk at most 1048576: NARROWER than '..Said'. Prove '..Said' where nothing that the law and all that it calls make is longer than what came in: it says more and counts as full. Else prove '..UptoSaid'. A law counts once. -/
mutual
def uptoBulk {H : Type} : DataW H → Nat
  | .lit (.string bytes) => bytes.length + 1
  | .lit _ => 1
  | .nil => 1
  | .ptr d => uptoBulk d + 1
  | .slice elems spare => uptoBulkAll elems + uptoBulkAll spare + 1
  | .agg parts => uptoBulkAll parts + 1
  | .iface _ d => uptoBulk d + 1
  | .map entries => uptoBulkEntries entries + 1
  | .held _ => 1
def uptoBulkAll {H : Type} : List (DataW H) → Nat
  | [] => 0
  | d :: r => uptoBulk d + uptoBulkAll r
def uptoBulkEntries {H : Type} : List (Lit × DataW H) → Nat
  | [] => 0
  | x :: r => uptoBulkEntry x + uptoBulkEntries r
def uptoBulkEntry {H : Type} : Lit × DataW H → Nat
  | (.string bytes, d) => bytes.length + uptoBulk d + 1
  | (_, d) => uptoBulk d + 1
 end
def uptoSmall : (H : Type) → List (DataW H) → Bool := fun _ ds => decide (uptoBulkAll ds ≤ 1048576)
def OpenSpec.upto (s : _root_.Go.ChangeSpec) : _root_.Go.OpenSpec := { _root_.Go.OpenSpec.ofChange s with cond := some uptoSmall }

/-- 'wrackkeep3.GramShown', WHERE WHAT IT READS IS OF BULK AT MOST 1048576: true; the input reads as it did. -/
def gramShownUptoRow : OpenClaim := { program := "ytnlmdmpfgdiipaa", sum := "441ef058bbf7d0d0cdb3afc7bc334feebcc520b6e483297a84cd5c7fab3adaa9", func := "wrackline/wrackkeep3.GramShown", spec := "gramShown", inPlace := ["internal/bytealg.IndexByte", "internal/bytealg.Index"], named := ["internal/bytealg.MaxLen"], apart := false, narrowed := true }
def GramShownUptoSaid : Prop := gramShownUptoRow.holds Try.pinned (OpenSpec.upto gramShownSpec)

/-- 'wrackkeep3.StatBounds', WHERE WHAT IT READS IS OF BULK AT MOST 1048576: true; the input reads as it did. -/
def statBoundsUptoRow : OpenClaim := { program := "ytnlmdmpfgdiipaa", sum := "441ef058bbf7d0d0cdb3afc7bc334feebcc520b6e483297a84cd5c7fab3adaa9", func := "wrackline/wrackkeep3.StatBounds", spec := "statBounds", recurses := true, apart := false, narrowed := true }
def StatBoundsUptoSaid : Prop := statBoundsUptoRow.holds Try.pinned (OpenSpec.upto statBoundsSpec)

/-- 'wrackkeep1.SpanCuts', WHERE WHAT IT READS IS OF BULK AT MOST 1048576: true; the input reads as it did. -/
def spanCutsUptoRow : OpenClaim := { program := "ytnlmdmpfgdiipaa", sum := "441ef058bbf7d0d0cdb3afc7bc334feebcc520b6e483297a84cd5c7fab3adaa9", func := "wrackline/wrackkeep1.SpanCuts", spec := "spanCuts", unfollowed := true, recurses := true, apart := false, narrowed := true }
def SpanCutsUptoSaid : Prop := spanCutsUptoRow.holds Try.pinned (OpenSpec.upto spanCutsSpec)

/-- 'wrackkeep3.NearSelf', WHERE WHAT IT READS IS OF BULK AT MOST 1048576: true; the input reads as it did. -/
def nearSelfUptoRow : OpenClaim := { program := "ytnlmdmpfgdiipaa", sum := "441ef058bbf7d0d0cdb3afc7bc334feebcc520b6e483297a84cd5c7fab3adaa9", func := "wrackline/wrackkeep3.NearSelf", spec := "nearSelf", recurses := true, apart := false, narrowed := true }
def NearSelfUptoSaid : Prop := nearSelfUptoRow.holds Try.pinned (OpenSpec.upto nearSelfSpec)

/-- 'wrackkeep1.SpanAlgebra', WHERE WHAT IT READS IS OF BULK AT MOST 1048576: true; the input reads as it did. -/
def spanAlgebraUptoRow : OpenClaim := { program := "ytnlmdmpfgdiipaa", sum := "441ef058bbf7d0d0cdb3afc7bc334feebcc520b6e483297a84cd5c7fab3adaa9", func := "wrackline/wrackkeep1.SpanAlgebra", spec := "spanAlgebra", unfollowed := true, recurses := true, apart := false, narrowed := true }
def SpanAlgebraUptoSaid : Prop := spanAlgebraUptoRow.holds Try.pinned (OpenSpec.upto spanAlgebraSpec)

/-- 'wrackkeep3.WordGrows', WHERE WHAT IT READS IS OF BULK AT MOST 1048576: true; the input reads as it did. -/
def wordGrowsUptoRow : OpenClaim := { program := "ytnlmdmpfgdiipaa", sum := "441ef058bbf7d0d0cdb3afc7bc334feebcc520b6e483297a84cd5c7fab3adaa9", func := "wrackline/wrackkeep3.WordGrows", spec := "wordGrows", unfollowed := true, recurses := true, apart := false, narrowed := true }
def WordGrowsUptoSaid : Prop := wordGrowsUptoRow.holds Try.pinned (OpenSpec.upto wordGrowsSpec)

/-- 'wrackkeep3.NearMerges', WHERE WHAT IT READS IS OF BULK AT MOST 1048576: true; the input reads as it did. -/
def nearMergesUptoRow : OpenClaim := { program := "ytnlmdmpfgdiipaa", sum := "441ef058bbf7d0d0cdb3afc7bc334feebcc520b6e483297a84cd5c7fab3adaa9", func := "wrackline/wrackkeep3.NearMerges", spec := "nearMerges", unfollowed := true, recurses := true, apart := false, narrowed := true }
def NearMergesUptoSaid : Prop := nearMergesUptoRow.holds Try.pinned (OpenSpec.upto nearMergesSpec)

/-- 'wrackkeep1.ArrayRoads', WHERE WHAT IT READS IS OF BULK AT MOST 1048576: true; the input reads as it did. -/
def arrayRoadsUptoRow : OpenClaim := { program := "ytnlmdmpfgdiipaa", sum := "441ef058bbf7d0d0cdb3afc7bc334feebcc520b6e483297a84cd5c7fab3adaa9", func := "wrackline/wrackkeep1.ArrayRoads", spec := "arrayRoads", unfollowed := true, recurses := true, apart := false, narrowed := true }
def ArrayRoadsUptoSaid : Prop := arrayRoadsUptoRow.holds Try.pinned (OpenSpec.upto arrayRoadsSpec)

end Rows
end Go.Proofs.Ytnlmdmpfgdiipaa
