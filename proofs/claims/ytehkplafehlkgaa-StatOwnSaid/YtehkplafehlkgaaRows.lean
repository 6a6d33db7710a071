/-
  No cell of these rows narrows 'for every input' (looked for: loops, veiled, ifaces, maps, wideKeys, modest, calm, conditions, laid).
  DERIVED. THE GIVEN ROWS OF THIS SEAT. 12 by the template 'for every input the law returns true; each argument reads behind the call as it read before'; 0 by the template 'total and deterministic' (their statements: YtehkplafehlkgaaTotals.lean).
  GIVEN WITH THE SEED: the statements are not yours to turn. If you find one false, say at which input.
  Laid BY PROGRAM, IN A SANDBOX (cutbox-rows.mjs): the forced cells as the released guide's own fill.sh prints them over the translation feec2155fb9e1eaa… (all of the seat's roots in one cut). By AI agents, Wed Nov 11 2026. No macro, syntax, notation, axiom, sorry.
-/
import Derived.Test.YtehkplafehlkgaaChecked
import GoSem.Claim
import GoSem.ClaimJoined
import GoSem.ClaimMapViews
import Derived.JoinedTies
import Derived.KernelRfl
namespace Go.Proofs.Ytehkplafehlkgaa
/- THE CELL 'sum', in the pinned program and in every row, IS THE sha256 OF THE DUMP (.gsa) THAT YtehkplafehlkgaaProg.lean LOADS. Nothing in Lean hashes anything: it is a label: what it is worth is what the hold of that sum in a sandbox is worth. -/
noncomputable def Try.pinned : Pinned := { name := "ytehkplafehlkgaa", sum := "feec2155fb9e1eaa6bc220b49ff43554cd138f7e9d073da937028d22544b793f", checked := Try.checked }
namespace Rows
def none {H : Type} : Left H := { results := [], args := [] }

/-- 'wrackkeep1.SumChanges': WHATEVER THE INPUT: true; the input reads as it did. -/
def sumChangesSpec : ChangeSpec := { name := "sumChanges", fn := fun _ => fun
  | [d1, d2, d3, d4] => { results := [.lit (.bool true)], args := [d1, d2, d3, d4] }
  | _ => none }
def sumChangesRow : OpenClaim := { program := "ytehkplafehlkgaa", sum := "feec2155fb9e1eaa6bc220b49ff43554cd138f7e9d073da937028d22544b793f", func := "wrackline/wrackkeep1.SumChanges", spec := "sumChanges", apart := false }
def SumChangesSaid : Prop := sumChangesRow.holds Try.pinned (OpenSpec.ofChange sumChangesSpec)

/-- ITS FALSE NEIGHBOUR: 'it returns false'. Refute it at one input. -/
def sumChangesWrong : ChangeSpec := { name := "sumChanges", fn := fun _ => fun
  | [d1, d2, d3, d4] => { results := [.lit (.bool false)], args := [d1, d2, d3, d4] }
  | _ => none }
def SumChangesWrongFalsely : Prop := sumChangesRow.holds Try.pinned (OpenSpec.ofChange sumChangesWrong)

/-- 'wrackkeep3.StatProducts': WHATEVER THE INPUT: true; the input reads as it did. -/
def statProductsSpec : ChangeSpec := { name := "statProducts", fn := fun _ => fun
  | [d1, d2] => { results := [.lit (.bool true)], args := [d1, d2] }
  | _ => none }
def statProductsRow : OpenClaim := { program := "ytehkplafehlkgaa", sum := "feec2155fb9e1eaa6bc220b49ff43554cd138f7e9d073da937028d22544b793f", func := "wrackline/wrackkeep3.StatProducts", spec := "statProducts", apart := false }
def StatProductsSaid : Prop := statProductsRow.holds Try.pinned (OpenSpec.ofChange statProductsSpec)

/-- ITS FALSE NEIGHBOUR: 'it returns false'. Refute it at one input. -/
def statProductsWrong : ChangeSpec := { name := "statProducts", fn := fun _ => fun
  | [d1, d2] => { results := [.lit (.bool false)], args := [d1, d2] }
  | _ => none }
def StatProductsWrongFalsely : Prop := statProductsRow.holds Try.pinned (OpenSpec.ofChange statProductsWrong)

/-- 'wrackkeep3.GramParts': WHATEVER THE INPUT: true; the input reads as it did. -/
def gramPartsSpec : ChangeSpec := { name := "gramParts", fn := fun _ => fun
  | [d1, d2, d3] => { results := [.lit (.bool true)], args := [d1, d2, d3] }
  | _ => none }
def gramPartsRow : OpenClaim := { program := "ytehkplafehlkgaa", sum := "feec2155fb9e1eaa6bc220b49ff43554cd138f7e9d073da937028d22544b793f", func := "wrackline/wrackkeep3.GramParts", spec := "gramParts", apart := false }
def GramPartsSaid : Prop := gramPartsRow.holds Try.pinned (OpenSpec.ofChange gramPartsSpec)

/-- ITS FALSE NEIGHBOUR: 'it returns false'. Refute it at one input. -/
def gramPartsWrong : ChangeSpec := { name := "gramParts", fn := fun _ => fun
  | [d1, d2, d3] => { results := [.lit (.bool false)], args := [d1, d2, d3] }
  | _ => none }
def GramPartsWrongFalsely : Prop := gramPartsRow.holds Try.pinned (OpenSpec.ofChange gramPartsWrong)

/-- 'wrackkeep1.DriveTries': WHATEVER THE INPUT: true; the input reads as it did. -/
def driveTriesSpec : ChangeSpec := { name := "driveTries", fn := fun _ => fun
  | [d1, d2, d3] => { results := [.lit (.bool true)], args := [d1, d2, d3] }
  | _ => none }
def driveTriesRow : OpenClaim := { program := "ytehkplafehlkgaa", sum := "feec2155fb9e1eaa6bc220b49ff43554cd138f7e9d073da937028d22544b793f", func := "wrackline/wrackkeep1.DriveTries", spec := "driveTries", unfollowed := true, recurses := true, apart := false }
def DriveTriesSaid : Prop := driveTriesRow.holds Try.pinned (OpenSpec.ofChange driveTriesSpec)

/-- ITS FALSE NEIGHBOUR: 'it returns false'. Refute it at one input. -/
def driveTriesWrong : ChangeSpec := { name := "driveTries", fn := fun _ => fun
  | [d1, d2, d3] => { results := [.lit (.bool false)], args := [d1, d2, d3] }
  | _ => none }
def DriveTriesWrongFalsely : Prop := driveTriesRow.holds Try.pinned (OpenSpec.ofChange driveTriesWrong)

/-- 'wrackkeep1.SumProofs': WHATEVER THE INPUT: true; the input reads as it did. -/
def sumProofsSpec : ChangeSpec := { name := "sumProofs", fn := fun _ => fun
  | [d1, d2, d3] => { results := [.lit (.bool true)], args := [d1, d2, d3] }
  | _ => none }
def sumProofsRow : OpenClaim := { program := "ytehkplafehlkgaa", sum := "feec2155fb9e1eaa6bc220b49ff43554cd138f7e9d073da937028d22544b793f", func := "wrackline/wrackkeep1.SumProofs", spec := "sumProofs", apart := false }
def SumProofsSaid : Prop := sumProofsRow.holds Try.pinned (OpenSpec.ofChange sumProofsSpec)

/-- ITS FALSE NEIGHBOUR: 'it returns false'. Refute it at one input. -/
def sumProofsWrong : ChangeSpec := { name := "sumProofs", fn := fun _ => fun
  | [d1, d2, d3] => { results := [.lit (.bool false)], args := [d1, d2, d3] }
  | _ => none }
def SumProofsWrongFalsely : Prop := sumProofsRow.holds Try.pinned (OpenSpec.ofChange sumProofsWrong)

/-- 'wrackkeep3.PieceJoined': WHATEVER THE INPUT: true; the input reads as it did. -/
def pieceJoinedSpec : ChangeSpec := { name := "pieceJoined", fn := fun _ => fun
  | [d1, d2] => { results := [.lit (.bool true)], args := [d1, d2] }
  | _ => none }
def pieceJoinedRow : OpenClaim := { program := "ytehkplafehlkgaa", sum := "feec2155fb9e1eaa6bc220b49ff43554cd138f7e9d073da937028d22544b793f", func := "wrackline/wrackkeep3.PieceJoined", spec := "pieceJoined", apart := false }
def PieceJoinedSaid : Prop := pieceJoinedRow.holds Try.pinned (OpenSpec.ofChange pieceJoinedSpec)

/-- ITS FALSE NEIGHBOUR: 'it returns false'. Refute it at one input. -/
def pieceJoinedWrong : ChangeSpec := { name := "pieceJoined", fn := fun _ => fun
  | [d1, d2] => { results := [.lit (.bool false)], args := [d1, d2] }
  | _ => none }
def PieceJoinedWrongFalsely : Prop := pieceJoinedRow.holds Try.pinned (OpenSpec.ofChange pieceJoinedWrong)

/-- 'wrackkeep3.PieceAbove': WHATEVER THE INPUT: true; the input reads as it did. -/
def pieceAboveSpec : ChangeSpec := { name := "pieceAbove", fn := fun _ => fun
  | [d1, d2] => { results := [.lit (.bool true)], args := [d1, d2] }
  | _ => none }
def pieceAboveRow : OpenClaim := { program := "ytehkplafehlkgaa", sum := "feec2155fb9e1eaa6bc220b49ff43554cd138f7e9d073da937028d22544b793f", func := "wrackline/wrackkeep3.PieceAbove", spec := "pieceAbove", apart := false }
def PieceAboveSaid : Prop := pieceAboveRow.holds Try.pinned (OpenSpec.ofChange pieceAboveSpec)

/-- ITS FALSE NEIGHBOUR: 'it returns false'. Refute it at one input. -/
def pieceAboveWrong : ChangeSpec := { name := "pieceAbove", fn := fun _ => fun
  | [d1, d2] => { results := [.lit (.bool false)], args := [d1, d2] }
  | _ => none }
def PieceAboveWrongFalsely : Prop := pieceAboveRow.holds Try.pinned (OpenSpec.ofChange pieceAboveWrong)

/-- 'wrackkeep3.PieceLess': WHATEVER THE INPUT: true; the input reads as it did. -/
def pieceLessSpec : ChangeSpec := { name := "pieceLess", fn := fun _ => fun
  | [d1, d2] => { results := [.lit (.bool true)], args := [d1, d2] }
  | _ => none }
def pieceLessRow : OpenClaim := { program := "ytehkplafehlkgaa", sum := "feec2155fb9e1eaa6bc220b49ff43554cd138f7e9d073da937028d22544b793f", func := "wrackline/wrackkeep3.PieceLess", spec := "pieceLess", apart := false }
def PieceLessSaid : Prop := pieceLessRow.holds Try.pinned (OpenSpec.ofChange pieceLessSpec)

/-- ITS FALSE NEIGHBOUR: 'it returns false'. Refute it at one input. -/
def pieceLessWrong : ChangeSpec := { name := "pieceLess", fn := fun _ => fun
  | [d1, d2] => { results := [.lit (.bool false)], args := [d1, d2] }
  | _ => none }
def PieceLessWrongFalsely : Prop := pieceLessRow.holds Try.pinned (OpenSpec.ofChange pieceLessWrong)

/-- 'wrackkeep1.PassReads': WHATEVER THE INPUT: true; the input reads as it did. -/
def passReadsSpec : ChangeSpec := { name := "passReads", fn := fun _ => fun
  | [d1, d2, d3] => { results := [.lit (.bool true)], args := [d1, d2, d3] }
  | _ => none }
def passReadsRow : OpenClaim := { program := "ytehkplafehlkgaa", sum := "feec2155fb9e1eaa6bc220b49ff43554cd138f7e9d073da937028d22544b793f", func := "wrackline/wrackkeep1.PassReads", spec := "passReads", unfollowed := true, recurses := true, apart := false }
def PassReadsSaid : Prop := passReadsRow.holds Try.pinned (OpenSpec.ofChange passReadsSpec)

/-- ITS FALSE NEIGHBOUR: 'it returns false'. Refute it at one input. -/
def passReadsWrong : ChangeSpec := { name := "passReads", fn := fun _ => fun
  | [d1, d2, d3] => { results := [.lit (.bool false)], args := [d1, d2, d3] }
  | _ => none }
def PassReadsWrongFalsely : Prop := passReadsRow.holds Try.pinned (OpenSpec.ofChange passReadsWrong)

/-- 'wrackkeep1.PassPlans': WHATEVER THE INPUT: true; the input reads as it did. -/
def passPlansSpec : ChangeSpec := { name := "passPlans", fn := fun _ => fun
  | [d1, d2, d3, d4, d5] => { results := [.lit (.bool true)], args := [d1, d2, d3, d4, d5] }
  | _ => none }
def passPlansRow : OpenClaim := { program := "ytehkplafehlkgaa", sum := "feec2155fb9e1eaa6bc220b49ff43554cd138f7e9d073da937028d22544b793f", func := "wrackline/wrackkeep1.PassPlans", spec := "passPlans", unfollowed := true, recurses := true, apart := false }
def PassPlansSaid : Prop := passPlansRow.holds Try.pinned (OpenSpec.ofChange passPlansSpec)

/-- ITS FALSE NEIGHBOUR: 'it returns false'. Refute it at one input. -/
def passPlansWrong : ChangeSpec := { name := "passPlans", fn := fun _ => fun
  | [d1, d2, d3, d4, d5] => { results := [.lit (.bool false)], args := [d1, d2, d3, d4, d5] }
  | _ => none }
def PassPlansWrongFalsely : Prop := passPlansRow.holds Try.pinned (OpenSpec.ofChange passPlansWrong)

/-- 'wrackkeep3.WordChain': WHATEVER THE INPUT: true; the input reads as it did. -/
def wordChainSpec : ChangeSpec := { name := "wordChain", fn := fun _ => fun
  | [d1, d2] => { results := [.lit (.bool true)], args := [d1, d2] }
  | _ => none }
def wordChainRow : OpenClaim := { program := "ytehkplafehlkgaa", sum := "feec2155fb9e1eaa6bc220b49ff43554cd138f7e9d073da937028d22544b793f", func := "wrackline/wrackkeep3.WordChain", spec := "wordChain", unfollowed := true, recurses := true, apart := false }
def WordChainSaid : Prop := wordChainRow.holds Try.pinned (OpenSpec.ofChange wordChainSpec)

/-- ITS FALSE NEIGHBOUR: 'it returns false'. Refute it at one input. -/
def wordChainWrong : ChangeSpec := { name := "wordChain", fn := fun _ => fun
  | [d1, d2] => { results := [.lit (.bool false)], args := [d1, d2] }
  | _ => none }
def WordChainWrongFalsely : Prop := wordChainRow.holds Try.pinned (OpenSpec.ofChange wordChainWrong)

/-- 'wrackkeep3.StatOwn': WHATEVER THE INPUT: true; the input reads as it did. -/
def statOwnSpec : ChangeSpec := { name := "statOwn", fn := fun _ => fun
  | [d1, d2] => { results := [.lit (.bool true)], args := [d1, d2] }
  | _ => none }
def statOwnRow : OpenClaim := { program := "ytehkplafehlkgaa", sum := "feec2155fb9e1eaa6bc220b49ff43554cd138f7e9d073da937028d22544b793f", func := "wrackline/wrackkeep3.StatOwn", spec := "statOwn", unfollowed := true, recurses := true, apart := false }
def StatOwnSaid : Prop := statOwnRow.holds Try.pinned (OpenSpec.ofChange statOwnSpec)

/-- ITS FALSE NEIGHBOUR: 'it returns false'. Refute it at one input. -/
def statOwnWrong : ChangeSpec := { name := "statOwn", fn := fun _ => fun
  | [d1, d2] => { results := [.lit (.bool false)], args := [d1, d2] }
  | _ => none }
def StatOwnWrongFalsely : Prop := statOwnRow.holds Try.pinned (OpenSpec.ofChange statOwnWrong)

/- THE SECOND FORM. 'bulk': how many values and letters a reading holds, each counted each time it is reached (what is shared counts as often as it is met; a slice's spare places count too). A statement '..UptoSaid' is the law's where the arguments, and the package variables that the reading takes, are together of bulk at most 1048576: NARROWER than '..Said'. Prove '..Said' where nothing that the law and all that it calls make is longer than what came in: it says more and counts as full. Else prove '..UptoSaid'. A law counts once. -/
mutual
def uptoBulk {H : Type} : DataW H → Nat
  | .lit (.string bytes) => bytes.length + 1
  | .lit _ => 1
  | .nil => 1
  | .ptr d => uptoBulk d + 1
  | .slice elems spare => uptoBulkAll elems + uptoBulkAll spare + 1
  | .agg parts => uptoBulkAll parts + 1
  | .iface _ d => uptoBulk d + 1
  | .map entries => uptoBulkEntries entries + 1
  | .held _ => 1
def uptoBulkAll {H : Type} : List (DataW H) → Nat
  | [] => 0
  | d :: r => uptoBulk d + uptoBulkAll r
def uptoBulkEntries {H : Type} : List (Lit × DataW H) → Nat
  | [] => 0
  | x :: r => uptoBulkEntry x + uptoBulkEntries r
def uptoBulkEntry {H : Type} : Lit × DataW H → Nat
  | (.string bytes, d) => bytes.length + uptoBulk d + 1
  | (_, d) => uptoBulk d + 1
 end
def uptoSmall : (H : Type) → List (DataW H) → Bool := fun _ ds => decide (uptoBulkAll ds ≤ 1048576)
def OpenSpec.upto (s : _root_.Go.ChangeSpec) : _root_.Go.OpenSpec := { _root_.Go.OpenSpec.ofChange s with cond := some uptoSmall }

/-- 'wrackkeep1.SumChanges', WHERE WHAT IT READS IS OF BULK AT MOST 1048576: true; the input reads as it did. -/
def sumChangesUptoRow : OpenClaim := { program := "ytehkplafehlkgaa", sum := "feec2155fb9e1eaa6bc220b49ff43554cd138f7e9d073da937028d22544b793f", func := "wrackline/wrackkeep1.SumChanges", spec := "sumChanges", apart := false, narrowed := true }
def SumChangesUptoSaid : Prop := sumChangesUptoRow.holds Try.pinned (OpenSpec.upto sumChangesSpec)

/-- 'wrackkeep3.StatProducts', WHERE WHAT IT READS IS OF BULK AT MOST 1048576: true; the input reads as it did. -/
def statProductsUptoRow : OpenClaim := { program := "ytehkplafehlkgaa", sum := "feec2155fb9e1eaa6bc220b49ff43554cd138f7e9d073da937028d22544b793f", func := "wrackline/wrackkeep3.StatProducts", spec := "statProducts", apart := false, narrowed := true }
def StatProductsUptoSaid : Prop := statProductsUptoRow.holds Try.pinned (OpenSpec.upto statProductsSpec)

/-- 'wrackkeep3.GramParts', WHERE WHAT IT READS IS OF BULK AT MOST 1048576: true; the input reads as it did. -/
def gramPartsUptoRow : OpenClaim := { program := "ytehkplafehlkgaa", sum := "feec2155fb9e1eaa6bc220b49ff43554cd138f7e9d073da937028d22544b793f", func := "wrackline/wrackkeep3.GramParts", spec := "gramParts", apart := false, narrowed := true }
def GramPartsUptoSaid : Prop := gramPartsUptoRow.holds Try.pinned (OpenSpec.upto gramPartsSpec)

/-- 'wrackkeep1.DriveTries', WHERE WHAT IT READS IS OF BULK AT MOST 1048576: true; the input reads as it did. -/
def driveTriesUptoRow : OpenClaim := { program := "ytehkplafehlkgaa", sum := "feec2155fb9e1eaa6bc220b49ff43554cd138f7e9d073da937028d22544b793f", func := "wrackline/wrackkeep1.DriveTries", spec := "driveTries", unfollowed := true, recurses := true, apart := false, narrowed := true }
def DriveTriesUptoSaid : Prop := driveTriesUptoRow.holds Try.pinned (OpenSpec.upto driveTriesSpec)

/-- 'wrackkeep1.SumProofs', WHERE WHAT IT READS IS OF BULK AT MOST 1048576: true; the input reads as it did. -/
def sumProofsUptoRow : OpenClaim := { program := "ytehkplafehlkgaa", sum := "feec2155fb9e1eaa6bc220b49ff43554cd138f7e9d073da937028d22544b793f", func := "wrackline/wrackkeep1.SumProofs", spec := "sumProofs", apart := false, narrowed := true }
def SumProofsUptoSaid : Prop := sumProofsUptoRow.holds Try.pinned (OpenSpec.upto sumProofsSpec)

/-- 'wrackkeep3.PieceJoined', WHERE WHAT IT READS IS OF BULK AT MOST 1048576: true; the input reads as it did. -/
def pieceJoinedUptoRow : OpenClaim := { program := "ytehkplafehlkgaa", sum := "feec2155fb9e1eaa6bc220b49ff43554cd138f7e9d073da937028d22544b793f", func := "wrackline/wrackkeep3.PieceJoined", spec := "pieceJoined", apart := false, narrowed := true }
def PieceJoinedUptoSaid : Prop := pieceJoinedUptoRow.holds Try.pinned (OpenSpec.upto pieceJoinedSpec)

/-- 'wrackkeep3.PieceAbove', WHERE WHAT IT READS IS OF BULK AT MOST 1048576: true; the input reads as it did. -/
def pieceAboveUptoRow : OpenClaim := { program := "ytehkplafehlkgaa", sum := "feec2155fb9e1eaa6bc220b49ff43554cd138f7e9d073da937028d22544b793f", func := "wrackline/wrackkeep3.PieceAbove", spec := "pieceAbove", apart := false, narrowed := true }
def PieceAboveUptoSaid : Prop := pieceAboveUptoRow.holds Try.pinned (OpenSpec.upto pieceAboveSpec)

/-- 'wrackkeep3.PieceLess', WHERE WHAT IT READS IS OF BULK AT MOST 1048576: true; the input reads as it did. -/
def pieceLessUptoRow : OpenClaim := { program := "ytehkplafehlkgaa", sum := "feec2155fb9e1eaa6bc220b49ff43554cd138f7e9d073da937028d22544b793f", func := "wrackline/wrackkeep3.PieceLess", spec := "pieceLess", apart := false, narrowed := true }
def PieceLessUptoSaid : Prop := pieceLessUptoRow.holds Try.pinned (OpenSpec.upto pieceLessSpec)

/-- 'wrackkeep1.PassReads', WHERE WHAT IT READS IS OF BULK AT MOST 1048576: true; the input reads as it did. -/
def passReadsUptoRow : OpenClaim := { program := "ytehkplafehlkgaa", sum := "feec2155fb9e1eaa6bc220b49ff43554cd138f7e9d073da937028d22544b793f", func := "wrackline/wrackkeep1.PassReads", spec := "passReads", unfollowed := true, recurses := true, apart := false, narrowed := true }
def PassReadsUptoSaid : Prop := passReadsUptoRow.holds Try.pinned (OpenSpec.upto passReadsSpec)

/-- 'wrackkeep1.PassPlans', WHERE WHAT IT READS IS OF BULK AT MOST 1048576: true; the input reads as it did. -/
def passPlansUptoRow : OpenClaim := { program := "ytehkplafehlkgaa", sum := "feec2155fb9e1eaa6bc220b49ff43554cd138f7e9d073da937028d22544b793f", func := "wrackline/wrackkeep1.PassPlans", spec := "passPlans", unfollowed := true, recurses := true, apart := false, narrowed := true }
def PassPlansUptoSaid : Prop := passPlansUptoRow.holds Try.pinned (OpenSpec.upto passPlansSpec)

/-- 'wrackkeep3.WordChain', WHERE WHAT IT READS IS OF BULK AT MOST 1048576: true; the input reads as it did. -/
def wordChainUptoRow : OpenClaim := { program := "ytehkplafehlkgaa", sum := "feec2155fb9e1eaa6bc220b49ff43554cd138f7e9d073da937028d22544b793f", func := "wrackline/wrackkeep3.WordChain", spec := "wordChain", unfollowed := true, recurses := true, apart := false, narrowed := true }
def WordChainUptoSaid : Prop := wordChainUptoRow.holds Try.pinned (OpenSpec.upto wordChainSpec)

/-- 'wrackkeep3.StatOwn', WHERE WHAT IT READS IS OF BULK AT MOST 1048576: true; the input reads as it did. -/
def statOwnUptoRow : OpenClaim := { program := "ytehkplafehlkgaa", sum := "feec2155fb9e1eaa6bc220b49ff43554cd138f7e9d073da937028d22544b793f", func := "wrackline/wrackkeep3.StatOwn", spec := "statOwn", unfollowed := true, recurses := true, apart := false, narrowed := true }
def StatOwnUptoSaid : Prop := statOwnUptoRow.holds Try.pinned (OpenSpec.upto statOwnSpec)

end Rows
end Go.Proofs.Ytehkplafehlkgaa
