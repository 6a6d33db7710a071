/-
  No cell of these rows narrows 'for every input' (looked for: loops, veiled, ifaces, maps, wideKeys, modest, calm, conditions, laid).
  DERIVED. THE GIVEN ROWS OF THIS SEAT. 3 by the template 'for every input the law returns true; each argument reads behind the call as it read before'; 0 by the template 'total and deterministic' (their statements: YtcnabemeadnecaaTotals.lean).
  GIVEN WITH THE SEED: the statements are not yours to turn. If you find one false, say at which input.
  Laid BY PROGRAM, IN A SANDBOX (cutbox-rows.mjs): the forced cells as the released guide's own fill.sh prints them over the translation d6e7d9b580084bab… (all of the seat's roots in one cut). By AI agents, Wed Nov 11 2026. No macro, syntax, notation, axiom, sorry.
-/
import Derived.Test.YtcnabemeadnecaaChecked
import GoSem.Claim
import GoSem.ClaimJoined
import GoSem.ClaimMapViews
import Derived.JoinedTies
import Derived.KernelRfl
namespace Go.Proofs.Ytcnabemeadnecaa
/- THE CELL 'sum', in the pinned program and in every row, IS THE sha256 OF THE DUMP (.gsa) THAT YtcnabemeadnecaaProg.lean LOADS. Nothing in Lean hashes anything: it is a label: what it is worth is what the hold of that sum in a sandbox is worth. -/
noncomputable def Try.pinned : Pinned := { name := "ytcnabemeadnecaa", sum := "d6e7d9b580084bab9a8bac4c3f5538bb4feec4e44339eaad7146770a91b93958", checked := Try.checked }
namespace Rows
def none {H : Type} : Left H := { results := [], args := [] }

/-- 'wrackkeep1.DriveTries': WHATEVER THE INPUT: true; the input reads as it did. -/
def driveTriesSpec : ChangeSpec := { name := "driveTries", fn := fun _ => fun
  | [d1, d2, d3] => { results := [.lit (.bool true)], args := [d1, d2, d3] }
  | _ => none }
def driveTriesRow : OpenClaim := { program := "ytcnabemeadnecaa", sum := "d6e7d9b580084bab9a8bac4c3f5538bb4feec4e44339eaad7146770a91b93958", func := "wrackline/wrackkeep1.DriveTries", spec := "driveTries", unfollowed := true, recurses := true, apart := false }
def DriveTriesSaid : Prop := driveTriesRow.holds Try.pinned (OpenSpec.ofChange driveTriesSpec)

/-- ITS FALSE NEIGHBOUR: 'it returns false'. Refute it at one input. -/
def driveTriesWrong : ChangeSpec := { name := "driveTries", fn := fun _ => fun
  | [d1, d2, d3] => { results := [.lit (.bool false)], args := [d1, d2, d3] }
  | _ => none }
def DriveTriesWrongFalsely : Prop := driveTriesRow.holds Try.pinned (OpenSpec.ofChange driveTriesWrong)

/-- 'wrackkeep1.PassReads': WHATEVER THE INPUT: true; the input reads as it did. -/
def passReadsSpec : ChangeSpec := { name := "passReads", fn := fun _ => fun
  | [d1, d2, d3] => { results := [.lit (.bool true)], args := [d1, d2, d3] }
  | _ => none }
def passReadsRow : OpenClaim := { program := "ytcnabemeadnecaa", sum := "d6e7d9b580084bab9a8bac4c3f5538bb4feec4e44339eaad7146770a91b93958", func := "wrackline/wrackkeep1.PassReads", spec := "passReads", unfollowed := true, recurses := true, apart := false }
def PassReadsSaid : Prop := passReadsRow.holds Try.pinned (OpenSpec.ofChange passReadsSpec)

/-- ITS FALSE NEIGHBOUR: 'it returns false'. Refute it at one input. -/
def passReadsWrong : ChangeSpec := { name := "passReads", fn := fun _ => fun
  | [d1, d2, d3] => { results := [.lit (.bool false)], args := [d1, d2, d3] }
  | _ => none }
def PassReadsWrongFalsely : Prop := passReadsRow.holds Try.pinned (OpenSpec.ofChange passReadsWrong)

/-- 'wrackkeep1.PassPlans': WHATEVER THE INPUT: true; the input reads as it did. -/
def passPlansSpec : ChangeSpec := { name := "passPlans", fn := fun _ => fun
  | [d1, d2, d3, d4, d5] => { results := [.lit (.bool true)], args := [d1, d2, d3, d4, d5] }
  | _ => none }
def passPlansRow : OpenClaim := { program := "ytcnabemeadnecaa", sum := "d6e7d9b580084bab9a8bac4c3f5538bb4feec4e44339eaad7146770a91b93958", func := "wrackline/wrackkeep1.PassPlans", spec := "passPlans", unfollowed := true, recurses := true, apart := false }
def PassPlansSaid : Prop := passPlansRow.holds Try.pinned (OpenSpec.ofChange passPlansSpec)

/-- ITS FALSE NEIGHBOUR: 'it returns false'. Refute it at one input. -/
def passPlansWrong : ChangeSpec := { name := "passPlans", fn := fun _ => fun
  | [d1, d2, d3, d4, d5] => { results := [.lit (.bool false)], args := [d1, d2, d3, d4, d5] }
  | _ => none }
def PassPlansWrongFalsely : Prop := passPlansRow.holds Try.pinned (OpenSpec.ofChange passPlansWrong)

/- THE SECOND FORM. 'bulk': how many values and letters a reading holds, each counted each time it is reached (what is shared counts as often as it is met; a slice's spare places count too). A statement '..UptoSaid' is the law's where the arguments, and the package variables that the reading takes, are together of bulk at most 1048576: NARROWER than '..Said'. Prove '..Said' where nothing that the law and all that it calls make is longer than what came in: it says more and counts as full. Else prove '..UptoSaid'. A law counts once. -/
mutual
def uptoBulk {H : Type} : DataW H → Nat
  | .lit (.string bytes) => bytes.length + 1
  | .lit _ => 1
  | .nil => 1
  | .ptr d => uptoBulk d + 1
  | .slice elems spare => uptoBulkAll elems + uptoBulkAll spare + 1
  | .agg parts => uptoBulkAll parts + 1
  | .iface _ d => uptoBulk d + 1
  | .map entries => uptoBulkEntries entries + 1
  | .held _ => 1
def uptoBulkAll {H : Type} : List (DataW H) → Nat
  | [] => 0
  | d :: r => uptoBulk d + uptoBulkAll r
def uptoBulkEntries {H : Type} : List (Lit × DataW H) → Nat
  | [] => 0
  | x :: r => uptoBulkEntry x + uptoBulkEntries r
def uptoBulkEntry {H : Type} : Lit × DataW H → Nat
  | (.string bytes, d) => bytes.length + uptoBulk d + 1
  | (_, d) => uptoBulk d + 1
 end
def uptoSmall : (H : Type) → List (DataW H) → Bool := fun _ ds => decide (uptoBulkAll ds ≤ 1048576)
def OpenSpec.upto (s : _root_.Go.ChangeSpec) : _root_.Go.OpenSpec := { _root_.Go.OpenSpec.ofChange s with cond := some uptoSmall }

/-- 'wrackkeep1.DriveTries', WHERE WHAT IT READS IS OF BULK AT MOST 1048576: true; the input reads as it did. -/
def driveTriesUptoRow : OpenClaim := { program := "ytcnabemeadnecaa", sum := "d6e7d9b580084bab9a8bac4c3f5538bb4feec4e44339eaad7146770a91b93958", func := "wrackline/wrackkeep1.DriveTries", spec := "driveTries", unfollowed := true, recurses := true, apart := false, narrowed := true }
def DriveTriesUptoSaid : Prop := driveTriesUptoRow.holds Try.pinned (OpenSpec.upto driveTriesSpec)

/-- 'wrackkeep1.PassReads', WHERE WHAT IT READS IS OF BULK AT MOST 1048576: true; the input reads as it did. -/
def passReadsUptoRow : OpenClaim := { program := "ytcnabemeadnecaa", sum := "d6e7d9b580084bab9a8bac4c3f5538bb4feec4e44339eaad7146770a91b93958", func := "wrackline/wrackkeep1.PassReads", spec := "passReads", unfollowed := true, recurses := true, apart := false, narrowed := true }
def PassReadsUptoSaid : Prop := passReadsUptoRow.holds Try.pinned (OpenSpec.upto passReadsSpec)

/-- 'wrackkeep1.PassPlans', WHERE WHAT IT READS IS OF BULK AT MOST 1048576: true; the input reads as it did. -/
def passPlansUptoRow : OpenClaim := { program := "ytcnabemeadnecaa", sum := "d6e7d9b580084bab9a8bac4c3f5538bb4feec4e44339eaad7146770a91b93958", func := "wrackline/wrackkeep1.PassPlans", spec := "passPlans", unfollowed := true, recurses := true, apart := false, narrowed := true }
def PassPlansUptoSaid : Prop := passPlansUptoRow.holds Try.pinned (OpenSpec.upto passPlansSpec)

end Rows
end Go.Proofs.Ytcnabemeadnecaa
