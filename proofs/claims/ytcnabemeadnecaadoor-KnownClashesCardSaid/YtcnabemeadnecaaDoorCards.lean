/-
  DERIVED. GIVEN WITH THE SEED: THE CARDS: each row of YtcnabemeadnecaaDoorRows.lean that lists a variable, with what it lists TIED to the program's text (the seventh form; the later family's looks); each row that meets fmt, with fmt's text TOLD by the authors' own Lean function (tested against real Go, not proved from fmt's source: count such statements apart). THE CARD IS WHAT COUNTS. Prove the row's statement (the work); the ties are given (YtcnabemeadnecaaDoorTie.lean); close each card by the builder's one call (the guide's Derived/Test/ToyasCard.lean, 'card_holds'). Laid BY PROGRAM, IN A SANDBOX (cutbox-door.mjs). By AI agents, Wed Nov 11 2026. No macro, syntax, notation, axiom, sorry.
-/
import Derived.Test.YtcnabemeadnecaaDoorRows
import GoSem.ClaimSeven
namespace Go.Proofs.YtcnabemeadnecaaDoor
namespace Rows

/-- THE TIED CARD OF 'wrackkeep1.KnownClashes'. -/
def knownClashesCard : Claim7 := { stood := { row := knownClashesRow, standIns := [], harness := (true, "d9b3bce44c1a117c8319aa756de6bc282375c6b0eede249b8c13d01b31f99a54"), looks := false }, kinds := [], alts := [], laidByText := true, laidKinds := [.data, .data, .data, .data, .pinned], laidTests := true, laidLooks := .later }
def KnownClashesCardSaid : Prop := Claim7.holds Tryd.pinned (.plain (OpenSpec.ofChange knownClashesSpec)) knownClashesCard

/-- THE SECOND FORM's CARD OF 'wrackkeep1.KnownClashes'. -/
def knownClashesUptoCard : Claim7 := { stood := { row := knownClashesUptoRow, standIns := [], harness := (true, "d9b3bce44c1a117c8319aa756de6bc282375c6b0eede249b8c13d01b31f99a54"), looks := false }, kinds := [], alts := [], laidByText := true, laidKinds := [.data, .data, .data, .data, .pinned], laidTests := true, laidLooks := .later }
def KnownClashesUptoCardSaid : Prop := Claim7.holds Tryd.pinned (.plain (OpenSpec.upto knownClashesSpec)) knownClashesUptoCard
end Rows
end Go.Proofs.YtcnabemeadnecaaDoor
