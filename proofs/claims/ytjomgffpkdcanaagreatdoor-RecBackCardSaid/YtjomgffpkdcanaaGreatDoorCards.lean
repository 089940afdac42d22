/-
  DERIVED. GIVEN WITH THE SEED: THE CARDS: each row of YtjomgffpkdcanaaGreatDoorRows.lean that lists a variable, with what it lists TIED to the program's text (the seventh form; the later family's looks); each row that meets fmt, with fmt's text TOLD by the authors' own Lean function (tested against real Go, not proved from fmt's source: count such statements apart). THE CARD IS WHAT COUNTS. Prove the row's statement (the work); the ties are given (YtjomgffpkdcanaaGreatDoorTie.lean); close each card by the builder's one call (the guide's Derived/Test/ToyasCard.lean, 'card_holds'). Laid BY PROGRAM, IN A SANDBOX (cutbox-door.mjs). By AI agents, Wed Nov 11 2026. No macro, syntax, notation, axiom, sorry.
-/
import Derived.Test.YtjomgffpkdcanaaGreatDoorRows
import GoSem.ClaimSeven
namespace Go.Proofs.YtjomgffpkdcanaaGreatDoor
namespace Rows

/-- THE TIED CARD OF 'pendulumlaw13.RecBack'. -/
def recBackCard : Claim7 := { stood := { row := recBackRow, standIns := [], harness := (true, "e530647aebc9833357946fb317b51082be3eee2f35d54cc6323504194419c958"), looks := false }, kinds := [], alts := [], laidByText := true, laidKinds := [.data, .pinned], laidTests := true, laidLooks := .later }
def RecBackCardSaid : Prop := Claim7.holds Tryz.pinned (.plain (OpenSpec.ofChange recBackSpec)) recBackCard

/-- THE SECOND FORM's CARD OF 'pendulumlaw13.RecBack'. -/
def recBackUptoCard : Claim7 := { stood := { row := recBackUptoRow, standIns := [], harness := (true, "e530647aebc9833357946fb317b51082be3eee2f35d54cc6323504194419c958"), looks := false }, kinds := [], alts := [], laidByText := true, laidKinds := [.data, .pinned], laidTests := true, laidLooks := .later }
def RecBackUptoCardSaid : Prop := Claim7.holds Tryz.pinned (.plain (OpenSpec.upto recBackSpec)) recBackUptoCard
end Rows
end Go.Proofs.YtjomgffpkdcanaaGreatDoor
