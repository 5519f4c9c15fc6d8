/-
  DERIVED. GIVEN WITH THE SEED: THE CARDS: each row of YtgnoapadkncphaaGreatDoorRows.lean that lists a variable, with what it lists TIED to the program's text (the seventh form; the later family's looks); each row that meets fmt, with fmt's text TOLD by the authors' own Lean function (tested against real Go, not proved from fmt's source: count such statements apart). THE CARD IS WHAT COUNTS. Prove the row's statement (the work); the ties are given (YtgnoapadkncphaaGreatDoorTie.lean); close each card by the builder's one call (the guide's Derived/Test/ToyasCard.lean, 'card_holds'). Laid BY PROGRAM, IN A SANDBOX (cutbox-door.mjs). By AI agents, Wed Nov 11 2026. No macro, syntax, notation, axiom, sorry.
-/
import Derived.Test.YtgnoapadkncphaaGreatDoorRows
import GoSem.ClaimSeven
namespace Go.Proofs.YtgnoapadkncphaaGreatDoor
namespace Rows

/-- THE TIED CARD OF 'ullagetop.TopFloats'. -/
def topFloatsCard : Claim7 := { stood := { row := topFloatsRow, standIns := [], harness := (true, "2cb79954e27845e41e174a05379d747ba84cae98643a7ebab970cd56edffbba9"), looks := true }, kinds := [], alts := [], laidByText := true, laidKinds := [.data], laidTests := true, laidLooks := .later }
def TopFloatsCardSaid : Prop := Claim7.holds Tryz.pinned (.plain (OpenSpec.ofChange topFloatsSpec)) topFloatsCard

/-- THE SECOND FORM's CARD OF 'ullagetop.TopFloats'. -/
def topFloatsUptoCard : Claim7 := { stood := { row := topFloatsUptoRow, standIns := [], harness := (true, "2cb79954e27845e41e174a05379d747ba84cae98643a7ebab970cd56edffbba9"), looks := true }, kinds := [], alts := [], laidByText := true, laidKinds := [.data], laidTests := true, laidLooks := .later }
def TopFloatsUptoCardSaid : Prop := Claim7.holds Tryz.pinned (.plain (OpenSpec.upto topFloatsSpec)) topFloatsUptoCard
end Rows
end Go.Proofs.YtgnoapadkncphaaGreatDoor
