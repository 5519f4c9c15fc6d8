/-
  DERIVED. GIVEN WITH THE SEED: THE CARDS: each row of YtlcgmniahdngdaaDoorRows.lean that lists a variable, with what it lists TIED to the program's text (the seventh form; the later family's looks); each row that meets fmt, with fmt's text TOLD by the authors' own Lean function (tested against real Go, not proved from fmt's source: count such statements apart). THE CARD IS WHAT COUNTS. Prove the row's statement (the work); the ties are given (YtlcgmniahdngdaaDoorTie.lean); close each card by the builder's one call (the guide's Derived/Test/ToyasCard.lean, 'card_holds'). Laid BY PROGRAM, IN A SANDBOX (cutbox-door.mjs). By AI agents, Wed Nov 11 2026. No macro, syntax, notation, axiom, sorry.
-/
import Derived.Test.YtlcgmniahdngdaaDoorRows
import GoSem.ClaimSeven
namespace Go.Proofs.YtlcgmniahdngdaaDoor
namespace Rows

/-- THE TIED CARD OF 'ullagelaw04.DigitsReads'. -/
def digitsReadsCard : Claim7 := { stood := { row := digitsReadsRow, standIns := [], harness := (true, "6f5934b44e1131e5b62bd6887c6dc3431bf982398fdf506f41f2f1e9dea09605"), looks := true }, kinds := [], alts := [], laidByText := true, laidKinds := [.data, .data, .data, .data, .sentinel, .sentinel, .pinned], laidTests := true, laidLooks := .later }
def DigitsReadsCardSaid : Prop := Claim7.holds Tryd.pinned (.plain (OpenSpec.ofChange digitsReadsSpec)) digitsReadsCard

/-- THE TIED CARD OF 'ullagelaw04.DigitsBack'. -/
def digitsBackCard : Claim7 := { stood := { row := digitsBackRow, standIns := [], harness := (true, "6f5934b44e1131e5b62bd6887c6dc3431bf982398fdf506f41f2f1e9dea09605"), looks := true }, kinds := [], alts := [], laidByText := true, laidKinds := [.data, .data, .data, .data, .sentinel, .sentinel, .pinned], laidTests := true, laidLooks := .later }
def DigitsBackCardSaid : Prop := Claim7.holds Tryd.pinned (.plain (OpenSpec.ofChange digitsBackSpec)) digitsBackCard

/-- THE TIED CARD OF 'ullagelaw04.DigitsCuts'. -/
def digitsCutsCard : Claim7 := { stood := { row := digitsCutsRow, standIns := [], harness := (true, "6f5934b44e1131e5b62bd6887c6dc3431bf982398fdf506f41f2f1e9dea09605"), looks := true }, kinds := [], alts := [], laidByText := true, laidKinds := [.data, .data, .data, .data, .sentinel, .sentinel, .pinned], laidTests := true, laidLooks := .later }
def DigitsCutsCardSaid : Prop := Claim7.holds Tryd.pinned (.plain (OpenSpec.ofChange digitsCutsSpec)) digitsCutsCard

/-- THE TIED CARD OF 'ullagelaw04.DigitsJoin'. -/
def digitsJoinCard : Claim7 := { stood := { row := digitsJoinRow, standIns := [], harness := (true, "6f5934b44e1131e5b62bd6887c6dc3431bf982398fdf506f41f2f1e9dea09605"), looks := true }, kinds := [], alts := [], laidByText := true, laidKinds := [.data, .data, .data, .data, .sentinel, .sentinel, .pinned], laidTests := true, laidLooks := .later }
def DigitsJoinCardSaid : Prop := Claim7.holds Tryd.pinned (.plain (OpenSpec.ofChange digitsJoinSpec)) digitsJoinCard

/-- THE SECOND FORM's CARD OF 'ullagelaw04.DigitsReads'. -/
def digitsReadsUptoCard : Claim7 := { stood := { row := digitsReadsUptoRow, standIns := [], harness := (true, "6f5934b44e1131e5b62bd6887c6dc3431bf982398fdf506f41f2f1e9dea09605"), looks := true }, kinds := [], alts := [], laidByText := true, laidKinds := [.data, .data, .data, .data, .sentinel, .sentinel, .pinned], laidTests := true, laidLooks := .later }
def DigitsReadsUptoCardSaid : Prop := Claim7.holds Tryd.pinned (.plain (OpenSpec.upto digitsReadsSpec)) digitsReadsUptoCard

/-- THE SECOND FORM's CARD OF 'ullagelaw04.DigitsBack'. -/
def digitsBackUptoCard : Claim7 := { stood := { row := digitsBackUptoRow, standIns := [], harness := (true, "6f5934b44e1131e5b62bd6887c6dc3431bf982398fdf506f41f2f1e9dea09605"), looks := true }, kinds := [], alts := [], laidByText := true, laidKinds := [.data, .data, .data, .data, .sentinel, .sentinel, .pinned], laidTests := true, laidLooks := .later }
def DigitsBackUptoCardSaid : Prop := Claim7.holds Tryd.pinned (.plain (OpenSpec.upto digitsBackSpec)) digitsBackUptoCard

/-- THE SECOND FORM's CARD OF 'ullagelaw04.DigitsCuts'. -/
def digitsCutsUptoCard : Claim7 := { stood := { row := digitsCutsUptoRow, standIns := [], harness := (true, "6f5934b44e1131e5b62bd6887c6dc3431bf982398fdf506f41f2f1e9dea09605"), looks := true }, kinds := [], alts := [], laidByText := true, laidKinds := [.data, .data, .data, .data, .sentinel, .sentinel, .pinned], laidTests := true, laidLooks := .later }
def DigitsCutsUptoCardSaid : Prop := Claim7.holds Tryd.pinned (.plain (OpenSpec.upto digitsCutsSpec)) digitsCutsUptoCard

/-- THE SECOND FORM's CARD OF 'ullagelaw04.DigitsJoin'. -/
def digitsJoinUptoCard : Claim7 := { stood := { row := digitsJoinUptoRow, standIns := [], harness := (true, "6f5934b44e1131e5b62bd6887c6dc3431bf982398fdf506f41f2f1e9dea09605"), looks := true }, kinds := [], alts := [], laidByText := true, laidKinds := [.data, .data, .data, .data, .sentinel, .sentinel, .pinned], laidTests := true, laidLooks := .later }
def DigitsJoinUptoCardSaid : Prop := Claim7.holds Tryd.pinned (.plain (OpenSpec.upto digitsJoinSpec)) digitsJoinUptoCard
end Rows
end Go.Proofs.YtlcgmniahdngdaaDoor
