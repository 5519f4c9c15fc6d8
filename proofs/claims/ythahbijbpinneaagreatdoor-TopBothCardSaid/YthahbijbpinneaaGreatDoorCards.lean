/-
  DERIVED. GIVEN WITH THE SEED: THE CARDS: each row of YthahbijbpinneaaGreatDoorRows.lean that lists a variable, with what it lists TIED to the program's text (the seventh form; the later family's looks); each row that meets fmt, with fmt's text TOLD by the authors' own Lean function (tested against real Go, not proved from fmt's source: count such statements apart). THE CARD IS WHAT COUNTS. Prove the row's statement (the work); the ties are given (YthahbijbpinneaaGreatDoorTie.lean); close each card by the builder's one call (the guide's Derived/Test/ToyasCard.lean, 'card_holds'). Laid BY PROGRAM, IN A SANDBOX (cutbox-door.mjs). By AI agents, Wed Nov 11 2026. No macro, syntax, notation, axiom, sorry.
-/
import Derived.Test.YthahbijbpinneaaGreatDoorRows
import GoSem.ClaimSeven
namespace Go.Proofs.YthahbijbpinneaaGreatDoor
namespace Rows

/-- THE TIED CARD OF 'ullagetop.TopHoles'. -/
def topHolesCard : Claim7 := { stood := { row := topHolesRow, standIns := [], harness := (true, "77626a36b8acc789ede0e49febb8f62761236f8f28c2f4bb16911fc4df91eefd"), looks := true }, kinds := [], alts := [], laidByText := true, laidKinds := [.data], laidTests := true, laidLooks := .later }
def TopHolesCardSaid : Prop := Claim7.holds Tryz.pinned (.plain (OpenSpec.ofChange topHolesSpec)) topHolesCard

/-- THE TIED CARD OF 'ullagetop.TopWaste'. -/
def topWasteCard : Claim7 := { stood := { row := topWasteRow, standIns := [], harness := (true, "77626a36b8acc789ede0e49febb8f62761236f8f28c2f4bb16911fc4df91eefd"), looks := true }, kinds := [], alts := [], laidByText := true, laidKinds := [.data], laidTests := true, laidLooks := .later }
def TopWasteCardSaid : Prop := Claim7.holds Tryz.pinned (.plain (OpenSpec.ofChange topWasteSpec)) topWasteCard

/-- THE TIED CARD OF 'ullagetop.TopRing'. -/
def topRingCard : Claim7 := { stood := { row := topRingRow, standIns := [], harness := (true, "77626a36b8acc789ede0e49febb8f62761236f8f28c2f4bb16911fc4df91eefd"), looks := true }, kinds := [], alts := [], laidByText := true, laidKinds := [.data], laidTests := true, laidLooks := .later }
def TopRingCardSaid : Prop := Claim7.holds Tryz.pinned (.plain (OpenSpec.ofChange topRingSpec)) topRingCard

/-- THE TIED CARD OF 'ullagetop.TopOrder'. -/
def topOrderCard : Claim7 := { stood := { row := topOrderRow, standIns := [], harness := (true, "77626a36b8acc789ede0e49febb8f62761236f8f28c2f4bb16911fc4df91eefd"), looks := true }, kinds := [], alts := [], laidByText := true, laidKinds := [.data], laidTests := true, laidLooks := .later }
def TopOrderCardSaid : Prop := Claim7.holds Tryz.pinned (.plain (OpenSpec.ofChange topOrderSpec)) topOrderCard

/-- THE TIED CARD OF 'ullagetop.TopDeep'. -/
def topDeepCard : Claim7 := { stood := { row := topDeepRow, standIns := [], harness := (true, "77626a36b8acc789ede0e49febb8f62761236f8f28c2f4bb16911fc4df91eefd"), looks := true }, kinds := [], alts := [], laidByText := true, laidKinds := [.data], laidTests := true, laidLooks := .later }
def TopDeepCardSaid : Prop := Claim7.holds Tryz.pinned (.plain (OpenSpec.ofChange topDeepSpec)) topDeepCard

/-- THE TIED CARD OF 'ullagetop.TopBoth'. -/
def topBothCard : Claim7 := { stood := { row := topBothRow, standIns := [], harness := (true, "77626a36b8acc789ede0e49febb8f62761236f8f28c2f4bb16911fc4df91eefd"), looks := true }, kinds := [], alts := [], laidByText := true, laidKinds := [.data], laidTests := true, laidLooks := .later }
def TopBothCardSaid : Prop := Claim7.holds Tryz.pinned (.plain (OpenSpec.ofChange topBothSpec)) topBothCard

/-- THE TIED CARD OF 'ullagetop.TopFloats'. -/
def topFloatsCard : Claim7 := { stood := { row := topFloatsRow, standIns := [], harness := (true, "77626a36b8acc789ede0e49febb8f62761236f8f28c2f4bb16911fc4df91eefd"), looks := true }, kinds := [], alts := [], laidByText := true, laidKinds := [.data], laidTests := true, laidLooks := .later }
def TopFloatsCardSaid : Prop := Claim7.holds Tryz.pinned (.plain (OpenSpec.ofChange topFloatsSpec)) topFloatsCard

/-- THE SECOND FORM's CARD OF 'ullagetop.TopHoles'. -/
def topHolesUptoCard : Claim7 := { stood := { row := topHolesUptoRow, standIns := [], harness := (true, "77626a36b8acc789ede0e49febb8f62761236f8f28c2f4bb16911fc4df91eefd"), looks := true }, kinds := [], alts := [], laidByText := true, laidKinds := [.data], laidTests := true, laidLooks := .later }
def TopHolesUptoCardSaid : Prop := Claim7.holds Tryz.pinned (.plain (OpenSpec.upto topHolesSpec)) topHolesUptoCard

/-- THE SECOND FORM's CARD OF 'ullagetop.TopWaste'. -/
def topWasteUptoCard : Claim7 := { stood := { row := topWasteUptoRow, standIns := [], harness := (true, "77626a36b8acc789ede0e49febb8f62761236f8f28c2f4bb16911fc4df91eefd"), looks := true }, kinds := [], alts := [], laidByText := true, laidKinds := [.data], laidTests := true, laidLooks := .later }
def TopWasteUptoCardSaid : Prop := Claim7.holds Tryz.pinned (.plain (OpenSpec.upto topWasteSpec)) topWasteUptoCard

/-- THE SECOND FORM's CARD OF 'ullagetop.TopRing'. -/
def topRingUptoCard : Claim7 := { stood := { row := topRingUptoRow, standIns := [], harness := (true, "77626a36b8acc789ede0e49febb8f62761236f8f28c2f4bb16911fc4df91eefd"), looks := true }, kinds := [], alts := [], laidByText := true, laidKinds := [.data], laidTests := true, laidLooks := .later }
def TopRingUptoCardSaid : Prop := Claim7.holds Tryz.pinned (.plain (OpenSpec.upto topRingSpec)) topRingUptoCard

/-- THE SECOND FORM's CARD OF 'ullagetop.TopOrder'. -/
def topOrderUptoCard : Claim7 := { stood := { row := topOrderUptoRow, standIns := [], harness := (true, "77626a36b8acc789ede0e49febb8f62761236f8f28c2f4bb16911fc4df91eefd"), looks := true }, kinds := [], alts := [], laidByText := true, laidKinds := [.data], laidTests := true, laidLooks := .later }
def TopOrderUptoCardSaid : Prop := Claim7.holds Tryz.pinned (.plain (OpenSpec.upto topOrderSpec)) topOrderUptoCard

/-- THE SECOND FORM's CARD OF 'ullagetop.TopDeep'. -/
def topDeepUptoCard : Claim7 := { stood := { row := topDeepUptoRow, standIns := [], harness := (true, "77626a36b8acc789ede0e49febb8f62761236f8f28c2f4bb16911fc4df91eefd"), looks := true }, kinds := [], alts := [], laidByText := true, laidKinds := [.data], laidTests := true, laidLooks := .later }
def TopDeepUptoCardSaid : Prop := Claim7.holds Tryz.pinned (.plain (OpenSpec.upto topDeepSpec)) topDeepUptoCard

/-- THE SECOND FORM's CARD OF 'ullagetop.TopBoth'. -/
def topBothUptoCard : Claim7 := { stood := { row := topBothUptoRow, standIns := [], harness := (true, "77626a36b8acc789ede0e49febb8f62761236f8f28c2f4bb16911fc4df91eefd"), looks := true }, kinds := [], alts := [], laidByText := true, laidKinds := [.data], laidTests := true, laidLooks := .later }
def TopBothUptoCardSaid : Prop := Claim7.holds Tryz.pinned (.plain (OpenSpec.upto topBothSpec)) topBothUptoCard

/-- THE SECOND FORM's CARD OF 'ullagetop.TopFloats'. -/
def topFloatsUptoCard : Claim7 := { stood := { row := topFloatsUptoRow, standIns := [], harness := (true, "77626a36b8acc789ede0e49febb8f62761236f8f28c2f4bb16911fc4df91eefd"), looks := true }, kinds := [], alts := [], laidByText := true, laidKinds := [.data], laidTests := true, laidLooks := .later }
def TopFloatsUptoCardSaid : Prop := Claim7.holds Tryz.pinned (.plain (OpenSpec.upto topFloatsSpec)) topFloatsUptoCard
end Rows
end Go.Proofs.YthahbijbpinneaaGreatDoor
