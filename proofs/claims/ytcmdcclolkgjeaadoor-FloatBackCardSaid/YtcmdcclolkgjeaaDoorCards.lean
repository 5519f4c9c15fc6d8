/-
  DERIVED. GIVEN WITH THE SEED: THE CARDS: each row of YtcmdcclolkgjeaaDoorRows.lean that lists a variable, with what it lists TIED to the program's text (the seventh form; the later family's looks); each row that meets fmt, with fmt's text TOLD by the authors' own Lean function (tested against real Go, not proved from fmt's source: count such statements apart). THE CARD IS WHAT COUNTS. Prove the row's statement (the work); the ties are given (YtcmdcclolkgjeaaDoorTie.lean); close each card by the builder's one call (the guide's Derived/Test/ToyasCard.lean, 'card_holds'). Laid BY PROGRAM, IN A SANDBOX (cutbox-door.mjs). By AI agents, Wed Nov 11 2026. No macro, syntax, notation, axiom, sorry.
-/
import Derived.Test.YtcmdcclolkgjeaaDoorRows
import GoSem.ClaimSeven
namespace Go.Proofs.YtcmdcclolkgjeaaDoor
namespace Rows

/-- THE TIED CARD OF 'ullagelaw02.FloatOrder'. -/
def floatOrderCard : Claim7 := { stood := { row := floatOrderRow, standIns := [], harness := (true, "7abcce3b0c4e7a348772ed4fc7f4893d4f4dc08c42ce445324b5bc8ff5bd2daf"), looks := true }, kinds := [], alts := [], laidByText := true, laidKinds := [.data, .data, .data], laidTests := true, laidLooks := .later }
def FloatOrderCardSaid : Prop := Claim7.holds Tryd.pinned (.plain (OpenSpec.ofChange floatOrderSpec)) floatOrderCard

/-- THE TIED CARD OF 'ullagelaw02.FloatBest'. -/
def floatBestCard : Claim7 := { stood := { row := floatBestRow, standIns := [], harness := (true, "7abcce3b0c4e7a348772ed4fc7f4893d4f4dc08c42ce445324b5bc8ff5bd2daf"), looks := true }, kinds := [], alts := [], laidByText := true, laidKinds := [.data, .data, .data], laidTests := true, laidLooks := .later }
def FloatBestCardSaid : Prop := Claim7.holds Tryd.pinned (.plain (OpenSpec.ofChange floatBestSpec)) floatBestCard

/-- THE TIED CARD OF 'ullagelaw02.FloatKinds'. -/
def floatKindsCard : Claim7 := { stood := { row := floatKindsRow, standIns := [], harness := (true, "7abcce3b0c4e7a348772ed4fc7f4893d4f4dc08c42ce445324b5bc8ff5bd2daf"), looks := true }, kinds := [], alts := [], laidByText := true, laidKinds := [.data, .data, .data], laidTests := true, laidLooks := .later }
def FloatKindsCardSaid : Prop := Claim7.holds Tryd.pinned (.plain (OpenSpec.ofChange floatKindsSpec)) floatKindsCard

/-- THE TIED CARD OF 'ullagelaw02.FloatSteps'. -/
def floatStepsCard : Claim7 := { stood := { row := floatStepsRow, standIns := [], harness := (true, "7abcce3b0c4e7a348772ed4fc7f4893d4f4dc08c42ce445324b5bc8ff5bd2daf"), looks := true }, kinds := [], alts := [], laidByText := true, laidKinds := [.data, .data, .data], laidTests := true, laidLooks := .later }
def FloatStepsCardSaid : Prop := Claim7.holds Tryd.pinned (.plain (OpenSpec.ofChange floatStepsSpec)) floatStepsCard

/-- THE TIED CARD OF 'ullagelaw02.FloatNear'. -/
def floatNearCard : Claim7 := { stood := { row := floatNearRow, standIns := [], harness := (true, "7abcce3b0c4e7a348772ed4fc7f4893d4f4dc08c42ce445324b5bc8ff5bd2daf"), looks := true }, kinds := [], alts := [], laidByText := true, laidKinds := [.data, .data, .data], laidTests := true, laidLooks := .later }
def FloatNearCardSaid : Prop := Claim7.holds Tryd.pinned (.plain (OpenSpec.ofChange floatNearSpec)) floatNearCard

/-- THE TIED CARD OF 'ullagelaw02.FloatReads'. -/
def floatReadsCard : Claim7 := { stood := { row := floatReadsRow, standIns := [], harness := (true, "7abcce3b0c4e7a348772ed4fc7f4893d4f4dc08c42ce445324b5bc8ff5bd2daf"), looks := true }, kinds := [], alts := [], laidByText := true, laidKinds := [.data, .data, .data, .sentinel, .sentinel], laidTests := true, laidLooks := .later }
def FloatReadsCardSaid : Prop := Claim7.holds Tryd.pinned (.plain (OpenSpec.ofChange floatReadsSpec)) floatReadsCard

/-- THE TIED CARD OF 'ullagelaw02.FloatBack'. -/
def floatBackCard : Claim7 := { stood := { row := floatBackRow, standIns := [], harness := (true, "7abcce3b0c4e7a348772ed4fc7f4893d4f4dc08c42ce445324b5bc8ff5bd2daf"), looks := true }, kinds := [], alts := [], laidByText := true, laidKinds := [.data, .data, .data, .sentinel, .sentinel], laidTests := true, laidLooks := .later }
def FloatBackCardSaid : Prop := Claim7.holds Tryd.pinned (.plain (OpenSpec.ofChange floatBackSpec)) floatBackCard

/-- THE SECOND FORM's CARD OF 'ullagelaw02.FloatOrder'. -/
def floatOrderUptoCard : Claim7 := { stood := { row := floatOrderUptoRow, standIns := [], harness := (true, "7abcce3b0c4e7a348772ed4fc7f4893d4f4dc08c42ce445324b5bc8ff5bd2daf"), looks := true }, kinds := [], alts := [], laidByText := true, laidKinds := [.data, .data, .data], laidTests := true, laidLooks := .later }
def FloatOrderUptoCardSaid : Prop := Claim7.holds Tryd.pinned (.plain (OpenSpec.upto floatOrderSpec)) floatOrderUptoCard

/-- THE SECOND FORM's CARD OF 'ullagelaw02.FloatBest'. -/
def floatBestUptoCard : Claim7 := { stood := { row := floatBestUptoRow, standIns := [], harness := (true, "7abcce3b0c4e7a348772ed4fc7f4893d4f4dc08c42ce445324b5bc8ff5bd2daf"), looks := true }, kinds := [], alts := [], laidByText := true, laidKinds := [.data, .data, .data], laidTests := true, laidLooks := .later }
def FloatBestUptoCardSaid : Prop := Claim7.holds Tryd.pinned (.plain (OpenSpec.upto floatBestSpec)) floatBestUptoCard

/-- THE SECOND FORM's CARD OF 'ullagelaw02.FloatKinds'. -/
def floatKindsUptoCard : Claim7 := { stood := { row := floatKindsUptoRow, standIns := [], harness := (true, "7abcce3b0c4e7a348772ed4fc7f4893d4f4dc08c42ce445324b5bc8ff5bd2daf"), looks := true }, kinds := [], alts := [], laidByText := true, laidKinds := [.data, .data, .data], laidTests := true, laidLooks := .later }
def FloatKindsUptoCardSaid : Prop := Claim7.holds Tryd.pinned (.plain (OpenSpec.upto floatKindsSpec)) floatKindsUptoCard

/-- THE SECOND FORM's CARD OF 'ullagelaw02.FloatSteps'. -/
def floatStepsUptoCard : Claim7 := { stood := { row := floatStepsUptoRow, standIns := [], harness := (true, "7abcce3b0c4e7a348772ed4fc7f4893d4f4dc08c42ce445324b5bc8ff5bd2daf"), looks := true }, kinds := [], alts := [], laidByText := true, laidKinds := [.data, .data, .data], laidTests := true, laidLooks := .later }
def FloatStepsUptoCardSaid : Prop := Claim7.holds Tryd.pinned (.plain (OpenSpec.upto floatStepsSpec)) floatStepsUptoCard

/-- THE SECOND FORM's CARD OF 'ullagelaw02.FloatNear'. -/
def floatNearUptoCard : Claim7 := { stood := { row := floatNearUptoRow, standIns := [], harness := (true, "7abcce3b0c4e7a348772ed4fc7f4893d4f4dc08c42ce445324b5bc8ff5bd2daf"), looks := true }, kinds := [], alts := [], laidByText := true, laidKinds := [.data, .data, .data], laidTests := true, laidLooks := .later }
def FloatNearUptoCardSaid : Prop := Claim7.holds Tryd.pinned (.plain (OpenSpec.upto floatNearSpec)) floatNearUptoCard

/-- THE SECOND FORM's CARD OF 'ullagelaw02.FloatReads'. -/
def floatReadsUptoCard : Claim7 := { stood := { row := floatReadsUptoRow, standIns := [], harness := (true, "7abcce3b0c4e7a348772ed4fc7f4893d4f4dc08c42ce445324b5bc8ff5bd2daf"), looks := true }, kinds := [], alts := [], laidByText := true, laidKinds := [.data, .data, .data, .sentinel, .sentinel], laidTests := true, laidLooks := .later }
def FloatReadsUptoCardSaid : Prop := Claim7.holds Tryd.pinned (.plain (OpenSpec.upto floatReadsSpec)) floatReadsUptoCard

/-- THE SECOND FORM's CARD OF 'ullagelaw02.FloatBack'. -/
def floatBackUptoCard : Claim7 := { stood := { row := floatBackUptoRow, standIns := [], harness := (true, "7abcce3b0c4e7a348772ed4fc7f4893d4f4dc08c42ce445324b5bc8ff5bd2daf"), looks := true }, kinds := [], alts := [], laidByText := true, laidKinds := [.data, .data, .data, .sentinel, .sentinel], laidTests := true, laidLooks := .later }
def FloatBackUptoCardSaid : Prop := Claim7.holds Tryd.pinned (.plain (OpenSpec.upto floatBackSpec)) floatBackUptoCard
end Rows
end Go.Proofs.YtcmdcclolkgjeaaDoor
