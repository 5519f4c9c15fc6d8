/-
  DERIVED. GIVEN WITH THE SEED: THE CARDS: each row of YtheajimjmhocgaaDoorRows.lean that lists a variable, with what it lists TIED to the program's text (the seventh form; the later family's looks); each row that meets fmt, with fmt's text TOLD by the authors' own Lean function (tested against real Go, not proved from fmt's source: count such statements apart). THE CARD IS WHAT COUNTS. Prove the row's statement (the work); the ties are given (YtheajimjmhocgaaDoorTie.lean); close each card by the builder's one call (the guide's Derived/Test/ToyasCard.lean, 'card_holds'). Laid BY PROGRAM, IN A SANDBOX (cutbox-door.mjs). By AI agents, Wed Nov 11 2026. No macro, syntax, notation, axiom, sorry.
-/
import Derived.Test.YtheajimjmhocgaaDoorRows
import GoSem.ClaimSeven
namespace Go.Proofs.YtheajimjmhocgaaDoor
namespace Rows

/-- THE TIED CARD OF 'ullagelaw01.MasksPacks'. -/
def masksPacksCard : Claim7 := { stood := { row := masksPacksRow, standIns := [], harness := (true, "e9d31a629d8d0c2b7876576d23231f3db86fd81531f958ba453ba510158a62b0"), looks := false }, kinds := [], alts := [], laidByText := true, laidKinds := [.data], laidTests := true, laidLooks := .later }
def MasksPacksCardSaid : Prop := Claim7.holds Tryd.pinned (.plain (OpenSpec.ofChange masksPacksSpec)) masksPacksCard

/-- THE TIED CARD OF 'ullagelaw01.MasksBack'. -/
def masksBackCard : Claim7 := { stood := { row := masksBackRow, standIns := [], harness := (true, "e9d31a629d8d0c2b7876576d23231f3db86fd81531f958ba453ba510158a62b0"), looks := false }, kinds := [], alts := [], laidByText := true, laidKinds := [.data], laidTests := true, laidLooks := .later }
def MasksBackCardSaid : Prop := Claim7.holds Tryd.pinned (.plain (OpenSpec.ofChange masksBackSpec)) masksBackCard

/-- THE TIED CARD OF 'ullagelaw01.MasksAdd'. -/
def masksAddCard : Claim7 := { stood := { row := masksAddRow, standIns := [], harness := (true, "e9d31a629d8d0c2b7876576d23231f3db86fd81531f958ba453ba510158a62b0"), looks := false }, kinds := [], alts := [], laidByText := true, laidKinds := [.data], laidTests := true, laidLooks := .later }
def MasksAddCardSaid : Prop := Claim7.holds Tryd.pinned (.plain (OpenSpec.ofChange masksAddSpec)) masksAddCard

/-- THE TIED CARD OF 'ullagelaw01.MasksPicks'. -/
def masksPicksCard : Claim7 := { stood := { row := masksPicksRow, standIns := [], harness := (true, "e9d31a629d8d0c2b7876576d23231f3db86fd81531f958ba453ba510158a62b0"), looks := false }, kinds := [], alts := [], laidByText := true, laidKinds := [.data], laidTests := true, laidLooks := .later }
def MasksPicksCardSaid : Prop := Claim7.holds Tryd.pinned (.plain (OpenSpec.ofChange masksPicksSpec)) masksPicksCard

/-- THE TIED CARD OF 'ullagelaw01.MasksRounds'. -/
def masksRoundsCard : Claim7 := { stood := { row := masksRoundsRow, standIns := [], harness := (true, "e9d31a629d8d0c2b7876576d23231f3db86fd81531f958ba453ba510158a62b0"), looks := false }, kinds := [], alts := [], laidByText := true, laidKinds := [.data], laidTests := true, laidLooks := .later }
def MasksRoundsCardSaid : Prop := Claim7.holds Tryd.pinned (.plain (OpenSpec.ofChange masksRoundsSpec)) masksRoundsCard

/-- THE TIED CARD OF 'ullagelaw01.MasksRuns'. -/
def masksRunsCard : Claim7 := { stood := { row := masksRunsRow, standIns := [], harness := (true, "e9d31a629d8d0c2b7876576d23231f3db86fd81531f958ba453ba510158a62b0"), looks := false }, kinds := [], alts := [], laidByText := true, laidKinds := [.data], laidTests := true, laidLooks := .later }
def MasksRunsCardSaid : Prop := Claim7.holds Tryd.pinned (.plain (OpenSpec.ofChange masksRunsSpec)) masksRunsCard

/-- THE SECOND FORM's CARD OF 'ullagelaw01.MasksPacks'. -/
def masksPacksUptoCard : Claim7 := { stood := { row := masksPacksUptoRow, standIns := [], harness := (true, "e9d31a629d8d0c2b7876576d23231f3db86fd81531f958ba453ba510158a62b0"), looks := false }, kinds := [], alts := [], laidByText := true, laidKinds := [.data], laidTests := true, laidLooks := .later }
def MasksPacksUptoCardSaid : Prop := Claim7.holds Tryd.pinned (.plain (OpenSpec.upto masksPacksSpec)) masksPacksUptoCard

/-- THE SECOND FORM's CARD OF 'ullagelaw01.MasksBack'. -/
def masksBackUptoCard : Claim7 := { stood := { row := masksBackUptoRow, standIns := [], harness := (true, "e9d31a629d8d0c2b7876576d23231f3db86fd81531f958ba453ba510158a62b0"), looks := false }, kinds := [], alts := [], laidByText := true, laidKinds := [.data], laidTests := true, laidLooks := .later }
def MasksBackUptoCardSaid : Prop := Claim7.holds Tryd.pinned (.plain (OpenSpec.upto masksBackSpec)) masksBackUptoCard

/-- THE SECOND FORM's CARD OF 'ullagelaw01.MasksAdd'. -/
def masksAddUptoCard : Claim7 := { stood := { row := masksAddUptoRow, standIns := [], harness := (true, "e9d31a629d8d0c2b7876576d23231f3db86fd81531f958ba453ba510158a62b0"), looks := false }, kinds := [], alts := [], laidByText := true, laidKinds := [.data], laidTests := true, laidLooks := .later }
def MasksAddUptoCardSaid : Prop := Claim7.holds Tryd.pinned (.plain (OpenSpec.upto masksAddSpec)) masksAddUptoCard

/-- THE SECOND FORM's CARD OF 'ullagelaw01.MasksPicks'. -/
def masksPicksUptoCard : Claim7 := { stood := { row := masksPicksUptoRow, standIns := [], harness := (true, "e9d31a629d8d0c2b7876576d23231f3db86fd81531f958ba453ba510158a62b0"), looks := false }, kinds := [], alts := [], laidByText := true, laidKinds := [.data], laidTests := true, laidLooks := .later }
def MasksPicksUptoCardSaid : Prop := Claim7.holds Tryd.pinned (.plain (OpenSpec.upto masksPicksSpec)) masksPicksUptoCard

/-- THE SECOND FORM's CARD OF 'ullagelaw01.MasksRounds'. -/
def masksRoundsUptoCard : Claim7 := { stood := { row := masksRoundsUptoRow, standIns := [], harness := (true, "e9d31a629d8d0c2b7876576d23231f3db86fd81531f958ba453ba510158a62b0"), looks := false }, kinds := [], alts := [], laidByText := true, laidKinds := [.data], laidTests := true, laidLooks := .later }
def MasksRoundsUptoCardSaid : Prop := Claim7.holds Tryd.pinned (.plain (OpenSpec.upto masksRoundsSpec)) masksRoundsUptoCard

/-- THE SECOND FORM's CARD OF 'ullagelaw01.MasksRuns'. -/
def masksRunsUptoCard : Claim7 := { stood := { row := masksRunsUptoRow, standIns := [], harness := (true, "e9d31a629d8d0c2b7876576d23231f3db86fd81531f958ba453ba510158a62b0"), looks := false }, kinds := [], alts := [], laidByText := true, laidKinds := [.data], laidTests := true, laidLooks := .later }
def MasksRunsUptoCardSaid : Prop := Claim7.holds Tryd.pinned (.plain (OpenSpec.upto masksRunsSpec)) masksRunsUptoCard
end Rows
end Go.Proofs.YtheajimjmhocgaaDoor
