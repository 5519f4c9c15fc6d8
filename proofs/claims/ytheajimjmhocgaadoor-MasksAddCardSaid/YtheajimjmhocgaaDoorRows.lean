/-
  NARROWER THAN 'FOR EVERY INPUT', by the rows' own cells (each row's printed sentence says how): MasksPacks: laid · MasksBack: laid · MasksAdd: laid · MasksPicks: laid · MasksRounds: laid · MasksRuns: laid.
  DERIVED. THE GIVEN ROWS OF THIS SEAT. 6 by the template 'for every input the law returns true; each argument reads behind the call as it read before'; 0 by the template 'total and deterministic' (their statements: YtheajimjmhocgaaDoorTotals.lean).
  GIVEN WITH THE SEED: the statements are not yours to turn. If you find one false, say at which input.
  Laid BY PROGRAM, IN A SANDBOX (cutbox-rows.mjs): the forced cells as the released guide's own fill.sh prints them over the translation d59baf356dd70c06… (all of the seat's roots in one cut). By AI agents, Wed Nov 11 2026. No macro, syntax, notation, axiom, sorry.
-/
import Derived.Test.YtheajimjmhocgaaDoorChecked
import GoSem.Claim
import GoSem.ClaimJoined
import GoSem.ClaimMapViews
import Derived.JoinedTies
import Derived.KernelRfl
namespace Go.Proofs.YtheajimjmhocgaaDoor
/- THE CELL 'sum', in the pinned program and in every row, IS THE sha256 OF THE DUMP (.gsa) THAT YtheajimjmhocgaaDoorProg.lean LOADS. Nothing in Lean hashes anything: it is a label: what it is worth is what the hold of that sum in a sandbox is worth. -/
noncomputable def Tryd.pinned : Pinned := { name := "ytheajimjmhocgaadoor", sum := "d59baf356dd70c0613f1c8ae395d27bd7f224e13ef11c508c6eccd43caa26c77", checked := Tryd.checked }
namespace Rows
def none {H : Type} : Left H := { results := [], args := [] }

/- WHAT THE LISTED PACKAGE-LEVEL VARIABLES READ AS WHEN THE CALL BEGINS. Each datum BY PROGRAM (the guide's laid-datum.mjs) off the statement by which the dump's own 'gosem.cut.vars' lays the variable. In a bare row this is a premise. The card (YtheajimjmhocgaaDoorCards.lean) ties it to the program's text. -/
def laid_math_bits_deBruijn64tab {H : Type} : DataW H := .agg [.lit (.int .u8 0), .lit (.int .u8 1), .lit (.int .u8 56), .lit (.int .u8 2), .lit (.int .u8 57), .lit (.int .u8 49), .lit (.int .u8 28), .lit (.int .u8 3), .lit (.int .u8 61), .lit (.int .u8 58), .lit (.int .u8 42), .lit (.int .u8 50), .lit (.int .u8 38), .lit (.int .u8 29), .lit (.int .u8 17), .lit (.int .u8 4), .lit (.int .u8 62), .lit (.int .u8 47), .lit (.int .u8 59), .lit (.int .u8 36), .lit (.int .u8 45), .lit (.int .u8 43), .lit (.int .u8 51), .lit (.int .u8 22), .lit (.int .u8 53), .lit (.int .u8 39), .lit (.int .u8 33), .lit (.int .u8 30), .lit (.int .u8 24), .lit (.int .u8 18), .lit (.int .u8 12), .lit (.int .u8 5), .lit (.int .u8 63), .lit (.int .u8 55), .lit (.int .u8 48), .lit (.int .u8 27), .lit (.int .u8 60), .lit (.int .u8 41), .lit (.int .u8 37), .lit (.int .u8 16), .lit (.int .u8 46), .lit (.int .u8 35), .lit (.int .u8 44), .lit (.int .u8 21), .lit (.int .u8 52), .lit (.int .u8 32), .lit (.int .u8 23), .lit (.int .u8 11), .lit (.int .u8 54), .lit (.int .u8 26), .lit (.int .u8 40), .lit (.int .u8 15), .lit (.int .u8 34), .lit (.int .u8 20), .lit (.int .u8 31), .lit (.int .u8 10), .lit (.int .u8 25), .lit (.int .u8 14), .lit (.int .u8 19), .lit (.int .u8 9), .lit (.int .u8 13), .lit (.int .u8 8), .lit (.int .u8 7), .lit (.int .u8 6)]

/-- 'ullagelaw01.MasksPacks': WHATEVER THE INPUT: true; the input reads as it did. -/
def masksPacksSpec : ChangeSpec := { name := "masksPacks", fn := fun _ => fun
  | [d1, d2] => { results := [.lit (.bool true)], args := [d1, d2] }
  | _ => none }
def masksPacksRow : OpenClaim := { program := "ytheajimjmhocgaadoor", sum := "d59baf356dd70c0613f1c8ae395d27bd7f224e13ef11c508c6eccd43caa26c77", func := "ullage/ullagelaw01.MasksPacks", spec := "masksPacks", named := ["math/bits.deBruijn64tab"], apart := false, laid := [("math/bits.deBruijn64tab", laid_math_bits_deBruijn64tab)] }
def MasksPacksSaid : Prop := masksPacksRow.holds Tryd.pinned (OpenSpec.ofChange masksPacksSpec)

/-- ITS FALSE NEIGHBOUR: 'it returns false'. Refute it at one input. -/
def masksPacksWrong : ChangeSpec := { name := "masksPacks", fn := fun _ => fun
  | [d1, d2] => { results := [.lit (.bool false)], args := [d1, d2] }
  | _ => none }
def MasksPacksWrongFalsely : Prop := masksPacksRow.holds Tryd.pinned (OpenSpec.ofChange masksPacksWrong)

/-- 'ullagelaw01.MasksBack': WHATEVER THE INPUT: true; the input reads as it did. -/
def masksBackSpec : ChangeSpec := { name := "masksBack", fn := fun _ => fun
  | [d1, d2] => { results := [.lit (.bool true)], args := [d1, d2] }
  | _ => none }
def masksBackRow : OpenClaim := { program := "ytheajimjmhocgaadoor", sum := "d59baf356dd70c0613f1c8ae395d27bd7f224e13ef11c508c6eccd43caa26c77", func := "ullage/ullagelaw01.MasksBack", spec := "masksBack", named := ["math/bits.deBruijn64tab"], apart := false, laid := [("math/bits.deBruijn64tab", laid_math_bits_deBruijn64tab)] }
def MasksBackSaid : Prop := masksBackRow.holds Tryd.pinned (OpenSpec.ofChange masksBackSpec)

/-- ITS FALSE NEIGHBOUR: 'it returns false'. Refute it at one input. -/
def masksBackWrong : ChangeSpec := { name := "masksBack", fn := fun _ => fun
  | [d1, d2] => { results := [.lit (.bool false)], args := [d1, d2] }
  | _ => none }
def MasksBackWrongFalsely : Prop := masksBackRow.holds Tryd.pinned (OpenSpec.ofChange masksBackWrong)

/-- 'ullagelaw01.MasksAdd': WHATEVER THE INPUT: true; the input reads as it did. -/
def masksAddSpec : ChangeSpec := { name := "masksAdd", fn := fun _ => fun
  | [d1, d2] => { results := [.lit (.bool true)], args := [d1, d2] }
  | _ => none }
def masksAddRow : OpenClaim := { program := "ytheajimjmhocgaadoor", sum := "d59baf356dd70c0613f1c8ae395d27bd7f224e13ef11c508c6eccd43caa26c77", func := "ullage/ullagelaw01.MasksAdd", spec := "masksAdd", named := ["math/bits.deBruijn64tab"], apart := false, laid := [("math/bits.deBruijn64tab", laid_math_bits_deBruijn64tab)] }
def MasksAddSaid : Prop := masksAddRow.holds Tryd.pinned (OpenSpec.ofChange masksAddSpec)

/-- ITS FALSE NEIGHBOUR: 'it returns false'. Refute it at one input. -/
def masksAddWrong : ChangeSpec := { name := "masksAdd", fn := fun _ => fun
  | [d1, d2] => { results := [.lit (.bool false)], args := [d1, d2] }
  | _ => none }
def MasksAddWrongFalsely : Prop := masksAddRow.holds Tryd.pinned (OpenSpec.ofChange masksAddWrong)

/-- 'ullagelaw01.MasksPicks': WHATEVER THE INPUT: true; the input reads as it did. -/
def masksPicksSpec : ChangeSpec := { name := "masksPicks", fn := fun _ => fun
  | [d1, d2] => { results := [.lit (.bool true)], args := [d1, d2] }
  | _ => none }
def masksPicksRow : OpenClaim := { program := "ytheajimjmhocgaadoor", sum := "d59baf356dd70c0613f1c8ae395d27bd7f224e13ef11c508c6eccd43caa26c77", func := "ullage/ullagelaw01.MasksPicks", spec := "masksPicks", named := ["math/bits.deBruijn64tab"], apart := false, laid := [("math/bits.deBruijn64tab", laid_math_bits_deBruijn64tab)] }
def MasksPicksSaid : Prop := masksPicksRow.holds Tryd.pinned (OpenSpec.ofChange masksPicksSpec)

/-- ITS FALSE NEIGHBOUR: 'it returns false'. Refute it at one input. -/
def masksPicksWrong : ChangeSpec := { name := "masksPicks", fn := fun _ => fun
  | [d1, d2] => { results := [.lit (.bool false)], args := [d1, d2] }
  | _ => none }
def MasksPicksWrongFalsely : Prop := masksPicksRow.holds Tryd.pinned (OpenSpec.ofChange masksPicksWrong)

/-- 'ullagelaw01.MasksRounds': WHATEVER THE INPUT: true; the input reads as it did. -/
def masksRoundsSpec : ChangeSpec := { name := "masksRounds", fn := fun _ => fun
  | [d1, d2] => { results := [.lit (.bool true)], args := [d1, d2] }
  | _ => none }
def masksRoundsRow : OpenClaim := { program := "ytheajimjmhocgaadoor", sum := "d59baf356dd70c0613f1c8ae395d27bd7f224e13ef11c508c6eccd43caa26c77", func := "ullage/ullagelaw01.MasksRounds", spec := "masksRounds", named := ["math/bits.deBruijn64tab"], apart := false, laid := [("math/bits.deBruijn64tab", laid_math_bits_deBruijn64tab)] }
def MasksRoundsSaid : Prop := masksRoundsRow.holds Tryd.pinned (OpenSpec.ofChange masksRoundsSpec)

/-- ITS FALSE NEIGHBOUR: 'it returns false'. Refute it at one input. -/
def masksRoundsWrong : ChangeSpec := { name := "masksRounds", fn := fun _ => fun
  | [d1, d2] => { results := [.lit (.bool false)], args := [d1, d2] }
  | _ => none }
def MasksRoundsWrongFalsely : Prop := masksRoundsRow.holds Tryd.pinned (OpenSpec.ofChange masksRoundsWrong)

/-- 'ullagelaw01.MasksRuns': WHATEVER THE INPUT: true; the input reads as it did. -/
def masksRunsSpec : ChangeSpec := { name := "masksRuns", fn := fun _ => fun
  | [d1, d2, d3] => { results := [.lit (.bool true)], args := [d1, d2, d3] }
  | _ => none }
def masksRunsRow : OpenClaim := { program := "ytheajimjmhocgaadoor", sum := "d59baf356dd70c0613f1c8ae395d27bd7f224e13ef11c508c6eccd43caa26c77", func := "ullage/ullagelaw01.MasksRuns", spec := "masksRuns", named := ["math/bits.deBruijn64tab"], apart := false, laid := [("math/bits.deBruijn64tab", laid_math_bits_deBruijn64tab)] }
def MasksRunsSaid : Prop := masksRunsRow.holds Tryd.pinned (OpenSpec.ofChange masksRunsSpec)

/-- ITS FALSE NEIGHBOUR: 'it returns false'. Refute it at one input. -/
def masksRunsWrong : ChangeSpec := { name := "masksRuns", fn := fun _ => fun
  | [d1, d2, d3] => { results := [.lit (.bool false)], args := [d1, d2, d3] }
  | _ => none }
def MasksRunsWrongFalsely : Prop := masksRunsRow.holds Tryd.pinned (OpenSpec.ofChange masksRunsWrong)

/- THE SECOND FORM. 'bulk': how many values and letters a reading holds, each counted each time it is reached (what is shared counts as often as it is met; a slice's spare places count too). A statement '..UptoSaid' is the law's where the arguments, and the package variables that the reading takes, are together of bulk at most 1048576: NARROWER than '..Said'. Prove '..Said' where nothing that the law and all that it calls make is longer than what came in: it says more and counts as full. Else prove '..UptoSaid'. A law counts once. -/
mutual
def uptoBulk {H : Type} : DataW H → Nat
  | .lit (.string bytes) => bytes.length + 1
  | .lit _ => 1
  | .nil => 1
  | .ptr d => uptoBulk d + 1
  | .slice elems spare => uptoBulkAll elems + uptoBulkAll spare + 1
  | .agg parts => uptoBulkAll parts + 1
  | .iface _ d => uptoBulk d + 1
  | .map entries => uptoBulkEntries entries + 1
  | .held _ => 1
def uptoBulkAll {H : Type} : List (DataW H) → Nat
  | [] => 0
  | d :: r => uptoBulk d + uptoBulkAll r
def uptoBulkEntries {H : Type} : List (Lit × DataW H) → Nat
  | [] => 0
  | x :: r => uptoBulkEntry x + uptoBulkEntries r
def uptoBulkEntry {H : Type} : Lit × DataW H → Nat
  | (.string bytes, d) => bytes.length + uptoBulk d + 1
  | (_, d) => uptoBulk d + 1
 end
def uptoSmall : (H : Type) → List (DataW H) → Bool := fun _ ds => decide (uptoBulkAll ds ≤ 1048576)
def OpenSpec.upto (s : _root_.Go.ChangeSpec) : _root_.Go.OpenSpec := { _root_.Go.OpenSpec.ofChange s with cond := some uptoSmall }

/-- 'ullagelaw01.MasksPacks', WHERE WHAT IT READS IS OF BULK AT MOST 1048576: true; the input reads as it did. -/
def masksPacksUptoRow : OpenClaim := { program := "ytheajimjmhocgaadoor", sum := "d59baf356dd70c0613f1c8ae395d27bd7f224e13ef11c508c6eccd43caa26c77", func := "ullage/ullagelaw01.MasksPacks", spec := "masksPacks", named := ["math/bits.deBruijn64tab"], apart := false, laid := [("math/bits.deBruijn64tab", laid_math_bits_deBruijn64tab)], narrowed := true }
def MasksPacksUptoSaid : Prop := masksPacksUptoRow.holds Tryd.pinned (OpenSpec.upto masksPacksSpec)

/-- 'ullagelaw01.MasksBack', WHERE WHAT IT READS IS OF BULK AT MOST 1048576: true; the input reads as it did. -/
def masksBackUptoRow : OpenClaim := { program := "ytheajimjmhocgaadoor", sum := "d59baf356dd70c0613f1c8ae395d27bd7f224e13ef11c508c6eccd43caa26c77", func := "ullage/ullagelaw01.MasksBack", spec := "masksBack", named := ["math/bits.deBruijn64tab"], apart := false, laid := [("math/bits.deBruijn64tab", laid_math_bits_deBruijn64tab)], narrowed := true }
def MasksBackUptoSaid : Prop := masksBackUptoRow.holds Tryd.pinned (OpenSpec.upto masksBackSpec)

/-- 'ullagelaw01.MasksAdd', WHERE WHAT IT READS IS OF BULK AT MOST 1048576: true; the input reads as it did. -/
def masksAddUptoRow : OpenClaim := { program := "ytheajimjmhocgaadoor", sum := "d59baf356dd70c0613f1c8ae395d27bd7f224e13ef11c508c6eccd43caa26c77", func := "ullage/ullagelaw01.MasksAdd", spec := "masksAdd", named := ["math/bits.deBruijn64tab"], apart := false, laid := [("math/bits.deBruijn64tab", laid_math_bits_deBruijn64tab)], narrowed := true }
def MasksAddUptoSaid : Prop := masksAddUptoRow.holds Tryd.pinned (OpenSpec.upto masksAddSpec)

/-- 'ullagelaw01.MasksPicks', WHERE WHAT IT READS IS OF BULK AT MOST 1048576: true; the input reads as it did. -/
def masksPicksUptoRow : OpenClaim := { program := "ytheajimjmhocgaadoor", sum := "d59baf356dd70c0613f1c8ae395d27bd7f224e13ef11c508c6eccd43caa26c77", func := "ullage/ullagelaw01.MasksPicks", spec := "masksPicks", named := ["math/bits.deBruijn64tab"], apart := false, laid := [("math/bits.deBruijn64tab", laid_math_bits_deBruijn64tab)], narrowed := true }
def MasksPicksUptoSaid : Prop := masksPicksUptoRow.holds Tryd.pinned (OpenSpec.upto masksPicksSpec)

/-- 'ullagelaw01.MasksRounds', WHERE WHAT IT READS IS OF BULK AT MOST 1048576: true; the input reads as it did. -/
def masksRoundsUptoRow : OpenClaim := { program := "ytheajimjmhocgaadoor", sum := "d59baf356dd70c0613f1c8ae395d27bd7f224e13ef11c508c6eccd43caa26c77", func := "ullage/ullagelaw01.MasksRounds", spec := "masksRounds", named := ["math/bits.deBruijn64tab"], apart := false, laid := [("math/bits.deBruijn64tab", laid_math_bits_deBruijn64tab)], narrowed := true }
def MasksRoundsUptoSaid : Prop := masksRoundsUptoRow.holds Tryd.pinned (OpenSpec.upto masksRoundsSpec)

/-- 'ullagelaw01.MasksRuns', WHERE WHAT IT READS IS OF BULK AT MOST 1048576: true; the input reads as it did. -/
def masksRunsUptoRow : OpenClaim := { program := "ytheajimjmhocgaadoor", sum := "d59baf356dd70c0613f1c8ae395d27bd7f224e13ef11c508c6eccd43caa26c77", func := "ullage/ullagelaw01.MasksRuns", spec := "masksRuns", named := ["math/bits.deBruijn64tab"], apart := false, laid := [("math/bits.deBruijn64tab", laid_math_bits_deBruijn64tab)], narrowed := true }
def MasksRunsUptoSaid : Prop := masksRunsUptoRow.holds Tryd.pinned (OpenSpec.upto masksRunsSpec)

end Rows
end Go.Proofs.YtheajimjmhocgaaDoor
