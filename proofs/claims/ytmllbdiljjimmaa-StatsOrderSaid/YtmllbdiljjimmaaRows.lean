/-
  No cell of these rows narrows 'for every input' (looked for: loops, veiled, ifaces, maps, wideKeys, modest, calm, conditions, laid).
  DERIVED. THE GIVEN ROWS OF THIS SEAT. 12 by the template 'for every input the law returns true; each argument reads behind the call as it read before'; 0 by the template 'total and deterministic' (their statements: YtmllbdiljjimmaaTotals.lean).
  GIVEN WITH THE SEED: the statements are not yours to turn. If you find one false, say at which input.
  Laid BY PROGRAM, IN A SANDBOX (cutbox-rows.mjs): the forced cells as the released guide's own fill.sh prints them over the translation 9b3c102de9a7dc89… (all of the seat's roots in one cut). By AI agents, Wed Nov 11 2026. No macro, syntax, notation, axiom, sorry.
-/
import Derived.Test.YtmllbdiljjimmaaChecked
import GoSem.Claim
import GoSem.ClaimJoined
import GoSem.ClaimMapViews
import Derived.JoinedTies
import Derived.KernelRfl
namespace Go.Proofs.Ytmllbdiljjimmaa
/- THE CELL 'sum', in the pinned program and in every row, IS THE sha256 OF THE DUMP (.gsa) THAT YtmllbdiljjimmaaProg.lean LOADS. Nothing in Lean hashes anything: it is a label: what it is worth is what the hold of that sum in a sandbox is worth. -/
noncomputable def Try.pinned : Pinned := { name := "ytmllbdiljjimmaa", sum := "9b3c102de9a7dc8908945ceba7cd790e68ea199e75d523ffe873ec5c300f835d", checked := Try.checked }
namespace Rows
def none {H : Type} : Left H := { results := [], args := [] }

/-- 'ullagelaw03.ExactCancels': WHATEVER THE INPUT: true; the input reads as it did. -/
def exactCancelsSpec : ChangeSpec := { name := "exactCancels", fn := fun _ => fun
  | [d1, d2] => { results := [.lit (.bool true)], args := [d1, d2] }
  | _ => none }
def exactCancelsRow : OpenClaim := { program := "ytmllbdiljjimmaa", sum := "9b3c102de9a7dc8908945ceba7cd790e68ea199e75d523ffe873ec5c300f835d", func := "ullage/ullagelaw03.ExactCancels", spec := "exactCancels", inPlace := ["math.Float64frombits", "math.Float64bits", "math/bits.Sub64", "math/bits.Add64"], apart := false }
def ExactCancelsSaid : Prop := exactCancelsRow.holds Try.pinned (OpenSpec.ofChange exactCancelsSpec)

/-- ITS FALSE NEIGHBOUR: 'it returns false'. Refute it at one input. -/
def exactCancelsWrong : ChangeSpec := { name := "exactCancels", fn := fun _ => fun
  | [d1, d2] => { results := [.lit (.bool false)], args := [d1, d2] }
  | _ => none }
def ExactCancelsWrongFalsely : Prop := exactCancelsRow.holds Try.pinned (OpenSpec.ofChange exactCancelsWrong)

/-- 'ullagelaw03.ExactSums': WHATEVER THE INPUT: true; the input reads as it did. -/
def exactSumsSpec : ChangeSpec := { name := "exactSums", fn := fun _ => fun
  | [d] => { results := [.lit (.bool true)], args := [d] }
  | _ => none }
def exactSumsRow : OpenClaim := { program := "ytmllbdiljjimmaa", sum := "9b3c102de9a7dc8908945ceba7cd790e68ea199e75d523ffe873ec5c300f835d", func := "ullage/ullagelaw03.ExactSums", spec := "exactSums", inPlace := ["math.Float64frombits", "math.Float64bits", "math/bits.Sub64", "math/bits.Add64"], apart := false }
def ExactSumsSaid : Prop := exactSumsRow.holds Try.pinned (OpenSpec.ofChange exactSumsSpec)

/-- ITS FALSE NEIGHBOUR: 'it returns false'. Refute it at one input. -/
def exactSumsWrong : ChangeSpec := { name := "exactSums", fn := fun _ => fun
  | [d] => { results := [.lit (.bool false)], args := [d] }
  | _ => none }
def ExactSumsWrongFalsely : Prop := exactSumsRow.holds Try.pinned (OpenSpec.ofChange exactSumsWrong)

/-- 'ullagelaw03.ExactTwo': WHATEVER THE INPUT: true; the input reads as it did. -/
def exactTwoSpec : ChangeSpec := { name := "exactTwo", fn := fun _ => fun
  | [d1, d2] => { results := [.lit (.bool true)], args := [d1, d2] }
  | _ => none }
def exactTwoRow : OpenClaim := { program := "ytmllbdiljjimmaa", sum := "9b3c102de9a7dc8908945ceba7cd790e68ea199e75d523ffe873ec5c300f835d", func := "ullage/ullagelaw03.ExactTwo", spec := "exactTwo", inPlace := ["math.Float64frombits", "math.Float64bits", "math/bits.Sub64", "math/bits.Add64"], apart := false }
def ExactTwoSaid : Prop := exactTwoRow.holds Try.pinned (OpenSpec.ofChange exactTwoSpec)

/-- ITS FALSE NEIGHBOUR: 'it returns false'. Refute it at one input. -/
def exactTwoWrong : ChangeSpec := { name := "exactTwo", fn := fun _ => fun
  | [d1, d2] => { results := [.lit (.bool false)], args := [d1, d2] }
  | _ => none }
def ExactTwoWrongFalsely : Prop := exactTwoRow.holds Try.pinned (OpenSpec.ofChange exactTwoWrong)

/-- 'ullagelaw03.ExactMerges': WHATEVER THE INPUT: true; the input reads as it did. -/
def exactMergesSpec : ChangeSpec := { name := "exactMerges", fn := fun _ => fun
  | [d1, d2, d3] => { results := [.lit (.bool true)], args := [d1, d2, d3] }
  | _ => none }
def exactMergesRow : OpenClaim := { program := "ytmllbdiljjimmaa", sum := "9b3c102de9a7dc8908945ceba7cd790e68ea199e75d523ffe873ec5c300f835d", func := "ullage/ullagelaw03.ExactMerges", spec := "exactMerges", inPlace := ["math.Float64frombits", "math.Float64bits", "math/bits.Sub64", "math/bits.Add64"], apart := false }
def ExactMergesSaid : Prop := exactMergesRow.holds Try.pinned (OpenSpec.ofChange exactMergesSpec)

/-- ITS FALSE NEIGHBOUR: 'it returns false'. Refute it at one input. -/
def exactMergesWrong : ChangeSpec := { name := "exactMerges", fn := fun _ => fun
  | [d1, d2, d3] => { results := [.lit (.bool false)], args := [d1, d2, d3] }
  | _ => none }
def ExactMergesWrongFalsely : Prop := exactMergesRow.holds Try.pinned (OpenSpec.ofChange exactMergesWrong)

/-- 'ullagelaw03.ExactNobody': WHATEVER THE INPUT: true; the input reads as it did. -/
def exactNobodySpec : ChangeSpec := { name := "exactNobody", fn := fun _ => fun
  | [d] => { results := [.lit (.bool true)], args := [d] }
  | _ => none }
def exactNobodyRow : OpenClaim := { program := "ytmllbdiljjimmaa", sum := "9b3c102de9a7dc8908945ceba7cd790e68ea199e75d523ffe873ec5c300f835d", func := "ullage/ullagelaw03.ExactNobody", spec := "exactNobody", inPlace := ["math.Float64frombits", "math.Float64bits", "math/bits.Sub64", "math/bits.Add64"], apart := false }
def ExactNobodySaid : Prop := exactNobodyRow.holds Try.pinned (OpenSpec.ofChange exactNobodySpec)

/-- ITS FALSE NEIGHBOUR: 'it returns false'. Refute it at one input. -/
def exactNobodyWrong : ChangeSpec := { name := "exactNobody", fn := fun _ => fun
  | [d] => { results := [.lit (.bool false)], args := [d] }
  | _ => none }
def ExactNobodyWrongFalsely : Prop := exactNobodyRow.holds Try.pinned (OpenSpec.ofChange exactNobodyWrong)

/-- 'ullagelaw03.ExactCompares': WHATEVER THE INPUT: true; the input reads as it did. -/
def exactComparesSpec : ChangeSpec := { name := "exactCompares", fn := fun _ => fun
  | [d1, d2] => { results := [.lit (.bool true)], args := [d1, d2] }
  | _ => none }
def exactComparesRow : OpenClaim := { program := "ytmllbdiljjimmaa", sum := "9b3c102de9a7dc8908945ceba7cd790e68ea199e75d523ffe873ec5c300f835d", func := "ullage/ullagelaw03.ExactCompares", spec := "exactCompares", inPlace := ["math.Float64frombits", "math.Float64bits", "math/bits.Sub64", "math/bits.Add64"], apart := false }
def ExactComparesSaid : Prop := exactComparesRow.holds Try.pinned (OpenSpec.ofChange exactComparesSpec)

/-- ITS FALSE NEIGHBOUR: 'it returns false'. Refute it at one input. -/
def exactComparesWrong : ChangeSpec := { name := "exactCompares", fn := fun _ => fun
  | [d1, d2] => { results := [.lit (.bool false)], args := [d1, d2] }
  | _ => none }
def ExactComparesWrongFalsely : Prop := exactComparesRow.holds Try.pinned (OpenSpec.ofChange exactComparesWrong)

/-- 'ullagelaw34.PacerPlays': WHATEVER THE INPUT: true; the input reads as it did. -/
def pacerPlaysSpec : ChangeSpec := { name := "pacerPlays", fn := fun _ => fun
  | [d1, d2, d3] => { results := [.lit (.bool true)], args := [d1, d2, d3] }
  | _ => none }
def pacerPlaysRow : OpenClaim := { program := "ytmllbdiljjimmaa", sum := "9b3c102de9a7dc8908945ceba7cd790e68ea199e75d523ffe873ec5c300f835d", func := "ullage/ullagelaw34.PacerPlays", spec := "pacerPlays", inPlace := ["math.Float64bits", "math.Float64frombits", "math/bits.Sub64", "math/bits.Add64"], apart := false }
def PacerPlaysSaid : Prop := pacerPlaysRow.holds Try.pinned (OpenSpec.ofChange pacerPlaysSpec)

/-- ITS FALSE NEIGHBOUR: 'it returns false'. Refute it at one input. -/
def pacerPlaysWrong : ChangeSpec := { name := "pacerPlays", fn := fun _ => fun
  | [d1, d2, d3] => { results := [.lit (.bool false)], args := [d1, d2, d3] }
  | _ => none }
def PacerPlaysWrongFalsely : Prop := pacerPlaysRow.holds Try.pinned (OpenSpec.ofChange pacerPlaysWrong)

/-- 'ullagelaw34.PacerNobody': WHATEVER THE INPUT: true; the input reads as it did. -/
def pacerNobodySpec : ChangeSpec := { name := "pacerNobody", fn := fun _ => fun
  | [d1, d2] => { results := [.lit (.bool true)], args := [d1, d2] }
  | _ => none }
def pacerNobodyRow : OpenClaim := { program := "ytmllbdiljjimmaa", sum := "9b3c102de9a7dc8908945ceba7cd790e68ea199e75d523ffe873ec5c300f835d", func := "ullage/ullagelaw34.PacerNobody", spec := "pacerNobody", inPlace := ["math.Float64frombits", "math.Float64bits", "math/bits.Sub64", "math/bits.Add64"], apart := false }
def PacerNobodySaid : Prop := pacerNobodyRow.holds Try.pinned (OpenSpec.ofChange pacerNobodySpec)

/-- ITS FALSE NEIGHBOUR: 'it returns false'. Refute it at one input. -/
def pacerNobodyWrong : ChangeSpec := { name := "pacerNobody", fn := fun _ => fun
  | [d1, d2] => { results := [.lit (.bool false)], args := [d1, d2] }
  | _ => none }
def PacerNobodyWrongFalsely : Prop := pacerNobodyRow.holds Try.pinned (OpenSpec.ofChange pacerNobodyWrong)

/-- 'ullagelaw34.PacerBounds': WHATEVER THE INPUT: true; the input reads as it did. -/
def pacerBoundsSpec : ChangeSpec := { name := "pacerBounds", fn := fun _ => fun
  | [d1, d2, d3] => { results := [.lit (.bool true)], args := [d1, d2, d3] }
  | _ => none }
def pacerBoundsRow : OpenClaim := { program := "ytmllbdiljjimmaa", sum := "9b3c102de9a7dc8908945ceba7cd790e68ea199e75d523ffe873ec5c300f835d", func := "ullage/ullagelaw34.PacerBounds", spec := "pacerBounds", inPlace := ["math.Float64frombits", "math.Float64bits", "math/bits.Sub64", "math/bits.Add64"], apart := false }
def PacerBoundsSaid : Prop := pacerBoundsRow.holds Try.pinned (OpenSpec.ofChange pacerBoundsSpec)

/-- ITS FALSE NEIGHBOUR: 'it returns false'. Refute it at one input. -/
def pacerBoundsWrong : ChangeSpec := { name := "pacerBounds", fn := fun _ => fun
  | [d1, d2, d3] => { results := [.lit (.bool false)], args := [d1, d2, d3] }
  | _ => none }
def PacerBoundsWrongFalsely : Prop := pacerBoundsRow.holds Try.pinned (OpenSpec.ofChange pacerBoundsWrong)

/-- 'ullagelaw35.StatsOrder': WHATEVER THE INPUT: true; the input reads as it did. -/
def statsOrderSpec : ChangeSpec := { name := "statsOrder", fn := fun _ => fun
  | [d1, d2] => { results := [.lit (.bool true)], args := [d1, d2] }
  | _ => none }
def statsOrderRow : OpenClaim := { program := "ytmllbdiljjimmaa", sum := "9b3c102de9a7dc8908945ceba7cd790e68ea199e75d523ffe873ec5c300f835d", func := "ullage/ullagelaw35.StatsOrder", spec := "statsOrder", inPlace := ["math.Float64frombits", "math.Float64bits", "slices.overlaps[float64]", "math/bits.Sub64", "math/bits.Add64"], unfollowed := true, recurses := true, apart := false }
def StatsOrderSaid : Prop := statsOrderRow.holds Try.pinned (OpenSpec.ofChange statsOrderSpec)

/-- ITS FALSE NEIGHBOUR: 'it returns false'. Refute it at one input. -/
def statsOrderWrong : ChangeSpec := { name := "statsOrder", fn := fun _ => fun
  | [d1, d2] => { results := [.lit (.bool false)], args := [d1, d2] }
  | _ => none }
def StatsOrderWrongFalsely : Prop := statsOrderRow.holds Try.pinned (OpenSpec.ofChange statsOrderWrong)

/-- 'ullagelaw35.StatsTells': WHATEVER THE INPUT: true; the input reads as it did. -/
def statsTellsSpec : ChangeSpec := { name := "statsTells", fn := fun _ => fun
  | [d1, d2, d3] => { results := [.lit (.bool true)], args := [d1, d2, d3] }
  | _ => none }
def statsTellsRow : OpenClaim := { program := "ytmllbdiljjimmaa", sum := "9b3c102de9a7dc8908945ceba7cd790e68ea199e75d523ffe873ec5c300f835d", func := "ullage/ullagelaw35.StatsTells", spec := "statsTells", inPlace := ["math.Float64frombits", "math.Float64bits", "slices.overlaps[float64]", "math/bits.Sub64", "math/bits.Add64"], unfollowed := true, recurses := true, apart := false }
def StatsTellsSaid : Prop := statsTellsRow.holds Try.pinned (OpenSpec.ofChange statsTellsSpec)

/-- ITS FALSE NEIGHBOUR: 'it returns false'. Refute it at one input. -/
def statsTellsWrong : ChangeSpec := { name := "statsTells", fn := fun _ => fun
  | [d1, d2, d3] => { results := [.lit (.bool false)], args := [d1, d2, d3] }
  | _ => none }
def StatsTellsWrongFalsely : Prop := statsTellsRow.holds Try.pinned (OpenSpec.ofChange statsTellsWrong)

/-- 'ullagelaw35.StatsNobody': WHATEVER THE INPUT: true; the input reads as it did. -/
def statsNobodySpec : ChangeSpec := { name := "statsNobody", fn := fun _ => fun
  | [d1, d2] => { results := [.lit (.bool true)], args := [d1, d2] }
  | _ => none }
def statsNobodyRow : OpenClaim := { program := "ytmllbdiljjimmaa", sum := "9b3c102de9a7dc8908945ceba7cd790e68ea199e75d523ffe873ec5c300f835d", func := "ullage/ullagelaw35.StatsNobody", spec := "statsNobody", inPlace := ["math.Float64frombits", "math.Float64bits", "slices.overlaps[float64]", "math/bits.Sub64", "math/bits.Add64"], unfollowed := true, recurses := true, apart := false }
def StatsNobodySaid : Prop := statsNobodyRow.holds Try.pinned (OpenSpec.ofChange statsNobodySpec)

/-- ITS FALSE NEIGHBOUR: 'it returns false'. Refute it at one input. -/
def statsNobodyWrong : ChangeSpec := { name := "statsNobody", fn := fun _ => fun
  | [d1, d2] => { results := [.lit (.bool false)], args := [d1, d2] }
  | _ => none }
def StatsNobodyWrongFalsely : Prop := statsNobodyRow.holds Try.pinned (OpenSpec.ofChange statsNobodyWrong)

/- THE SECOND FORM. 'bulk': how many values and letters a reading holds, each counted each time it is reached (what is shared counts as often as it is met; a slice's spare places count too). A statement '..UptoSaid' is the law's where the arguments, and the package variables that the reading takes, are together of bulk at most 1048576: NARROWER than '..Said'. Prove '..Said' where nothing that the law and all that it calls make is longer than what came in: it says more and counts as full. Else prove '..UptoSaid'. A law counts once. -/
mutual
def uptoBulk {H : Type} : DataW H → Nat
  | .lit (.string bytes) => bytes.length + 1
  | .lit _ => 1
  | .nil => 1
  | .ptr d => uptoBulk d + 1
  | .slice elems spare => uptoBulkAll elems + uptoBulkAll spare + 1
  | .agg parts => uptoBulkAll parts + 1
  | .iface _ d => uptoBulk d + 1
  | .map entries => uptoBulkEntries entries + 1
  | .held _ => 1
def uptoBulkAll {H : Type} : List (DataW H) → Nat
  | [] => 0
  | d :: r => uptoBulk d + uptoBulkAll r
def uptoBulkEntries {H : Type} : List (Lit × DataW H) → Nat
  | [] => 0
  | x :: r => uptoBulkEntry x + uptoBulkEntries r
def uptoBulkEntry {H : Type} : Lit × DataW H → Nat
  | (.string bytes, d) => bytes.length + uptoBulk d + 1
  | (_, d) => uptoBulk d + 1
 end
def uptoSmall : (H : Type) → List (DataW H) → Bool := fun _ ds => decide (uptoBulkAll ds ≤ 1048576)
def OpenSpec.upto (s : _root_.Go.ChangeSpec) : _root_.Go.OpenSpec := { _root_.Go.OpenSpec.ofChange s with cond := some uptoSmall }

/-- 'ullagelaw03.ExactCancels', WHERE WHAT IT READS IS OF BULK AT MOST 1048576: true; the input reads as it did. -/
def exactCancelsUptoRow : OpenClaim := { program := "ytmllbdiljjimmaa", sum := "9b3c102de9a7dc8908945ceba7cd790e68ea199e75d523ffe873ec5c300f835d", func := "ullage/ullagelaw03.ExactCancels", spec := "exactCancels", inPlace := ["math.Float64frombits", "math.Float64bits", "math/bits.Sub64", "math/bits.Add64"], apart := false, narrowed := true }
def ExactCancelsUptoSaid : Prop := exactCancelsUptoRow.holds Try.pinned (OpenSpec.upto exactCancelsSpec)

/-- 'ullagelaw03.ExactSums', WHERE WHAT IT READS IS OF BULK AT MOST 1048576: true; the input reads as it did. -/
def exactSumsUptoRow : OpenClaim := { program := "ytmllbdiljjimmaa", sum := "9b3c102de9a7dc8908945ceba7cd790e68ea199e75d523ffe873ec5c300f835d", func := "ullage/ullagelaw03.ExactSums", spec := "exactSums", inPlace := ["math.Float64frombits", "math.Float64bits", "math/bits.Sub64", "math/bits.Add64"], apart := false, narrowed := true }
def ExactSumsUptoSaid : Prop := exactSumsUptoRow.holds Try.pinned (OpenSpec.upto exactSumsSpec)

/-- 'ullagelaw03.ExactTwo', WHERE WHAT IT READS IS OF BULK AT MOST 1048576: true; the input reads as it did. -/
def exactTwoUptoRow : OpenClaim := { program := "ytmllbdiljjimmaa", sum := "9b3c102de9a7dc8908945ceba7cd790e68ea199e75d523ffe873ec5c300f835d", func := "ullage/ullagelaw03.ExactTwo", spec := "exactTwo", inPlace := ["math.Float64frombits", "math.Float64bits", "math/bits.Sub64", "math/bits.Add64"], apart := false, narrowed := true }
def ExactTwoUptoSaid : Prop := exactTwoUptoRow.holds Try.pinned (OpenSpec.upto exactTwoSpec)

/-- 'ullagelaw03.ExactMerges', WHERE WHAT IT READS IS OF BULK AT MOST 1048576: true; the input reads as it did. -/
def exactMergesUptoRow : OpenClaim := { program := "ytmllbdiljjimmaa", sum := "9b3c102de9a7dc8908945ceba7cd790e68ea199e75d523ffe873ec5c300f835d", func := "ullage/ullagelaw03.ExactMerges", spec := "exactMerges", inPlace := ["math.Float64frombits", "math.Float64bits", "math/bits.Sub64", "math/bits.Add64"], apart := false, narrowed := true }
def ExactMergesUptoSaid : Prop := exactMergesUptoRow.holds Try.pinned (OpenSpec.upto exactMergesSpec)

/-- 'ullagelaw03.ExactNobody', WHERE WHAT IT READS IS OF BULK AT MOST 1048576: true; the input reads as it did. -/
def exactNobodyUptoRow : OpenClaim := { program := "ytmllbdiljjimmaa", sum := "9b3c102de9a7dc8908945ceba7cd790e68ea199e75d523ffe873ec5c300f835d", func := "ullage/ullagelaw03.ExactNobody", spec := "exactNobody", inPlace := ["math.Float64frombits", "math.Float64bits", "math/bits.Sub64", "math/bits.Add64"], apart := false, narrowed := true }
def ExactNobodyUptoSaid : Prop := exactNobodyUptoRow.holds Try.pinned (OpenSpec.upto exactNobodySpec)

/-- 'ullagelaw03.ExactCompares', WHERE WHAT IT READS IS OF BULK AT MOST 1048576: true; the input reads as it did. -/
def exactComparesUptoRow : OpenClaim := { program := "ytmllbdiljjimmaa", sum := "9b3c102de9a7dc8908945ceba7cd790e68ea199e75d523ffe873ec5c300f835d", func := "ullage/ullagelaw03.ExactCompares", spec := "exactCompares", inPlace := ["math.Float64frombits", "math.Float64bits", "math/bits.Sub64", "math/bits.Add64"], apart := false, narrowed := true }
def ExactComparesUptoSaid : Prop := exactComparesUptoRow.holds Try.pinned (OpenSpec.upto exactComparesSpec)

/-- 'ullagelaw34.PacerPlays', WHERE WHAT IT READS IS OF BULK AT MOST 1048576: true; the input reads as it did. -/
def pacerPlaysUptoRow : OpenClaim := { program := "ytmllbdiljjimmaa", sum := "9b3c102de9a7dc8908945ceba7cd790e68ea199e75d523ffe873ec5c300f835d", func := "ullage/ullagelaw34.PacerPlays", spec := "pacerPlays", inPlace := ["math.Float64bits", "math.Float64frombits", "math/bits.Sub64", "math/bits.Add64"], apart := false, narrowed := true }
def PacerPlaysUptoSaid : Prop := pacerPlaysUptoRow.holds Try.pinned (OpenSpec.upto pacerPlaysSpec)

/-- 'ullagelaw34.PacerNobody', WHERE WHAT IT READS IS OF BULK AT MOST 1048576: true; the input reads as it did. -/
def pacerNobodyUptoRow : OpenClaim := { program := "ytmllbdiljjimmaa", sum := "9b3c102de9a7dc8908945ceba7cd790e68ea199e75d523ffe873ec5c300f835d", func := "ullage/ullagelaw34.PacerNobody", spec := "pacerNobody", inPlace := ["math.Float64frombits", "math.Float64bits", "math/bits.Sub64", "math/bits.Add64"], apart := false, narrowed := true }
def PacerNobodyUptoSaid : Prop := pacerNobodyUptoRow.holds Try.pinned (OpenSpec.upto pacerNobodySpec)

/-- 'ullagelaw34.PacerBounds', WHERE WHAT IT READS IS OF BULK AT MOST 1048576: true; the input reads as it did. -/
def pacerBoundsUptoRow : OpenClaim := { program := "ytmllbdiljjimmaa", sum := "9b3c102de9a7dc8908945ceba7cd790e68ea199e75d523ffe873ec5c300f835d", func := "ullage/ullagelaw34.PacerBounds", spec := "pacerBounds", inPlace := ["math.Float64frombits", "math.Float64bits", "math/bits.Sub64", "math/bits.Add64"], apart := false, narrowed := true }
def PacerBoundsUptoSaid : Prop := pacerBoundsUptoRow.holds Try.pinned (OpenSpec.upto pacerBoundsSpec)

/-- 'ullagelaw35.StatsOrder', WHERE WHAT IT READS IS OF BULK AT MOST 1048576: true; the input reads as it did. -/
def statsOrderUptoRow : OpenClaim := { program := "ytmllbdiljjimmaa", sum := "9b3c102de9a7dc8908945ceba7cd790e68ea199e75d523ffe873ec5c300f835d", func := "ullage/ullagelaw35.StatsOrder", spec := "statsOrder", inPlace := ["math.Float64frombits", "math.Float64bits", "slices.overlaps[float64]", "math/bits.Sub64", "math/bits.Add64"], unfollowed := true, recurses := true, apart := false, narrowed := true }
def StatsOrderUptoSaid : Prop := statsOrderUptoRow.holds Try.pinned (OpenSpec.upto statsOrderSpec)

/-- 'ullagelaw35.StatsTells', WHERE WHAT IT READS IS OF BULK AT MOST 1048576: true; the input reads as it did. -/
def statsTellsUptoRow : OpenClaim := { program := "ytmllbdiljjimmaa", sum := "9b3c102de9a7dc8908945ceba7cd790e68ea199e75d523ffe873ec5c300f835d", func := "ullage/ullagelaw35.StatsTells", spec := "statsTells", inPlace := ["math.Float64frombits", "math.Float64bits", "slices.overlaps[float64]", "math/bits.Sub64", "math/bits.Add64"], unfollowed := true, recurses := true, apart := false, narrowed := true }
def StatsTellsUptoSaid : Prop := statsTellsUptoRow.holds Try.pinned (OpenSpec.upto statsTellsSpec)

/-- 'ullagelaw35.StatsNobody', WHERE WHAT IT READS IS OF BULK AT MOST 1048576: true; the input reads as it did. -/
def statsNobodyUptoRow : OpenClaim := { program := "ytmllbdiljjimmaa", sum := "9b3c102de9a7dc8908945ceba7cd790e68ea199e75d523ffe873ec5c300f835d", func := "ullage/ullagelaw35.StatsNobody", spec := "statsNobody", inPlace := ["math.Float64frombits", "math.Float64bits", "slices.overlaps[float64]", "math/bits.Sub64", "math/bits.Add64"], unfollowed := true, recurses := true, apart := false, narrowed := true }
def StatsNobodyUptoSaid : Prop := statsNobodyUptoRow.holds Try.pinned (OpenSpec.upto statsNobodySpec)

end Rows
end Go.Proofs.Ytmllbdiljjimmaa
