import Derived.Test.YthahbijbpinneaaGreatDoorA0
import Derived.Test.YthahbijbpinneaaGreatDoorA25
import Derived.MakeChecks
import Derived.Lib.LaidTab
import Derived.Test.YthahbijbpinneaaGreatDoorRows
set_option maxRecDepth 100000
set_option maxHeartbeats 8000000
set_option linter.all false
namespace Go.Proofs.YthahbijbpinneaaGreatDoor
open Go.RowKit
def lu:List Sc:=[.int .i64,.int .i64,.int .i64,.int .i64,.int .i64,.int .i64,.int .i64,.float .f64]
theorem oZ {n:Int} (h:(Lit.int .i64 n).wf=true):n≤9223372036854775807:=by
 simp [Lit.wf,IntKind.min,IntKind.max,IntKind.bits,IntKind.signed] at h;omega
theorem iF {cs:List Value} (h:db lu cs):∃(v0 v1 v2 v3 v4 v5 v6:Int) (tr:Nat),.agg cs.toArray=d8 v0 v1 v2 v3 v4 v5 v6 tr∧v1≤9223372036854775807∧v2≤9223372036854775807∧v3≤9223372036854775807:=by
 rcases cs with _|⟨_,cs⟩
 ·exact h.elim
 obtain ⟨⟨v0,rfl,g0⟩,h⟩:=h;rcases cs with _|⟨_,cs⟩
 ·exact h.elim
 obtain ⟨⟨v1,rfl,g1⟩,h⟩:=h;rcases cs with _|⟨_,cs⟩
 ·exact h.elim
 obtain ⟨⟨v2,rfl,g2⟩,h⟩:=h;rcases cs with _|⟨_,cs⟩
 ·exact h.elim
 obtain ⟨⟨v3,rfl,g3⟩,h⟩:=h;rcases cs with _|⟨_,cs⟩
 ·exact h.elim
 obtain ⟨⟨v4,rfl,g4⟩,h⟩:=h;rcases cs with _|⟨_,cs⟩
 ·exact h.elim
 obtain ⟨⟨v5,rfl,g5⟩,h⟩:=h;rcases cs with _|⟨_,cs⟩
 ·exact h.elim
 obtain ⟨⟨v6,rfl,g6⟩,h⟩:=h;rcases cs with _|⟨_,cs⟩
 ·exact h.elim
 obtain ⟨⟨tr,rfl,g7⟩,h⟩:=h;rcases cs with _|⟨_,cs⟩
 rotate_left
 ·exact h.elim
 exact ⟨v0,v1,v2,v3,v4,v5,v6,tr,rfl,oZ g1,oZ g2,oZ g3⟩
theorem yS:Tryz.prog.globalNamed "math/bits.deBruijn64tab" =some 1:=by kernel_rfl
theorem yU:(Tryz.prog.globals[1]?).map (·.type)=some 359:=by kernel_rfl
theorem la {W:World} (h:laidMetH Tryz.prog [("math/bits.deBruijn64tab",Rows.laid_math_bits_deBruijn64tab)] W):bu W:=by
 rw [MakeChecks.laidMetH_plain _ _ _ (by kernel_rfl)] at h;obtain ⟨ps,⟨g0,t0,cs0,f0,p0,q0,hg0,ht0,hv0,hd0,_⟩,_⟩:=h;obtain rfl:=Option.some.inj (yS.symm.trans hg0);obtain rfl:=Option.some.inj (yU.symm.trans ht0);have hc:=Lib.cells_of_tab (k:= .u8) (zs:=wF.map Int.ofNat) Tryz.underlying359 Tryz.underlying5 (by kernel_rfl) (by kernel_rfl) hd0;intro i k hi;have:=World.var?_cell hg0 hv0 i;rw [this,←Array.getElem?_toList,hc];simp [hi]
end Go.Proofs.YthahbijbpinneaaGreatDoor
