/- The walk of float.Same; posts. -/
import Derived.Test.YtcmdcclolkgjeaaDoorFMost
namespace Go.Proofs.YtcmdcclolkgjeaaDoor
open Go.RowKit

theorem same_any (a b : Nat) (w : World) :
    Calls Tryd.prog 23 #[.float .f64 a, .float .f64 b] w fun e w' => e = .returned (.bool (a == b)) ∧ w = w' := by
  have H1 := Lib.hid (bits_any a w)
  have H2 := Lib.hid (bits_any b w)
  have hq : ((a : Int) == (b : Int)) = (a == b) := by rw [Bool.eq_iff_iff, beq_iff_eq, beq_iff_eq]; omega
  generalize hr : (a == b) = r at *
  have HQ := Lib.hid hq
  have HR := Lib.hid hr
  clear hr hq
  go_enter Tryd.func23, Tryd.ntmps23
  go_wp2_with fail
  refine (H1.out).mono ?_
  rintro e w' ⟨rfl, rfl⟩
  go_wp2_with fail
  refine (H2.out).mono ?_
  rintro e w' ⟨rfl, rfl⟩
  go_wp2
  go_ret
  exact ⟨by first | exact congrArg (fun b => Ending.returned (.bool b)) HQ.out | exact congrArg (fun b => Ending.returned (.bool b)) HR.out, rfl⟩

/-! ### The examples -/
def BPost (w : World) (v : Bool) (e : Ending) (w' : World) : Prop := e = .returned (.bool v) ∧ Fr (fun _ => False) w w'
def LawPost (w : World) (e : Ending) (w' : World) : Prop := e = .returned (.bool true) ∧ Fr (fun _ => False) w w'
end Go.Proofs.YtcmdcclolkgjeaaDoor
