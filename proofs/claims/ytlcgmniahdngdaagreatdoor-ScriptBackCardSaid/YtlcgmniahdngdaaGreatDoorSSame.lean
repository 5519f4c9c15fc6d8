/- The walks of ops.Same and ops.only. -/
import Derived.Test.YtlcgmniahdngdaaGreatDoorSRight2
import Derived.Laws.StructEq
import Derived.Deep.MidRow
namespace Go.Proofs.YtlcgmniahdngdaaGreatDoor
open Go.RowKit Go.Great

/-- The same but for the float. -/
def restB (x y : OpR) : Bool := x.k == y.k && x.a == y.a && x.b == y.b && x.i == y.i && x.p == y.p && x.f == y.f && x.g == y.g && x.x == y.x
theorem nat_beq (a b : Nat) : ((a : Int) == (b : Int)) = (a == b) := by rw [Bool.eq_iff_iff, beq_iff_eq, beq_iff_eq]; omega
set_option maxRecDepth 100000 in
set_option maxHeartbeats 1600000 in
theorem op_eql (x y : OpR) (w : World) : (binOp .eql 32 (.agg #[.int .i64 x.k, .int .i64 x.a, .int .i64 x.b, .int .i64 x.i, .int .i64 x.p, .int .i64 x.f, .int .i64 x.g, .int .u64 (x.x : Int), .float .f64 0]) (.agg #[.int .i64 y.k, .int .i64 y.a, .int .i64 y.b, .int .i64 y.i, .int .i64 y.p, .int .i64 y.f, .int .i64 y.g, .int .u64 (y.x : Int), .float .f64 0])).run Tryz.prog w = .ok (.bool (restB x y)) w := by
  have hS : Tryz.prog.underlying 32 = some (.struct (Tryz.prog.fieldsOf 32)) := by kernel_rfl
  have hp : Tryz.prog.stoodInHeld 32 = false := by kernel_rfl
  have hS2 : Tryz.prog.underlying 28 = some (.struct (Tryz.prog.fieldsOf 28)) := by kernel_rfl
  have hp2 : Tryz.prog.stoodInHeld 28 = false := by kernel_rfl
  have u3 := Tryz.underlying3
  have a3 := Tryz.isAgg3
  have z3 := Tryz.sizeOf3
  have u29 := Tryz.underlying29
  have a29 := Tryz.isAgg29
  have z29 := Tryz.sizeOf29
  have u30 := Tryz.underlying30
  have a30 := Tryz.isAgg30
  have z30 := Tryz.sizeOf30
  have a28 := Tryz.isAgg28
  have z28 := Tryz.sizeOf28
  have hf0 : ∀ (d : Nat) w, (Op.equalIn (d + 1) 30 (.float .f64 0) (.float .f64 0)).run Tryz.prog w = .ok true w := fun d w => by kernel_rfl
  have hf : ∀ w, (Op.equalIn 9999 30 (.float .f64 0) (.float .f64 0)).run Tryz.prog w = .ok true w := fun w => hf0 9998 w
  have hh : ∀ w, (Op.equalIn 9999 28 (.agg #[.int .i64 x.p, .int .i64 x.f, .int .i64 x.g]) (.agg #[.int .i64 y.p, .int .i64 y.f, .int .i64 y.g])).run Tryz.prog w = .ok (x.p == y.p && x.f == y.f && x.g == y.g) w := fun w => by
    rw [show (9999 : Nat) = 9998 + 1 from rfl, run_equalIn_agg w 9998 28 _ _ hS2 hp2]
    simp only [Program.fieldsOf, Tryz.underlying28]
    go_simp
    (repeat' split) <;> simp_all
  have hr : restB x y = (x.k == y.k && (x.a == y.a && (x.b == y.b && (x.i == y.i && ((x.p == y.p && x.f == y.f && x.g == y.g) && x.x == y.x))))) := by
    unfold restB; simp only [Bool.and_assoc]
  rw [hr]
  generalize (x.p == y.p && x.f == y.f && x.g == y.g) = hb at hh ⊢
  have hn := nat_beq x.x y.x
  rw [run_eql_struct, show (10000 : Nat) = 9999 + 1 from rfl, run_equalIn_agg w 9999 32 _ _ hS hp]
  simp only [Program.fieldsOf, Tryz.underlying32]
  go_simp
  clear hr hh hf hf0
  (by_cases h1 : x.k = y.k); rotate_left; · simp [h1]
  (by_cases h2 : x.a = y.a); rotate_left; · simp [h1, h2]
  (by_cases h3 : x.b = y.b); rotate_left; · simp [h1, h2, h3]
  (by_cases h4 : x.i = y.i); rotate_left; · simp [h1, h2, h3, h4]
  cases hb
  · simp [h1, h2, h3, h4]
  (by_cases h5 : x.x = y.x); rotate_left
  · simp [h1, h2, h3, h4, h5]
  · simp [h1, h2, h3, h4, h5]
def OpR.val (o : OpR) : Value := .agg #[.int .i64 o.k, .int .i64 o.a, .int .i64 o.b, .int .i64 o.i, .int .i64 o.p, .int .i64 o.f, .int .i64 o.g, .int .u64 (o.x : Int), .float .f64 o.q]
theorem run_store_float {P : Program} {w : World} {a : Addr} {m : Mode} (k : FloatKind) (n : Nat) : (store a (.float k n) m).run P w = stored P w a (.float k n) m := run_store P w a _ m rfl
attribute [local go_sem] run_store_float
/-- The cells of a struct's block. -/
theorem cells9 {w : World} {b : Nat} {t : TypeId} {v0 v1 v2 v3 v4 v5 v6 v7 v8 : Value} (h : Blk w b [v0, v1, v2, v3, v4, v5, v6, v7, v8] t) :
    w.cell? ⟨b, 0, none⟩ = some v0 ∧ w.cell? ⟨b, 1, none⟩ = some v1 ∧ w.cell? ⟨b, 2, none⟩ = some v2 ∧ w.cell? ⟨b, 3, none⟩ = some v3 ∧ w.cell? ⟨b, 4, none⟩ = some v4 ∧ w.cell? ⟨b, 5, none⟩ = some v5 ∧ w.cell? ⟨b, 6, none⟩ = some v6 ∧ w.cell? ⟨b, 7, none⟩ = some v7 ∧ w.cell? ⟨b, 8, none⟩ = some v8 :=
  ⟨h.cell 0 rfl, h.cell 1 rfl, h.cell 2 rfl, h.cell 3 rfl, h.cell 4 rfl, h.cell 5 rfl, h.cell 6 rfl, h.cell 7 rfl, h.cell 8 rfl⟩

set_option maxRecDepth 100000 in
set_option maxHeartbeats 1600000 in
theorem osame_any (x y : OpR) (w : World) : Calls Tryz.prog 42 #[x.val, y.val] w (RtPost w (x.q == y.q && restB x y)) := by
  have HS := Lib.hid (same_any x.q y.q)
  have HE := Lib.hid (op_eql x y)
  have HR : Hid (∀ r, (x.q == y.q && restB x y) = r → ∀ w', Fr (fun _ => False) w w' → RtPost w (x.q == y.q && restB x y) (.returned (.bool r)) w') := fun r hr w' hf => ⟨by rw [hr], hf⟩
  unfold OpR.val
  obtain ⟨c, hc⟩ : ∃ c, (x.q == y.q) = c := ⟨_, rfl⟩
  obtain ⟨d, hd⟩ : ∃ d, restB x y = d := ⟨_, rfl⟩
  rw [hc] at HS
  rw [hd] at HE
  rw [hc, hd] at HR ⊢
  clear hc hd
  go_enter Tryz.func42, Tryz.ntmps42
  go_upto_region 1 with fail
  have hbx := (Blk.new w [.int .i64 x.k, .int .i64 x.a, .int .i64 x.b, .int .i64 x.i, .int .i64 x.p, .int .i64 x.f, .int .i64 x.g, .int .u64 (x.x : Int), .float .f64 x.q] 32).alloc (.cells #[.int .i64 y.k, .int .i64 y.a, .int .i64 y.b, .int .i64 y.i, .int .i64 y.p, .int .i64 y.f, .int .i64 y.g, .int .u64 (y.x : Int), .float .f64 y.q] 32)
  have hby := Blk.new (w.alloc (.cells #[.int .i64 x.k, .int .i64 x.a, .int .i64 x.b, .int .i64 x.i, .int .i64 x.p, .int .i64 x.f, .int .i64 x.g, .int .u64 (x.x : Int), .float .f64 x.q] 32)) [.int .i64 y.k, .int .i64 y.a, .int .i64 y.b, .int .i64 y.i, .int .i64 y.p, .int .i64 y.f, .int .i64 y.g, .int .u64 (y.x : Int), .float .f64 y.q] 32
  rw [World.size_alloc] at hby
  have hF := (((Fr.refl (fun _ => False) w).alloc (.cells #[.int .i64 x.k, .int .i64 x.a, .int .i64 x.b, .int .i64 x.i, .int .i64 x.p, .int .i64 x.f, .int .i64 x.g, .int .u64 (x.x : Int), .float .f64 x.q] 32))).alloc (.cells #[.int .i64 y.k, .int .i64 y.a, .int .i64 y.b, .int .i64 y.i, .int .i64 y.p, .int .i64 y.f, .int .i64 y.g, .int .u64 (y.x : Int), .float .f64 y.q] 32)
  generalize (w.alloc (.cells #[.int .i64 x.k, .int .i64 x.a, .int .i64 x.b, .int .i64 x.i, .int .i64 x.p, .int .i64 x.f, .int .i64 x.g, .int .u64 (x.x : Int), .float .f64 x.q] 32)).alloc (.cells #[.int .i64 y.k, .int .i64 y.a, .int .i64 y.b, .int .i64 y.i, .int .i64 y.p, .int .i64 y.f, .int .i64 y.g, .int .u64 (y.x : Int), .float .f64 y.q] 32) = W at *
  have c1 := hbx.cell 8 rfl
  have f1 := hbx.free 8
  have c2 := hby.cell 8 rfl
  have f2 := hby.free 8
  go_wp2_with fail
  refine (HS.out _).mono ?_
  rintro e w1 ⟨rfl, rfl⟩
  have hbx2 := (hbx.set 8 (.float .f64 0)).setOther ⟨w.heap.size + 1, 8, none⟩ (.float .f64 0) (by simp)
  have hby2 := (hby.setOther ⟨w.heap.size, 8, none⟩ (.float .f64 0) (by simp)).set 8 (.float .f64 0)
  have hF2 := Lib.hid ((hF.setCell ⟨w.heap.size, 8, none⟩ (.inr (Nat.le_refl _)) (.float .f64 0)).setCell ⟨w.heap.size + 1, 8, none⟩ (.inr (by simp)) (.float .f64 0))
  have c3 := (hby.setOther ⟨w.heap.size, 8, none⟩ (.float .f64 0) (by simp)).cell 8 rfl
  have f3 := (hby.setOther ⟨w.heap.size, 8, none⟩ (.float .f64 0) (by simp)).free 8
  simp only [List.set_cons_zero, List.set_cons_succ] at hbx2 hby2
  obtain ⟨p0, p1, p2, p3, p4, p5, p6, p7, p8⟩ := cells9 hbx2
  obtain ⟨q0, q1, q2, q3, q4, q5, q6, q7, q8⟩ := cells9 hby2
  have he := HE.out
  clear hF hbx hby hbx2 hby2
  go_upto_region 3 with fail
  generalize (W.setCell ⟨w.heap.size, 8, none⟩ (.float .f64 0)).setCell ⟨w.heap.size + 1, 8, none⟩ (.float .f64 0) = W2 at *
  clear c1 c2 c3 f1 f2 f3
  have hm : Tryz.prog.eqGuardType Tryz.prog.depth 32 = false := by kernel_rfl
  cases c
  · go_wp2
    go_ret
    exact HR.out _ (by simp) _ hF2.out
  · go_wp2
    go_ret
    exact HR.out _ (by simp) _ hF2.out
end Go.Proofs.YtlcgmniahdngdaaGreatDoor
