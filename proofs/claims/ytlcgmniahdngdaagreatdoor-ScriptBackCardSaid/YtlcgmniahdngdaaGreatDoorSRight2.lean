/- The walk of the document's Right. -/
import Derived.Test.YtlcgmniahdngdaaGreatDoorSRight
namespace Go.Proofs.YtlcgmniahdngdaaGreatDoor
open Go.RowKit Go.Great

def badB (s : List UInt8) (o : OpR) : Bool := (!s.contains 97 && o.a != 0) || (!s.contains 98 && o.b != 0) || (!s.contains 105 && o.i != 0) || (!s.contains 119 && o.x != 0) || (!s.contains 102 && o.q != 0)
/-- Is an operation right: no field but those of its kind. -/
def rightB (o : OpR) : Bool := isK o.k && !badB (shB o.k) o && ((shB o.k).contains 104 || (o.p == 0 && o.f == 0 && o.g == 0))
/-- Right by the letters. -/
def rightS (s : List UInt8) (o : OpR) : Bool := !badB s o && (s.contains 104 || (o.p == 0 && o.f == 0 && o.g == 0))
def OpR.rval (o : OpR) : Value := .agg #[.int .i64 o.k, .int .i64 o.a, .int .i64 o.b, .int .i64 o.i, .int .i64 o.p, .int .i64 o.f, .int .i64 o.g, .int .u64 (o.x : Int), .float .f64 o.q, .int .u64 (o.q : Int)]
def RtPost (w : World) (r : Bool) (e : Ending) (w' : World) : Prop := e = .returned (.bool r) ∧ Fr (fun _ => False) w w'
theorem nat_ne0 {x : Nat} (h : x ≠ 0) : ((x : Int) == 0) = false := by rw [beq_eq_false_iff_ne]; omega
theorem nat_eq0 {x : Nat} (h : x = 0) : ((x : Int) == 0) = true := by subst h; rfl
theorem int_ne0 {x : Int} (h : x ≠ 0) : (x == 0) = false := by rw [beq_eq_false_iff_ne]; exact h
theorem int_eq0 {x : Int} (h : x = 0) : (x == 0) = true := by subst h; rfl
theorem shape_cases {k : Int} (h : isK k = true) : shB k = [97, 104] ∨ shB k = [97, 98, 105] ∨ shB k = [97, 105, 98] ∨ shB k = [97, 105] ∨ shB k = [97, 105, 119] ∨ shB k = [97, 105, 102] ∨ shB k = [97, 98] ∨ shB k = [97] ∨ shB k = [97, 105, 98, 119] ∨ shB k = [] := by
  rcases kind_cases h with rfl | rfl | rfl | rfl | rfl | rfl | rfl | rfl | rfl | rfl | rfl | rfl | rfl | rfl | rfl | rfl | rfl <;> decide

set_option maxRecDepth 100000 in
set_option maxHeartbeats 1600000 in
theorem right_ah (o : OpR) (hk : isK o.k = true) (hs : shB o.k = [97, 104]) (w : World) : Calls Tryz.prog 6 #[o.rval] w (RtPost w (rightS (shB o.k) o)) := by
    have HSH := Lib.hid (rshape_any o.k)
    unfold ShEq at HSH
    rw [hk] at HSH
    unfold OpR.rval
    rw [hs] at HSH ⊢
    have H97 : Hid (∀ w, Calls Tryz.prog 14 #[.string (bytesOf [97, 104]), .int .u8 97] w (HasPost w true)) := has_any [97, 104] 97 (by decide)
    have H98 : Hid (∀ w, Calls Tryz.prog 14 #[.string (bytesOf [97, 104]), .int .u8 98] w (HasPost w false)) := has_any [97, 104] 98 (by decide)
    have H105 : Hid (∀ w, Calls Tryz.prog 14 #[.string (bytesOf [97, 104]), .int .u8 105] w (HasPost w false)) := has_any [97, 104] 105 (by decide)
    have H119 : Hid (∀ w, Calls Tryz.prog 14 #[.string (bytesOf [97, 104]), .int .u8 119] w (HasPost w false)) := has_any [97, 104] 119 (by decide)
    have H102 : Hid (∀ w, Calls Tryz.prog 14 #[.string (bytesOf [97, 104]), .int .u8 102] w (HasPost w false)) := has_any [97, 104] 102 (by decide)
    have H104 : Hid (∀ w, Calls Tryz.prog 14 #[.string (bytesOf [97, 104]), .int .u8 104] w (HasPost w true)) := has_any [97, 104] 104 (by decide)
    have HF : Hid (Fr (fun _ => False) w (w.alloc (.cells #[.int .i64 o.k, .int .i64 o.a, .int .i64 o.b, .int .i64 o.i, .int .i64 o.p, .int .i64 o.f, .int .i64 o.g, .int .u64 (o.x : Int), .float .f64 o.q, .int .u64 (o.q : Int)] 34))) := (Fr.refl _ w).alloc _
    have HR : Hid (∀ r, rightS [97, 104] o = r → ∀ w', Fr (fun _ => False) w w' → RtPost w (rightS [97, 104] o) (.returned (.bool r)) w') := fun r hr w' hf => ⟨by rw [hr], hf⟩
    have HB : Hid (rightS [97, 104] o = (!badB [97, 104] o && ([97, 104].contains 104 || (o.p == 0 && o.f == 0 && o.g == 0)))) := rfl
    obtain ⟨S, hS⟩ : ∃ S, bytesOf [97, 104] = S := ⟨_, rfl⟩
    rw [hS] at HSH H97 H98 H105 H119 H102 H104
    clear hS hs hk
    go_enter Tryz.func6, Tryz.ntmps6
    go_wp2_with fail
    refine (HSH.out _).mono ?_
    rintro e w1 ⟨rfl, rfl⟩
    go_wp2_with fail
    refine (H97.out _).mono ?_
    rintro e w' ⟨rfl, rfl⟩
    go_wp2_with fail
    refine (H98.out _).mono ?_
    rintro e w' ⟨rfl, rfl⟩
    by_cases zb : o.b = 0
    rotate_left
    · have eb := int_ne0 zb
      have Zb := Lib.hid zb
      clear zb
      go_wp2
      go_ret
      exact HR.out false (by rw [HB.out]; unfold badB; simp [Zb.out]) _ ((Fr.refl _ w).alloc _)
    have eb := int_eq0 zb
    have Zb := Lib.hid zb
    clear zb
    go_wp2_with fail
    refine (H105.out _).mono ?_
    rintro e w' ⟨rfl, rfl⟩
    by_cases zi : o.i = 0
    rotate_left
    · have ei := int_ne0 zi
      have Zi := Lib.hid zi
      clear zi
      go_wp2
      go_ret
      exact HR.out false (by rw [HB.out]; unfold badB; simp [Zi.out]) _ ((Fr.refl _ w).alloc _)
    have ei := int_eq0 zi
    have Zi := Lib.hid zi
    clear zi
    go_wp2_with fail
    refine (H119.out _).mono ?_
    rintro e w' ⟨rfl, rfl⟩
    by_cases zx : o.x = 0
    rotate_left
    · have ex := nat_ne0 zx
      have Zx := Lib.hid zx
      clear zx
      go_wp2
      go_ret
      exact HR.out false (by rw [HB.out]; unfold badB; simp [Zx.out]) _ ((Fr.refl _ w).alloc _)
    have ex := nat_eq0 zx
    have Zx := Lib.hid zx
    clear zx
    go_wp2_with fail
    refine (H102.out _).mono ?_
    rintro e w' ⟨rfl, rfl⟩
    by_cases zq : o.q = 0
    rotate_left
    · have eq := nat_ne0 zq
      have Zq := Lib.hid zq
      clear zq
      go_wp2
      go_ret
      exact HR.out false (by rw [HB.out]; unfold badB; simp [Zq.out]) _ ((Fr.refl _ w).alloc _)
    have eq := nat_eq0 zq
    have Zq := Lib.hid zq
    clear zq
    go_wp2_with fail
    refine (H104.out _).mono ?_
    rintro e w' ⟨rfl, rfl⟩
    go_wp2
    go_ret
    exact HR.out true (by rw [HB.out]; unfold badB; simp [Zb.out, Zi.out, Zx.out, Zq.out]) _ ((Fr.refl _ w).alloc _)
set_option maxRecDepth 100000 in
set_option maxHeartbeats 1600000 in
theorem right_abi (o : OpR) (hk : isK o.k = true) (hs : shB o.k = [97, 98, 105]) (w : World) : Calls Tryz.prog 6 #[o.rval] w (RtPost w (rightS (shB o.k) o)) := by
    have HSH := Lib.hid (rshape_any o.k)
    unfold ShEq at HSH
    rw [hk] at HSH
    unfold OpR.rval
    rw [hs] at HSH ⊢
    have H97 : Hid (∀ w, Calls Tryz.prog 14 #[.string (bytesOf [97, 98, 105]), .int .u8 97] w (HasPost w true)) := has_any [97, 98, 105] 97 (by decide)
    have H98 : Hid (∀ w, Calls Tryz.prog 14 #[.string (bytesOf [97, 98, 105]), .int .u8 98] w (HasPost w true)) := has_any [97, 98, 105] 98 (by decide)
    have H105 : Hid (∀ w, Calls Tryz.prog 14 #[.string (bytesOf [97, 98, 105]), .int .u8 105] w (HasPost w true)) := has_any [97, 98, 105] 105 (by decide)
    have H119 : Hid (∀ w, Calls Tryz.prog 14 #[.string (bytesOf [97, 98, 105]), .int .u8 119] w (HasPost w false)) := has_any [97, 98, 105] 119 (by decide)
    have H102 : Hid (∀ w, Calls Tryz.prog 14 #[.string (bytesOf [97, 98, 105]), .int .u8 102] w (HasPost w false)) := has_any [97, 98, 105] 102 (by decide)
    have H104 : Hid (∀ w, Calls Tryz.prog 14 #[.string (bytesOf [97, 98, 105]), .int .u8 104] w (HasPost w false)) := has_any [97, 98, 105] 104 (by decide)
    have HF : Hid (Fr (fun _ => False) w (w.alloc (.cells #[.int .i64 o.k, .int .i64 o.a, .int .i64 o.b, .int .i64 o.i, .int .i64 o.p, .int .i64 o.f, .int .i64 o.g, .int .u64 (o.x : Int), .float .f64 o.q, .int .u64 (o.q : Int)] 34))) := (Fr.refl _ w).alloc _
    have HR : Hid (∀ r, rightS [97, 98, 105] o = r → ∀ w', Fr (fun _ => False) w w' → RtPost w (rightS [97, 98, 105] o) (.returned (.bool r)) w') := fun r hr w' hf => ⟨by rw [hr], hf⟩
    have HB : Hid (rightS [97, 98, 105] o = (!badB [97, 98, 105] o && ([97, 98, 105].contains 104 || (o.p == 0 && o.f == 0 && o.g == 0)))) := rfl
    obtain ⟨S, hS⟩ : ∃ S, bytesOf [97, 98, 105] = S := ⟨_, rfl⟩
    rw [hS] at HSH H97 H98 H105 H119 H102 H104
    clear hS hs hk
    go_enter Tryz.func6, Tryz.ntmps6
    go_wp2_with fail
    refine (HSH.out _).mono ?_
    rintro e w1 ⟨rfl, rfl⟩
    go_wp2_with fail
    refine (H97.out _).mono ?_
    rintro e w' ⟨rfl, rfl⟩
    go_wp2_with fail
    refine (H98.out _).mono ?_
    rintro e w' ⟨rfl, rfl⟩
    go_wp2_with fail
    refine (H105.out _).mono ?_
    rintro e w' ⟨rfl, rfl⟩
    go_wp2_with fail
    refine (H119.out _).mono ?_
    rintro e w' ⟨rfl, rfl⟩
    by_cases zx : o.x = 0
    rotate_left
    · have ex := nat_ne0 zx
      have Zx := Lib.hid zx
      clear zx
      go_wp2
      go_ret
      exact HR.out false (by rw [HB.out]; unfold badB; simp [Zx.out]) _ ((Fr.refl _ w).alloc _)
    have ex := nat_eq0 zx
    have Zx := Lib.hid zx
    clear zx
    go_wp2_with fail
    refine (H102.out _).mono ?_
    rintro e w' ⟨rfl, rfl⟩
    by_cases zq : o.q = 0
    rotate_left
    · have eq := nat_ne0 zq
      have Zq := Lib.hid zq
      clear zq
      go_wp2
      go_ret
      exact HR.out false (by rw [HB.out]; unfold badB; simp [Zq.out]) _ ((Fr.refl _ w).alloc _)
    have eq := nat_eq0 zq
    have Zq := Lib.hid zq
    clear zq
    go_wp2_with fail
    refine (H104.out _).mono ?_
    rintro e w' ⟨rfl, rfl⟩
    by_cases zp : o.p = 0
    rotate_left
    · have ep := int_ne0 zp
      have Zp := Lib.hid zp
      clear zp
      go_wp2
      go_ret
      exact HR.out false (by rw [HB.out]; unfold badB; simp [Zp.out]) _ ((Fr.refl _ w).alloc _)
    have ep := int_eq0 zp
    have Zp := Lib.hid zp
    clear zp
    by_cases zf : o.f = 0
    rotate_left
    · have ef := int_ne0 zf
      have Zf := Lib.hid zf
      clear zf
      go_wp2
      go_ret
      exact HR.out false (by rw [HB.out]; unfold badB; simp [Zf.out]) _ ((Fr.refl _ w).alloc _)
    have ef := int_eq0 zf
    have Zf := Lib.hid zf
    clear zf
    by_cases zg : o.g = 0
    rotate_left
    · have eg := int_ne0 zg
      have Zg := Lib.hid zg
      clear zg
      go_wp2
      go_ret
      exact HR.out false (by rw [HB.out]; unfold badB; simp [Zg.out]) _ ((Fr.refl _ w).alloc _)
    have eg := int_eq0 zg
    have Zg := Lib.hid zg
    clear zg
    go_wp2
    go_ret
    exact HR.out true (by rw [HB.out]; unfold badB; simp [Zx.out, Zq.out, Zp.out, Zf.out, Zg.out]) _ ((Fr.refl _ w).alloc _)
set_option maxRecDepth 100000 in
set_option maxHeartbeats 1600000 in
theorem right_aib (o : OpR) (hk : isK o.k = true) (hs : shB o.k = [97, 105, 98]) (w : World) : Calls Tryz.prog 6 #[o.rval] w (RtPost w (rightS (shB o.k) o)) := by
    have HSH := Lib.hid (rshape_any o.k)
    unfold ShEq at HSH
    rw [hk] at HSH
    unfold OpR.rval
    rw [hs] at HSH ⊢
    have H97 : Hid (∀ w, Calls Tryz.prog 14 #[.string (bytesOf [97, 105, 98]), .int .u8 97] w (HasPost w true)) := has_any [97, 105, 98] 97 (by decide)
    have H98 : Hid (∀ w, Calls Tryz.prog 14 #[.string (bytesOf [97, 105, 98]), .int .u8 98] w (HasPost w true)) := has_any [97, 105, 98] 98 (by decide)
    have H105 : Hid (∀ w, Calls Tryz.prog 14 #[.string (bytesOf [97, 105, 98]), .int .u8 105] w (HasPost w true)) := has_any [97, 105, 98] 105 (by decide)
    have H119 : Hid (∀ w, Calls Tryz.prog 14 #[.string (bytesOf [97, 105, 98]), .int .u8 119] w (HasPost w false)) := has_any [97, 105, 98] 119 (by decide)
    have H102 : Hid (∀ w, Calls Tryz.prog 14 #[.string (bytesOf [97, 105, 98]), .int .u8 102] w (HasPost w false)) := has_any [97, 105, 98] 102 (by decide)
    have H104 : Hid (∀ w, Calls Tryz.prog 14 #[.string (bytesOf [97, 105, 98]), .int .u8 104] w (HasPost w false)) := has_any [97, 105, 98] 104 (by decide)
    have HF : Hid (Fr (fun _ => False) w (w.alloc (.cells #[.int .i64 o.k, .int .i64 o.a, .int .i64 o.b, .int .i64 o.i, .int .i64 o.p, .int .i64 o.f, .int .i64 o.g, .int .u64 (o.x : Int), .float .f64 o.q, .int .u64 (o.q : Int)] 34))) := (Fr.refl _ w).alloc _
    have HR : Hid (∀ r, rightS [97, 105, 98] o = r → ∀ w', Fr (fun _ => False) w w' → RtPost w (rightS [97, 105, 98] o) (.returned (.bool r)) w') := fun r hr w' hf => ⟨by rw [hr], hf⟩
    have HB : Hid (rightS [97, 105, 98] o = (!badB [97, 105, 98] o && ([97, 105, 98].contains 104 || (o.p == 0 && o.f == 0 && o.g == 0)))) := rfl
    obtain ⟨S, hS⟩ : ∃ S, bytesOf [97, 105, 98] = S := ⟨_, rfl⟩
    rw [hS] at HSH H97 H98 H105 H119 H102 H104
    clear hS hs hk
    go_enter Tryz.func6, Tryz.ntmps6
    go_wp2_with fail
    refine (HSH.out _).mono ?_
    rintro e w1 ⟨rfl, rfl⟩
    go_wp2_with fail
    refine (H97.out _).mono ?_
    rintro e w' ⟨rfl, rfl⟩
    go_wp2_with fail
    refine (H98.out _).mono ?_
    rintro e w' ⟨rfl, rfl⟩
    go_wp2_with fail
    refine (H105.out _).mono ?_
    rintro e w' ⟨rfl, rfl⟩
    go_wp2_with fail
    refine (H119.out _).mono ?_
    rintro e w' ⟨rfl, rfl⟩
    by_cases zx : o.x = 0
    rotate_left
    · have ex := nat_ne0 zx
      have Zx := Lib.hid zx
      clear zx
      go_wp2
      go_ret
      exact HR.out false (by rw [HB.out]; unfold badB; simp [Zx.out]) _ ((Fr.refl _ w).alloc _)
    have ex := nat_eq0 zx
    have Zx := Lib.hid zx
    clear zx
    go_wp2_with fail
    refine (H102.out _).mono ?_
    rintro e w' ⟨rfl, rfl⟩
    by_cases zq : o.q = 0
    rotate_left
    · have eq := nat_ne0 zq
      have Zq := Lib.hid zq
      clear zq
      go_wp2
      go_ret
      exact HR.out false (by rw [HB.out]; unfold badB; simp [Zq.out]) _ ((Fr.refl _ w).alloc _)
    have eq := nat_eq0 zq
    have Zq := Lib.hid zq
    clear zq
    go_wp2_with fail
    refine (H104.out _).mono ?_
    rintro e w' ⟨rfl, rfl⟩
    by_cases zp : o.p = 0
    rotate_left
    · have ep := int_ne0 zp
      have Zp := Lib.hid zp
      clear zp
      go_wp2
      go_ret
      exact HR.out false (by rw [HB.out]; unfold badB; simp [Zp.out]) _ ((Fr.refl _ w).alloc _)
    have ep := int_eq0 zp
    have Zp := Lib.hid zp
    clear zp
    by_cases zf : o.f = 0
    rotate_left
    · have ef := int_ne0 zf
      have Zf := Lib.hid zf
      clear zf
      go_wp2
      go_ret
      exact HR.out false (by rw [HB.out]; unfold badB; simp [Zf.out]) _ ((Fr.refl _ w).alloc _)
    have ef := int_eq0 zf
    have Zf := Lib.hid zf
    clear zf
    by_cases zg : o.g = 0
    rotate_left
    · have eg := int_ne0 zg
      have Zg := Lib.hid zg
      clear zg
      go_wp2
      go_ret
      exact HR.out false (by rw [HB.out]; unfold badB; simp [Zg.out]) _ ((Fr.refl _ w).alloc _)
    have eg := int_eq0 zg
    have Zg := Lib.hid zg
    clear zg
    go_wp2
    go_ret
    exact HR.out true (by rw [HB.out]; unfold badB; simp [Zx.out, Zq.out, Zp.out, Zf.out, Zg.out]) _ ((Fr.refl _ w).alloc _)
set_option maxRecDepth 100000 in
set_option maxHeartbeats 1600000 in
theorem right_ai (o : OpR) (hk : isK o.k = true) (hs : shB o.k = [97, 105]) (w : World) : Calls Tryz.prog 6 #[o.rval] w (RtPost w (rightS (shB o.k) o)) := by
    have HSH := Lib.hid (rshape_any o.k)
    unfold ShEq at HSH
    rw [hk] at HSH
    unfold OpR.rval
    rw [hs] at HSH ⊢
    have H97 : Hid (∀ w, Calls Tryz.prog 14 #[.string (bytesOf [97, 105]), .int .u8 97] w (HasPost w true)) := has_any [97, 105] 97 (by decide)
    have H98 : Hid (∀ w, Calls Tryz.prog 14 #[.string (bytesOf [97, 105]), .int .u8 98] w (HasPost w false)) := has_any [97, 105] 98 (by decide)
    have H105 : Hid (∀ w, Calls Tryz.prog 14 #[.string (bytesOf [97, 105]), .int .u8 105] w (HasPost w true)) := has_any [97, 105] 105 (by decide)
    have H119 : Hid (∀ w, Calls Tryz.prog 14 #[.string (bytesOf [97, 105]), .int .u8 119] w (HasPost w false)) := has_any [97, 105] 119 (by decide)
    have H102 : Hid (∀ w, Calls Tryz.prog 14 #[.string (bytesOf [97, 105]), .int .u8 102] w (HasPost w false)) := has_any [97, 105] 102 (by decide)
    have H104 : Hid (∀ w, Calls Tryz.prog 14 #[.string (bytesOf [97, 105]), .int .u8 104] w (HasPost w false)) := has_any [97, 105] 104 (by decide)
    have HF : Hid (Fr (fun _ => False) w (w.alloc (.cells #[.int .i64 o.k, .int .i64 o.a, .int .i64 o.b, .int .i64 o.i, .int .i64 o.p, .int .i64 o.f, .int .i64 o.g, .int .u64 (o.x : Int), .float .f64 o.q, .int .u64 (o.q : Int)] 34))) := (Fr.refl _ w).alloc _
    have HR : Hid (∀ r, rightS [97, 105] o = r → ∀ w', Fr (fun _ => False) w w' → RtPost w (rightS [97, 105] o) (.returned (.bool r)) w') := fun r hr w' hf => ⟨by rw [hr], hf⟩
    have HB : Hid (rightS [97, 105] o = (!badB [97, 105] o && ([97, 105].contains 104 || (o.p == 0 && o.f == 0 && o.g == 0)))) := rfl
    obtain ⟨S, hS⟩ : ∃ S, bytesOf [97, 105] = S := ⟨_, rfl⟩
    rw [hS] at HSH H97 H98 H105 H119 H102 H104
    clear hS hs hk
    go_enter Tryz.func6, Tryz.ntmps6
    go_wp2_with fail
    refine (HSH.out _).mono ?_
    rintro e w1 ⟨rfl, rfl⟩
    go_wp2_with fail
    refine (H97.out _).mono ?_
    rintro e w' ⟨rfl, rfl⟩
    go_wp2_with fail
    refine (H98.out _).mono ?_
    rintro e w' ⟨rfl, rfl⟩
    by_cases zb : o.b = 0
    rotate_left
    · have eb := int_ne0 zb
      have Zb := Lib.hid zb
      clear zb
      go_wp2
      go_ret
      exact HR.out false (by rw [HB.out]; unfold badB; simp [Zb.out]) _ ((Fr.refl _ w).alloc _)
    have eb := int_eq0 zb
    have Zb := Lib.hid zb
    clear zb
    go_wp2_with fail
    refine (H105.out _).mono ?_
    rintro e w' ⟨rfl, rfl⟩
    go_wp2_with fail
    refine (H119.out _).mono ?_
    rintro e w' ⟨rfl, rfl⟩
    by_cases zx : o.x = 0
    rotate_left
    · have ex := nat_ne0 zx
      have Zx := Lib.hid zx
      clear zx
      go_wp2
      go_ret
      exact HR.out false (by rw [HB.out]; unfold badB; simp [Zx.out]) _ ((Fr.refl _ w).alloc _)
    have ex := nat_eq0 zx
    have Zx := Lib.hid zx
    clear zx
    go_wp2_with fail
    refine (H102.out _).mono ?_
    rintro e w' ⟨rfl, rfl⟩
    by_cases zq : o.q = 0
    rotate_left
    · have eq := nat_ne0 zq
      have Zq := Lib.hid zq
      clear zq
      go_wp2
      go_ret
      exact HR.out false (by rw [HB.out]; unfold badB; simp [Zq.out]) _ ((Fr.refl _ w).alloc _)
    have eq := nat_eq0 zq
    have Zq := Lib.hid zq
    clear zq
    go_wp2_with fail
    refine (H104.out _).mono ?_
    rintro e w' ⟨rfl, rfl⟩
    by_cases zp : o.p = 0
    rotate_left
    · have ep := int_ne0 zp
      have Zp := Lib.hid zp
      clear zp
      go_wp2
      go_ret
      exact HR.out false (by rw [HB.out]; unfold badB; simp [Zp.out]) _ ((Fr.refl _ w).alloc _)
    have ep := int_eq0 zp
    have Zp := Lib.hid zp
    clear zp
    by_cases zf : o.f = 0
    rotate_left
    · have ef := int_ne0 zf
      have Zf := Lib.hid zf
      clear zf
      go_wp2
      go_ret
      exact HR.out false (by rw [HB.out]; unfold badB; simp [Zf.out]) _ ((Fr.refl _ w).alloc _)
    have ef := int_eq0 zf
    have Zf := Lib.hid zf
    clear zf
    by_cases zg : o.g = 0
    rotate_left
    · have eg := int_ne0 zg
      have Zg := Lib.hid zg
      clear zg
      go_wp2
      go_ret
      exact HR.out false (by rw [HB.out]; unfold badB; simp [Zg.out]) _ ((Fr.refl _ w).alloc _)
    have eg := int_eq0 zg
    have Zg := Lib.hid zg
    clear zg
    go_wp2
    go_ret
    exact HR.out true (by rw [HB.out]; unfold badB; simp [Zb.out, Zx.out, Zq.out, Zp.out, Zf.out, Zg.out]) _ ((Fr.refl _ w).alloc _)
set_option maxRecDepth 100000 in
set_option maxHeartbeats 1600000 in
theorem right_aiw (o : OpR) (hk : isK o.k = true) (hs : shB o.k = [97, 105, 119]) (w : World) : Calls Tryz.prog 6 #[o.rval] w (RtPost w (rightS (shB o.k) o)) := by
    have HSH := Lib.hid (rshape_any o.k)
    unfold ShEq at HSH
    rw [hk] at HSH
    unfold OpR.rval
    rw [hs] at HSH ⊢
    have H97 : Hid (∀ w, Calls Tryz.prog 14 #[.string (bytesOf [97, 105, 119]), .int .u8 97] w (HasPost w true)) := has_any [97, 105, 119] 97 (by decide)
    have H98 : Hid (∀ w, Calls Tryz.prog 14 #[.string (bytesOf [97, 105, 119]), .int .u8 98] w (HasPost w false)) := has_any [97, 105, 119] 98 (by decide)
    have H105 : Hid (∀ w, Calls Tryz.prog 14 #[.string (bytesOf [97, 105, 119]), .int .u8 105] w (HasPost w true)) := has_any [97, 105, 119] 105 (by decide)
    have H119 : Hid (∀ w, Calls Tryz.prog 14 #[.string (bytesOf [97, 105, 119]), .int .u8 119] w (HasPost w true)) := has_any [97, 105, 119] 119 (by decide)
    have H102 : Hid (∀ w, Calls Tryz.prog 14 #[.string (bytesOf [97, 105, 119]), .int .u8 102] w (HasPost w false)) := has_any [97, 105, 119] 102 (by decide)
    have H104 : Hid (∀ w, Calls Tryz.prog 14 #[.string (bytesOf [97, 105, 119]), .int .u8 104] w (HasPost w false)) := has_any [97, 105, 119] 104 (by decide)
    have HF : Hid (Fr (fun _ => False) w (w.alloc (.cells #[.int .i64 o.k, .int .i64 o.a, .int .i64 o.b, .int .i64 o.i, .int .i64 o.p, .int .i64 o.f, .int .i64 o.g, .int .u64 (o.x : Int), .float .f64 o.q, .int .u64 (o.q : Int)] 34))) := (Fr.refl _ w).alloc _
    have HR : Hid (∀ r, rightS [97, 105, 119] o = r → ∀ w', Fr (fun _ => False) w w' → RtPost w (rightS [97, 105, 119] o) (.returned (.bool r)) w') := fun r hr w' hf => ⟨by rw [hr], hf⟩
    have HB : Hid (rightS [97, 105, 119] o = (!badB [97, 105, 119] o && ([97, 105, 119].contains 104 || (o.p == 0 && o.f == 0 && o.g == 0)))) := rfl
    obtain ⟨S, hS⟩ : ∃ S, bytesOf [97, 105, 119] = S := ⟨_, rfl⟩
    rw [hS] at HSH H97 H98 H105 H119 H102 H104
    clear hS hs hk
    go_enter Tryz.func6, Tryz.ntmps6
    go_wp2_with fail
    refine (HSH.out _).mono ?_
    rintro e w1 ⟨rfl, rfl⟩
    go_wp2_with fail
    refine (H97.out _).mono ?_
    rintro e w' ⟨rfl, rfl⟩
    go_wp2_with fail
    refine (H98.out _).mono ?_
    rintro e w' ⟨rfl, rfl⟩
    by_cases zb : o.b = 0
    rotate_left
    · have eb := int_ne0 zb
      have Zb := Lib.hid zb
      clear zb
      go_wp2
      go_ret
      exact HR.out false (by rw [HB.out]; unfold badB; simp [Zb.out]) _ ((Fr.refl _ w).alloc _)
    have eb := int_eq0 zb
    have Zb := Lib.hid zb
    clear zb
    go_wp2_with fail
    refine (H105.out _).mono ?_
    rintro e w' ⟨rfl, rfl⟩
    go_wp2_with fail
    refine (H119.out _).mono ?_
    rintro e w' ⟨rfl, rfl⟩
    go_wp2_with fail
    refine (H102.out _).mono ?_
    rintro e w' ⟨rfl, rfl⟩
    by_cases zq : o.q = 0
    rotate_left
    · have eq := nat_ne0 zq
      have Zq := Lib.hid zq
      clear zq
      go_wp2
      go_ret
      exact HR.out false (by rw [HB.out]; unfold badB; simp [Zq.out]) _ ((Fr.refl _ w).alloc _)
    have eq := nat_eq0 zq
    have Zq := Lib.hid zq
    clear zq
    go_wp2_with fail
    refine (H104.out _).mono ?_
    rintro e w' ⟨rfl, rfl⟩
    by_cases zp : o.p = 0
    rotate_left
    · have ep := int_ne0 zp
      have Zp := Lib.hid zp
      clear zp
      go_wp2
      go_ret
      exact HR.out false (by rw [HB.out]; unfold badB; simp [Zp.out]) _ ((Fr.refl _ w).alloc _)
    have ep := int_eq0 zp
    have Zp := Lib.hid zp
    clear zp
    by_cases zf : o.f = 0
    rotate_left
    · have ef := int_ne0 zf
      have Zf := Lib.hid zf
      clear zf
      go_wp2
      go_ret
      exact HR.out false (by rw [HB.out]; unfold badB; simp [Zf.out]) _ ((Fr.refl _ w).alloc _)
    have ef := int_eq0 zf
    have Zf := Lib.hid zf
    clear zf
    by_cases zg : o.g = 0
    rotate_left
    · have eg := int_ne0 zg
      have Zg := Lib.hid zg
      clear zg
      go_wp2
      go_ret
      exact HR.out false (by rw [HB.out]; unfold badB; simp [Zg.out]) _ ((Fr.refl _ w).alloc _)
    have eg := int_eq0 zg
    have Zg := Lib.hid zg
    clear zg
    go_wp2
    go_ret
    exact HR.out true (by rw [HB.out]; unfold badB; simp [Zb.out, Zq.out, Zp.out, Zf.out, Zg.out]) _ ((Fr.refl _ w).alloc _)
set_option maxRecDepth 100000 in
set_option maxHeartbeats 1600000 in
theorem right_aif (o : OpR) (hk : isK o.k = true) (hs : shB o.k = [97, 105, 102]) (w : World) : Calls Tryz.prog 6 #[o.rval] w (RtPost w (rightS (shB o.k) o)) := by
    have HSH := Lib.hid (rshape_any o.k)
    unfold ShEq at HSH
    rw [hk] at HSH
    unfold OpR.rval
    rw [hs] at HSH ⊢
    have H97 : Hid (∀ w, Calls Tryz.prog 14 #[.string (bytesOf [97, 105, 102]), .int .u8 97] w (HasPost w true)) := has_any [97, 105, 102] 97 (by decide)
    have H98 : Hid (∀ w, Calls Tryz.prog 14 #[.string (bytesOf [97, 105, 102]), .int .u8 98] w (HasPost w false)) := has_any [97, 105, 102] 98 (by decide)
    have H105 : Hid (∀ w, Calls Tryz.prog 14 #[.string (bytesOf [97, 105, 102]), .int .u8 105] w (HasPost w true)) := has_any [97, 105, 102] 105 (by decide)
    have H119 : Hid (∀ w, Calls Tryz.prog 14 #[.string (bytesOf [97, 105, 102]), .int .u8 119] w (HasPost w false)) := has_any [97, 105, 102] 119 (by decide)
    have H102 : Hid (∀ w, Calls Tryz.prog 14 #[.string (bytesOf [97, 105, 102]), .int .u8 102] w (HasPost w true)) := has_any [97, 105, 102] 102 (by decide)
    have H104 : Hid (∀ w, Calls Tryz.prog 14 #[.string (bytesOf [97, 105, 102]), .int .u8 104] w (HasPost w false)) := has_any [97, 105, 102] 104 (by decide)
    have HF : Hid (Fr (fun _ => False) w (w.alloc (.cells #[.int .i64 o.k, .int .i64 o.a, .int .i64 o.b, .int .i64 o.i, .int .i64 o.p, .int .i64 o.f, .int .i64 o.g, .int .u64 (o.x : Int), .float .f64 o.q, .int .u64 (o.q : Int)] 34))) := (Fr.refl _ w).alloc _
    have HR : Hid (∀ r, rightS [97, 105, 102] o = r → ∀ w', Fr (fun _ => False) w w' → RtPost w (rightS [97, 105, 102] o) (.returned (.bool r)) w') := fun r hr w' hf => ⟨by rw [hr], hf⟩
    have HB : Hid (rightS [97, 105, 102] o = (!badB [97, 105, 102] o && ([97, 105, 102].contains 104 || (o.p == 0 && o.f == 0 && o.g == 0)))) := rfl
    obtain ⟨S, hS⟩ : ∃ S, bytesOf [97, 105, 102] = S := ⟨_, rfl⟩
    rw [hS] at HSH H97 H98 H105 H119 H102 H104
    clear hS hs hk
    go_enter Tryz.func6, Tryz.ntmps6
    go_wp2_with fail
    refine (HSH.out _).mono ?_
    rintro e w1 ⟨rfl, rfl⟩
    go_wp2_with fail
    refine (H97.out _).mono ?_
    rintro e w' ⟨rfl, rfl⟩
    go_wp2_with fail
    refine (H98.out _).mono ?_
    rintro e w' ⟨rfl, rfl⟩
    by_cases zb : o.b = 0
    rotate_left
    · have eb := int_ne0 zb
      have Zb := Lib.hid zb
      clear zb
      go_wp2
      go_ret
      exact HR.out false (by rw [HB.out]; unfold badB; simp [Zb.out]) _ ((Fr.refl _ w).alloc _)
    have eb := int_eq0 zb
    have Zb := Lib.hid zb
    clear zb
    go_wp2_with fail
    refine (H105.out _).mono ?_
    rintro e w' ⟨rfl, rfl⟩
    go_wp2_with fail
    refine (H119.out _).mono ?_
    rintro e w' ⟨rfl, rfl⟩
    by_cases zx : o.x = 0
    rotate_left
    · have ex := nat_ne0 zx
      have Zx := Lib.hid zx
      clear zx
      go_wp2
      go_ret
      exact HR.out false (by rw [HB.out]; unfold badB; simp [Zx.out]) _ ((Fr.refl _ w).alloc _)
    have ex := nat_eq0 zx
    have Zx := Lib.hid zx
    clear zx
    go_wp2_with fail
    refine (H102.out _).mono ?_
    rintro e w' ⟨rfl, rfl⟩
    go_wp2_with fail
    refine (H104.out _).mono ?_
    rintro e w' ⟨rfl, rfl⟩
    by_cases zp : o.p = 0
    rotate_left
    · have ep := int_ne0 zp
      have Zp := Lib.hid zp
      clear zp
      go_wp2
      go_ret
      exact HR.out false (by rw [HB.out]; unfold badB; simp [Zp.out]) _ ((Fr.refl _ w).alloc _)
    have ep := int_eq0 zp
    have Zp := Lib.hid zp
    clear zp
    by_cases zf : o.f = 0
    rotate_left
    · have ef := int_ne0 zf
      have Zf := Lib.hid zf
      clear zf
      go_wp2
      go_ret
      exact HR.out false (by rw [HB.out]; unfold badB; simp [Zf.out]) _ ((Fr.refl _ w).alloc _)
    have ef := int_eq0 zf
    have Zf := Lib.hid zf
    clear zf
    by_cases zg : o.g = 0
    rotate_left
    · have eg := int_ne0 zg
      have Zg := Lib.hid zg
      clear zg
      go_wp2
      go_ret
      exact HR.out false (by rw [HB.out]; unfold badB; simp [Zg.out]) _ ((Fr.refl _ w).alloc _)
    have eg := int_eq0 zg
    have Zg := Lib.hid zg
    clear zg
    go_wp2
    go_ret
    exact HR.out true (by rw [HB.out]; unfold badB; simp [Zb.out, Zx.out, Zp.out, Zf.out, Zg.out]) _ ((Fr.refl _ w).alloc _)
set_option maxRecDepth 100000 in
set_option maxHeartbeats 1600000 in
theorem right_ab (o : OpR) (hk : isK o.k = true) (hs : shB o.k = [97, 98]) (w : World) : Calls Tryz.prog 6 #[o.rval] w (RtPost w (rightS (shB o.k) o)) := by
    have HSH := Lib.hid (rshape_any o.k)
    unfold ShEq at HSH
    rw [hk] at HSH
    unfold OpR.rval
    rw [hs] at HSH ⊢
    have H97 : Hid (∀ w, Calls Tryz.prog 14 #[.string (bytesOf [97, 98]), .int .u8 97] w (HasPost w true)) := has_any [97, 98] 97 (by decide)
    have H98 : Hid (∀ w, Calls Tryz.prog 14 #[.string (bytesOf [97, 98]), .int .u8 98] w (HasPost w true)) := has_any [97, 98] 98 (by decide)
    have H105 : Hid (∀ w, Calls Tryz.prog 14 #[.string (bytesOf [97, 98]), .int .u8 105] w (HasPost w false)) := has_any [97, 98] 105 (by decide)
    have H119 : Hid (∀ w, Calls Tryz.prog 14 #[.string (bytesOf [97, 98]), .int .u8 119] w (HasPost w false)) := has_any [97, 98] 119 (by decide)
    have H102 : Hid (∀ w, Calls Tryz.prog 14 #[.string (bytesOf [97, 98]), .int .u8 102] w (HasPost w false)) := has_any [97, 98] 102 (by decide)
    have H104 : Hid (∀ w, Calls Tryz.prog 14 #[.string (bytesOf [97, 98]), .int .u8 104] w (HasPost w false)) := has_any [97, 98] 104 (by decide)
    have HF : Hid (Fr (fun _ => False) w (w.alloc (.cells #[.int .i64 o.k, .int .i64 o.a, .int .i64 o.b, .int .i64 o.i, .int .i64 o.p, .int .i64 o.f, .int .i64 o.g, .int .u64 (o.x : Int), .float .f64 o.q, .int .u64 (o.q : Int)] 34))) := (Fr.refl _ w).alloc _
    have HR : Hid (∀ r, rightS [97, 98] o = r → ∀ w', Fr (fun _ => False) w w' → RtPost w (rightS [97, 98] o) (.returned (.bool r)) w') := fun r hr w' hf => ⟨by rw [hr], hf⟩
    have HB : Hid (rightS [97, 98] o = (!badB [97, 98] o && ([97, 98].contains 104 || (o.p == 0 && o.f == 0 && o.g == 0)))) := rfl
    obtain ⟨S, hS⟩ : ∃ S, bytesOf [97, 98] = S := ⟨_, rfl⟩
    rw [hS] at HSH H97 H98 H105 H119 H102 H104
    clear hS hs hk
    go_enter Tryz.func6, Tryz.ntmps6
    go_wp2_with fail
    refine (HSH.out _).mono ?_
    rintro e w1 ⟨rfl, rfl⟩
    go_wp2_with fail
    refine (H97.out _).mono ?_
    rintro e w' ⟨rfl, rfl⟩
    go_wp2_with fail
    refine (H98.out _).mono ?_
    rintro e w' ⟨rfl, rfl⟩
    go_wp2_with fail
    refine (H105.out _).mono ?_
    rintro e w' ⟨rfl, rfl⟩
    by_cases zi : o.i = 0
    rotate_left
    · have ei := int_ne0 zi
      have Zi := Lib.hid zi
      clear zi
      go_wp2
      go_ret
      exact HR.out false (by rw [HB.out]; unfold badB; simp [Zi.out]) _ ((Fr.refl _ w).alloc _)
    have ei := int_eq0 zi
    have Zi := Lib.hid zi
    clear zi
    go_wp2_with fail
    refine (H119.out _).mono ?_
    rintro e w' ⟨rfl, rfl⟩
    by_cases zx : o.x = 0
    rotate_left
    · have ex := nat_ne0 zx
      have Zx := Lib.hid zx
      clear zx
      go_wp2
      go_ret
      exact HR.out false (by rw [HB.out]; unfold badB; simp [Zx.out]) _ ((Fr.refl _ w).alloc _)
    have ex := nat_eq0 zx
    have Zx := Lib.hid zx
    clear zx
    go_wp2_with fail
    refine (H102.out _).mono ?_
    rintro e w' ⟨rfl, rfl⟩
    by_cases zq : o.q = 0
    rotate_left
    · have eq := nat_ne0 zq
      have Zq := Lib.hid zq
      clear zq
      go_wp2
      go_ret
      exact HR.out false (by rw [HB.out]; unfold badB; simp [Zq.out]) _ ((Fr.refl _ w).alloc _)
    have eq := nat_eq0 zq
    have Zq := Lib.hid zq
    clear zq
    go_wp2_with fail
    refine (H104.out _).mono ?_
    rintro e w' ⟨rfl, rfl⟩
    by_cases zp : o.p = 0
    rotate_left
    · have ep := int_ne0 zp
      have Zp := Lib.hid zp
      clear zp
      go_wp2
      go_ret
      exact HR.out false (by rw [HB.out]; unfold badB; simp [Zp.out]) _ ((Fr.refl _ w).alloc _)
    have ep := int_eq0 zp
    have Zp := Lib.hid zp
    clear zp
    by_cases zf : o.f = 0
    rotate_left
    · have ef := int_ne0 zf
      have Zf := Lib.hid zf
      clear zf
      go_wp2
      go_ret
      exact HR.out false (by rw [HB.out]; unfold badB; simp [Zf.out]) _ ((Fr.refl _ w).alloc _)
    have ef := int_eq0 zf
    have Zf := Lib.hid zf
    clear zf
    by_cases zg : o.g = 0
    rotate_left
    · have eg := int_ne0 zg
      have Zg := Lib.hid zg
      clear zg
      go_wp2
      go_ret
      exact HR.out false (by rw [HB.out]; unfold badB; simp [Zg.out]) _ ((Fr.refl _ w).alloc _)
    have eg := int_eq0 zg
    have Zg := Lib.hid zg
    clear zg
    go_wp2
    go_ret
    exact HR.out true (by rw [HB.out]; unfold badB; simp [Zi.out, Zx.out, Zq.out, Zp.out, Zf.out, Zg.out]) _ ((Fr.refl _ w).alloc _)
set_option maxRecDepth 100000 in
set_option maxHeartbeats 1600000 in
theorem right_a (o : OpR) (hk : isK o.k = true) (hs : shB o.k = [97]) (w : World) : Calls Tryz.prog 6 #[o.rval] w (RtPost w (rightS (shB o.k) o)) := by
    have HSH := Lib.hid (rshape_any o.k)
    unfold ShEq at HSH
    rw [hk] at HSH
    unfold OpR.rval
    rw [hs] at HSH ⊢
    have H97 : Hid (∀ w, Calls Tryz.prog 14 #[.string (bytesOf [97]), .int .u8 97] w (HasPost w true)) := has_any [97] 97 (by decide)
    have H98 : Hid (∀ w, Calls Tryz.prog 14 #[.string (bytesOf [97]), .int .u8 98] w (HasPost w false)) := has_any [97] 98 (by decide)
    have H105 : Hid (∀ w, Calls Tryz.prog 14 #[.string (bytesOf [97]), .int .u8 105] w (HasPost w false)) := has_any [97] 105 (by decide)
    have H119 : Hid (∀ w, Calls Tryz.prog 14 #[.string (bytesOf [97]), .int .u8 119] w (HasPost w false)) := has_any [97] 119 (by decide)
    have H102 : Hid (∀ w, Calls Tryz.prog 14 #[.string (bytesOf [97]), .int .u8 102] w (HasPost w false)) := has_any [97] 102 (by decide)
    have H104 : Hid (∀ w, Calls Tryz.prog 14 #[.string (bytesOf [97]), .int .u8 104] w (HasPost w false)) := has_any [97] 104 (by decide)
    have HF : Hid (Fr (fun _ => False) w (w.alloc (.cells #[.int .i64 o.k, .int .i64 o.a, .int .i64 o.b, .int .i64 o.i, .int .i64 o.p, .int .i64 o.f, .int .i64 o.g, .int .u64 (o.x : Int), .float .f64 o.q, .int .u64 (o.q : Int)] 34))) := (Fr.refl _ w).alloc _
    have HR : Hid (∀ r, rightS [97] o = r → ∀ w', Fr (fun _ => False) w w' → RtPost w (rightS [97] o) (.returned (.bool r)) w') := fun r hr w' hf => ⟨by rw [hr], hf⟩
    have HB : Hid (rightS [97] o = (!badB [97] o && ([97].contains 104 || (o.p == 0 && o.f == 0 && o.g == 0)))) := rfl
    obtain ⟨S, hS⟩ : ∃ S, bytesOf [97] = S := ⟨_, rfl⟩
    rw [hS] at HSH H97 H98 H105 H119 H102 H104
    clear hS hs hk
    go_enter Tryz.func6, Tryz.ntmps6
    go_wp2_with fail
    refine (HSH.out _).mono ?_
    rintro e w1 ⟨rfl, rfl⟩
    go_wp2_with fail
    refine (H97.out _).mono ?_
    rintro e w' ⟨rfl, rfl⟩
    go_wp2_with fail
    refine (H98.out _).mono ?_
    rintro e w' ⟨rfl, rfl⟩
    by_cases zb : o.b = 0
    rotate_left
    · have eb := int_ne0 zb
      have Zb := Lib.hid zb
      clear zb
      go_wp2
      go_ret
      exact HR.out false (by rw [HB.out]; unfold badB; simp [Zb.out]) _ ((Fr.refl _ w).alloc _)
    have eb := int_eq0 zb
    have Zb := Lib.hid zb
    clear zb
    go_wp2_with fail
    refine (H105.out _).mono ?_
    rintro e w' ⟨rfl, rfl⟩
    by_cases zi : o.i = 0
    rotate_left
    · have ei := int_ne0 zi
      have Zi := Lib.hid zi
      clear zi
      go_wp2
      go_ret
      exact HR.out false (by rw [HB.out]; unfold badB; simp [Zi.out]) _ ((Fr.refl _ w).alloc _)
    have ei := int_eq0 zi
    have Zi := Lib.hid zi
    clear zi
    go_wp2_with fail
    refine (H119.out _).mono ?_
    rintro e w' ⟨rfl, rfl⟩
    by_cases zx : o.x = 0
    rotate_left
    · have ex := nat_ne0 zx
      have Zx := Lib.hid zx
      clear zx
      go_wp2
      go_ret
      exact HR.out false (by rw [HB.out]; unfold badB; simp [Zx.out]) _ ((Fr.refl _ w).alloc _)
    have ex := nat_eq0 zx
    have Zx := Lib.hid zx
    clear zx
    go_wp2_with fail
    refine (H102.out _).mono ?_
    rintro e w' ⟨rfl, rfl⟩
    by_cases zq : o.q = 0
    rotate_left
    · have eq := nat_ne0 zq
      have Zq := Lib.hid zq
      clear zq
      go_wp2
      go_ret
      exact HR.out false (by rw [HB.out]; unfold badB; simp [Zq.out]) _ ((Fr.refl _ w).alloc _)
    have eq := nat_eq0 zq
    have Zq := Lib.hid zq
    clear zq
    go_wp2_with fail
    refine (H104.out _).mono ?_
    rintro e w' ⟨rfl, rfl⟩
    by_cases zp : o.p = 0
    rotate_left
    · have ep := int_ne0 zp
      have Zp := Lib.hid zp
      clear zp
      go_wp2
      go_ret
      exact HR.out false (by rw [HB.out]; unfold badB; simp [Zp.out]) _ ((Fr.refl _ w).alloc _)
    have ep := int_eq0 zp
    have Zp := Lib.hid zp
    clear zp
    by_cases zf : o.f = 0
    rotate_left
    · have ef := int_ne0 zf
      have Zf := Lib.hid zf
      clear zf
      go_wp2
      go_ret
      exact HR.out false (by rw [HB.out]; unfold badB; simp [Zf.out]) _ ((Fr.refl _ w).alloc _)
    have ef := int_eq0 zf
    have Zf := Lib.hid zf
    clear zf
    by_cases zg : o.g = 0
    rotate_left
    · have eg := int_ne0 zg
      have Zg := Lib.hid zg
      clear zg
      go_wp2
      go_ret
      exact HR.out false (by rw [HB.out]; unfold badB; simp [Zg.out]) _ ((Fr.refl _ w).alloc _)
    have eg := int_eq0 zg
    have Zg := Lib.hid zg
    clear zg
    go_wp2
    go_ret
    exact HR.out true (by rw [HB.out]; unfold badB; simp [Zb.out, Zi.out, Zx.out, Zq.out, Zp.out, Zf.out, Zg.out]) _ ((Fr.refl _ w).alloc _)
set_option maxRecDepth 100000 in
set_option maxHeartbeats 1600000 in
theorem right_aibw (o : OpR) (hk : isK o.k = true) (hs : shB o.k = [97, 105, 98, 119]) (w : World) : Calls Tryz.prog 6 #[o.rval] w (RtPost w (rightS (shB o.k) o)) := by
    have HSH := Lib.hid (rshape_any o.k)
    unfold ShEq at HSH
    rw [hk] at HSH
    unfold OpR.rval
    rw [hs] at HSH ⊢
    have H97 : Hid (∀ w, Calls Tryz.prog 14 #[.string (bytesOf [97, 105, 98, 119]), .int .u8 97] w (HasPost w true)) := has_any [97, 105, 98, 119] 97 (by decide)
    have H98 : Hid (∀ w, Calls Tryz.prog 14 #[.string (bytesOf [97, 105, 98, 119]), .int .u8 98] w (HasPost w true)) := has_any [97, 105, 98, 119] 98 (by decide)
    have H105 : Hid (∀ w, Calls Tryz.prog 14 #[.string (bytesOf [97, 105, 98, 119]), .int .u8 105] w (HasPost w true)) := has_any [97, 105, 98, 119] 105 (by decide)
    have H119 : Hid (∀ w, Calls Tryz.prog 14 #[.string (bytesOf [97, 105, 98, 119]), .int .u8 119] w (HasPost w true)) := has_any [97, 105, 98, 119] 119 (by decide)
    have H102 : Hid (∀ w, Calls Tryz.prog 14 #[.string (bytesOf [97, 105, 98, 119]), .int .u8 102] w (HasPost w false)) := has_any [97, 105, 98, 119] 102 (by decide)
    have H104 : Hid (∀ w, Calls Tryz.prog 14 #[.string (bytesOf [97, 105, 98, 119]), .int .u8 104] w (HasPost w false)) := has_any [97, 105, 98, 119] 104 (by decide)
    have HF : Hid (Fr (fun _ => False) w (w.alloc (.cells #[.int .i64 o.k, .int .i64 o.a, .int .i64 o.b, .int .i64 o.i, .int .i64 o.p, .int .i64 o.f, .int .i64 o.g, .int .u64 (o.x : Int), .float .f64 o.q, .int .u64 (o.q : Int)] 34))) := (Fr.refl _ w).alloc _
    have HR : Hid (∀ r, rightS [97, 105, 98, 119] o = r → ∀ w', Fr (fun _ => False) w w' → RtPost w (rightS [97, 105, 98, 119] o) (.returned (.bool r)) w') := fun r hr w' hf => ⟨by rw [hr], hf⟩
    have HB : Hid (rightS [97, 105, 98, 119] o = (!badB [97, 105, 98, 119] o && ([97, 105, 98, 119].contains 104 || (o.p == 0 && o.f == 0 && o.g == 0)))) := rfl
    obtain ⟨S, hS⟩ : ∃ S, bytesOf [97, 105, 98, 119] = S := ⟨_, rfl⟩
    rw [hS] at HSH H97 H98 H105 H119 H102 H104
    clear hS hs hk
    go_enter Tryz.func6, Tryz.ntmps6
    go_wp2_with fail
    refine (HSH.out _).mono ?_
    rintro e w1 ⟨rfl, rfl⟩
    go_wp2_with fail
    refine (H97.out _).mono ?_
    rintro e w' ⟨rfl, rfl⟩
    go_wp2_with fail
    refine (H98.out _).mono ?_
    rintro e w' ⟨rfl, rfl⟩
    go_wp2_with fail
    refine (H105.out _).mono ?_
    rintro e w' ⟨rfl, rfl⟩
    go_wp2_with fail
    refine (H119.out _).mono ?_
    rintro e w' ⟨rfl, rfl⟩
    go_wp2_with fail
    refine (H102.out _).mono ?_
    rintro e w' ⟨rfl, rfl⟩
    by_cases zq : o.q = 0
    rotate_left
    · have eq := nat_ne0 zq
      have Zq := Lib.hid zq
      clear zq
      go_wp2
      go_ret
      exact HR.out false (by rw [HB.out]; unfold badB; simp [Zq.out]) _ ((Fr.refl _ w).alloc _)
    have eq := nat_eq0 zq
    have Zq := Lib.hid zq
    clear zq
    go_wp2_with fail
    refine (H104.out _).mono ?_
    rintro e w' ⟨rfl, rfl⟩
    by_cases zp : o.p = 0
    rotate_left
    · have ep := int_ne0 zp
      have Zp := Lib.hid zp
      clear zp
      go_wp2
      go_ret
      exact HR.out false (by rw [HB.out]; unfold badB; simp [Zp.out]) _ ((Fr.refl _ w).alloc _)
    have ep := int_eq0 zp
    have Zp := Lib.hid zp
    clear zp
    by_cases zf : o.f = 0
    rotate_left
    · have ef := int_ne0 zf
      have Zf := Lib.hid zf
      clear zf
      go_wp2
      go_ret
      exact HR.out false (by rw [HB.out]; unfold badB; simp [Zf.out]) _ ((Fr.refl _ w).alloc _)
    have ef := int_eq0 zf
    have Zf := Lib.hid zf
    clear zf
    by_cases zg : o.g = 0
    rotate_left
    · have eg := int_ne0 zg
      have Zg := Lib.hid zg
      clear zg
      go_wp2
      go_ret
      exact HR.out false (by rw [HB.out]; unfold badB; simp [Zg.out]) _ ((Fr.refl _ w).alloc _)
    have eg := int_eq0 zg
    have Zg := Lib.hid zg
    clear zg
    go_wp2
    go_ret
    exact HR.out true (by rw [HB.out]; unfold badB; simp [Zq.out, Zp.out, Zf.out, Zg.out]) _ ((Fr.refl _ w).alloc _)
set_option maxRecDepth 100000 in
set_option maxHeartbeats 1600000 in
theorem right_none (o : OpR) (hk : isK o.k = true) (hs : shB o.k = []) (w : World) : Calls Tryz.prog 6 #[o.rval] w (RtPost w (rightS (shB o.k) o)) := by
    have HSH := Lib.hid (rshape_any o.k)
    unfold ShEq at HSH
    rw [hk] at HSH
    unfold OpR.rval
    rw [hs] at HSH ⊢
    have H97 : Hid (∀ w, Calls Tryz.prog 14 #[.string (bytesOf []), .int .u8 97] w (HasPost w false)) := has_any [] 97 (by decide)
    have H98 : Hid (∀ w, Calls Tryz.prog 14 #[.string (bytesOf []), .int .u8 98] w (HasPost w false)) := has_any [] 98 (by decide)
    have H105 : Hid (∀ w, Calls Tryz.prog 14 #[.string (bytesOf []), .int .u8 105] w (HasPost w false)) := has_any [] 105 (by decide)
    have H119 : Hid (∀ w, Calls Tryz.prog 14 #[.string (bytesOf []), .int .u8 119] w (HasPost w false)) := has_any [] 119 (by decide)
    have H102 : Hid (∀ w, Calls Tryz.prog 14 #[.string (bytesOf []), .int .u8 102] w (HasPost w false)) := has_any [] 102 (by decide)
    have H104 : Hid (∀ w, Calls Tryz.prog 14 #[.string (bytesOf []), .int .u8 104] w (HasPost w false)) := has_any [] 104 (by decide)
    have HF : Hid (Fr (fun _ => False) w (w.alloc (.cells #[.int .i64 o.k, .int .i64 o.a, .int .i64 o.b, .int .i64 o.i, .int .i64 o.p, .int .i64 o.f, .int .i64 o.g, .int .u64 (o.x : Int), .float .f64 o.q, .int .u64 (o.q : Int)] 34))) := (Fr.refl _ w).alloc _
    have HR : Hid (∀ r, rightS [] o = r → ∀ w', Fr (fun _ => False) w w' → RtPost w (rightS [] o) (.returned (.bool r)) w') := fun r hr w' hf => ⟨by rw [hr], hf⟩
    have HB : Hid (rightS [] o = (!badB [] o && ([].contains 104 || (o.p == 0 && o.f == 0 && o.g == 0)))) := rfl
    obtain ⟨S, hS⟩ : ∃ S, bytesOf [] = S := ⟨_, rfl⟩
    rw [hS] at HSH H97 H98 H105 H119 H102 H104
    clear hS hs hk
    go_enter Tryz.func6, Tryz.ntmps6
    go_wp2_with fail
    refine (HSH.out _).mono ?_
    rintro e w1 ⟨rfl, rfl⟩
    go_wp2_with fail
    refine (H97.out _).mono ?_
    rintro e w' ⟨rfl, rfl⟩
    by_cases za : o.a = 0
    rotate_left
    · have ea := int_ne0 za
      have Za := Lib.hid za
      clear za
      go_wp2
      go_ret
      exact HR.out false (by rw [HB.out]; unfold badB; simp [Za.out]) _ ((Fr.refl _ w).alloc _)
    have ea := int_eq0 za
    have Za := Lib.hid za
    clear za
    go_wp2_with fail
    refine (H98.out _).mono ?_
    rintro e w' ⟨rfl, rfl⟩
    by_cases zb : o.b = 0
    rotate_left
    · have eb := int_ne0 zb
      have Zb := Lib.hid zb
      clear zb
      go_wp2
      go_ret
      exact HR.out false (by rw [HB.out]; unfold badB; simp [Zb.out]) _ ((Fr.refl _ w).alloc _)
    have eb := int_eq0 zb
    have Zb := Lib.hid zb
    clear zb
    go_wp2_with fail
    refine (H105.out _).mono ?_
    rintro e w' ⟨rfl, rfl⟩
    by_cases zi : o.i = 0
    rotate_left
    · have ei := int_ne0 zi
      have Zi := Lib.hid zi
      clear zi
      go_wp2
      go_ret
      exact HR.out false (by rw [HB.out]; unfold badB; simp [Zi.out]) _ ((Fr.refl _ w).alloc _)
    have ei := int_eq0 zi
    have Zi := Lib.hid zi
    clear zi
    go_wp2_with fail
    refine (H119.out _).mono ?_
    rintro e w' ⟨rfl, rfl⟩
    by_cases zx : o.x = 0
    rotate_left
    · have ex := nat_ne0 zx
      have Zx := Lib.hid zx
      clear zx
      go_wp2
      go_ret
      exact HR.out false (by rw [HB.out]; unfold badB; simp [Zx.out]) _ ((Fr.refl _ w).alloc _)
    have ex := nat_eq0 zx
    have Zx := Lib.hid zx
    clear zx
    go_wp2_with fail
    refine (H102.out _).mono ?_
    rintro e w' ⟨rfl, rfl⟩
    by_cases zq : o.q = 0
    rotate_left
    · have eq := nat_ne0 zq
      have Zq := Lib.hid zq
      clear zq
      go_wp2
      go_ret
      exact HR.out false (by rw [HB.out]; unfold badB; simp [Zq.out]) _ ((Fr.refl _ w).alloc _)
    have eq := nat_eq0 zq
    have Zq := Lib.hid zq
    clear zq
    go_wp2_with fail
    refine (H104.out _).mono ?_
    rintro e w' ⟨rfl, rfl⟩
    by_cases zp : o.p = 0
    rotate_left
    · have ep := int_ne0 zp
      have Zp := Lib.hid zp
      clear zp
      go_wp2
      go_ret
      exact HR.out false (by rw [HB.out]; unfold badB; simp [Zp.out]) _ ((Fr.refl _ w).alloc _)
    have ep := int_eq0 zp
    have Zp := Lib.hid zp
    clear zp
    by_cases zf : o.f = 0
    rotate_left
    · have ef := int_ne0 zf
      have Zf := Lib.hid zf
      clear zf
      go_wp2
      go_ret
      exact HR.out false (by rw [HB.out]; unfold badB; simp [Zf.out]) _ ((Fr.refl _ w).alloc _)
    have ef := int_eq0 zf
    have Zf := Lib.hid zf
    clear zf
    by_cases zg : o.g = 0
    rotate_left
    · have eg := int_ne0 zg
      have Zg := Lib.hid zg
      clear zg
      go_wp2
      go_ret
      exact HR.out false (by rw [HB.out]; unfold badB; simp [Zg.out]) _ ((Fr.refl _ w).alloc _)
    have eg := int_eq0 zg
    have Zg := Lib.hid zg
    clear zg
    go_wp2
    go_ret
    exact HR.out true (by rw [HB.out]; unfold badB; simp [Za.out, Zb.out, Zi.out, Zx.out, Zq.out, Zp.out, Zf.out, Zg.out]) _ ((Fr.refl _ w).alloc _)
theorem right_of (o : OpR) (hk : isK o.k = true) (w : World) : Calls Tryz.prog 6 #[o.rval] w (RtPost w (rightS (shB o.k) o)) := by
  rcases shape_cases hk with h | h | h | h | h | h | h | h | h | h
  · exact right_ah o hk h w
  · exact right_abi o hk h w
  · exact right_aib o hk h w
  · exact right_ai o hk h w
  · exact right_aiw o hk h w
  · exact right_aif o hk h w
  · exact right_ab o hk h w
  · exact right_a o hk h w
  · exact right_aibw o hk h w
  · exact right_none o hk h w
end Go.Proofs.YtlcgmniahdngdaaGreatDoor
