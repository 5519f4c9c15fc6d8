/- The walks of package pacer: Due; the examples; the law PacerNobody. -/
import Derived.Test.YtmllbdiljjimmaaPacer3
namespace Go.Proofs.Ytmllbdiljjimmaa
open Go.RowKit

/-- Is a collection to be begun? -/
def dueF (t : Nat) (used words : Int) : Bool := dbl.order (floatOfInt .f64 used) (opF (floatBits .mul .f64 t (floatOfInt .f64 words))) == some .gt || dbl.order (floatOfInt .f64 used) (opF (floatBits .mul .f64 t (floatOfInt .f64 words))) == some .eq

set_option maxRecDepth 100000 in
set_option maxHeartbeats 400000 in
theorem due_nil (used words : Int) (w : World) : Calls Try.prog 41 #[.pointer none, .int .i64 used, .int .i64 words] w (OneBool w false) := by
  have HN := Lib.hid (none_nil w)
  go_enter Try.func41, Try.ntmps41
  go_wp2_with fail
  refine (HN.out).mono ?_
  rintro e w' ⟨rfl, rfl⟩
  go_wp2
  go_ret
  exact ⟨rfl, rfl⟩

def BPost (w : World) (v : Bool) (e : Ending) (w' : World) : Prop := e = .returned (.bool v) ∧ Fr (fun _ => False) w w'
set_option maxRecDepth 100000 in
set_option maxHeartbeats 800000 in
theorem due_any {W w : World} {b g l m : Nat} {v : Value} {rs : List Nat} (h : PacB W w b g l m v rs) (hl8 : rs.length ≤ 8) (hl : l < 18446744073709551616) (hm : m < 18446744073709551616) (used words : Int) :
    Calls Try.prog 41 #[.pointer (some ⟨b, 0, none⟩), .int .i64 used, .int .i64 words] w (BPost w (dueF (trigF g l m rs) used words)) := by
  have HN := Lib.hid h.isNone
  have HT := Lib.hid (trig_any h hl8 hl hm)
  generalize trigF g l m rs = T at *
  clear h
  have hd : dueF T used words = (dbl.order (floatOfInt .f64 used) (opF (floatBits .mul .f64 T (floatOfInt .f64 words))) == some .gt || dbl.order (floatOfInt .f64 used) (opF (floatBits .mul .f64 T (floatOfInt .f64 words))) == some .eq) := rfl
  generalize dueF T used words = D at *
  have hu := floatOf_lt used
  generalize hU : floatOfInt .f64 used = U at *
  generalize hY : floatOfInt .f64 words = Y at *
  have HD := Lib.hid hd
  clear hd
  go_enter Try.func41, Try.ntmps41
  go_wp2_with fail
  refine (HN.out).mono ?_
  rintro e w' ⟨rfl, rfl⟩
  go_wp2_with fail
  refine (HT.out).mono ?_
  rintro e w1 ⟨rfl, hf1⟩
  obtain ⟨r, w2, hr2, hf2, hlt2, hcr2⟩ := run_mul_any (P := Try.prog) 26 T Y w1
  have HF2 := Lib.hid (hf1.then hf2)
  have he : (FloatKind.f64.format.order U r == some .gt || FloatKind.f64.format.order U r == some .eq) = D := by
    rw [HD.out, ← hcr2, ← order_canon hu hlt2]
  have HE := Lib.hid he
  clear hf1 hf2 hcr2 he HD hlt2 hu
  go_wp2
  go_ret
  exact ⟨congrArg (fun b => Ending.returned (.bool b)) HE.out, HF2.out⟩

theorem PacB.of_new {w w1 : World} {g l m : Nat} (hb : Blk w1 w.heap.size [.float .f64 g, .float .f64 l, .float .f64 m, .slice none 0 0, .bool true] 110) (hf : Fr (fun _ => False) w w1) : PacB w w1 w.heap.size g l m (.slice none 0 0) [] :=
  ⟨hb, ⟨World.ownsRow_nil _ _ _ _, by simp [Value.ownBlock], by simp, hf⟩, by simp [Value.ownBlock], Nat.le_refl _⟩

theorem may_ex : mayF 4607182418800017408 0 4607182418800017408 = true := by decide
theorem ratio_ex : ratioF 1 4 = 4598175219545276416 := by decide +kernel
theorem mean_ex : meanF [4598175219545276416] = 4598175219545276416 := by
  unfold meanF
  rw [one_whole (by decide)]
  decide +kernel
theorem trig_ex : trigF 4607182418800017408 0 4607182418800017408 [4598175219545276416] = 4602678819172646912 := by
  unfold trigF
  rw [mean_ex]
  decide +kernel
theorem due_ex1 : dueF 4602678819172646912 2 4 = true := by decide +kernel
theorem due_ex2 : dueF 4602678819172646912 1 4 = false := by decide +kernel
theorem eq_half : (FloatKind.f64.format.order 4602678819172646912 4602678819172646912 == some Ordering.eq) = true := by kernel_rfl
theorem eq_one2 : (FloatKind.f64.format.order 4607182418800017408 4607182418800017408 == some Ordering.eq) = true := by kernel_rfl

set_option maxRecDepth 100000 in
set_option maxHeartbeats 1600000 in
theorem lives34_any (w : World) : Calls Try.prog 32 #[] w (BPost w true) := by
  have HNEW := Lib.hid (new_any 4607182418800017408 0 4607182418800017408 (by decide) (by decide) (by decide) w)
  have q1 := eq_half
  have q2 := eq_one2
  go_enter Try.func32, Try.ntmps32
  go_wp2_with fail
  refine (HNEW.out).mono ?_
  rintro e w1 ⟨h, _⟩
  obtain ⟨rfl, hb, hf, _⟩ := h may_ex
  have HP := Lib.hid (PacB.of_new hb hf)
  have HT := Lib.hid (trig_any (HP.out) (by decide) (by decide) (by decide))
  rw [show trigF 4607182418800017408 0 4607182418800017408 [] = 4607182418800017408 from if_pos rfl] at HT
  generalize w.heap.size = b at *
  clear h hb hf
  go_wp2_with fail
  refine (HT.out).mono ?_
  rintro e w2 ⟨rfl, hf2⟩
  have HP2 := Lib.hid (HP.out.frame hf2 (fun h => h) (fun _ _ h => h) (fun _ h => h.elim))
  have HNOTE := Lib.hid (note_yes HP2.out (by decide) 1 4 (by decide))
  rw [show noteL [] (ratioF (1 : Int).toNat (4 : Int).toNat) = [4598175219545276416] by show noteL [] (ratioF 1 4) = _; rw [ratio_ex]; rfl] at HNOTE
  clear hf2 HT HP
  go_wp2_with fail
  refine (HNOTE.out).mono ?_
  rintro e w3 ⟨rfl, v3, hP3, _, _⟩
  have HP3 := Lib.hid hP3
  have HT3 := Lib.hid (trig_any hP3 (by decide) (by decide) (by decide))
  rw [trig_ex] at HT3
  clear hP3 HNOTE HP2
  go_wp2_with fail
  refine (HT3.out).mono ?_
  rintro e w4 ⟨rfl, hf4⟩
  have HP4 := Lib.hid (HP3.out.frame hf4 (fun h => h) (fun _ _ h => h) (fun _ h => h.elim))
  have HD4 := Lib.hid (due_any HP4.out (by decide) (by decide) (by decide) 2 4)
  rw [trig_ex, due_ex1] at HD4
  clear hf4 HT3 HP3
  go_wp2_with fail
  refine (HD4.out).mono ?_
  rintro e w5 ⟨rfl, hf5⟩
  have HP5 := Lib.hid (HP4.out.frame hf5 (fun h => h) (fun _ _ h => h) (fun _ h => h.elim))
  have HD5 := Lib.hid (due_any HP5.out (by decide) (by decide) (by decide) 1 4)
  rw [trig_ex, due_ex2] at HD5
  clear hf5 HD4 HP4
  go_wp2_with fail
  refine (HD5.out).mono ?_
  rintro e w6 ⟨rfl, hf6⟩
  have HF6 := Lib.hid (HP5.out.2.1.2.2.2.then hf6)
  clear hf6 HD5 HP5
  go_wp2
  go_ret
  exact ⟨rfl, HF6.out⟩

set_option maxRecDepth 100000 in
set_option maxHeartbeats 800000 in
theorem PacerNobody_of (live words : Int) (W : World) : Calls Try.prog 10 #[.int .i64 live, .int .i64 words] W (LawPost W) := by
  have HLIVE := Lib.hid lives34_any
  have H1 := Lib.hid (note_nil live words W)
  have H2 := Lib.hid (trig_nil W)
  have H3 := Lib.hid (bits_any 0 W)
  have H4 := Lib.hid (due_nil live words W)
  have H5 := Lib.hid (noted_nil W)
  go_enter Try.func10, Try.ntmps10
  go_wp2_with fail
  refine (H1.out).mono ?_
  rintro e w' ⟨rfl, rfl⟩
  go_wp2_with fail
  refine (H2.out).mono ?_
  rintro e w' ⟨rfl, rfl⟩
  go_wp2_with fail
  refine (H3.out).mono ?_
  rintro e w' ⟨rfl, rfl⟩
  go_wp2_with fail
  refine (H4.out).mono ?_
  rintro e w' ⟨rfl, rfl⟩
  go_wp2_with fail
  refine (H5.out).mono ?_
  rintro e w' ⟨rfl, rfl⟩
  go_wp2_with fail
  refine (HLIVE.out _).mono ?_
  rintro e w1 ⟨rfl, hf⟩
  have HF := Lib.hid hf
  clear hf
  go_wp2
  go_ret
  exact ⟨rfl, HF.out⟩
end Go.Proofs.Ytmllbdiljjimmaa
