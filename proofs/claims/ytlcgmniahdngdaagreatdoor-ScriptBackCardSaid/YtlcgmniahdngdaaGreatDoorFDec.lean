/- The walks of strconv.FormatUint and of the parts of a float. -/
import Derived.Test.YtlcgmniahdngdaaGreatDoorFTz
import Derived.Test.YtlcgmniahdngdaaGreatDoorShelf
import Derived.Lib.AppendIntMem
import Derived.Lib.ParseIntBCases
import Derived.Lib.ItoaMem
namespace Go.Proofs.YtlcgmniahdngdaaGreatDoor
open Go.RowKit Go.Sort

theorem Fr.of_grow (w : World) (k : Nat) (os : Array Obj) : Fr (fun _ => False) w (grow (w.drewN k) os) :=
  ⟨rfl, rfl, rfl, by show w.heap.size ≤ (w.heap ++ os).size; simp, fun g hg _ => Lib.heap_grow_old w k os g hg⟩
theorem Fr.then {a b c : World} (h : Fr (fun _ => False) a b) (k : Fr (fun _ => False) b c) : Fr (fun _ => False) a c := h.trans k (fun _ h => h.elim)
theorem tabIs_frame {P : Program} {w w' : World} {name : String} {k : IntKind} {zs : List Int} (h : Lib.TabIs P w name k zs) (hf : Fr (fun _ => False) w w') : Lib.TabIs P w' name k zs := by
  unfold Lib.TabIs World.var? at *
  cases hg : P.globalNamed name with
  | none => simp [hg] at h
  | some g =>
    simp only [hg, Option.bind_some] at h ⊢
    have hlt : g < w.heap.size := by
      by_cases hb : g < w.heap.size
      · exact hb
      · rw [Array.getElem?_eq_none (by omega)] at h; cases h
    rw [hf.block g hlt (fun h => h)]
    exact h

def SPost (w : World) (s : ByteArray) (e : Ending) (w' : World) : Prop := e = .returned (.string s) ∧ Fr (fun _ => False) w w'
set_option maxRecDepth 100000 in
set_option maxHeartbeats 3200000 in
theorem ifmt_uint (u : Nat) (hu : u < 18446744073709551616) (w : World) (htab : Lib.TabIs Tryz.prog w "internal/strconv.uint64pow10" .u64 Lib.pow10Tab) :
    Calls Tryz.prog 65 #[.int .u64 (u : Int), .int .i64 10] w (SPost w ⟨(Lib.decDigits u).toArray⟩) := by
  by_cases hs : u < 100
  · have HS := Lib.hid (Tryz.internal_strconv_small u hs)
    have hi : (u : Int) < 100 := by omega
    clear htab hu
    go_enter Tryz.func65, Tryz.ntmps65
    go_wp2_with fail
    refine (HS.out w).mono ?_
    rintro e w' ⟨rfl, rfl⟩
    go_wp2
    go_ret
    exact ⟨rfl, Fr.refl _ w'⟩
  · have hu1 : 1 ≤ u := by omega
    have hi : (100 : Int) ≤ u := by omega
    have hd : decide (u < 100) = false := by rw [decide_eq_false_iff_not]; omega
    have hnd20 : Lib.nDigits u ≤ 20 := by have := Lib.numDigits_eq u hu1 hu; split at this <;> omega
    have hal : Tryz.prog.arrayLen 124 = 24 := by kernel_rfl
    have hsl : ∀ W, (Instr.sliceAt 124 (.pointer (some ⟨w.heap.size, 0, none⟩)) none (some (.int .i64 (Lib.nDigits u : Int))) none).run Tryz.prog W = .ok (.slice (some ⟨w.heap.size, 0, none⟩) (Lib.nDigits u) 24) W := fun W => by
      rw [run_sliceAt_array_h (P := Tryz.prog) W 124 ⟨w.heap.size, 0, none⟩ (by simp [Program.arrayLen, Program.elem, Tryz.underlying124]) .i64 (Lib.nDigits u : Int) (by omega) (by rw [hal]; omega)]
      go_simp
    have hH0 := Lib.holds_zero0 w 124 (Lib.nDigits u) (by omega)
    have hfmt := Tryz.internal_strconv_formatBase10 w.heap.size 0 24 u (Array.replicate (Lib.nDigits u) 0) (w.alloc (.cells Lib.zeros24 124)) hH0 (by rw [Array.size_replicate]; exact Lib.lt_pow_nDigits u) hu (by rw [Array.size_replicate]; omega)
    rw [Array.size_replicate] at hfmt
    have HH0 := Lib.hid hH0
    have HF := Lib.hid hfmt
    have HT := Lib.hid (Lib.tabIs_alloc htab (.cells Lib.zeros24 124))
    have HN := Lib.hid (Tryz.internal_strconv_numDigits u hu1 hu _ HT.out)
    have HND := Lib.hid hnd20
    clear hH0 hal hfmt htab hu1 hu
    go_enter Tryz.func65, Tryz.ntmps65
    go_wp2_with fail
    refine (HN.out).mono ?_
    rintro e w' ⟨rfl, rfl⟩
    go_wp2_with fail
    refine (HF.out).mono ?_
    rintro e w' ⟨rfl, k, v', dk, rfl, hF⟩
    have hcv : (convert 51 9 (.slice (some ⟨w.heap.size, 0, none⟩) (Lib.nDigits u) 24)).run Tryz.prog ((putRow (fun (b : UInt8) => Value.int .u8 (b.toNat : Int)) (w.alloc (.cells Lib.zeros24 124)) w.heap.size 0 dk).drewN k) = .ok (.string ⟨(Lib.decDigits u).toArray⟩) ((putRow (fun (b : UInt8) => Value.int .u8 (b.toNat : Int)) (w.alloc (.cells Lib.zeros24 124)) w.heap.size 0 dk).drewN k) := by
      have h := run_convert_bytes_back (P := Tryz.prog) ((putRow (fun (b : UInt8) => Value.int .u8 (b.toNat : Int)) (w.alloc (.cells Lib.zeros24 124)) w.heap.size 0 dk).drewN k) 51 9 5 ⟨w.heap.size, 0, none⟩ 24 (Lib.decDigits u) Tryz.underlying51 Tryz.underlying5 Tryz.underlying9 (fun j hj => by
        rw [Lib.row_is_numeral hF j hj, Lib.add_plain, World.cell?_drewN]
        exact cell?_putRow (fun (b : UInt8) => Value.int .u8 (b.toNat : Int)) _ w.heap.size 0 _ dk HH0.out (by rw [hF.size, Array.size_replicate]) j (by rw [hF.size]; rw [Lib.decDigits_length] at hj; exact hj))
      rw [Lib.decDigits_length] at h
      exact h
    have hfin := Lib.fin_at w (.cells Lib.zeros24 124) dk k 0
    have HFIN := Lib.hid hfin
    clear hfin hF
    go_wp2
    go_ret
    obtain ⟨os, eo⟩ := HFIN.out
    exact ⟨rfl, eo ▸ Fr.of_grow w k os⟩

set_option maxRecDepth 100000 in
theorem fmt_uint (u : Nat) (hu : u < 18446744073709551616) (w : World) (htab : Lib.TabIs Tryz.prog w "internal/strconv.uint64pow10" .u64 Lib.pow10Tab) :
    Calls Tryz.prog 44 #[.int .u64 (u : Int), .int .i64 10] w (SPost w ⟨(Lib.decDigits u).toArray⟩) := by
  have H := Lib.hid (ifmt_uint u hu w htab)
  generalize (⟨(Lib.decDigits u).toArray⟩ : ByteArray) = s at *
  clear htab hu
  go_enter Tryz.func44, Tryz.ntmps44
  go_wp2_with fail
  refine (H.out).mono ?_
  rintro e w' ⟨rfl, hf⟩
  have HF := Lib.hid hf
  clear hf
  go_wp2
  go_ret
  exact ⟨rfl, HF.out⟩
end Go.Proofs.YtlcgmniahdngdaaGreatDoor

/- The walks of the parts of a float and of its text. -/
namespace Go.Proofs.YtlcgmniahdngdaaGreatDoor
open Go.RowKit Go.Sort

/-- How many noughts a number ends with, to the base 2. -/
def tzN (x : Nat) : Nat := if _h : x = 0 ∨ x % 2 = 1 then 0 else tzN (x / 2) + 1
termination_by x
decreasing_by omega
theorem tzN_odd {x : Nat} (h : x % 2 = 1) : tzN x = 0 := by rw [tzN, dif_pos (.inr h)]
theorem tzN_even {x : Nat} (h0 : x ≠ 0) (h : x % 2 = 0) : tzN x = tzN (x / 2) + 1 := by rw [tzN, dif_neg (by omega)]
theorem tzN_ex (x : Nat) (h0 : x ≠ 0) : ∃ m, x = 2 ^ tzN x * (2 * m + 1) := by
  induction x using Nat.strongRecOn with
  | _ x ih =>
    by_cases h : x % 2 = 1
    · rw [tzN_odd h]; exact ⟨x / 2, by omega⟩
    · obtain ⟨m, hm⟩ := ih (x / 2) (by omega) (by omega)
      rw [tzN_even h0 (by omega)]
      refine ⟨m, ?_⟩
      rw [Nat.pow_succ, Nat.mul_assoc, Nat.mul_comm 2, ← Nat.mul_assoc, ← hm]
      omega
theorem tzN_lt {x : Nat} (h0 : x ≠ 0) (hx : x < 9007199254740992) : tzN x < 53 := by
  obtain ⟨m, hm⟩ := tzN_ex x h0
  rcases Nat.lt_or_ge (tzN x) 53 with h1 | h1
  · exact h1
  · have h2 : 2 ^ 53 ≤ 2 ^ tzN x := Nat.pow_le_pow_right (by decide) h1
    have h3 : 2 ^ tzN x * 1 ≤ 2 ^ tzN x * (2 * m + 1) := Nat.mul_le_mul_left _ (by omega)
    rw [← hm] at h3
    omega

/-- A number's whole part, to the least place. -/
def mantF (b : Nat) : Nat := if expo b = 0 then frac b else 4503599627370496 + frac b
def oddF (b : Nat) : Nat := mantF b / 2 ^ tzN (mantF b)
def expF (b : Nat) : Int := if mantF b = 0 then 0 else (if expo b = 0 then 1 else expo b : Nat) - 1075 + (tzN (mantF b) : Int)
theorem mant_lt (b : Nat) : mantF b < 9007199254740992 := by
  have : frac b < 4503599627370496 := Nat.mod_lt _ (by decide)
  unfold mantF; split <;> omega
theorem odd_lt (b : Nat) : oddF b < 9007199254740992 := Nat.lt_of_le_of_lt (Nat.div_le_self _ _) (mant_lt b)
theorem exp_le (b : Nat) : -1074 ≤ expF b ∧ expF b ≤ 1024 := by
  have h1 := mant_lt b
  have h2 : expo b < 2048 := Nat.mod_lt _ (by decide)
  unfold expF
  split
  · omega
  · rename_i h0
    have := tzN_lt h0 h1
    split <;> omega
theorem or_top (f : Nat) (hf : f < 4503599627370496) : bits .or .u64 (f : Int) 4503599627370496 = ((4503599627370496 + f : Nat) : Int) := by
  have h := u64_or_nat f 4503599627370496 (by omega) (by decide)
  have e : f ||| 4503599627370496 = 4503599627370496 + f := by
    have := Nat.two_pow_add_eq_or_of_lt (i := 52) (b := f) hf 1
    rw [Nat.or_comm]
    rw [show (2 : Nat) ^ 52 * 1 = 4503599627370496 by rfl] at this
    exact this.symm
  rw [e] at h
  exact h

def PartsIs (w : World) (m : Nat) (x : Int) (e : Ending) (w' : World) : Prop := e = .returned (.tuple #[.int .u64 (m : Int), .int .i64 x]) ∧ w = w'
set_option maxRecDepth 100000 in
set_option maxHeartbeats 1600000 in
theorem parts_any (b : Nat) (hb : b < 18446744073709551616) (w : World) (hT : TabD w) : Calls Tryz.prog 47 #[.float .f64 b] w (PartsIs w (oddF b) (expF b)) := by
  have HB := Lib.hid (bits_any b w)
  have e1 := expo_raw b hb
  have e2 := frac_raw b hb
  have hF : frac b < 4503599627370496 := Nat.mod_lt _ (by decide)
  have hE : expo b < 2048 := Nat.mod_lt _ (by decide)
  have e3 := or_top _ hF
  have hml := mant_lt b
  have hm : mantF b = if expo b = 0 then frac b else 4503599627370496 + frac b := rfl
  have ho : oddF b = mantF b / 2 ^ tzN (mantF b) := rfl
  have hx : expF b = if mantF b = 0 then 0 else (if expo b = 0 then 1 else expo b : Nat) - 1075 + (tzN (mantF b) : Int) := rfl
  generalize oddF b = O at *
  generalize expF b = X at *
  generalize mantF b = M at *
  generalize expo b = E at *
  generalize frac b = F at *
  by_cases h0 : M = 0
  · rw [h0, Nat.zero_div] at ho
    rw [if_pos h0] at hx
    have hE0 : E = 0 := by
      by_cases h : E = 0
      · exact h
      · rw [if_neg h] at hm; omega
    rw [if_pos hE0] at hm
    have hF0 : F = 0 := by omega
    subst ho hx
    subst hE0 hF0
    clear hm hml h0 e3
    go_enter Tryz.func47, Tryz.ntmps47
    go_wp2_with fail
    refine (HB.out).mono ?_
    rintro e w' ⟨rfl, rfl⟩
    go_wp2
    go_ret2
    exact ⟨rfl, rfl⟩
  · obtain ⟨m, hmm⟩ := tzN_ex M h0
    have HZ := Lib.hid (tz_odd M (tzN M) m (by omega) hmm w hT)
    have hz := tzN_lt h0 hml
    rw [if_neg h0] at hx
    generalize tzN M = k at *
    have hp : 0 < 2 ^ k := Nat.two_pow_pos k
    have ho2 : (M : Int) / 2 ^ k = (O : Int) := by rw [ho]; simp
    have HO := Lib.hid ho
    have q0 : ((M : Int) == 0) = false := by rw [beq_eq_false_iff_ne]; omega
    have hki : (k : Int) < 53 := by omega
    by_cases hE0 : E = 0
    · subst hE0
      rw [if_pos rfl] at hm hx
      obtain rfl : M = F := hm
      have hx2 : X = 1 - 1075 + (k : Int) := hx
      subst hx2
      clear hmm ho h0 hp hml e3 hF hx
      go_enter Tryz.func47, Tryz.ntmps47
      go_wp2_with fail
      refine (HB.out).mono ?_
      rintro e w' ⟨rfl, rfl⟩
      go_wp2_with fail
      refine (HZ.out).mono ?_
      rintro e w' ⟨rfl, rfl⟩
      go_wp2
      go_ret2
      exact ⟨by first | rfl | go_num, rfl⟩
    · rw [if_neg hE0] at hm hx
      have d1 : decide (0 < E) = true := by rw [decide_eq_true_eq]; omega
      rw [← hm] at e3
      have hx2 : X = (E : Int) - 1075 + (k : Int) := hx
      subst hx2
      clear hmm ho hm h0 hp hml hF hx
      go_enter Tryz.func47, Tryz.ntmps47
      go_wp2_with fail
      refine (HB.out).mono ?_
      rintro e w' ⟨rfl, rfl⟩
      go_wp2_with fail
      refine (HZ.out).mono ?_
      rintro e w' ⟨rfl, rfl⟩
      go_wp2
      go_ret2
      exact ⟨rfl, rfl⟩

/-- The bytes of a float's text. -/
def bytesOf (l : List UInt8) : ByteArray := ⟨l.toArray⟩
def coreF (b : Nat) : List UInt8 := Lib.decDigits (oddF b) ++ 112 :: Lib.itoa (expF b)
def textF (b : Nat) : List UInt8 := if kindF b = 4 then [110, 97, 110] else if kindF b = 3 then (if negF b then [45, 105, 110, 102] else [105, 110, 102]) else if negF b then 45 :: coreF b else coreF b
theorem bytes_app (l m : List UInt8) : bytesOf l ++ bytesOf m = bytesOf (l ++ m) := by
  apply ByteArray.ext
  simp [bytesOf]

theorem bytes_size (l : List UInt8) : (bytesOf l).size = l.length := by simp [bytesOf, ByteArray.size]
theorem digits_le {u : Nat} (h : u < 18446744073709551616) : (Lib.decDigits u).length ≤ 20 := by
  rw [Lib.decDigits_length]
  by_cases h0 : u = 0
  · subst h0; rw [Lib.nDigits, dif_pos (by decide)]; decide
  · have := Lib.numDigits_eq u (by omega) h
    split at this <;> omega
theorem itoa_le {x : Int} (h : x.natAbs < 18446744073709551616) : (Lib.itoa x).length ≤ 21 := by
  rcases Int.lt_or_le x 0 with h0 | h0
  · obtain ⟨u, rfl⟩ : ∃ u : Nat, x = -(u : Int) := ⟨x.natAbs, by omega⟩
    rw [Lib.itoa_neg u (by omega), List.length_cons]
    have := digits_le (u := u) (by omega)
    omega
  · obtain ⟨u, rfl⟩ : ∃ u : Nat, x = (u : Int) := ⟨x.toNat, by omega⟩
    rw [Lib.itoa_nonneg]
    have := digits_le (u := u) (by omega)
    omega

set_option maxRecDepth 100000 in
set_option maxHeartbeats 1600000 in
theorem text_any (b : Nat) (hb : b < 18446744073709551616) (w : World) (hT : TabD w) (hP : Lib.TabIs Tryz.prog w "internal/strconv.uint64pow10" .u64 Lib.pow10Tab) :
    Calls Tryz.prog 30 #[.float .f64 b] w (SPost w (bytesOf (textF b))) := by
  have hn := nan_ne hb
  have HK := Lib.hid (kind_any b hb)
  have HS := Lib.hid (sign_any b hb)
  have hkl := kind_le b
  by_cases h4 : kindF b = 4
  · rw [show textF b = [110, 97, 110] by unfold textF; rw [if_pos h4]]
    rw [h4] at hn
    clear h4 hkl
    go_enter Tryz.func30, Tryz.ntmps30
    go_wp2
    go_ret
    exact ⟨rfl, Fr.refl _ w⟩
  rw [show (kindF b == 4) = false by rw [beq_eq_false_iff_ne]; exact h4] at hn
  by_cases h3 : kindF b = 3
  · rw [h3] at HK
    cases hs : negF b with
    | true =>
      rw [hs] at HS
      rw [show textF b = [45, 105, 110, 102] by unfold textF; rw [if_neg h4, if_pos h3, hs]; rfl]
      clear h4 h3 hkl hs
      go_enter Tryz.func30, Tryz.ntmps30
      go_wp2_with fail
      refine (HK.out w).mono ?_
      rintro e w' ⟨rfl, rfl⟩
      go_wp2_with fail
      refine (HS.out _).mono ?_
      rintro e w' ⟨rfl, rfl⟩
      go_wp2
      go_ret
      exact ⟨rfl, Fr.refl _ _⟩
    | false =>
      rw [hs] at HS
      rw [show textF b = [105, 110, 102] by unfold textF; rw [if_neg h4, if_pos h3, hs]; rfl]
      clear h4 h3 hkl hs
      go_enter Tryz.func30, Tryz.ntmps30
      go_wp2_with fail
      refine (HK.out w).mono ?_
      rintro e w' ⟨rfl, rfl⟩
      go_wp2_with fail
      refine (HS.out _).mono ?_
      rintro e w' ⟨rfl, rfl⟩
      go_wp2_with fail
      refine (HK.out _).mono ?_
      rintro e w' ⟨rfl, rfl⟩
      go_wp2
      go_ret
      exact ⟨rfl, Fr.refl _ _⟩
  have hk3 : ((kindF b : Int) == 3) = false := by rw [beq_eq_false_iff_ne]; omega
  have HP := Lib.hid (parts_any b hb w hT)
  have HF := Lib.hid (fmt_uint (oddF b) (Nat.lt_trans (odd_lt b) (by decide)) w hP)
  have hx := exp_le b
  have HI : Hid (∀ w', Fr (fun _ => False) w w' → Calls Tryz.prog 43 #[.int .i64 (expF b)] w' (SPost w' (bytesOf (Lib.itoa (expF b))))) := fun w' hf =>
    (Tryz.strconv_Itoa (expF b) (by omega) (by omega) w' (tabIs_frame hP hf)).mono fun e w'' ⟨h1, k, os, h2⟩ => ⟨h1, h2 ▸ Fr.of_grow w' k os⟩
  have ht : textF b = if negF b then 45 :: coreF b else coreF b := by unfold textF; rw [if_neg h4, if_neg h3]
  have hc : bytesOf (Lib.decDigits (oddF b)) ++ bytesOf [112] ++ bytesOf (Lib.itoa (expF b)) = bytesOf (coreF b) := by rw [bytes_app, bytes_app]; unfold coreF; simp
  have hc2 : bytesOf [45] ++ bytesOf (coreF b) = bytesOf (45 :: coreF b) := by rw [bytes_app]; rfl
  have hs1 : (bytesOf (Lib.decDigits (oddF b))).size ≤ 20 := by rw [bytes_size]; exact digits_le (Nat.lt_trans (odd_lt b) (by decide))
  have hs2 : (bytesOf (Lib.itoa (expF b))).size ≤ 21 := by rw [bytes_size]; exact itoa_le (by omega)
  change Hid (Calls Tryz.prog 44 _ w (SPost w (bytesOf (Lib.decDigits (oddF b))))) at HF
  generalize textF b = T at *
  generalize coreF b = C at *
  generalize bytesOf (Lib.decDigits (oddF b)) = D at *
  generalize bytesOf (Lib.itoa (expF b)) = X at *
  generalize kindF b = K at *
  have HC := Lib.hid hc
  have HC2 := Lib.hid hc2
  have HT2 := Lib.hid ht
  clear h4 h3 hkl hT hP hc hc2 ht hx
  obtain ⟨ng, hng⟩ : ∃ ng, negF b = ng := ⟨_, rfl⟩
  rw [hng] at HS HT2
  cases ng
  all_goals
    clear hng
    go_enter Tryz.func30, Tryz.ntmps30
    go_wp2_with fail
    refine (HK.out w).mono ?_
    rintro e w' ⟨rfl, rfl⟩
    go_wp2_with fail
    refine (HK.out _).mono ?_
    rintro e w' ⟨rfl, rfl⟩
    go_wp2_with fail
    refine (HP.out).mono ?_
    rintro e w' ⟨rfl, rfl⟩
    go_wp2_with fail
    refine (HF.out).mono ?_
    rintro e w1 ⟨rfl, hf1⟩
    have HF1 := Lib.hid hf1
    clear hf1
    go_wp2_with fail
    refine (HI.out _ HF1.out).mono ?_
    rintro e w2 ⟨rfl, hf2⟩
    have HF2 := Lib.hid (HF1.out.then hf2)
    clear hf2
    go_wp2_with fail
    refine (HS.out _).mono ?_
    rintro e w' ⟨rfl, rfl⟩
    go_wp2
    go_ret
    refine ⟨?_, HF2.out⟩
    rw [HT2.out]
    first
    | (rw [if_neg Bool.false_ne_true, ← HC.out]; rfl)
    | (rw [if_pos trivial, ← HC2.out, ← HC.out]; rfl)
end Go.Proofs.YtlcgmniahdngdaaGreatDoor

/- A number that the format has is rounded to itself; products; the float of a whole number. -/
namespace Go.Proofs.YtlcgmniahdngdaaGreatDoor
open Go.RowKit

theorem log_mul {m : Nat} (k : Nat) (hm : m ≠ 0) : (m * 2 ^ k).log2 = m.log2 + k := by
  have hp := pow_pos2 k
  refine (Nat.log2_eq_iff (Nat.mul_ne_zero hm (by omega))).2 ⟨?_, ?_⟩
  · rw [Nat.pow_add]; exact Nat.mul_le_mul_right _ (Nat.log2_self_le hm)
  · rw [show m.log2 + k + 1 = (m.log2 + 1) + k by omega, Nat.pow_add]
    exact Nat.mul_lt_mul_of_pos_right Nat.lt_log2_self hp
theorem cut_zero (neg : Bool) (n : Nat) : Ieee.Toward.even.cut neg n 0 = n := by
  unfold Ieee.Toward.cut
  simp [Nat.mod_one]
theorem cut_whole (neg : Bool) (q d : Nat) (hq : 0 < q) : Ieee.Toward.even.cut neg (q * 2 ^ d) d = q := by
  have hp := pow_pos2 d
  have hl : min d ((q * 2 ^ d).log2 + 2) = d := by rw [log_mul d (by omega)]; omega
  unfold Ieee.Toward.cut
  simp only [hl, Nat.shiftLeft_eq, Nat.one_mul, Nat.mul_div_cancel _ hp, Nat.mul_mod_left]
  have h1 : decide (2 ^ d < 2 * 0) = false := by rw [decide_eq_false_iff_not]; omega
  have h2 : (2 ^ d == 2 * 0) = false := by rw [beq_eq_false_iff_ne]; omega
  rw [h1, h2]; rfl
theorem word_eq (neg : Bool) (r : Nat) : dbl.word neg r = if neg then r + 9223372036854775808 else r := by
  unfold Ieee.Format.word
  rw [dbl_sw]
  cases neg
  · rfl
  · simp only [if_true]; omega
theorem bits_rung {b : Nat} (hb : b < 18446744073709551616) : b = if negF b then rungF b + 9223372036854775808 else rungF b := by
  unfold negF rungF
  by_cases h : 9223372036854775808 ≤ b
  · rw [if_pos (decide_eq_true h)]; omega
  · rw [if_neg (by rw [decide_eq_true_eq]; exact h)]; omega

/-- A number that the format has is rounded to itself. -/
theorem nearest_exact {b : Nat} (hb : b < 18446744073709551616) (h : kindF b < 3) (m x y : Nat) (hm : m * 2 ^ x = magF b * 2 ^ y) (place : Int) (hp : place = -1074 + (x : Int) - (y : Int)) : dbl.nearest (negF b) m place = b := by
  have hr := (kind_num b).1 h
  obtain ⟨a, q, e1, hq, ha, hl⟩ := mag_form (rungF b) (by omega)
  have hM : magF b = q * 2 ^ a := by rw [mag_rung, e1]; exact mag_at a q hq ha hl
  rw [hM, Nat.mul_assoc, ← Nat.pow_add] at hm
  have hbw := bits_rung hb
  unfold Ieee.Format.nearest
  by_cases h0 : m = 0
  · rw [if_pos h0, word_eq]
    have hq0 : q = 0 := by
      rw [h0, Nat.zero_mul] at hm
      rcases Nat.mul_eq_zero.1 hm.symm with h1 | h1
      · exact h1
      · have := pow_pos2 (a + y); omega
    have hr0 : rungF b = 0 := by rcases ha with rfl | h1 <;> omega
    rw [hr0] at hbw
    exact hbw.symm
  · have hq0 : 0 < q := by
      rcases Nat.eq_zero_or_pos q with h1 | h1
      · rw [h1, Nat.zero_mul] at hm
        rcases Nat.mul_eq_zero.1 hm with h2 | h2
        · exact absurd h2 h0
        · have := pow_pos2 x; omega
      · exact h1
    have hlog : m.log2 + x = q.log2 + (a + y) := by rw [← log_mul x h0, ← log_mul (a + y) (by omega), hm]
    have hq52 : q.log2 ≤ 52 := by
      have := (Nat.log2_lt (k := 53) (by omega : q ≠ 0)).2 (by rw [show (2 : Nat) ^ 53 = 9007199254740992 by rfl]; exact hq)
      omega
    have hqa : a = 0 ∨ q.log2 = 52 := by
      rcases ha with h1 | h1
      · exact .inl h1
      · have := (Nat.le_log2 (k := 52) (by omega : q ≠ 0)).2 (by rw [show (2 : Nat) ^ 52 = 4503599627370496 by rfl]; exact h1)
        exact .inr (by omega)
    rw [if_neg h0, dbl_least, dbl_frac, dbl_bin, dbl_inf]
    have hlast : max (place + (m.log2 : Int) - ((52 : Nat) : Int)) (-1074) = -1074 + (a : Int) := by omega
    rw [hlast, word_eq]
    have hk : Ieee.Toward.even.cut (negF b) (m <<< (place - (-1074 + (a : Int))).toNat) (-1074 + (a : Int) - place).toNat = q := by
      rw [Nat.shiftLeft_eq]
      rcases Nat.le_total (a + y) x with hc | hc
      · rw [show (-1074 + (a : Int) - place).toNat = 0 by omega, cut_zero, show (place - (-1074 + (a : Int))).toNat = x - (a + y) by omega]
        refine Nat.eq_of_mul_eq_mul_right (pow_pos2 (a + y)) ?_
        rw [Nat.mul_assoc, ← Nat.pow_add, show x - (a + y) + (a + y) = x by omega]
        exact hm
      · rw [show (-1074 + (a : Int) - place).toNat = a + y - x by omega, show (place - (-1074 + (a : Int))).toNat = 0 by omega, Nat.pow_zero, Nat.mul_one]
        have hmq : m = q * 2 ^ (a + y - x) := by
          refine Nat.eq_of_mul_eq_mul_right (pow_pos2 x) ?_
          rw [Nat.mul_assoc, ← Nat.pow_add, show a + y - x + x = a + y by omega]
          exact hm
        rw [hmq]
        exact cut_whole _ _ _ hq0
    rw [hk, show (-1074 + (a : Int) - -1074).toNat = a by omega, ← e1, Nat.min_eq_left (by omega)]
    exact hbw.symm

/-- A product that the format has. -/
theorem mul_exact {c d b : Nat} (hc : c < 18446744073709551616) (hd : d < 18446744073709551616) (hb : b < 18446744073709551616) (h1 : kindF c < 3) (h2 : kindF d < 3) (h3 : kindF b < 3)
    (hn : (negF c ^^ negF d) = negF b) (k : Nat) (hk : k = 1074) (hm : magF c * magF d = magF b * 2 ^ k) : dbl.mul c d = some b := by
  obtain ⟨m, e, r1, v1⟩ := read_num hc h1
  obtain ⟨n, f, r2, v2⟩ := read_num hd h2
  unfold Ieee.Format.mul
  rw [r1, r2]
  have hv : m * n * 2 ^ (e + f) = magF b * 2 ^ k := by
    rw [← hm, v1, v2, Nat.pow_add]
    simp only [Nat.mul_assoc, Nat.mul_left_comm]
  have := nearest_exact hb h3 (m * n) (e + f) k hv (-1074 + (e : Int) + (-1074 + (f : Int))) (by omega)
  rw [← hn] at this
  exact congrArg some this

/-- The float of a whole number that is not nought. -/
def flN (m : Nat) : Nat := (1022 + m.log2) * 4503599627370496 + m * 2 ^ (52 - m.log2)
theorem log_52 {m : Nat} (h0 : m ≠ 0) (hm : m < 9007199254740992) : m.log2 ≤ 52 := by
  have := (Nat.log2_lt (k := 53) h0).2 (by rw [show (2 : Nat) ^ 53 = 9007199254740992 by rfl]; exact hm)
  omega
theorem top_form {m : Nat} (h0 : m ≠ 0) (hm : m < 9007199254740992) : 4503599627370496 ≤ m * 2 ^ (52 - m.log2) ∧ m * 2 ^ (52 - m.log2) < 9007199254740992 := by
  have hL := log_52 h0 hm
  constructor
  · have h1 := Nat.mul_le_mul_right (2 ^ (52 - m.log2)) (Nat.log2_self_le h0)
    rw [← Nat.pow_add, show m.log2 + (52 - m.log2) = 52 by omega] at h1
    exact h1
  · have h1 := Nat.mul_lt_mul_of_pos_right (Nat.lt_log2_self (n := m)) (pow_pos2 (52 - m.log2))
    rw [← Nat.pow_add, show m.log2 + 1 + (52 - m.log2) = 53 by omega] at h1
    exact h1
theorem form_of {a q : Nat} (hq : 4503599627370496 ≤ q) (hq2 : q < 9007199254740992) (ha : a < 2046) : a * 4503599627370496 + q < 9218868437227405312 ∧ expo (a * 4503599627370496 + q) = a + 1 ∧ frac (a * 4503599627370496 + q) = q - 4503599627370496 ∧ kindF (a * 4503599627370496 + q) < 3 ∧ negF (a * 4503599627370496 + q) = false ∧ magF (a * 4503599627370496 + q) = q * 2 ^ a := by
  have h1 : a * 4503599627370496 + q < 9218868437227405312 := by omega
  refine ⟨h1, by unfold expo; omega, by unfold frac; omega, (kind_num _).2 (by unfold rungF; omega), by unfold negF; rw [decide_eq_false_iff_not]; omega, mag_at a q hq2 (.inr hq) (by omega)⟩
theorem fl_mag {m : Nat} (h0 : m ≠ 0) (hm : m < 9007199254740992) (k : Nat) (hk : k = 1074) : magF (flN m) = m * 2 ^ k := by
  obtain ⟨h1, h2⟩ := top_form h0 hm
  have hL := log_52 h0 hm
  have := (form_of (a := 1022 + m.log2) h1 h2 (by omega)).2.2.2.2.2
  unfold flN
  rw [this, Nat.mul_assoc, ← Nat.pow_add, show 52 - m.log2 + (1022 + m.log2) = k by omega]
theorem to_float {m : Nat} (h0 : m ≠ 0) (hm : m < 9007199254740992) : FloatKind.f64.nearest (m : Int) = flN m := by
  obtain ⟨h1, h2⟩ := top_form h0 hm
  have hL := log_52 h0 hm
  obtain ⟨i1, i2, i3, i4, i5, i6⟩ := form_of (a := 1022 + m.log2) h1 h2 (by omega)
  have i7 := fl_mag h0 hm 1074 rfl
  change flN m < 9218868437227405312 at i1
  change kindF (flN m) < 3 at i4
  change negF (flN m) = false at i5
  have h := nearest_exact (b := flN m) (by omega) i4 m 1074 0 (by rw [i7, Nat.pow_zero, Nat.mul_one]) 0 (by omega)
  rw [i5] at h
  have e1 : decide ((m : Int) < 0) = false := by rw [decide_eq_false_iff_not]; omega
  unfold FloatKind.nearest
  rw [e1]
  exact h
theorem to_float0 : FloatKind.f64.nearest ((0 : Nat) : Int) = 0 := by rfl

/-- Two numbers without a sign are one, if they have one value. -/
theorem mag_inj {b c : Nat} (hb : b < 9223372036854775808) (hc : c < 9223372036854775808) (h : magF b = magF c) : b = c := by
  rcases Nat.lt_trichotomy b c with h1 | h1 | h1
  · have := mag_strict h1 hc; omega
  · exact h1
  · have := mag_strict h1 hb; omega

/-- The order of two numbers without a sign is their words'. -/
theorem order_low {b c : Nat} (hb : b ≤ 9218868437227405312) (hc : c ≤ 9218868437227405312) : dbl.order b c = some (if b < c then .lt else if b = c then .eq else .gt) := by
  have k1 : ∀ {x : Nat}, x ≤ 9218868437227405312 → kindF x ≠ 4 := fun {x} hx h => by have := (kind_nan x).1 h; unfold rungF at this; omega
  have k2 : ∀ {x : Nat}, x ≤ 9218868437227405312 → svalF x = (magF x : Int) := fun {x} hx => by
    unfold svalF
    rw [show negF x = false by unfold negF; rw [decide_eq_false_iff_not]; omega]
    rfl
  rw [order_vals (by omega) (by omega) (k1 hb) (k1 hc), k2 hb, k2 hc]
  rcases Nat.lt_trichotomy b c with h | h | h
  · have := mag_strict h (by omega)
    rw [if_pos h, icmp_lt (by omega)]
  · rw [if_neg (by omega), if_pos h, h, icmp_eq rfl]
  · have := mag_strict h (by omega)
    rw [if_neg (by omega), if_neg (by omega), icmp_gt (by omega)]
theorem order_under {b : Nat} (hb : b ≤ 9218868437227405312) : dbl.order b 18442240474082181119 = some .gt := by
  have k1 : ∀ {x : Nat}, x ≤ 9218868437227405312 → kindF x ≠ 4 := fun {x} hx h => by have := (kind_nan x).1 h; unfold rungF at this; omega
  rw [order_vals (by omega) (by omega) (k1 hb) (fun h => by have := (kind_nan _).1 h; unfold rungF at this; omega)]
  have h1 : svalF b = (magF b : Int) := by
    unfold svalF
    rw [show negF b = false by unfold negF; rw [decide_eq_false_iff_not]; omega]
    rfl
  have h2 : svalF 18442240474082181119 = -(magF 9218868437227405311 : Int) := by
    unfold svalF
    rw [show negF 18442240474082181119 = true by rfl, mag_rung 18442240474082181119]
    rfl
  have h3 := mag_strict (b := 0) (c := 9218868437227405311) (by decide) (by decide)
  rw [h1, h2, icmp_gt (by omega)]
end Go.Proofs.YtlcgmniahdngdaaGreatDoor

/- Decimal digits: what they are worth, and that they are read as they were. -/
namespace Go.Proofs.YtlcgmniahdngdaaGreatDoor
open Go.RowKit

def IsDig (c : UInt8) : Prop := 48 ≤ c.toNat ∧ c.toNat ≤ 57
def valD (acc : Nat) (l : List UInt8) : Nat := l.foldl (fun a c => a * 10 + (c.toNat - 48)) acc
theorem valD_cons (acc : Nat) (c : UInt8) (l : List UInt8) : valD acc (c :: l) = valD (acc * 10 + (c.toNat - 48)) l := by
  unfold valD
  rw [List.foldl_cons]
theorem valD_snoc (acc : Nat) (l : List UInt8) (c : UInt8) : valD acc (l ++ [c]) = valD acc l * 10 + (c.toNat - 48) := by
  unfold valD
  rw [List.foldl_append, List.foldl_cons, List.foldl_nil]
theorem le_valD : ∀ (l : List UInt8) (acc : Nat), acc ≤ valD acc l
  | [], acc => Nat.le_refl _
  | c :: l, acc => by rw [valD_cons]; exact Nat.le_trans (by omega) (le_valD l _)
theorem parse_ok : ∀ (l : List UInt8) (acc : Nat), (∀ c ∈ l, IsDig c) → valD acc l < 18446744073709551616 → Lib.parseUint10 acc l = .ok (valD acc l)
  | [], acc, _, _ => rfl
  | c :: l, acc, hd, hv => by
    have hc := hd c List.mem_cons_self
    have h1 := le_valD l (acc * 10 + (c.toNat - 48))
    rw [valD_cons] at hv ⊢
    unfold IsDig at hc
    rw [Lib.parseUint10, if_pos hc, if_neg (by omega), if_neg (by omega)]
    exact parse_ok l _ (fun d hd' => hd d (List.mem_cons_of_mem _ hd')) hv
theorem dig_val {d : Nat} (h : d < 10) : (UInt8.ofNat (48 + d)).toNat = 48 + d := by rw [UInt8.toNat_ofNat']; omega
theorem dec_digs (u : Nat) : (∀ c ∈ Lib.decDigits u, IsDig c) ∧ valD 0 (Lib.decDigits u) = u ∧ Lib.decDigits u ≠ [] := by
  induction u using Nat.strongRecOn with
  | _ u ih =>
    rw [Lib.decDigits]
    by_cases h : u < 10
    · rw [dif_pos h]
      refine ⟨fun c hc => ?_, ?_, by simp⟩
      · rw [List.mem_singleton] at hc; subst hc; unfold IsDig; rw [dig_val h]; omega
      · rw [valD_cons, dig_val h]; show 0 * 10 + (48 + u - 48) = u; omega
    · rw [dif_neg h]
      obtain ⟨i1, i2, i3⟩ := ih (u / 10) (by omega)
      refine ⟨fun c hc => ?_, ?_, by simp⟩
      · rcases List.mem_append.1 hc with h1 | h1
        · exact i1 c h1
        · rw [List.mem_singleton] at h1; subst h1; unfold IsDig; rw [dig_val (by omega)]; omega
      · rw [valD_snoc, i2, dig_val (by omega)]; omega
theorem parse_dec {u : Nat} (h : u < 18446744073709551616) : Lib.parseMag (Lib.decDigits u) = .ok u := by
  obtain ⟨h1, h2, h3⟩ := dec_digs u
  unfold Lib.parseMag
  rw [if_neg h3, parse_ok _ _ h1 (by omega), h2]
theorem parse_decB {u : Nat} (h : u < 18446744073709551616) : Lib.parseUintB 64 (Lib.decDigits u) = .ok u := by rw [Lib.parseUintB_64, parse_dec h]
theorem dec_cons (u : Nat) : ∃ c r, Lib.decDigits u = c :: r ∧ IsDig c := by
  obtain ⟨h1, _, h3⟩ := dec_digs u
  cases h : Lib.decDigits u with
  | nil => exact absurd h h3
  | cons c r => exact ⟨c, r, rfl, h1 c (by rw [h]; exact List.mem_cons_self)⟩
theorem atoi_itoa {x : Int} (h : -9223372036854775808 ≤ x ∧ x < 9223372036854775808) : Lib.atoiAll (Lib.itoa x) = .ok x := by
  rcases Int.lt_or_le x 0 with h0 | h0
  · obtain ⟨u, rfl⟩ : ∃ u : Nat, x = -(u : Int) := ⟨x.natAbs, by omega⟩
    rw [Lib.itoa_neg u (by omega), Lib.atoiAll_minus, parse_dec (by omega)]
    unfold Lib.signed
    simp only
    rw [if_neg (by omega)]
  · obtain ⟨u, rfl⟩ : ∃ u : Nat, x = (u : Int) := ⟨x.toNat, by omega⟩
    obtain ⟨c, r, e, hc⟩ := dec_cons u
    have hp := parse_dec (u := u) (by omega)
    unfold IsDig at hc
    rw [Lib.itoa_nonneg]
    rw [e] at hp ⊢
    rw [Lib.atoiAll_plain c r (by omega) (by omega), hp]
    unfold Lib.signless
    simp only
    rw [if_neg (by omega)]
theorem dig_not {c : UInt8} (h : IsDig c) (k : UInt8) (hk : k.toNat < 48 ∨ 57 < k.toNat) : c ≠ k := by
  rintro rfl
  unfold IsDig at h
  omega
end Go.Proofs.YtlcgmniahdngdaaGreatDoor
