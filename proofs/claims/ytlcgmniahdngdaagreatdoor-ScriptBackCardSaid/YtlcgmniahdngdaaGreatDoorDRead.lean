/- The walks of package digits: what a text is to the bases 10 and 16. -/
import Derived.Test.YtlcgmniahdngdaaGreatDoorDParse
import Derived.Shelf.Strings.SlTrimAscii
namespace Go.Proofs.YtlcgmniahdngdaaGreatDoor
open Go.RowKit

def ten : List UInt8 := [48, 49, 50, 51, 52, 53, 54, 55, 56, 57]
def hex : List UInt8 := [48, 49, 50, 51, 52, 53, 54, 55, 56, 57, 97, 98, 99, 100, 101, 102]
theorem ten_is (c : UInt8) : ten.contains c = decide (digV c < 10) := by
  have h : ∀ n : Fin 256, ten.contains (UInt8.ofNat n.1) = decide (digV (UInt8.ofNat n.1) < 10) := by decide +kernel
  have := h ⟨c.toNat, c.toNat_lt⟩
  rwa [show UInt8.ofNat c.toNat = c from UInt8.ofNat_toNat] at this
theorem hex_is (c : UInt8) : hex.contains c = decide (digV c < 16) := by
  have h : ∀ n : Fin 256, hex.contains (UInt8.ofNat n.1) = decide (digV (UInt8.ofNat n.1) < 16) := by decide +kernel
  have := h ⟨c.toNat, c.toNat_lt⟩
  rwa [show UInt8.ofNat c.toNat = c from UInt8.ofNat_toNat] at this
theorem drop_nil (p : UInt8 → Bool) : ∀ l : List UInt8, l.dropWhile p = [] ↔ ∀ c ∈ l, p c = true
  | [] => by simp
  | c :: l => by
    rw [List.dropWhile_cons]
    by_cases h : p c = true
    · rw [if_pos h, drop_nil p l]; simp [h]
    · rw [if_neg h]; simp [h]
theorem drop_all (p : UInt8 → Bool) : ∀ l : List UInt8, (∀ c ∈ l.dropWhile p, p c = true) → ∀ c ∈ l, p c = true
  | [], _ => by simp
  | c :: l, h => by
    rw [List.dropWhile_cons] at h
    by_cases hp : p c = true
    · rw [if_pos hp] at h
      intro d hd
      rcases List.mem_cons.1 hd with rfl | hd
      · exact hp
      · exact drop_all p l h d hd
    · rw [if_neg hp] at h
      exact absurd (h c List.mem_cons_self) hp
theorem trim_nil (l cs : List UInt8) : Lib.trimS l cs = [] ↔ ∀ c ∈ l, cs.contains c = true := by
  unfold Lib.trimS Lib.trimRightS Lib.trimLeftS
  rw [drop_nil]
  constructor
  · intro h
    have := drop_all (cs.contains ·) l.reverse (fun c hc => h c (List.mem_reverse.2 hc))
    exact fun c hc => this c (List.mem_reverse.2 hc)
  · intro h c hc
    have h1 := List.mem_reverse.1 hc
    have h2 := (List.dropWhile_sublist (cs.contains ·) (l := l.reverse)).subset h1
    exact h c (List.mem_reverse.1 h2)

open Classical in
noncomputable def plainB (b : Nat) (l : List UInt8) : Bool := decide (Plain b l)
open Classical in
theorem plainB_true {b : Nat} {l : List UInt8} (h : Plain b l) : plainB b l = true := decide_eq_true h
open Classical in
theorem plainB_false {b : Nat} {l : List UInt8} (h : ¬ Plain b l) : plainB b l = false := decide_eq_false h
def BFr (w : World) (v : Bool) (e : Ending) (w' : World) : Prop := e = .returned (.bool v) ∧ Fr (fun _ => False) w w'

set_option maxRecDepth 100000 in
set_option maxHeartbeats 800000 in
theorem plain_any (b : Nat) (cs : List UInt8) (his : ∀ c, cs.contains c = decide (digV c < b)) (hcl : cs.length ≤ 16) (hasc : ∀ (j : Nat) b, cs[j]? = some b → b.toNat < 128) (l : List UInt8) (hl : l.length ≤ 2000) (w : World) :
    Calls Tryz.prog 54 #[.string (bytesOf l), .string (bytesOf cs)] w (BFr w (plainB b l)) := by
  have hsz : (bytesOf l).size = l.length := bytes_size l
  have h0 := bytes_is l []
  have HT : Hid (∀ w, Calls Tryz.prog 70 #[.string (bytesOf l), .string (bytesOf cs)] w fun e w' => e = .returned (.string (bytesOf (Lib.trimS l cs))) ∧ Fr (fun _ => False) w w') := fun w => by
    refine (Any.strings_Trim_laid Tryz.lays160 (by kernel_rfl) (bytesOf l) (bytesOf cs) w (by omega) (by rw [bytes_size]; omega) hasc).mono ?_
    rintro e w' ⟨rfl, hb⟩
    exact ⟨rfl, Fr.of_below hb⟩
  have h1 := bytes_is (Lib.trimS l cs) []
  cases l with
  | nil =>
    rw [plainB_false (fun h => h.ne rfl)]
    rw [decide_eq_true rfl] at h0
    clear h1 HT hl his hasc
    generalize bytesOf [] = S at *
    generalize bytesOf cs = C at *
    go_enter Tryz.func54, Tryz.ntmps54
    go_wp2
    go_ret
    exact ⟨rfl, Fr.refl _ _⟩
  | cons c r =>
    rw [decide_eq_false (by simp)] at h0
    have hp : 0 < (bytesOf (c :: r)).size := by rw [bytes_size]; simp
    have hg : (bytesOf (c :: r))[0] = c := rfl
    rw [List.length_cons] at hsz
    by_cases hc : c = 48 ∧ 0 < r.length
    · rw [plainB_false (fun h => h.head (by rw [List.length_cons]; omega) (by rw [hc.1]; rfl))]
      obtain ⟨rfl, hr⟩ := hc
      clear h1 HT hl his hasc
      generalize bytesOf cs = C at *
      go_enter Tryz.func54, Tryz.ntmps54
      go_wp2
      go_ret
      exact ⟨rfl, Fr.refl _ _⟩
    · have hres : decide (Lib.trimS (c :: r) cs = []) = plainB b (c :: r) := by
        unfold plainB
        rw [decide_eq_decide, trim_nil]
        constructor
        · intro h
          refine ⟨by simp, fun hl h48 => hc ⟨by simpa using h48, by rw [List.length_cons] at hl; omega⟩, fun d hd => ?_⟩
          have := h d hd
          rw [his] at this
          exact of_decide_eq_true this
        · intro h d hd
          rw [his]
          exact decide_eq_true (h.digs d hd)
      rw [hres] at h1
      generalize plainB b (c :: r) = R at *
      generalize bytesOf (Lib.trimS (c :: r) cs) = T at *
      generalize bytesOf cs = C at *
      clear hres his hasc hl
      by_cases hc2 : c = 48
      · subst hc2
        have hr0 : r.length = 0 := by
          rcases Nat.eq_zero_or_pos r.length with h | h
          · exact h
          · exact absurd ⟨rfl, h⟩ hc
        rw [hr0] at hsz
        clear hc
        go_enter Tryz.func54, Tryz.ntmps54
        go_wp2_with fail
        refine (HT.out _).mono ?_
        rintro e w1 ⟨rfl, hf⟩
        have HF := Lib.hid hf
        clear hf
        go_wp2
        go_ret
        exact ⟨rfl, HF.out⟩
      · have hc3 : ((c.toNat : Int) == 48) = false := by
          rw [beq_eq_false_iff_ne]; intro h
          exact hc2 (UInt8.toNat_inj.1 (by rw [show (48 : UInt8).toNat = 48 by rfl]; omega))
        clear hc hc2
        go_enter Tryz.func54, Tryz.ntmps54
        go_wp2_with fail
        refine (HT.out _).mono ?_
        rintro e w1 ⟨rfl, hf⟩
        have HF := Lib.hid hf
        clear hf
        go_wp2
        go_ret
        exact ⟨rfl, HF.out⟩

/-- What a read gives. -/
def RdPost (w : World) (b : Nat) (l : List UInt8) (e : Ending) (w' : World) : Prop := e = .returned (.tuple #[.int .u64 (readN b l : Int), .int .i64 (readE b l : Int)]) ∧ Fr (fun _ => False) w w'
theorem ten_ascii : ∀ (j : Nat) b, ten[j]? = some b → b.toNat < 128 := ascii_of_all (by decide)
theorem hex_ascii : ∀ (j : Nat) b, hex[j]? = some b → b.toNat < 128 := ascii_of_all (by decide)
set_option maxRecDepth 100000 in
theorem read10 (l : List UInt8) (hl : l.length ≤ 2000) (w : World) (hE : ErrW w) : Calls Tryz.prog 39 #[.string (bytesOf l)] w (RdPost w 10 l) := by
  have HPL : Hid (Calls Tryz.prog 54 #[.string (bytesOf l), .string ⟨#[48, 49, 50, 51, 52, 53, 54, 55, 56, 57]⟩] w (BFr w (plainB 10 l))) := plain_any 10 ten ten_is (by decide) ten_ascii l hl w
  have HPU := Lib.hid (fun w' hE' => parse_any l hl w' hE')
  have HE := Lib.hid hE
  rcases read_cases 10 l with ⟨h1, h2, h3⟩ | ⟨h1, hv, h2, h3⟩ | ⟨h1, hv, h2, h3⟩
  · have HR := Lib.hid (And.intro h2 h3)
    rw [plainB_false h1] at HPL
    generalize bytesOf l = S at *
    clear HPU h1 h2 h3 hE hl
    go_enter Tryz.func39, Tryz.ntmps39
    go_wp2_with fail
    refine (HPL.out).mono ?_
    rintro e w1 ⟨rfl, hf⟩
    have HF := Lib.hid hf
    clear hf
    go_wp2
    go_ret2
    exact ⟨by rw [HR.out.1, HR.out.2]; rfl, HF.out⟩
  · have HR := Lib.hid (And.intro h2 h3)
    rw [plainB_true h1] at HPL
    rw [pu_val h1.ne h1.digs, if_pos hv] at HPU
    obtain ⟨vi, hvi⟩ : ∃ vi, (valB 10 0 l : Int) = vi := ⟨_, rfl⟩
    rw [hvi] at HPU
    have HV := Lib.hid hvi
    generalize bytesOf l = S at *
    clear h1 h2 h3 hE hl hv hvi
    go_enter Tryz.func39, Tryz.ntmps39
    go_wp2_with fail
    refine (HPL.out).mono ?_
    rintro e w1 ⟨rfl, hf⟩
    have HF := Lib.hid hf
    clear hf
    go_wp2_with fail
    refine (HPU.out _ (HE.out.frame HF.out)).mono ?_
    rintro e w2 ⟨hf2, rfl⟩
    have HF2 := Lib.hid (HF.out.then hf2)
    clear hf2
    go_wp2
    go_ret2
    exact ⟨by rw [HR.out.1, HR.out.2, HV.out]; rfl, HF2.out⟩
  · have HR := Lib.hid (And.intro h2 h3)
    rw [plainB_true h1] at HPL
    rw [pu_val h1.ne h1.digs, if_neg hv] at HPU
    generalize bytesOf l = S at *
    clear h1 h2 h3 hE hl hv
    go_enter Tryz.func39, Tryz.ntmps39
    go_wp2_with fail
    refine (HPL.out).mono ?_
    rintro e w1 ⟨rfl, hf⟩
    have HF := Lib.hid hf
    clear hf
    go_wp2_with fail
    refine (HPU.out _ (HE.out.frame HF.out)).mono ?_
    rintro e w2 ⟨hf2, m, t, p, rfl⟩
    have HF2 := Lib.hid (HF.out.then hf2)
    clear hf2
    go_wp2
    go_ret2
    exact ⟨by rw [HR.out.1, HR.out.2]; rfl, HF2.out⟩
set_option maxRecDepth 100000 in
theorem read16 (l : List UInt8) (hl : l.length ≤ 2000) (w : World) (hE : ErrW w) : Calls Tryz.prog 38 #[.string (bytesOf l)] w (RdPost w 16 l) := by
  have HPL : Hid (Calls Tryz.prog 54 #[.string (bytesOf l), .string ⟨#[48, 49, 50, 51, 52, 53, 54, 55, 56, 57, 97, 98, 99, 100, 101, 102]⟩] w (BFr w (plainB 16 l))) := plain_any 16 hex hex_is (by decide) hex_ascii l hl w
  have HE := Lib.hid hE
  rcases read_cases 16 l with ⟨h1, h2, h3⟩ | ⟨h1, hv, h2, h3⟩ | ⟨h1, hv, h2, h3⟩
  · have HR := Lib.hid (And.intro h2 h3)
    rw [plainB_false h1] at HPL
    generalize bytesOf l = S at *
    clear h1 h2 h3 hE hl
    go_enter Tryz.func38, Tryz.ntmps38
    go_wp2_with fail
    refine (HPL.out).mono ?_
    rintro e w1 ⟨rfl, hf⟩
    have HF := Lib.hid hf
    clear hf
    go_wp2
    go_ret2
    exact ⟨by rw [HR.out.1, HR.out.2]; rfl, HF.out⟩
  · have HR := Lib.hid (And.intro h2 h3)
    rw [plainB_true h1] at HPL
    have HPU := Lib.hid (fun w' hE' => parse16 l h1.ne h1.digs hl w' hE')
    rw [if_pos hv] at HPU
    obtain ⟨vi, hvi⟩ : ∃ vi, (valB 16 0 l : Int) = vi := ⟨_, rfl⟩
    rw [hvi] at HPU
    have HV := Lib.hid hvi
    generalize bytesOf l = S at *
    clear h1 h2 h3 hE hl hv hvi
    go_enter Tryz.func38, Tryz.ntmps38
    go_wp2_with fail
    refine (HPL.out).mono ?_
    rintro e w1 ⟨rfl, hf⟩
    have HF := Lib.hid hf
    clear hf
    go_wp2_with fail
    refine (HPU.out _ (HE.out.frame HF.out)).mono ?_
    rintro e w2 ⟨hf2, rfl⟩
    have HF2 := Lib.hid (HF.out.then hf2)
    clear hf2
    go_wp2
    go_ret2
    exact ⟨by rw [HR.out.1, HR.out.2, HV.out]; rfl, HF2.out⟩
  · have HR := Lib.hid (And.intro h2 h3)
    rw [plainB_true h1] at HPL
    have HPU := Lib.hid (fun w' hE' => parse16 l h1.ne h1.digs hl w' hE')
    rw [if_neg hv] at HPU
    generalize bytesOf l = S at *
    clear h1 h2 h3 hE hl hv
    go_enter Tryz.func38, Tryz.ntmps38
    go_wp2_with fail
    refine (HPL.out).mono ?_
    rintro e w1 ⟨rfl, hf⟩
    have HF := Lib.hid hf
    clear hf
    go_wp2_with fail
    refine (HPU.out _ (HE.out.frame HF.out)).mono ?_
    rintro e w2 ⟨hf2, m, t, p, rfl⟩
    have HF2 := Lib.hid (HF.out.then hf2)
    clear hf2
    go_wp2
    go_ret2
    exact ⟨by rw [HR.out.1, HR.out.2]; rfl, HF2.out⟩

/-- What a text is as an int. -/
noncomputable def intN (l : List UInt8) : Int := if Lib.hasPrefix l [45] then (if readE 10 (Lib.trimPrefix l [45]) = 0 ∧ 0 < readN 10 (Lib.trimPrefix l [45]) ∧ readN 10 (Lib.trimPrefix l [45]) ≤ 9223372036854775808 then -(readN 10 (Lib.trimPrefix l [45]) : Int) else 0)
  else (if readE 10 l = 0 ∧ readN 10 l < 9223372036854775808 then (readN 10 l : Int) else 0)
noncomputable def intE (l : List UInt8) : Nat := if Lib.hasPrefix l [45] then (if readE 10 (Lib.trimPrefix l [45]) = 0 then (if readN 10 (Lib.trimPrefix l [45]) = 0 then 2 else if readN 10 (Lib.trimPrefix l [45]) ≤ 9223372036854775808 then 0 else 4) else readE 10 (Lib.trimPrefix l [45]))
  else (if readE 10 l = 0 then (if readN 10 l < 9223372036854775808 then 0 else 4) else readE 10 l)
def RiPost (w : World) (l : List UInt8) (e : Ending) (w' : World) : Prop := e = .returned (.tuple #[.int .i64 (intN l), .int .i64 (intE l : Int)]) ∧ Fr (fun _ => False) w w'
theorem read_zero {l : List UInt8} (h : readE 10 l = 0) : readN 10 l = 0 ↔ l = [48] := by
  have h1 := (dig_read 10 (by decide) (by decide) h).1
  constructor
  · intro h2; rw [h2] at h1; rw [← h1, digB_small (by decide)]; rfl
  · rintro rfl
    rcases read_cases 10 [48] with ⟨_, h2, _⟩ | ⟨_, _, h2, _⟩ | ⟨_, _, h2, _⟩
    · exact h2
    · rw [h2]; rfl
    · exact h2
theorem readN_lt (b : Nat) (l : List UInt8) : readN b l < 18446744073709551616 := by
  rcases read_cases b l with ⟨_, h2, _⟩ | ⟨_, h, h2, _⟩ | ⟨_, _, h2, _⟩ <;> omega
theorem readE_is (b : Nat) (l : List UInt8) : readE b l = 0 ∨ (readE b l = 2 ∧ readN b l = 0) ∨ (readE b l = 4 ∧ readN b l = 0) := by
  rcases read_cases b l with ⟨_, h2, h⟩ | ⟨_, _, h2, h⟩ | ⟨_, _, h2, h⟩
  · exact .inr (.inl ⟨h, h2⟩)
  · exact .inl h
  · exact .inr (.inr ⟨h, h2⟩)
end Go.Proofs.YtlcgmniahdngdaaGreatDoor
