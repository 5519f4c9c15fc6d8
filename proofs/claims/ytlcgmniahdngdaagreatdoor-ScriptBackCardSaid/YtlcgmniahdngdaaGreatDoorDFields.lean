/- The walks of the reference: numbers read and written to the bases 10 and 16. -/
import Derived.Test.YtlcgmniahdngdaaGreatDoorDInt
namespace Go.Proofs.YtlcgmniahdngdaaGreatDoor
open Go.RowKit

/-- How far a text is read to the base 10. -/
def Rel10 (l : List UInt8) (k : Nat) (a : Int) (ov : Bool) : Prop := (∀ c ∈ l.take k, digV c < 10) ∧ ((ov = true ∧ 18446744073709551616 ≤ valB 10 0 (l.take k)) ∨ (ov = false ∧ a = (valB 10 0 (l.take k) : Int)))
/-- How far a text is read to the base 16. -/
def Rel16 (l : List UInt8) (k : Nat) (a : Int) (ov : Bool) : Prop := (∀ c ∈ l.take k, digV c < 16) ∧ ((ov = true ∧ 18446744073709551616 ≤ valB 16 0 (l.take k)) ∨ (ov = false ∧ a = (valB 16 0 (l.take k) : Int)))
end Go.Proofs.YtlcgmniahdngdaaGreatDoor

/- The walks of the reference and of package digits: numbers written. -/
namespace Go.Proofs.YtlcgmniahdngdaaGreatDoor
open Go.RowKit

theorem cut16 (d : Nat) (hd : d < 16) : (({ data := #[48, 49, 50, 51, 52, 53, 54, 55, 56, 57, 97, 98, 99, 100, 101, 102] } : ByteArray)).extract d (d + 1) = bytesOf [charV d] := by
  have : d = 0 ∨ d = 1 ∨ d = 2 ∨ d = 3 ∨ d = 4 ∨ d = 5 ∨ d = 6 ∨ d = 7 ∨ d = 8 ∨ d = 9 ∨ d = 10 ∨ d = 11 ∨ d = 12 ∨ d = 13 ∨ d = 14 ∨ d = 15 := by omega
  rw [Lib.extract_eq]
  rcases this with rfl | rfl | rfl | rfl | rfl | rfl | rfl | rfl | rfl | rfl | rfl | rfl | rfl | rfl | rfl | rfl <;> rfl
theorem app_cons (c : UInt8) (t : List UInt8) : bytesOf [c] ++ bytesOf t = bytesOf (c :: t) := by rw [bytes_app]; rfl

/-- A text that came back. -/
def StrIs (w : World) (l : List UInt8) (e : Ending) (w' : World) : Prop := e = .returned (.string (bytesOf l)) ∧ Fr (fun _ => False) w w'
/-- A signed decimal. -/
def itoB (x : Int) : List UInt8 := if x < 0 then 45 :: digB 10 x.natAbs else digB 10 x.natAbs
theorem itoa_itoB (x : Int) : Lib.itoa x = itoB x := by
  unfold Lib.itoa itoB
  by_cases h : x < 0
  · rw [if_pos h, if_pos h, dec_digB]
  · rw [if_neg h, if_neg h, dec_digB, show x.toNat = x.natAbs by omega]
set_option maxRecDepth 100000 in
theorem dput (u : Nat) (hu : u < 18446744073709551616) (w : World) (htab : Lib.TabIs Tryz.prog w "internal/strconv.uint64pow10" .u64 Lib.pow10Tab) : Calls Tryz.prog 29 #[.int .u64 (u : Int)] w (StrIs w (digB 10 u)) := by
  have H := fmt_uint u hu w htab
  rw [dec_digB] at H
  have H := Lib.hid H
  change Hid (Calls _ _ _ _ (SPost w (bytesOf (digB 10 u)))) at H
  unfold StrIs
  generalize bytesOf (digB 10 u) = S at *
  clear hu htab
  go_enter Tryz.func29, Tryz.ntmps29
  go_wp2_with fail
  refine (H.out).mono ?_
  rintro e w' ⟨rfl, hf⟩
  have HF := Lib.hid hf
  clear hf
  go_wp2
  go_ret
  exact ⟨rfl, HF.out⟩
set_option maxRecDepth 100000 in
theorem dputhex (u : Nat) (hu : u < 18446744073709551616) (w : World) (hT : TabD w) : Calls Tryz.prog 28 #[.int .u64 (u : Int)] w (StrIs w (digB 16 u)) := by
  have H := Lib.hid (fmt16 u hu w hT)
  unfold StrIs
  generalize bytesOf (digB 16 u) = S at *
  clear hu hT
  go_enter Tryz.func28, Tryz.ntmps28
  go_wp2_with fail
  refine (H.out).mono ?_
  rintro e w' ⟨rfl, hf⟩
  have HF := Lib.hid hf
  clear hf
  go_wp2
  go_ret
  exact ⟨rfl, HF.out⟩
set_option maxRecDepth 100000 in
theorem dputint (x : Int) (hx : -9223372036854775808 ≤ x ∧ x ≤ 9223372036854775807) (w : World) (htab : Lib.TabIs Tryz.prog w "internal/strconv.uint64pow10" .u64 Lib.pow10Tab) : Calls Tryz.prog 27 #[.int .i64 x] w (StrIs w (itoB x)) := by
  have H : Hid (Calls Tryz.prog 43 #[.int .i64 x] w (SPost w (bytesOf (itoB x)))) := by
    rw [← itoa_itoB]
    exact (Tryz.strconv_Itoa x (by omega) (by omega) w htab).mono fun e w'' ⟨h1, k, os, h2⟩ => ⟨h1, h2 ▸ Fr.of_grow w k os⟩
  unfold StrIs
  generalize bytesOf (itoB x) = S at *
  clear hx htab
  go_enter Tryz.func27, Tryz.ntmps27
  go_wp2_with fail
  refine (H.out).mono ?_
  rintro e w' ⟨rfl, hf⟩
  have HF := Lib.hid hf
  clear hf
  go_wp2
  go_ret
  exact ⟨rfl, HF.out⟩

theorem ext_one (c : UInt8) (r : List UInt8) : (bytesOf (c :: r)).extract 1 (r.length + 1) = bytesOf r := by
  rw [Lib.extract_eq]
  show bytesOf (List.take (r.length + 1 - 1) r) = _
  rw [Nat.add_sub_cancel, List.take_length]
end Go.Proofs.YtlcgmniahdngdaaGreatDoor

/- The walks of the laws DigitsReads, DigitsBack. -/
namespace Go.Proofs.YtlcgmniahdngdaaGreatDoor
open Go.RowKit

theorem head_dig {c : UInt8} {r : List UInt8} {u : Nat} (h : digB 10 u = c :: r) : c ≠ 45 := by
  have := (digB_facts 10 (by decide) (by decide) u).1 c (by rw [h]; exact List.mem_cons_self)
  rintro rfl
  revert this; decide
theorem pre_dig (u : Nat) : Lib.hasPrefix (digB 10 u) [45] = false := by
  cases h : digB 10 u with
  | nil => exact absurd h (digB_facts 10 (by decide) (by decide) u).2.2.1
  | cons c r =>
    have := head_dig h
    unfold Lib.hasPrefix; simp [List.isPrefixOf]; exact fun h => this h.symm
theorem pre_neg (l : List UInt8) : Lib.hasPrefix (45 :: l) [45] = true ∧ Lib.trimPrefix (45 :: l) [45] = l := by
  have h : Lib.hasPrefix (45 :: l) [45] = true := by unfold Lib.hasPrefix; simp [List.isPrefixOf]
  exact ⟨h, by unfold Lib.trimPrefix; rw [h]; rfl⟩
theorem int_read {x : Int} (hx : -9223372036854775808 ≤ x ∧ x ≤ 9223372036854775807) : intN (itoB x) = x ∧ intE (itoB x) = 0 := by
  unfold intN intE
  rcases Int.lt_or_le x 0 with h0 | h0
  · obtain ⟨u, rfl⟩ : ∃ u : Nat, x = -(u : Int) := ⟨x.natAbs, by omega⟩
    have hi : itoB (-(u : Int)) = 45 :: digB 10 u := by unfold itoB; rw [if_pos h0, Int.natAbs_neg, Int.natAbs_natCast]
    obtain ⟨h1, h2⟩ := read_dig 10 (by decide) (by decide) (u := u) (by omega)
    rw [hi, (pre_neg _).1, (pre_neg _).2, h1, h2, if_pos rfl, if_pos ⟨rfl, by omega, by omega⟩, if_pos rfl, if_pos rfl, if_neg (by omega), if_pos (by omega)]
    exact ⟨rfl, rfl⟩
  · obtain ⟨u, rfl⟩ : ∃ u : Nat, x = (u : Int) := ⟨x.toNat, by omega⟩
    have hi : itoB (u : Int) = digB 10 u := by unfold itoB; rw [if_neg (by omega), Int.natAbs_natCast]
    obtain ⟨h1, h2⟩ := read_dig 10 (by decide) (by decide) (u := u) (by omega)
    rw [hi, pre_dig, h1, h2, if_neg Bool.false_ne_true, if_neg Bool.false_ne_true, if_pos ⟨rfl, by omega⟩, if_pos rfl, if_pos (by omega)]
    exact ⟨rfl, rfl⟩
theorem pre_cut {l : List UInt8} (h : Lib.hasPrefix l [45] = true) : l = 45 :: Lib.trimPrefix l [45] := by
  cases l with
  | nil => cases h
  | cons c r =>
    have hc : c = 45 := by
      unfold Lib.hasPrefix at h
      simp [List.isPrefixOf] at h
      exact h.symm
    subst hc
    rw [(pre_neg r).2]
theorem int_back {l : List UInt8} (h : intE l = 0) : itoB (intN l) = l ∧ -9223372036854775808 ≤ intN l ∧ intN l ≤ 9223372036854775807 := by
  have hw := int_way l
  rw [h] at hw
  unfold IntWay at hw
  rcases hw with ⟨_, _, h3⟩ | ⟨_, _, _, _, h3⟩ | ⟨_, _, _, h3⟩ | ⟨h1, hp, _, h4, h5, h6, _⟩ | ⟨h1, hp, _, h4, h6, _⟩ | ⟨_, _, _, _, _, h3⟩ | ⟨h1, hp, h4, h6, _⟩ | ⟨_, _, _, _, h3⟩
  · cases h3
  · cases h3
  · cases h3
  · have hd := (dig_read 10 (by decide) (by decide) (by omega : readE 10 (Lib.trimPrefix l [45]) = 0)).1
    refine ⟨?_, by omega, by omega⟩
    rw [h6]
    unfold itoB
    rw [if_pos (by omega), Int.natAbs_neg, Int.natAbs_natCast, hd]
    exact (pre_cut hp).symm
  · have hd := (dig_read 10 (by decide) (by decide) (by omega : readE 10 (Lib.trimPrefix l [45]) = 0)).1
    refine ⟨?_, by omega, by omega⟩
    have h7 : intN l = -(readN 10 (Lib.trimPrefix l [45]) : Int) := by omega
    rw [h7]
    unfold itoB
    rw [if_pos (by omega), Int.natAbs_neg, Int.natAbs_natCast, hd]
    exact (pre_cut hp).symm
  · cases h3
  · have hd := (dig_read 10 (by decide) (by decide) (by omega : readE 10 (Lib.trimPrefix l [45]) = 0)).1
    rw [trim_none hp] at hd h6 h4
    refine ⟨?_, by omega, by omega⟩
    rw [h6]
    unfold itoB
    rw [if_neg (by omega), Int.natAbs_natCast, hd]
  · cases h3
theorem ex_int : intN [45, 48] = 0 ∧ intE [45, 48] = 2 := by
  have h0 : digB 10 0 = [48] := by rw [digB_small (by decide)]; rfl
  obtain ⟨h1, h2⟩ := read_dig 10 (by decide) (by decide) (u := 0) (by decide)
  rw [h0] at h1 h2
  unfold intN intE
  rw [(pre_neg _).1, (pre_neg _).2, h1, h2]
  exact ⟨rfl, rfl⟩
theorem ex_put : itoB (-9223372036854775808) = [45, 57, 50, 50, 51, 51, 55, 50, 48, 51, 54, 56, 53, 52, 55, 55, 53, 56, 48, 56] := by
  rw [← itoa_itoB]
  have := Lib.itoa_neg 9223372036854775808 (by decide)
  rw [show (-9223372036854775808 : Int) = -((9223372036854775808 : Nat) : Int) by rfl, this]
  simp [Lib.decDigits]

theorem bytes_self (s : ByteArray) : bytesOf s.data.toList = s := rfl
theorem tabs_of {W : World} (h : laidMetH Tryz.prog Rows.scriptBackRow.laid W) : TabD W ∧ Lib.TabIs Tryz.prog W "internal/strconv.uint64pow10" .u64 Lib.pow10Tab :=
  ⟨tab64_of (h.filter (fun x => x.1 == "math/bits.deBruijn64tab")), tabPow_of (h.filter (fun x => x.1 == "internal/strconv.uint64pow10"))⟩

theorem u64_nat {a : Int} (h : (Lit.int .u64 a).wf = true) : ∃ n : Nat, a = (n : Int) ∧ n < 18446744073709551616 := by
  simp only [Lit.wf, Bool.and_eq_true, decide_eq_true_eq] at h
  have e1 : IntKind.u64.min = 0 := by rfl
  have e2 : IntKind.u64.max = 18446744073709551615 := by rfl
  exact ⟨a.toNat, by omega, by omega⟩
theorem i64_int {a : Int} (h : (Lit.int .i64 a).wf = true) : -9223372036854775808 ≤ a ∧ a ≤ 9223372036854775807 := by
  simp only [Lit.wf, Bool.and_eq_true, decide_eq_true_eq] at h
  have e1 : IntKind.i64.min = -9223372036854775808 := by rfl
  have e2 : IntKind.i64.max = 9223372036854775807 := by rfl
  omega

end Go.Proofs.YtlcgmniahdngdaaGreatDoor

/- Rows of strings that a call owns; the walk of the reference's Lines. -/
namespace Go.Proofs.YtlcgmniahdngdaaGreatDoor
open Go.RowKit

def svals (ls : List (List UInt8)) : List Value := ls.map (fun l => Value.string (bytesOf l))
theorem svals_len (ls : List (List UInt8)) : (svals ls).length = ls.length := List.length_map _
/-- A slice of strings that can be read. -/
def Strs (w : World) (v : Value) (ls : List (List UInt8)) : Prop :=
  ∃ p cap, v = .slice p ls.length cap ∧ ∀ i l, ls[i]? = some l → ∃ b off, p = some ⟨b, off, none⟩ ∧ w.cell? ⟨b, off + i, none⟩ = some (.string (bytesOf l))
theorem Strs.frame {w w' : World} {v : Value} {ls : List (List UInt8)} (h : Strs w v ls) (hf : Fr (fun _ => False) w w') : Strs w' v ls := by
  obtain ⟨p, cap, rfl, hc⟩ := h
  refine ⟨p, cap, rfl, fun i l hl => ?_⟩
  obtain ⟨b, off, hp, hcell⟩ := hc i l hl
  exact ⟨b, off, hp, (World.cell?_of_block (w := w) (hf.block b (cell_lt hcell) (fun h => h))).trans hcell⟩
/-- A row of strings that the call owns. -/
def SRow (w0 : World) (v : Value) (ls : List (List UInt8)) (w : World) : Prop :=
  w.ownsRow 0 9 1 v ls.length (svals ls) ∧ (∀ i, v.ownBlock = some i → w0.heap.size ≤ i) ∧ Fr (fun _ => False) w0 w
theorem srow_shape {w : World} {e : TypeId} {v : Value} {n : Nat} {xs : List Value} {B : Nat} (h : w.ownsRow B e 1 v n xs) : ∃ p cap, v = .slice p n cap := by
  rcases h.2 with ⟨rfl, rfl⟩ | ⟨g, cap, cur, rfl, _⟩
  · exact ⟨_, _, rfl⟩
  · exact ⟨_, _, rfl⟩
theorem info_string : (Tryz.prog.info? 9).map (fun i => (i.zero, i.size, i.bytes)) = some (some (.string ⟨#[]⟩), 1, 16) := by kernel_rfl
theorem strs_of {w : World} {v : Value} {ls : List (List UInt8)} {B : Nat} (ho : w.ownsRow B 9 1 v ls.length (svals ls)) : Strs w v ls := by
  rcases ho.2 with ⟨rfl, h0⟩ | ⟨g, cap, cur, rfl, _, hg, _⟩
  · have : ls = [] := List.eq_nil_of_length_eq_zero h0
    subst this
    exact ⟨none, 0, rfl, fun i l hl => by simp at hl⟩
  · refine ⟨some ⟨g, 0, none⟩, cap, rfl, fun i l hl => ⟨g, 0, rfl, ?_⟩⟩
    have hc := ho.cells (g := g) rfl i (.string (bytesOf l)) (by unfold svals; simp [hl])
    have ha : (⟨g, 0, none⟩ : Addr).add i = ⟨g, 0 + i, none⟩ := by unfold Addr.add; split <;> simp_all
    rw [ha] at hc
    exact hc
theorem SRow.step {w0 wr w1 : World} {q : Option Addr} {k qc g cap' : Nat} {ls : List (List UInt8)} {l : List UInt8} (h : SRow w0 (.slice q k qc) ls wr)
    (ho1 : w1.ownsRow 0 9 1 (.slice (some ⟨g, 0, none⟩) (k + 1) cap') (k + 1) (svals ls ++ [.string (bytesOf l)])) (hk : ls.length = k) (wa : World) (hwa : Fr (fun _ => False) wr wa)
    (hf1 : Fr (fun i => (Value.slice q k qc).ownBlock = some i) wa w1) (hg1 : (Value.slice q k qc).ownBlock = some g ∨ wa.heap.size ≤ g) : SRow w0 (.slice (some ⟨g, 0, none⟩) (k + 1) cap') (ls ++ [l]) w1 := by
  obtain ⟨ho, hb, hf⟩ := h
  have hw1 := hf.trans hwa (fun _ h => h.elim)
  refine ⟨?_, ?_, hw1.trans hf1 (fun i hi => .inr (hb i hi))⟩
  · have e1 : (ls ++ [l]).length = k + 1 := by simp [hk]
    have e2 : svals (ls ++ [l]) = svals ls ++ [.string (bytesOf l)] := by unfold svals; simp
    rw [e1, e2]
    exact ho1
  · intro i hi
    simp only [Value.ownBlock, Option.some.injEq] at hi
    subst hi
    rcases hg1 with h | h
    · exact hb _ h
    · have := hw1.size; omega

/-- The lines of a text, as the reference cuts it. -/
def linesR : List UInt8 → List UInt8 → List (List UInt8)
  | now, [] => if now = [] then [] else [now]
  | now, c :: l => if c = 10 then now :: linesR [] l else linesR (now ++ [c]) l
theorem ext_at (l : List UInt8) (k : Nat) (hk : k < l.length) : (bytesOf l).extract k (k + 1) = bytesOf [l[k]] := by
  rw [Lib.extract_eq]
  show bytesOf (List.take (k + 1 - k) (List.drop k l)) = _
  rw [show k + 1 - k = 1 by omega, List.drop_eq_getElem_cons hk]
  rfl
def SRowPost (w : World) (ls : List (List UInt8)) (e : Ending) (w' : World) : Prop := ∃ v, e = .returned v ∧ SRow w v ls w'

end Go.Proofs.YtlcgmniahdngdaaGreatDoor

/- The walk of the reference's Fields; two rows of strings compared. -/
namespace Go.Proofs.YtlcgmniahdngdaaGreatDoor
open Go.RowKit

def flushR (now : List UInt8) : List (List UInt8) := if now = [] then [] else [now]
/-- The fields of a text, as the reference cuts it. -/
def fieldsR : List UInt8 → List UInt8 → List (List UInt8)
  | now, [] => flushR now
  | now, c :: l => if c = 32 ∨ c = 9 then flushR now ++ fieldsR [] l else fieldsR (now ++ [c]) l

end Go.Proofs.YtlcgmniahdngdaaGreatDoor
