/- The walk of the law DigitsJoin. -/
import Derived.Test.YtlcgmniahdngdaaDoorDCuts
namespace Go.Proofs.YtlcgmniahdngdaaDoor
open Go.RowKit

theorem strs_at {w wr : World} {p : Option Addr} {n cap : Nat} {ls : List (List UInt8)} (h : Strs w (.slice p n cap) ls) (hf : Fr (fun _ => False) w wr) {k : Nat} (hk : k < ls.length) :
    ∃ b off, p = some ⟨b, off, none⟩ ∧ wr.cell? ⟨b, off + k, none⟩ = some (.string (bytesOf ls[k])) := by
  obtain ⟨p2, c2, e, hc⟩ := h.frame hf
  cases e
  exact hc k ls[k] (List.getElem?_eq_getElem hk)

set_option maxHeartbeats 3200000 in
set_option maxRecDepth 100000 in
theorem DigitsJoin_any (l : List UInt8) (W : World) (hE : ErrW W) (hP : Lib.TabIs Tryd.prog W "internal/strconv.uint64pow10" .u64 Lib.pow10Tab) : Calls Tryd.prog 6 #[.string (bytesOf l)] W (LawPost W) := by
  have HL := Lib.hid (fun w' (hf : Fr (fun _ => False) W w') => lives_any w' (hE.frame hf) (tabIs_frame hP hf))
  have hsz : (bytesOf l).size = l.length := bytes_size l
  by_cases hl : 2000 < l.length
  · generalize bytesOf l = S at *
    clear hE hP
    go_enter Tryd.func6, Tryd.ntmps6
    go_wp2_with fail
    refine (HL.out W (Fr.refl _ W)).mono ?_
    rintro e w1 ⟨rfl, hf⟩
    have HF := Lib.hid hf
    clear hf
    go_wp2
    go_ret
    exact ⟨rfl, HF.out⟩
  · have happ : bytesOf l ++ ⟨#[10]⟩ = bytesOf (l ++ [10]) := bytes_app l [10]
    have H1 := Lib.hid (lines_any (l ++ [10]) (by simp; omega))
    have hj := lines_join l []
    rw [List.nil_append] at hj
    have hfs := fields_size l []
    have hfj := fields_join (fieldsR [] l) (fields_good l [] (fun _ h => by cases h)) []
    rw [show flushR [] = [] by rfl, List.nil_append] at hfj
    have H3 := Lib.hid (fields_any l (by omega))
    have H4 := Lib.hid (fields_any ((fieldsR [] l).flatMap putF) (by rw [List.length_nil] at hfs; omega))
    rw [hfj] at H4
    have n1 := linesR_len (l ++ [10]) []
    have n2 := fieldsR_len l []
    have hll : (l ++ [10]).length ≤ 2001 := by simp; omega
    rw [List.length_nil] at n1 n2 hfs
    have HS := Lib.hid (fun v1 v2 => same_true (fieldsR [] l) v1 v2 (by omega))
    have hself : ((bytesOf (l ++ [10])).toList == (bytesOf (l ++ [10])).toList) = true := beq_self_eq_true _
    have hA1 : (linesR [] (l ++ [10])).length ≤ 3000 := by omega
    have hB1 : (fieldsR [] l).length ≤ 3000 := by omega
    have hfs2 : ((fieldsR [] l).flatMap putF).length ≤ 6000 := by omega
    generalize linesR [] (l ++ [10]) = A at *
    generalize fieldsR [] l = B at *
    generalize l ++ [10] = T at *
    generalize bytesOf l = S at *
    clear hE hP n1 n2 hfs hfj
    go_enter Tryd.func6, Tryd.ntmps6
    go_wp2_with fail
    refine (H1.out _).mono ?_
    rintro e w1 ⟨v1, rfl, hs1, hf⟩
    have hs1' := hs1
    obtain ⟨p1, c1, rfl, _⟩ := hs1'
    have HA1 := Lib.hid hs1
    have HF1 := Lib.hid hf
    clear hf hs1
    go_wp2
    go_loopw [3, 17] (fun s i wr => ∃ (k : Nat) (now : List UInt8), k ≤ A.length ∧ s = .string (bytesOf now) ∧ i = .int .i64 (k : Int) ∧ Fr (fun _ => False) W wr ∧ Fr (fun _ => False) w1 wr ∧ Hid (T = now ++ (A.drop k).flatMap putL)) (fun _ i _ => A.length - (intOf i).toNat)
    case atStart => exact ⟨0, [], Nat.zero_le _, rfl, rfl, HF1.out, Fr.refl _ _, hj.symm⟩
    case round =>
      obtain ⟨k, now, hk, rfl, rfl, hfW, hf1, hT⟩ := hrel
      by_cases hlt : k < A.length
      · obtain ⟨b, off, rfl, hc⟩ := strs_at HA1.out hf1 hlt
        have hdrop : A.drop k = A[k] :: A.drop (k + 1) := List.drop_eq_getElem_cons hlt
        have hT2 : Hid (T = (now ++ putL A[k]) ++ (A.drop (k + 1)).flatMap putL) := by
          have := hT.out
          rw [hdrop, List.flatMap_cons] at this
          rw [this, List.append_assoc]; exact rfl
        have hlen := congrArg List.length hT2.out
        rw [List.length_append, List.length_append] at hlen
        have ha1 : bytesOf A[k] ++ ⟨#[10]⟩ = bytesOf (putL A[k]) := bytes_app A[k] [10]
        have ha2 : bytesOf now ++ bytesOf (putL A[k]) = bytesOf (now ++ putL A[k]) := bytes_app _ _
        have hs1 : (bytesOf now).size ≤ 100000 := by rw [bytes_size]; omega
        have hs2 : (bytesOf (putL A[k])).size ≤ 100000 := by rw [bytes_size]; omega
        have hs3 : (bytesOf A[k]).size ≤ 100000 := by
          rw [bytes_size]
          have : (putL A[k]).length = A[k].length + 1 := by unfold putL; simp
          omega
        have HF2 := Lib.hid (And.intro hfW hf1)
        clear hfW hf1 hT hdrop hlen
        go_wp2
        go_roundw
        case rel => exact ⟨k + 1, now ++ putL A[k], by omega, rfl, by go_num, HF2.out.1, HF2.out.2, hT2⟩
        case measure => simp [intOf]; omega
      · obtain rfl : k = A.length := by omega
        have hnow : now = T := by
          have := hT.out
          rw [List.drop_length, List.flatMap_nil, List.append_nil] at this
          exact this.symm
        subst hnow
        have HFw := Lib.hid hfW
        clear hT HA1 hf1 hfW
        go_wp2_with fail
        refine (H3.out _).mono ?_
        rintro e w2 ⟨v2, rfl, hs2, hf⟩
        have hs2' := hs2
        obtain ⟨p2, c2, rfl, _⟩ := hs2'
        have HB1 := Lib.hid hs2
        have HF2 := Lib.hid (HFw.out.then hf)
        clear hf hs2 hlt
        go_wp2
        go_loopw [4, 29] (fun s i wr => ∃ (k : Nat) (sofar : List UInt8), k ≤ B.length ∧ s = .string (bytesOf sofar) ∧ i = .int .i64 (k : Int) ∧ Fr (fun _ => False) W wr ∧ Fr (fun _ => False) w2 wr ∧ Hid (B.flatMap putF = sofar ++ (B.drop k).flatMap putF)) (fun _ i _ => B.length - (intOf i).toNat)
        case atStart => exact ⟨0, [], Nat.zero_le _, rfl, rfl, HF2.out, Fr.refl _ _, rfl⟩
        case round =>
          obtain ⟨k, sofar, hk, rfl, rfl, hfW, hf1, hT⟩ := hrel
          by_cases hlt : k < B.length
          · obtain ⟨b, off, rfl, hc⟩ := strs_at HB1.out hf1 hlt
            have hdrop : B.drop k = B[k] :: B.drop (k + 1) := List.drop_eq_getElem_cons hlt
            have hT2 : Hid (B.flatMap putF = (sofar ++ putF B[k]) ++ (B.drop (k + 1)).flatMap putF) := by
              have := hT.out
              rw [hdrop, List.flatMap_cons] at this
              rw [this, List.append_assoc]; exact rfl
            have hlen := congrArg List.length hT2.out
            rw [List.length_append, List.length_append] at hlen
            have ha1 : ByteArray.append ⟨#[32, 9]⟩ (bytesOf B[k]) = bytesOf (putF B[k]) := bytes_app [32, 9] B[k]
            have ha1' : (⟨#[32, 9]⟩ : ByteArray) ++ bytesOf B[k] = bytesOf (putF B[k]) := bytes_app [32, 9] B[k]
            have ha2 : bytesOf sofar ++ bytesOf (putF B[k]) = bytesOf (sofar ++ putF B[k]) := bytes_app _ _
            have hs1 : (bytesOf sofar).size ≤ 100000 := by rw [bytes_size]; omega
            have hs2 : (bytesOf (putF B[k])).size ≤ 100000 := by rw [bytes_size]; omega
            have hs3 : (bytesOf B[k]).size ≤ 100000 := by
              rw [bytes_size]
              have : (putF B[k]).length = B[k].length + 2 := by unfold putF; simp
              omega
            have HF3 := Lib.hid (And.intro hfW hf1)
            clear hfW hf1 hT hdrop hlen
            go_wp2
            go_roundw
            case rel => exact ⟨k + 1, sofar ++ putF B[k], by omega, rfl, by go_num, HF3.out.1, HF3.out.2, hT2⟩
            case measure => simp [intOf]; omega
          · obtain rfl : k = B.length := by omega
            have hso : sofar = B.flatMap putF := by
              have := hT.out
              rw [List.drop_length, List.flatMap_nil, List.append_nil] at this
              exact this.symm
            subst hso
            have HFv := Lib.hid hfW
            clear hT HB1 hf1 hfW
            go_wp2_with fail
            refine (H4.out _).mono ?_
            rintro e w3 ⟨v3, rfl, hs3, hf⟩
            have HA3 := Lib.hid hs3
            have HF3 := Lib.hid (HFv.out.then hf)
            clear hf hs3
            go_wp2_with fail
            refine (H3.out _).mono ?_
            rintro e w4 ⟨v4, rfl, hs4, hf⟩
            have HA4 := Lib.hid (And.intro (HA3.out.frame hf) hs4)
            have HF4 := Lib.hid (HF3.out.then hf)
            clear hf hs4
            go_wp2_with fail
            refine (HS.out _ _ _ HA4.out.1 HA4.out.2).mono ?_
            rintro e w5 ⟨rfl, hf⟩
            have HF5 := Lib.hid (HF4.out.then hf)
            clear hf
            go_wp2_with fail
            refine (HL.out _ HF5.out).mono ?_
            rintro e w6 ⟨rfl, hf⟩
            have HF6 := Lib.hid (HF5.out.then hf)
            clear hf
            go_wp2
            go_ret
            exact ⟨rfl, HF6.out⟩
theorem DigitsJoin_of (s : ByteArray) (W : World) (hL : laidMetH Tryd.prog Rows.digitsReadsRow.laid W) : Calls Tryd.prog 6 #[.string s] W (LawPost W) :=
  DigitsJoin_any s.data.toList W (errw_of hL) (tabs_of hL).2
end Go.Proofs.YtlcgmniahdngdaaDoor
