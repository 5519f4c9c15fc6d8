/- The walk of strconv.FormatUint to the base 16. -/
import Derived.Test.YtlcgmniahdngdaaGreatDoorDTz
namespace Go.Proofs.YtlcgmniahdngdaaGreatDoor
open Go.RowKit Go.Sort

theorem tz16 (w : World) (hT : TabD w) : Calls Tryz.prog 107 #[.int .u64 16] w fun e w' => e = .returned (.int .i64 4) ∧ w = w' := by
  have H : Hid (Calls Tryz.prog 66 #[.int .u64 16] w fun e w' => e = .returned (.int .i64 4) ∧ w = w') := tz_odd 16 4 0 (by decide) (by decide) w hT
  clear hT
  go_enter Tryz.func107, Tryz.ntmps107
  go_wp2_with fail
  refine (H.out).mono ?_
  rintro e w' ⟨rfl, rfl⟩
  go_wp2
  go_ret
  exact ⟨rfl, rfl⟩
theorem pow16 (w : World) : Calls Tryz.prog 106 #[.int .i64 16] w fun e w' => e = .returned (.bool true) ∧ w = w' := by
  have h : bits .and .i64 16 15 = 0 := by decide
  go_enter Tryz.func106, Tryz.ntmps106
  go_wp2
  go_ret
  exact ⟨rfl, rfl⟩

theorem digB_len (b : Nat) (hb : 2 ≤ b) : ∀ (n u : Nat), u < b ^ (n + 1) → (digB b u).length ≤ n + 1
  | 0, u, h => by rw [digB_small (by simpa using h)]; simp
  | n + 1, u, h => by
    by_cases h1 : u < b
    · rw [digB_small h1]; simp
    · rw [digB_big h1 hb, List.length_append, List.length_singleton]
      have := digB_len b hb n (u / b) (by rw [Nat.div_lt_iff_lt_mul (by omega), ← Nat.pow_succ]; exact h)
      omega
theorem hex_len {u : Nat} (h : u < 18446744073709551616) : (digB 16 u).length ≤ 16 := digB_len 16 (by decide) 15 u (by rw [show (16 : Nat) ^ (15 + 1) = 18446744073709551616 by rfl]; exact h)
def byteV (c : UInt8) : Value := .int .u8 (c.toNat : Int)
/-- How far a number is written, from the end of a row of 65 bytes. -/
def HexRel (w : World) (b u k q : Nat) (wr : World) : Prop := ∃ t : List UInt8, digB 16 k ++ t = digB 16 u ∧ q + 1 + t.length = 65 ∧ 49 ≤ q + 1 ∧ Blk wr b (List.replicate (q + 1) (.int .u8 0) ++ t.map byteV) 149 ∧ Fr (fun _ => False) w wr
theorem set_rep (z v : Value) (r : List Value) : ∀ q : Nat, (List.replicate (q + 1) z ++ r).set q v = List.replicate q z ++ v :: r
  | 0 => rfl
  | q + 1 => by rw [List.replicate_succ, List.cons_append, List.set_cons_succ, set_rep z v r q, List.replicate_succ, List.cons_append]
theorem dig36 (d : Nat) (hd : d < 16) (h : d < (({ data := #[48, 49, 50, 51, 52, 53, 54, 55, 56, 57, 97, 98, 99, 100, 101, 102, 103, 104, 105, 106, 107, 108, 109, 110, 111, 112, 113, 114, 115, 116, 117, 118, 119, 120, 121, 122] } : ByteArray)).size) :
    (({ data := #[48, 49, 50, 51, 52, 53, 54, 55, 56, 57, 97, 98, 99, 100, 101, 102, 103, 104, 105, 106, 107, 108, 109, 110, 111, 112, 113, 114, 115, 116, 117, 118, 119, 120, 121, 122] } : ByteArray)[d]'h) = charV d := by
  have : d = 0 ∨ d = 1 ∨ d = 2 ∨ d = 3 ∨ d = 4 ∨ d = 5 ∨ d = 6 ∨ d = 7 ∨ d = 8 ∨ d = 9 ∨ d = 10 ∨ d = 11 ∨ d = 12 ∨ d = 13 ∨ d = 14 ∨ d = 15 := by omega
  rcases this with rfl | rfl | rfl | rfl | rfl | rfl | rfl | rfl | rfl | rfl | rfl | rfl | rfl | rfl | rfl | rfl <;> rfl
theorem zeros65 : Tryz.zeroCells149 = (List.replicate 65 (Value.int .u8 0)).toArray := by kernel_rfl

set_option maxRecDepth 100000 in
set_option maxHeartbeats 1600000 in
theorem bits16 (u : Nat) (hu : u < 18446744073709551616) (w : World) (hT : TabD w) :
    Calls Tryz.prog 82 #[.slice none 0 0, .int .u64 (u : Int), .int .i64 16, .bool false, .bool false] w fun e w' => e = .returned (.tuple #[.slice none 0 0, .string (bytesOf (digB 16 u))]) ∧ Fr (fun _ => False) w w' := by
  have hfa : Fr (fun _ => False) w (w.alloc (.cells Tryz.zeroCells149 149)) := (Fr.refl _ w).alloc _
  have hbk : Blk (w.alloc (.cells Tryz.zeroCells149 149)) w.heap.size (List.replicate 65 (.int .u8 0)) 149 := by rw [zeros65]; exact Blk.new w _ _
  have HTZ := Lib.hid (tz16 _ (hT.frame hfa))
  have HP := Lib.hid pow16
  have HREL : Hid (HexRel w w.heap.size u u 64 (w.alloc (.cells Tryz.zeroCells149 149))) := ⟨[], List.append_nil _, rfl, by decide, by simpa using hbk, hfa⟩
  have hl := hex_len hu
  clear hbk hfa hT
  go_enter Tryz.func82, Tryz.ntmps82
  go_wp2_with fail
  refine (HP.out _).mono ?_
  rintro e w' ⟨rfl, rfl⟩
  go_wp2_with fail
  refine (HTZ.out).mono ?_
  rintro e w' ⟨rfl, rfl⟩
  go_wp2
  go_loopw [1, 13] (fun n i wr => ∃ k q : Nat, n = .int .u64 (k : Int) ∧ i = .int .i64 ((q : Int) + 1) ∧ k < 18446744073709551616 ∧ Hid (HexRel w w.heap.size u k q wr)) (fun n _ _ => (intOf n).toNat)
  case atStart => exact ⟨u, 64, rfl, rfl, hu, HREL.out⟩
  case round =>
    obtain ⟨k, q, rfl, rfl, hk, hr⟩ := hrel
    obtain ⟨t, ht, hq, hq2, hb, hf⟩ := hr.out
    have hc : wr.cell? ⟨w.heap.size, q, none⟩ = some (.int .u8 0) := hb.cell q (by rw [List.getElem?_append_left (by simp), List.getElem?_replicate, if_pos (by omega)])
    have hfz : wr.frozen? ⟨w.heap.size, q, none⟩ = false := hb.free q
    have h15 : bits .and .u64 (k : Int) 15 = ((k % 16 : Nat) : Int) := by
      have h := u64_and_nat k 15 hk (by decide)
      rw [show (15 : Nat) = 2 ^ 4 - 1 by rfl, Nat.and_two_pow_sub_one_eq_mod] at h
      exact h
    have hqi : (q : Int) < 65 := by omega
    by_cases hlt : k < 16
    · have hki : (k : Int) < 16 := by omega
      have hal : Tryz.prog.arrayLen 149 = 65 := by kernel_rfl
      have hsl : ∀ W, (Instr.sliceAt 149 (.pointer (some ⟨w.heap.size, 0, none⟩)) (some (.int .i64 (q : Int))) none none).run Tryz.prog W = .ok (.slice (some ⟨w.heap.size, q, none⟩) (t.length + 1) (t.length + 1)) W := fun W => by
        rw [run_sliceAt_array_l (P := Tryz.prog) W 149 ⟨w.heap.size, 0, none⟩ (by simp [Program.arrayLen, Program.elem, Tryz.underlying149]) .i64 (q : Int) (by omega) (by rw [hal]; omega)]
        rw [hal]
        have e1 : ((⟨w.heap.size, 0, none⟩ : Addr).add (q * 1)) = ⟨w.heap.size, q, none⟩ := by
          unfold Addr.add; split <;> simp_all
        have e2 : slicedAt ⟨w.heap.size, 0, none⟩ q 65 65 1 = .slice (some ⟨w.heap.size, q, none⟩) (t.length + 1) (t.length + 1) := by
          unfold slicedAt
          rw [if_neg (by omega), e1, show 65 - q = t.length + 1 by omega]
        rw [← e2]
        go_simp
      have hb2 : Blk (wr.setCell ⟨w.heap.size, q, none⟩ (byteV (charV k))) w.heap.size (List.replicate q (.int .u8 0) ++ byteV (charV k) :: t.map byteV) 149 := by
        have := hb.set q (byteV (charV k))
        rw [set_rep] at this
        exact this
      have hcv : (convert 51 9 (.slice (some ⟨w.heap.size, q, none⟩) (t.length + 1) (t.length + 1))).run Tryz.prog (wr.setCell ⟨w.heap.size, q, none⟩ (byteV (charV k))) = .ok (.string (bytesOf (charV k :: t))) (wr.setCell ⟨w.heap.size, q, none⟩ (byteV (charV k))) := by
        have h := run_convert_bytes_back (P := Tryz.prog) (wr.setCell ⟨w.heap.size, q, none⟩ (byteV (charV k))) 51 9 5 ⟨w.heap.size, q, none⟩ (t.length + 1) (charV k :: t) Tryz.underlying51 Tryz.underlying5 Tryz.underlying9 (fun j hj => by
          have ha : (⟨w.heap.size, q, none⟩ : Addr).add j = ⟨w.heap.size, q + j, none⟩ := by unfold Addr.add; split <;> simp_all
          rw [ha]
          refine hb2.cell (q + j) ?_
          rw [List.getElem?_append_right (by simp), List.length_replicate, Nat.add_sub_cancel_left, ← List.map_cons, List.getElem?_map, List.getElem?_eq_getElem hj]
          rfl)
        exact h
      have hd36 := dig36 k hlt
      have hres : charV k :: t = digB 16 u := by rw [← ht, digB_small hlt]; rfl
      have HRES := Lib.hid hres
      have HF := Lib.hid (hf.setCell ⟨w.heap.size, q, none⟩ (.inr (Nat.le_refl _)) (byteV (charV k)))
      unfold byteV at hcv HF
      clear hr hb hb2 hf ht hal hres h15
      go_wp2
      go_ret2
      exact ⟨by rw [← HRES.out]; rfl, HF.out⟩
    · have hki : (16 : Int) ≤ (k : Int) := by omega
      obtain ⟨q', rfl⟩ : ∃ q', q = q' + 1 := ⟨q - 1, by omega⟩
      have HST : Hid (HexRel w w.heap.size u (k / 16) q' (wr.setCell ⟨w.heap.size, q' + 1, none⟩ (byteV (charV (k % 16))))) := by
        refine ⟨charV (k % 16) :: t, ?_, by rw [List.length_cons]; omega, ?_, ?_, hf.setCell _ (.inr (Nat.le_refl _)) _⟩
        · rw [← ht]
          conv => rhs; rw [digB_big hlt (by decide)]
          rw [List.append_assoc]; rfl
        · have h1 := congrArg List.length ht
          have h2 : 1 ≤ (digB 16 k).length := List.length_pos_iff.2 (digB_facts 16 (by decide) (by decide) k).2.2.1
          have h3 : 2 ≤ (digB 16 k).length := by
            rw [digB_big hlt (by decide), List.length_append, List.length_singleton]
            have := List.length_pos_iff.2 (digB_facts 16 (by decide) (by decide) (k / 16)).2.2.1
            omega
          rw [List.length_append] at h1
          omega
        · have := hb.set (q' + 1) (byteV (charV (k % 16)))
          rw [set_rep] at this
          exact this
      have hd36 := dig36 (k % 16) (Nat.mod_lt _ (by decide))
      clear hr hb hf ht
      go_wp2
      exact ⟨⟨k / 16, q', by go_num, by go_num, by omega, HST⟩, by simp [intOf]; omega⟩

theorem fmt16 (u : Nat) (hu : u < 18446744073709551616) (w : World) (hT : TabD w) : Calls Tryz.prog 44 #[.int .u64 (u : Int), .int .i64 16] w (SPost w (bytesOf (digB 16 u))) := by
  have H : Hid (Calls Tryz.prog 65 #[.int .u64 (u : Int), .int .i64 16] w (SPost w (bytesOf (digB 16 u)))) := by
    have H := Lib.hid (bits16 u hu w hT)
    generalize bytesOf (digB 16 u) = S at *
    clear hT hu
    show Calls _ _ _ _ _
    go_enter Tryz.func65, Tryz.ntmps65
    go_wp2_with fail
    refine (H.out).mono ?_
    rintro e w1 ⟨rfl, hf⟩
    have HF := Lib.hid hf
    clear hf
    go_wp2
    go_ret
    exact ⟨rfl, HF.out⟩
  generalize bytesOf (digB 16 u) = S at *
  clear hT hu
  go_enter Tryz.func44, Tryz.ntmps44
  go_wp2_with fail
  refine (H.out).mono ?_
  rintro e w1 ⟨rfl, hf⟩
  have HF := Lib.hid hf
  clear hf
  go_wp2
  go_ret
  exact ⟨rfl, HF.out⟩
end Go.Proofs.YtlcgmniahdngdaaGreatDoor
