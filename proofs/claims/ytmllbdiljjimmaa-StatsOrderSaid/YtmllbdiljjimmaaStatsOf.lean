/- The walks of rows of floats out of words; kinds; the examples. -/
import Derived.Test.YtmllbdiljjimmaaStatsAdd
namespace Go.Proofs.Ytmllbdiljjimmaa
open Go.RowKit

set_option maxRecDepth 100000 in
theorem rnew_any (w : World) : Calls Try.prog 85 #[] w fun e w' => e = .returned (.pointer (some ⟨w.heap.size, 0, none⟩)) ∧ RowB w w' w.heap.size (.slice none 0 0) [] := by
  go_enter Try.func85, Try.ntmps85
  go_wp2
  go_ret
  exact ⟨rfl, Blk.new w [.slice none 0 0] 115, ⟨World.ownsRow_nil _ _ _ _, by simp [Value.ownBlock], by simp, (Fr.refl _ w).alloc _⟩, by simp [Value.ownBlock], Nat.le_refl _⟩

def RowPost (w : World) (l : List Nat) (e : Ending) (w' : World) : Prop := ∃ b v, e = .returned (.pointer (some ⟨b, 0, none⟩)) ∧ RowB w w' b v (isort l)
set_option maxRecDepth 100000 in
set_option maxHeartbeats 1600000 in
theorem rowof_any (p : Option Addr) (len cap : Nat) (l : List Nat) (w : World) (h : Words w p len l) (hlen : len ≤ 80000) :
    Calls Try.prog 45 #[.slice p len cap] w (RowPost w l) := by
  have HN := Lib.hid (rnew_any w)
  have HH := Lib.hid h
  have hi : (len : Int) ≤ 80000 := by omega
  have HLE := Lib.hid hlen
  clear h hlen
  go_enter Try.func45, Try.ntmps45
  go_wp2_with fail
  refine (HN.out).mono ?_
  rintro e w1 ⟨rfl, hr0⟩
  have HR0 := Lib.hid hr0
  generalize w.heap.size = b at *
  clear hr0 HN
  go_wp2_with fail
  go_loopw [9] (fun i wr => ∃ k : Nat, k ≤ len ∧ i = .int .i64 (k : Int) ∧ Hid (∃ v, RowB w wr b v (isort (l.take k)))) (fun i _ => len - (intOf i).toNat)
  case atStart => exact ⟨0, Nat.zero_le _, rfl, ⟨_, HR0.out⟩⟩
  case round =>
    clear HR0
    obtain ⟨k, hk, rfl, hr⟩ := hrel
    obtain ⟨v, hrow⟩ := hr.out
    by_cases hlt : k < len
    · obtain ⟨pb, off, x, rfl, hx, hxl, hc⟩ := (HH.out.frame hrow.2.1.2.2.2).at hlt
      have HO := Lib.hid (of_any x wr)
      have ha := radd_any hrow (isort_sort _) (by rw [isort_len, List.length_take]; have := HLE.out; omega) x hxl
      rw [← isort_take hx] at ha
      have HA := Lib.hid ha
      clear ha hx hr hrow
      go_wp2_with fail
      refine (HO.out).mono ?_
      rintro e w' ⟨rfl, rfl⟩
      go_wp2_with fail
      refine (HA.out).mono ?_
      rintro e w2 ⟨rfl, v2, hr2, _⟩
      have HR2 := Lib.hid hr2
      clear hr2
      go_wp2
      go_roundw
      case rel => exact ⟨k + 1, by omega, by go_num, ⟨v2, HR2.out⟩⟩
      case measure => simp [intOf]; omega
    · obtain rfl : k = len := by omega
      rw [List.take_of_length_le (by rw [HH.out.len]; exact Nat.le_refl _)] at hrow
      have HR2 := Lib.hid hrow
      clear hr hrow
      go_wp2
      go_ret
      exact ⟨b, v, rfl, HR2.out⟩

/-! ### Kinds -/
def kc (fs : List Nat) (i : Nat) : Nat := cnt (fun y => kindF y == i) fs
def kcells (fs : List Nat) : List Value := [.int .i64 (kc fs 0 : Int), .int .i64 (kc fs 1 : Int), .int .i64 (kc fs 2 : Int), .int .i64 (kc fs 3 : Int), .int .i64 (kc fs 4 : Int)]
theorem kc_le (fs : List Nat) (i : Nat) : kc fs i ≤ fs.length := cnt_le _ _
theorem kc_take {fs : List Nat} {k x : Nat} (h : fs[k]? = some x) (i : Nat) : kc (fs.take (k + 1)) i = kc (fs.take k) i + if (kindF x == i) = true then 1 else 0 := cnt_take _ h
theorem kcells_set {fs : List Nat} {k x K : Nat} (h : fs[k]? = some x) (hK : kindF x = K) (hl : K ≤ 4) : (kcells (fs.take k)).set K (.int .i64 ((kc (fs.take k) K : Int) + 1)) = kcells (fs.take (k + 1)) := by
  unfold kcells
  rw [kc_take h 0, kc_take h 1, kc_take h 2, kc_take h 3, kc_take h 4, hK]
  rcases (by omega : K = 0 ∨ K = 1 ∨ K = 2 ∨ K = 3 ∨ K = 4) with rfl | rfl | rfl | rfl | rfl <;> simp
def KPost (w : World) (fs : List Nat) (e : Ending) (w' : World) : Prop := e = .returned (.agg (kcells fs).toArray) ∧ Fr (fun _ => False) w w'
theorem info_five : (Try.prog.info? 69).map (·.size) = some 5 := by kernel_rfl
set_option maxRecDepth 100000 in
set_option maxHeartbeats 3200000 in
theorem rkinds_of (r v : Value) (p : Option Addr) (n c : Nat) (fs : List Nat) (w : World) (ha : ∀ w', Fr (fun _ => False) w w' → Calls Try.prog 86 #[r] w' (OneVal w' v)) (hv : v = .slice p n c) (hf : Flts w p n fs) (hl : n ≤ 100000) :
    Calls Try.prog 48 #[r] w (KPost w fs) := by
  subst hv
  have HA := Lib.hid ha
  have HFL := Lib.hid hf
  have hi : (n : Int) ≤ 100000 := by omega
  clear ha hf
  go_enter Try.func48, Try.ntmps48
  go_upto_region 2 with fail
  have hb0 : Blk ((w.alloc (.cells #[.int .i64 0, .int .i64 0, .int .i64 0, .int .i64 0, .int .i64 0] 69)).alloc (.cells #[.int .i64 0, .int .i64 0, .int .i64 0, .int .i64 0, .int .i64 0] 69)) w.heap.size [.int .i64 0, .int .i64 0, .int .i64 0, .int .i64 0, .int .i64 0] 69 := (Blk.new w [.int .i64 0, .int .i64 0, .int .i64 0, .int .i64 0, .int .i64 0] 69).alloc _
  have hb1 : Blk ((w.alloc (.cells #[.int .i64 0, .int .i64 0, .int .i64 0, .int .i64 0, .int .i64 0] 69)).alloc (.cells #[.int .i64 0, .int .i64 0, .int .i64 0, .int .i64 0, .int .i64 0] 69)) (w.heap.size + 1) (kcells []) 69 := by
    rw [show kcells [] = [.int .i64 0, .int .i64 0, .int .i64 0, .int .i64 0, .int .i64 0] from rfl]
    simpa using Blk.new (w.alloc (.cells #[.int .i64 0, .int .i64 0, .int .i64 0, .int .i64 0, .int .i64 0] 69)) [.int .i64 0, .int .i64 0, .int .i64 0, .int .i64 0, .int .i64 0] 69
  have hf1 : Fr (fun _ => False) w ((w.alloc (.cells #[.int .i64 0, .int .i64 0, .int .i64 0, .int .i64 0, .int .i64 0] 69)).alloc (.cells #[.int .i64 0, .int .i64 0, .int .i64 0, .int .i64 0, .int .i64 0] 69)) := ((Fr.refl _ w).alloc _).alloc _
  generalize (w.alloc (.cells #[.int .i64 0, .int .i64 0, .int .i64 0, .int .i64 0, .int .i64 0] 69)).alloc (.cells #[.int .i64 0, .int .i64 0, .int .i64 0, .int .i64 0, .int .i64 0] 69) = w1 at *
  have HS : Hid (w.heap.size ≤ w.heap.size) := Nat.le_refl _
  generalize hB : w.heap.size = B at *
  have HB := Lib.hid hB
  have HK0 : Hid (Blk w1 B [.int .i64 0, .int .i64 0, .int .i64 0, .int .i64 0, .int .i64 0] 69 ∧ Blk w1 (B + 1) (kcells (fs.take 0)) 69 ∧ Fr (fun _ => False) w w1) := ⟨hb0, hb1, hf1⟩
  have HA1 := Lib.hid (HA.out w1 hf1)
  clear hb0 hb1 hf1 hB HS
  go_wp2_with fail
  refine (HA1.out).mono ?_
  rintro e w' ⟨rfl, rfl⟩
  clear HA1 HA
  go_wp2_with fail
  go_loopw [9] (fun i wr => ∃ k : Nat, k ≤ n ∧ i = .int .i64 (k : Int) ∧ Hid (Blk wr B [.int .i64 0, .int .i64 0, .int .i64 0, .int .i64 0, .int .i64 0] 69 ∧ Blk wr (B + 1) (kcells (fs.take k)) 69 ∧ Fr (fun _ => False) w wr)) (fun i _ => n - (intOf i).toNat)
  case atStart => exact ⟨0, Nat.zero_le _, rfl, HK0⟩
  case round =>
    clear HK0
    obtain ⟨k, hk, rfl, hr⟩ := hrel
    by_cases hlt : k < n
    · obtain ⟨pb, off, x, rfl, hx, hxl, hc⟩ := (HFL.out.frame hr.out.2.2 (fun _ _ _ h => h)).2 k hlt
      have HKX := Lib.hid (kind_any x hxl wr)
      have hK4 := kind_le x
      obtain ⟨K, hK⟩ : ∃ K, kindF x = K := ⟨_, rfl⟩
      rw [hK] at hK4 HKX
      have hset := kcells_set hx hK hK4
      have hcell : wr.cell? ⟨B + 1, K, none⟩ = some (.int .i64 (kc (fs.take k) K : Int)) := hr.out.2.1.cell K (by unfold kcells; rcases (by omega : K = 0 ∨ K = 1 ∨ K = 2 ∨ K = 3 ∨ K = 4) with rfl | rfl | rfl | rfl | rfl <;> rfl)
      have hfz := hr.out.2.1.free K
      have hcl := kc_le (fs.take k) K
      rw [List.length_take] at hcl
      have hci : (kc (fs.take k) K : Int) ≤ 100000 := by omega
      have HNEW : Hid (Blk (wr.setCell ⟨B + 1, K, none⟩ (.int .i64 ((kc (fs.take k) K : Int) + 1))) B [.int .i64 0, .int .i64 0, .int .i64 0, .int .i64 0, .int .i64 0] 69 ∧ Blk (wr.setCell ⟨B + 1, K, none⟩ (.int .i64 ((kc (fs.take k) K : Int) + 1))) (B + 1) (kcells (fs.take (k + 1))) 69 ∧ Fr (fun _ => False) w (wr.setCell ⟨B + 1, K, none⟩ (.int .i64 ((kc (fs.take k) K : Int) + 1)))) := by
        refine ⟨hr.out.1.setOther _ _ (by simp), ?_, hr.out.2.2.setCell ⟨B + 1, K, none⟩ (.inr (by rw [HB.out]; exact Nat.le_succ B)) _⟩
        rw [← hset]
        exact hr.out.2.1.set K _
      have hKi : (K : Int) < 5 := by omega
      generalize kc (fs.take k) K = C at *
      clear hx hr hset hcl hK hK4
      go_wp2_with fail
      refine (HKX.out).mono ?_
      rintro e w' ⟨rfl, rfl⟩
      go_wp2
      go_roundw
      case rel => exact ⟨k + 1, by omega, by go_num, HNEW⟩
      case measure => simp [intOf]; omega
    · obtain rfl : k = n := by omega
      have hr' := hr.out
      rw [List.take_of_length_le (by rw [HFL.out.1]; exact Nat.le_refl _)] at hr'
      have hks : (kcells fs).toArray.size = 5 := rfl
      have hka : (kcells fs).toArray.all (·.oneCell') = true := by simp [kcells, Value.oneCell']
      have HX := Lib.hid hr'
      clear hr hr'
      have hi5 := info_five
      have HI5 : Hid ((Try.prog.info? 69).map (·.size) = some (kcells fs).toArray.size) := hi5
      have HEND : Hid (KPost w fs (.returned (.agg (kcells fs).toArray)) (wr.setRow B (kcells fs).toArray) ∧ (wr.setRow B (kcells fs).toArray).heap[B]? = some (.cells (kcells fs).toArray 69 (0, 0))) :=
        ⟨⟨rfl, HX.out.2.2.setRow B (.inr (by rw [HB.out]; exact Nat.le_refl B)) _⟩, HX.out.1.setRow (kcells fs)⟩
      have HSZ := Lib.hid hks
      have HKA := Lib.hid hka
      clear hks hka hi5
      generalize kcells fs = kl at *
      go_wp2_with (first | refine wpList_load_row rfl 69 _ rfl (B + 1) rfl 69 kl.toArray (0, 0) _ HX.out.2.1 Try.underlying69 rfl HI5.out ?_ | refine wpList_store_row rfl 69 _ _ rfl B kl.toArray rfl rfl 69 #[.int .i64 0, .int .i64 0, .int .i64 0, .int .i64 0, .int .i64 0] HX.out.1 HI5.out (by rw [HSZ.out]; rfl) HKA.out ?_)
      refine bodyPost_ret (results_cell_row (by rfl) _ _ B 69 kl.toArray (0, 0) _ rfl HEND.out.2 Try.underlying69 rfl HI5.out) rfl ?_
      exact HEND.out.1
end Go.Proofs.Ytmllbdiljjimmaa
