/- The walk of the document's Same at operations that are the same. -/
import Derived.Test.YtlcgmniahdngdaaGreatDoorSOf
import Derived.Laws.StructEq
namespace Go.Proofs.YtlcgmniahdngdaaGreatDoor
open Go.RowKit Go.Great

def RAt (w : World) (p : Option Addr) (rs : List (OpR × Nat)) : Prop :=
  ∀ i r, rs[i]? = some r → ∃ b off, p = some ⟨b, off, none⟩ ∧ b < w.heap.size ∧ w.rangeAt b (off + i * 10) (rc r)
theorem RAt.frame {w w' : World} {p : Option Addr} {os : List (OpR × Nat)} (h : RAt w p os) (hf : Fr (fun _ => False) w w') : RAt w' p os := by
  intro i o ho
  obtain ⟨b, off, hp, hb, hr⟩ := h i o ho
  exact ⟨b, off, hp, Nat.lt_of_lt_of_le hb hf.size, fun j v hv => (World.cell?_of_block (w := w) (hf.block b hb (fun h => h))).trans (hr j v hv)⟩
theorem rRow_len : ∀ rs : List (OpR × Nat), (rRow rs).length = rs.length * 10
  | [] => rfl
  | r :: rs => by
    show (rc r ++ rRow rs).length = _
    rw [List.length_append, rRow_len rs, List.length_cons, show (rc r).length = 10 from rfl]
    omega
theorem rRow_at : ∀ (rs : List (OpR × Nat)) (i : Nat) (r : OpR × Nat), rs[i]? = some r → ∀ (j : Nat) (v : Value), (rc r)[j]? = some v → (rRow rs)[i * 10 + j]? = some v
  | x :: os, 0, o, h, j, v, hv => by
    cases h
    show (rc x ++ rRow os)[0 * 10 + j]? = some v
    have h9 : j < 10 := (List.getElem?_eq_some_iff.1 hv).1
    rw [Nat.zero_mul, Nat.zero_add, List.getElem?_append_left h9]
    exact hv
  | x :: os, i + 1, o, h, j, v, hv => by
    show (rc x ++ rRow os)[(i + 1) * 10 + j]? = some v
    rw [List.getElem?_append_right (by show 10 ≤ _; omega), show (i + 1) * 10 + j - (rc x).length = i * 10 + j by show _ - 10 = _; omega]
    exact rRow_at os i o h j v hv
theorem hdr_neq (p f g : Int) (w : World) : (binOp .neq 28 (.agg #[.int .i64 p, .int .i64 f, .int .i64 g]) (.agg #[.int .i64 p, .int .i64 f, .int .i64 g])).run Tryz.prog w = .ok (.bool false) w := by
  have hS2 : Tryz.prog.underlying 28 = some (.struct (Tryz.prog.fieldsOf 28)) := by kernel_rfl
  have hp2 : Tryz.prog.stoodInHeld 28 = false := by kernel_rfl
  have u3 := Tryz.underlying3
  have a3 := Tryz.isAgg3
  have z3 := Tryz.sizeOf3
  have a28 := Tryz.isAgg28
  have z28 := Tryz.sizeOf28
  rw [run_neq_struct, show (10000 : Nat) = 9999 + 1 from rfl, run_equalIn_agg w 9999 28 _ _ hS2 hp2]
  simp only [Program.fieldsOf, Tryz.underlying28]
  go_simp
theorem cells10 {w : World} {b : Nat} {t : TypeId} {v0 v1 v2 v3 v4 v5 v6 v7 v8 v9 : Value} (h : Blk w b [v0, v1, v2, v3, v4, v5, v6, v7, v8, v9] t) :
    w.cell? ⟨b, 0, none⟩ = some v0 ∧ w.cell? ⟨b, 1, none⟩ = some v1 ∧ w.cell? ⟨b, 2, none⟩ = some v2 ∧ w.cell? ⟨b, 3, none⟩ = some v3 ∧ w.cell? ⟨b, 4, none⟩ = some v4 ∧ w.cell? ⟨b, 5, none⟩ = some v5 ∧ w.cell? ⟨b, 6, none⟩ = some v6 ∧ w.cell? ⟨b, 7, none⟩ = some v7 ∧ w.cell? ⟨b, 9, none⟩ = some v9 :=
  ⟨h.cell 0 rfl, h.cell 1 rfl, h.cell 2 rfl, h.cell 3 rfl, h.cell 4 rfl, h.cell 5 rfl, h.cell 6 rfl, h.cell 7 rfl, h.cell 9 rfl⟩
set_option maxRecDepth 100000 in
set_option maxHeartbeats 3200000 in
theorem rsame_true (ra rb : List (OpR × Nat)) (hl : ra.length ≤ 120) (hab : rb.length = ra.length) (hsame : ∀ (i : Nat) (r : OpR × Nat), ra[i]? = some r → ∃ q, rb[i]? = some ({ r.1 with q := q }, r.2)) (p1 p2 : Option Addr) (c1 c2 : Nat) (w : World)
    (h1 : RAt w p1 ra) (h2 : RAt w p2 rb) : Calls Tryz.prog 10 #[.slice p1 ra.length c1, .slice p2 ra.length c2] w (TruePost w) := by
  have HS := Lib.hid hsame
  have HA := Lib.hid h1
  have HB := Lib.hid h2
  have HS10 : Hid ((Tryz.prog.info? 34).map (·.size) = some 10) := by show _ = _; kernel_rfl
  have HHN := Lib.hid hdr_neq
  clear hsame h1 h2 hab
  generalize hn : ra.length = n at *
  have HN := Lib.hid hn
  clear hn
  have hm : Tryz.prog.eqGuardType Tryz.prog.depth 28 = false := by kernel_rfl
  go_enter Tryz.func10, Tryz.ntmps10
  go_upto_region 4 with fail
  go_loopw [5, 6, 7] (fun v5 _ _ wr => ∃ i : Nat, i ≤ n ∧ v5 = .int .i64 (i : Int) ∧ Fr (fun _ => False) w wr) (fun v5 _ _ _ => n - (intOf v5).toNat)
  case atStart => exact ⟨0, Nat.zero_le _, rfl, Fr.refl _ _⟩
  case round =>
    obtain ⟨i, hi, rfl, hfr⟩ := hrel
    by_cases hlt : i < n
    · obtain ⟨⟨o, b0⟩, hr⟩ : ∃ r, ra[i]? = some r := ⟨_, List.getElem?_eq_getElem (by rw [HN.out]; exact hlt)⟩
      obtain ⟨q, hq⟩ := HS.out i _ hr
      obtain ⟨b, off, rfl, hb, hra⟩ := (HA.out.frame hfr) i _ hr
      obtain ⟨b', off', rfl, hb', hrb⟩ := (HB.out.frame hfr) i _ hq
      have HRA := Lib.hid hra
      have HFR := Lib.hid hfr
      have HONE := Lib.hid (Go.all_oneCell_toArray (rc_ones (o, b0)))
      have HONE2 := Lib.hid (Go.all_oneCell_toArray (rc_ones ({ o with q := q }, b0)))
      have HB' := Lib.hid hb'
      have HRB := Lib.hid hrb
      clear hr hq hb hra hrb hfr hb'
      have HEQ : Hid ((rc ({ o with q := q }, b0)) = [.int .i64 o.k, .int .i64 o.a, .int .i64 o.b, .int .i64 o.i, .int .i64 o.p, .int .i64 o.f, .int .i64 o.g, .int .u64 (o.x : Int), .float .f64 q, .int .u64 (b0 : Int)]) := rfl
      go_upto_region 7 with (first | refine wpList_load_mid rfl 34 _ rfl b (off + i * 10) rfl [.int .i64 o.k, .int .i64 o.a, .int .i64 o.b, .int .i64 o.i, .int .i64 o.p, .int .i64 o.f, .int .i64 o.g, .int .u64 (o.x : Int), .float .f64 o.q, .int .u64 (b0 : Int)] _ HRA.out Tryz.underlying34 rfl HS10.out ?_ | refine wpList_store_row rfl 34 _ _ rfl wr.heap.size #[.int .i64 o.k, .int .i64 o.a, .int .i64 o.b, .int .i64 o.i, .int .i64 o.p, .int .i64 o.f, .int .i64 o.g, .int .u64 (o.x : Int), .float .f64 o.q, .int .u64 (b0 : Int)] rfl rfl 34 _ (heap_alloc_new _ _) HS10.out rfl HONE.out ?_)
      generalize hW1 : (World.alloc wr _).setRow wr.heap.size _ = W1
      have hb1 : Blk W1 wr.heap.size [.int .i64 o.k, .int .i64 o.a, .int .i64 o.b, .int .i64 o.i, .int .i64 o.p, .int .i64 o.f, .int .i64 o.g, .int .u64 (o.x : Int), .float .f64 o.q, .int .u64 (b0 : Int)] 34 := by rw [← hW1]; exact setRow_heap _ _ _ _ _ _ (heap_alloc_new wr _)
      have hf1 : Fr (fun _ => False) wr W1 := by
        rw [← hW1]
        exact ((Fr.refl _ wr).alloc _).trans (S' := fun i => i = wr.heap.size) ⟨rfl, rfl, rfl, by simp, fun i _ h => setRow_other _ _ _ _ (fun e => h e)⟩ (fun i h => .inr (by omega))
      clear hW1
      have hrb1 : W1.rangeAt b' (off' + i * 10) [.int .i64 o.k, .int .i64 o.a, .int .i64 o.b, .int .i64 o.i, .int .i64 o.p, .int .i64 o.f, .int .i64 o.g, .int .u64 (o.x : Int), .float .f64 q, .int .u64 (b0 : Int)] := fun j v hv => (World.cell?_of_block (w := wr) (hf1.block b' HB'.out (fun h => h))).trans (HRB.out j v hv)
      have HRB1 := Lib.hid hrb1
      clear hrb1
      go_upto_region 8 with (first | refine wpList_load_mid rfl 34 _ rfl b' (off' + i * 10) rfl [.int .i64 o.k, .int .i64 o.a, .int .i64 o.b, .int .i64 o.i, .int .i64 o.p, .int .i64 o.f, .int .i64 o.g, .int .u64 (o.x : Int), .float .f64 q, .int .u64 (b0 : Int)] _ HRB1.out Tryz.underlying34 rfl HS10.out ?_ | refine wpList_store_row rfl 34 _ _ rfl W1.heap.size #[.int .i64 o.k, .int .i64 o.a, .int .i64 o.b, .int .i64 o.i, .int .i64 o.p, .int .i64 o.f, .int .i64 o.g, .int .u64 (o.x : Int), .float .f64 q, .int .u64 (b0 : Int)] rfl rfl 34 _ (heap_alloc_new _ _) HS10.out rfl HONE2.out ?_)
      generalize hW2 : (World.alloc W1 _).setRow W1.heap.size _ = W2
      have hb2 : Blk W2 W1.heap.size [.int .i64 o.k, .int .i64 o.a, .int .i64 o.b, .int .i64 o.i, .int .i64 o.p, .int .i64 o.f, .int .i64 o.g, .int .u64 (o.x : Int), .float .f64 q, .int .u64 (b0 : Int)] 34 := by rw [← hW2]; exact setRow_heap _ _ _ _ _ _ (heap_alloc_new W1 _)
      have hf2 : Fr (fun _ => False) W1 W2 := by
        rw [← hW2]
        exact ((Fr.refl _ W1).alloc _).trans (S' := fun i => i = W1.heap.size) ⟨rfl, rfl, rfl, by simp, fun i _ h => setRow_other _ _ _ _ (fun e => h e)⟩ (fun i h => .inr (by omega))
      clear hW2
      have hb1' := hb1.frame hf2 (fun h => h)
      have hf3 := (HFR.out.then hf1).then hf2
      obtain ⟨p0, p1, p2, p3, p4, p5, p6, p7, p9⟩ := cells10 hb1'
      obtain ⟨q0, q1, q2, q3, q4, q5, q6, q7, q9⟩ := cells10 hb2
      have HF3 := Lib.hid hf3
      have hhn := HHN.out o.p o.f o.g
      clear hb1 hb1' hb2 hf1 hf2 hf3
      go_wp2
      go_roundw
      case rel => exact ⟨i + 1, hlt, by go_num, HF3.out⟩
      case measure => simp [intOf]; omega
    · obtain rfl : i = n := by omega
      have HFX := Lib.hid hfr
      clear hfr
      go_wp2
      go_ret
      exact ⟨rfl, HFX.out⟩
end Go.Proofs.YtlcgmniahdngdaaGreatDoor
