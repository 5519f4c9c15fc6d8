/- The walks of package exact: the nearest float. -/
import Derived.Test.YtmllbdiljjimmaaExact8
import Derived.Laws.Rows
import Derived.Deep.DeepCutAuto
namespace Go.Proofs.Ytmllbdiljjimmaa
open Go.RowKit

theorem info_limbs : (Try.prog.info? 88).map (·.size) = some 35 := by kernel_rfl

/-- The bits of the float nearest to N, the least place of its 53 bits being 'at''. -/
def roundAt (N at' : Nat) : Nat :=
  at' * 4503599627370496 + N / 2 ^ at' % 9007199254740992 + if 0 < at' ∧ N / 2 ^ (at' - 1) % 2 = 1 ∧ (N / 2 ^ at' % 9007199254740992 % 2 = 1 ∨ N % 2 ^ (at' - 1) ≠ 0) then 1 else 0
def roundN (N L : Nat) : Nat := min (roundAt N (L - 53)) 9218868437227405312

theorem limbs_size (ns : List Nat) (hn : ns.length = 35) : (limbCells ns).toArray.size = 35 := by unfold limbCells; simp [hn]

theorem half_val {ns : List Nat} {p x : Nat} (hl : Limbs ns) (hx : ns[p / 64]? = some x) : bits .and .u64 ((x : Int) / 2 ^ (p % 64)) 1 = ((toN ns / 2 ^ p % 2 : Nat) : Int) := by
  have e1 : (x : Int) / 2 ^ (p % 64) = ((x / 2 ^ (p % 64) : Nat) : Int) := by rw [Int.natCast_ediv, Int.natCast_pow]; rfl
  have h1 : x / 2 ^ (p % 64) < 18446744073709551616 := Nat.lt_of_le_of_lt (Nat.div_le_self _ _) (hl.get hx)
  rw [e1]
  have h4 := u64_and_nat _ 1 h1 (by decide)
  rw [Nat.and_one_is_mod] at h4
  have ho : p % 64 < 64 := Nat.mod_lt _ (by decide)
  rw [div_at hl hx, show (18446744073709551616 : Nat) = 2 * 2 ^ (63 - p % 64) * 2 ^ (p % 64) by rw [Nat.mul_assoc, ← Nat.pow_add, show 63 - p % 64 + p % 64 = 63 by omega], Nat.mul_right_comm, Nat.add_mul_div_right _ _ (pow_pos2 _), Nat.mul_assoc, Nat.add_mul_mod_self_left]
  exact h4

section
variable {P : Program}
/-- A whole array read behind a guard that lets it by. -/
theorem wpList_load_rowG {ops : Array Oper} {rest : List Oper} {o : Oper} {a : Act} {w : World} {Q : Exit → Act → World → Prop} (hw : Region.wanted o (yielded ops a.tmps) = true) (ty : TypeId) (x : Operand) (ho : o.op = .load ty x)
    (g : Nat) (hx : a.eval x = .pointer (some ⟨g, 0, none⟩)) (t : TypeId) (cs : Array Value) (fr : Nat × Nat) (d : TypeDesc) (hg : w.heap[g]? = some (.cells cs t fr))
    (hu : P.underlying ty = some d) (hd : (match d with | .struct _ | .array _ _ => true | _ => false) = true) (hi : (P.info? ty).map (·.size) = some cs.size)
    (h : wpList P ops Q rest (a.put o.dst (.agg cs)) w) : wpList P ops Q (o :: rest) a w := by
  unfold wpList
  rw [if_pos hw]
  exact .inl (wp_load_row ty x ho g hx t cs fr d hg hu hd hi h)
end
theorem min_up (a : Nat) : ((min a 9218868437227405312 : Nat) : Int) = min (a : Int) 9218868437227405312 := by omega
theorem min_up1 (a : Nat) : ((min (a + 1) 9218868437227405312 : Nat) : Int) = min ((a : Int) + 1) 9218868437227405312 := by omega
theorem Fr.none_trans {w0 w1 w2 : World} (h1 : Fr (fun _ => False) w0 w1) (h2 : Fr (fun _ => False) w1 w2) : Fr (fun _ => False) w0 w2 := h1.trans h2 (fun _ h => h.elim)

set_option maxRecDepth 100000 in
set_option maxHeartbeats 1600000 in
theorem rounded_any (ns : List Nat) (hn : ns.length = 35) (hL : Limbs ns) (w : World) :
    Calls Try.prog 71 #[limbsV ns] w fun e w' => ∃ L, IsLen (toN ns) L ∧ NatPost w (roundN (toN ns) L) e w' := by
  have hlen := length_any ns hn hL
  have hfrom := from_any ns hn hL
  have hbelow := below_any ns hn hL
  have HLEN := Lib.hid hlen
  have HFROM := Lib.hid hfrom
  have HBEL := Lib.hid hbelow
  clear hlen hfrom hbelow
  have hsz := limbs_size ns hn
  have hi0 := info_limbs
  rw [← hsz] at hi0
  have HI := Lib.hid hi0
  clear hi0
  unfold limbsV at *
  have hb0 := Blk.new w (limbCells ns) 88
  have hf0 : Fr (fun _ => False) w (w.alloc (.cells (limbCells ns).toArray 88)) := (Fr.refl _ w).alloc _
  have HCS : Hid (∀ w b, Blk w b (limbCells ns) 88 → w.heap[b]? = some (.cells (limbCells ns).toArray 88 (0, 0))) := fun _ _ h => h
  generalize hcs : (limbCells ns).toArray = cs at *
  generalize hw1 : w.alloc (.cells cs 88) = w1 at *
  generalize hb : w.heap.size = b at *
  have HF : Hid (Fr (fun _ => False) w w1) := hf0
  have HB : Hid (Blk w1 b (limbCells ns) 88) := hb0
  clear hb0 hf0 hcs hsz
  go_enter Try.func71, Try.ntmps71
  go_wp2_with (refine wpList_load_row rfl 88 _ rfl b rfl 88 cs (0, 0) _ (HCS.out _ _ HB.out) Try.underlying88 rfl HI.out ?_)
  refine (HLEN.out _).mono ?_
  rintro e w2 ⟨L, rfl, hL1, hL2, hf2⟩
  have HB2 : Hid (Blk w2 b (limbCells ns) 88) := HB.out.frame hf2 (fun h => h)
  have HF2 := Lib.hid (HF.out.none_trans hf2)
  have HL2 := Lib.hid hL2
  clear hL2 hf2
  have hwl : IntKind.i64.wrap ((L : Int) - 53) = (L : Int) - 53 := IntWalk.i64_in _ (by omega)
  by_cases hc53 : 53 < L
  · obtain ⟨p, hp⟩ : ∃ p, L - 53 = p + 1 := ⟨L - 54, by omega⟩
    have hpm : p < 2239 := by omega
    have hw : wrap64 ((p / 64 : Nat) : Int) = ((p / 64 : Nat) : Int) := IntWalk.wrap64_in _ (by omega)
    have hip : ((p / 64 : Nat) : Int) < 35 := by omega
    have e1 : IntKind.u64.wrap ((p + 1 : Nat) : Int) = ((p + 1 : Nat) : Int) := by rw [IntKind.wrap_u64]; omega
    have e2 : IntKind.u64.wrap (((p + 1 : Nat) : Int) * 4503599627370496) = ((p + 1 : Nat) : Int) * 4503599627370496 := by rw [IntKind.wrap_u64]; omega
    have E3 : ∀ m : Nat, m < 9007199254740992 → ∃ bv : Nat, Hid (bv = (p + 1) * 4503599627370496 + m) ∧ IntKind.u64.wrap (((p + 1 : Nat) : Int) * 4503599627370496 + (m : Int)) = (bv : Int) ∧ bv < 18446744073709551615 := fun m hm => ⟨_, rfl, by rw [IntKind.wrap_u64]; omega, by omega⟩
    have e4 : ((p + 1 : Nat) : Int) - 1 = (p : Int) := by omega
    have hA0 : (0 : Int) < ((p + 1 : Nat) : Int) := by omega
    have hat : (L : Int) - 53 = ((p + 1 : Nat) : Int) := by omega
    have hrn : roundN (toN ns) L = min (roundAt (toN ns) (p + 1)) 9218868437227405312 := by unfold roundN; rw [hp]
    have hra : roundAt (toN ns) (p + 1) = (p + 1) * 4503599627370496 + toN ns / 2 ^ (p + 1) % 9007199254740992 + if toN ns / 2 ^ p % 2 = 1 ∧ (toN ns / 2 ^ (p + 1) % 9007199254740992 % 2 = 1 ∨ toN ns % 2 ^ p ≠ 0) then 1 else 0 := by
      unfold roundAt
      rw [Nat.add_sub_cancel]
      simp only [Nat.zero_lt_succ, true_and]
    rw [hra] at hrn
    have HRN := Lib.hid hrn
    clear hrn hra
    obtain ⟨x, hx⟩ : ∃ x, ns[p / 64]? = some x := ⟨ns[p / 64]'(by omega), by simp⟩
    have hxl := hL.get hx
    have hhalf := half_val hL hx
    have HHALF := Lib.hid hhalf
    clear hhalf
    have hpi : p / 64 < 35 := by omega
    have q1 : (p : Int) / 64 = ((p / 64 : Nat) : Int) := by omega
    have q2 : (p : Int) % 64 = ((p % 64 : Nat) : Int) := by omega
    have q3 : p % 64 < 64 := by omega
    have hfrom := HFROM.out (p + 1) (by omega) w2
    have hbel := HBEL.out p (by omega)
    have hH : toN ns / 2 ^ p % 2 < 2 := Nat.mod_lt _ (by decide)
    have hm : toN ns / 2 ^ (p + 1) % 9007199254740992 < 9007199254740992 := Nat.mod_lt _ (by decide)
    generalize toN ns / 2 ^ p % 2 = H at *
    generalize toN ns / 2 ^ (p + 1) % 9007199254740992 = m at *
    generalize hbl : toN ns % 2 ^ p = B at *
    generalize p / 64 = i at *
    generalize p % 64 = o at *
    have hm2 := u64_and_nat m 1 (Nat.lt_trans hm (by decide)) (by decide)
    rw [Nat.and_one_is_mod] at hm2
    have HM2 := Lib.hid hm2
    clear hm2
    have hmm : m % 2 < 2 := Nat.mod_lt _ (by decide)
    have HFR := Lib.hid hfrom
    have HBL := Lib.hid hbel
    have HX := Lib.hid hx
    obtain ⟨bv, HBV, e3, hbvl⟩ := E3 m hm
    clear E3
    clear hfrom hbel hx hp hL hn HFROM HBEL HLEN
    have hmax : max ((p + 1 : Nat) : Int) 0 = ((p + 1 : Nat) : Int) := by omega
    generalize ((p + 1 : Nat) : Int) = A at *
    have HM3 : Hid (bits .and .u64 (m : Int) 1 = ((m % 2 : Nat) : Int)) := HM2.out
    generalize m % 2 = mo at *
    clear HM2 hbl hc53 hL1
    go_wp2_with (refine wpList_load_row rfl 88 _ rfl b rfl 88 cs (0, 0) _ (HCS.out _ _ HB2.out) Try.underlying88 rfl HI.out ?_)
    refine (HFR.out).mono ?_
    rintro e w3 ⟨rfl, hf3⟩
    have HB3 : Hid (Blk w3 b (limbCells ns) 88) := HB2.out.frame hf3 (fun h => h)
    have HF3 := Lib.hid (HF2.out.none_trans hf3)
    have hc := HB3.out.cell i (limb_cell HX.out)
    clear hf3
    have hh : H = 0 ∨ H = 1 := by omega
    have hmo : mo = 0 ∨ mo = 1 := by omega
    clear hm hxl hpm hpi q3 hH hmm
    have e5 : IntKind.u64.wrap ((bv : Int) + 1) = (bv : Int) + 1 := by rw [IntKind.wrap_u64]; omega
    have HFin0 : Hid (∀ w4, Fr (fun _ => False) w w4 → ¬ (H = 1 ∧ (mo = 1 ∨ B ≠ 0)) → NatPost w (roundN (toN ns) L) (.returned (.int .u64 (min (bv : Int) 9218868437227405312))) w4) := fun w4 hf hc => by
      refine ⟨?_, hf⟩
      rw [HRN.out, if_neg hc, Nat.add_zero, ← HBV.out, min_up]
    have HFin1 : Hid (∀ w4, Fr (fun _ => False) w w4 → (H = 1 ∧ (mo = 1 ∨ B ≠ 0)) → NatPost w (roundN (toN ns) L) (.returned (.int .u64 (min ((bv : Int) + 1) 9218868437227405312))) w4) := fun w4 hf hc => by
      refine ⟨?_, hf⟩
      rw [HRN.out, if_pos hc, ← HBV.out, min_up1]
    clear HRN HBV
    go_upto_region 5 with fail
    rcases hh with rfl | rfl
    · have hhalf : bits .and .u64 ((x : Int) / 2 ^ o) 1 = 0 := HHALF.out
      clear HHALF
      go_wp2_with fail
      go_ret
      exact ⟨L, HL2.out, HFin0.out _ HF3.out (by omega)⟩
    · have hhalf : bits .and .u64 ((x : Int) / 2 ^ o) 1 = 1 := HHALF.out
      clear HHALF
      go_upto_region 6 with fail
      clear hhalf
      rcases hmo with rfl | rfl
      · have hm2 : bits .and .u64 (m : Int) 1 = 0 := HM3.out
        go_wp2_with (refine wpList_load_rowG (by rfl) 88 _ rfl b rfl 88 cs (0, 0) _ (HCS.out _ _ HB3.out) Try.underlying88 rfl HI.out ?_)
        refine (HBL.out w3).mono ?_
        rintro e w4 ⟨rfl, hf4⟩
        have HF4 := Lib.hid (HF3.out.none_trans hf4)
        clear hf4
        by_cases hB : B = 0
        · have hb0 : (B != 0) = false := by rw [hB]; rfl
          rw [hb0]
          have hfin := HFin0.out _ HF4.out (by simp [hB])
          have HFin := Lib.hid hfin
          clear hfin hb0 hB
          go_wp2_with fail
          go_ret
          exact ⟨L, HL2.out, HFin.out⟩
        · have hb0 : (B != 0) = true := by rw [bne_iff_ne]; exact hB
          rw [hb0]
          have hfin := HFin1.out _ HF4.out (by simp [hB])
          have HFin := Lib.hid hfin
          clear hfin hb0 hB
          go_wp2_with fail
          go_ret
          exact ⟨L, HL2.out, HFin.out⟩
      · have hm2 : bits .and .u64 (m : Int) 1 = 1 := HM3.out
        go_wp2_with fail
        go_ret
        exact ⟨L, HL2.out, HFin1.out _ HF3.out (by simp)⟩
  · have hmax : max ((L : Int) - 53) 0 = 0 := by omega
    have hrn : roundN (toN ns) L = min (toN ns / 2 ^ 0 % 9007199254740992) 9218868437227405312 := by
      unfold roundN roundAt
      rw [show L - 53 = 0 by omega, Nat.zero_mul, Nat.zero_add, if_neg (fun h => absurd h.1 (Nat.lt_irrefl 0)), Nat.add_zero]
    have hfrom := HFROM.out 0 (by omega) w2
    have hm : toN ns / 2 ^ 0 % 9007199254740992 < 9007199254740992 := Nat.mod_lt _ (by decide)
    generalize toN ns / 2 ^ 0 % 9007199254740992 = m at *
    have e3 : IntKind.u64.wrap (m : Int) = (m : Int) := by rw [IntKind.wrap_u64]; omega
    have HFin : Hid (∀ w4, Fr (fun _ => False) w w4 → NatPost w (roundN (toN ns) L) (.returned (.int .u64 (min (m : Int) 9218868437227405312))) w4) := fun w4 hf => by
      refine ⟨?_, hf⟩
      rw [hrn, min_up]
    have HFR : Hid (Calls Try.prog 94 #[Value.agg cs, .int .i64 0] w2 (NatPost w2 m)) := hfrom
    clear hrn hfrom hc53 hL hn HFROM HBEL HLEN hL1 hm
    go_wp2_with (refine wpList_load_row rfl 88 _ rfl b rfl 88 cs (0, 0) _ (HCS.out _ _ HB2.out) Try.underlying88 rfl HI.out ?_)
    refine (HFR.out).mono ?_
    rintro e w3 ⟨rfl, hf3⟩
    have HF3 := Lib.hid (HF2.out.none_trans hf3)
    clear hf3
    go_wp2_with fail
    go_ret
    exact ⟨L, HL2.out, HFin.out _ HF3.out⟩
end Go.Proofs.Ytmllbdiljjimmaa
