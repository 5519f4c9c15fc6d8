/- The walk of strings.Cut at a byte; strconv's errors. -/
import Derived.Test.YtlcgmniahdngdaaGreatDoorFBackP
import Derived.Shelf.RegionOpenPlain
import Derived.Shelf.Strings.Cut
import Derived.Stop.LaidErr
namespace Go.Proofs.YtlcgmniahdngdaaGreatDoor
open Go.RowKit

set_option maxHeartbeats 2000000 in
set_option maxRecDepth 100000 in
theorem icut1 (s : ByteArray) (c : UInt8) (w : World) (hs : s.size ≤ 2000) :
    Calls Tryz.prog 75 #[.string s, .string ⟨#[c]⟩] w fun e w' => e = .returned (.tuple #[.string ⟨(Lib.cut s.data.toList [c]).1.toArray⟩, .string ⟨(Lib.cut s.data.toList [c]).2.1.toArray⟩, .bool (Lib.cut s.data.toList [c]).2.2]) ∧ Fr (fun _ => False) w w' := by
  have HI := Lib.hid (Tryz.stringslite_Index_one s c)
  rcases Lib.indexB_cases s ⟨#[c]⟩ with hix | ⟨i, hix, hroom⟩
  · obtain ⟨e1, e2, e3⟩ := Lib.cutB_miss s ⟨#[c]⟩ hix
    change (⟨(Lib.cut s.data.toList [c]).1.toArray⟩ : ByteArray) = s at e1
    change (⟨(Lib.cut s.data.toList [c]).2.1.toArray⟩ : ByteArray) = ByteArray.empty at e2
    change (Lib.cut s.data.toList [c]).2.2 = false at e3
    have hix2 : Lib.indexByte s.data.toList c = -1 := by rw [← Lib.index_one]; exact hix
    rw [hix2] at HI
    rw [e1, e2, e3]
    clear e1 e2 e3 hix hix2
    go_enter Tryz.func75, Tryz.ntmps75
    go_wp2_with fail
    refine (HI.out _).mono ?_
    rintro e w' ⟨rfl, rfl⟩
    go_wp2
    go_ret3
    exact ⟨rfl, Fr.refl _ _⟩
  · obtain ⟨e1, e2, e3⟩ := Lib.cutB_hit s ⟨#[c]⟩ i hix
    change (⟨(Lib.cut s.data.toList [c]).1.toArray⟩ : ByteArray) = s.extract 0 i at e1
    change (⟨(Lib.cut s.data.toList [c]).2.1.toArray⟩ : ByteArray) = s.extract (i + 1) s.size at e2
    change (Lib.cut s.data.toList [c]).2.2 = true at e3
    have hix2 : Lib.indexByte s.data.toList c = i := by rw [← Lib.index_one]; exact hix
    rw [hix2] at HI
    rw [e1, e2, e3]
    change i + 1 ≤ s.size at hroom
    clear e1 e2 e3 hix hix2
    have mixed : Tryz.prog.follows .mixedOrders = true := by kernel_rfl
    have c1 : (0 : Int) ≤ ↑i := by omega
    have c2 : (↑i : Int) ≤ ↑s.size := by omega
    have c3 : (0 : Int) ≤ ↑i + 1 := by omega
    have c4 : (↑i + 1 : Int) ≤ ↑s.size := by omega
    go_enter Tryz.func75, Tryz.ntmps75
    go_wp2_with fail
    refine (HI.out _).mono ?_
    rintro e w' ⟨rfl, rfl⟩
    go_wp2
    go_region_o
    go_wp2
    go_ret3
    exact ⟨rfl, (Fr.refl _ _).drew⟩
theorem bytes_list (l : List UInt8) : (bytesOf l).data.toList = l := rfl
theorem cut1_any (l : List UInt8) (c : UInt8) (w : World) (hs : l.length ≤ 2000) :
    Calls Tryz.prog 59 #[.string (bytesOf l), .string ⟨#[c]⟩] w fun e w' => e = .returned (.tuple #[.string (bytesOf (Lib.cut l [c]).1), .string (bytesOf (Lib.cut l [c]).2.1), .bool (Lib.cut l [c]).2.2]) ∧ Fr (fun _ => False) w w' := by
  have HI := Lib.hid (icut1 (bytesOf l) c w (by rw [bytes_size]; exact hs))
  rw [bytes_list] at HI
  unfold bytesOf
  unfold bytesOf at HI
  generalize Lib.cut l [c] = R at *
  obtain ⟨A, B, f⟩ := R
  dsimp only at HI ⊢
  generalize (⟨A.toArray⟩ : ByteArray) = A1 at *
  generalize (⟨B.toArray⟩ : ByteArray) = B1 at *
  generalize (⟨l.toArray⟩ : ByteArray) = s at *
  clear hs
  go_enter Tryz.func59, Tryz.ntmps59
  go_wp2_with fail
  refine (HI.out).mono ?_
  rintro e w' ⟨rfl, hf⟩
  have HF := Lib.hid hf
  clear hf
  go_wp2
  go_ret3
  exact ⟨rfl, HF.out⟩

/-- strconv's two errors are there. -/
def ErrW (w : World) : Prop := (∃ t p, w.cell? ⟨4, 0, none⟩ = some (.iface t p)) ∧ ∃ t p, w.cell? ⟨5, 0, none⟩ = some (.iface t p)
theorem ErrW.frame {w w' : World} (h : ErrW w) (hf : Fr (fun _ => False) w w') : ErrW w' := by
  obtain ⟨⟨t, p, h1⟩, ⟨u, q, h2⟩⟩ := h
  exact ⟨⟨t, p, (World.cell?_of_block (w := w) (hf.block _ (cell_lt h1) (fun h => h))).trans h1⟩, ⟨u, q, (World.cell?_of_block (w := w) (hf.block _ (cell_lt h2) (fun h => h))).trans h2⟩⟩

/-- How a parse ends: a number and no error, or an error. -/
def ParsePost (w : World) (k : IntKind) (r : Option Int) (e : Ending) (w' : World) : Prop :=
  Fr (fun _ => False) w w' ∧ match r with
    | some m => e = .returned (.tuple #[.int k m, .nilIface])
    | none => ∃ m t p, e = .returned (.tuple #[.int k m, .iface t (.pointer (some p))])
def puN (l : List UInt8) : Option Int := match Lib.parseUintB 64 l with | .ok u => some u | _ => none
def aiN (l : List UInt8) : Option Int := match Lib.atoiAll l with | .ok u => some u | _ => none
theorem parse_any (l : List UInt8) (hs : l.length ≤ 2000) (w : World) (hE : ErrW w) : Calls Tryz.prog 55 #[.string (bytesOf l), .int .i64 10, .int .i64 64] w (ParsePost w .u64 (puN l)) := by
  have hz : (bytesOf l).size ≤ 2000 := by rw [bytes_size]; exact hs
  obtain ⟨⟨t, p, h1⟩, ⟨u, q, h2⟩⟩ := hE
  unfold puN
  cases h : Lib.parseUintB 64 l
  · rename_i u
    refine (Tryz.strconv_ParseUint_10_at64_ok (bytesOf l) (by omega) u h w).mono ?_
    rintro e w' ⟨rfl, hw⟩
    refine ⟨?_, rfl⟩
    rcases hw with rfl | rfl
    · exact Fr.refl _ _
    · exact Fr.of_below (Lib.bytesWorld_below _ _ _)
  · refine (Any.strconv_ParseUint_10_at64_syntax Tryz.laysPu14 (bytesOf l) (by omega) h _ w h1 (.inr ⟨_, _, rfl⟩)).mono ?_
    rintro e w' ⟨N, rfl, _, _, hb⟩
    exact ⟨Fr.of_below hb, _, _, _, rfl⟩
  · refine (Tryz.strconv_ParseUint_10_at64_range (bytesOf l) (by omega) h _ w h2 (.inr ⟨_, _, rfl⟩)).mono ?_
    rintro e w' ⟨N, rfl, _, _, hb⟩
    exact ⟨Fr.of_below hb, _, _, _, rfl⟩
theorem atoi_any (l : List UInt8) (hs : l.length ≤ 2000) (w : World) (hE : ErrW w) : Calls Tryz.prog 60 #[.string (bytesOf l)] w (ParsePost w .i64 (aiN l)) := by
  have hz : (bytesOf l).size ≤ 2000 := by rw [bytes_size]; exact hs
  obtain ⟨⟨t, p, h1⟩, ⟨u, q, h2⟩⟩ := hE
  unfold aiN
  cases h : Lib.atoiAll l
  · rename_i u
    refine (Tryz.strconv_Atoi_ok (bytesOf l) (by omega) u h w).mono ?_
    rintro e w' ⟨rfl, hw⟩
    refine ⟨?_, rfl⟩
    rcases hw with rfl | ⟨t, rfl⟩
    · exact Fr.refl _ _
    · exact Fr.of_below (Lib.bytesWorld_below _ _ _)
  · refine (Any.strconv_Atoi_syntax Tryz.laysC172 (bytesOf l) (by omega) h _ w h1 (.inr ⟨_, _, rfl⟩)).mono ?_
    rintro e w' ⟨N, rfl, _, _, hb⟩
    exact ⟨Fr.of_below hb, _, _, _, rfl⟩
  · refine (Tryz.strconv_Atoi_range (bytesOf l) (by omega) h _ w h2 (.inr ⟨_, _, rfl⟩)).mono ?_
    rintro e w' ⟨N, rfl, _, _, hb⟩
    exact ⟨Fr.of_below hb, _, _, _, rfl⟩

theorem gSyn : Tryz.prog.globalNamed "strconv.ErrSyntax" = some 4 := by kernel_rfl
theorem gRng : Tryz.prog.globalNamed "strconv.ErrRange" = some 5 := by kernel_rfl
theorem tSyn : (Tryz.prog.globals[4]?).map (·.type) = some 56 := by kernel_rfl
theorem tRng : (Tryz.prog.globals[5]?).map (·.type) = some 56 := by kernel_rfl
theorem starE : "*" ++ "errors.errorString" = "*errors.errorString" := by decide
theorem rowE (u : TypeId) (h : Tryz.prog.typeName? 3 u = some "*errors.errorString") : u = 166 :=
  typeName_ptr_named (nm := "errors.errorString") (by rw [starE]; kernel_rfl) (by kernel_rfl) (by decide) u (by rw [starE]; exact h)
theorem cellsE : Tryz.prog.cellsOf 168 = 1 := by kernel_rfl
theorem cellsS : Tryz.prog.cellsOf 9 = 1 := by kernel_rfl
theorem errw_of {W : World} (h : laidMetH Tryz.prog Rows.scriptBackRow.laid W) : ErrW W := by
  have h1 : laidMetH Tryz.prog [("strconv.ErrSyntax", Rows.laid_strconv_ErrSyntax)] W := h.filter (fun x => x.1 == "strconv.ErrSyntax")
  have h2 : laidMetH Tryz.prog [("strconv.ErrRange", Rows.laid_strconv_ErrRange)] W := h.filter (fun x => x.1 == "strconv.ErrRange")
  rw [MakeChecks.laidMetH_plain _ _ _ (by kernel_rfl)] at h1 h2
  obtain ⟨a0, s0, hv0, _⟩ := laid_sentinel h1 gSyn tSyn Tryz.underlying56 rowE Tryz.underlying166 Tryz.underlying168 rfl rfl Tryz.underlying9 cellsE cellsS
  obtain ⟨a1, s1, hv1, _⟩ := laid_sentinel h2 gRng tRng Tryz.underlying56 rowE Tryz.underlying166 Tryz.underlying168 rfl rfl Tryz.underlying9 cellsE cellsS
  exact ⟨⟨_, _, World.var?_cell gSyn hv0 0⟩, ⟨_, _, World.var?_cell gRng hv1 0⟩⟩
end Go.Proofs.YtlcgmniahdngdaaGreatDoor
