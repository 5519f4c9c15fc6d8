/- The walks of script's reader: a field goes over by its letter. -/
import Derived.Test.YtlcgmniahdngdaaGreatDoorSPut
namespace Go.Proofs.YtlcgmniahdngdaaGreatDoor
open Go.RowKit Go.Great

attribute [local go_sem] run_store_float
/-- The reader's block: the operation, the headers' addresses, why. -/
def rb (y : OpR) (hv : Value) (wh : Int) : List Value := [.int .i64 y.k, .int .i64 y.a, .int .i64 y.b, .int .i64 y.i, .int .i64 y.p, .int .i64 y.f, .int .i64 y.g, .int .u64 (y.x : Int), .float .f64 y.q, hv, .int .i64 wh]
/-- A field that is an int is read into a cell of the reader's block. -/
def InPost (b : Nat) (c : List Value) (i : Nat) (l : List UInt8) (w : World) (e : Ending) (w' : World) : Prop :=
  e = .returned (.tuple #[]) ∧ Blk w' b ((c.set i (.int .i64 (intN l))).set 10 (.int .i64 (intE l))) 69 ∧ Fr (fun k => k = b) w w'
set_option maxRecDepth 100000 in
set_option maxHeartbeats 800000 in
theorem rint_any (b : Nat) (c : List Value) (hc : c.length = 11) (i : Nat) (hi : i < 11) (l : List UInt8) (hl : l.length ≤ 2000) (w : World) (hb : Blk w b c 69) (hE : ErrW w) :
    Calls Tryz.prog 37 #[.pointer (some ⟨b, 0, none⟩), .pointer (some ⟨b, i, none⟩), .string (bytesOf l)] w (InPost b c i l w) := by
  have HR := Lib.hid (readint_any l hl w hE)
  have HEND : Hid (∀ w1, Fr (fun _ => False) w w1 → InPost b c i l w (.returned (.tuple #[])) ((w1.setCell ⟨b, i, none⟩ (.int .i64 (intN l))).setCell ⟨b, 10, none⟩ (.int .i64 (intE l)))) := fun w1 hf =>
    ⟨rfl, ((hb.frame hf (fun h => h)).set i _).set 10 _, ((hf.mono (S' := fun k => k = b) (fun _ h => h.elim)).setCell ⟨b, i, none⟩ (.inl rfl) _).setCell ⟨b, 10, none⟩ (.inl rfl) _⟩
  have HB := Lib.hid hb
  obtain ⟨v, hv⟩ : ∃ v, c[i]? = some v := ⟨_, List.getElem?_eq_getElem (by omega)⟩
  obtain ⟨v10, hv10⟩ : ∃ v, (c.set i (.int .i64 (intN l)))[10]? = some v := ⟨_, List.getElem?_eq_getElem (by rw [List.length_set]; omega)⟩
  have HV := Lib.hid hv
  have HV10 := Lib.hid hv10
  unfold RiPost at HR
  clear hb hE hv hv10 hc hi hl
  generalize intN l = n at *
  obtain ⟨e, he⟩ : ∃ e : Int, ((intE l : Nat) : Int) = e := ⟨_, rfl⟩
  rw [he] at HR HEND
  clear he
  go_enter Tryz.func37, Tryz.ntmps37
  go_wp2_with fail
  refine (HR.out).mono ?_
  rintro e w1 ⟨rfl, hf⟩
  have h1 := HB.out.frame hf (fun h => h)
  have c1 := h1.cell i HV.out
  have f1 := h1.free i
  have c2 := (h1.set i (.int .i64 n)).cell 10 HV10.out
  have f2 := (h1.set i (.int .i64 n)).free 10
  have HF := Lib.hid hf
  clear h1 hf
  go_wp2
  exact bodyPost_ret (results_none rfl _ _ _) rfl (HEND.out _ HF.out)

/-- The float of a float's text. -/
theorem fread_back (q : Nat) (hq : q < 18446744073709551616) (hc : canonF q = q) (w : World) (hT : TabD w) (hP : Lib.TabIs Tryz.prog w "internal/strconv.uint64pow10" .u64 Lib.pow10Tab) (hE : ErrW w) :
    Calls Tryz.prog 40 #[.string (bytesOf (textF q))] w fun e w' => e = .returned (.tuple #[.float .f64 q, .int .i64 0]) ∧ Fr (fun _ => False) w w' := by
  refine (read_any (textF q) (Nat.le_trans (text_len q) (by decide)) w hT hP hE).mono ?_
  rintro e w' ⟨hf, h⟩
  rcases h with ⟨f, hfl, ht, hcf, rfl⟩ | ⟨hn, _⟩
  · have := text_inj hfl hq ht
    rw [hcf, hc] at this
    subst this
    exact ⟨rfl, hf⟩
  · exact absurd rfl (hn q hq)
def RdvPost (b bh : Nat) (o y : OpR) (hn : Nat) (c : UInt8) (w : World) (e : Ending) (w' : World) : Prop :=
  e = .returned (.tuple #[]) ∧ ∃ hv', Blk w' b (rb (setS o y hn c) hv' 0) 69 ∧ (∀ m, upH hn c = m → m < 3 → hv' = .slice (some ⟨bh, m, none⟩) (3 - m : Nat) (3 - m : Nat)) ∧ Fr (fun k => k = b) w w'
def hdCells (b : Nat) : List Value := [.pointer (some ⟨b, 4, none⟩), .pointer (some ⟨b, 5, none⟩), .pointer (some ⟨b, 6, none⟩)]
set_option maxRecDepth 100000 in
set_option maxHeartbeats 1600000 in
theorem rread_any (o : OpR) (ho : o.Ok) (hcan : canonF o.q = o.q) (y : OpR) (hn : Nat) (c : UInt8) (hc : okS c = true) (hh : c = 110 → hn < 3) (b bh : Nat) (hv : Value) (wh : Int) (w : World)
    (hb : Blk w b (rb y hv wh) 69) (hbh : Blk w bh (hdCells b) 70) (hv7 : ∀ m, hn = m → m < 3 → hv = .slice (some ⟨bh, m, none⟩) (3 - m : Nat) (3 - m : Nat)) (hne : bh ≠ b)
    (hT : TabD w) (hP : Lib.TabIs Tryz.prog w "internal/strconv.uint64pow10" .u64 Lib.pow10Tab) (hE : ErrW w) :
    Calls Tryz.prog 23 #[.pointer (some ⟨b, 0, none⟩), .int .i32 (c.toNat : Int), .string (bytesOf (fieldB o hn c))] w (RdvPost b bh o y hn c w) := by
  have hlen := field_len o ho hn c
  rcases okS_cases hc with rfl | rfl | rfl | rfl | rfl | rfl | rfl
  · have hr := int_read ho.a
    have e1 : fieldB o hn 97 = itoB o.a := by simp [fieldB]
    rw [e1] at hlen ⊢
    have HI := Lib.hid (rint_any b (rb y hv wh) rfl 1 (by decide) (itoB o.a) (by omega) w hb hE)
    unfold InPost at HI
    rw [hr.1, hr.2] at HI
    have HEND : Hid (∀ w', Blk w' b (((rb y hv wh).set 1 (.int .i64 o.a)).set 10 (.int .i64 0)) 69 → Fr (fun k => k = b) w w' → RdvPost b bh o y hn 97 w (.returned (.tuple #[])) w') := fun w' h1 h2 => ⟨rfl, hv, h1, hv7, h2⟩
    clear hr e1 hb hbh hv7 hT hP hE hlen ho hcan hh hc
    go_enter Tryz.func23, Tryz.ntmps23
    go_wp2_with fail
    refine (HI.out).mono ?_
    rintro e w1 ⟨rfl, h1, h2⟩
    have HX := Lib.hid (HEND.out w1 h1 h2)
    clear h1 h2
    go_wp2
    exact bodyPost_ret (results_none rfl _ _ _) rfl HX.out
  · have hr := int_read ho.b
    have e1 : fieldB o hn 98 = itoB o.b := by simp [fieldB]
    rw [e1] at hlen ⊢
    have HI := Lib.hid (rint_any b (rb y hv wh) rfl 2 (by decide) (itoB o.b) (by omega) w hb hE)
    unfold InPost at HI
    rw [hr.1, hr.2] at HI
    have HEND : Hid (∀ w', Blk w' b (((rb y hv wh).set 2 (.int .i64 o.b)).set 10 (.int .i64 0)) 69 → Fr (fun k => k = b) w w' → RdvPost b bh o y hn 98 w (.returned (.tuple #[])) w') := fun w' h1 h2 => ⟨rfl, hv, h1, hv7, h2⟩
    clear hr e1 hb hbh hv7 hT hP hE hlen ho hcan hh hc
    go_enter Tryz.func23, Tryz.ntmps23
    go_wp2_with fail
    refine (HI.out).mono ?_
    rintro e w1 ⟨rfl, h1, h2⟩
    have HX := Lib.hid (HEND.out w1 h1 h2)
    clear h1 h2
    go_wp2
    exact bodyPost_ret (results_none rfl _ _ _) rfl HX.out
  · have hr := int_read ho.i
    have e1 : fieldB o hn 105 = itoB o.i := by simp [fieldB]
    rw [e1] at hlen ⊢
    have HI := Lib.hid (rint_any b (rb y hv wh) rfl 3 (by decide) (itoB o.i) (by omega) w hb hE)
    unfold InPost at HI
    rw [hr.1, hr.2] at HI
    have HEND : Hid (∀ w', Blk w' b (((rb y hv wh).set 3 (.int .i64 o.i)).set 10 (.int .i64 0)) 69 → Fr (fun k => k = b) w w' → RdvPost b bh o y hn 105 w (.returned (.tuple #[])) w') := fun w' h1 h2 => ⟨rfl, hv, h1, hv7, h2⟩
    clear hr e1 hb hbh hv7 hT hP hE hlen ho hcan hh hc
    go_enter Tryz.func23, Tryz.ntmps23
    go_wp2_with fail
    refine (HI.out).mono ?_
    rintro e w1 ⟨rfl, h1, h2⟩
    have HX := Lib.hid (HEND.out w1 h1 h2)
    clear h1 h2
    go_wp2
    exact bodyPost_ret (results_none rfl _ _ _) rfl HX.out
  · have hn3 := hh rfl
    obtain rfl | rfl | rfl : hn = 0 ∨ hn = 1 ∨ hn = 2 := by omega
    · have hr := int_read ho.p
      have e1 : fieldB o 0 110 = itoB o.p := by simp [fieldB]
      rw [e1] at hlen ⊢
      have hu := hv7 0 rfl (by decide)
      subst hu
      have HI := Lib.hid (rint_any b (rb y _ wh) rfl 4 (by decide) (itoB o.p) (by omega) w hb hE)
      unfold InPost at HI
      rw [hr.1, hr.2] at HI
      have c9 := hb.cell 9 rfl
      have ch := hbh.cell 0 rfl
      have HEND : Hid (∀ w', Blk w' b ((((rb y (.slice (some ⟨bh, 0, none⟩) (3 - 0 : Nat) (3 - 0 : Nat)) wh).set 4 (.int .i64 o.p)).set 10 (.int .i64 0)).set 9 (.slice (some ⟨bh, 1, none⟩) (2 : Nat) (2 : Nat))) 69 → Fr (fun k => k = b) w w' → RdvPost b bh o y 0 110 w (.returned (.tuple #[])) w') := fun w' h1 h2 => ⟨rfl, _, h1, (fun m e h3 => by subst e; rfl), h2⟩
      clear hr e1 hb hbh hv7 hT hP hE hlen ho hcan hh hc
      go_enter Tryz.func23, Tryz.ntmps23
      go_wp2_with fail
      refine (HI.out).mono ?_
      rintro e w1 ⟨rfl, h1, h2⟩
      have d9 := h1.cell 9 rfl
      have f9 := h1.free 9
      have HX := Lib.hid (HEND.out _ (h1.set 9 _) (h2.setCell ⟨b, 9, none⟩ (.inl rfl) _))
      clear h1 h2 c9 ch
      go_wp2
      exact bodyPost_ret (results_none rfl _ _ _) rfl HX.out
    · have hr := int_read ho.f
      have e1 : fieldB o 1 110 = itoB o.f := by simp [fieldB]
      rw [e1] at hlen ⊢
      have hu := hv7 1 rfl (by decide)
      subst hu
      have HI := Lib.hid (rint_any b (rb y _ wh) rfl 5 (by decide) (itoB o.f) (by omega) w hb hE)
      unfold InPost at HI
      rw [hr.1, hr.2] at HI
      have c9 := hb.cell 9 rfl
      have ch := hbh.cell 1 rfl
      have HEND : Hid (∀ w', Blk w' b ((((rb y (.slice (some ⟨bh, 1, none⟩) (3 - 1 : Nat) (3 - 1 : Nat)) wh).set 5 (.int .i64 o.f)).set 10 (.int .i64 0)).set 9 (.slice (some ⟨bh, 2, none⟩) (1 : Nat) (1 : Nat))) 69 → Fr (fun k => k = b) w w' → RdvPost b bh o y 1 110 w (.returned (.tuple #[])) w') := fun w' h1 h2 => ⟨rfl, _, h1, (fun m e h3 => by subst e; rfl), h2⟩
      clear hr e1 hb hbh hv7 hT hP hE hlen ho hcan hh hc
      go_enter Tryz.func23, Tryz.ntmps23
      go_wp2_with fail
      refine (HI.out).mono ?_
      rintro e w1 ⟨rfl, h1, h2⟩
      have d9 := h1.cell 9 rfl
      have f9 := h1.free 9
      have HX := Lib.hid (HEND.out _ (h1.set 9 _) (h2.setCell ⟨b, 9, none⟩ (.inl rfl) _))
      clear h1 h2 c9 ch
      go_wp2
      exact bodyPost_ret (results_none rfl _ _ _) rfl HX.out
    · have hr := int_read ho.g
      have e1 : fieldB o 2 110 = itoB o.g := by simp [fieldB]
      rw [e1] at hlen ⊢
      have hu := hv7 2 rfl (by decide)
      subst hu
      have HI := Lib.hid (rint_any b (rb y _ wh) rfl 6 (by decide) (itoB o.g) (by omega) w hb hE)
      unfold InPost at HI
      rw [hr.1, hr.2] at HI
      have c9 := hb.cell 9 rfl
      have ch := hbh.cell 2 rfl
      have HEND : Hid (∀ w', Blk w' b ((((rb y (.slice (some ⟨bh, 2, none⟩) (3 - 2 : Nat) (3 - 2 : Nat)) wh).set 6 (.int .i64 o.g)).set 10 (.int .i64 0)).set 9 (.slice (some ⟨bh, 2, none⟩) (0 : Nat) (0 : Nat))) 69 → Fr (fun k => k = b) w w' → RdvPost b bh o y 2 110 w (.returned (.tuple #[])) w') := fun w' h1 h2 => ⟨rfl, _, h1, (fun m e h3 => by subst e; exact absurd h3 (by decide)), h2⟩
      clear hr e1 hb hbh hv7 hT hP hE hlen ho hcan hh hc
      go_enter Tryz.func23, Tryz.ntmps23
      go_wp2_with fail
      refine (HI.out).mono ?_
      rintro e w1 ⟨rfl, h1, h2⟩
      have d9 := h1.cell 9 rfl
      have f9 := h1.free 9
      have HX := Lib.hid (HEND.out _ (h1.set 9 _) (h2.setCell ⟨b, 9, none⟩ (.inl rfl) _))
      clear h1 h2 c9 ch
      go_wp2
      exact bodyPost_ret (results_none rfl _ _ _) rfl HX.out
  · have hr := read_dig 16 (by decide) (by decide) ho.x
    have e1 : fieldB o hn 120 = digB 16 o.x := by simp [fieldB]
    rw [e1] at hlen ⊢
    have HI := Lib.hid (read16 (digB 16 o.x) (by omega) w hE)
    unfold RdPost at HI
    rw [hr.1, hr.2] at HI
    clear hr
    have HEND : Hid (∀ w1, Fr (fun _ => False) w w1 → RdvPost b bh o y hn 120 w (.returned (.tuple #[])) ((w1.setCell ⟨b, 7, none⟩ (.int .u64 (o.x : Int))).setCell ⟨b, 10, none⟩ (.int .i64 0))) := fun w1 hf =>
      ⟨rfl, hv, ((hb.frame hf (fun h => h)).set 7 _).set 10 _, hv7, ((hf.mono (S' := fun k => k = b) (fun _ h => h.elim)).setCell ⟨b, 7, none⟩ (.inl rfl) _).setCell ⟨b, 10, none⟩ (.inl rfl) _⟩
    have HB := Lib.hid hb
    clear e1 hb hbh hv7 hT hP hE hlen ho hcan hh hc
    go_enter Tryz.func23, Tryz.ntmps23
    go_wp2_with fail
    refine (HI.out).mono ?_
    rintro e w1 ⟨rfl, hf⟩
    have h1 := HB.out.frame hf (fun h => h)
    have c1 := h1.cell 7 rfl
    have f1 := h1.free 7
    have c2 := (h1.set 7 (.int .u64 (o.x : Int))).cell 10 rfl
    have f2 := (h1.set 7 (.int .u64 (o.x : Int))).free 10
    have HX := Lib.hid (HEND.out _ hf)
    clear h1 hf
    go_wp2
    exact bodyPost_ret (results_none rfl _ _ _) rfl HX.out
  · have hr := read_dig 10 (by decide) (by decide) ho.x
    have e1 : fieldB o hn 100 = digB 10 o.x := by simp [fieldB]
    rw [e1] at hlen ⊢
    have HI := Lib.hid (read10 (digB 10 o.x) (by omega) w hE)
    unfold RdPost at HI
    rw [hr.1, hr.2] at HI
    clear hr
    have HEND : Hid (∀ w1, Fr (fun _ => False) w w1 → RdvPost b bh o y hn 100 w (.returned (.tuple #[])) ((w1.setCell ⟨b, 7, none⟩ (.int .u64 (o.x : Int))).setCell ⟨b, 10, none⟩ (.int .i64 0))) := fun w1 hf =>
      ⟨rfl, hv, ((hb.frame hf (fun h => h)).set 7 _).set 10 _, hv7, ((hf.mono (S' := fun k => k = b) (fun _ h => h.elim)).setCell ⟨b, 7, none⟩ (.inl rfl) _).setCell ⟨b, 10, none⟩ (.inl rfl) _⟩
    have HB := Lib.hid hb
    clear e1 hb hbh hv7 hT hP hE hlen ho hcan hh hc
    go_enter Tryz.func23, Tryz.ntmps23
    go_wp2_with fail
    refine (HI.out).mono ?_
    rintro e w1 ⟨rfl, hf⟩
    have h1 := HB.out.frame hf (fun h => h)
    have c1 := h1.cell 7 rfl
    have f1 := h1.free 7
    have c2 := (h1.set 7 (.int .u64 (o.x : Int))).cell 10 rfl
    have f2 := (h1.set 7 (.int .u64 (o.x : Int))).free 10
    have HX := Lib.hid (HEND.out _ hf)
    clear h1 hf
    go_wp2
    exact bodyPost_ret (results_none rfl _ _ _) rfl HX.out
  · have e1 : fieldB o hn 102 = textF o.q := by simp [fieldB]
    rw [e1] at hlen ⊢
    have HI := Lib.hid (fread_back o.q ho.q hcan w hT hP hE)
    have HEND : Hid (∀ w1, Fr (fun _ => False) w w1 → RdvPost b bh o y hn 102 w (.returned (.tuple #[])) ((w1.setCell ⟨b, 8, none⟩ (.float .f64 o.q)).setCell ⟨b, 10, none⟩ (.int .i64 0))) := fun w1 hf =>
      ⟨rfl, hv, ((hb.frame hf (fun h => h)).set 8 _).set 10 _, hv7, ((hf.mono (S' := fun k => k = b) (fun _ h => h.elim)).setCell ⟨b, 8, none⟩ (.inl rfl) _).setCell ⟨b, 10, none⟩ (.inl rfl) _⟩
    have HB := Lib.hid hb
    clear e1 hb hbh hv7 hT hP hE hlen ho hcan hh hc
    go_enter Tryz.func23, Tryz.ntmps23
    go_wp2_with fail
    refine (HI.out).mono ?_
    rintro e w1 ⟨rfl, hf⟩
    have h1 := HB.out.frame hf (fun h => h)
    have c1 := h1.cell 8 rfl
    have f1 := h1.free 8
    have c2 := (h1.set 8 (.float .f64 o.q)).cell 10 rfl
    have f2 := (h1.set 8 (.float .f64 o.q)).free 10
    have HX := Lib.hid (HEND.out _ hf)
    clear h1 hf
    go_wp2
    exact bodyPost_ret (results_none rfl _ _ _) rfl HX.out
end Go.Proofs.YtlcgmniahdngdaaGreatDoor
