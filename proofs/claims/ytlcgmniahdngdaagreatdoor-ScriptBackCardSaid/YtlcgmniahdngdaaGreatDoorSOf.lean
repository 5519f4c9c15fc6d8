/- The walk of the document's operations of operations. -/
import Derived.Test.YtlcgmniahdngdaaGreatDoorSLives
namespace Go.Proofs.YtlcgmniahdngdaaGreatDoor
open Go.RowKit Go.Great

def rc (r : OpR × Nat) : List Value := r.1.cells ++ [.int .u64 (r.2 : Int)]
def rRow (rs : List (OpR × Nat)) : List Value := rs.flatMap rc
theorem rRow_app (a b : List (OpR × Nat)) : rRow (a ++ b) = rRow a ++ rRow b := by unfold rRow; simp
theorem rc_ones (r : OpR × Nat) : ∀ u ∈ rc r, u.oneCell' = true := fun v hv => by
  unfold rc OpR.cells at hv; simp only [List.cons_append, List.nil_append, List.mem_cons, List.not_mem_nil, or_false] at hv; rcases hv with rfl | rfl | rfl | rfl | rfl | rfl | rfl | rfl | rfl | rfl <;> rfl
theorem run_append_own' {P : Program} (w : World) (base : Nat) (t ty e : TypeId) (i : TypeInfo) (z : Value) (size bytes : Nat) (ht : P.underlying t = some (.slice e)) (hi : P.info? e = some i) (hz : i.zero = some z)
    (hsize : i.size = size) (hby : i.bytes = bytes) (hzs : z.cells.size = size) (hsz : 0 < size) (v : Value) (n : Nat) (xs : List Value) (hown : w.ownsRow base e size v n xs)
    (ad : Addr) (m c : Nat) (news : List Value) (hl : news.length = m * size) (hnews : ∀ j u, news[j]? = some u → w.cell? (ad.add j) = some u) (h1 : ∀ u ∈ news, u.oneCell' = true)
    (h63 : n + m ≤ maxLen) (hbytes : (n + m) * bytes ≤ 140737488355328) (hbase : base ≤ w.heap.size) :
    ∃ v' w', (Builtin.append_ #[t, t] ty #[v, .slice (some ad) m c]).run P w = .ok v' w' ∧ w'.ownsRow base e size v' (n + m) (xs ++ news) ∧ w.grownBy w' v.ownBlock := by
  obtain ⟨v', w', hrun, hown', hgr, _⟩ := run_append_own (P := P) w base t ty e i z size bytes ht hi hz hsize hby hzs hsz v n xs hown ad m c news hl hnews h1 h63 hbytes hbase
  exact ⟨v', w', hrun, hown', hgr⟩
theorem step_append_own {P : Program} {ops : Array Oper} {o : Oper} {a : Act} {w : World} {K : Act → World → Prop} {Q : Exit → Act → World → Prop} {E : Prop} (hgd : o.guard = none) (s x : Operand) (t : TypeId)
    (ho : o.op = .call { callee := .builtin .append, args := #[s, x], argTypes := #[t, t] })
    (base : Nat) (e : TypeId) (i : TypeInfo) (z : Value) (size bytes : Nat) (ht : P.underlying t = some (.slice e)) (hi : P.info? e = some i) (hz : i.zero = some z)
    (hsize : i.size = size) (hby : i.bytes = bytes) (hzs : z.cells.size = size) (hsz : 0 < size)
    (v : Value) (n : Nat) (xs : List Value) (hs : a.eval s = v) (hown : w.ownsRow base e size v n xs)
    (ad : Addr) (m c : Nat) (news : List Value) (hx : a.eval x = .slice (some ad) m c) (hl : news.length = m * size) (hnews : ∀ j u, news[j]? = some u → w.cell? (ad.add j) = some u) (h1 : ∀ u ∈ news, u.oneCell' = true)
    (h63 : n + m ≤ maxLen) (hbytes : (n + m) * bytes ≤ 140737488355328) (hbase : base ≤ w.heap.size)
    (h : ∀ v' w', w'.ownsRow base e size v' (n + m) (xs ++ news) → w.grownBy w' v.ownBlock → K (a.put o.dst v') w') : if Region.wanted o (yielded ops a.tmps) = true then Oper.wp P o a w K Q else E := by
  have hw : Region.wanted o (yielded ops a.tmps) = true := by simp [Region.wanted, hgd]
  rw [if_pos hw]
  obtain ⟨v', w', hr, h2, h3⟩ := run_append_own' (P := P) w base t o.type e i z size bytes ht hi hz hsize hby hzs hsz v n xs hown ad m c news hl hnews h1 h63 hbytes hbase
  unfold Oper.wp
  simp only [execOp, ho, resolve, invoke, builtin, Sem.run_bind, Sem.run_pure, Result.andThen_ok, List.map_toArray, List.map_cons, List.map_nil, hs, hx, hr]
  exact h v' w' h2 h3
def OfPost (w : World) (os : List OpR) (e : Ending) (w' : World) : Prop := ∃ v, e = .returned v ∧ w'.ownsRow w.heap.size 34 10 v os.length (rRow (os.map fun o => (o, o.q))) ∧ Fr (fun _ => False) w w'
theorem info_rop : (Tryz.prog.info? 34).map (fun i => (i.zero, i.size, i.bytes)) = some (some (.agg (rc (zeroO 0, 0)).toArray), 10, 80) := by kernel_rfl
set_option maxRecDepth 100000 in
set_option maxHeartbeats 3200000 in
theorem of_ops (os : List OpR) (hl : os.length ≤ 120) (p : Option Addr) (cap : Nat) (w : World) (hO : OpsAt w p os) : Calls Tryz.prog 5 #[.slice p os.length cap] w (OfPost w os) := by
  have HO := Lib.hid hO
  have HBT := Lib.hid (fun (b : Nat) => bits_any b)
  obtain ⟨i0, hi, hz0, hz1, hz2⟩ := info_parts info_rop
  have HS9 : Hid ((Tryz.prog.info? 32).map (·.size) = some 9) := by show _ = _; kernel_rfl
  have HI0 := Lib.hid hi
  have HZ0 := Lib.hid hz0
  have HZ1 := Lib.hid hz1
  have HZ2 := Lib.hid hz2
  clear hO hi hz0 hz1 hz2
  generalize hn : os.length = n at *
  have HN := Lib.hid hn
  clear hn
  go_enter Tryz.func5, Tryz.ntmps5
  go_upto_region 3 with fail
  go_loopw [3, 5, 8] (fun v3 _ v8 wr => ∃ i : Nat, i ≤ n ∧ v8 = .int .i64 (i : Int) ∧ wr.ownsRow w.heap.size 34 10 v3 i (rRow ((os.take i).map fun o => (o, o.q))) ∧ Fr (fun _ => False) w wr) (fun _ _ v8 _ => n - (intOf v8).toNat)
  case atStart => exact ⟨0, Nat.zero_le _, rfl, by rw [List.take_zero]; exact World.ownsRow_nil _ _ _ _, Fr.refl _ _⟩
  case round =>
    obtain ⟨i, hi, rfl, hown, hfr⟩ := hrel
    by_cases hlt : i < n
    · obtain ⟨o, hoo⟩ : ∃ o, os[i]? = some o := ⟨_, List.getElem?_eq_getElem (by rw [HN.out]; exact hlt)⟩
      obtain ⟨b, off, rfl, hb, hr⟩ := (HO.out.frame hfr) i o hoo
      have htake : os.take (i + 1) = os.take i ++ [o] := by rw [List.take_add_one, hoo]; rfl
      have HTK := Lib.hid htake
      have HR := Lib.hid hr
      have HONE := Lib.hid (ones9 o)
      have HOWN := Lib.hid hown
      have HFR := Lib.hid hfr
      clear htake hr hown hfr hb hoo
      go_upto_region 5 with (first | refine wpList_load_mid rfl 32 _ rfl b (off + i * 9) rfl o.cells _ HR.out Tryz.underlying32 rfl HS9.out ?_ | refine wpList_store_row rfl 32 _ _ rfl wr.heap.size #[.int .i64 o.k, .int .i64 o.a, .int .i64 o.b, .int .i64 o.i, .int .i64 o.p, .int .i64 o.f, .int .i64 o.g, .int .u64 (o.x : Int), .float .f64 o.q] rfl rfl 32 _ (heap_alloc_new _ _) HS9.out rfl HONE.out ?_)
      generalize hW4 : (World.alloc wr _).setRow wr.heap.size _ = W4
      have hb4 : Blk W4 wr.heap.size o.cells 32 := by rw [← hW4]; exact setRow_heap _ _ _ _ _ _ (heap_alloc_new wr _)
      have hf5 : Fr (fun _ => False) wr W4 := by
        rw [← hW4]
        exact ((Fr.refl _ wr).alloc _).trans (S' := fun i => i = wr.heap.size) ⟨rfl, rfl, rfl, by simp, fun i _ h => setRow_other _ _ _ _ (fun e => h e)⟩ (fun i h => .inr (by omega))
      clear hW4
      refine wp_region_any (by kernel_rfl) ?_
      change wpAny _ _ _ _ _ _ _ (World.drew _)
      have hb5 := hb4.drew
      have hf6 := (HFR.out.then hf5).drew
      have hown3 := ownsRow_frame HOWN.out hf5.drew (fun _ _ h => h)
      generalize W4.drew = W5 at *
      clear hb4 hf5
      obtain ⟨p0, p1, p2, p3, p4, p5, p6, p7, p8⟩ := cells9 hb5
      have hown4 := ownsRow_frame hown3 ((Fr.refl (fun _ => False) W5).alloc (.cells #[.int .i64 o.k, .int .i64 o.a, .int .i64 o.b, .int .i64 o.i, .int .i64 o.p, .int .i64 o.f, .int .i64 o.g, .int .u64 (o.x : Int), .float .f64 o.q, .int .u64 (o.q : Int)] 34)) (fun _ _ h => h)
      have hnew := Blk.new W5 (rc (o, o.q)) 34
      have hnews : ∀ j u, (rc (o, o.q))[j]? = some u → (W5.alloc (.cells #[.int .i64 o.k, .int .i64 o.a, .int .i64 o.b, .int .i64 o.i, .int .i64 o.p, .int .i64 o.f, .int .i64 o.g, .int .u64 (o.x : Int), .float .f64 o.q, .int .u64 (o.q : Int)] 34)).cell? ((⟨W5.heap.size, 0, none⟩ : Addr).add j) = some u := by
        intro j u hj
        have ha : (⟨W5.heap.size, 0, none⟩ : Addr).add j = ⟨W5.heap.size, j, none⟩ := by rw [Addr.add_mid, Nat.zero_add]
        rw [ha]
        exact hnew.cell j hj
      have hbase : w.heap.size ≤ (W5.alloc (.cells #[.int .i64 o.k, .int .i64 o.a, .int .i64 o.b, .int .i64 o.i, .int .i64 o.p, .int .i64 o.f, .int .i64 o.g, .int .u64 (o.x : Int), .float .f64 o.q, .int .u64 (o.q : Int)] 34)).heap.size := by have := hf6.size; rw [World.size_alloc]; omega
      have hmax : i + 1 ≤ maxLen := by unfold maxLen; omega
      have hbts : (i + 1) * 80 ≤ 140737488355328 := by omega
      have HOWN4 := Lib.hid hown4
      have HNEWS := Lib.hid hnews
      have HONES := Lib.hid (rc_ones (o, o.q))
      have HMAX := Lib.hid hmax
      have HBTS := Lib.hid hbts
      have HBASE := Lib.hid hbase
      have HF6 := Lib.hid hf6
      clear hb5 hf6 hown3 hown4 hnew hnews hmax hbts hbase
      refine takeA (i := 0) (d := 12) (v := u3) rfl rfl (by kernel_rfl) (by kernel_rfl) (by kernel_rfl) (fun _ _ _ h => h) (Or.inl ⟨by rfl, fun w => BigFrame.run_move (.tmp 3) rfl w⟩) ?_
      simp only [Act.put, List.setIfInBounds_toArray, List.set_cons_zero, List.set_cons_succ]
      refine takeA (i := 2) (d := 14) (v := .pointer (some ⟨wr.heap.size, 8, none⟩)) rfl rfl (by kernel_rfl) (by kernel_rfl) (by kernel_rfl) (fun _ _ _ h => h) (Or.inl ⟨by rfl, fun w => by go_simp⟩) ?_
      simp only [Act.put, List.setIfInBounds_toArray, List.set_cons_zero, List.set_cons_succ]
      refine wpAny_ready (rs := [1, 3]) (by kernel_rfl) (by simp) ?_
      refine AllReady.cons rfl (fun K hK => ?_) (AllReady.cons rfl (fun K hK => ?_) AllReady.nil)
      · go_simp
        refine hK _ _ ?_
        clear hK K
        refine wpAny_ready (rs := [3]) (by kernel_rfl) (by simp) ?_
        refine AllReady.cons rfl (fun K hK => ?_) AllReady.nil
        go_simp
        refine hK _ _ ?_
        clear hK K
        refine wpAny_ready (rs := [4]) (by kernel_rfl) (by simp) ?_
        refine AllReady.cons rfl (fun K hK => ?_) AllReady.nil
        go_simp
        refine (HBT.out _ _).mono ?_
        rintro e w' ⟨rfl, rfl⟩
        refine hK _ _ ?_
        clear hK K
        refine wpAny_ready (rs := [5]) (by kernel_rfl) (by simp) ?_
        refine AllReady.cons rfl (fun K hK => ?_) AllReady.nil
        go_simp
        refine hK _ _ ?_
        clear hK K
        refine wpAny_ready (rs := [6]) (by kernel_rfl) (by simp) ?_
        refine AllReady.cons rfl (fun K hK => ?_) AllReady.nil
        go_simp
        refine hK _ _ ?_
        clear hK K
        refine wpAny_ready (rs := [7]) (by kernel_rfl) (by simp) ?_
        refine AllReady.cons rfl (fun K hK => ?_) AllReady.nil
        refine step_append_own rfl _ _ 24 rfl w.heap.size 34 i0 _ 10 80 Tryz.underlying24 HI0.out HZ0.out HZ1.out HZ2.out rfl (by decide) u3 i (rRow ((os.take i).map fun o => (o, o.q))) rfl HOWN4.out ⟨W5.heap.size, 0, none⟩ 1 1 (rc (o, o.q)) rfl rfl HNEWS.out HONES.out HMAX.out HBTS.out HBASE.out ?_
        intro v' w5 hown' hgrow
        refine hK _ _ ?_
        clear hK K
        have hf7 : Fr (fun _ => False) w w5 := (HF6.out.alloc (.cells #[.int .i64 o.k, .int .i64 o.a, .int .i64 o.b, .int .i64 o.i, .int .i64 o.p, .int .i64 o.f, .int .i64 o.g, .int .u64 (o.x : Int), .float .f64 o.q, .int .u64 (o.q : Int)] 34)).trans (Fr.of_grown hgrow) (fun j hj => .inr ((HOWN4.out.lt _ hj).1))
        have hX : w5.ownsRow w.heap.size 34 10 v' (i + 1) (rRow ((os.take (i + 1)).map fun o => (o, o.q))) := by
          rw [HTK.out, List.map_append, rRow_app]
          exact hown'
        have HX := Lib.hid hX
        have HF7 := Lib.hid hf7
        clear hX hf7 hown' hgrow
        refine wpAny_ready (rs := [8]) (by kernel_rfl) (by simp) ?_
        refine AllReady.cons rfl (fun K hK => ?_) AllReady.nil
        go_simp
        refine hK _ _ ?_
        clear hK K
        refine wpAny_done (by kernel_rfl) ?_ _
        go_wp2
        go_roundw
        case rel => exact ⟨i + 1, hlt, by go_num, HX.out, HF7.out⟩
        case measure => simp [intOf]; omega
      · go_simp
        refine hK _ _ ?_
        clear hK K
        refine wpAny_ready (rs := [1, 4]) (by kernel_rfl) (by simp) ?_
        refine AllReady.cons rfl (fun K hK => ?_) (AllReady.cons rfl (fun K hK => ?_) AllReady.nil)
        · go_simp
          refine hK _ _ ?_
          clear hK K
          refine wpAny_ready (rs := [4]) (by kernel_rfl) (by simp) ?_
          refine AllReady.cons rfl (fun K hK => ?_) AllReady.nil
          go_simp
          refine (HBT.out _ _).mono ?_
          rintro e w' ⟨rfl, rfl⟩
          refine hK _ _ ?_
          clear hK K
          refine wpAny_ready (rs := [5]) (by kernel_rfl) (by simp) ?_
          refine AllReady.cons rfl (fun K hK => ?_) AllReady.nil
          go_simp
          refine hK _ _ ?_
          clear hK K
          refine wpAny_ready (rs := [6]) (by kernel_rfl) (by simp) ?_
          refine AllReady.cons rfl (fun K hK => ?_) AllReady.nil
          go_simp
          refine hK _ _ ?_
          clear hK K
          refine wpAny_ready (rs := [7]) (by kernel_rfl) (by simp) ?_
          refine AllReady.cons rfl (fun K hK => ?_) AllReady.nil
          refine step_append_own rfl _ _ 24 rfl w.heap.size 34 i0 _ 10 80 Tryz.underlying24 HI0.out HZ0.out HZ1.out HZ2.out rfl (by decide) u3 i (rRow ((os.take i).map fun o => (o, o.q))) rfl HOWN4.out ⟨W5.heap.size, 0, none⟩ 1 1 (rc (o, o.q)) rfl rfl HNEWS.out HONES.out HMAX.out HBTS.out HBASE.out ?_
          intro v' w5 hown' hgrow
          refine hK _ _ ?_
          clear hK K
          have hf7 : Fr (fun _ => False) w w5 := (HF6.out.alloc (.cells #[.int .i64 o.k, .int .i64 o.a, .int .i64 o.b, .int .i64 o.i, .int .i64 o.p, .int .i64 o.f, .int .i64 o.g, .int .u64 (o.x : Int), .float .f64 o.q, .int .u64 (o.q : Int)] 34)).trans (Fr.of_grown hgrow) (fun j hj => .inr ((HOWN4.out.lt _ hj).1))
          have hX : w5.ownsRow w.heap.size 34 10 v' (i + 1) (rRow ((os.take (i + 1)).map fun o => (o, o.q))) := by
            rw [HTK.out, List.map_append, rRow_app]
            exact hown'
          have HX := Lib.hid hX
          have HF7 := Lib.hid hf7
          clear hX hf7 hown' hgrow
          refine wpAny_ready (rs := [8]) (by kernel_rfl) (by simp) ?_
          refine AllReady.cons rfl (fun K hK => ?_) AllReady.nil
          go_simp
          refine hK _ _ ?_
          clear hK K
          refine wpAny_done (by kernel_rfl) ?_ _
          go_wp2
          go_roundw
          case rel => exact ⟨i + 1, hlt, by go_num, HX.out, HF7.out⟩
          case measure => simp [intOf]; omega
        · go_simp
          refine (HBT.out _ _).mono ?_
          rintro e w' ⟨rfl, rfl⟩
          refine hK _ _ ?_
          clear hK K
          refine wpAny_ready (rs := [1]) (by kernel_rfl) (by simp) ?_
          refine AllReady.cons rfl (fun K hK => ?_) AllReady.nil
          go_simp
          refine hK _ _ ?_
          clear hK K
          refine wpAny_ready (rs := [5]) (by kernel_rfl) (by simp) ?_
          refine AllReady.cons rfl (fun K hK => ?_) AllReady.nil
          go_simp
          refine hK _ _ ?_
          clear hK K
          refine wpAny_ready (rs := [6]) (by kernel_rfl) (by simp) ?_
          refine AllReady.cons rfl (fun K hK => ?_) AllReady.nil
          go_simp
          refine hK _ _ ?_
          clear hK K
          refine wpAny_ready (rs := [7]) (by kernel_rfl) (by simp) ?_
          refine AllReady.cons rfl (fun K hK => ?_) AllReady.nil
          refine step_append_own rfl _ _ 24 rfl w.heap.size 34 i0 _ 10 80 Tryz.underlying24 HI0.out HZ0.out HZ1.out HZ2.out rfl (by decide) u3 i (rRow ((os.take i).map fun o => (o, o.q))) rfl HOWN4.out ⟨W5.heap.size, 0, none⟩ 1 1 (rc (o, o.q)) rfl rfl HNEWS.out HONES.out HMAX.out HBTS.out HBASE.out ?_
          intro v' w5 hown' hgrow
          refine hK _ _ ?_
          clear hK K
          have hf7 : Fr (fun _ => False) w w5 := (HF6.out.alloc (.cells #[.int .i64 o.k, .int .i64 o.a, .int .i64 o.b, .int .i64 o.i, .int .i64 o.p, .int .i64 o.f, .int .i64 o.g, .int .u64 (o.x : Int), .float .f64 o.q, .int .u64 (o.q : Int)] 34)).trans (Fr.of_grown hgrow) (fun j hj => .inr ((HOWN4.out.lt _ hj).1))
          have hX : w5.ownsRow w.heap.size 34 10 v' (i + 1) (rRow ((os.take (i + 1)).map fun o => (o, o.q))) := by
            rw [HTK.out, List.map_append, rRow_app]
            exact hown'
          have HX := Lib.hid hX
          have HF7 := Lib.hid hf7
          clear hX hf7 hown' hgrow
          refine wpAny_ready (rs := [8]) (by kernel_rfl) (by simp) ?_
          refine AllReady.cons rfl (fun K hK => ?_) AllReady.nil
          go_simp
          refine hK _ _ ?_
          clear hK K
          refine wpAny_done (by kernel_rfl) ?_ _
          go_wp2
          go_roundw
          case rel => exact ⟨i + 1, hlt, by go_num, HX.out, HF7.out⟩
          case measure => simp [intOf]; omega
    · obtain rfl : i = n := by omega
      have htk : os.take i = os := by rw [← HN.out]; exact List.take_length
      rw [htk] at hown
      have HX := Lib.hid hown
      have HFX := Lib.hid hfr
      clear hown hfr htk
      go_wp2
      go_ret
      exact ⟨u3, rfl, by rw [HN.out]; exact HX.out, HFX.out⟩
end Go.Proofs.YtlcgmniahdngdaaGreatDoor
