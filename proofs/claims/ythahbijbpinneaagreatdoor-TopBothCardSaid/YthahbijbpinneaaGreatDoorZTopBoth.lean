/- TopBothCardSaid: for every input the law returns true and its arguments read as bf; without conditions. -/
import Derived.Test.YthahbijbpinneaaGreatDoorA17
import Derived.LaidMore
import Derived.SevenTiedAt
import Derived.Stop.Joined
import Derived.Lay
import Derived.ProofKit
import Derived.OpenShut
import Derived.ShutString
import Derived.Test.YthahbijbpinneaaGreatDoorCards
import Derived.Test.YthahbijbpinneaaGreatDoorTie
set_option maxRecDepth 100000
set_option maxHeartbeats 8000000
set_option linter.all false
namespace Go.Proofs.YthahbijbpinneaaGreatDoor.topBoth
open Go.ChangeShapes Go.WideShapes Go.ChangeAt Go.RowKit Go.Proofs.Tryz
theorem own:ownKnob prog.godebug=none:=by kernel_rfl
theorem lo:laidOutB prog=true:=by kernel_rfl
theorem dm (os:Os) (args:Array Value):laidMetH prog Rows.topBothRow.laid ((World.laidAll prog os Rows.topBothRow.laid).forCall (fun _ _=>0) ⟨#[],args,[]⟩).memory:=by
 rw [MakeChecks.laidMetH_plain _ _ _ (by kernel_rfl)];exact laidMet_laidAll _ (by kernel_rfl) (by kernel_rfl)
theorem li (os:Os) (st:os.Started) (H:Type) (enc:TypeId×Value→H):
  ReturnsInHanded {} Tryz.checked os 8 .any (fun w args=>(Rows.topBothSpec.pre enc prog f8 [] false w args∧laidMetH prog Rows.topBothRow.laid w)∧sizedMet enc prog f8 (OpenSpec.ofChange Rows.topBothSpec) false w args)
   (Rows.topBothSpec.post enc prog f8 false true false false):=by
 refine returnsInHanded_of_change_and (C:=Tryz.checked) (X:=fun w _=>laidMetH prog Rows.topBothRow.laid w) (fun _ _ _ hh h=>h.of_heap hh) own st (by kernel_rfl) func8
  (ChangeSpec.witness_shaped (enc:=enc) (C:=Tryz.checked) (os:=os) (X:=fun w _=>laidMetH prog Rows.topBothRow.laid w) false (World.laidAll prog os Rows.topBothRow.laid) #[.agg #[.int .i64 0,.int .i64 0,.int .i64 0,.int .i64 0,.int .i64 0,.int .i64 0,.int .i64 0,.float .f64 0],.slice none 0 0] 8 (World.laidAll_os _ _ _) (World.shaped_of_ZipB (by kernel_rfl) (by kernel_rfl)) (by kernel_rfl) (by kernel_rfl) (by kernel_rfl) (dm os _)) ?_
 intro W Ba args ds gs bf y0 hW _ _ hL _
 have hv:∀(j:Nat) t v,f8.params[j]? =some t→args[j]? =some v→Value.okWide prog W .any Ba t v:=y0
 have hW':=hW
 obtain ⟨p,q,hA0,hV,rfl,hfz,hnd⟩:=hW
 have hA:DataW.TrodAll enc prog W 0 (fun _=>true) true f8.params.toList args.toList ds p:=hA0
 rw [params8] at hA hv
 obtain ⟨v0,vs0,d0,ds0,p0,q0,ha,rfl,rfl,h0,r0⟩:=trodAll_cons hA
 obtain ⟨v1,vs1,d1,ds1,p1,q1,rfl,rfl,rfl,h1,r1⟩:=trodAll_cons r0
 obtain ⟨rfl,rfl,rfl⟩:=trodAll_nil r1
 obtain rfl:args= #[v0,v1]:=by cases args;simp_all
 obtain ⟨rfl,rfl⟩:=trodVars_none hV
 have k0:=h0
 have lt0:∀x∈p0,x.block<W.heap.size:=by obtain ⟨m,hm⟩:=k0;exact DataW.trod_lt m _ _ _ hm
 have k1:=h1
 have lt1:∀x∈p1,x.block<W.heap.size:=by obtain ⟨m,hm⟩:=k1;exact DataW.trod_lt m _ _ _ hm
 obtain ⟨c0,rfl,w0⟩:=vi (d:=6) (L:=[.int .i64,.int .i64,.int .i64,.int .i64,.int .i64,.int .i64,.int .i64,.float .f64]) (hv 0 24 v0 rfl rfl) (.inl ⟨_,underlying24⟩) (by kernel_rfl) h0
 obtain ⟨a1,len1,cap1,rfl⟩:=okWide_slice underlying60 (hv 1 60 v1 rfl rfl)
 have w1:=sP (d:=6) (L:=[.int .u8,.int .u64,.int .u64]) underlying60 (by kernel_rfl) (by kernel_rfl) (by decide) h1
 clear hA0 y0
 refine (xp w0 w1.1 hL).mono fun e W' ⟨he,z⟩=> ?_
 subst he
 have bel:=z.below
 exact ⟨_,rfl,_,_,_,[],_,[],hW',trodAll_mk1 (shut_bool underlying4 _),(trodAll_cons_mk (Below.trod lo (by kernel_rfl) (of_decide_eq_true (by kernel_rfl)) k0 bel lt0) (trodAll_cons_mk (Below.trod lo (by kernel_rfl) (of_decide_eq_true (by kernel_rfl)) k1 bel lt1) trodAll_mk0)),rfl,bel.frame _,fun h=>by cases h⟩
theorem p1:(Rows.topBothRow.inPlace==Tryz.pinned.checked.prog.inPlace 8)=true:=by kernel_rfl
theorem p2:(Rows.topBothRow.unfollowed==Tryz.pinned.checked.prog.unfollowed 8)=true:=by kernel_rfl
theorem p3:(Rows.topBothRow.recurses==Tryz.pinned.checked.prog.recurses 8)=true:=by kernel_rfl
theorem p4:(Rows.topBothRow.named==Tryz.pinned.checked.prog.varsNamed 8)=true:=by kernel_rfl
theorem fa:joinedFacts Tryz.pinned.checked.prog 8 f8 Rows.topBothSpec Rows.topBothRow=true:=by
 unfold joinedFacts
 rw [p1,p2,p3,p4]
 kernel_rfl
theorem rh:Rows.TopBothSaid:=
 OpenClaim.holds_of_wide 8 f8 rfl rfl rfl rfl rfl rfl rfl ⟨rfl,rfl,rfl,rfl,rfl⟩ rfl rfl rfl rfl rfl (by kernel_rfl) func8 fa
  (of_decide_eq_true (by kernel_rfl)) (by unfold Func.isWrapper;first|(rw [if_pos (by decide+kernel)];kernel_rfl)|(rw [if_neg (by decide+kernel)];exact ⟨rfl,rfl⟩))
  (fun os st H enc _=>li os st H enc)
theorem proved:Rows.TopBothCardSaid:=
 Claim7.holds_tied_plain_at .later [] [.data] true (true, "77626a36b8acc789ede0e49febb8f62761236f8f28c2f4bb16911fc4df91eefd") true
  rh (fun _ h=>by cases h) (by kernel_rfl) (fun _ h=>by cases h) topBoth_row_tie rfl ⟨rfl,rfl⟩ (by kernel_rfl) rfl
  (fun f fn hf hfn=>by
   obtain rfl:f=8:=Option.some.inj ((show prog.funcNamed "ullage/ullagetop.TopBoth" =some 8 by kernel_rfl).symm.trans hf)|>.symm
   obtain rfl:fn=f8:=(Option.some.inj (func8.symm.trans hfn)).symm
   exact ⟨by kernel_rfl,fun j t ht=>by
    rw [params8] at ht
    have hm:t∈[24,60]:=by simpa using Array.mem_of_getElem? ht
    have hall:([24,60].all fun u=> !prog.wantsStandIn u)=true:=by kernel_rfl
    exact (show prog.wantsStandIn t=false by simpa using List.all_eq_true.1 hall t hm)⟩)
  (by kernel_rfl)
#print axioms proved
end Go.Proofs.YthahbijbpinneaaGreatDoor.topBoth
