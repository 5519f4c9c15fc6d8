import Derived.Test.YthahbijbpinneaaGreatDoorA0
import Derived.Test.YthahbijbpinneaaGreatDoorA2
import Derived.Test.YthahbijbpinneaaGreatDoorShelf
import Derived.Lib.Hide
set_option maxRecDepth 100000
set_option maxHeartbeats 8000000
set_option linter.all false
namespace Go.Proofs.YthahbijbpinneaaGreatDoor
open Go.RowKit
section
open Go.RowKit Go.Shelf
theorem sE (b:Nat) (w:World):Calls Tryz.prog 221 #[b] w fun e w'=>e= .returned (.func (.func 262) #[] #[.pointer (some ⟨w.heap.size,0,none⟩)])∧w'=w.alloc (.cells #[.pointer (some ⟨b,0,none⟩)] 211):=by
 go_enter Tryz.func221,Tryz.ntmps221
 go_wp2;go_ret;exact ⟨rfl,rfl⟩
theorem dB (b:Nat) (w:World):Calls Tryz.prog 154 #[b] w fun e w'=>e= .returned (.func (.func 220) #[] #[.pointer (some ⟨w.heap.size,0,none⟩)])∧w'=w.alloc (.cells #[.pointer (some ⟨b,0,none⟩)] 132):=by
 go_enter Tryz.func154,Tryz.ntmps154
 go_wp2;go_ret;exact ⟨rfl,rfl⟩
def aO (E:Nat→Nat) (W:Nat):List (Nat×Nat):=(bf (aU E) 0 W).map fun s=>(s,E s)
def fM (x:Nat×Nat):Array Value:= #[.int .i64 (x.1:Int),.int .i64 (x.2:Int)]
def j6 (L:aI) (tb W:Nat) (E:Nat→Nat) (w:World):Prop:=bA w L W E∧bu w∧ak w tb [.pointer (some ⟨L.m,0,none⟩)] 132
theorem xz {f:Nat→Nat×Nat} {xs pre:List Nat} {x:Nat} (h:xs[pre.length]? =some x):(xs.map f)[(pre.map f).length]? =some (f x):=by
 rw [List.length_map,List.getElem?_map,h];rfl
def jb (J:List (Nat×Nat)→(Nat→Prop)→World→Prop) (E:Nat→Nat) (l yb ob s:Nat) (pre:List Nat) (S:Nat→Prop) (W:World):Prop:=
 J (pre.map fun s=>(s,E s)) S W∧ak W yb [.func (.yield l) #[] #[]] 302∧ak W ob [.pointer (some ⟨s,0,none⟩)] 211∧¬S yb∧¬S ob
theorem jb.stays {J:List (Nat×Nat)→(Nat→Prop)→World→Prop} {E:Nat→Nat} {l yb ob s B:Nat} (hJ:cq B J) (h1:yb<B) (h2:ob<B):cq B (jb J E l yb ob s):=by
 rintro pre S W1 W2 T ⟨q1,q2,q3,q4,q5⟩ hf hT;exact ⟨hJ _ _ _ _ _ q1 hf hT,q2.frame hf (fun h=>by have:=(hT _ h).1;omega),q3.frame hf (fun h=>by have:=(hT _ h).1;omega),q4,q5⟩
theorem jb.rnd {J:List (Nat×Nat)→(Nat→Prop)→World→Prop} {E:Nat→Nat} {l yb ob s x:Nat} {pre:List Nat} {S:Nat→Prop} {W W':World} (h:jb J E l yb ob s pre S W) (hr:s8 J ((pre.map fun s=>(s,E s))++[(x,E x)]) S W W'):s8 (jb J E l yb ob s) (pre++[x]) S W W':=by
 obtain ⟨q1,q2,q3,q4,q5⟩:=h;obtain ⟨S',r1,r2,r3⟩:=hr;have hy:=q2.lt;have ho:=q3.lt;exact ⟨S',⟨by rw [List.map_append];exact r1,q2.frame r2 q4,q3.frame r2 q5,fun h=>by rcases r3 _ h with h|h;exact q4 h;omega,fun h=>by rcases r3 _ h with h|h;exact q5 h;omega⟩,r2,r3⟩
section
attribute [local go_sem] Oper.semAt_some
theorem dz {L:aI} {tb W:Nat} {E:Nat→Nat} (hn:W≤1048576):ll 220 #[.pointer (some ⟨tb,0,none⟩)] fM (aO E W) (j6 L tb W E):=by
 intro d l J S₀ W0 hS hR hY hS0 h0;refine callsIn_of_wp_marks Tryz.func220 rfl trivial ?_ rfl;simp only [Tryz.ntmps220,List.size_toArray,List.length_cons,List.length_nil,Nat.reduceAdd,Nat.reduceSub,Array.replicate_succ,Array.replicate_zero,List.push_toArray,List.append_toArray,List.nil_append,List.cons_append];obtain ⟨W1,hW1⟩:∃W1,W0.alloc (.cells #[.func (.yield l) #[] #[]] 302)=W1:=⟨_,rfl⟩;have hf1:Fr (fun _=>False) W0 W1:=by rw [←hW1];exact (Fr.refl _ W0).alloc _
 have hy1:ak W1 W0.heap.size [.func (.yield l) #[] #[]] 302:=by rw [←hW1];exact ak.new W0 _ _
 have hz1:W1.heap.size=W0.heap.size+1:=by rw [←hW1];simp
 have hj1:=hS.Fh h0 hf1;obtain ⟨hx,hT,htb⟩:=hR _ _ _ hj1;have c0:=htb.cell 0 rfl;have c1:=hx.blk.cell 0 rfl;have HN:=ae (cH hx.blk);have HO:=ae (sE L.s W1);have HX:=ae hx;have HS:=ae hS;have HR:=ae hR;have HY:=ae hY;have HJ:=ae hj1;have HW:=ae hW1;have HB:=ae (af hy1 (af hz1 hS0));clear hS hR hY h0 hT htb hx hj1 hy1 hz1 hS0;gi_wp2;clear hW1;refine bt ((HN.out).mono ?_);rintro e w' ⟨rfl,rfl⟩;gi_wp2;refine bt ((HO.out).mono ?_);rintro e W2 ⟨rfl,hW2⟩;have hf2:Fr (fun _=>False) W1 W2:=by rw [hW2];exact (Fr.refl _ W1).alloc _
 have ho2:ak W2 W1.heap.size [.pointer (some ⟨L.s,0,none⟩)] 211:=by rw [hW2];exact ak.new W1 _ _
 have hz2:W2.heap.size=W1.heap.size+1:=by rw [hW2];simp
 have hz1:=HB.out.2.1;have hI0:jb J E l W0.heap.size W1.heap.size L.s [] S₀ W2:=⟨HS.out.Fh HJ.out hf2,HB.out.1.frame hf2 (fun h=>h),ho2,fun h=>by have:=HB.out.2.2 _ h;omega,fun h=>by have:=HB.out.2.2 _ h;omega⟩;have hstay:cq W2.heap.size (jb J E l W0.heap.size W1.heap.size L.s):=jb.stays (HS.out.mono (by omega)) (by omega) (by omega);have hsb:∀k,S₀ k→k<W2.heap.size:=fun k hk=>by have:=HB.out.2.2 _ hk;omega
 have hread:∀pre S w,jb J E l W0.heap.size W1.heap.size L.s pre S w→wO L.s L.gs W W1.heap.size (aU E) w:=fun pre S w h=>by
  obtain ⟨h1,h2,_⟩:=HR.out _ _ _ h.1;exact ⟨h1.sv,h2,h.2.2.1⟩
 have HZ1:=ae hz1;clear hW2 c0 c1 hz1 hz2;gi_wp2;refine df (gf:=262) (lb:= #[W1.heap.size]) rfl (enters_of Tryz.func262 (by kernel_rfl) rfl) (encs:=vQ) (fun _=>rfl) (rU (f:=aU E) hn) (jb J E l W0.heap.size W1.heap.size L.s) S₀ hstay hread hsb hI0
  (fun s=>{tmps:= #[.func (.yield l) #[] #[],.pointer (some ⟨tb,0,none⟩),.pointer (some ⟨W0.heap.size,0,none⟩),.int .i64 s,.pointer (some ⟨L.m,0,none⟩),.bool false,.pointer (some ⟨L.m,0,none⟩),.pointer (some ⟨L.m,0,none⟩),.pointer (some ⟨L.m,0,none⟩),.pointer (some ⟨L.s,0,none⟩),.func (.func 262) #[] #[.pointer (some ⟨W1.heap.size,0,none⟩)],.int .i64 s,undef,undef,undef,undef,undef,undef,undef],defers:=[]}) ?assign ?body ?done
 case assign=>
  intro k x W K hK;unfold vQ;gi_wp2;exact hK
 case body=>
  clear hI0 hstay hsb hread;intro k pre S x W hI hlen hf hs;obtain ⟨hj,hyb,hob,hn1,hn2⟩:=id hI;obtain ⟨hx,hT,htb⟩:=HR.out _ _ _ hj;have hxa:E x≠0:=bH.1 (jA.1 (List.mem_of_getElem? hlen)).2.2;obtain ⟨fn,tmps,assign,body,hy,hR⟩:=HY.out _ S (x,E x) W.drew (HS.out.Fh hj ((Fr.refl _ W).drew)) (xz hlen);have HSZ:=ae (jq hx.drew hT x hxa);have HRR:=ae hR;have c0:W.drew.cell? ⟨W0.heap.size,0,none⟩=some (.func (.yield l) #[] #[]):=hyb.drew.cell 0 rfl;have c1:W.drew.cell? ⟨tb,0,none⟩=some (.pointer (some ⟨L.m,0,none⟩)):=htb.drew.cell 0 rfl;have HE:=ae (fun W' (hr:s8 J ((pre.map fun s=>(s,E s))++[(x,E x)]) S W.drew W')=>(jb.rnd hI (let ⟨S',r1,r2,r3⟩:=hr;⟨S',r1,((Fr.refl S W).drew).trans r2 (fun _ h=> .inl h),r3⟩)));unfold fM at hy;clear hI hj hyb hob hx hT htb hlen hf hs hR;generalize E x=n at*;gi_wp2;refine wpIn_region_any (by kernel_rfl) ?_;change wpAnyIn _ _ _ _ _ _ _ _ _ (World.drew _);generalize W.drew=W at*
  iterate 7 (all_goals (
   first|refine wpAnyIn_ready (rs:=[0,1,2,3]) (by decide+kernel) (by simp) ?_|refine wpAnyIn_ready (rs:=[0,1,2]) (by decide+kernel) (by simp) ?_|refine wpAnyIn_ready (rs:=[0,1,3]) (by decide+kernel) (by simp) ?_|refine wpAnyIn_ready (rs:=[0,2,3]) (by decide+kernel) (by simp) ?_|refine wpAnyIn_ready (rs:=[1,2,3]) (by decide+kernel) (by simp) ?_|refine wpAnyIn_ready (rs:=[0,1,4]) (by decide+kernel) (by simp) ?_|refine wpAnyIn_ready (rs:=[0,1]) (by decide+kernel) (by simp) ?_|refine wpAnyIn_ready (rs:=[0,2]) (by decide+kernel) (by simp) ?_|refine wpAnyIn_ready (rs:=[0,3]) (by decide+kernel) (by simp) ?_|refine wpAnyIn_ready (rs:=[1,2]) (by decide+kernel) (by simp) ?_|refine wpAnyIn_ready (rs:=[1,3]) (by decide+kernel) (by simp) ?_|refine wpAnyIn_ready (rs:=[2,3]) (by decide+kernel) (by simp) ?_|refine wpAnyIn_ready (rs:=[0,4]) (by decide+kernel) (by simp) ?_|refine wpAnyIn_ready (rs:=[0]) (by decide+kernel) (by simp) ?_|refine wpAnyIn_ready (rs:=[1,4]) (by decide+kernel) (by simp) ?_|refine wpAnyIn_ready (rs:=[1]) (by decide+kernel) (by simp) ?_|refine wpAnyIn_ready (rs:=[2]) (by decide+kernel) (by simp) ?_|refine wpAnyIn_ready (rs:=[3]) (by decide+kernel) (by simp) ?_|refine wpAnyIn_ready (rs:=[4]) (by decide+kernel) (by simp) ?_|refine wpAnyIn_ready (rs:=[5]) (by decide+kernel) (by simp) ?_|refine wpAnyIn_ready (rs:=[6]) (by decide+kernel) (by simp) ?_
   repeat' (first|exact AllReadyIn.nil|refine AllReadyIn.cons rfl (fun K hK=> ?_) ?_)
   all_goals (
    go_simp
    first|refine hK _ _ ?_|(refine mu ((HSZ.out).mono ?_);rintro e w' ⟨rfl,rfl⟩;refine hK _ _ ?_)|(refine yq (HRR.out.mono ?_);rintro e W3 ⟨rfl,hr⟩;have HEE:=ae (HE.out _ hr);clear hr;refine hK _ _ ?_)
    clear hK K)))
  all_goals (
   refine wpAnyIn_done (by kernel_rfl) ?_ _;gi_wp2;exact HEE.out)
 case done=>
  intro D S W hI hD hlt hns hf hs;have hj:=hI.1;clear hI hI0 hstay hsb hread;gi_wp2;refine ⟨by simp,.inl ⟨_,_,rfl,run_takeDeferred hD,?_⟩⟩;refine ⟨_,results_none rfl _ _ _,⟨_,rfl⟩,S,?_⟩;exact HS.out _ _ _ _ (fun k=>k=D) hj ((Fr.refl _ W).putObj _ _ (.inl rfl)) (fun k hk=>by subst hk;exact ⟨by have:=HB.out.2.1;have:=hf2.size;omega,hns⟩)
end
end
section
open Go.RowKit Go.Shelf
theorem uR:∀w,(Go.sizeOf 46).run Tryz.prog w= .ok 1 w:=fun w=>by rw [show 46=46 from rfl];exact Tryz.sizeOf46 w
theorem mx {w:World} {b g n:Nat} {ws:List Nat} (h:aV w b g n ws) (c:Nat):Calls Tryz.prog 291 #[.slice (some ⟨g,0,none⟩) ws.length c] w fun e w'=>∃g' c' rest,e= .returned (.slice (some ⟨g',0,none⟩) ws.length c')∧ws.length≤c'∧ak w' g' (bz ws++rest) 46∧w.heap.size≤g'∧Fr (fun _=>False) w w':=by
 obtain ⟨i0,hi,hz0,hz1,hz2⟩:=info_parts gD;have hl:=h.len;have hs:=h.small;have h1:=h.one;refine (Tryz.slices_Clone_f291 i0 (.int .u64 0) 1 8 hi hz0 hz1 hz2 rfl (by decide) uR g 0 ws.length c (bz ws) w (by unfold bz;simp) (by unfold maxLen;omega) (by omega) ?_ ?_).mono ?_
 ·intro j u hj;unfold bz at hj;rw [List.getElem?_map] at hj
  cases hx:ws[j]? with
  |none=>rw [hx] at hj;cases hj
  |some x=>
   rw [hx] at hj
   cases hj
   have:=h.at hx;rwa [show 0+j=j by omega]
 ·intro u hu;unfold bz at hu;obtain ⟨x,_,rfl⟩:=List.mem_map.1 hu;rfl
 ·rintro e w' ⟨v',rfl,⟨hlen,ho⟩,hne,hb⟩;rcases ho with ⟨_,h0⟩|⟨g',cap,cur,rfl,hg,hh,hn,hcap,hcs,htake⟩
  ·omega
  ·refine ⟨g',cap,cur.toList.drop ws.length,rfl,hn,?_,hg,Fr.of_below hb⟩;unfold ak;rw [Nat.mul_one] at htake;have:cur=(bz ws++cur.toList.drop ws.length).toArray:=by
    rw [←htake];simp
   rw [←this];exact hh
theorem tj {w w1 W:World} {b g g' n c':Nat} {ws:List Nat} {rest:List Value} (h:aV w b g n ws) (hc:ws.length≤c') (hb:ak w1 g' (bz ws++rest) 46) (hg:w.heap.size≤g') (hf:Fr (fun _=>False) w w1)
  (hW:W=w1.alloc (.cells #[.slice (some ⟨g',0,none⟩) ws.length c',.int .i64 n] 289)):aV W w1.heap.size g' n ws∧w.heap.size≤w1.heap.size∧w.heap.size≤g'∧Fr (fun _=>False) w W:=by
 subst hW;have:=hb.lt;exact ⟨⟨⟨c',hc,ak.new w1 _ _⟩,⟨rest,hb.alloc _⟩,by omega,h.len,h.lt,h.one,h.small,h.off⟩,hf.size,hg,hf.alloc _⟩
theorem sB {w:World} {b g n:Nat} {ws:List Nat} (h:aV w b g n ws):Calls Tryz.prog 283 #[b] w fun e w'=>∃b' g',e= .returned (.pointer (some ⟨b',0,none⟩))∧aV w' b' g' n ws∧w.heap.size≤b'∧w.heap.size≤g'∧Fr (fun _=>False) w w':=by
 obtain ⟨C,hC,c0⟩:=h.drew.c0;have c1:=h.drew.c1;have HC:=ae (mx h.drew C);have HEND:=ae (fun w1 W g' c' rest hc hb hg hf hW=>tj (w1:=w1) (W:=W) (g':=g') (c':=c') (rest:=rest) h.drew hc hb hg hf hW);have HF:=ae (fun w' (hf:Fr (fun _=>False) w.drew w')=>(h.drew.frame hf (fun h=>h) (fun h=>h)).c1);have HF2:=ae (((Fr.refl (fun _=>False) w).drew));generalize ws.length=k at*;clear h hC
 go_enter Tryz.func283,Tryz.ntmps283
 go_wp2;refine wp_region_any (by kernel_rfl) ?_;change wpAny _ _ _ _ _ _ _ (World.drew _);generalize hwd:w.drew=wd at*;refine wpAny_take (i:=0) (v:= .pointer (some ⟨b,0,none⟩)) rfl (by kernel_rfl) (by kernel_rfl) (by kernel_rfl) (fun _ _ _ h=>h) (Or.inl ⟨by rfl,fun w=>by go_simp⟩) ?_;refine wpAny_take (i:=1) (v:= .pointer (some ⟨b,0,none⟩)) rfl (by kernel_rfl) (by kernel_rfl) (by kernel_rfl) (fun _ _ _ h=>h) (Or.inl ⟨by rfl,fun w=>by go_simp⟩) ?_;refine wpAny_take (i:=2) (v:= .pointer (some ⟨b,0,none⟩)) rfl (by kernel_rfl) (by kernel_rfl) (by kernel_rfl) (fun _ _ _ h=>h) (Or.inl ⟨by rfl,fun w=>by go_simp⟩) ?_;refine wpAny_take (i:=5) (v:= .pointer (some ⟨b,0,none⟩)) rfl (by kernel_rfl) (by kernel_rfl) (by kernel_rfl) (fun _ _ _ h=>h) (Or.inl ⟨by rfl,fun w=>by go_simp⟩) ?_;refine wpAny_take (i:=6) (v:= .pointer (some ⟨b,0,none⟩)) rfl (by kernel_rfl) (by kernel_rfl) (by kernel_rfl) (fun _ _ _ h=>h) (Or.inl ⟨by rfl,fun w=>by go_simp⟩) ?_;refine wpAny_take (i:=7) (v:= .pointer (some ⟨b,1,none⟩)) rfl (by kernel_rfl) (by kernel_rfl) (by kernel_rfl) (fun _ _ _ h=>h) (Or.inl ⟨by rfl,fun w=>by go_simp⟩) ?_;simp only [Act.put];refine wpAny_ready (rs:=[3,8]) (by kernel_rfl) (by simp) ?_;refine AllReady.cons rfl (fun K hK=> ?_) (AllReady.cons rfl (fun K hK=> ?_) AllReady.nil)
 ·go_simp;refine hK _ _ ?_;clear hK K;refine wpAny_ready (rs:=[4,8]) (by kernel_rfl) (by simp) ?_;refine AllReady.cons rfl (fun K hK=> ?_) (AllReady.cons rfl (fun K hK=> ?_) AllReady.nil)
  ·go_simp;refine (HC.out).mono ?_;rintro e w1 ⟨g',c',rest,rfl,hc,hb,hg,hf⟩;have hc1:=HF.out _ hf;have HB:=ae (af hc (af hb (af hg hf)));clear hc hb hg hf HC HF;refine hK _ _ ?_;clear hK K;refine wpAny_ready (rs:=[8]) (by kernel_rfl) (by simp) ?_;refine AllReady.cons rfl (fun K hK=> ?_) AllReady.nil;go_simp;refine hK _ _ ?_;clear hK K;refine wpAny_ready (rs:=[9]) (by kernel_rfl) (by simp) ?_;refine AllReady.cons rfl (fun K hK=> ?_) AllReady.nil;go_simp;refine hK _ _ ?_;clear hK K;refine wpAny_ready (rs:=[10]) (by kernel_rfl) (by simp) ?_;refine AllReady.cons rfl (fun K hK=> ?_) AllReady.nil;go_simp;refine hK _ _ ?_;clear hK K;refine wpAny_ready (rs:=[11]) (by kernel_rfl) (by simp) ?_;refine AllReady.cons rfl (fun K hK=> ?_) AllReady.nil;go_simp;refine hK _ _ ?_;clear hK K;refine wpAny_done (by kernel_rfl) ?_ _;go_wp2;go_ret;obtain ⟨q1,q2,q3,q4⟩:=HEND.out _ _ _ _ _ HB.out.1 HB.out.2.1 HB.out.2.2.1 HB.out.2.2.2 rfl;exact ⟨_,_,rfl,q1,by have:=HF2.out.size;omega,by have:=HF2.out.size;omega,HF2.out.trans q4 (fun _ h=> .inl h)⟩
  ·go_simp;refine hK _ _ ?_;clear hK K;refine wpAny_ready (rs:=[4]) (by kernel_rfl) (by simp) ?_;refine AllReady.cons rfl (fun K hK=> ?_) AllReady.nil;go_simp;refine (HC.out).mono ?_;rintro e w1 ⟨g',c',rest,rfl,hc,hb,hg,hf⟩;have hc1:=HF.out _ hf;have HB:=ae (af hc (af hb (af hg hf)));clear hc hb hg hf HC HF;refine hK _ _ ?_;clear hK K;refine wpAny_ready (rs:=[9]) (by kernel_rfl) (by simp) ?_;refine AllReady.cons rfl (fun K hK=> ?_) AllReady.nil;go_simp;refine hK _ _ ?_;clear hK K;refine wpAny_ready (rs:=[10]) (by kernel_rfl) (by simp) ?_;refine AllReady.cons rfl (fun K hK=> ?_) AllReady.nil;go_simp;refine hK _ _ ?_;clear hK K;refine wpAny_ready (rs:=[11]) (by kernel_rfl) (by simp) ?_;refine AllReady.cons rfl (fun K hK=> ?_) AllReady.nil;go_simp;refine hK _ _ ?_;clear hK K;refine wpAny_done (by kernel_rfl) ?_ _;go_wp2;go_ret;obtain ⟨q1,q2,q3,q4⟩:=HEND.out _ _ _ _ _ HB.out.1 HB.out.2.1 HB.out.2.2.1 HB.out.2.2.2 rfl;exact ⟨_,_,rfl,q1,by have:=HF2.out.size;omega,by have:=HF2.out.size;omega,HF2.out.trans q4 (fun _ h=> .inl h)⟩
 ·go_simp;refine hK _ _ ?_;clear hK K;refine wpAny_ready (rs:=[3]) (by kernel_rfl) (by simp) ?_;refine AllReady.cons rfl (fun K hK=> ?_) AllReady.nil;go_simp;refine hK _ _ ?_;clear hK K;refine wpAny_ready (rs:=[4]) (by kernel_rfl) (by simp) ?_;refine AllReady.cons rfl (fun K hK=> ?_) AllReady.nil;go_simp;refine (HC.out).mono ?_;rintro e w1 ⟨g',c',rest,rfl,hc,hb,hg,hf⟩;have hc1:=HF.out _ hf;have HB:=ae (af hc (af hb (af hg hf)));clear hc hb hg hf HC HF;refine hK _ _ ?_;clear hK K;refine wpAny_ready (rs:=[9]) (by kernel_rfl) (by simp) ?_;refine AllReady.cons rfl (fun K hK=> ?_) AllReady.nil;go_simp;refine hK _ _ ?_;clear hK K;refine wpAny_ready (rs:=[10]) (by kernel_rfl) (by simp) ?_;refine AllReady.cons rfl (fun K hK=> ?_) AllReady.nil;go_simp;refine hK _ _ ?_;clear hK K;refine wpAny_ready (rs:=[11]) (by kernel_rfl) (by simp) ?_;refine AllReady.cons rfl (fun K hK=> ?_) AllReady.nil;go_simp;refine hK _ _ ?_;clear hK K;refine wpAny_done (by kernel_rfl) ?_ _;go_wp2;go_ret;obtain ⟨q1,q2,q3,q4⟩:=HEND.out _ _ _ _ _ HB.out.1 HB.out.2.1 HB.out.2.2.1 HB.out.2.2.2 rfl;exact ⟨_,_,rfl,q1,by have:=HF2.out.size;omega,by have:=HF2.out.size;omega,HF2.out.trans q4 (fun _ h=> .inl h)⟩
end
theorem dD:(Tryz.prog.info? 3).map (fun i=>(i.zero,i.size,i.bytes))=some (some (.int .i64 0),1,8):=by kernel_rfl
def ln (w:World) (T:TypeId) (b:Nat) (v:Value) (xs:List Int) (Rm Hg:Int) (lost:Bool):Prop:=
 ak w b [v,.int .i64 Rm,.int .i64 Hg,.bool lost] T∧w.ownsRow 0 3 1 v xs.length (xs.map (.int .i64))∧v.ownBlock≠some b
theorem bY {w:World} {e:TypeId} {v:Value} {n:Nat} {xs:List Value} (h:w.ownsRow 0 e 1 v n xs):∃p cap,v= .slice p n cap:=by
 rcases h.2 with ⟨rfl,rfl⟩|⟨g,cap,cur,rfl,_⟩
 ·exact ⟨_,_,rfl⟩
 ·exact ⟨_,_,rfl⟩
theorem xJ (Rm:Int) (w:World) (h1:1≤Rm) (h2:Rm≤4096):
  Calls Tryz.prog 137 #[.int .i64 Rm] w fun e w'=>e= .returned (.tuple #[.pointer (some ⟨w.heap.size,0,none⟩),.int .i64 0])∧w'=w.alloc (.cells #[.slice none 0 0,.int .i64 Rm,.int .i64 0,.bool false] 291):=by
 go_enter Tryz.func137,Tryz.ntmps137
 go_wp2;go_ret2;exact ⟨rfl,rfl⟩
theorem se (b:Nat) (v:Value) (xs:List Int) (Rm Hg a:Int) (lost:Bool) (w:World) (h:ln w 291 b v xs Rm Hg lost) (hr:Rm≤xs.length):
  Calls Tryz.prog 249 #[b,.int .i64 a] w fun e w'=>e= .returned (.bool false)∧ln w' 291 b v xs Rm Hg true∧Fr (fun k=>k=b) w w':=by
 obtain ⟨hb,ho,hne⟩:=h;obtain ⟨p,cap,rfl⟩:=bY ho;have c0:=hb.cell 0 rfl;have c1:=hb.cell 1 rfl;have c3:=hb.cell 3 rfl;have f3:=hb.free 3
 go_enter Tryz.func249,Tryz.ntmps249
 go_wp2
 go_quiet (fail)
 go_wp2;go_ret;have hf:Fr (fun k=>k=b) w ((w.drewN nq).setCell ⟨b,3,none⟩ (.bool true)):=((Fr.refl (fun k=>k=b) w).drewN _).setCell _ (.inl rfl) _;exact ⟨rfl,⟨(hb.drewN nq).set 3 _,ao ho hf (fun k hk e=>hne (by rw [hk,e])),hne⟩,hf⟩
theorem sf (b:Nat) (v:Value) (xs:List Int) (Rm Hg a:Int) (lost:Bool) (w:World) (h:ln w 291 b v xs Rm Hg lost) (hr:xs.length<Rm) (hm:Rm≤4096):
  Calls Tryz.prog 249 #[b,.int .i64 a] w fun e w'=>e= .returned (.bool true)∧∃v',ln w' 291 b v' (xs++[a]) Rm (max Hg (xs.length+1)) lost∧
   Fr (fun k=>k=b∨v.ownBlock=some k) w w'∧(∀k,v'.ownBlock=some k→v.ownBlock=some k∨w.heap.size≤k):=by
 obtain ⟨hb,ho,hne⟩:=h;obtain ⟨p,cap,rfl⟩:=bY ho;obtain ⟨i0,hi,hz0,hz1,hz2⟩:=info_parts dD;have c0:=hb.cell 0 rfl;have c1:=hb.cell 1 rfl;have hlt:=hb.lt
 go_enter Tryz.func249,Tryz.ntmps249
 go_wp2
 go_quiet (fail)
 go_wp2_with (at_builtin;refine Hid.out ?_)
 unfold Hid;have hf0:Fr (fun _=>False) w (((w.alloc (.cells #[.int .i64 a] 3))).drewN nq):=((Fr.refl (fun _=>False) w).alloc _).drewN nq;refine bI rfl _ _ 123 rfl 3 i0 (.int .i64 0) 8 Tryz.underlying123 hi hz0 hz1 hz2 rfl (.slice p xs.length cap) xs.length (xs.map (.int .i64)) rfl (ao ho hf0 (fun _ _ h=>h)) ⟨w.heap.size,0,none⟩ _ (.int .i64 a) rfl (((ak.new w [.int .i64 a] 3).drewN nq).cell 0 rfl) rfl (by unfold maxLen;omega) (by omega) ?_;intro g cap' w1 ho1 hf1 hg1;have hb1:=(hb.frame hf0 (fun h=>h)).frame hf1 hne;have d0:=hb1.cell 0 rfl;have d2:=hb1.cell 2 rfl;have e0:=hb1.free 0;have e2:=hb1.free 2;go_wp2;refine iQ 13 (by kernel_rfl) (by kernel_rfl) ?_;simp only [List.take_succ_cons,List.take_zero,List.drop_succ_cons,List.drop_zero]
 repeat still_step
 refine wpStill_nil ?_;go_wp2
 all_goals
  go_ret;have hfr:∀x,Fr (fun k=>k=b∨(Value.slice p xs.length cap).ownBlock=some k) w (((w1.setCell ⟨b,0,none⟩ (.slice (some ⟨g,0,none⟩) (xs.length+1) cap')).setCell ⟨b,2,none⟩ (.int .i64 x)).drew):=fun x=>
   ((((hf0.mono (fun _ h=>h.elim)).trans hf1 (fun i hi=> .inl (.inr hi))).setCell ⟨b,0,none⟩ (.inl (.inl rfl)) _).setCell ⟨b,2,none⟩ (.inl (.inl rfl)) _).drew
  have hgb:g≠b:=by
   rcases hg1 with h|h
   ·intro e;exact hne (by rw [h,e])
   ·intro e;simp at h;omega
  have ho2:∀x,(((w1.setCell ⟨b,0,none⟩ (.slice (some ⟨g,0,none⟩) (xs.length+1) cap')).setCell ⟨b,2,none⟩ (.int .i64 x)).drew).ownsRow 0 3 1 (.slice (some ⟨g,0,none⟩) (xs.length+1) cap') (xs++[a]).length ((xs++[a]).map (.int .i64)):=fun x=>by
   have hf:Fr (fun k=>k=b) w1 (((w1.setCell ⟨b,0,none⟩ (.slice (some ⟨g,0,none⟩) (xs.length+1) cap')).setCell ⟨b,2,none⟩ (.int .i64 x)).drew):=
    (((Fr.refl (fun k=>k=b) w1).setCell ⟨b,0,none⟩ (.inl rfl) _).setCell ⟨b,2,none⟩ (.inl rfl) _).drew
   have:=ao ho1 hf (fun k hk e=>hgb (by simp [Value.ownBlock] at hk;omega))
   simpa using this
  refine ⟨rfl,.slice (some ⟨g,0,none⟩) (xs.length+1) cap',⟨?_,ho2 _,by simp [Value.ownBlock,hgb]⟩,hfr _,?_⟩
  ·have:=((hb1.set 0 (.slice (some ⟨g,0,none⟩) (xs.length+1) cap')).set 2 (.int .i64 (max Hg (xs.length+1)))).drew
   first
    |exact this
    |(rw [show max Hg ((xs.length:Int)+1)=(xs.length:Int)+1 by omega] at this ⊢;exact this)
    |(rw [show max Hg ((xs.length:Int)+1)=Hg by omega] at this ⊢;exact this)
  ·intro k hk;simp only [Value.ownBlock,Option.some.injEq] at hk;subst hk;rcases hg1 with h|h
   ·exact .inl h
   ·exact .inr (by simp at h;omega)
theorem mX (b:Nat) (v:Value) (xs:List Int) (Rm Hg:Int) (lost:Bool) (w:World) (h:ln w 291 b v xs Rm Hg lost):
  Calls Tryz.prog 276 #[b] w fun e w'=>e= .returned (.int .i64 xs.length)∧w=w':=by
 obtain ⟨hb,ho,hne⟩:=h;obtain ⟨p,cap,rfl⟩:=bY ho;have c0:=hb.cell 0 rfl
 go_enter Tryz.func276,Tryz.ntmps276
 go_wp2;go_ret;exact ⟨rfl,rfl⟩
theorem yw (b:Nat) (v:Value) (xs:List Int) (Rm Hg:Int) (lost:Bool) (w:World) (h:ln w 291 b v xs Rm Hg lost) (m:Int) (hm:(xs.length:Int)=m):
  Calls Tryz.prog 276 #[b] w fun e w'=>e= .returned (.int .i64 m)∧w=w':=by
 subst hm;exact mX b v xs Rm Hg lost w h
theorem rI (b:Nat) (v:Value) (xs:List Int) (Rm Hg:Int) (lost:Bool) (w:World) (h:ln w 291 b v xs Rm Hg lost):
  Calls Tryz.prog 205 #[b] w fun e w'=>e= .returned (.bool lost)∧w=w':=by
 obtain ⟨hb,ho,hne⟩:=h;have c3:=hb.cell 3 rfl
 go_enter Tryz.func205,Tryz.ntmps205
 go_wp2;go_ret;exact ⟨rfl,rfl⟩
theorem oI (b:Nat) (v:Value) (xs:List Int) (Rm Hg:Int) (lost:Bool) (w:World) (h:ln w 291 b v xs Rm Hg lost):
  Calls Tryz.prog 206 #[b] w fun e w'=>e= .returned (.tuple #[])∧ln w' 291 b v xs Rm Hg false∧Fr (fun k=>k=b) w w':=by
 obtain ⟨hb,ho,hne⟩:=h;have c3:=hb.cell 3 rfl;have f3:=hb.free 3
 go_enter Tryz.func206,Tryz.ntmps206
 go_wp2;go_end0;have hf:Fr (fun k=>k=b) w (w.setCell ⟨b,3,none⟩ (.bool false)):=(Fr.refl (fun k=>k=b) w).setCell _ (.inl rfl) _;exact ⟨rfl,⟨hb.set 3 _,ao ho hf (fun k hk e=>hne (by rw [hk,e])),hne⟩,hf⟩
theorem uF (b:Nat) (v:Value) (Rm Hg:Int) (lost:Bool) (w:World) (h:ln w 291 b v [] Rm Hg lost):
  Calls Tryz.prog 250 #[b] w fun e w'=>e= .returned (.tuple #[.int .i64 0,.bool false])∧w=w':=by
 go_enter Tryz.func250,Tryz.ntmps250
 go_wp2_with (go_at_call 276;refine (mX b v [] Rm Hg lost _ h).mono ?_;rintro e w' ⟨rfl,rfl⟩)
 go_ret2;exact ⟨rfl,rfl⟩
theorem eE {w:World} {e:TypeId} {g n cap:Nat} {xs:List Value} {x:Value} (h:w.ownsRow 0 e 1 (.slice (some ⟨g,0,none⟩) (n+1) cap) (n+1) (xs++[x])):
  w.ownsRow 0 e 1 (.slice (some ⟨g,0,none⟩) n cap) n xs∧w.cell? ⟨g,n,none⟩=some x:=by
 have hl:=h.1;have hln:xs.length=n:=by simpa using hl
 rcases h.2 with ⟨h,_⟩|⟨g',cap',cur,hv,hb,hg,hnc,hcm,hcs,htake⟩
 ·cases h
 ·cases hv
  simp only [Nat.mul_one] at htake hcs;refine ⟨⟨by simp [hln],.inr ⟨g,cap,cur,rfl,hb,hg,by omega,hcm,by simpa using hcs,?_⟩⟩,?_⟩
  ·have:=congrArg (List.take n) htake;rw [List.take_take,show min n (n+1)=n by omega,List.take_left' hln] at this
   simpa using this
  ·rw [cell_of_row w g n cur e (0,0) hg];have:=congrArg (fun l=>l[n]?) htake;rw [←hln] at this ⊢
   simpa using this
theorem uG (b:Nat) (v:Value) (xs:List Int) (x Rm Hg:Int) (lost:Bool) (w:World) (h:ln w 291 b v (xs++[x]) Rm Hg lost) (hl:xs.length<4096):
  Calls Tryz.prog 250 #[b] w fun e w'=>e= .returned (.tuple #[.int .i64 x,.bool true])∧∃v',ln w' 291 b v' xs Rm Hg lost∧
   Fr (fun k=>k=b) w w'∧v'.ownBlock=v.ownBlock:=by
 have h0:=h;obtain ⟨hb,ho,hne⟩:=h;simp only [List.length_append,List.length_cons,List.length_nil,List.map_append,List.map_cons,List.map_nil,Nat.zero_add] at ho;obtain ⟨g,cap,rfl⟩:∃g cap,v= .slice (some ⟨g,0,none⟩) (xs.length+1) cap:=by
  rcases ho.2 with ⟨_,h⟩|⟨g,cap,cur,rfl,_⟩
  ·omega
  ·exact ⟨_,_,rfl⟩
 have hle:xs.length+1≤cap∧cap≤maxLen:=by
  rcases ho.2 with ⟨h,_⟩|⟨g',cap',cur,hv,_,_,h1,h2,_⟩
  ·cases h
  ·cases hv;exact ⟨h1,h2⟩
 obtain ⟨hc1,hc2⟩:=hle;unfold maxLen at hc2;obtain ⟨ho',cx⟩:=eE ho;have c0:=hb.cell 0 rfl;have f0:=hb.free 0;have hp:0≤(xs.length:Int):=by omega
 have hz:((((xs.length:Int)+1)==0)=false):=by rw [beq_eq_false_iff_ne];omega
 go_enter Tryz.func250,Tryz.ntmps250
 go_wp2_with (go_at_call 276;refine (yw b _ _ Rm Hg lost _ h0 ((xs.length:Int)+1) (by simp)).mono ?_;rintro e w' ⟨rfl,rfl⟩)
 go_ret2;refine ⟨rfl,.slice (some ⟨g,0,none⟩) xs.length cap,⟨hb.set 0 _,?_,hne⟩,(Fr.refl (fun k=>k=b) w).setCell ⟨b,0,none⟩ (.inl rfl) _,rfl⟩;exact ao ho' ((Fr.refl (fun k=>k=b) w).setCell ⟨b,0,none⟩ (.inl rfl) _) (fun k hk e=>hne (by subst e;exact hk))
section
open Go.RowKit Go.Shelf
structure bL (w:World) (x b gb:Nat) (v:Value) (n k i:Nat) (f:Nat→Bool):Prop where
 blk:ak w x [.pointer (some ⟨b,0,none⟩),v,.int .i64 k,.int .i64 ((cnt f 0 (min (i*k) n):Nat):Int)] 355
 vec:∃ws,aV w b gb n ws∧∀j,au ws j=f j
 row:w.ownsRow 0 3 1 v i ((List.range i).map fun j=> .int .i64 ((cnt f 0 (j*k):Nat):Int))
 d1:v.ownBlock≠some x
 d2:v.ownBlock≠some b
 d3:v.ownBlock≠some gb
 d4:x≠b
 d5:x≠gb
def bL.from (lo x b gb:Nat) (v:Value):Prop:=lo≤x∧lo≤b∧lo≤gb∧∀g,v.ownBlock=some g→lo≤g
theorem bL.frame {S:Nat→Prop} {w w':World} {x b gb n k i:Nat} {v:Value} {f:Nat→Bool} (h:bL w x b gb v n k i f) (hf:Fr S w w') (h1:¬S x) (h2:¬S b) (h3:¬S gb) (h4:∀g,v.ownBlock=some g→¬S g):bL w' x b gb v n k i f:=
 ⟨h.blk.frame hf h1,let ⟨ws,q1,q2⟩:=h.vec;⟨ws,q1.frame hf h2 h3,q2⟩,ao h.row hf h4,h.d1,h.d2,h.d3,h.d4,h.d5⟩
theorem uM {w w1 w2:World} {x b gb g cap n k i lo:Nat} {v:Value} {f:Nat→Bool} (h:bL w x b gb v n k i f) (hfrom:bL.from lo x b gb v) (hlo:lo≤w.heap.size) (hik:i*k≤n)
  (hf1:Fr (fun _=>False) w w1) (ho:w2.ownsRow 0 3 1 (.slice (some ⟨g,0,none⟩) (i+1) cap) (i+1) (((List.range i).map fun j=>Value.int .i64 ((cnt f 0 (j*k):Nat):Int))++[.int .i64 ((cnt f 0 (min (i*k) n):Nat):Int)]))
  (hf2:Fr (fun k=>v.ownBlock=some k) w1 w2) (hg:v.ownBlock=some g∨w1.heap.size≤g):
  (∃u,w2.cell? ⟨x,1,none⟩=some u)∧w2.frozen? ⟨x,1,none⟩=false∧∀W,W=w2.setCell ⟨x,1,none⟩ (.slice (some ⟨g,0,none⟩) (i+1) cap)→
   bL.from lo x b gb (.slice (some ⟨g,0,none⟩) (i+1) cap)∧Fr (fun k=>lo≤k) w W∧
   ak W x [.pointer (some ⟨b,0,none⟩),.slice (some ⟨g,0,none⟩) (i+1) cap,.int .i64 k,.int .i64 ((cnt f 0 (min (i*k) n):Nat):Int)] 355∧
   (∃ws,aV W b gb n ws∧∀j,au ws j=f j)∧W.ownsRow 0 3 1 (.slice (some ⟨g,0,none⟩) (i+1) cap) (i+1) ((List.range (i+1)).map fun j=> .int .i64 ((cnt f 0 (j*k):Nat):Int))∧g≠x∧g≠b∧g≠gb:=by
 obtain ⟨l1,l2,l3,l4⟩:=hfrom;have hb1:=h.blk.frame hf1 (fun h=>h);have hb2:=hb1.frame hf2 h.d1;obtain ⟨ws,hv,hbits⟩:=h.vec;have hv2:=(hv.frame hf1 (fun h=>h) (fun h=>h)).frame hf2 h.d2 h.d3;have hsz:=hf1.size;have hx:=h.blk.lt;have hbb:=hv.blt;have hgb:=hv.glt;have hgl:lo≤g:=by
  rcases hg with hg|hg
  ·exact l4 g hg
  ·omega
 have hgx:g≠x∧g≠b∧g≠gb:=by
  rcases hg with hg|hg
  ·exact ⟨fun e=>h.d1 (by rw [hg,e]),fun e=>h.d2 (by rw [hg,e]),fun e=>h.d3 (by rw [hg,e])⟩
  ·exact ⟨by omega,by omega,by omega⟩
 refine ⟨⟨_,hb2.cell 1 rfl⟩,hb2.free 1,?_⟩;rintro W rfl;have hfs:Fr (fun k=>k=x) w2 (w2.setCell ⟨x,1,none⟩ (.slice (some ⟨g,0,none⟩) (i+1) cap)):=(Fr.refl (fun k=>k=x) w2).setCell ⟨x,1,none⟩ (.inl rfl) _;refine ⟨⟨l1,l2,l3,fun g' hg'=>by simp only [Value.ownBlock,Option.some.injEq] at hg';omega⟩,?_,hb2.set 1 _,⟨ws,hv2.frame hfs (fun e=>h.d4 e.symm) (fun e=>h.d5 e.symm),hbits⟩,?_,hgx⟩
 ·exact ((hf1.mono (S':=fun k=>lo≤k) (fun _ h=>h.elim)).trans hf2 (fun k hk=> .inl (l4 k hk))).trans hfs (fun k hk=> .inl (by rw [hk];exact l1))
 ·have:=ao ho hfs (fun k hk e=>by simp only [Value.ownBlock,Option.some.injEq] at hk;omega);rw [List.range_succ,List.map_append];rw [Nat.min_eq_left hik] at this;exact this
theorem pC {w w1 W:World} {b gb n k:Nat} {f:Nat→Bool} {ws:List Nat} (hf:Fr (fun _=>False) w w1) (hv:aV w1 b gb n ws) (hbits:∀j,au ws j=f j) (h1:w.heap.size≤b) (h2:w.heap.size≤gb) (hW:W=w1.alloc (.cells #[.pointer (some ⟨b,0,none⟩),.slice none 0 0,.int .i64 k,.int .i64 0] 355)):
  bL W w1.heap.size b gb (.slice none 0 0) n k 0 f∧bL.from w.heap.size w1.heap.size b gb (.slice none 0 0)∧Fr (fun j=>w.heap.size≤j) w W:=by
 subst hW;have:=hv.blt;have:=hv.glt;refine ⟨⟨?_,⟨ws,hv.frame (S:=fun _=>False) ((Fr.refl _ w1).alloc _) (fun h=>h) (fun h=>h),hbits⟩,World.ownsRow_nil _ _ _ _,by simp [Value.ownBlock],by simp [Value.ownBlock],by simp [Value.ownBlock],by omega,by omega⟩,⟨hf.size,h1,h2,fun g h=>by simp [Value.ownBlock] at h⟩,(hf.alloc _).mono (fun _ h=>h.elim)⟩;rw [Nat.zero_mul,bC f (by omega)];exact ak.new w1 _ _
theorem ir {w w1 W:World} {x b gb g n k i lo F N C:Nat} {cap:Nat} {f:Nat→Bool} (hF:F=i*k) (hFn:F≤n) (hN:N=cnt f 0 F) (hC:C=cnt f F (min (F+k) n)) (hb:ak w x [.pointer (some ⟨b,0,none⟩),.slice (some ⟨g,0,none⟩) (i+1) cap,.int .i64 k,.int .i64 N] 355)
  (hv:∃ws,aV w b gb n ws∧∀j,au ws j=f j) (ho:w.ownsRow 0 3 1 (.slice (some ⟨g,0,none⟩) (i+1) cap) (i+1) ((List.range (i+1)).map fun j=> .int .i64 ((cnt f 0 (j*k):Nat):Int))) (hg:g≠x∧g≠b∧g≠gb) (hxb:x≠b) (hxg:x≠gb) (hlo:lo≤x) (hl:lo≤w.heap.size)
  (hf:Fr (fun _=>False) w w1) (hW:W=w1.setCell ⟨x,3,none⟩ (.int .i64 ((N:Int)+(C:Int)))):bL W x b gb (.slice (some ⟨g,0,none⟩) (i+1) cap) n k (i+1) f∧Fr (fun j=>lo≤j) w W:=by
 subst hW;have hb1:=hb.frame hf (fun h=>h);obtain ⟨ws,q1,q2⟩:=hv;have hfs:Fr (fun k=>k=x) w1 (w1.setCell ⟨x,3,none⟩ (.int .i64 ((N:Int)+(C:Int)))):=(Fr.refl (fun k=>k=x) w1).setCell ⟨x,3,none⟩ (.inl rfl) _;refine ⟨⟨?_,⟨ws,(q1.frame hf (fun h=>h) (fun h=>h)).frame hfs (fun e=>hxb e.symm) (fun e=>hxg e.symm),q2⟩,ao (ao ho hf (fun _ _ h=>h)) hfs (fun k hk e=>by simp only [Value.ownBlock,Option.some.injEq] at hk;exact hg.1 (by omega)),
  by simp only [Value.ownBlock,ne_eq,Option.some.injEq];exact hg.1,by simp only [Value.ownBlock,ne_eq,Option.some.injEq];exact hg.2.1,by simp only [Value.ownBlock,ne_eq,Option.some.injEq];exact hg.2.2,hxb,hxg⟩,(hf.mono (S':=fun j=>lo≤j) (fun _ h=>h.elim)).trans hfs (fun i hi=> .inl (by rw [hi];exact hlo))⟩
 have:=hb1.set 3 (.int .i64 ((N:Int)+(C:Int)));have e:cnt f 0 (min ((i+1)*k) n)=N+C:=by
  rw [hN,hC,Nat.succ_mul,←hF,aw f (Nat.zero_le F) (show F≤min (F+k) n by omega)]
 rw [e];exact this
theorem bW (f:Nat→Bool) (a:Nat):cnt f 0 a≤a:=by have:=be f 0 a;omega
theorem wB {w:World} {b0 g0 n k:Nat} {ws:List Nat} (h:aV w b0 g0 n ws) (hk:aK (k:Int)=true) (hk1:1≤k) (hk2:k≤1024):Calls Tryz.prog 259 #[b0,.int .i64 k] w fun e w'=>∃x b gb v nb,e= .returned (.tuple #[.pointer (some ⟨x,0,none⟩),.int .i64 0])∧bL w' x b gb v n k nb (au ws)∧n≤nb*k∧(nb-1)*k<n∧1≤nb∧bL.from w.heap.size x b gb v∧Fr (fun _=>False) w w':=by
 obtain ⟨i0,hi,hz0,hz1,hz2⟩:=info_parts dD;have HLen:=ae (fun w' (hf:Fr (fun j=>w.heap.size≤j) w w')=>(fq (h.frame hf (by have:=h.blt;omega) (by have:=h.glt;omega))));have HL0:=ae (fq h);have HP:=ae (dR (k:Int) (by omega) true hk);have HC:=ae (sB h);have hsm:=h.small;have h1:=h.one;have hn0:((n:Int)==0)=false:=by rw [beq_eq_false_iff_ne];omega
 have hnn:(n:Int)≤1048576:=by omega
 have hkk:(k:Int)≤1024:=by omega
 have hk0:(1:Int)≤(k:Int):=by omega
 have HCO:=ae (fun w' (hf:Fr (fun j=>w.heap.size≤j) w w') (F:Nat) (hF:F≤n)=>(jX (h.frame hf (by have:=h.blt;omega) (by have:=h.glt;omega)) (F:=F) (T:=min (F+k) n) (by omega) (by omega) ((F:Int)+(k:Int)) (by omega)));have HST:=ae (fun w1 W b gb ws' hf hv hbits h1 h2 hW=>pC (w:=w) (w1:=w1) (W:=W) (b:=b) (gb:=gb) (n:=n) (k:=k) (f:=au ws) (ws:=ws') hf hv hbits h1 h2 hW);have HPO:=ae hk;generalize hfd:au ws=f at*;have HB:=ae (congrFun hfd);have hkd:decide ((1024:Int)<(k:Int))=false:=decide_eq_false (by omega);clear h hk hfd
 go_enter Tryz.func259,Tryz.ntmps259
 go_wp2_with fail
 refine (HL0.out).mono ?_;rintro e w' ⟨rfl,rfl⟩;go_wp2_with fail
 refine (HP.out _).mono ?_;rintro e w' ⟨rfl,rfl⟩;go_wp2_with fail
 refine (HC.out).mono ?_;rintro e w1 ⟨b,gb,rfl,hv,hb1,hg1,hf1⟩;have HST2:=ae (fun W hW=>HST.out w1 W b gb ws hf1 hv HB.out hb1 hg1 hW);clear hv hb1 hg1 hf1 HST HC HP HL0 hn0 hkd;go_wp2
 go_loopw [7] (fun p wr=>∃(F i:Nat) (v:Value),p= .int .i64 F∧F<n+k∧Hid (F=i*k∧(F-k<n)∧(1≤n→(i=0∨(i-1)*k<n))∧bL wr w1.heap.size b gb v n k i f∧bL.from w.heap.size w1.heap.size b gb v∧Fr (fun j=>w.heap.size≤j) w wr)) (fun p _=>(2*1048576-intOf p).toNat)
 case atStart=>exact ⟨0,0,_,rfl,by omega,by rw [Nat.zero_mul],by omega,fun _=> .inl rfl,HST2.out _ rfl⟩
 case round=>
  clear HST2;obtain ⟨F,i,v,rfl,hFn,hr⟩:=hrel;have HLN:=ae (HLen.out wr hr.out.2.2.2.2.2);by_cases hlt:F<n
  ·have hlti:(F:Int)<(n:Int):=by omega
   have HCU:=ae (fun w' hf=>HCO.out w' hf F (by omega));generalize w1.heap.size=x at*;go_wp2_with fail
   refine (HLN.out).mono ?_;rintro e w' ⟨rfl,rfl⟩;obtain ⟨hFk,_,_,hR,hfrom,hfw⟩:=hr.out;obtain ⟨p,cap,rfl⟩:=bY hR.row;have hik:i*k≤n:=by omega
   have hi1:i≤i*k:=Nat.le_mul_of_pos_right i (by omega);have hlo:=hfw.size;have hRd:=hR.frame (S:=fun _=>False) ((Fr.refl _ wr).drew) (fun h=>h) (fun h=>h) (fun h=>h) (fun _ _ h=>h);have hfwd:Fr (fun j=>w.heap.size≤j) w wr.drew:=hfw.drew;obtain ⟨N,hN⟩:∃N,cnt f 0 (min (i*k) n)=N:=⟨_,rfl⟩;have hNs:N≤1048576:=by have:=bW f (min (i*k) n);omega
   have hNi:(N:Int)≤1048576:=by omega
   have c1:wr.drew.cell? ⟨x,1,none⟩=some (.slice p i cap):=hRd.blk.cell 1 rfl;have c3:wr.drew.cell? ⟨x,3,none⟩=some (.int .i64 N):=by rw [←hN];exact hRd.blk.cell 3 rfl
   have e1:∀o,(wr.alloc o).drew.cell? ⟨x,1,none⟩=some (.slice p i cap):=fun o=>(hR.blk.alloc o).drew.cell 1 rfl
   have e3:∀o,(wr.alloc o).drew.cell? ⟨x,3,none⟩=some (.int .i64 N):=fun o=>by rw [←hN];exact (hR.blk.alloc o).drew.cell 3 rfl
   have hfa:Fr (fun _=>False) wr.drew (wr.drew.alloc (.cells #[.int .i64 N] 3)):=(Fr.refl _ _).alloc _;have hown:=ao hRd.row hfa (fun _ _ h=>h);have hnew:(wr.drew.alloc (.cells #[.int .i64 N] 3)).cell? ⟨wr.heap.size,0,none⟩=some (.int .i64 N):=(ak.new wr.drew [.int .i64 N] 3).cell 0 rfl;have HAPP:=ae (fun w2 g cap' ho hf2 hg=>uM (w2:=w2) (g:=g) (cap:=cap') hRd hfrom hfwd.size hik hfa ho hf2 hg);have HFW:=ae hfwd;have HFR:=ae (af hfrom (af hR.d4 hR.d5));have HFK:=ae hFk;rw [hN] at HAPP;have HN:=ae hN;have hmax:i+1≤maxLen:=by unfold maxLen;omega
   have hbts:(i+1)*8≤140737488355328:=by omega
   clear hr hR hfrom hfw hRd hfwd hfa hN hFk;go_wp2;refine wp_region_any (by kernel_rfl) ?_;change wpAny _ _ _ _ _ _ _ (World.drew _);refine wpAny_take (i:=0) (v:= .pointer (some ⟨x,0,none⟩)) rfl (by kernel_rfl) (by kernel_rfl) (by kernel_rfl) (fun _ _ _ h=>h) (Or.inl ⟨by rfl,fun w=>by go_simp⟩) ?_;refine wpAny_take (i:=1) (v:= .pointer (some ⟨x,0,none⟩)) rfl (by kernel_rfl) (by kernel_rfl) (by kernel_rfl) (fun _ _ _ h=>h) (Or.inl ⟨by rfl,fun w=>by go_simp⟩) ?_;refine wpAny_take (i:=2) (v:= .pointer (some ⟨x,0,none⟩)) rfl (by kernel_rfl) (by kernel_rfl) (by kernel_rfl) (fun _ _ _ h=>h) (Or.inl ⟨by rfl,fun w=>by go_simp⟩) ?_;refine wpAny_take (i:=3) (v:= .pointer (some ⟨x,1,none⟩)) rfl (by kernel_rfl) (by kernel_rfl) (by kernel_rfl) (fun _ _ _ h=>h) (Or.inl ⟨by rfl,fun w=>by go_simp⟩) ?_;refine wpAny_take (i:=5) (v:= .pointer (some ⟨x,0,none⟩)) rfl (by kernel_rfl) (by kernel_rfl) (by kernel_rfl) (fun _ _ _ h=>h) (Or.inl ⟨by rfl,fun w=>by go_simp⟩) ?_;refine wpAny_take (i:=6) (v:= .pointer (some ⟨x,0,none⟩)) rfl (by kernel_rfl) (by kernel_rfl) (by kernel_rfl) (fun _ _ _ h=>h) (Or.inl ⟨by rfl,fun w=>by go_simp⟩) ?_;refine wpAny_take (i:=7) (v:= .pointer (some ⟨x,3,none⟩)) rfl (by kernel_rfl) (by kernel_rfl) (by kernel_rfl) (fun _ _ _ h=>h) (Or.inl ⟨by rfl,fun w=>by go_simp⟩) ?_;simp only [Act.put];refine wpAny_ready (rs:=[4,8]) (by kernel_rfl) (by simp) ?_;refine AllReady.cons rfl (fun K hK=> ?_) (AllReady.cons rfl (fun K hK=> ?_) AllReady.nil)
   ·go_simp;refine hK _ _ ?_;clear hK K;refine wpAny_ready (rs:=[8]) (by kernel_rfl) (by simp) ?_;refine AllReady.cons rfl (fun K hK=> ?_) AllReady.nil;go_simp;refine hK _ _ ?_;clear hK K;refine wpAny_ready (rs:=[9]) (by kernel_rfl) (by simp) ?_;refine AllReady.cons rfl (fun K hK=> ?_) AllReady.nil;go_simp;refine hK _ _ ?_;clear hK K;refine wpAny_ready (rs:=[10]) (by kernel_rfl) (by simp) ?_;refine AllReady.cons rfl (fun K hK=> ?_) AllReady.nil;refine dj rfl _ _ 123 rfl 3 i0 (.int .i64 0) 8 Tryz.underlying123 hi hz0 hz1 hz2 rfl (.slice p i cap) i _ rfl hown ⟨wr.heap.size,0,none⟩ _ (.int .i64 N) rfl hnew rfl hmax hbts ?_;intro g cap' w2 ho2 hf2 hg2;obtain ⟨⟨u,hu⟩,hfz,hA⟩:=HAPP.out w2 g cap' ho2 hf2 hg2;have HA:=ae hA;clear ho2 hf2 hg2 hA HAPP e1 e3 c1 c3 hown hnew;refine hK _ _ ?_;clear hK K;refine wpAny_ready (rs:=[11]) (by kernel_rfl) (by simp) ?_;refine AllReady.cons rfl (fun K hK=> ?_) AllReady.nil;go_simp;refine hK _ _ ?_;clear hK K;refine wpAny_ready (rs:=[12]) (by kernel_rfl) (by simp) ?_;refine AllReady.cons rfl (fun K hK=> ?_) AllReady.nil;go_simp;refine hK _ _ ?_;clear hK K;refine wpAny_ready (rs:=[13]) (by kernel_rfl) (by simp) ?_;refine AllReady.cons rfl (fun K hK=> ?_) AllReady.nil;go_simp;refine hK _ _ ?_;clear hK K;refine wpAny_done (by kernel_rfl) ?_ _;go_wp2;obtain ⟨W3,hW3⟩:∃W3,w2.setCell ⟨x,1,none⟩ (.slice (some ⟨g,0,none⟩) (i+1) cap')=W3:=⟨_,rfl⟩;rw [hW3];obtain ⟨a1,a2,a3,a4,a5,a6⟩:=HA.out W3 hW3.symm;clear hu hfz hW3 HA;have hl3:=(HFW.out.trans a2 (fun _ h=> .inl h)).size;have HCL:=ae (fun w' (hf:Fr (fun _=>False) W3.drew w')=>(af ((a3.drew.frame hf (fun h=>h)).cell 3 rfl) ((a3.drew.frame hf (fun h=>h)).free 3)));have HCC:=ae (fun w' (hf:Fr (fun _=>False) W3.drew w')=>HCU.out w' ((HFW.out.trans (a2.drew) (fun _ h=> .inl h)).trans hf (fun _ h=>h.elim)));obtain ⟨C,hC⟩:∃C,cnt f F (min (F+k) n)=C:=⟨_,rfl⟩;have hCs:C≤1048576:=by have:=be f F (min (F+k) n);omega
    have hCi:(C:Int)≤1048576:=by omega
    have HON:=ae (fun w4 W hf hW=>ir (w:=W3) (w1:=w4) (W:=W) (lo:=w.heap.size) (N:=N) (C:=C) (F:=F) (n:=n) (f:=f) HFK.out (by omega) (by rw [←HN.out,←HFK.out];congr 1;omega) hC.symm a3 a4 a5 a6 HFR.out.2.1 HFR.out.2.2 HFR.out.1.1 hl3 (((Fr.refl (fun _=>False) W3).drew).trans hf (fun _ h=> .inl h)) hW);have HW3:=ae (af (HFW.out.trans a2 (fun _ h=> .inl h)) a1);rw [hC] at HCC;clear a1 a2 a3 a4 a5 a6 hC;refine aB (fun w'=>Fr (fun _=>False) W3.drew w') 10 (by kernel_rfl) (by kernel_rfl) (Fr.refl _ _) ?_;simp only [List.take_succ_cons,List.take_zero,List.drop_succ_cons,List.drop_zero];refine ag (.pointer (some ⟨x,0,none⟩)) rfl (fun w hw=>by go_simp) ?_;simp only [Act.put,aa,ab,ac];refine ag (.pointer (some ⟨x,0,none⟩)) rfl (fun w hw=>by go_simp) ?_;simp only [Act.put,aa,ab,ac];refine ag (.pointer (some ⟨x,3,none⟩)) rfl (fun w hw=>by go_simp) ?_;simp only [Act.put,aa,ab,ac];refine ag (.int .i64 N) rfl (fun w hw=>by have d:=(HCL.out _ hw).1;go_simp) ?_;simp only [Act.put,aa,ab,ac];refine ag (.pointer (some ⟨b0,0,none⟩)) rfl (fun w hw=>by go_simp) ?_;simp only [Act.put,aa,ab,ac];refine ag (.int .i64 F) rfl (fun w hw=>by go_simp) ?_;simp only [Act.put,aa,ab,ac];refine ag (.int .i64 F) rfl (fun w hw=>by go_simp) ?_;simp only [Act.put,aa,ab,ac];refine ag (.int .i64 k) rfl (fun w hw=>by go_simp) ?_;simp only [Act.put,aa,ab,ac];refine ag (.int .i64 ((F:Int)+(k:Int))) rfl (fun w hw=>by go_simp;rw [IntKind.wrap_i64];omega) ?_;simp only [Act.put,aa,ab,ac];refine aA (.int .i64 C) 284 #[.pointer (some ⟨b0,0,none⟩),.int .i64 F,.int .i64 ((F:Int)+(k:Int))] rfl (fun w=>by go_simp) (fun w hw=>(HCC.out w hw).mono fun e w' h=>⟨h.1,hw.trans h.2 (fun _ h=>h.elim)⟩) ?_;simp only [Act.put,aa,ab,ac];refine wpQuiet_nil ?_;intro w4 hw4;obtain ⟨d1,d2⟩:=HCL.out w4 hw4;have HON4:=ae (fun W hW=>HON.out w4 W hw4 hW);clear hw4 HCL HCC HON;go_wp2;go_roundw
    case rel=>exact ⟨F+k,i+1,_,by go_num,by omega,⟨by rw [HFK.out,Nat.succ_mul],by omega,fun _=> .inr (by rw [Nat.add_sub_cancel,←HFK.out];exact hlt),(HON4.out _ rfl).1,HW3.out.2,HW3.out.1.trans (HON4.out _ rfl).2 (fun _ h=> .inl h)⟩⟩
    case measure=>simp [intOf];omega
   ·go_simp;refine hK _ _ ?_;clear hK K;refine wpAny_ready (rs:=[4,9]) (by kernel_rfl) (by simp) ?_;refine AllReady.cons rfl (fun K hK=> ?_) (AllReady.cons rfl (fun K hK=> ?_) AllReady.nil)
    ·go_simp;refine hK _ _ ?_;clear hK K;refine wpAny_ready (rs:=[9]) (by kernel_rfl) (by simp) ?_;refine AllReady.cons rfl (fun K hK=> ?_) AllReady.nil;go_simp;refine hK _ _ ?_;clear hK K;refine wpAny_ready (rs:=[10]) (by kernel_rfl) (by simp) ?_;refine AllReady.cons rfl (fun K hK=> ?_) AllReady.nil;refine dj rfl _ _ 123 rfl 3 i0 (.int .i64 0) 8 Tryz.underlying123 hi hz0 hz1 hz2 rfl (.slice p i cap) i _ rfl hown ⟨wr.heap.size,0,none⟩ _ (.int .i64 N) rfl hnew rfl hmax hbts ?_;intro g cap' w2 ho2 hf2 hg2;obtain ⟨⟨u,hu⟩,hfz,hA⟩:=HAPP.out w2 g cap' ho2 hf2 hg2;have HA:=ae hA;clear ho2 hf2 hg2 hA HAPP e1 e3 c1 c3 hown hnew;refine hK _ _ ?_;clear hK K;refine wpAny_ready (rs:=[11]) (by kernel_rfl) (by simp) ?_;refine AllReady.cons rfl (fun K hK=> ?_) AllReady.nil;go_simp;refine hK _ _ ?_;clear hK K;refine wpAny_ready (rs:=[12]) (by kernel_rfl) (by simp) ?_;refine AllReady.cons rfl (fun K hK=> ?_) AllReady.nil;go_simp;refine hK _ _ ?_;clear hK K;refine wpAny_ready (rs:=[13]) (by kernel_rfl) (by simp) ?_;refine AllReady.cons rfl (fun K hK=> ?_) AllReady.nil;go_simp;refine hK _ _ ?_;clear hK K;refine wpAny_done (by kernel_rfl) ?_ _;go_wp2;obtain ⟨W3,hW3⟩:∃W3,w2.setCell ⟨x,1,none⟩ (.slice (some ⟨g,0,none⟩) (i+1) cap')=W3:=⟨_,rfl⟩;rw [hW3];obtain ⟨a1,a2,a3,a4,a5,a6⟩:=HA.out W3 hW3.symm;clear hu hfz hW3 HA;have hl3:=(HFW.out.trans a2 (fun _ h=> .inl h)).size;have HCL:=ae (fun w' (hf:Fr (fun _=>False) W3.drew w')=>(af ((a3.drew.frame hf (fun h=>h)).cell 3 rfl) ((a3.drew.frame hf (fun h=>h)).free 3)));have HCC:=ae (fun w' (hf:Fr (fun _=>False) W3.drew w')=>HCU.out w' ((HFW.out.trans (a2.drew) (fun _ h=> .inl h)).trans hf (fun _ h=>h.elim)));obtain ⟨C,hC⟩:∃C,cnt f F (min (F+k) n)=C:=⟨_,rfl⟩;have hCs:C≤1048576:=by have:=be f F (min (F+k) n);omega
     have hCi:(C:Int)≤1048576:=by omega
     have HON:=ae (fun w4 W hf hW=>ir (w:=W3) (w1:=w4) (W:=W) (lo:=w.heap.size) (N:=N) (C:=C) (F:=F) (n:=n) (f:=f) HFK.out (by omega) (by rw [←HN.out,←HFK.out];congr 1;omega) hC.symm a3 a4 a5 a6 HFR.out.2.1 HFR.out.2.2 HFR.out.1.1 hl3 (((Fr.refl (fun _=>False) W3).drew).trans hf (fun _ h=> .inl h)) hW);have HW3:=ae (af (HFW.out.trans a2 (fun _ h=> .inl h)) a1);rw [hC] at HCC;clear a1 a2 a3 a4 a5 a6 hC;refine aB (fun w'=>Fr (fun _=>False) W3.drew w') 10 (by kernel_rfl) (by kernel_rfl) (Fr.refl _ _) ?_;simp only [List.take_succ_cons,List.take_zero,List.drop_succ_cons,List.drop_zero];refine ag (.pointer (some ⟨x,0,none⟩)) rfl (fun w hw=>by go_simp) ?_;simp only [Act.put,aa,ab,ac];refine ag (.pointer (some ⟨x,0,none⟩)) rfl (fun w hw=>by go_simp) ?_;simp only [Act.put,aa,ab,ac];refine ag (.pointer (some ⟨x,3,none⟩)) rfl (fun w hw=>by go_simp) ?_;simp only [Act.put,aa,ab,ac];refine ag (.int .i64 N) rfl (fun w hw=>by have d:=(HCL.out _ hw).1;go_simp) ?_;simp only [Act.put,aa,ab,ac];refine ag (.pointer (some ⟨b0,0,none⟩)) rfl (fun w hw=>by go_simp) ?_;simp only [Act.put,aa,ab,ac];refine ag (.int .i64 F) rfl (fun w hw=>by go_simp) ?_;simp only [Act.put,aa,ab,ac];refine ag (.int .i64 F) rfl (fun w hw=>by go_simp) ?_;simp only [Act.put,aa,ab,ac];refine ag (.int .i64 k) rfl (fun w hw=>by go_simp) ?_;simp only [Act.put,aa,ab,ac];refine ag (.int .i64 ((F:Int)+(k:Int))) rfl (fun w hw=>by go_simp;rw [IntKind.wrap_i64];omega) ?_;simp only [Act.put,aa,ab,ac];refine aA (.int .i64 C) 284 #[.pointer (some ⟨b0,0,none⟩),.int .i64 F,.int .i64 ((F:Int)+(k:Int))] rfl (fun w=>by go_simp) (fun w hw=>(HCC.out w hw).mono fun e w' h=>⟨h.1,hw.trans h.2 (fun _ h=>h.elim)⟩) ?_;simp only [Act.put,aa,ab,ac];refine wpQuiet_nil ?_;intro w4 hw4;obtain ⟨d1,d2⟩:=HCL.out w4 hw4;have HON4:=ae (fun W hW=>HON.out w4 W hw4 hW);clear hw4 HCL HCC HON;go_wp2;go_roundw
     case rel=>exact ⟨F+k,i+1,_,by go_num,by omega,⟨by rw [HFK.out,Nat.succ_mul],by omega,fun _=> .inr (by rw [Nat.add_sub_cancel,←HFK.out];exact hlt),(HON4.out _ rfl).1,HW3.out.2,HW3.out.1.trans (HON4.out _ rfl).2 (fun _ h=> .inl h)⟩⟩
     case measure=>simp [intOf];omega
    ·go_simp;refine hK _ _ ?_;clear hK K;refine wpAny_ready (rs:=[4]) (by kernel_rfl) (by simp) ?_;refine AllReady.cons rfl (fun K hK=> ?_) AllReady.nil;go_simp;refine hK _ _ ?_;clear hK K;refine wpAny_ready (rs:=[10]) (by kernel_rfl) (by simp) ?_;refine AllReady.cons rfl (fun K hK=> ?_) AllReady.nil;refine dj rfl _ _ 123 rfl 3 i0 (.int .i64 0) 8 Tryz.underlying123 hi hz0 hz1 hz2 rfl (.slice p i cap) i _ rfl hown ⟨wr.heap.size,0,none⟩ _ (.int .i64 N) rfl hnew rfl hmax hbts ?_;intro g cap' w2 ho2 hf2 hg2;obtain ⟨⟨u,hu⟩,hfz,hA⟩:=HAPP.out w2 g cap' ho2 hf2 hg2;have HA:=ae hA;clear ho2 hf2 hg2 hA HAPP e1 e3 c1 c3 hown hnew;refine hK _ _ ?_;clear hK K;refine wpAny_ready (rs:=[11]) (by kernel_rfl) (by simp) ?_;refine AllReady.cons rfl (fun K hK=> ?_) AllReady.nil;go_simp;refine hK _ _ ?_;clear hK K;refine wpAny_ready (rs:=[12]) (by kernel_rfl) (by simp) ?_;refine AllReady.cons rfl (fun K hK=> ?_) AllReady.nil;go_simp;refine hK _ _ ?_;clear hK K;refine wpAny_ready (rs:=[13]) (by kernel_rfl) (by simp) ?_;refine AllReady.cons rfl (fun K hK=> ?_) AllReady.nil;go_simp;refine hK _ _ ?_;clear hK K;refine wpAny_done (by kernel_rfl) ?_ _;go_wp2;obtain ⟨W3,hW3⟩:∃W3,w2.setCell ⟨x,1,none⟩ (.slice (some ⟨g,0,none⟩) (i+1) cap')=W3:=⟨_,rfl⟩;rw [hW3];obtain ⟨a1,a2,a3,a4,a5,a6⟩:=HA.out W3 hW3.symm;clear hu hfz hW3 HA;have hl3:=(HFW.out.trans a2 (fun _ h=> .inl h)).size;have HCL:=ae (fun w' (hf:Fr (fun _=>False) W3.drew w')=>(af ((a3.drew.frame hf (fun h=>h)).cell 3 rfl) ((a3.drew.frame hf (fun h=>h)).free 3)));have HCC:=ae (fun w' (hf:Fr (fun _=>False) W3.drew w')=>HCU.out w' ((HFW.out.trans (a2.drew) (fun _ h=> .inl h)).trans hf (fun _ h=>h.elim)));obtain ⟨C,hC⟩:∃C,cnt f F (min (F+k) n)=C:=⟨_,rfl⟩;have hCs:C≤1048576:=by have:=be f F (min (F+k) n);omega
     have hCi:(C:Int)≤1048576:=by omega
     have HON:=ae (fun w4 W hf hW=>ir (w:=W3) (w1:=w4) (W:=W) (lo:=w.heap.size) (N:=N) (C:=C) (F:=F) (n:=n) (f:=f) HFK.out (by omega) (by rw [←HN.out,←HFK.out];congr 1;omega) hC.symm a3 a4 a5 a6 HFR.out.2.1 HFR.out.2.2 HFR.out.1.1 hl3 (((Fr.refl (fun _=>False) W3).drew).trans hf (fun _ h=> .inl h)) hW);have HW3:=ae (af (HFW.out.trans a2 (fun _ h=> .inl h)) a1);rw [hC] at HCC;clear a1 a2 a3 a4 a5 a6 hC;refine aB (fun w'=>Fr (fun _=>False) W3.drew w') 10 (by kernel_rfl) (by kernel_rfl) (Fr.refl _ _) ?_;simp only [List.take_succ_cons,List.take_zero,List.drop_succ_cons,List.drop_zero];refine ag (.pointer (some ⟨x,0,none⟩)) rfl (fun w hw=>by go_simp) ?_;simp only [Act.put,aa,ab,ac];refine ag (.pointer (some ⟨x,0,none⟩)) rfl (fun w hw=>by go_simp) ?_;simp only [Act.put,aa,ab,ac];refine ag (.pointer (some ⟨x,3,none⟩)) rfl (fun w hw=>by go_simp) ?_;simp only [Act.put,aa,ab,ac];refine ag (.int .i64 N) rfl (fun w hw=>by have d:=(HCL.out _ hw).1;go_simp) ?_;simp only [Act.put,aa,ab,ac];refine ag (.pointer (some ⟨b0,0,none⟩)) rfl (fun w hw=>by go_simp) ?_;simp only [Act.put,aa,ab,ac];refine ag (.int .i64 F) rfl (fun w hw=>by go_simp) ?_;simp only [Act.put,aa,ab,ac];refine ag (.int .i64 F) rfl (fun w hw=>by go_simp) ?_;simp only [Act.put,aa,ab,ac];refine ag (.int .i64 k) rfl (fun w hw=>by go_simp) ?_;simp only [Act.put,aa,ab,ac];refine ag (.int .i64 ((F:Int)+(k:Int))) rfl (fun w hw=>by go_simp;rw [IntKind.wrap_i64];omega) ?_;simp only [Act.put,aa,ab,ac];refine aA (.int .i64 C) 284 #[.pointer (some ⟨b0,0,none⟩),.int .i64 F,.int .i64 ((F:Int)+(k:Int))] rfl (fun w=>by go_simp) (fun w hw=>(HCC.out w hw).mono fun e w' h=>⟨h.1,hw.trans h.2 (fun _ h=>h.elim)⟩) ?_;simp only [Act.put,aa,ab,ac];refine wpQuiet_nil ?_;intro w4 hw4;obtain ⟨d1,d2⟩:=HCL.out w4 hw4;have HON4:=ae (fun W hW=>HON.out w4 W hw4 hW);clear hw4 HCL HCC HON;go_wp2;go_roundw
     case rel=>exact ⟨F+k,i+1,_,by go_num,by omega,⟨by rw [HFK.out,Nat.succ_mul],by omega,fun _=> .inr (by rw [Nat.add_sub_cancel,←HFK.out];exact hlt),(HON4.out _ rfl).1,HW3.out.2,HW3.out.1.trans (HON4.out _ rfl).2 (fun _ h=> .inl h)⟩⟩
     case measure=>simp [intOf];omega
  ·have hlti:¬(F:Int)<(n:Int):=by omega
   have HR:=ae hr.out;generalize w1.heap.size=x at*;clear hr;go_wp2_with fail
   refine (HLN.out).mono ?_;rintro e w' ⟨rfl,rfl⟩;go_wp2;go_ret2;obtain ⟨q1,q2,q3,q4,q5,q6⟩:=HR.out;have hi0:i≠0:=fun e=>by rw [e,Nat.zero_mul] at q1;omega
   exact ⟨x,b,gb,v,i,rfl,q4,by omega,by rcases q3 h1 with h|h;exact absurd h hi0;exact h,by omega,q5,q6.mono (fun _ h=> .inr h)⟩
end
section
open Go.RowKit Go.Shelf
theorem bL.at {w:World} {x b gb n k i:Nat} {v:Value} {f:Nat→Bool} (h:bL w x b gb v n k i f) {j:Nat} (hj:j<i):∃g cap,v= .slice (some ⟨g,0,none⟩) i cap∧w.cell? ⟨g,j,none⟩=some (.int .i64 ((cnt f 0 (j*k):Nat):Int)):=by
 rcases h.row.2 with ⟨_,h0⟩|⟨g,cap,cur,hv,_⟩
 ·omega
 ·refine ⟨g,cap,hv,?_⟩;subst hv;have:=h.row.cells (g:=g) rfl j (.int .i64 ((cnt f 0 (j*k):Nat):Int)) (by rw [List.getElem?_map,List.getElem?_range hj];rfl);rwa [show ((⟨g,0,none⟩:Addr).add j)=⟨g,j,none⟩ by unfold Addr.add;split<;>simp_all] at this
theorem si {w:World} {x b gb n k i:Nat} {v:Value} {f:Nat→Bool} (h:bL w x b gb v n k i f) (hn:n≤i*k):Calls Tryz.prog 261 #[x] w fun e w'=>e= .returned (.int .i64 ((cnt f 0 n:Nat):Int))∧w=w':=by
 have c3:=h.blk.cell 3 rfl;rw [Nat.min_eq_right hn] at c3;generalize cnt f 0 n=N at*;clear h
 go_enter Tryz.func261,Tryz.ntmps261
 go_wp2;go_ret;exact ⟨rfl,rfl⟩
theorem bV (i k:Nat):(i:Int).tdiv (k:Int)=((i/k:Nat):Int):=rfl
theorem nB {w:World} {x b gb n k nb:Nat} {v:Value} {f:Nat→Bool} (h:bL w x b gb v n k nb f) (hn:n≤nb*k) (hk:1≤k) (hk2:k≤1024) (i:Nat) (hi:i≤1048576):Calls Tryz.prog 267 #[x,.int .i64 i] w fun e w'=>e= .returned (.int .i64 ((cnt f 0 (min i n):Nat):Int))∧Fr (fun _=>False) w w':=by
 obtain ⟨ws,hv,hbits⟩:=h.vec;have hbf:au ws=f:=funext hbits;have hsm:=hv.small;have c0:=h.blk.cell 0 rfl;have c2:=h.blk.cell 2 rfl;have c3:=h.blk.cell 3 rfl;rw [Nat.min_eq_right hn] at c3;have HL:=ae (fq hv);have HF0:=ae (Fr.refl (fun _=>False) w);have hii:(i:Int)≤1048576:=by omega
 by_cases h0:i=0
 ·subst h0;rw [Nat.min_eq_left (Nat.zero_le n),bC f (Nat.le_refl 0)];clear h hv hbits hbf c0 c2 c3
  go_enter Tryz.func267,Tryz.ntmps267
  go_wp2;go_ret;exact ⟨rfl,HF0.out⟩
 ·have h1:(1:Int)≤(i:Int):=by omega
  by_cases hin:n≤i
  ·have hini:(n:Int)≤(i:Int):=by omega
   rw [Nat.min_eq_right hin];generalize cnt f 0 n=N at*;clear h hv hbits hbf c2
   go_enter Tryz.func267,Tryz.ntmps267
   go_wp2_with fail
   refine (HL.out).mono ?_;rintro e w' ⟨rfl,rfl⟩;go_wp2;go_ret;exact ⟨rfl,HF0.out⟩
  ·have hini:(i:Int)<(n:Int):=by omega
   rw [Nat.min_eq_left (by omega)];obtain ⟨B,hB⟩:∃B,i/k=B:=⟨_,rfl⟩;have hBk:B*k≤i:=by rw [←hB];exact Nat.div_mul_le_self i k
   have hBn:B<nb:=by
    rw [←hB];exact (Nat.div_lt_iff_lt_mul (by omega)).2 (by omega)
   have hB1:B≤B*k:=Nat.le_mul_of_pos_right B (by omega);obtain ⟨g,cap,rfl,hc⟩:=h.at hBn;have c1:=h.blk.cell 1 rfl;have hfd:Fr (fun _=>False) w w.drew:=(Fr.refl _ w).drew;have HCL:=ae (fun w' (hf:Fr (fun _=>False) w.drew w')=>(af (((h.blk.frame hfd (fun h=>h)).frame hf (fun h=>h)).cell 0 rfl) (af (((h.blk.frame hfd (fun h=>h)).frame hf (fun h=>h)).cell 1 rfl) (af (((h.blk.frame hfd (fun h=>h)).frame hf (fun h=>h)).cell 2 rfl)
    (((h.frame hfd (fun h=>h) (fun h=>h) (fun h=>h) (fun _ _ h=>h)).frame hf (fun h=>h) (fun h=>h) (fun h=>h) (fun _ _ h=>h)).at hBn)))))
   have HCC:=ae (fun w' (hf:Fr (fun _=>False) w.drew w')=>jX ((hv.frame hfd (fun h=>h) (fun h=>h)).frame hf (fun h=>h) (fun h=>h)) (F:=B*k) (T:=i) hBk (by omega) (i:Int) (by omega));have hcell:∀w',Fr (fun _=>False) w.drew w'→w'.cell? ⟨g,B,none⟩=some (.int .i64 ((cnt f 0 (B*k):Nat):Int)):=fun w' hf=>by
    obtain ⟨g',cap',h1,h2⟩:=(HCL.out w' hf).2.2.2
    cases h1;exact h2
   have HCE:=ae hcell;rw [hbf] at HCC;rw [aw f (Nat.zero_le (B*k)) hBk];have hs1:=bW f (B*k);have hs2:=be f (B*k) i;generalize cnt f 0 (B*k)=N at*;generalize cnt f (B*k) i=C at*;have q1:(i:Int).tdiv (k:Int)=(B:Int):=by rw [bV,hB]
   have q2:((k:Int)==0)=false:=by rw [beq_eq_false_iff_ne];omega
   have q3:(B:Int)*(k:Int)=((B*k:Nat):Int):=by simp
   generalize B*k=M at*;have b1:(B:Int)<(nb:Int):=by omega
   have b2:(N:Int)≤1048576:=by omega
   have b3:(C:Int)≤1048576:=by omega
   have b4:(M:Int)≤1048576:=by omega
   have b5:(k:Int)≤1024:=by omega
   have b6:(B:Int)≤1048576:=by omega
   have b7:(1:Int)≤(k:Int):=by omega
   clear h hv hbits hbf c3 c1 hfd hc hB hBk hBn hcell hs1 hs2 hn hB1
   go_enter Tryz.func267,Tryz.ntmps267
   go_wp2_with fail
   refine (HL.out).mono ?_;rintro e w' ⟨rfl,rfl⟩;go_wp2;refine ar (fun w'=>Fr (fun _=>False) w.drew w') (by kernel_rfl) (by kernel_rfl) (Fr.refl _ _) ?_;refine ag (.pointer (some ⟨x,0,none⟩)) rfl (fun w hw=>by go_simp) ?_;simp only [Act.put,aa,ab,ac];refine ag (.pointer (some ⟨x,0,none⟩)) rfl (fun w hw=>by go_simp) ?_;simp only [Act.put,aa,ab,ac];refine ag (.pointer (some ⟨x,1,none⟩)) rfl (fun w hw=>by go_simp) ?_;simp only [Act.put,aa,ab,ac];refine ag (.slice (some ⟨g,0,none⟩) nb cap) rfl (fun w hw=>by have d:=(HCL.out _ hw).2.1;go_simp) ?_;simp only [Act.put,aa,ab,ac];refine ag (.int .i64 B) rfl (fun w hw=>by go_simp) ?_;simp only [Act.put,aa,ab,ac];refine ag (.pointer (some ⟨g,B,none⟩)) rfl (fun w hw=>by go_simp) ?_;simp only [Act.put,aa,ab,ac];refine ag (.int .i64 N) rfl (fun w hw=>by have d:=HCE.out _ hw;go_simp) ?_;simp only [Act.put,aa,ab,ac];refine ag (.pointer (some ⟨x,0,none⟩)) rfl (fun w hw=>by go_simp) ?_;simp only [Act.put,aa,ab,ac];refine ag (.pointer (some ⟨x,0,none⟩)) rfl (fun w hw=>by go_simp) ?_;simp only [Act.put,aa,ab,ac];refine ag (.pointer (some ⟨x,0,none⟩)) rfl (fun w hw=>by go_simp) ?_;simp only [Act.put,aa,ab,ac];refine ag (.pointer (some ⟨b,0,none⟩)) rfl (fun w hw=>by have d:=(HCL.out _ hw).1;go_simp) ?_;simp only [Act.put,aa,ab,ac];refine ag (.int .i64 B) rfl (fun w hw=>by go_simp) ?_;simp only [Act.put,aa,ab,ac];refine ag (.pointer (some ⟨x,0,none⟩)) rfl (fun w hw=>by go_simp) ?_;simp only [Act.put,aa,ab,ac];refine ag (.pointer (some ⟨x,0,none⟩)) rfl (fun w hw=>by go_simp) ?_;simp only [Act.put,aa,ab,ac];refine ag (.pointer (some ⟨x,2,none⟩)) rfl (fun w hw=>by go_simp) ?_;simp only [Act.put,aa,ab,ac];refine ag (.int .i64 k) rfl (fun w hw=>by have d:=(HCL.out _ hw).2.2.1;go_simp) ?_;simp only [Act.put,aa,ab,ac];refine ag (.int .i64 M) rfl (fun w hw=>by go_simp;rw [IntKind.wrap_i64];omega) ?_;simp only [Act.put,aa,ab,ac];refine ag (.int .i64 i) rfl (fun w hw=>by go_simp) ?_;simp only [Act.put,aa,ab,ac];refine aA (.int .i64 C) 284 #[b,.int .i64 M,.int .i64 i] rfl (fun w=>by go_simp) (fun w hw=>(HCC.out w hw).mono fun e w' h=>⟨h.1,hw.trans h.2 (fun _ h=>h.elim)⟩) ?_;simp only [Act.put,aa,ab,ac];refine ag (.int .i64 ((N:Int)+(C:Int))) rfl (fun w hw=>by go_simp;rw [IntKind.wrap_i64];omega) ?_;simp only [Act.put,aa,ab,ac];refine ag (.int .i64 ((N:Int)+(C:Int))) rfl (fun w hw=>by go_simp) ?_;simp only [Act.put,aa,ab,ac];refine wpQuiet_nil ?_;intro w4 hw4;have HW4:=ae hw4;clear hw4;go_wp2;go_ret;exact ⟨by simp,(HF0.out.drew).trans HW4.out (fun _ h=>h.elim)⟩
end
def ta (w:World) (n:Nat) (p:Nat→Bool) (e:Ending) (w':World):Prop:=∃k:Nat,e= .returned (.int .i64 k)∧k≤n∧(∀a,a<k→p a=false)∧(∀a,k≤a→a<n→p a=true)∧Fr (fun _=>False) w w'
theorem pD (f:Nat) (lb:Array Value) (eg:∀args w,(callFunc f args).run Tryz.prog w= .ok (.enter f args) w) (n:Nat) (hn:n≤1048576) (p:Nat→Bool) (hm:∀i j,i≤j→j<n→p i=true→p j=true) (w:World) (hcall:∀i,i<n→∀w',Fr (fun _=>False) w w'→Calls Tryz.prog f (#[.int .i64 i]++lb) w' (fun e w2=>e= .returned (.bool (p i))∧Fr (fun _=>False) w' w2)):
  Calls Tryz.prog 294 #[.int .i64 n,.func (.func f) #[] lb] w (ta w n p):=by
 have HM:=ae hm;have HC:=ae hcall;have hni:(n:Int)≤1048576:=by omega
 clear hm hcall
 go_enter Tryz.func294,Tryz.ntmps294
 go_wp2
 go_loopw [5,6] (fun a b wr=>∃i j:Nat,i≤j∧j≤n∧a= .int .i64 i∧b= .int .i64 j∧Hid (Fr (fun _=>False) w wr∧(∀a,a<i→p a=false)∧∀a,j≤a→a<n→p a=true)) (fun a b _=>(intOf b-intOf a).toNat)
 case atStart=>exact ⟨0,n,by omega,by omega,rfl,rfl,⟨Fr.refl _ w,fun a h=>absurd h (by omega),fun a h1 h2=>absurd h2 (by omega)⟩⟩
 case round=>
  obtain ⟨i,j,hij,hjn,rfl,rfl,hr⟩:=hrel;by_cases hlt:i<j
  ·obtain ⟨m,hm⟩:∃m,m=(i+j)/2:=⟨_,rfl⟩;have him:i≤m:=by omega
   have hmj:m<j:=by omega
   have hdv:((i:Int)+(j:Int))/2=(m:Int):=by omega
   have hii:(i:Int)≤1048576:=by omega
   have hji:(j:Int)≤1048576:=by omega
   have hc:=HC.out m (by omega) _ hr.out.1;clear hm
   cases hp:p m with
   |true=>
    rw [hp] at hc;have HCM:=ae hc;have HNEW:Hid (∀w',Fr (fun _=>False) wr w'→Fr (fun _=>False) w w'∧(∀a,a<i→p a=false)∧∀a,m≤a→a<n→p a=true):=fun w' hf=>⟨hr.out.1.trans hf (fun _ h=>h.elim),hr.out.2.1,fun a h1 h2=>HM.out m a h1 h2 hp⟩
    clear hc hr hp;go_wp2_with fail
    refine (HCM.out).mono ?_;rintro e w2 ⟨rfl,hf2⟩;have HN2:=ae (HNEW.out w2 hf2);clear hf2 HNEW;go_wp2;go_roundw
    case rel=>exact ⟨i,m,him,by omega,rfl,rfl,HN2⟩
    case measure=>simp [intOf];omega
   |false=>
    rw [hp] at hc;have HCM:=ae hc;have HNEW:Hid (∀w',Fr (fun _=>False) wr w'→Fr (fun _=>False) w w'∧(∀a,a<m+1→p a=false)∧∀a,j≤a→a<n→p a=true):=fun w' hf=>⟨hr.out.1.trans hf (fun _ h=>h.elim),(fun a h1=>by
     cases ha:p a with
     |false=>rfl
     |true=>(rw [HM.out a m (by omega) (by omega) ha] at hp;cases hp)),hr.out.2.2⟩
    clear hc hr hp;go_wp2_with fail
    refine (HCM.out).mono ?_;rintro e w2 ⟨rfl,hf2⟩;have HN2:=ae (HNEW.out w2 hf2);clear hf2 HNEW;go_wp2;go_roundw
    case rel=>exact ⟨m+1,j,by omega,hjn,by go_num,rfl,HN2⟩
    case measure=>simp [intOf];omega
  ·obtain rfl:i=j:=by omega
   have HEND:Hid (ta w n p (.returned (.int .i64 i)) wr):=⟨i,rfl,hjn,hr.out.2.1,hr.out.2.2,hr.out.1⟩;clear hr;go_wp2;go_ret;exact HEND.out
end Go.Proofs.YthahbijbpinneaaGreatDoor
