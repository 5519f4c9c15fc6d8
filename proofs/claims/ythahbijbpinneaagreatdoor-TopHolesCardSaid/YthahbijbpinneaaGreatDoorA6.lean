import Derived.Test.YthahbijbpinneaaGreatDoorA5
set_option maxRecDepth 100000
set_option maxHeartbeats 8000000
set_option linter.all false
namespace Go.Proofs.YthahbijbpinneaaGreatDoor
open Go.RowKit
section
variable {w:World} {p Rm Pg Us Hg:Nat} {Tm:Int} {vw vt vb:Value} {ws:List Nat} {tk:List Bool} {bk:List Nat}
structure je (w w':World) (p:Nat) (vw vt vb:Value) (ws:List Nat) (tk:List Bool) (Rm Pg Us:Nat) (f:Nat) (vw' vt' vb':Value) (ws':List Nat) (tk':List Bool) (bk':List Nat) (Hg':Nat) (times':Int):Prop where
 pool:aZ w' p vw' vt' vb' ws' tk' bk' Rm Pg (Us+1) Hg' times'
 now:tk'[f]? =some true
 was:tk[f]? ≠some true
 old:∀g,tk[g]? =some true→tk'[g]? =some true∧∀i,i<Pg→ws'.getD (g*Pg+i) 0=ws.getD (g*Pg+i) 0
 fr:Fr (bn p vw vt vb) w w'
 own:∀g,bn p vw' vt' vb' g→bn p vw vt vb g∨w.heap.size≤g
def jf (w:World) (p:Nat) (vw vt vb:Value) (ws:List Nat) (tk:List Bool) (Rm Pg Us:Nat) (e:Ending) (w':World):Prop:=
 ∃f vw' vt' vb' ws' tk' bk' Hg' times',e= .returned (.tuple #[.int .i64 ((f:Nat):Int),.int .i64 0])∧je w w' p vw vt vb ws tk Rm Pg Us f vw' vt' vb' ws' tk' bk' Hg' times'
theorem u5 {w1:World} {f g cap gt ct:Nat} {vw' vt' vb':Value} {ws':List Nat} {tk':List Bool} {bk':List Nat} (h:iS w w1 p vw vt vb ws tk Rm Pg Us Hg Tm f vw' vt' vb' ws' tk' bk')
  (hvw:vw'= .slice (some ⟨g,0,none⟩) ws'.length cap) (hvt:vt'= .slice (some ⟨gt,0,none⟩) tk'.length ct):
  ∀w2,w2=w1.setCells g (f*Pg) (List.replicate Pg (.int .u64 0))→w2.cell? ⟨p,1,none⟩=some vt'∧w2.cell? ⟨gt,f,none⟩=some (.bool false)∧w2.frozen? ⟨gt,f,none⟩=false∧
   ∀w3,w3=w2.setCell ⟨gt,f,none⟩ (.bool true)→ak w3 p [vw',vt',vb',.int .i64 Rm,.int .i64 Pg,.int .i64 Us,.int .i64 Hg,.int .i64 Tm] 307∧
    ∀W Hg' times',Hg'≤Rm→Us<Rm→Rm≤4096→1≤Pg→Pg≤256→ak W p [vw',vt',vb',.int .i64 Rm,.int .i64 Pg,.int .i64 ((Us:Int)+1),.int .i64 (Hg':Int),.int .i64 times'] 307→Fr (fun k=>k=p) w3 W→
     je w W p vw vt vb ws tk Rm Pg Us f vw' vt' vb' (ws'.take (f*Pg)++List.replicate Pg 0++ws'.drop (f*Pg+Pg)) (tk'.set f true) bk' Hg' times':=by
 rintro w2 rfl;have hfl:=(List.getElem?_eq_some_iff.1 h.none).1;have hin:=dd (Pg:=Pg) hfl;rw [←h.len] at hin;have hg:vw'.ownBlock=some g:=by rw [hvw];rfl
 have hgt:vt'.ownBlock=some gt:=by rw [hvt];rfl
 have nt:=cS h.rw h.rt (by decide) hg;have nb:=cS h.rw h.rb (by decide) hg;have np:=bJ h.rw h.blk (by decide);have tp:=bJ h.rt h.blk (by decide);have tb:=cS h.rt h.rb (by decide) hgt;have tw:=cS h.rt h.rw (by decide) hgt;have hf2:Fr (fun k=>k=g) w1 (w1.setCells g (f*Pg) (List.replicate Pg (.int .u64 0))):=Fr.setCells (S:=fun k=>k=g) (.inl rfl) _ _ (Fr.refl _ w1);have hb2:=h.blk.frame hf2 (fun e=>np (by rw [hg,e]));have ht2:=ao h.rt hf2 (fun k hk e=>nt (by rw [hk,e]));have hr2:=ao h.rb hf2 (fun k hk e=>nb (by rw [hk,e]));have hrw:=h.rw;rw [hvw] at hrw;have hw2:=lM (o:=f*Pg) (List.replicate Pg (.int .u64 0)) hrw (by rw [List.length_replicate];exact hin);rw [←hvw,List.length_replicate] at hw2;have hl2:(ws'.take (f*Pg)++List.replicate Pg 0++ws'.drop (f*Pg+Pg)).length=ws'.length:=by
  simp only [List.length_append,List.length_take,List.length_drop,List.length_replicate];omega
 have hw2':(w1.setCells g (f*Pg) (List.replicate Pg (.int .u64 0))).ownsRow 0 46 1 vw' (ws'.take (f*Pg)++List.replicate Pg 0++ws'.drop (f*Pg+Pg)).length (bz (ws'.take (f*Pg)++List.replicate Pg 0++ws'.drop (f*Pg+Pg))):=by
  rw [hl2];have e:bz (ws'.take (f*Pg)++List.replicate Pg 0++ws'.drop (f*Pg+Pg))=(bz ws').take (f*Pg)++List.replicate Pg (.int .u64 0)++(bz ws').drop (f*Pg+Pg):=by
   unfold bz;rw [List.map_append,List.map_append,List.map_take,List.map_drop,List.map_replicate];rfl
  rw [e];exact hw2
 have ht2':=ht2;rw [hvt] at ht2';have hc:=fZ (j:=f) (u:= .bool false) ht2' (by rw [List.getElem?_map,h.none];rfl);refine ⟨hb2.cell 1 rfl,hc.1,hc.2,?_⟩;rintro w3 rfl;have hf3:Fr (fun k=>k=gt) (w1.setCells g (f*Pg) (List.replicate Pg (.int .u64 0))) ((w1.setCells g (f*Pg) (List.replicate Pg (.int .u64 0))).setCell ⟨gt,f,none⟩ (.bool true)):=(Fr.refl (fun k=>k=gt) _).setCell ⟨gt,f,none⟩ (.inl rfl) _;refine ⟨hb2.frame hf3 (fun e=>tp (by rw [hgt,e])),?_⟩;intro W Hg' times' hh hu hr4 hp1 hp2 hB hfW;have hw3:=ao hw2' hf3 (fun k hk e=>tw (by rw [hk,e]));have hr3:=ao hr2 hf3 (fun k hk e=>tb (by rw [hk,e]));have ht3:=lL (.bool true) ht2' hfl;rw [←hvt,←List.map_set] at ht3;have hlt:(tk'.set f true).length=tk'.length:=List.length_set;have hu1:((Us+1:Nat):Int)=(Us:Int)+1:=by omega
 refine ⟨⟨by rw [hu1];exact hB,ao hw3 hfW (fun k hk e=>np (by rw [hk,e])),by rw [hlt];exact ao ht3 hfW (fun k hk e=>tp (by rw [hk,e])),ao hr3 hfW (fun k hk e=>bJ h.rb h.blk (by decide) (by rw [hk,e])),by rw [hl2,hlt];exact h.len,?_,by rw [hlt];exact h.cnt,?_,h.nd,by rw [hlt];exact h.most,hr4,hp1,hp2,hh⟩,?_,h.was,?_,?_,h.own⟩
 ·intro x hx;rcases List.mem_append.1 hx with hx|hx
  ·rcases List.mem_append.1 hx with hx|hx
   ·exact h.lt x (List.mem_of_mem_take hx)
   ·rw [List.eq_of_mem_replicate hx];decide
  ·exact h.lt x (List.mem_of_mem_drop hx)
 ·intro k hk;rw [List.getElem?_set,if_neg (fun e=>h.new (by rw [e];exact hk))];exact h.free k hk
 ·rw [List.getElem?_set,if_pos rfl,if_pos hfl]
 ·intro k hk;obtain ⟨o1,o2,o3⟩:=h.old k hk;refine ⟨by rw [List.getElem?_set,if_neg (fun e=>o2 e.symm)];exact o1,fun i hi=> ?_⟩;rw [←o3 i hi];have hkl:=(List.getElem?_eq_some_iff.1 o1).1;have:=tL (xs:=ws') (vs:=List.replicate Pg 0) (o:=f*Pg) (k:=k*Pg+i) (by rw [List.length_replicate];exact hin) (by
   rw [List.length_replicate];rcases Nat.lt_or_gt_of_ne o2 with hlt|hgt
   ·have:=dd (Pg:=Pg) hlt;omega
   ·have:=dd (Pg:=Pg) hgt;omega)
  rw [List.length_replicate] at this;exact this
 ·have hgs:∀k,bn p vw' vt' vb' k→bn p vw vt vb k∨w.heap.size≤k:=h.own;exact ((h.fr.trans hf2 (fun k hk=>by rw [hk];exact hgs g (.inr (.inl hg)))).trans hf3 (fun k hk=>by rw [hk];exact hgs gt (.inr (.inr (.inl hgt))))).trans hfW (fun k hk=> .inl (.inl hk))
theorem oC (h:aZ w p vw vt vb ws tk bk Rm Pg Us Hg Tm) (hroom:Us<Rm):Calls Tryz.prog 279 #[p] w (gV w p vw vt vb ws tk Rm Pg Us Hg Tm):=by
 by_cases hb:bk=[]
 ·subst hb;exact oD h hroom
 ·exact mG h hb
theorem tK (h:aZ w p vw vt vb ws tk bk Rm Pg Us Hg Tm) (hroom:Us<Rm):Calls Tryz.prog 252 #[p] w (jf w p vw vt vb ws tk Rm Pg Us):=by
 have hd:=h.frame (S:=fun _=>False) ((Fr.refl _ w).drew) (fun _ _ h=>h);have HFR:=ae (oC hd hroom);have c3:=h.blk.cell 3 rfl;have d3:w.drew.cell? ⟨p,3,none⟩=_:=c3;have d5:w.drew.cell? ⟨p,5,none⟩=_:=h.blk.cell 5 rfl;have hr4:=h.room1;have hp1:=h.page1;have hp2:=h.page2;have hh1:=h.high1;have hr0:((Rm:Int)==0)=false:=by rw [beq_eq_false_iff_ne];omega
 have hru:((Us:Int)==(Rm:Int))=false:=by rw [beq_eq_false_iff_ne];omega
 have b1:(Us:Int)<(Rm:Int):=by omega
 have b2:(Rm:Int)≤4096:=by omega
 have b3:(Hg:Int)≤4096:=by omega
 have HW:=ae (show∀e w',jf w.drew p vw vt vb ws tk Rm Pg Us e w'→jf w p vw vt vb ws tk Rm Pg Us e w' from fun e w' ⟨f,vw',vt',vb',ws',tk',bk',hi',ti',he,hq⟩=>⟨f,vw',vt',vb',ws',tk',bk',hi',ti',he,⟨hq.pool,hq.now,hq.was,hq.old,((Fr.refl _ w).drew).trans hq.fr (fun _ h=> .inl h),hq.own⟩⟩);clear h hd
 go_enter Tryz.func252,Tryz.ntmps252
 go_wp2;refine ar (fun w'=>w'=w.drew) (by kernel_rfl) (by kernel_rfl) rfl ?_;refine ag (.pointer (some ⟨p,0,none⟩)) rfl (fun w hw=>by go_simp) ?_;simp only [Act.put,aa,ab,ac];refine ag (.pointer (some ⟨p,0,none⟩)) rfl (fun w hw=>by go_simp) ?_;simp only [Act.put,aa,ab,ac];refine ag (.pointer (some ⟨p,5,none⟩)) rfl (fun w hw=>by go_simp) ?_;simp only [Act.put,aa,ab,ac];refine ag (.int .i64 Us) rfl (fun w hw=>by subst hw;go_simp) ?_;simp only [Act.put,aa,ab,ac];refine ag (.pointer (some ⟨p,0,none⟩)) rfl (fun w hw=>by go_simp) ?_;simp only [Act.put,aa,ab,ac];refine ag (.pointer (some ⟨p,0,none⟩)) rfl (fun w hw=>by go_simp) ?_;simp only [Act.put,aa,ab,ac];refine ag (.pointer (some ⟨p,3,none⟩)) rfl (fun w hw=>by go_simp) ?_;simp only [Act.put,aa,ab,ac];refine ag (.int .i64 Rm) rfl (fun w hw=>by subst hw;go_simp) ?_;simp only [Act.put,aa,ab,ac];refine ag (.bool false) rfl (fun w hw=>by go_simp) ?_;simp only [Act.put,aa,ab,ac];refine ag (.bool false) rfl (fun w hw=>by go_simp) ?_;simp only [Act.put,aa,ab,ac];refine wpQuiet_nil ?_;rintro w2 rfl;generalize w.drew=w0 at*;go_wp2_with fail
 refine (HFR.out).mono ?_;rintro e w1 ⟨f,vw',vt',vb',ws',tk',bk',rfl,hfr⟩;have hfl:=(List.getElem?_eq_some_iff.1 hfr.none).1;have hin:=dd (Pg:=Pg) hfl;rw [←hfr.len] at hin;obtain ⟨g,cap,hvw,hc1,hc2,_⟩:=dI hfr.rw (by omega);obtain ⟨gt,ct,hvt,_⟩:=dI hfr.rt (by omega);have c0:=hfr.blk.cell 0 rfl;rw [hvw] at c0;have HF:=ae (jr c0 (hfr.blk.cell 4 rfl) hp1 f hin hc1 hc2);have hrw:=hfr.rw;rw [hvw] at hrw;have HCL:=ae (Lib.run_clear_slice (P:=Tryz.prog) w1 98 46 0 (.int .u64 0) Tryz.underlying98 (fun w=>by obtain ⟨i0,hi,hz,_⟩:=info_parts gD;simp [zeroValue,typeInfo,hi,hz]) rfl rfl g (f*Pg) Pg Pg hp1
  (fun j hj=>by
   obtain ⟨x,hx⟩:∃x,ws'[f*Pg+j]? =some x:=⟨_,List.getElem?_eq_getElem (by omega)⟩;rw [(fZ (j:=f*Pg+j) (u:= .int .u64 x) hrw (by unfold bz;rw [List.getElem?_map,hx];rfl)).1];rfl)
  (fun j hj=>by
   obtain ⟨x,hx⟩:∃x,ws'[f*Pg+j]? =some x:=⟨_,List.getElem?_eq_getElem (by omega)⟩;exact (fZ (j:=f*Pg+j) (u:= .int .u64 x) hrw (by unfold bz;rw [List.getElem?_map,hx];rfl)).2))
 have HM:=ae (u5 hfr hvw hvt);have hb9:(f:Int)<(tk'.length:Int):=by omega
 have hf4:(f:Int)≤4096:=by have:=hfr.most;omega
 have HVT:=ae hvt;clear hfr hin hc1 hc2 c0 hrw hvw hvt HFR;go_wp2_with fail
 refine (HF.out).mono ?_;rintro e w' ⟨rfl,rfl⟩;go_wp2_with (refine lU rfl _ _ rfl ?_;refine Hid.out ?_)
 unfold Hid;refine ⟨_,HCL.out,?_⟩;obtain ⟨w2,hw2⟩:∃w2,w1.setCells g (f*Pg) (List.replicate Pg (.int .u64 0))=w2:=⟨_,rfl⟩;rw [hw2];obtain ⟨m1,m2,m3,m4⟩:=HM.out w2 hw2.symm;rw [HVT.out] at m1;have HM4:=ae m4;clear HCL hw2 HM m4 HF
 go_upto_region 8 with fail
 obtain ⟨w3,hw3⟩:∃w3,w2.setCell ⟨gt,f,none⟩ (.bool true)=w3:=⟨_,rfl⟩;rw [hw3];obtain ⟨hb3,hT⟩:=HM4.out w3 hw3.symm;have HT:=ae hT;have HB3:=ae hb3;have k5:=hb3.cell 5 rfl;have k6:=hb3.free 5;have k7:=(hb3.set 5 (.int .i64 ((Us:Int)+1))).cell 7 rfl;have k8:=(hb3.set 5 (.int .i64 ((Us:Int)+1))).free 7;clear m1 m2 m3 hw3 HM4 hT hb3
 go_upto_region 10 with fail
 obtain ⟨w5,hw5⟩:∃w5,(w3.setCell ⟨p,5,none⟩ (.int .i64 ((Us:Int)+1))).setCell ⟨p,7,none⟩ (.int .i64 (wrap64 (Tm+1)))=w5:=⟨_,rfl⟩;rw [hw5];have hb5:ak w5 p [vw',vt',vb',.int .i64 Rm,.int .i64 Pg,.int .i64 ((Us:Int)+1),.int .i64 Hg,.int .i64 (wrap64 (Tm+1))] 307:=by rw [←hw5];exact (HB3.out.set 5 _).set 7 _
 have hf5:Fr (fun k=>k=p) w3 w5:=by rw [←hw5];exact ((Fr.refl (fun k=>k=p) w3).setCell ⟨p,5,none⟩ (.inl rfl) _).setCell ⟨p,7,none⟩ (.inl rfl) _
 obtain ⟨Hn,hHn⟩:∃Hn,Hn=max Hg (Us+1):=⟨_,rfl⟩;have hmx:max (Hg:Int) ((Us:Int)+1)=(Hn:Int):=by omega
 have hHr:Hn≤Rm:=by omega
 have k9:w5.drew.cell? ⟨p,6,none⟩=_:=hb5.drew.cell 6 rfl;have k10:w5.drew.cell? ⟨p,5,none⟩=_:=hb5.drew.cell 5 rfl;have k11:w5.drew.frozen? ⟨p,6,none⟩=false:=hb5.drew.free 6;have HEND:=ae (fun W (hW:W=(w5.drew.setCell ⟨p,6,none⟩ (.int .i64 Hn)))=>HT.out W Hn (wrap64 (Tm+1)) hHr hroom hr4 hp1 hp2 (by rw [hW];exact hb5.drew.set 6 _) (by rw [hW];exact hf5.drew.setCell ⟨p,6,none⟩ (.inl rfl) _));clear hw5 hb5 hf5 HT HB3 k5 k6 k7 k8 hHn;refine aB (fun w'=>w'=w5.drew) 10 (by kernel_rfl) (by kernel_rfl) rfl ?_;simp only [List.take_succ_cons,List.take_zero,List.drop_succ_cons,List.drop_zero];refine ag (.pointer (some ⟨p,0,none⟩)) rfl (fun w hw=>by go_simp) ?_;simp only [Act.put,aa,ab,ac];refine ag (.pointer (some ⟨p,0,none⟩)) rfl (fun w hw=>by go_simp) ?_;simp only [Act.put,aa,ab,ac];refine ag (.pointer (some ⟨p,0,none⟩)) rfl (fun w hw=>by go_simp) ?_;simp only [Act.put,aa,ab,ac];refine ag (.pointer (some ⟨p,6,none⟩)) rfl (fun w hw=>by go_simp) ?_;simp only [Act.put,aa,ab,ac];refine ag (.int .i64 Hg) rfl (fun w hw=>by subst hw;go_simp) ?_;simp only [Act.put,aa,ab,ac];refine ag (.pointer (some ⟨p,0,none⟩)) rfl (fun w hw=>by go_simp) ?_;simp only [Act.put,aa,ab,ac];refine ag (.pointer (some ⟨p,0,none⟩)) rfl (fun w hw=>by go_simp) ?_;simp only [Act.put,aa,ab,ac];refine ag (.pointer (some ⟨p,5,none⟩)) rfl (fun w hw=>by go_simp) ?_;simp only [Act.put,aa,ab,ac];refine ag (.int .i64 ((Us:Int)+1)) rfl (fun w hw=>by subst hw;go_simp) ?_;simp only [Act.put,aa,ab,ac];refine ag (.int .i64 Hn) rfl (fun w hw=>by go_simp) ?_;simp only [Act.put,aa,ab,ac];refine wpQuiet_nil ?_;rintro w6 rfl;go_wp2;go_ret2;exact HW.out _ _ ⟨f,_,_,_,_,_,_,_,_,rfl,HEND.out _ rfl⟩
end
def nz:Option Nat→Value
 |none=> .pointer none
 |some t=> .pointer (some ⟨t,0,none⟩)
def bB (fr:Nat→Nat) (p:Nat):Bool:=fr p !=0
def fN (fr:Nat→Nat) (i:Nat):List Value:=(List.range 256).map (fun q=>Value.int .u32 ((fr (256*i+q):Nat):Int))++[.int .i64 ((cnt (bB fr) (256*i) (256*i+256):Nat):Int)]
structure aM (w:World) (g gt:Nat) (ts:List (Option Nat)) (P:Nat) (fr:Nat→Nat) (n:Int):Prop where
 blk:ak w g [.slice (some ⟨gt,0,none⟩) ts.length ts.length,.int .i64 P,.int .i64 n] 319
 row:ak w gt (ts.map nz) 348
 len:ts.length=(P+255)/256
 tab:∀(i t:Nat),ts[i]? =some (some t)→ak w t (fN fr i) 351
 nil:∀(i:Nat),ts[i]? =some none→∀q,q<256→fr (256*i+q)=0
 inj:∀(i j t:Nat),ts[i]? =some (some t)→ts[j]? =some (some t)→i=j
 one:1≤P
 small:P≤524288
 lt:∀p,fr p<4294967296
 off:∀p,P≤p→fr p=0
def aG (g gt:Nat) (ts:List (Option Nat)) (k:Nat):Prop:=k=g∨k=gt∨some k∈ts
theorem aM.frame {S:Nat→Prop} {w w':World} {g gt:Nat} {ts:List (Option Nat)} {P:Nat} {fr:Nat→Nat} {n:Int} (h:aM w g gt ts P fr n) (hf:Fr S w w') (hn:∀k,aG g gt ts k→¬S k):aM w' g gt ts P fr n:=
 ⟨h.blk.frame hf (hn _ (.inl rfl)),h.row.frame hf (hn _ (.inr (.inl rfl))),h.len,fun i t ht=>(h.tab i t ht).frame hf (hn _ (.inr (.inr (List.mem_of_getElem? ht)))),h.nil,h.inj,h.one,h.small,h.lt,h.off⟩
theorem gQ (fr:Nat→Nat) (i q:Nat) (hq:q<256):(fN fr i)[q]? =some (.int .u32 ((fr (256*i+q):Nat):Int)):=by
 unfold fN;rw [List.getElem?_append_left (by simpa using hq),List.getElem?_map,List.getElem?_range hq];rfl
theorem qG (fr:Nat→Nat) (i:Nat):(fN fr i)[256]? =some (.int .i64 ((cnt (bB fr) (256*i) (256*i+256):Nat):Int)):=by
 unfold fN;rw [List.getElem?_append_right (by simp)];simp
section
variable {w:World} {g gt:Nat} {ts:List (Option Nat)} {P:Nat} {fr:Nat→Nat} {n:Int}
theorem aM.slot (h:aM w g gt ts P fr n) {p:Nat} (hp:p<P):∃o,ts[p/256]? =some o∧w.cell? ⟨gt,p/256,none⟩=some (nz o)∧w.frozen? ⟨gt,p/256,none⟩=false:=by
 have hl:p/256<ts.length:=by rw [h.len];omega
 obtain ⟨o,ho⟩:∃o,ts[p/256]? =some o:=⟨_,List.getElem?_eq_getElem hl⟩;exact ⟨o,ho,h.row.cell (p/256) (by rw [List.getElem?_map,ho];rfl),h.row.free _⟩
theorem jO (h:aM w g gt ts P fr n) (p:Nat) (hp:p<P):Calls Tryz.prog 278 #[g,.int .i64 p] w fun e w'=>e= .returned (.int .u32 ((fr p:Nat):Int))∧w=w':=by
 obtain ⟨o,ho,hc,_⟩:=h.slot hp;have c0:=h.blk.cell 0 rfl;have hl:p/256<ts.length:=(List.getElem?_eq_some_iff.1 ho).1;have hs:=h.small;have q1:(p:Int).tdiv 256=((p/256:Nat):Int):=rfl;have q2:(p:Int).tmod 256=((p% 256:Nat):Int):=rfl;have hd:256*(p/256)+p% 256=p:=by omega
 cases o with
 |none=>
  have h0:=h.nil _ ho (p% 256) (Nat.mod_lt _ (by decide));rw [hd] at h0;rw [h0];unfold nz at hc;generalize ts.length=L at*;have b1:((p/256:Nat):Int)<(L:Int):=by omega
  have b2:(p:Int)≤524288:=by omega
  clear h ho hd
  go_enter Tryz.func278,Tryz.ntmps278
  go_wp2;go_ret;exact ⟨rfl,rfl⟩
 |some t=>
  have ht:=(h.tab _ t ho).cell (p% 256) (gQ fr (p/256) (p% 256) (Nat.mod_lt _ (by decide)));rw [hd] at ht;unfold nz at hc;generalize ts.length=L at*;generalize fr p=x at*;have b1:((p/256:Nat):Int)<(L:Int):=by omega
  have b2:(p:Int)≤524288:=by omega
  have b3:((p% 256:Nat):Int)<256:=by omega
  clear h ho hd
  go_enter Tryz.func278,Tryz.ntmps278
  go_wp2;go_ret;exact ⟨rfl,rfl⟩
theorem lN (h:aM w g gt ts P fr n) (p:Nat) (hp:p<P) (b:Nat) (hb:w.cell? ⟨b,0,none⟩=some (.int .i64 p)):Calls Tryz.prog 277 #[g,.slice (some ⟨b,0,none⟩) 1 1] w fun e w'=>e= .returned (.int .i64 0)∧w=w':=by
 have c1:=h.blk.cell 1 rfl;have hs:=h.small;have b1:(p:Int)<(P:Int):=by omega
 have b2:(p:Int)≤524288:=by omega
 clear h
 go_enter Tryz.func277,Tryz.ntmps277
 go_wp2
 go_loopw [11] (fun k wr=>∃j:Nat,k= .int .i64 j∧j≤1∧wr=w) (fun k _=>(1-intOf k).toNat)
 case atStart=>exact ⟨0,rfl,by omega,rfl⟩
 case round=>
  obtain ⟨j,rfl,hj,rfl⟩:=hrel;by_cases h0:j=0
  ·subst h0;go_wp2;go_roundw
   case rel=>exact ⟨1,rfl,by omega,trivial⟩
   case measure=>simp [intOf]
  ·obtain rfl:j=1:=by omega
   go_wp2;go_ret;exact ⟨rfl,rfl⟩
theorem nu (h:aM w g gt ts P fr n) (p:Nat) (hp:p<P) (h0:fr p=0):Calls Tryz.prog 251 #[g,.int .i64 p] w fun e w'=>e= .returned (.tuple #[.int .i64 0,.int .i64 12])∧Fr (fun _=>False) w w':=by
 have hf:Fr (fun _=>False) w (w.alloc (.cells #[.int .i64 p] 3)):=(Fr.refl _ w).alloc _;have h1:=h.frame hf (fun _ _ h=>h);have HI:=ae (lN h1 p hp w.heap.size ((ak.new w [.int .i64 p] 3).cell 0 rfl));have HG:=ae (jO h1 p hp);rw [h0] at HG;have HF:=ae hf;clear h h1 hf
 go_enter Tryz.func251,Tryz.ntmps251
 go_wp2_with fail
 refine (HI.out).mono ?_;rintro e w' ⟨rfl,rfl⟩;go_wp2_with fail
 refine (HG.out).mono ?_;rintro e w' ⟨rfl,rfl⟩;go_wp2;go_ret2;exact ⟨rfl,HF.out⟩
theorem fb (h:aM w g gt ts P fr n) (p f:Nat) (hp:p<P) (h0:fr p=f+1):Calls Tryz.prog 251 #[g,.int .i64 p] w fun e w'=>e= .returned (.tuple #[.int .i64 f,.int .i64 0])∧Fr (fun _=>False) w w':=by
 have hf:Fr (fun _=>False) w (w.alloc (.cells #[.int .i64 p] 3)):=(Fr.refl _ w).alloc _;have h1:=h.frame hf (fun _ _ h=>h);have HI:=ae (lN h1 p hp w.heap.size ((ak.new w [.int .i64 p] 3).cell 0 rfl));have HG:=ae (jO h1 p hp);have hl:=h.lt p;rw [h0] at HG hl;rw [show ((f+1:Nat):Int)=(f:Int)+1 by omega] at HG;have HF:=ae hf;have hz:(((f:Int)+1)==0)=false:=by rw [beq_eq_false_iff_ne];omega
 obtain ⟨F,hFd⟩:∃F:Int,(f:Int)=F:=⟨_,rfl⟩;rw [hFd] at HG hz ⊢;have b1:F<4294967295:=by omega
 have b2:0≤F:=by omega
 clear h h1 hf hl hFd
 go_enter Tryz.func251,Tryz.ntmps251
 go_wp2_with fail
 refine (HI.out).mono ?_;rintro e w' ⟨rfl,rfl⟩;go_wp2_with fail
 refine (HG.out).mono ?_;rintro e w' ⟨rfl,rfl⟩;go_wp2;go_ret2;exact ⟨by simp,HF.out⟩
end
def co (fr:Nat→Nat) (p x:Nat) (k:Nat):Nat:=if k=p then x else fr k
theorem fy {fr:Nat→Nat} {p x a b:Nat} (ha:a≤p) (hb:p<b):cnt (bB (co fr p x)) a b+(if fr p=0 then 0 else 1)=cnt (bB fr) a b+(if x=0 then 0 else 1):=by
 rw [aw _ ha (Nat.le_of_lt hb),aw (bB fr) ha (Nat.le_of_lt hb)];have h1:∀f:Nat→Bool,cnt f p b=(if f p then 1 else 0)+cnt f (p+1) b:=fun f=>by
  rw [aw f (show p≤p+1 from Nat.le_succ p) (show p+1≤b from hb),aC f (Nat.le_refl p),bC f (Nat.le_refl p),Nat.zero_add]
 rw [h1 (bB (co fr p x)),h1 (bB fr),aJ (f:=bB (co fr p x)) (g:=bB fr) (a:=a) (b:=p) (fun i _ h=>by unfold bB co;rw [if_neg (by omega)]),
  aJ (f:=bB (co fr p x)) (g:=bB fr) (a:=p+1) (b:=b) (fun i h _=>by unfold bB co;rw [if_neg (by omega)])]
 have e1:bB (co fr p x) p=(x !=0):=by unfold bB co;rw [if_pos rfl]
 have e2:bB fr p=(fr p !=0):=rfl;rw [e1,e2];by_cases hx:x=0<;>by_cases hf:fr p=0<;>simp [hx,hf]<;>omega
theorem pF {fr:Nat→Nat} {p x i:Nat} (hi:i≠p/256):fN (co fr p x) i=fN fr i:=by
 unfold fN;congr 1
 ·apply List.map_congr_left;intro q hq;rw [List.mem_range] at hq;unfold co;rw [if_neg (by omega)]
 ·rw [aJ (g:=bB fr) (fun k h1 h2=>by unfold bB co;rw [if_neg (by omega)])]
theorem sx {fr:Nat→Nat} {p x:Nat}:fN (co fr p x) (p/256)=((fN fr (p/256)).set (p% 256) (.int .u32 (x:Int))).set 256 (.int .i64 ((cnt (bB (co fr p x)) (256*(p/256)) (256*(p/256)+256):Nat):Int)):=by
 apply List.ext_getElem?;intro k;have hl:∀f i,(fN f i).length=257:=fun f i=>by unfold fN;simp
 rcases Nat.lt_trichotomy k 256 with hk|hk|hk
 ·rw [gQ _ _ _ hk,List.getElem?_set_ne (by omega),List.getElem?_set];unfold co;by_cases e:p% 256=k
  ·rw [if_pos (by omega),if_pos e,if_pos (by rw [hl];omega)]
  ·rw [if_neg (by omega),if_neg e,gQ _ _ _ hk]
 ·subst hk;rw [qG,List.getElem?_set,if_pos rfl,if_pos (by rw [List.length_set,hl];decide)]
 ·rw [List.getElem?_eq_none (by rw [hl];omega),List.getElem?_eq_none (by rw [List.length_set,List.length_set,hl];omega)]
section
variable {w:World} {g gt:Nat} {ts:List (Option Nat)} {P:Nat} {fr:Nat→Nat} {n:Int}
theorem aM.gne (h:aM w g gt ts P fr n):g≠gt:=fun e=>by
 have h1:=h.blk;have h2:=h.row;unfold ak at h1 h2;rw [e,h2] at h1;simp only [Option.some.injEq,Obj.cells.injEq] at h1;exact absurd h1.2.1 (by decide)
theorem aM.tne (h:aM w g gt ts P fr n) {i t:Nat} (ht:ts[i]? =some (some t)):t≠g∧t≠gt:=by
 have h0:=h.tab i t ht;have h1:=h.blk;have h2:=h.row;unfold ak at h0 h1 h2;constructor
 ·intro e;rw [e,h1] at h0;simp only [Option.some.injEq,Obj.cells.injEq] at h0;exact absurd h0.2.1 (by decide)
 ·intro e;rw [e,h2] at h0;simp only [Option.some.injEq,Obj.cells.injEq] at h0;exact absurd h0.2.1 (by decide)
theorem aM.upd (h:aM w g gt ts P fr n) {p x t:Nat} (hp:p<P) (hx:x<4294967296) (ht:ts[p/256]? =some (some t)) (c:Int) (hc:c=((cnt (bB (co fr p x)) (256*(p/256)) (256*(p/256)+256):Nat):Int)) (n':Int):
  ∀W,W=((w.setCell ⟨t,p% 256,none⟩ (.int .u32 (x:Int))).setCell ⟨t,256,none⟩ (.int .i64 c)).setCell ⟨g,2,none⟩ (.int .i64 n')→aM W g gt ts P (co fr p x) n'∧Fr (aG g gt ts) w W:=by
 rintro W rfl;obtain ⟨n1,n2⟩:=h.tne ht;have hg:=h.gne;have hf:Fr (fun k=>k=t∨k=g) w (((w.setCell ⟨t,p% 256,none⟩ (.int .u32 (x:Int))).setCell ⟨t,256,none⟩ (.int .i64 c)).setCell ⟨g,2,none⟩ (.int .i64 n')):=
  (((Fr.refl (fun k=>k=t∨k=g) w).setCell ⟨t,p% 256,none⟩ (.inl (.inl rfl)) _).setCell ⟨t,256,none⟩ (.inl (.inl rfl)) _).setCell ⟨g,2,none⟩ (.inl (.inr rfl)) _
 refine ⟨⟨?_,h.row.frame hf (by omega),h.len,?_,?_,h.inj,h.one,h.small,?_,?_⟩,hf.mono (fun k hk=> .inl (by rcases hk with rfl|rfl;exact .inr (.inr (List.mem_of_getElem? ht));exact .inl rfl))⟩
 ·exact ((h.blk.setOther ⟨t,p% 256,none⟩ _ (Ne.symm n1)).setOther ⟨t,256,none⟩ _ (Ne.symm n1)).set 2 _
 ·intro i t' ht';by_cases hi:i=p/256
  ·subst hi;rw [ht] at ht';simp only [Option.some.injEq] at ht';subst ht';rw [sx,←hc];exact (((h.tab _ t ht).set (p% 256) _).set 256 _).setOther ⟨g,2,none⟩ _ n1
  ·rw [pF hi];have:t'≠t:=fun e=>hi (h.inj i (p/256) t (by rw [←e];exact ht') ht)
   exact (h.tab i t' ht').frame hf (by have:=(h.tne ht').1;omega)
 ·intro i hi q hq;have:i≠p/256:=fun e=>by rw [e,ht] at hi;cases hi
  unfold co;rw [if_neg (by omega)];exact h.nil i hi q hq
 ·intro k;unfold co;split
  ·exact hx
  ·exact h.lt k
 ·intro k hk;unfold co;rw [if_neg (by omega)];exact h.off k hk
theorem aM.more (h:aM w g gt ts P fr n) {i:Nat} (hi:ts[i]? =some none):
  ∀W,W=(w.alloc (.cells (List.replicate 256 (Value.int .u32 0)++[Value.int .i64 0]).toArray 351)).setCell ⟨gt,i,none⟩ (.pointer (some ⟨w.heap.size,0,none⟩))→
   aM W g gt (ts.set i (some w.heap.size)) P fr n∧Fr (aG g gt ts) w W:=by
 rintro W rfl;have hil:=(List.getElem?_eq_some_iff.1 hi).1;have hg:=h.gne;have l1:=h.blk.lt;have l2:=h.row.lt;have hfa:Fr (fun _=>False) w (w.alloc (.cells (List.replicate 256 (Value.int .u32 0)++[Value.int .i64 0]).toArray 351)):=(Fr.refl _ w).alloc _;have hfs:Fr (fun k=>k=gt) (w.alloc (.cells (List.replicate 256 (Value.int .u32 0)++[Value.int .i64 0]).toArray 351)) ((w.alloc (.cells (List.replicate 256 (Value.int .u32 0)++[Value.int .i64 0]).toArray 351)).setCell ⟨gt,i,none⟩ (.pointer (some ⟨w.heap.size,0,none⟩))):=
  (Fr.refl (fun k=>k=gt) _).setCell ⟨gt,i,none⟩ (.inl rfl) _
 refine ⟨⟨?_,?_,by rw [List.length_set];exact h.len,?_,?_,?_,h.one,h.small,h.lt,h.off⟩,(hfa.mono (S':=aG g gt ts) (fun _ h=>h.elim)).trans hfs (fun k hk=> .inl (.inr (.inl hk)))⟩
 ·rw [List.length_set];exact (h.blk.frame hfa (fun h=>h)).frame hfs hg
 ·have:=(h.row.frame hfa (fun h=>h)).set i (.pointer (some ⟨w.heap.size,0,none⟩));rw [List.map_set];exact this
 ·intro j t ht;rw [List.getElem?_set] at ht;by_cases e:i=j
  ·subst e;rw [if_pos rfl,if_pos hil] at ht;simp only [Option.some.injEq] at ht;subst ht;have hz:fN fr i=List.replicate 256 (Value.int .u32 0)++[Value.int .i64 0]:=by
    unfold fN;congr 1
    ·rw [List.eq_replicate_iff];refine ⟨by simp,fun v hv=> ?_⟩;obtain ⟨q,hq,rfl⟩:=List.mem_map.1 hv;rw [List.mem_range] at hq;rw [h.nil i hi q hq];rfl
    ·rw [aD (fun k h1 h2=>by
      have:=h.nil i hi (k-256*i) (by omega);rw [show 256*i+(k-256*i)=k by omega] at this;unfold bB;rw [this];rfl)]
     rfl
   rw [hz];exact (ak.new w _ _).frame hfs (by omega)
  ·rw [if_neg e] at ht;exact ((h.tab j t ht).frame hfa (fun h=>h)).frame hfs (h.tne ht).2
 ·intro j hj q hq;rw [List.getElem?_set] at hj;by_cases e:i=j
  ·subst e;rw [if_pos rfl,if_pos hil] at hj
   cases hj
  ·rw [if_neg e] at hj;exact h.nil j hj q hq
 ·intro j k t hj hk;rw [List.getElem?_set] at hj hk;by_cases e1:i=j
  ·by_cases e2:i=k
   ·omega
   ·subst e1;rw [if_pos rfl,if_pos hil] at hj;rw [if_neg e2] at hk;simp only [Option.some.injEq] at hj;have:=(h.tab k t hk).lt;omega
  ·rw [if_neg e1] at hj;by_cases e2:i=k
   ·subst e2;rw [if_pos rfl,if_pos hil] at hk;simp only [Option.some.injEq] at hk;have:=(h.tab j t hj).lt;omega
   ·rw [if_neg e2] at hk;exact h.inj j k t hj hk
theorem aM.less (h:aM w g gt ts P fr n) {i t:Nat} (hi:ts[i]? =some (some t)) (h0:cnt (bB fr) (256*i) (256*i+256)=0):
  ∀W,W=w.setCell ⟨gt,i,none⟩ (.pointer none)→aM W g gt (ts.set i none) P fr n∧Fr (aG g gt ts) w W:=by
 rintro W rfl;have hil:=(List.getElem?_eq_some_iff.1 hi).1;have hg:=h.gne;have hfs:Fr (fun k=>k=gt) w (w.setCell ⟨gt,i,none⟩ (.pointer none)):=(Fr.refl (fun k=>k=gt) _).setCell ⟨gt,i,none⟩ (.inl rfl) _;refine ⟨⟨?_,?_,by rw [List.length_set];exact h.len,?_,?_,?_,h.one,h.small,h.lt,h.off⟩,hfs.mono (fun k hk=> .inl (.inr (.inl hk)))⟩
 ·rw [List.length_set];exact h.blk.frame hfs hg
 ·rw [List.map_set];exact h.row.set i (.pointer none)
 ·intro j t' ht;rw [List.getElem?_set] at ht;by_cases e:i=j
  ·subst e;rw [if_pos rfl,if_pos hil] at ht
   cases ht
  ·rw [if_neg e] at ht;exact (h.tab j t' ht).frame hfs (h.tne ht).2
 ·intro j hj q hq;by_cases e:i=j
  ·subst e
   cases hz:fr (256*i+q) with
   |zero=>rfl
   |succ m=>
    have:=mA h0 (256*i+q) (by omega) (by omega);unfold bB at this;rw [hz] at this
    cases this
  ·rw [List.getElem?_set,if_neg e] at hj;exact h.nil j hj q hq
 ·intro j k t' hj hk;rw [List.getElem?_set] at hj hk;by_cases e1:i=j
  ·subst e1;rw [if_pos rfl,if_pos hil] at hj
   cases hj
  ·rw [if_neg e1] at hj;by_cases e2:i=k
   ·subst e2;rw [if_pos rfl,if_pos hil] at hk
    cases hk
   ·rw [if_neg e2] at hk;exact h.inj j k t' hj hk
end
section
variable {w:World} {g gt:Nat} {ts:List (Option Nat)} {P:Nat} {fr:Nat→Nat} {n:Int}
def ew (w:World) (g gt:Nat) (ts:List (Option Nat)) (P:Nat) (fr:Nat→Nat) (p x:Nat) (e:Ending) (w':World):Prop:=
 e= .returned (.tuple #[])∧∃ts' n',aM w' g gt ts' P (co fr p x) n'∧Fr (aG g gt ts) w w'∧∀k,aG g gt ts' k→aG g gt ts k∨w.heap.size≤k
theorem pP:Tryz.zeroCells351=(List.replicate 256 (Value.int .u32 0)++[Value.int .i64 0]).toArray:=by kernel_rfl
theorem qo {ts:List (Option Nat)} {g gt i k m:Nat} (h:aG g gt (ts.set i (some m)) k):aG g gt ts k∨k=m:=by
 rcases h with h|h|h
 ·exact .inl (.inl h)
 ·exact .inl (.inr (.inl h))
 ·rcases List.mem_or_eq_of_mem_set h with h|h
  ·exact .inl (.inr (.inr h))
  ·exact .inr (by simpa using h)
theorem aM.setf (h:aM w g gt ts P fr n) {p x t:Nat} (hp:p<P) (hx:x<4294967296) (ht:ts[p/256]? =some (some t)) (δ:Int) (C:Nat) (hC:cnt (bB fr) (256*(p/256)) (256*(p/256)+256)=C) (c:Int) (hc:c=((cnt (bB (co fr p x)) (256*(p/256)) (256*(p/256)+256):Nat):Int)):
  (∃u,w.cell? ⟨t,p% 256,none⟩=some u)∧w.frozen? ⟨t,p% 256,none⟩=false∧
  (w.setCell ⟨t,p% 256,none⟩ (.int .u32 (x:Int))).cell? ⟨t,256,none⟩=some (.int .i64 C)∧(w.setCell ⟨t,p% 256,none⟩ (.int .u32 (x:Int))).frozen? ⟨t,256,none⟩=false∧
  ((w.setCell ⟨t,p% 256,none⟩ (.int .u32 (x:Int))).setCell ⟨t,256,none⟩ (.int .i64 c)).cell? ⟨g,2,none⟩=some (.int .i64 n)∧((w.setCell ⟨t,p% 256,none⟩ (.int .u32 (x:Int))).setCell ⟨t,256,none⟩ (.int .i64 c)).frozen? ⟨g,2,none⟩=false∧
  (((w.setCell ⟨t,p% 256,none⟩ (.int .u32 (x:Int))).setCell ⟨t,256,none⟩ (.int .i64 c)).setCell ⟨g,2,none⟩ (.int .i64 (wrap64 (n+δ)))).cell? ⟨t,256,none⟩=some (.int .i64 c)∧
  ∀W,W=(((w.setCell ⟨t,p% 256,none⟩ (.int .u32 (x:Int))).setCell ⟨t,256,none⟩ (.int .i64 c)).setCell ⟨g,2,none⟩ (.int .i64 (wrap64 (n+δ))))→aM W g gt ts P (co fr p x) (wrap64 (n+δ))∧Fr (aG g gt ts) w W:=by
 have hbt:=h.tab _ t ht;have hb1:=hbt.set (p% 256) (.int .u32 (x:Int));have d1:((fN fr (p/256)).set (p% 256) (.int .u32 (x:Int)))[256]? =some (.int .i64 C):=by rw [List.getElem?_set_ne (by omega),qG,hC]
 obtain ⟨n1,n2⟩:=h.tne ht;have hbg:=(h.blk.setOther ⟨t,p% 256,none⟩ (.int .u32 (x:Int)) (Ne.symm n1)).setOther ⟨t,256,none⟩ (.int .i64 c) (Ne.symm n1);exact ⟨⟨_,hbt.cell (p% 256) (gQ fr (p/256) (p% 256) (Nat.mod_lt _ (by decide)))⟩,hbt.free _,hb1.cell 256 d1,hb1.free 256,hbg.cell 2 rfl,hbg.free 2,
  ((hb1.set 256 (.int .i64 c)).setOther ⟨g,2,none⟩ _ n1).cell 256 (by rw [List.getElem?_set,if_pos rfl,if_pos (by rw [List.length_set];unfold fN;simp)]),h.upd hp hx ht c hc _⟩
theorem uL (h:aM w g gt ts P fr n) (p x t:Nat) (hp:p<P) (hx0:x≠0) (hx:x<4294967296) (h0:fr p=0) (ht:ts[p/256]? =some (some t)):Calls Tryz.prog 255 #[g,.int .i64 p,.int .u32 (x:Int)] w (ew w g gt ts P fr p x):=by
 obtain ⟨o,ho,hc,hcf⟩:=h.slot hp;rw [ht] at ho
 cases ho
 unfold nz at hc;have c0:=h.blk.cell 0 rfl;have hl:p/256<ts.length:=(List.getElem?_eq_some_iff.1 ht).1;have hs:=h.small;have q1:(p:Int).tdiv 256=((p/256:Nat):Int):=rfl;have q2:(p:Int).tmod 256=((p% 256:Nat):Int):=rfl;have b2:(p:Int)≤524288:=by omega
 have b3:((p% 256:Nat):Int)<256:=by omega
 have w1:IntKind.i64.wrap ((p:Int)/256)=((p/256:Nat):Int):=by rw [IntKind.wrap_i64];omega
 have w2:IntKind.i64.wrap ((p:Int)% 256)=((p% 256:Nat):Int):=by rw [IntKind.wrap_i64];omega
 have v1:((p:Int)/256).toNat=p/256:=by omega
 have v2:((p:Int)% 256).toNat=p% 256:=by omega
 have hcu:=fy (fr:=fr) (p:=p) (x:=x) (a:=256*(p/256)) (b:=256*(p/256)+256) (by omega) (by omega);rw [if_pos h0,if_neg hx0] at hcu;obtain ⟨c,hcd⟩:∃c,cnt (bB fr) (256*(p/256)) (256*(p/256)+256)=c:=⟨_,rfl⟩;have hcl:c≤256:=by rw [←hcd];have:=be (bB fr) (256*(p/256)) (256*(p/256)+256);omega
 rw [hcd] at hcu;obtain ⟨⟨u,k0⟩,ht2,k1,k2,k3,k4,k5,hE⟩:=h.setf hp hx ht 1 c hcd ((c:Int)+1) (by omega);have HE:=ae hE;have hxz:((x:Int)==0)=false:=by rw [beq_eq_false_iff_ne];omega
 have hcz:(((c:Int)+1)==0)=false:=by rw [beq_eq_false_iff_ne];omega
 generalize ts.length=L at*;have b1:((p/256:Nat):Int)<(L:Int):=by omega
 have b4:(c:Int)≤256:=by omega
 clear h ht hcu hcd hl hE
 go_enter Tryz.func255,Tryz.ntmps255
 go_wp2;go_end0;exact ⟨rfl,ts,_,(HE.out _ rfl).1,(HE.out _ rfl).2,fun k hk=> .inl hk⟩
theorem uK (h:aM w g gt ts P fr n) (p x:Nat) (hp:p<P) (hx0:x≠0) (hx:x<4294967296) (h0:fr p=0) (ht:ts[p/256]? =some none):Calls Tryz.prog 255 #[g,.int .i64 p,.int .u32 (x:Int)] w (ew w g gt ts P fr p x):=by
 obtain ⟨o,ho,hc,hcf⟩:=h.slot hp;rw [ht] at ho
 cases ho
 unfold nz at hc;have c0:=h.blk.cell 0 rfl;have hl:p/256<ts.length:=(List.getElem?_eq_some_iff.1 ht).1;have hs:=h.small;have q1:(p:Int).tdiv 256=((p/256:Nat):Int):=rfl;have q2:(p:Int).tmod 256=((p% 256:Nat):Int):=rfl;have b2:(p:Int)≤524288:=by omega
 have b3:((p% 256:Nat):Int)<256:=by omega
 have w1:IntKind.i64.wrap ((p:Int)/256)=((p/256:Nat):Int):=by rw [IntKind.wrap_i64];omega
 have w2:IntKind.i64.wrap ((p:Int)% 256)=((p% 256:Nat):Int):=by rw [IntKind.wrap_i64];omega
 have v1:((p:Int)/256).toNat=p/256:=by omega
 have v2:((p:Int)% 256).toNat=p% 256:=by omega
 have hcu:=fy (fr:=fr) (p:=p) (x:=x) (a:=256*(p/256)) (b:=256*(p/256)+256) (by omega) (by omega);rw [if_pos h0,if_neg hx0] at hcu;obtain ⟨c,hcd⟩:∃c,cnt (bB fr) (256*(p/256)) (256*(p/256)+256)=c:=⟨_,rfl⟩;have hcl:c≤256:=by rw [←hcd];have:=be (bB fr) (256*(p/256)) (256*(p/256)+256);omega
 rw [hcd] at hcu;have hxz:((x:Int)==0)=false:=by rw [beq_eq_false_iff_ne];omega
 have hcz:(((c:Int)+1)==0)=false:=by rw [beq_eq_false_iff_ne];omega
 have HM:=ae (h.more ht);have HL:=ae hl;have HCD:=ae hcd;have HCU:=ae hcu;have e1:∀o,(w.alloc o).cell? ⟨gt,p/256,none⟩=some (.pointer none):=fun o=>((h.row.alloc o).cell (p/256) (by rw [List.getElem?_map,ht];rfl))
 have e2:∀o,(w.alloc o).frozen? ⟨gt,p/256,none⟩=false:=fun o=>(h.row.alloc o).free _
 generalize hLd:ts.length=L at*;have b1:((p/256:Nat):Int)<(L:Int):=by omega
 have b4:(c:Int)≤256:=by omega
 clear h ht hcu hcd hl
 go_enter Tryz.func255,Tryz.ntmps255
 go_upto_region 3 with fail
 obtain ⟨W1,hW1⟩:∃W1,(w.alloc (.cells Tryz.zeroCells351 351)).setCell ⟨gt,p/256,none⟩ (.pointer (some ⟨w.heap.size,0,none⟩))=W1:=⟨_,rfl⟩;rw [hW1];obtain ⟨g1,g2⟩:=HM.out W1 (by rw [←hW1,pP]);have ht1:(ts.set (p/256) (some w.heap.size))[p/256]? =some (some w.heap.size):=by rw [List.getElem?_set,if_pos rfl,if_pos (by rw [hLd];exact HL.out)]
 obtain ⟨o,ho,hc1,hcf1⟩:=g1.slot hp;rw [ht1] at ho
 cases ho
 unfold nz at hc1;obtain ⟨⟨u,k0⟩,ht2,k1,k2,k3,k4,k5,hE⟩:=g1.setf hp hx ht1 1 c HCD.out ((c:Int)+1) (by have:=HCU.out;omega);have HE:=ae hE;have HG:=ae g2;clear g1 g2 hE hW1 HM e1 e2 c0 hc hcf ht1;go_wp2;go_end0;exact ⟨rfl,_,_,(HE.out _ rfl).1,HG.out.trans (HE.out _ rfl).2 (fun k hk=>(qo hk).imp id (fun e=>by rw [e];exact Nat.le_refl _)),fun k hk=>(qo hk).imp id (fun e=>by rw [e];exact Nat.le_refl _)⟩
theorem sd (h:aM w g gt ts P fr n) (p:Nat) (hp:p<P) (h0:fr p≠0):Calls Tryz.prog 255 #[g,.int .i64 p,.int .u32 0] w (ew w g gt ts P fr p 0):=by
 obtain ⟨o,ho,hc,hcf⟩:=h.slot hp;obtain ⟨t,rfl⟩:∃t,o=some t:=by
  cases o with
  |none=>
   have:=h.nil _ ho (p% 256) (Nat.mod_lt _ (by decide));rw [show 256*(p/256)+p% 256=p by omega] at this;exact absurd this h0
  |some t=>exact ⟨t,rfl⟩
 have ht:=ho;clear ho;unfold nz at hc;have c0:=h.blk.cell 0 rfl;have hl:p/256<ts.length:=(List.getElem?_eq_some_iff.1 ht).1;have hs:=h.small;have q1:(p:Int).tdiv 256=((p/256:Nat):Int):=rfl;have q2:(p:Int).tmod 256=((p% 256:Nat):Int):=rfl;have b2:(p:Int)≤524288:=by omega
 have b3:((p% 256:Nat):Int)<256:=by omega
 have w1:IntKind.i64.wrap ((p:Int)/256)=((p/256:Nat):Int):=by rw [IntKind.wrap_i64];omega
 have w2:IntKind.i64.wrap ((p:Int)% 256)=((p% 256:Nat):Int):=by rw [IntKind.wrap_i64];omega
 have v1:((p:Int)/256).toNat=p/256:=by omega
 have v2:((p:Int)% 256).toNat=p% 256:=by omega
 have hcu:=fy (fr:=fr) (p:=p) (x:=0) (a:=256*(p/256)) (b:=256*(p/256)+256) (by omega) (by omega);rw [if_neg h0,if_pos rfl] at hcu;obtain ⟨c,hcd⟩:∃c,cnt (bB fr) (256*(p/256)) (256*(p/256)+256)=c+1:=⟨cnt (bB fr) (256*(p/256)) (256*(p/256)+256)-1,by omega⟩;have hcl:c≤256:=by have:=be (bB fr) (256*(p/256)) (256*(p/256)+256);omega
 rw [hcd] at hcu;obtain ⟨⟨u,k0⟩,ht2,k1,k2,k3,k4,k5,hE⟩:=h.setf (x:=0) hp (by decide) ht (-1) (c+1) hcd (c:Int) (by omega);rw [show ((0:Nat):Int)=0 from rfl] at k1 k2 k3 k4 k5 hE;have HE:=ae hE;obtain ⟨n1,n2⟩:=h.tne ht;have hgg:=h.gne;have HU:=ae hcu;have HT:=ae ht;rw [show ((c+1:Nat):Int)=(c:Int)+1 by omega] at k1;have hd:IntKind.i64.wrap ((c:Int)+1+ -1)=(c:Int):=by rw [IntKind.wrap_i64];omega
 have e5:∀a b d,(((w.setCell ⟨t,p% 256,none⟩ a).setCell ⟨t,256,none⟩ b).setCell ⟨g,2,none⟩ d).cell? ⟨gt,p/256,none⟩=some (.pointer (some ⟨t,0,none⟩)):=fun a b d=>(((h.row.setOther ⟨t,p% 256,none⟩ a (Ne.symm n2)).setOther ⟨t,256,none⟩ b (Ne.symm n2)).setOther ⟨g,2,none⟩ d (Ne.symm hgg)).cell (p/256) (by rw [List.getElem?_map,ht];rfl)
 have e6:∀a b d,(((w.setCell ⟨t,p% 256,none⟩ a).setCell ⟨t,256,none⟩ b).setCell ⟨g,2,none⟩ d).frozen? ⟨gt,p/256,none⟩=false:=fun a b d=>(((h.row.setOther ⟨t,p% 256,none⟩ a (Ne.symm n2)).setOther ⟨t,256,none⟩ b (Ne.symm n2)).setOther ⟨g,2,none⟩ d (Ne.symm hgg)).free _
 generalize ts.length=L at*;have b1:((p/256:Nat):Int)<(L:Int):=by omega
 have b4:(c:Int)≤256:=by omega
 clear h ht hcu hcd hl hE n1 n2 hgg;by_cases hcz:c=0
 ·have hczi:((c:Int)==0)=true:=by rw [beq_iff_eq];omega
  have hLESS:=(HE.out _ rfl).1.less (i:=p/256) (t:=t) HT.out (by have:=HU.out;omega);have HLS:=ae hLESS;clear hLESS hcz
  go_enter Tryz.func255,Tryz.ntmps255
  go_wp2;go_end0;obtain ⟨r1,r2⟩:=HLS.out _ rfl;refine ⟨rfl,_,_,r1,(HE.out _ rfl).2.trans r2 (fun k hk=> .inl hk),fun k hk=> .inl ?_⟩;rcases hk with hk|hk|hk
  ·exact .inl hk
  ·exact .inr (.inl hk)
  ·rcases List.mem_or_eq_of_mem_set hk with hk|hk
   ·exact .inr (.inr hk)
   ·cases hk
 ·have hczi:((c:Int)==0)=false:=by rw [beq_eq_false_iff_ne];omega
  go_enter Tryz.func255,Tryz.ntmps255
  go_wp2;go_end0;exact ⟨rfl,ts,_,(HE.out _ rfl).1,(HE.out _ rfl).2,fun k hk=> .inl hk⟩
theorem uJ (h:aM w g gt ts P fr n) (p x:Nat) (hp:p<P) (hx0:x≠0) (hx:x<4294967296) (h0:fr p=0):Calls Tryz.prog 255 #[g,.int .i64 p,.int .u32 (x:Int)] w (ew w g gt ts P fr p x):=by
 obtain ⟨o,ho,_⟩:=h.slot hp
 cases o with
 |none=>exact uK h p x hp hx0 hx h0 ho
 |some t=>exact uL h p x t hp hx0 hx h0 ho
end
section
variable {w:World} {g gt:Nat} {ts:List (Option Nat)} {P:Nat} {fr:Nat→Nat} {n:Int}
def dn (w:World) (g gt:Nat) (ts:List (Option Nat)) (P:Nat) (fr:Nat→Nat) (p x:Nat) (v:Value) (e:Ending) (w':World):Prop:=
 e= .returned v∧∃ts' n',aM w' g gt ts' P (co fr p x) n'∧Fr (aG g gt ts) w w'∧∀k,aG g gt ts' k→aG g gt ts k∨w.heap.size≤k
theorem wA (h:aM w g gt ts P fr n) (p f:Nat) (hp:p<P) (hf:f≤4096) (h0:fr p=0):Calls Tryz.prog 253 #[g,.int .i64 p,.int .i64 f] w (dn w g gt ts P fr p (f+1) (.int .i64 0)):=by
 have hfa:Fr (fun _=>False) w (w.alloc (.cells #[.int .i64 p] 3)):=(Fr.refl _ w).alloc _;have h1:=h.frame hfa (fun _ _ h=>h);have HI:=ae (lN h1 p hp w.heap.size ((ak.new w [.int .i64 p] 3).cell 0 rfl));have HG:=ae (jO h1 p hp);rw [h0] at HG;have HS:=ae (uJ h1 p (f+1) hp (by omega) (by omega) h0);rw [show ((f+1:Nat):Int)=(f:Int)+1 by omega] at HS;have HE:=ae (show∀e w',ew (w.alloc (.cells #[.int .i64 p] 3)) g gt ts P fr p (f+1) e w'→e= .returned (.tuple #[])∧dn w g gt ts P fr p (f+1) (.int .i64 0) (.returned (.int .i64 0)) w' from
  fun e w' ⟨he,ts',n',q1,q2,q3⟩=>⟨he,rfl,ts',n',q1,(hfa.mono (S':=aG g gt ts) (fun _ h=>h.elim)).trans q2 (fun _ h=> .inl h),fun k hk=>(q3 k hk).imp id (fun h=>by have:=hfa.size;omega)⟩)
 obtain ⟨F,hFd⟩:∃F:Int,(f:Int)=F:=⟨_,rfl⟩;rw [hFd] at HS ⊢;have b1:F≤4096:=by omega
 have b2:0≤F:=by omega
 generalize dn w g gt ts P fr p (f+1) (.int .i64 0)=Q at*;generalize ew (w.alloc (.cells #[.int .i64 p] 3)) g gt ts P fr p (f+1)=Q2 at*;clear h h1 hfa hf hFd
 go_enter Tryz.func253,Tryz.ntmps253
 go_wp2_with fail
 refine (HI.out).mono ?_;rintro e w' ⟨rfl,rfl⟩;go_wp2_with fail
 refine (HG.out).mono ?_;rintro e w' ⟨rfl,rfl⟩;go_wp2_with fail
 refine (HS.out).mono ?_;intro e w' hs;obtain ⟨rfl,hq⟩:=HE.out e w' hs;have HQ:=ae hq;clear hs hq;go_wp2;exact HQ.out
theorem uC (h:aM w g gt ts P fr n) (p f:Nat) (hp:p<P) (h0:fr p=f+1):Calls Tryz.prog 213 #[g,.int .i64 p] w (dn w g gt ts P fr p 0 (.tuple #[.int .i64 f,.int .i64 0])):=by
 have HF:=ae (fb h p f hp h0);have HS:=ae (fun w1 (hf:Fr (fun _=>False) w w1)=>sd (h.frame hf (fun _ _ h=>h)) p hp (by omega));have HE:=ae (show∀w1,Fr (fun _=>False) w w1→∀e w',ew w1 g gt ts P fr p 0 e w'→e= .returned (.tuple #[])∧dn w g gt ts P fr p 0 (.tuple #[.int .i64 f,.int .i64 0]) (.returned (.tuple #[.int .i64 f,.int .i64 0])) w' from
  fun w1 hf e w' ⟨he,ts',n',q1,q2,q3⟩=>⟨he,rfl,ts',n',q1,(hf.mono (S':=aG g gt ts) (fun _ h=>h.elim)).trans q2 (fun _ h=> .inl h),fun k hk=>(q3 k hk).imp id (fun h=>by have:=hf.size;omega)⟩)
 generalize dn w g gt ts P fr p 0 (.tuple #[.int .i64 f,.int .i64 0])=Q at*;clear h h0
 go_enter Tryz.func213,Tryz.ntmps213
 go_wp2_with fail
 refine (HF.out).mono ?_;rintro e w1 ⟨rfl,hf1⟩;have HS1:=ae (HS.out w1 hf1);have HE1:=ae (HE.out w1 hf1);clear hf1;go_wp2_with fail
 refine (HS1.out).mono ?_;intro e w' hs;obtain ⟨rfl,hq⟩:=HE1.out e w' hs;have HQ:=ae hq;clear hs hq;go_wp2;exact HQ.out
theorem rH:(Tryz.prog.info? 348).map (fun i=>(i.zero,i.size,i.bytes))=some (some (.pointer none),1,8):=by kernel_rfl
theorem rK (k:Nat) (hk:k≤16777216) (X:Int) (hX:X=(k:Int)) (w:World):(Instr.makeSlice 317 (.int .i64 X) (.int .i64 X)).run Tryz.prog w= .ok (.slice (some ⟨w.heap.size,0,none⟩) k k) (w.alloc (.cells (List.replicate k (Value.pointer none)).toArray 348)):=by
 obtain ⟨i0,hi,hz,hs,hb⟩:=info_parts rH;subst hX;have h:=run_makeSlice (P:=Tryz.prog) w 317 348 i0 (.pointer none) Tryz.underlying317 hi hz .i64 .i64 (k:Int) (k:Int) (by omega) (Int.le_refl _) (by rw [hs,Int.toNat_natCast];omega) (by rw [hb];omega) (by omega);rw [hs,Int.toNat_natCast,Nat.mul_one,show (Value.pointer none).cells= #[.pointer none] from rfl,gG] at h;rw [h];simp
theorem uD (P:Nat) (h1:1≤P) (h2:P≤524288) (w:World):Calls Tryz.prog 181 #[.int .i64 P] w fun e w'=>∃g gt ts n,e= .returned (.tuple #[.pointer (some ⟨g,0,none⟩),.int .i64 0])∧aM w' g gt ts P (fun _=>0) n∧(∀k,aG g gt ts k→w.heap.size≤k)∧Fr (fun _=>False) w w':=by
 have q1:((P:Int)+256-1).tdiv 256=(((P+255)/256:Nat):Int):=by
  rw [show (P:Int)+256-1=((P+255:Nat):Int) by omega];rfl
 have hmk:=rK ((P+255)/256) (by omega) (((P:Int)+255)/256) (by omega);have hend:∀W,W=(w.alloc (.cells (List.replicate ((P+255)/256) (Value.pointer none)).toArray 348)).alloc (.cells #[.slice (some ⟨w.heap.size,0,none⟩) ((P+255)/256) ((P+255)/256),.int .i64 P,.int .i64 0] 319)→
   aM W (w.heap.size+1) w.heap.size (List.replicate ((P+255)/256) none) P (fun _=>0) 0∧(∀k,aG (w.heap.size+1) w.heap.size (List.replicate ((P+255)/256) none) k→w.heap.size≤k)∧Fr (fun _=>False) w W:=by
  rintro W rfl;refine ⟨⟨?_,?_,by simp,?_,fun _ _ _ _=>rfl,?_,h1,h2,fun _=>by decide,fun _ _=>rfl⟩,?_,((Fr.refl _ w).alloc _).alloc _⟩
  ·have:=ak.new (w.alloc (.cells (List.replicate ((P+255)/256) (Value.pointer none)).toArray 348)) [.slice (some ⟨w.heap.size,0,none⟩) ((P+255)/256) ((P+255)/256),.int .i64 P,.int .i64 0] 319;rw [World.size_alloc] at this;rw [List.length_replicate];exact this
  ·rw [List.map_replicate];exact (ak.new w _ _).alloc _
  ·intro i t hi;rw [List.getElem?_replicate] at hi;split at hi<;>cases hi
  ·intro i j t hi;rw [List.getElem?_replicate] at hi;split at hi<;>cases hi
  ·rintro k (h|h|h)
   ·omega
   ·omega
   ·have:=List.eq_of_mem_replicate h;cases this
 have HEND:=ae hend;clear hend;generalize (List.replicate ((P+255)/256) (Value.pointer none)).toArray=Z at*
 go_enter Tryz.func181,Tryz.ntmps181
 go_wp2;go_ret2;exact ⟨_,_,_,_,rfl,HEND.out _ rfl⟩
end
theorem jj {w:World} {a b:Nat} {c c':List Value} {t t':TypeId} (h:ak w a c t) (h':ak w b c' t') (ht:t≠t'):a≠b:=fun e=>by
 unfold ak at h h';rw [e,h'] at h;simp only [Option.some.injEq,Obj.cells.injEq] at h;exact ht h.2.1.symm
section
variable {w:World} {p Rm Pg Us Hg:Nat} {Tm:Int} {vw vt vb:Value} {ws:List Nat} {tk:List Bool} {bk:List Nat} {g gt:Nat} {ts:List (Option Nat)} {P:Nat} {fr:Nat→Nat} {n:Int}
theorem cE (h:aZ w p vw vt vb ws tk bk Rm Pg Us Hg Tm) (h':aM w g gt ts P fr n) {k:Nat} (hk:bn p vw vt vb k):¬aG g gt ts k:=by
 intro hg;have ho:∀{c:List Value} {t:TypeId},ak w k c t→t≠307→t≠46→t≠4→t≠3→False:=fun hb t1 t2 t3 t4=>by
  rcases hk with hk|hk|hk|hk
  ·exact jj hb h.blk t1 (by rw [hk])
  ·exact bJ h.rw hb (Ne.symm t2) hk
  ·exact bJ h.rt hb (Ne.symm t3) hk
  ·exact bJ h.rb hb (Ne.symm t4) hk
 rcases hg with hg|hg|hg
 ·exact ho (by rw [hg];exact h'.blk) (by decide) (by decide) (by decide) (by decide)
 ·exact ho (by rw [hg];exact h'.row) (by decide) (by decide) (by decide) (by decide)
 ·obtain ⟨i,hi⟩:=List.mem_iff_getElem?.1 hg;exact ho (h'.tab i k hi) (by decide) (by decide) (by decide) (by decide)
theorem fc (h:aZ w p vw vt vb ws tk bk Rm Pg Us Hg Tm) {m:Nat} {c:List Value} (hm:ak w m c 219):¬bn p vw vt vb m:=by
 rintro (hk|hk|hk|hk)
 ·exact jj hm h.blk (by decide) hk
 ·exact bJ h.rw hm (by decide) hk
 ·exact bJ h.rt hm (by decide) hk
 ·exact bJ h.rb hm (by decide) hk
theorem fE (h:aM w g gt ts P fr n) {m:Nat} {c:List Value} (hm:ak w m c 219):¬aG g gt ts m:=by
 rintro (hk|hk|hk)
 ·exact jj hm h.blk (by decide) hk
 ·exact jj hm h.row (by decide) hk
 ·obtain ⟨i,hi⟩:=List.mem_iff_getElem?.1 hk;exact jj hm (h.tab i m hi) (by decide) rfl
end
def bl (w:World) (m:Nat) (S:Nat→Prop) (Pg W Rm Us Hg:Nat) (mp:Nat→Bool) (M:Nat→Nat):Prop:=
 ∃p vw vt vb ws tk bk Tm g gt ts fr n,ak w m [.pointer (some ⟨p,0,none⟩),.pointer (some ⟨g,0,none⟩),.int .i64 W] 219∧aZ w p vw vt vb ws tk bk Rm Pg Us Hg Tm∧aM w g gt ts (W/Pg) fr n∧
  (W% Pg=0∧W≤524288∧1≤W)∧(∀q f,fr q=f+1→tk[f]? =some true)∧(∀q q',fr q=fr q'→fr q≠0→q=q')∧Us=cnt (bB fr) 0 (W/Pg)∧(∀q,mp q=bB fr q)∧
  (∀a f,a<W→fr (a/Pg)=f+1→M a=ws.getD (f*Pg+a% Pg) 0)∧∀k,S k↔(k=m∨bn p vw vt vb k∨aG g gt ts k)
theorem bl.frame {T S:Nat→Prop} {w w':World} {m Pg W Rm Us Hg:Nat} {mp:Nat→Bool} {M:Nat→Nat} (h:bl w m S Pg W Rm Us Hg mp M) (hf:Fr T w w') (hn:∀k,S k→¬T k):bl w' m S Pg W Rm Us Hg mp M:=by
 obtain ⟨p,vw,vt,vb,ws,tk,bk,Tm,g,gt,ts,fr,n,q1,q2,q3,q4,q5,q6,q7,q8,q9,q10⟩:=h;exact ⟨p,vw,vt,vb,ws,tk,bk,Tm,g,gt,ts,fr,n,q1.frame hf (hn _ ((q10 _).2 (.inl rfl))),q2.frame hf (fun k hk=>hn k ((q10 k).2 (.inr (.inl hk)))),q3.frame hf (fun k hk=>hn k ((q10 k).2 (.inr (.inr hk)))),q4,q5,q6,q7,q8,q9,q10⟩
theorem bl.keep {S:Nat→Prop} {w w':World} {m Pg W Rm Us Hg:Nat} {mp:Nat→Bool} {M:Nat→Nat} (h:bl w m S Pg W Rm Us Hg mp M) (hf:Fr (fun _=>False) w w'):bl w' m S Pg W Rm Us Hg mp M:=h.frame hf (fun _ _ h=>h)
theorem bl.at {S:Nat→Prop} {w:World} {m Pg W Rm Us Hg:Nat} {mp:Nat→Bool} {M:Nat→Nat} (h:bl w m S Pg W Rm Us Hg mp M):1≤Pg∧Pg≤256∧W≤524288∧W% Pg=0∧Us≤Rm∧Rm≤4096∧Hg≤Rm∧Us=cnt mp 0 (W/Pg)∧1≤W:=by
 obtain ⟨p,vw,vt,vb,ws,tk,bk,Tm,g,gt,ts,fr,n,q1,q2,q3,q4,q5,q6,q7,q8,q9,q10⟩:=h;refine ⟨q2.page1,q2.page2,q4.2.1,q4.1,?_,q2.room1,q2.high1,by rw [q7];exact aJ (fun i _ _=>(q8 i).symm),q4.2.2⟩;have:=q2.cnt;have:=q2.most;omega
theorem dq {a W Pg:Nat} (h:a<W) (hp:1≤Pg) (hw:W% Pg=0):a/Pg<W/Pg:=by
 have h1:W=Pg*(W/Pg):=by have:=Nat.div_add_mod W Pg;omega
 exact (Nat.div_lt_iff_lt_mul (by omega)).2 (by rw [Nat.mul_comm,←h1];exact h)
section
variable {w:World} {m Pg W Rm Us Hg:Nat} {S:Nat→Prop} {mp:Nat→Bool} {M:Nat→Nat}
theorem bl.ptrs (h:bl w m S Pg W Rm Us Hg mp M):∃p g vw vt vb ws tk bk Tm,w.cell? ⟨m,0,none⟩=some (.pointer (some ⟨p,0,none⟩))∧w.cell? ⟨m,1,none⟩=some (.pointer (some ⟨g,0,none⟩))∧w.cell? ⟨m,2,none⟩=some (.int .i64 W)∧aZ w p vw vt vb ws tk bk Rm Pg Us Hg Tm:=by
 obtain ⟨p,vw,vt,vb,ws,tk,bk,Tm,g,gt,ts,fr,n,q1,q2,_⟩:=h;exact ⟨p,g,vw,vt,vb,ws,tk,bk,Tm,q1.cell 0 rfl,q1.cell 1 rfl,q1.cell 2 rfl,q2⟩
theorem bO (h:bl w m S Pg W Rm Us Hg mp M):Calls Tryz.prog 135 #[m] w fun e w'=>e= .returned (.bool false)∧w=w':=by
 obtain ⟨p,g,vw,vt,vb,ws,tk,bk,Tm,c0,_⟩:=h.ptrs;clear h
 go_enter Tryz.func135,Tryz.ntmps135
 go_wp2;go_ret;exact ⟨rfl,rfl⟩
theorem cD (h:bl w m S Pg W Rm Us Hg mp M):Calls Tryz.prog 67 #[m] w fun e w'=>e= .returned (.int .i64 W)∧w=w':=by
 have HN:=ae (bO h);obtain ⟨p,g,vw,vt,vb,ws,tk,bk,Tm,c0,c1,c2,hp⟩:=h.ptrs;clear h hp
 go_enter Tryz.func67,Tryz.ntmps67
 go_wp2_with fail
 refine (HN.out).mono ?_;rintro e w' ⟨rfl,rfl⟩;go_wp2;go_ret;exact ⟨rfl,rfl⟩
theorem dv (h:bl w m S Pg W Rm Us Hg mp M):Calls Tryz.prog 148 #[m] w fun e w'=>e= .returned (.int .i64 Pg)∧w=w':=by
 have HN:=ae (bO h);obtain ⟨p,g,vw,vt,vb,ws,tk,bk,Tm,c0,c1,c2,hp⟩:=h.ptrs;have HP:=ae (ij hp);clear h hp
 go_enter Tryz.func148,Tryz.ntmps148
 go_wp2_with fail
 refine (HN.out).mono ?_;rintro e w' ⟨rfl,rfl⟩;go_wp2_with fail
 refine (HP.out).mono ?_;rintro e w' ⟨rfl,rfl⟩;go_wp2;go_ret;exact ⟨rfl,rfl⟩
theorem kL (h:bl w m S Pg W Rm Us Hg mp M):Calls Tryz.prog 78 #[m] w fun e w'=>e= .returned (.int .i64 Us)∧w=w':=by
 have HN:=ae (bO h);obtain ⟨p,g,vw,vt,vb,ws,tk,bk,Tm,c0,c1,c2,hp⟩:=h.ptrs;have HP:=ae (rz hp);clear h hp
 go_enter Tryz.func78,Tryz.ntmps78
 go_wp2_with fail
 refine (HN.out).mono ?_;rintro e w' ⟨rfl,rfl⟩;go_wp2_with fail
 refine (HP.out).mono ?_;rintro e w' ⟨rfl,rfl⟩;go_wp2;go_ret;exact ⟨rfl,rfl⟩
theorem rP (h:bl w m S Pg W Rm Us Hg mp M):Calls Tryz.prog 79 #[m] w fun e w'=>e= .returned (.int .i64 Hg)∧w=w':=by
 have HN:=ae (bO h);obtain ⟨p,g,vw,vt,vb,ws,tk,bk,Tm,c0,c1,c2,hp⟩:=h.ptrs;have HP:=ae (rn hp);clear h hp
 go_enter Tryz.func79,Tryz.ntmps79
 go_wp2_with fail
 refine (HN.out).mono ?_;rintro e w' ⟨rfl,rfl⟩;go_wp2_with fail
 refine (HP.out).mono ?_;rintro e w' ⟨rfl,rfl⟩;go_wp2;go_ret;exact ⟨rfl,rfl⟩
theorem rS (h:bl w m S Pg W Rm Us Hg mp M):Calls Tryz.prog 183 #[m] w fun e w'=>e= .returned (.int .i64 Rm)∧w=w':=by
 have HN:=ae (bO h);obtain ⟨p,g,vw,vt,vb,ws,tk,bk,Tm,c0,c1,c2,hp⟩:=h.ptrs;have HP:=ae (rx hp);clear h hp
 go_enter Tryz.func183,Tryz.ntmps183
 go_wp2_with fail
 refine (HN.out).mono ?_;rintro e w' ⟨rfl,rfl⟩;go_wp2_with fail
 refine (HP.out).mono ?_;rintro e w' ⟨rfl,rfl⟩;go_wp2;go_ret;exact ⟨rfl,rfl⟩
def xc (w:World) (f i:Nat) (e:Ending) (w':World):Prop:=e= .returned (.tuple #[.int .i64 f,.int .i64 i,.int .i64 0])∧Fr (fun _=>False) w w'
theorem nh {p g gt n0:Nat} {vw vt vb:Value} {ws:List Nat} {tk:List Bool} {bk:List Nat} {Tm n:Int} {ts:List (Option Nat)} {fr:Nat→Nat} (h:bl w m S Pg W Rm Us Hg mp M)
  (hb:ak w m [.pointer (some ⟨p,0,none⟩),.pointer (some ⟨g,0,none⟩),.int .i64 W] 219) (hp:aZ w p vw vt vb ws tk bk Rm Pg Us Hg Tm) (hg:aM w g gt ts (W/Pg) fr n) (a f:Nat) (ha:a<W) (hf:fr (a/Pg)=f+1):
  Calls Tryz.prog 263 #[m,.int .i64 a] w (xc w f (a% Pg)):=by
 have HN:=ae (bO h);obtain ⟨p1,p2,hW,hm,_⟩:=h.at;have c0:=hb.cell 0 rfl;have c1:w.drew.cell? ⟨m,1,none⟩=_:=hb.drew.cell 1 rfl;have c2:=hb.cell 2 rfl;have HP:=ae (ij hp);have hg':=hg.frame (S:=fun _=>False) ((Fr.refl _ w).drew) (fun _ _ h=>h);have HF:=ae (fun w' (hw:Fr (fun _=>False) w.drew w')=>fb (hg'.frame hw (fun _ _ h=>h)) (a/Pg) f (dq ha p1 hm) hf);have HC1:=ae (fun w' (hw:Fr (fun _=>False) w.drew w')=>(hb.drew.frame hw (fun h=>h)).cell 1 rfl);have hfd:=ae ((Fr.refl (fun _=>False) w).drew);have q1:(a:Int).tdiv (Pg:Int)=((a/Pg:Nat):Int):=bV a Pg;have q2:(a:Int).tmod (Pg:Int)=((a% Pg:Nat):Int):=rfl;have hd1:a/Pg≤a:=Nat.div_le_self _ _;have hd2:a% Pg<Pg:=Nat.mod_lt _ (by omega);generalize a/Pg=A at*;generalize a% Pg=B at*;have hkz:¬Pg=0:=by omega
 have b1:(a:Int)<(W:Int):=by omega
 have b2:(W:Int)≤524288:=by omega
 have b3:(A:Int)≤524288:=by omega
 have b4:(B:Int)≤256:=by omega
 clear h hb hp hg hg' hf hm
 go_enter Tryz.func263,Tryz.ntmps263
 go_wp2_with fail
 refine (HN.out).mono ?_;rintro e w' ⟨rfl,rfl⟩;go_wp2_with fail
 refine (HP.out).mono ?_;rintro e w' ⟨rfl,rfl⟩;go_wp2;refine ar (fun w'=>Fr (fun _=>False) w.drew w') (by kernel_rfl) (by kernel_rfl) (Fr.refl _ _) ?_;refine ag (.pointer (some ⟨m,0,none⟩)) rfl (fun w hw=>by go_simp) ?_;simp only [Act.put,aa,ab,ac];refine ag (.pointer (some ⟨m,0,none⟩)) rfl (fun w hw=>by go_simp) ?_;simp only [Act.put,aa,ab,ac];refine ag (.pointer (some ⟨m,1,none⟩)) rfl (fun w hw=>by go_simp) ?_;simp only [Act.put,aa,ab,ac];refine ag (.pointer (some ⟨g,0,none⟩)) rfl (fun w hw=>by have d:=HC1.out _ hw;go_simp) ?_;simp only [Act.put,aa,ab,ac];refine ag (.int .i64 a) rfl (fun w hw=>by go_simp) ?_;simp only [Act.put,aa,ab,ac];refine ag (.int .i64 Pg) rfl (fun w hw=>by go_simp) ?_;simp only [Act.put,aa,ab,ac];refine ag (.int .i64 A) rfl (fun w hw=>by go_simp;rw [IntKind.wrap_i64];omega) ?_;simp only [Act.put,aa,ab,ac];refine aA (.tuple #[.int .i64 f,.int .i64 0]) 251 #[.pointer (some ⟨g,0,none⟩),.int .i64 A] rfl (fun w=>by go_simp) (fun w hw=>(HF.out w hw).mono fun e w' h=>⟨h.1,hw.trans h.2 (fun _ h=>h.elim)⟩) ?_;simp only [Act.put,aa,ab,ac];refine ag (.tuple #[.int .i64 f,.int .i64 0]) rfl (fun w hw=>by go_simp) ?_;simp only [Act.put,aa,ab,ac];refine ag (.int .i64 f) rfl (fun w hw=>by go_simp) ?_;simp only [Act.put,aa,ab,ac];refine ag (.int .i64 0) rfl (fun w hw=>by go_simp) ?_;simp only [Act.put,aa,ab,ac];refine ag (.int .i64 f) rfl (fun w hw=>by go_simp) ?_;simp only [Act.put,aa,ab,ac];refine ag (.int .i64 0) rfl (fun w hw=>by go_simp) ?_;simp only [Act.put,aa,ab,ac];refine wpQuiet_nil ?_;intro w1 hw1;have HW:=ae (hfd.out.trans hw1 (fun _ h=>h.elim));clear hw1 c1;go_wp2;refine ar (fun w'=>w'=w1.drew) (by kernel_rfl) (by kernel_rfl) rfl ?_;refine ag (.int .i64 f) rfl (fun w hw=>by go_simp) ?_;simp only [Act.put,aa,ab,ac];refine ag (.int .i64 a) rfl (fun w hw=>by go_simp) ?_;simp only [Act.put,aa,ab,ac];refine ag (.int .i64 Pg) rfl (fun w hw=>by go_simp) ?_;simp only [Act.put,aa,ab,ac];refine ag (.int .i64 B) rfl (fun w hw=>by go_simp) ?_;simp only [Act.put,aa,ab,ac];refine ag (.int .i64 0) rfl (fun w hw=>by go_simp) ?_;simp only [Act.put,aa,ab,ac];refine ag (.int .i64 f) rfl (fun w hw=>by go_simp) ?_;simp only [Act.put,aa,ab,ac];refine ag (.int .i64 B) rfl (fun w hw=>by go_simp) ?_;simp only [Act.put,aa,ab,ac];refine ag (.int .i64 0) rfl (fun w hw=>by go_simp) ?_;simp only [Act.put,aa,ab,ac];refine wpQuiet_nil ?_;rintro w2 rfl;go_wp2
 go_ret3
 exact ⟨rfl,HW.out.drew⟩
theorem dH (h:bl w m S Pg W Rm Us Hg mp M) (a:Nat) (ha:a<W) (hp:mp (a/Pg)=true):Calls Tryz.prog 223 #[m,.int .i64 a] w fun e w'=>e= .returned (.tuple #[.int .u64 ((M a:Nat):Int),.int .i64 0])∧Fr (fun _=>False) w w':=by
 obtain ⟨p,vw,vt,vb,ws,tk,bk,Tm,g,gt,ts,fr,n,q1,q2,q3,q4,q5,q6,q7,q8,q9,q10⟩:=id h;rw [q8] at hp;unfold bB at hp;obtain ⟨f,hf⟩:∃f,fr (a/Pg)=f+1:=⟨fr (a/Pg)-1,by rw [bne_iff_ne] at hp;omega⟩;have HF:=ae (nh (n0:=0) h q1 q2 q3 a f ha hf);rw [q9 a f ha hf];have HL:=ae (fun w1 (hw:Fr (fun _=>False) w w1)=>tH (q2.frame hw (fun _ _ h=>h)) f (a% Pg) (q5 _ f hf) (Nat.mod_lt _ q2.page1));have HC:=ae (fun w1 (hw:Fr (fun _=>False) w w1)=>(q1.frame hw (fun h=>h)).cell 0 rfl);generalize ws.getD (f*Pg+a% Pg) 0=x at*;generalize a% Pg=i at*;clear h q1 q2 q3 q4 q5 q6 q7 q8 q9 q10 hp hf
 go_enter Tryz.func223,Tryz.ntmps223
 go_wp2_with fail
 refine (HF.out).mono ?_;rintro e w1 ⟨rfl,hf1⟩;have c0:=HC.out w1 hf1;have HL1:=ae (HL.out w1 hf1);have HF1:=ae hf1;clear hf1 HL HC HF;go_wp2_with fail
 refine (HL1.out).mono ?_;rintro e w' ⟨rfl,rfl⟩;go_wp2;go_ret2;exact ⟨rfl,HF1.out⟩
def bG (M:Nat→Nat) (a x:Nat) (b:Nat):Nat:=if b=a then x else M b
theorem pm {p g gt f a x:Nat} {vw vt vb:Value} {ws:List Nat} {tk:List Bool} {bk:List Nat} {Tm n:Int} {ts:List (Option Nat)} {fr:Nat→Nat} {w1 w2:World}
  (q1:ak w m [.pointer (some ⟨p,0,none⟩),.pointer (some ⟨g,0,none⟩),.int .i64 W] 219) (q2:aZ w p vw vt vb ws tk bk Rm Pg Us Hg Tm) (q3:aM w g gt ts (W/Pg) fr n) (q4:W% Pg=0∧W≤524288∧1≤W) (q5:∀q f,fr q=f+1→tk[f]? =some true) (q6:∀q q',fr q=fr q'→fr q≠0→q=q') (q7:Us=cnt (bB fr) 0 (W/Pg)) (q8:∀q,mp q=bB fr q)
  (q9:∀a f,a<W→fr (a/Pg)=f+1→M a=ws.getD (f*Pg+a% Pg) 0) (q10:∀k,S k↔(k=m∨bn p vw vt vb k∨aG g gt ts k)) (ha:a<W) (hf:fr (a/Pg)=f+1)
  (hw:Fr (fun _=>False) w w1) (hp:aZ w2 p vw vt vb (ws.set (f*Pg+a% Pg) x) tk bk Rm Pg Us Hg Tm) (hf2:Fr (fun k=>vw.ownBlock=some k) w1 w2):bl w2 m S Pg W Rm Us Hg mp (bG M a x)∧Fr S w w2:=by
 have hpm:=fc q2 q1;refine ⟨⟨p,vw,vt,vb,_,tk,bk,Tm,g,gt,ts,fr,n,(q1.frame hw (fun h=>h)).frame hf2 (fun e=>hpm (.inr (.inl e))),hp,(q3.frame hw (fun _ _ h=>h)).frame hf2 (fun k hk e=>cE q2 q3 (.inr (.inl e)) hk),q4,q5,q6,q7,q8,?_,q10⟩,(hw.mono (S':=S) (fun _ h=>h.elim)).trans hf2 (fun k hk=> .inl ((q10 k).2 (.inr (.inl (.inr (.inl hk))))))⟩;intro b f' hb hfb;unfold bG;have hp1:=q2.page1;have hma:=Nat.mod_lt a (show 0<Pg by omega);have hmb:=Nat.mod_lt b (show 0<Pg by omega);have hfl:=(List.getElem?_eq_some_iff.1 (q5 _ f hf)).1;have hlt:=ja hfl hma q2.len;rw [List.getD_eq_getElem?_getD,List.getElem?_set];by_cases e:b=a
 ·subst e;have:f=f':=by omega
  subst this;rw [if_pos rfl,if_pos rfl,if_pos hlt];rfl
 ·rw [if_neg e];have hne:f*Pg+a% Pg≠f'*Pg+b% Pg:=fun h=>by
   have hff:f=f':=by
    rcases Nat.lt_trichotomy f f' with hl|hl|hl
    ·have:=dd (Pg:=Pg) hl;omega
    ·exact hl
    ·have:=dd (Pg:=Pg) hl;omega
   subst hff;have h1:=q6 (a/Pg) (b/Pg) (by omega) (by omega);have h2:=Nat.div_add_mod a Pg;have h3:=Nat.div_add_mod b Pg;rw [h1] at h2;omega
  rw [if_neg hne,←List.getD_eq_getElem?_getD];exact q9 b f' hb hfb
theorem io (h:bl w m S Pg W Rm Us Hg mp M) (a x:Nat) (ha:a<W) (hp:mp (a/Pg)=true) (hx:x<18446744073709551616):Calls Tryz.prog 224 #[m,.int .i64 a,.int .u64 x] w fun e w'=>e= .returned (.int .i64 0)∧bl w' m S Pg W Rm Us Hg mp (bG M a x)∧Fr S w w':=by
 obtain ⟨p,vw,vt,vb,ws,tk,bk,Tm,g,gt,ts,fr,n,q1,q2,q3,q4,q5,q6,q7,q8,q9,q10⟩:=id h;rw [q8] at hp;unfold bB at hp;obtain ⟨f,hf⟩:∃f,fr (a/Pg)=f+1:=⟨fr (a/Pg)-1,by rw [bne_iff_ne] at hp;omega⟩;have HF:=ae (nh (n0:=0) h q1 q2 q3 a f ha hf);have HL:=ae (fun w1 (hw:Fr (fun _=>False) w w1)=>ry (q2.frame hw (fun _ _ h=>h)) f (a% Pg) x (q5 _ f hf) (Nat.mod_lt _ q2.page1) hx);have HC:=ae (fun w1 (hw:Fr (fun _=>False) w w1)=>(q1.frame hw (fun h=>h)).cell 0 rfl);have HE:=ae (fun w1 w2 hw hp hf2=>pm (w1:=w1) (w2:=w2) (x:=x) q1 q2 q3 q4 q5 q6 q7 q8 q9 q10 ha hf hw hp hf2);generalize f*Pg+a% Pg=i at*;generalize a% Pg=j at*;clear h q1 q2 q3 q4 q5 q6 q7 q8 q9 q10 hp hf hx
 go_enter Tryz.func224,Tryz.ntmps224
 go_wp2_with fail
 refine (HF.out).mono ?_;rintro e w1 ⟨rfl,hf1⟩;have c0:=HC.out w1 hf1;have HL1:=ae (HL.out w1 hf1);have HE1:=ae (fun w2 hp hf2=>HE.out w1 w2 hf1 hp hf2);clear hf1 HL HC HF HE;go_wp2_with fail
 refine (HL1.out).mono ?_;rintro e w2 ⟨rfl,r1,r2⟩;have HQ:=ae (HE1.out w2 r1 r2);clear r1 r2 HE1 HL1;go_wp2;go_ret;exact ⟨rfl,HQ.out.1,HQ.out.2⟩
end
end Go.Proofs.YthahbijbpinneaaGreatDoor
