import Derived.Test.YthahbijbpinneaaGreatDoorA3
set_option maxRecDepth 100000
set_option maxHeartbeats 8000000
set_option linter.all false
namespace Go.Proofs.YthahbijbpinneaaGreatDoor
open Go.RowKit
section
open Go.RowKit Go.Shelf
theorem mA {f:Nat→Bool} {a i:Nat} (h:cnt f a i=0):∀j,a≤j→j<i→f j=false:=fun j h1 h2=>by
 cases hj:f j with
 |false=>rfl
 |true=>have:=ia h1 h2 hj;omega
theorem qx {f:Nat→Bool} {A n K:Nat} (hA:A≤n) (h1:cnt f 0 A≤K) (h2:K<cnt f 0 n):∃j,eW f A n j∧cnt f 0 j=cnt f 0 A:=by
 rw [aw f (Nat.zero_le A) hA] at h2;obtain ⟨i,q1,q2,q3,q4⟩:=lI f A n 0 (by omega);exact ⟨i,⟨q1,q2,q3,mA q4⟩,by rw [aw f (Nat.zero_le A) q1,q4];rfl⟩
theorem vc {w:World} {b g n i j:Nat} {ws:List Nat} (h:aV w b g n ws) (hT:bu w) (hj:eW (au ws) i n j):Calls Tryz.prog 257 #[b,.int .i64 i] w fun e w'=>e= .returned (.tuple #[.int .i64 j,.bool true])∧w=w':=by
 have:=h.small;have:=hj.1;have:=hj.2.1;refine (en h hT i (by omega)).mono ?_;rintro e w' ⟨⟨k,hk,rfl⟩|⟨hk,rfl⟩,hw⟩
 ·have:k=j:=by
   rcases Nat.lt_trichotomy k j with hlt|heq|hgt
   ·have:=hj.2.2.2 k hk.1 hlt;rw [hk.2.2.1] at this;cases this
   ·exact heq
   ·have:=hk.2.2.2 j hj.1 hgt;rw [hj.2.2.1] at this;cases this
  rw [this];exact ⟨rfl,hw⟩
 ·have:=hk j hj.1 hj.2.1;rw [hj.2.2.1] at this;cases this
theorem bL.keep {w w':World} {x b gb n k i:Nat} {v:Value} {f:Nat→Bool} (h:bL w x b gb v n k i f) (hf:Fr (fun _=>False) w w'):bL w' x b gb v n k i f:=h.frame hf (fun h=>h) (fun h=>h) (fun h=>h) (fun _ _ h=>h)
theorem an {S:Nat→Prop} {w w':World} (h:bu w) (hf:Fr S w w') (hn:¬S 1):bu w':=fun i k hk=>by
 have hc:=h i k hk;exact (World.cell?_of_block (w:=w) (hf.block _ (aE hc) hn)).trans hc
theorem pz {w:World} {x b gb n k nb:Nat} {v:Value} {f:Nat→Bool} (h:bL w x b gb v n k nb f) (xb kb K:Nat) (hx:ak w xb [.pointer (some ⟨x,0,none⟩)] 337) (hk:ak w kb [.int .i64 K] 3) (hK:K≤1048576) (hn:n≤1048576) (i:Nat) (hi:i<nb) (hnb:nb≤1048576):
  Calls Tryz.prog 295 #[.int .i64 i,.pointer (some ⟨xb,0,none⟩),.pointer (some ⟨kb,0,none⟩)] w fun e w'=>e= .returned (.bool (decide (K<cnt f 0 (i*k))))∧Fr (fun _=>False) w w':=by
 obtain ⟨g,cap,rfl,hc⟩:=h.at hi;have d0:w.drew.cell? ⟨xb,0,none⟩=_:=hx.drew.cell 0 rfl;have d1:w.drew.cell? ⟨kb,0,none⟩=_:=hk.drew.cell 0 rfl;have d2:w.drew.cell? ⟨x,1,none⟩=_:=h.blk.drew.cell 1 rfl;have d3:w.drew.cell? ⟨g,i,none⟩=_:=hc;have HF:=ae ((Fr.refl (fun _=>False) w).drew);have hdec:decide (K<cnt f 0 (i*k))=decide ((K:Int)<((cnt f 0 (i*k):Nat):Int)):=by rw [decide_eq_decide];omega
 rw [hdec];generalize cnt f 0 (i*k)=N at*;have b1:(i:Int)<(nb:Int):=by omega
 clear h hx hk hc hdec
 go_enter Tryz.func295,Tryz.ntmps295
 go_wp2;refine ar (fun w'=>w'=w.drew) (by kernel_rfl) (by kernel_rfl) rfl ?_;refine ag (.pointer (some ⟨x,0,none⟩)) rfl (fun w hw=>by subst hw;go_simp) ?_;simp only [Act.put,aa,ab,ac];refine ag (.pointer (some ⟨x,0,none⟩)) rfl (fun w hw=>by go_simp) ?_;simp only [Act.put,aa,ab,ac];refine ag (.pointer (some ⟨x,1,none⟩)) rfl (fun w hw=>by go_simp) ?_;simp only [Act.put,aa,ab,ac];refine ag (.slice (some ⟨g,0,none⟩) nb cap) rfl (fun w hw=>by subst hw;go_simp) ?_;simp only [Act.put,aa,ab,ac];refine ag (.int .i64 i) rfl (fun w hw=>by go_simp) ?_;simp only [Act.put,aa,ab,ac];refine ag (.pointer (some ⟨g,i,none⟩)) rfl (fun w hw=>by go_simp) ?_;simp only [Act.put,aa,ab,ac];refine ag (.int .i64 N) rfl (fun w hw=>by subst hw;go_simp) ?_;simp only [Act.put,aa,ab,ac];refine ag (.int .i64 K) rfl (fun w hw=>by subst hw;go_simp) ?_;simp only [Act.put,aa,ab,ac];refine ag (.bool (decide ((K:Int)<(N:Int)))) rfl (fun w hw=>by go_simp) ?_;simp only [Act.put,aa,ab,ac];refine ag (.bool (decide ((K:Int)<(N:Int)))) rfl (fun w hw=>by go_simp) ?_;simp only [Act.put,aa,ab,ac];refine wpQuiet_nil ?_;rintro w2 rfl;go_wp2;go_ret;exact ⟨rfl,HF.out⟩
def mf (f:Nat→Bool) (n K:Nat) (w:World) (e:Ending) (w':World):Prop:=∃a:Nat,e= .returned (.tuple #[.int .i64 a,.bool true])∧a<n∧f a=true∧cnt f 0 a=K∧Fr (fun _=>False) w w'
theorem sm {w:World} {x b gb n k nb:Nat} {v:Value} {f:Nat→Bool} (h:bL w x b gb v n k nb f) (hT:bu w) (hn:n≤nb*k) (hnb:(nb-1)*k<n) (hnb1:1≤nb) (hk:1≤k) (hk2:k≤1024) (K:Nat) (hK:K<cnt f 0 n):Calls Tryz.prog 293 #[x,.int .i64 K] w (mf f n K w):=by
 obtain ⟨ws,hv,hbits⟩:=h.vec;have hbf:au ws=f:=funext hbits;have hsm:=hv.small;have hKs:K≤1048576:=by have:=bW f n;omega
 have hnbs:nb≤1048576:=by
  have:nb-1≤(nb-1)*k:=Nat.le_mul_of_pos_right _ (by omega);omega
 obtain ⟨g,cap,rfl,_⟩:=h.at (show 0<nb by omega);obtain ⟨W,hW⟩:∃W,(w.alloc (.cells #[x] 337)).alloc (.cells #[.int .i64 K] 3)=W:=⟨_,rfl⟩;have hf:Fr (fun _=>False) w W:=by rw [←hW];exact ((Fr.refl _ w).alloc _).alloc _
 have hxb:ak W w.heap.size [.pointer (some ⟨x,0,none⟩)] 337:=by rw [←hW];exact (ak.new w _ _).alloc _
 have hkb:ak W (w.heap.size+1) [.int .i64 K] 3:=by
  rw [←hW];have:=ak.new (w.alloc (.cells #[x] 337)) [.int .i64 K] 3;rwa [World.size_alloc] at this
 obtain ⟨N,hN⟩:∃N,cnt f 0 n=N:=⟨_,rfl⟩;have HALL:=ae (fun w' (hf':Fr (fun _=>False) W w')=>(af ((hxb.frame hf' (fun h=>h)).cell 0 rfl) (af ((hkb.frame hf' (fun h=>h)).cell 0 rfl) (af (((h.keep hf).keep hf').blk.cell 0 rfl) (af (((h.keep hf).keep hf').blk.cell 1 rfl) (af (((h.keep hf).keep hf').blk.cell 2 rfl) (((h.keep hf).keep hf').blk.cell 3 rfl)))))));have HAT:=ae (fun w' (hf':Fr (fun _=>False) W w') j (hj:j<nb)=>((h.keep hf).keep hf').at hj);have HNX:=ae (fun w' (hf':Fr (fun _=>False) W w') i j (hj:eW (au ws) i n j)=>vc ((hv.frame hf (fun h=>h) (fun h=>h)).frame hf' (fun h=>h) (fun h=>h)) (an (an hT hf (fun h=>h)) hf' (fun h=>h)) hj);have hft:∀w',Fr (fun _=>False) W.drew w'→Fr (fun _=>False) W w':=fun w' hf'=>((Fr.refl (fun _=>False) W).drew).trans hf' (fun _ h=>h.elim)
 have hsearch:=pD 295 #[w.heap.size,.pointer (some ⟨w.heap.size+1,0,none⟩)] (enters_of Tryz.func295 (by kernel_rfl) rfl) nb hnbs (fun i=>decide (K<cnt f 0 (i*k)))
  (fun i j hij _ h=>by rw [decide_eq_true_eq] at h ⊢;have:=cQ f (a:=0) (Nat.mul_le_mul_right k hij);omega) W.drew
  (fun i hi w' hf'=>pz ((h.keep hf).keep (hft w' hf')) w.heap.size (w.heap.size+1) K (hxb.frame (hft w' hf') (fun h=>h)) (hkb.frame (hft w' hf') (fun h=>h)) hKs hsm i hi hnbs)
 have HS:=ae hsearch;rw [hbf] at HNX;rw [Nat.min_eq_right hn,hN] at HALL;have hKN:(K:Int)<(N:Int):=by omega
 have hK0:(0:Int)≤(K:Int):=by omega
 have HK:=ae hK;have HFW:=ae hf;have HNB:=ae (af hn hnb);have hnbi:(nb:Int)≤1048576:=by omega
 have hkk:(k:Int)≤1024:=by omega
 have HWW:=ae hW;have dk:W.drew.cell? ⟨w.heap.size+1,0,none⟩=_:=(HALL.out W.drew ((Fr.refl _ W).drew)).2.1;have dx:W.drew.cell? ⟨w.heap.size,0,none⟩=_:=(HALL.out W.drew ((Fr.refl _ W).drew)).1;have d1:W.drew.cell? ⟨x,1,none⟩=_:=(HALL.out W.drew ((Fr.refl _ W).drew)).2.2.2.1;have d3:W.drew.cell? ⟨x,3,none⟩=_:=(HALL.out W.drew ((Fr.refl _ W).drew)).2.2.2.2.2;clear h hT hv hbits hbf hxb hkb hsearch hf hK hN hn hnb
 go_enter Tryz.func293,Tryz.ntmps293
 go_wp2;clear hW;refine ar (fun w'=>w'=W.drew) (by kernel_rfl) (by kernel_rfl) rfl ?_;refine ag (.pointer (some ⟨x,0,none⟩)) rfl (fun w hw=>by subst hw;go_simp) ?_;simp only [Act.put,aa,ab,ac];refine ag (.bool false) rfl (fun w hw=>by go_simp) ?_;simp only [Act.put,aa,ab,ac];refine ag (.bool false) rfl (fun w hw=>by go_simp) ?_;simp only [Act.put,aa,ab,ac];refine al (.int .i64 K) rfl (fun w hw=>by subst hw;go_simp) ?_;simp only [Act.put,aa,ab,ac];refine al (.bool false) rfl (fun w hw=>by go_simp) ?_;simp only [Act.put,aa,ab,ac];refine ag (.bool false) rfl (fun w hw=>by go_simp) ?_;simp only [Act.put,aa,ab,ac];refine ag (.bool false) rfl (fun w hw=>by go_simp) ?_;simp only [Act.put,aa,ab,ac];refine al (.int .i64 K) rfl (fun w hw=>by subst hw;go_simp) ?_;simp only [Act.put,aa,ab,ac];refine al (.pointer (some ⟨x,0,none⟩)) rfl (fun w hw=>by subst hw;go_simp) ?_;simp only [Act.put,aa,ab,ac];refine al (.pointer (some ⟨x,0,none⟩)) rfl (fun w hw=>by go_simp) ?_;simp only [Act.put,aa,ab,ac];refine al (.pointer (some ⟨x,3,none⟩)) rfl (fun w hw=>by go_simp) ?_;simp only [Act.put,aa,ab,ac];refine al (.int .i64 N) rfl (fun w hw=>by subst hw;go_simp) ?_;simp only [Act.put,aa,ab,ac];refine al (.bool false) rfl (fun w hw=>by go_simp;omega) ?_;simp only [Act.put,aa,ab,ac];refine ag (.bool false) rfl (fun w hw=>by go_simp) ?_;simp only [Act.put,aa,ab,ac];refine wpQuiet_nil ?_;rintro w2 rfl;go_wp2_with fail
 refine (HS.out).mono ?_;rintro e w2 ⟨s,rfl,hs1,hs2,hs3,hfs⟩;have hfw:Fr (fun _=>False) W w2:=((Fr.refl (fun _=>False) W).drew).trans hfs (fun _ h=>h.elim);have hs0:1≤s:=by
  by_cases h0:s=0
  ·subst h0;have:=hs3 0 (Nat.le_refl 0) (by omega);rw [decide_eq_true_eq,Nat.zero_mul,bC f (Nat.le_refl 0)] at this;omega
  ·omega
 obtain ⟨B,rfl⟩:∃B,s=B+1:=⟨s-1,by omega⟩;have hBK:cnt f 0 (B*k)≤K:=by
  have:=hs2 B (by omega);rw [decide_eq_false_iff_not] at this;omega
 have hBn:B*k≤n:=by
  have:=Nat.mul_le_mul_right k (show B≤nb-1 by omega);have:=HNB.out.2;omega
 have hB1:B≤B*k:=Nat.le_mul_of_pos_right B (by omega);obtain ⟨j,hj,hjc⟩:=qx hBn hBK HK.out;obtain ⟨g',cap',hv',hcB⟩:=HAT.out w2.drew hfw.drew B (by omega)
 cases hv'
 have HN2:=ae (HNX.out w2.drew hfw.drew (B*k) j hj);obtain ⟨e0,e1,e2,e3,e4,_⟩:=HALL.out w2.drew hfw.drew;have hj2:=hj.2;obtain ⟨M,hM⟩:∃M,B*k=M:=⟨_,rfl⟩;have hMi:(B:Int)*(k:Int)=(M:Int):=by rw [←hM];simp
 rw [hM] at hjc HN2 hcB hBK hBn hB1;have hb1:(B:Int)≤1048576:=by omega
 have hb2:(M:Int)≤1048576:=by omega
 have hb3:(B:Int)<(nb:Int):=by omega
 have HJ:=ae (af hj2.1 (af hj2.2.1 hjc));have HF2:=ae hfw;clear hs1 hs2 hs3 hfs hfw hj hj2 hjc hM hBn HS dk dx d1 d3 hKN;go_wp2;refine ar (fun w'=>w'=w2.drew) (by kernel_rfl) (by kernel_rfl) rfl ?_;refine ag (.pointer (some ⟨x,0,none⟩)) rfl (fun w hw=>by subst hw;go_simp) ?_;simp only [Act.put,aa,ab,ac];refine ag (.pointer (some ⟨x,0,none⟩)) rfl (fun w hw=>by go_simp) ?_;simp only [Act.put,aa,ab,ac];refine ag (.pointer (some ⟨x,0,none⟩)) rfl (fun w hw=>by go_simp) ?_;simp only [Act.put,aa,ab,ac];refine ag (.pointer (some ⟨b,0,none⟩)) rfl (fun w hw=>by subst hw;go_simp) ?_;simp only [Act.put,aa,ab,ac];refine ag (.int .i64 B) rfl (fun w hw=>by go_simp) ?_;simp only [Act.put,aa,ab,ac];refine ag (.pointer (some ⟨x,0,none⟩)) rfl (fun w hw=>by subst hw;go_simp) ?_;simp only [Act.put,aa,ab,ac];refine ag (.pointer (some ⟨x,0,none⟩)) rfl (fun w hw=>by go_simp) ?_;simp only [Act.put,aa,ab,ac];refine ag (.pointer (some ⟨x,2,none⟩)) rfl (fun w hw=>by go_simp) ?_;simp only [Act.put,aa,ab,ac];refine ag (.int .i64 k) rfl (fun w hw=>by subst hw;go_simp) ?_;simp only [Act.put,aa,ab,ac];refine ag (.int .i64 M) rfl (fun w hw=>by go_simp;rw [IntKind.wrap_i64];omega) ?_;simp only [Act.put,aa,ab,ac];refine aA (.tuple #[.int .i64 j,.bool true]) 257 #[.pointer (some ⟨b,0,none⟩),.int .i64 M] rfl (fun w=>by go_simp) (fun w hw=>by subst hw;exact (HN2.out).mono fun e w' h=>⟨h.1,h.2.symm⟩) ?_;simp only [Act.put,aa,ab,ac];refine ag (.tuple #[.int .i64 j,.bool true]) rfl (fun w hw=>by go_simp) ?_;simp only [Act.put,aa,ab,ac];refine ag (.int .i64 j) rfl (fun w hw=>by go_simp) ?_;simp only [Act.put,aa,ab,ac];refine ag (.bool true) rfl (fun w hw=>by go_simp) ?_;simp only [Act.put,aa,ab,ac];refine ag (.int .i64 j) rfl (fun w hw=>by go_simp) ?_;simp only [Act.put,aa,ab,ac];refine ag (.bool true) rfl (fun w hw=>by go_simp) ?_;simp only [Act.put,aa,ab,ac];refine wpQuiet_nil ?_;rintro w3 rfl;generalize cnt f 0 M=N0 at*;have hb4:(N0:Int)≤(K:Int):=by omega
 have hb5:(K:Int)≤1048576:=by omega
 clear e2 e4;go_wp2
 go_loopw [7,9] (fun p q wr=>∃a m:Nat,p= .int .i64 a∧q= .int .i64 m∧m≤K∧wr=w2.drew∧Hid (a<n∧f a=true∧cnt f 0 a=m)) (fun _ q _=>(K-intOf q).toNat)
 case atStart=>exact ⟨j,N0,rfl,rfl,hBK,rfl,HJ.out⟩
 case round=>
  obtain ⟨a,m,rfl,rfl,hmK,rfl,hr⟩:=hrel;by_cases hlt:m<K
  ·obtain ⟨h1,h2,h3⟩:=hr.out;have hc1:cnt f 0 (a+1)=m+1:=by rw [aC f (Nat.zero_le a),h3,if_pos h2]
   obtain ⟨j2,hj2,hjc2⟩:=qx (A:=a+1) (by omega) (by omega) HK.out;have HN3:=ae (HNX.out w2.drew HF2.out.drew (a+1) j2 hj2);rw [show ((a+1:Nat):Int)=(a:Int)+1 by omega] at HN3;have HJ2:=ae (af hj2.2.1 (af hj2.2.2.1 (hjc2.trans hc1)));have hai:(a:Int)≤1048576:=by omega
   have hmi:(m:Int)<(K:Int):=by omega
   obtain ⟨e0,e1,e2,_⟩:=HALL.out w2.drew HF2.out.drew;clear hr h1 h2 h3 hc1 hj2 hjc2;go_wp2_with fail
   refine (HN3.out).mono ?_;rintro e w' ⟨rfl,rfl⟩;go_wp2;go_roundw
   case rel=>exact ⟨j2,m+1,rfl,by go_num,by omega,trivial,HJ2.out⟩
   case measure=>simp [intOf];omega
  ·obtain rfl:m=K:=by omega
   obtain ⟨e0,e1,_⟩:=HALL.out w2.drew HF2.out.drew;go_wp2;go_ret2;exact ⟨a,rfl,hr.out.1,hr.out.2.1,hr.out.2.2,HFW.out.trans HF2.out.drew (fun _ h=>h.elim)⟩
end
section
open Go.RowKit Go.Shelf
theorem ix {α:Type} {xs pre:List α} {x:α} (h:pre=xs.take pre.length) (hx:xs[pre.length]? =some x):pre++[x]=xs.take (pre++[x]).length:=by
 rw [List.length_append,List.length_singleton,List.take_add_one,←h,hx];rfl
def ie (pre:List (Nat×Nat)) (j:Nat):Bool:=pre.any fun x=>decide (x.1≤j)&&decide (j<x.1+x.2)
theorem ov (pre:List (Nat×Nat)) (x:Nat×Nat) (j:Nat):ie (pre++[x]) j=(ie pre j||(decide (x.1≤j)&&decide (j<x.1+x.2))):=by
 unfold ie;rw [List.any_append];simp
theorem bh {E:Nat→Nat} {W:Nat} {x:Nat×Nat}:x∈aO E W↔x.1<W∧E x.1≠0∧x.2=E x.1:=by
 unfold aO;rw [List.mem_map];constructor
 ·rintro ⟨s,hs,rfl⟩;have:=jA.1 hs;exact ⟨this.2.1,bH.1 this.2.2,rfl⟩
 ·rintro ⟨h1,h2,h3⟩;exact ⟨x.1,jA.2 ⟨Nat.zero_le _,h1,bH.2 h2⟩,by rw [←h3]⟩
theorem ou {E:Nat→Nat} {W:Nat} (htop:∀a,E a≠0→a+E a≤W) (j:Nat):ie (aO E W) j=aj E j:=by
 rw [Bool.eq_iff_iff,aQ];unfold ie;rw [List.any_eq_true];constructor
 ·rintro ⟨x,hx,h⟩;rw [Bool.and_eq_true,decide_eq_true_eq,decide_eq_true_eq] at h;have:=bh.1 hx;exact ⟨x.1,h.1,by rw [←this.2.2];exact h.2⟩
 ·rintro ⟨s,h1,h2⟩;have hs:E s≠0:=by omega
  have:=htop s hs;exact ⟨(s,E s),bh.2 ⟨by show s<W;omega,hs,rfl⟩,by rw [Bool.and_eq_true,decide_eq_true_eq,decide_eq_true_eq];exact ⟨h1,h2⟩⟩
def fL (lo hi:Nat) (w:World) (t W k:Nat) (f:Nat→Bool):Prop:=
 ∃b1 g1 x b gb v nb,(∀i,i=t∨i=b1∨i=g1∨i=x∨i=b∨i=gb∨v.ownBlock=some i→lo≤i∧i<hi)∧ak w t [.pointer (some ⟨b1,0,none⟩),.pointer (some ⟨x,0,none⟩)] 341∧(∃ws,aV w b1 g1 W ws∧∀j,au ws j=f j)∧
  bL w x b gb v W k nb f∧W≤nb*k∧(nb-1)*k<W∧1≤nb∧1≤k∧k≤1024
theorem fL.frame {lo hi:Nat} {S:Nat→Prop} {w w':World} {t W k:Nat} {f:Nat→Bool} (h:fL lo hi w t W k f) (hf:Fr S w w') (hS:∀i,S i→i<lo∨hi≤i):fL lo hi w' t W k f:=by
 obtain ⟨b1,g1,x,b,gb,v,nb,hin,q1,⟨ws,q2,q3⟩,q4,q5⟩:=h;have hno:∀i,(i=t∨i=b1∨i=g1∨i=x∨i=b∨i=gb∨v.ownBlock=some i)→¬S i:=fun i hi hs=>by
  have:=hin i hi;rcases hS i hs with h|h<;>omega
 refine ⟨b1,g1,x,b,gb,v,nb,hin,q1.frame hf (hno _ (by simp)),⟨ws,q2.frame hf (hno _ (by simp)) (hno _ (by simp)),q3⟩,q4.frame hf (hno _ (by simp)) (hno _ (by simp)) (hno _ (by simp)) (fun g hg=>hno g (by simp [hg])),q5⟩
def oa (L:aI) (W:Nat) (E:Nat→Nat) (tb lb b1 g1:Nat) (pre:List (Nat×Nat)) (S:Nat→Prop) (w:World):Prop:=
 (S=fun k=>k=g1)∧j6 L tb W E w∧ak w lb [.pointer (some ⟨b1,0,none⟩)] 211∧∃ws,aV w b1 g1 W ws∧∀j,au ws j=ie pre j
theorem oa.stays {L:aI} {W:Nat} {E:Nat→Nat} {tb lb b1 g1 B:Nat} (hL:∀k,L.has k→k<B) (h1:tb<B) (h2:lb<B) (h3:b1<B) (h4:1<B):cq B (oa L W E tb lb b1 g1):=by
 rintro pre S W1 W2 T ⟨rfl,⟨q1,q2,q3⟩,q4,ws,q5,q6⟩ hf hT;have hno:∀i,i<B→¬T i:=fun i hi h=>by have:=(hT i h).1;omega
 exact ⟨rfl,⟨q1.frame hf (fun k hk=>hno k (hL k hk)),an q2 hf (hno _ h4),q3.frame hf (hno _ h1)⟩,q4.frame hf (hno _ h2),ws,q5.frame hf (hno _ h3) (fun h=>(hT _ h).2 rfl),q6⟩
end
section
open Go.RowKit Go.Shelf
def vz (W k:Nat) (E:Nat→Nat) (w:World) (e:Ending) (w':World):Prop:=
 ∃t,e= .returned (.tuple #[.pointer (some ⟨t,0,none⟩),.int .i64 0])∧fL w.heap.size w'.heap.size w' t W k (aj E)∧Fr (fun _=>False) w w'
theorem wh {w w1 w2 W2:World} {b1 g1 x b gb:Nat} {v:Value} {nb W k:Nat} {f:Nat→Bool} {ws:List Nat} (hw:Fr (fun _=>False) w w1) (hf:Fr (fun _=>False) w1 w2)
  (hv:aV w1 b1 g1 W ws) (hbits:∀j,au ws j=f j) (h1:w.heap.size≤b1) (h2:w.heap.size≤g1) (hr:bL w2 x b gb v W k nb f) (hn1:W≤nb*k) (hn2:(nb-1)*k<W) (hn3:1≤nb) (hk1:1≤k) (hk2:k≤1024) (hfrom:bL.from w1.heap.size x b gb v)
  (hW:W2=w2.alloc (.cells #[b1,.pointer (some ⟨x,0,none⟩)] 341)) {D:Nat} (hD:w.heap.size≤D) (hDc:w2.heap[D]? =some (.deferred (some []))):
  fL w.heap.size (W2.putObj D (.deferred none)).heap.size (W2.putObj D (.deferred none)) w2.heap.size W k f∧Fr (fun _=>False) w (W2.putObj D (.deferred none)):=by
 subst hW;have hz1:=hw.size;have hz2:=hf.size;have hv2:=hv.frame hf (fun h=>h) (fun h=>h);have hfa:Fr (fun _=>False) w2 (w2.alloc (.cells #[.pointer (some ⟨b1,0,none⟩),.pointer (some ⟨x,0,none⟩)] 341)):=(Fr.refl _ w2).alloc _;have hfd:Fr (fun k=>k=D) (w2.alloc (.cells #[.pointer (some ⟨b1,0,none⟩),.pointer (some ⟨x,0,none⟩)] 341)) ((w2.alloc (.cells #[.pointer (some ⟨b1,0,none⟩),.pointer (some ⟨x,0,none⟩)] 341)).putObj D (.deferred none)):=(Fr.refl _ _).putObj _ _ (.inl rfl);have hz3:=hfd.size;rw [World.size_alloc] at hz3;have hDl:=(Array.getElem?_eq_some_iff.1 hDc).1;obtain ⟨wr,hvr,_⟩:=hr.vec;have hcellD:∀i o,w2.heap[i]? =some o→o.isCells=true→i≠D:=fun i o ho hc e=>by subst e;rw [hDc] at ho;cases ho;cases hc
 have hnb:∀{c:List Value} {ty:TypeId} {i:Nat},ak w2 i c ty→i≠D:=fun h=>hcellD _ _ h rfl
 have hown:∀g,v.ownBlock=some g→g≠D∧g<w2.heap.size:=fun g hg=>by
  rcases hr.row.2 with ⟨rfl,_⟩|⟨g',cap,cur,rfl,_,hh,_⟩
  ·cases hg
  ·simp only [Value.ownBlock,Option.some.injEq] at hg;subst hg;exact ⟨hcellD _ _ hh rfl,(Array.getElem?_eq_some_iff.1 hh).1⟩
 have hvb:b1≠D∧g1≠D:=⟨let ⟨_,_,q⟩:=hv2.blk;hnb q,let ⟨_,q⟩:=hv2.row;hnb q⟩;have hrb:b≠D∧gb≠D:=⟨let ⟨_,_,q⟩:=hvr.blk;hnb q,let ⟨_,q⟩:=hvr.row;hnb q⟩;have hx:=hnb hr.blk;have l1:=hv2.blt;have l2:=hv2.glt;have l3:=hvr.blt;have l4:=hvr.glt;have l5:=hr.blk.lt;obtain ⟨f1,f2,f3,f4⟩:=hfrom;refine ⟨⟨b1,g1,x,b,gb,v,nb,?_,?_,⟨ws,(hv2.frame hfa (fun h=>h) (fun h=>h)).frame hfd hvb.1 hvb.2,hbits⟩,(hr.keep hfa).frame hfd hx hrb.1 hrb.2 (fun g hg=>(hown g hg).1),hn1,hn2,hn3,hk1,hk2⟩,((hw.trans hf (fun _ h=>h.elim)).trans hfa (fun _ h=>h.elim)).trans hfd (fun i hi=> .inr (by omega))⟩
 ·rintro i (h|h|h|h|h|h|h)
  ·omega
  ·omega
  ·omega
  ·omega
  ·omega
  ·omega
  ·have:=f4 i h;have:=(hown i h).2;omega
 ·have:ak (w2.alloc (.cells #[b1,.pointer (some ⟨x,0,none⟩)] 341)) w2.heap.size [.pointer (some ⟨b1,0,none⟩),.pointer (some ⟨x,0,none⟩)] 341:=ak.new w2 _ _;exact this.frame hfd (by omega)
section
attribute [local go_sem] Oper.semAt_some
theorem wm (d:Nat) {w:World} {L:aI} {W k:Nat} {E:Nat→Nat} (h:bA w L W E) (hT:bu w) (hk:aK (k:Int)=true) (hk1:1≤k) (hk2:k≤1024):CallsIn Fence.wide d Tryz.prog 217 #[L.m,.int .i64 k] w (vz W k E w):=by
 refine callsIn_of_wp_marks Tryz.func217 rfl trivial ?_ rfl;simp only [Tryz.ntmps217,List.size_toArray,List.length_cons,List.length_nil,Nat.reduceAdd,Nat.reduceSub,Array.replicate_succ,Array.replicate_zero,List.push_toArray,List.append_toArray,List.nil_append,List.cons_append];obtain ⟨hW1,hW2⟩:=h.small;have HWD:=ae (cC h);have HV:=ae (fun w=>qJ W hW1 hW2 w);have HX:=ae h;have HT:=ae hT;have hW0:((W:Int)==0)=false:=by rw [beq_eq_false_iff_ne];omega
 clear h hT;gi_wp2;refine bt ((HWD.out).mono ?_);rintro e w' ⟨rfl,rfl⟩;gi_wp2;refine bt ((HWD.out).mono ?_);rintro e w' ⟨rfl,rfl⟩;gi_wp2;refine bt ((HV.out _).mono ?_);rintro e w1 ⟨b1,g1,rfl,hv,hb1,hg1,hf1⟩;obtain ⟨W2,hW2d⟩:∃W2,w1.alloc (.cells #[b1] 211)=W2:=⟨_,rfl⟩;have hf2:Fr (fun _=>False) w1 W2:=by rw [←hW2d];exact (Fr.refl _ w1).alloc _
 have hlb:ak W2 w1.heap.size [.pointer (some ⟨b1,0,none⟩)] 211:=by rw [←hW2d];exact ak.new w1 _ _
 have HA:=ae (dB L.m W2);have HF2:=ae (af hv (af hb1 (af hg1 (af hf1 (af hf2 hlb)))));have hz2:W2.heap.size=w1.heap.size+1:=by rw [←hW2d];simp
 have HZ2:=ae hz2;clear hv hb1 hg1 hf1 hf2 hlb HV HWD hW0 hz2;gi_wp2;clear hW2d;refine bt ((HA.out).mono ?_);rintro e W3 ⟨rfl,hW3⟩;have hf3:Fr (fun _=>False) W2 W3:=by rw [hW3];exact (Fr.refl _ W2).alloc _
 have htb:ak W3 W2.heap.size [.pointer (some ⟨L.m,0,none⟩)] 132:=by rw [hW3];exact ak.new W2 _ _
 have hz3:W3.heap.size=W2.heap.size+1:=by rw [hW3];simp
 obtain ⟨hv,hb1,hg1,hf1,hf2,hlb⟩:=HF2.out;have hf13:Fr (fun _=>False) w1 W3:=hf2.trans hf3 (fun _ h=>h.elim);have hfw3:Fr (fun _=>False) w W3:=hf1.trans hf13 (fun _ h=>h.elim);have hz2:=HZ2.out;have hzw:=hf1.size;have hvb:=hv.blt;have hvg:=hv.glt;have hI0:oa L W E W2.heap.size w1.heap.size b1 g1 [] (fun k=>k=g1) W3:=⟨rfl,⟨HX.out.frame hfw3 (fun _ _ h=>h),an HT.out hfw3 (fun h=>h),htb⟩,hlb.frame hf3 (fun h=>h),_,hv.frame hf13 (fun h=>h) (fun h=>h),fun j=>by rw [gq];rfl⟩;have htl:1<w.heap.size:=aE (HT.out 0 0 rfl);have hstay:cq W3.heap.size (oa L W E W2.heap.size w1.heap.size b1 g1):=oa.stays (fun k hk=>by have:=HX.out.lt k hk;omega) (by omega) (by omega) (by omega) (by omega);have HF3:=ae (af hf3 (af hfw3 (af hz3 htl)));clear hW3 hf3 htb hz3 hv hb1 hg1 hf2 hlb hz2 hfw3 hf13 hzw htl HA hf1;gi_wp2;refine df (gf:=220) (lb:= #[W2.heap.size]) rfl (enters_of Tryz.func220 (by kernel_rfl) rfl) (encs:=fM) (fun _=>rfl) (dz (L:=L) (tb:=W2.heap.size) (E:=E) hW2) (oa L W E W2.heap.size w1.heap.size b1 g1) (fun k=>k=g1) hstay (fun _ _ _ h=>h.2.1) (fun k hk=>by have:=HZ2.out;have:=HF3.out.2.2.1;omega) hI0
  ?a1 ?assign ?body ?done
 case assign=>
  intro k x W K hK;unfold fM;gi_wp2;exact hK
 case body=>
  intro l pre S x W' hI hlen hf hs;obtain ⟨rfl,⟨q1,q2,q3⟩,q4,ws,q5,q6⟩:=hI;obtain ⟨s,n⟩:=x;obtain ⟨m1,m2,m3⟩:=bh.1 (List.mem_of_getElem? hlen);dsimp only at m1 m2 m3;have htop:=HX.out.top s m2;rw [←m3] at htop;have hz:=HF3.out;have hz2:=HZ2.out;have hg1:=HF2.out.2.2.1;have hLg:∀k,L.has k→¬k=g1:=fun k hk=>by have:=HX.out.lt k hk;omega
  have HFI:=ae (sC q5 (F:=s) (T:=s+n) (by omega) (by omega));rw [show ((s+n:Nat):Int)=(s:Int)+(n:Int) by omega] at HFI;have c0:=q4.cell 0 rfl;have HE:=ae (fun W'' ws' (r1:aV W'' b1 g1 W ws') (r2:∀j,au ws' j=(au ws j||(decide (s≤j)&&decide (j<s+n)))) (r3:Fr (fun k=>k=g1) W' W'')=>
   (show s8 (oa L W E W2.heap.size w1.heap.size b1 g1) (pre++[(s,n)]) (fun k=>k=g1) W' W'' from
    ⟨fun k=>k=g1,⟨rfl,⟨q1.frame r3 hLg,an q2 r3 (by omega),q3.frame r3 (by omega)⟩,q4.frame r3 (by omega),ws',r1,fun j=>by rw [r2,ov,q6]⟩,r3,fun k h=> .inl h⟩))
  have hb1:(s:Int)≤1048576:=by omega
  have hb2:(n:Int)≤1048576:=by omega
  clear hf hs q1 q2 q3 q4 q5 q6 hlen hz hz2 hg1 hLg htop m1 m2 m3 hI0 hstay hvb hvg;gi_wp2;refine mu ((HFI.out).mono ?_);rintro e W'' ⟨⟨V,rfl⟩,ws',r1,r2,r3⟩;have HE2:=ae (HE.out W'' ws' r1 r2 r3);clear r1 r2 r3 HE HFI;gi_wp2;exact HE2.out
 case done=>
  intro D S W' hI hD hlt hns hf hs;obtain ⟨rfl,⟨q1,q2,q3⟩,q4,ws,q5,q6⟩:=hI;have c0:=q4.cell 0 rfl;have hbits:∀j,au ws j=aj E j:=fun j=>by rw [q6,ou HX.out.top]
  have HR:=ae (wB q5 hk hk1 hk2);rw [funext hbits] at HR;have hz:=HF3.out;have hz2:=HZ2.out;have hg1:=HF2.out.2.2.1;have hfw:Fr (fun _=>False) w W':=hz.2.1.trans hf (fun k hk=> .inr (by omega));have hlD:w.heap.size≤D:=by have:=hz.2.1.size;omega
  have hq:∀w2 W2' x b gb v nb,Fr (fun _=>False) W' w2→bL w2 x b gb v W k nb (aj E)→W≤nb*k→(nb-1)*k<W→1≤nb→bL.from W'.heap.size x b gb v→W2'=w2.alloc (.cells #[.pointer (some ⟨b1,0,none⟩),.pointer (some ⟨x,0,none⟩)] 341)→
    fL w.heap.size (W2'.putObj D (.deferred none)).heap.size (W2'.putObj D (.deferred none)) w2.heap.size W k (aj E)∧Fr (fun _=>False) w (W2'.putObj D (.deferred none)):=fun w2 W2' x b gb v nb hf2 hr hn1 hn2 hn3 hfrom hW=>
   wh hfw hf2 q5 hbits HF2.out.2.1 hg1 hr hn1 hn2 hn3 hk1 hk2 hfrom hW hlD (hf2.heap hD (fun h=>h))
  have HQ:=ae hq;have HD2:=ae (fun w2 (hf2:Fr (fun _=>False) W' w2)=>(af ((q4.frame hf2 (fun h=>h)).cell 0 rfl) (hf2.heap hD (fun h=>h))));clear hf hs q1 q2 q3 q4 q5 q6 hz hz2 hg1 hI0 hstay hvb hvg hfw hbits hk hq;gi_wp2;refine bt ((HR.out).mono ?_);rintro e w2 ⟨x,b,gb,v,nb,rfl,r1,r2,r3,r4,r5,r6⟩;obtain ⟨d0,hD2⟩:=HD2.out w2 r6;have HQ2:=ae (fun W2' hW=>HQ.out w2 W2' x b gb v nb r6 r1 r2 r3 r4 r5 hW);have HD3:=ae hD2;clear r1 r2 r3 r4 r5 r6 HQ HR HD2 c0 hD2 hD;gi_wp2;refine ⟨by simp,.inl ⟨_,_,rfl,run_takeDeferred (((Fr.refl (fun _=>False) w2).alloc _).heap HD3.out (fun h=>h)),?_⟩⟩;exact ⟨_,results_tmp2 rfl _ _ _,w2.heap.size,rfl,(HQ2.out _ rfl).1,(HQ2.out _ rfl).2⟩
end
end
section
open Go.RowKit Go.Shelf
theorem wj {lo hi:Nat} {w:World} {t W k:Nat} {f:Nat→Bool} (h:fL lo hi w t W k f) (a:Nat) (ha:a<W):Calls Tryz.prog 225 #[t,.int .i64 a] w fun e w'=>e= .returned (.bool (f a))∧w=w':=by
 obtain ⟨b1,g1,x,b,gb,v,nb,hin,q1,⟨ws,q2,q3⟩,q4⟩:=h;have c0:=q1.cell 0 rfl;have HT:=ae (vd q2 ha);rw [q3] at HT;generalize f a=fa at*;clear hin q1 q2 q3 q4
 go_enter Tryz.func225,Tryz.ntmps225
 go_wp2_with fail
 refine (HT.out).mono ?_;rintro e w' ⟨rfl,rfl⟩;go_wp2;go_ret;exact ⟨rfl,rfl⟩
theorem nk {lo hi:Nat} {w:World} {t W k:Nat} {f:Nat→Bool} (h:fL lo hi w t W k f) (a:Nat) (ha:a≤1048576):Calls Tryz.prog 226 #[t,.int .i64 a] w fun e w'=>e= .returned (.int .i64 ((cnt f 0 (min a W):Nat):Int))∧Fr (fun _=>False) w w':=by
 obtain ⟨b1,g1,x,b,gb,v,nb,hin,q1,⟨ws,q2,q3⟩,q4,q5,q6,q7,q8,q9⟩:=h;have c1:=q1.cell 1 rfl;have HT:=ae (nB q4 q5 q8 q9 a ha);generalize cnt f 0 (min a W)=N at*;clear hin q1 q2 q3 q4 q5 q6 q7 q8 q9
 go_enter Tryz.func226,Tryz.ntmps226
 go_wp2_with fail
 refine (HT.out).mono ?_;rintro e w' ⟨rfl,hf⟩;have HF:=ae hf;clear hf;go_wp2;go_ret;exact ⟨rfl,HF.out⟩
theorem kP {lo hi:Nat} {w:World} {t W k:Nat} {f:Nat→Bool} (h:fL lo hi w t W k f):Calls Tryz.prog 219 #[t] w fun e w'=>e= .returned (.int .i64 ((cnt f 0 W:Nat):Int))∧w=w':=by
 obtain ⟨b1,g1,x,b,gb,v,nb,hin,q1,⟨ws,q2,q3⟩,q4,q5,q6,q7,q8,q9⟩:=h;have c1:=q1.cell 1 rfl;have HT:=ae (si q4 q5);generalize cnt f 0 W=N at*;clear hin q1 q2 q3 q4 q5 q6 q7 q8 q9
 go_enter Tryz.func219,Tryz.ntmps219
 go_wp2_with fail
 refine (HT.out).mono ?_;rintro e w' ⟨rfl,rfl⟩;go_wp2;go_ret;exact ⟨rfl,rfl⟩
theorem rX {lo hi:Nat} {w:World} {t W k:Nat} {f:Nat→Bool} (h:fL lo hi w t W k f) (hT:bu w) (K:Nat) (hK:K<cnt f 0 W):Calls Tryz.prog 287 #[t,.int .i64 K] w (mf f W K w):=by
 obtain ⟨b1,g1,x,b,gb,v,nb,hin,q1,⟨ws,q2,q3⟩,q4,q5,q6,q7,q8,q9⟩:=h;have c1:=q1.cell 1 rfl;have HT:=ae (sm q4 hT q5 q6 q7 q8 q9 K hK);clear hin q1 q2 q3 q4 q5 q6 q7 q8 q9 hT hK
 go_enter Tryz.func287,Tryz.ntmps287
 go_wp2_with fail
 refine (HT.out).mono ?_;rintro e w' ⟨a,rfl,h1,h2,h3,h4⟩;have HF:=ae (af h1 (af h2 (af h3 h4)));clear h1 h2 h3 h4;go_wp2;go_ret2;exact ⟨a,rfl,HF.out.1,HF.out.2.1,HF.out.2.2.1,HF.out.2.2.2⟩
end
section
open Go.RowKit Go.Shelf
theorem iN (f:Nat→Bool) (a n:Nat):(bf f a n).Pairwise (· < ·):=by
 unfold bf;exact List.Pairwise.filter _ List.pairwise_lt_range'
theorem eD {E:Nat→Nat} {W i:Nat} {x y:Nat×Nat} (hx:(aO E W)[i]? =some x) (hy:y∈(aO E W).take i):y.1<x.1:=by
 have hp:(aO E W).Pairwise (fun a b=>a.1<b.1):=by
  unfold aO;rw [List.pairwise_map];exact iN _ _ _
 rw [←List.take_append_drop i (aO E W),List.pairwise_append] at hp;refine hp.2.2 y hy x ?_;rw [List.mem_iff_getElem?];exact ⟨0,by rw [List.getElem?_drop,Nat.add_zero];exact hx⟩
def cB (lo hi:Nat) (w:World) (p W k:Nat) (E:Nat→Nat) (Ba:Nat):Prop:=
 ∃t o,lo≤p∧p<hi∧ak w p [.pointer (some ⟨t,0,none⟩),.pointer (some ⟨o,0,none⟩),.int .i64 Ba] 301∧fL lo hi w t W k (aj E)
theorem cB.frame {lo hi:Nat} {S:Nat→Prop} {w w':World} {p W k Ba:Nat} {E:Nat→Nat} (h:cB lo hi w p W k E Ba) (hf:Fr S w w') (hS:∀i,S i→i<lo∨hi≤i):cB lo hi w' p W k E Ba:=by
 obtain ⟨t,o,q1,q2,q3,q4⟩:=h;exact ⟨t,o,q1,q2,q3.frame hf (fun h=>by rcases hS _ h with h|h<;>omega),q4.frame hf hS⟩
theorem fL.wide {lo hi lo' hi':Nat} {w:World} {t W k:Nat} {f:Nat→Bool} (h:fL lo hi w t W k f) (h1:lo'≤lo) (h2:hi≤hi'):fL lo' hi' w t W k f:=by
 obtain ⟨b1,g1,x,b,gb,v,nb,hin,q⟩:=h;exact ⟨b1,g1,x,b,gb,v,nb,fun i hi=>by have:=hin i hi;omega,q⟩
def lj (L L':aI) (W k:Nat) (E:Nat→Nat) (tb ob t lo hi:Nat) (pre:List (Nat×Nat)) (S:Nat→Prop) (w:World):Prop:=
 (S=L'.turns)∧j6 L tb W E w∧ak w ob [.pointer (some ⟨L'.m,0,none⟩)] 132∧fL lo hi w t W k (aj E)∧pre=(aO E W).take pre.length∧∃E',bA w L' W E'∧∀a,E' a≠0→(a,E' a)∈pre
theorem lj.stays {L L':aI} {W k:Nat} {E:Nat→Nat} {tb ob t lo hi B:Nat} (hL:∀k,L.has k→k<B) (hL2:∀k,L'.has k→k<B) (h1:tb<B) (h2:ob<B) (h3:hi≤B) (h4:1<B):cq B (lj L L' W k E tb ob t lo hi):=by
 rintro pre S W1 W2 T ⟨rfl,⟨q1,q2,q3⟩,q4,q5,q6,E',q7,q8⟩ hf hT;have hno:∀i,i<B→¬T i:=fun i hi h=>by have:=(hT i h).1;omega
 exact ⟨rfl,⟨q1.frame hf (fun k hk=>hno k (hL k hk)),an q2 hf (hno _ h4),q3.frame hf (hno _ h1)⟩,q4.frame hf (hno _ h2),q5.frame hf (fun i hi=> .inr (by have:=(hT i hi).1;omega)),q6,E',q7.frame hf (fun k hk=>hno k (hL2 k hk)),q8⟩
theorem lj.step {L L':aI} {W k:Nat} {E:Nat→Nat} {tb ob t lo hi s n:Nat} {pre:List (Nat×Nat)} {w w':World} {E':Nat→Nat} (hA:j6 L tb W E w) (hob:ak w ob [.pointer (some ⟨L'.m,0,none⟩)] 132) (hO:fL lo hi w t W k (aj E)) (hp:pre=(aO E W).take pre.length)
  (he:∀a,E' a≠0→(a,E' a)∈pre) (hx:(aO E W)[pre.length]? =some (s,n)) (hX:bA w' L' W (bq E' s n)) (hf:Fr L'.turns w w') (d1:∀k,L.has k→¬L'.turns k) (d2:¬L'.turns tb) (d3:¬L'.turns ob) (d4:∀k,L'.turns k→k<lo∨hi≤k) (d5:¬L'.turns 1):
  s8 (lj L L' W k E tb ob t lo hi) (pre++[(s,n)]) L'.turns w w':=
 ⟨L'.turns,⟨rfl,⟨hA.1.frame hf d1,an hA.2.1 hf d5,hA.2.2.frame hf d2⟩,hob.frame hf d3,hO.frame hf d4,ix hp hx,bq E' s n,hX,fun a ha=>by
  unfold bq at ha ⊢;by_cases e:a=s
  ·subst e;rw [if_pos rfl];simp
  ·rw [if_neg e] at ha ⊢;exact List.mem_append_left _ (he a ha)⟩,hf,fun k h=> .inl h⟩
def vo (W k:Nat) (E:Nat→Nat) (Ba:Nat) (w:World) (e:Ending) (w':World):Prop:=
 ∃p,e= .returned (.tuple #[.pointer (some ⟨p,0,none⟩),.int .i64 0])∧cB w.heap.size w'.heap.size w' p W k E Ba∧Fr (fun _=>False) w w'
section
attribute [local go_sem] Oper.semAt_some
theorem ql (d:Nat) {w:World} {L:aI} {W k:Nat} {E:Nat→Nat} (h:bA w L W E) (hT:bu w) (hk:aK (k:Int)=true) (hk1:1≤k) (hk2:k≤1024) (Ba:Nat) (hb:Ba<2147483648):CallsIn Fence.wide d Tryz.prog 152 #[L.m,.int .i64 k,.int .i64 Ba] w (vo W k E Ba w):=by
 refine callsIn_of_wp_marks Tryz.func152 rfl trivial ?_ rfl;simp only [Tryz.ntmps152,List.size_toArray,List.length_cons,List.length_nil,Nat.reduceAdd,Nat.reduceSub,Array.replicate_succ,Array.replicate_zero,List.push_toArray,List.append_toArray,List.nil_append,List.cons_append];obtain ⟨hW1,hW2⟩:=h.small;have HO:=ae (callsIn_wide.1 (wm 0 h hT hk hk1 hk2));have HX:=ae h;have HT:=ae hT;have HV:=ae (fun w=>gw W hW1 hW2 w);obtain ⟨B,hB⟩:∃B:Int,(Ba:Int)=B:=⟨_,rfl⟩;have hb1:B<2147483648:=by omega
 have hb2:0≤B:=by omega
 rw [hB];have HB:=ae hB;clear h hT hk hb hB;gi_wp2;refine bt ((HO.out).mono ?_);rintro e w1 ⟨t,rfl,hO,hf1⟩;have HW1:=ae (cC (HX.out.frame hf1 (fun _ _ h=>h)));have H1:=ae (af hO hf1);clear hO hf1 HO;gi_wp2;refine bt ((HW1.out).mono ?_);rintro e w' ⟨rfl,rfl⟩;gi_wp2;refine bt ((HV.out _).mono ?_);rintro e w2 ⟨L',rfl,hX2,hlo2,hf2⟩;obtain ⟨W3,hW3⟩:∃W3,w2.alloc (.cells #[L'.m] 132)=W3:=⟨_,rfl⟩;have hf3:Fr (fun _=>False) w2 W3:=by rw [←hW3];exact (Fr.refl _ w2).alloc _
 have hob:ak W3 w2.heap.size [.pointer (some ⟨L'.m,0,none⟩)] 132:=by rw [←hW3];exact ak.new w2 _ _
 have HZ3:=ae (show W3.heap.size=w2.heap.size+1 by rw [←hW3];simp);have HA:=ae (dB L.m W3);have H2:=ae (af hX2 (af hlo2 (af hf2 (af hf3 hob))));clear hX2 hlo2 hf2 hf3 hob HV HW1;gi_wp2;clear hW3;refine bt ((HA.out).mono ?_);rintro e W4 ⟨rfl,hW4⟩;have hf4:Fr (fun _=>False) W3 W4:=by rw [hW4];exact (Fr.refl _ W3).alloc _
 have htb:ak W4 W3.heap.size [.pointer (some ⟨L.m,0,none⟩)] 132:=by rw [hW4];exact ak.new W3 _ _
 have HZ4:=ae (show W4.heap.size=W3.heap.size+1 by rw [hW4];simp);obtain ⟨hO,hf1⟩:=H1.out;obtain ⟨hX2,hlo2,hf2,hf3,hob⟩:=H2.out;have hf24:Fr (fun _=>False) w2 W4:=hf3.trans hf4 (fun _ h=>h.elim);have hf14:Fr (fun _=>False) w1 W4:=hf2.trans hf24 (fun _ h=>h.elim);have hfw4:Fr (fun _=>False) w W4:=hf1.trans hf14 (fun _ h=>h.elim);have htl:1<w.heap.size:=aE (HT.out 0 0 rfl);have hz1:=hf1.size;have hz2:=hf2.size;have hz3:=HZ3.out;have hz4:=HZ4.out;have hL2:=hX2.lt;have hI0:lj L L' W k E W3.heap.size w2.heap.size t w.heap.size w1.heap.size [] L'.turns W4:=⟨rfl,⟨HX.out.frame hfw4 (fun _ _ h=>h),an HT.out hfw4 (fun h=>h),htb⟩,hob.frame hf4 (fun h=>h),hO.frame hf14 (fun _ h=>h.elim),rfl,fun _=>0,hX2.frame hf24 (fun _ _ h=>h),fun a ha=>absurd rfl ha⟩;have hstay:cq W4.heap.size (lj L L' W k E W3.heap.size w2.heap.size t w.heap.size w1.heap.size):=lj.stays (fun k hk=>by have:=HX.out.lt k hk;omega) (fun k hk=>by have:=hL2 k hk;omega) (by omega) (by omega) (by omega) (by omega);have hS0:∀k,L'.turns k→k<W4.heap.size:=fun k hk=>by have:=hL2 k (aI.turns_has hk);omega
 have H3:=ae (af hfw4 (af hz1 (af hz2 htl)));clear hW4 hf4 htb hO hf1 hX2 hlo2 hf2 hf3 hob hf24 hf14 hfw4 htl hz1 hz2 hz3 hz4 hL2 HA;gi_wp2;refine df (gf:=220) (lb:= #[W3.heap.size]) rfl (enters_of Tryz.func220 (by kernel_rfl) rfl) (encs:=fM) (fun _=>rfl) (dz (L:=L) (tb:=W3.heap.size) (E:=E) hW2) (lj L L' W k E W3.heap.size w2.heap.size t w.heap.size w1.heap.size) L'.turns hstay (fun _ _ _ h=>h.2.1) hS0 hI0
  ?a1 ?assign ?body ?done
 case assign=>
  intro k x W K hK;unfold fM;gi_wp2;exact hK
 case body=>
  intro l pre S x W' hI hlen hf hs;obtain ⟨rfl,q1,q4,q5,q6,E',q7,q8⟩:=hI;obtain ⟨s,n⟩:=x;obtain ⟨m1,m2,m3⟩:=bh.1 (List.mem_of_getElem? hlen);dsimp only at m1 m2 m3;have htop:=HX.out.top s m2;rw [←m3] at htop;have hahead:∀a,E' a≠0→a<s∧E' a=E a∧E a≠0:=fun a ha=>by
   have h1:=q8 a ha;have h2:=bh.1 (List.mem_of_mem_take (by rw [←q6];exact h1));exact ⟨eD hlen (by rw [←q6];exact h1),h2.2.2,h2.2.1⟩
  obtain ⟨g1,g2,g3,g4⟩:=H3.out;obtain ⟨_,hlo2,_⟩:=H2.out;have hL2:=H2.out.1.lt;have z3:=HZ3.out;have HAD:=ae (qk q7 q1.2.1 s n (by omega) htop (fun a ha=>by
   by_cases he:E' a=0
   ·omega
   ·obtain ⟨h1,h2,h3⟩:=hahead a he;rw [h2];exact HX.out.apart a s h1 h3 m2) (fun a ha he=>by have:=(hahead a he).1;omega))
  have HE:=ae (fun W'' (r1:bA W'' L' W (bq E' s n)) (r2:Fr L'.turns W' W'')=>lj.step (tb:=W3.heap.size) q1 q4 q5 q6 q8 hlen r1 r2 (fun k hk ht=>by have:=HX.out.lt k hk;have:=hlo2 k (aI.turns_has ht);omega) (fun ht=>by have:=hL2 _ (aI.turns_has ht);omega) (fun ht=>by have:=hL2 _ (aI.turns_has ht);omega) (fun k ht=> .inr (by have:=hlo2 k (aI.turns_has ht);omega)) (fun ht=>by have:=hlo2 _ (aI.turns_has ht);omega));have c0:=q4.cell 0 rfl;clear hf hs q1 q4 q5 q6 q7 q8 hlen htop m1 m2 m3 hI0 hstay hahead g1 g2 g3 g4 hlo2 hL2 z3 hS0;gi_wp2;refine mu ((HAD.out).mono ?_);rintro e W'' ⟨rfl,r1,r2⟩;have HE2:=ae (HE.out W'' r1 r2);clear r1 r2 HE HAD;gi_wp2;exact HE2.out
 case done=>
  intro D S W' hI hD hlt hns hf hs;obtain ⟨rfl,q1,q4,q5,q6,E',q7,q8⟩:=hI;have c0:=q4.cell 0 rfl;have hend:∀W2,W2=W'.alloc (.cells #[t,.pointer (some ⟨L'.m,0,none⟩),.int .i64 B] 301)→cB w.heap.size (W2.putObj D (.deferred none)).heap.size (W2.putObj D (.deferred none)) W'.heap.size W k E Ba∧Fr (fun _=>False) w (W2.putObj D (.deferred none)):=by
   rintro W2 rfl;obtain ⟨g1,g2,g3,g4⟩:=H3.out;obtain ⟨_,hlo2,_⟩:=H2.out;have z3:=HZ3.out;have z4:=HZ4.out;have hfz:=hf.size;have hDl:=(Array.getElem?_eq_some_iff.1 hD).1;have hfa:Fr (fun _=>False) W' (W'.alloc (.cells #[.pointer (some ⟨t,0,none⟩),.pointer (some ⟨L'.m,0,none⟩),.int .i64 B] 301)):=(Fr.refl _ W').alloc _;have hfd:Fr (fun k=>k=D) (W'.alloc (.cells #[.pointer (some ⟨t,0,none⟩),.pointer (some ⟨L'.m,0,none⟩),.int .i64 B] 301)) ((W'.alloc (.cells #[.pointer (some ⟨t,0,none⟩),.pointer (some ⟨L'.m,0,none⟩),.int .i64 B] 301)).putObj D (.deferred none)):=(Fr.refl _ _).putObj _ _ (.inl rfl);have hz5:=hfd.size;rw [World.size_alloc] at hz5;have hnew:ak (W'.alloc (.cells #[t,.pointer (some ⟨L'.m,0,none⟩),.int .i64 B] 301)) W'.heap.size [.pointer (some ⟨t,0,none⟩),.pointer (some ⟨L'.m,0,none⟩),.int .i64 B] 301:=ak.new W' _ _;refine ⟨⟨t,L'.m,by omega,by omega,by rw [HB.out];exact hnew.frame hfd (by omega),((q5.frame hfa (fun _ h=>h.elim)).frame hfd (fun i hi=> .inr (by omega))).wide (Nat.le_refl _) (by omega)⟩,((g1.trans hf (fun k hk=> .inr (by have:=hlo2 k (aI.turns_has hk);omega))).trans hfa (fun _ h=>h.elim)).trans hfd (fun i hi=> .inr (by omega))⟩
  have HEND:=ae hend;have HD:=ae hD;clear hf hs q1 q4 q5 q6 q7 q8 hI0 hstay hS0 hend hD;gi_wp2;refine ⟨by simp,.inl ⟨_,_,rfl,run_takeDeferred (((Fr.refl (fun _=>False) W').alloc _).heap HD.out (fun h=>h)),?_⟩⟩;exact ⟨_,results_tmp2 rfl _ _ _,W'.heap.size,rfl,(HEND.out _ rfl).1,(HEND.out _ rfl).2⟩
end
end
section
open Go.RowKit Go.Shelf
theorem bx {E:Nat→Nat} {W:Nat} (hW:W≤1048576):cnt (aj E) 0 W≤1048576:=by have:=bW (aj E) W;omega
theorem kw {lo hi:Nat} {w:World} {p W k Ba:Nat} {E:Nat→Nat} (h:cB lo hi w p W k E Ba):Calls Tryz.prog 241 #[p] w fun e w'=>e= .returned (.int .i64 Ba)∧w=w':=by
 obtain ⟨t,o,q1,q2,q3,q4⟩:=h;have c2:=q3.cell 2 rfl;clear q1 q2 q3 q4
 go_enter Tryz.func241,Tryz.ntmps241
 go_wp2;go_ret;exact ⟨rfl,rfl⟩
theorem js {lo hi:Nat} {w:World} {p W k Ba:Nat} {E:Nat→Nat} (h:cB lo hi w p W k E Ba):Calls Tryz.prog 192 #[p] w fun e w'=>e= .returned (.int .i64 ((cnt (aj E) 0 W:Nat):Int))∧w=w':=by
 obtain ⟨t,o,q1,q2,q3,q4⟩:=h;have c0:=q3.cell 0 rfl;have HL:=ae (kP q4);clear q1 q2 q3 q4
 go_enter Tryz.func192,Tryz.ntmps192
 go_wp2_with fail
 refine (HL.out).mono ?_;rintro e w' ⟨rfl,rfl⟩;go_wp2;go_ret;exact ⟨rfl,rfl⟩
theorem cB.off {lo hi:Nat} {w:World} {p W k Ba:Nat} {E:Nat→Nat} (h:cB lo hi w p W k E Ba):W≤1048576:=by
 obtain ⟨t,o,q1,q2,q3,b1,g1,x,b,gb,v,nb,hin,r1,⟨ws,r2,r3⟩,_⟩:=h;exact r2.small
theorem ef {lo hi:Nat} {w:World} {p W k Ba:Nat} {E:Nat→Nat} (h:cB lo hi w p W k E Ba) (hb:Ba≤1048576):Calls Tryz.prog 153 #[p] w fun e w'=>e= .returned (.int .i64 ((Ba+cnt (aj E) 0 W:Nat):Int))∧Fr (fun _=>False) w w':=by
 have hW:=bx (E:=E) h.off;obtain ⟨t,o,q1,q2,q3,q4⟩:=h;have c0:=q3.drew.cell 0 rfl;have c2:=q3.drew.cell 2 rfl;have HL:=ae (kP (q4.frame ((Fr.refl (fun _=>False) w).drew) (fun _ h=>h.elim)));have HF:=ae ((Fr.refl (fun _=>False) w).drew);rw [show ((Ba+cnt (aj E) 0 W:Nat):Int)=(Ba:Int)+((cnt (aj E) 0 W:Nat):Int) by omega];generalize cnt (aj E) 0 W=N at*;have b1:(Ba:Int)≤1048576:=by omega
 have b2:(N:Int)≤1048576:=by omega
 clear q1 q2 q3 q4
 go_enter Tryz.func153,Tryz.ntmps153
 go_wp2;refine ar (fun w'=>w'=w.drew) (by kernel_rfl) (by kernel_rfl) rfl ?_;refine ag (.pointer (some ⟨p,0,none⟩)) rfl (fun w hw=>by go_simp) ?_;simp only [Act.put,aa,ab,ac];refine ag (.pointer (some ⟨p,0,none⟩)) rfl (fun w hw=>by go_simp) ?_;simp only [Act.put,aa,ab,ac];refine ag (.pointer (some ⟨p,2,none⟩)) rfl (fun w hw=>by go_simp) ?_;simp only [Act.put,aa,ab,ac];refine ag (.int .i64 Ba) rfl (fun w hw=>by subst hw;go_simp) ?_;simp only [Act.put,aa,ab,ac];refine ag (.pointer (some ⟨p,0,none⟩)) rfl (fun w hw=>by go_simp) ?_;simp only [Act.put,aa,ab,ac];refine ag (.pointer (some ⟨p,0,none⟩)) rfl (fun w hw=>by go_simp) ?_;simp only [Act.put,aa,ab,ac];refine ag (.pointer (some ⟨p,0,none⟩)) rfl (fun w hw=>by go_simp) ?_;simp only [Act.put,aa,ab,ac];refine ag (.pointer (some ⟨t,0,none⟩)) rfl (fun w hw=>by subst hw;go_simp) ?_;simp only [Act.put,aa,ab,ac];refine aA (.int .i64 N) 219 #[t] rfl (fun w=>by go_simp) (fun w hw=>by subst hw;exact (HL.out).mono fun e w' h=>⟨h.1,h.2.symm⟩) ?_;simp only [Act.put,aa,ab,ac];refine ag (.int .i64 ((Ba:Int)+(N:Int))) rfl (fun w hw=>by go_simp;rw [IntKind.wrap_i64];omega) ?_;simp only [Act.put,aa,ab,ac];refine ag (.int .i64 ((Ba:Int)+(N:Int))) rfl (fun w hw=>by go_simp) ?_;simp only [Act.put,aa,ab,ac];refine wpQuiet_nil ?_;rintro w2 rfl;go_wp2;go_ret;exact ⟨rfl,HF.out⟩
theorem lC {lo hi:Nat} {w:World} {p W k Ba:Nat} {E:Nat→Nat} (h:cB lo hi w p W k E Ba) (hb:Ba≤1048576) (a:Nat) (ha:aj E a=true) (haW:a<W):Calls Tryz.prog 157 #[p,.int .i64 a] w fun e w'=>e= .returned (.tuple #[.int .i64 ((goes E Ba a:Nat):Int),.int .i64 0])∧Fr (fun _=>False) w w':=by
 have hW:=h.off;have hcs:=bW (aj E) a;obtain ⟨t,o,q1,q2,q3,q4⟩:=h;have c0:=q3.cell 0 rfl;have HI:=ae (wj q4 a haW);rw [ha] at HI;have HB:=ae (fun w' (hf:Fr (fun _=>False) w.drew w')=>nk ((q4.frame ((Fr.refl (fun _=>False) w).drew) (fun _ h=>h.elim)).frame hf (fun _ h=>h.elim)) a (by omega));rw [Nat.min_eq_left (Nat.le_of_lt haW)] at HB;have HC:=ae (fun w' (hf:Fr (fun _=>False) w.drew w')=>(af ((q3.drew.frame hf (fun h=>h)).cell 0 rfl) ((q3.drew.frame hf (fun h=>h)).cell 2 rfl)));have HF:=ae ((Fr.refl (fun _=>False) w).drew);unfold goes;rw [show ((Ba+cnt (aj E) 0 a:Nat):Int)=(Ba:Int)+((cnt (aj E) 0 a:Nat):Int) by omega];generalize cnt (aj E) 0 a=N at*;have b1:(Ba:Int)≤1048576:=by omega
 have b2:(N:Int)≤1048576:=by omega
 clear q1 q2 q3 q4 ha
 go_enter Tryz.func157,Tryz.ntmps157
 go_wp2_with fail
 refine (HI.out).mono ?_;rintro e w' ⟨rfl,rfl⟩;go_wp2;refine ar (fun w'=>Fr (fun _=>False) w.drew w') (by kernel_rfl) (by kernel_rfl) (Fr.refl _ _) ?_;refine ag (.pointer (some ⟨p,0,none⟩)) rfl (fun w hw=>by go_simp) ?_;simp only [Act.put,aa,ab,ac];refine ag (.pointer (some ⟨p,0,none⟩)) rfl (fun w hw=>by go_simp) ?_;simp only [Act.put,aa,ab,ac];refine ag (.pointer (some ⟨p,2,none⟩)) rfl (fun w hw=>by go_simp) ?_;simp only [Act.put,aa,ab,ac];refine ag (.int .i64 Ba) rfl (fun w hw=>by have d:=(HC.out _ hw).2;go_simp) ?_;simp only [Act.put,aa,ab,ac];refine ag (.pointer (some ⟨p,0,none⟩)) rfl (fun w hw=>by go_simp) ?_;simp only [Act.put,aa,ab,ac];refine ag (.pointer (some ⟨p,0,none⟩)) rfl (fun w hw=>by go_simp) ?_;simp only [Act.put,aa,ab,ac];refine ag (.pointer (some ⟨p,0,none⟩)) rfl (fun w hw=>by go_simp) ?_;simp only [Act.put,aa,ab,ac];refine ag (.pointer (some ⟨t,0,none⟩)) rfl (fun w hw=>by have d:=(HC.out _ hw).1;go_simp) ?_;simp only [Act.put,aa,ab,ac];refine ag (.int .i64 a) rfl (fun w hw=>by go_simp) ?_;simp only [Act.put,aa,ab,ac];refine aA (.int .i64 N) 226 #[t,.int .i64 a] rfl (fun w=>by go_simp) (fun w hw=>(HB.out w hw).mono fun e w' h=>⟨h.1,hw.trans h.2 (fun _ h=>h.elim)⟩) ?_;simp only [Act.put,aa,ab,ac];refine ag (.int .i64 ((Ba:Int)+(N:Int))) rfl (fun w hw=>by go_simp;rw [IntKind.wrap_i64];omega) ?_;simp only [Act.put,aa,ab,ac];refine ag (.int .i64 ((Ba:Int)+(N:Int))) rfl (fun w hw=>by go_simp) ?_;simp only [Act.put,aa,ab,ac];refine ag (.int .i64 0) rfl (fun w hw=>by go_simp) ?_;simp only [Act.put,aa,ab,ac];refine wpQuiet_nil ?_;intro w2 hw2;have HW:=ae (HF.out.trans hw2 (fun _ h=>h.elim));clear hw2;go_wp2;go_ret2;exact ⟨rfl,HW.out⟩
def qf (E:Nat→Nat) (Ba W b a:Nat):Prop:=a<W∧aj E a=true∧goes E Ba a=b
theorem jn {E:Nat→Nat} {Ba W b:Nat} (h1:Ba≤b) (h2:b<Ba+cnt (aj E) 0 W):∃a,qf E Ba W b a:=by
 obtain ⟨a,_,q2,q3,q4⟩:=lI (aj E) 0 W (b-Ba) (by omega);exact ⟨a,q2,q3,by unfold goes;omega⟩
theorem ii {lo hi:Nat} {w:World} {p W k Ba:Nat} {E:Nat→Nat} (h:cB lo hi w p W k E Ba) (hT:bu w) (hb:Ba≤1048576) (b a:Nat) (hba:qf E Ba W b a):Calls Tryz.prog 271 #[p,.int .i64 b] w fun e w'=>e= .returned (.tuple #[.int .i64 a,.int .i64 0])∧Fr (fun _=>False) w w':=by
 have hW:=h.off;have HT:=ae (ef h hb);obtain ⟨h1,h2,h3⟩:=id hba;have hcs:=bW (aj E) a;have hlt:=ia (Nat.zero_le a) h1 h2;unfold goes at h3;have hcw:=bx (E:=E) hW;have HWD:=ae (fun w1 (hf:Fr (fun _=>False) w w1) w' (hf2:Fr (fun _=>False) w1.drew w')=>(show Calls Tryz.prog 287 #[.pointer (some ⟨(h.choose),0,none⟩),.int .i64 ((b:Int)-(Ba:Int))] w' fun e w2=>e= .returned (.tuple #[.int .i64 a,.bool true])∧Fr (fun _=>False) w' w2 from by
  obtain ⟨o,q1,q2,q3,q4⟩:=h.choose_spec;have hf3:Fr (fun _=>False) w w':=(hf.drew).trans hf2 (fun _ h=>h.elim);rw [show (b:Int)-(Ba:Int)=((b-Ba:Nat):Int) by omega];refine (rX (q4.frame hf3 (fun _ h=>h.elim)) (an hT hf3 (fun h=>h)) (b-Ba) (by omega)).mono ?_;rintro e w2 ⟨a',rfl,r1,r2,r3,r4⟩;have:a'=a:=jH (a:=0) (Nat.zero_le _) (Nat.zero_le _) r2 h2 (by omega);rw [this];exact ⟨rfl,r4⟩))
 obtain ⟨o,q1,q2,q3,q4⟩:=h.choose_spec;generalize h.choose=t at*;have c2:=q3.cell 2 rfl;have HC:=ae (fun w1 (hf:Fr (fun _=>False) w w1) w' (hf2:Fr (fun _=>False) w1.drew w')=>(af (((q3.frame hf (fun h=>h)).drew.frame hf2 (fun h=>h)).cell 0 rfl) (((q3.frame hf (fun h=>h)).drew.frame hf2 (fun h=>h)).cell 2 rfl)));rw [show ((Ba+cnt (aj E) 0 W:Nat):Int)=(Ba:Int)+((cnt (aj E) 0 W:Nat):Int) by omega] at HT;generalize cnt (aj E) 0 W=N at*;generalize cnt (aj E) 0 a=M at*;have b1:(Ba:Int)≤(b:Int):=by omega
 have b2:(b:Int)<(Ba:Int)+(N:Int):=by omega
 have b3:(b:Int)≤2097152:=by omega
 clear q1 q2 q3 q4 hT hba h1 h2 h3 hcs hlt hcw
 go_enter Tryz.func271,Tryz.ntmps271
 go_wp2_with fail
 refine (HT.out).mono ?_;rintro e w1 ⟨rfl,hf1⟩;have HC1:=ae (HC.out w1 hf1);have HW1:=ae (HWD.out w1 hf1);have HF1:=ae hf1;clear hf1 HC HWD c2;go_wp2;refine ar (fun w'=>Fr (fun _=>False) w1.drew w') (by kernel_rfl) (by kernel_rfl) (Fr.refl _ _) ?_;refine ag (.pointer (some ⟨p,0,none⟩)) rfl (fun w hw=>by go_simp) ?_;simp only [Act.put,aa,ab,ac];refine ag (.pointer (some ⟨p,0,none⟩)) rfl (fun w hw=>by go_simp) ?_;simp only [Act.put,aa,ab,ac];refine ag (.pointer (some ⟨p,0,none⟩)) rfl (fun w hw=>by go_simp) ?_;simp only [Act.put,aa,ab,ac];refine ag (.pointer (some ⟨t,0,none⟩)) rfl (fun w hw=>by have d:=(HC1.out _ hw).1;go_simp) ?_;simp only [Act.put,aa,ab,ac];refine ag (.int .i64 b) rfl (fun w hw=>by go_simp) ?_;simp only [Act.put,aa,ab,ac];refine ag (.pointer (some ⟨p,0,none⟩)) rfl (fun w hw=>by go_simp) ?_;simp only [Act.put,aa,ab,ac];refine ag (.pointer (some ⟨p,0,none⟩)) rfl (fun w hw=>by go_simp) ?_;simp only [Act.put,aa,ab,ac];refine ag (.pointer (some ⟨p,2,none⟩)) rfl (fun w hw=>by go_simp) ?_;simp only [Act.put,aa,ab,ac];refine ag (.int .i64 Ba) rfl (fun w hw=>by have d:=(HC1.out _ hw).2;go_simp) ?_;simp only [Act.put,aa,ab,ac];refine ag (.int .i64 ((b:Int)-(Ba:Int))) rfl (fun w hw=>by go_simp;rw [IntKind.wrap_i64];omega) ?_;simp only [Act.put,aa,ab,ac];refine aA (.tuple #[.int .i64 a,.bool true]) 287 #[.pointer (some ⟨t,0,none⟩),.int .i64 ((b:Int)-(Ba:Int))] rfl (fun w=>by go_simp) (fun w hw=>(HW1.out w hw).mono fun e w' h=>⟨h.1,hw.trans h.2 (fun _ h=>h.elim)⟩) ?_;simp only [Act.put,aa,ab,ac];refine ag (.tuple #[.int .i64 a,.bool true]) rfl (fun w hw=>by go_simp) ?_;simp only [Act.put,aa,ab,ac];refine ag (.int .i64 a) rfl (fun w hw=>by go_simp) ?_;simp only [Act.put,aa,ab,ac];refine ag (.bool true) rfl (fun w hw=>by go_simp) ?_;simp only [Act.put,aa,ab,ac];refine ag (.int .i64 a) rfl (fun w hw=>by go_simp) ?_;simp only [Act.put,aa,ab,ac];refine ag (.bool true) rfl (fun w hw=>by go_simp) ?_;simp only [Act.put,aa,ab,ac];refine wpQuiet_nil ?_;intro w2 hw2;have HW:=ae ((HF1.out.drew).trans hw2 (fun _ h=>h.elim));clear hw2;go_wp2;go_ret2;exact ⟨rfl,HW.out⟩
end
section
open Go.RowKit Go.Shelf
theorem va (N k:Nat) (hk:aK (k:Int)=true) (hk1:1≤k) (hk2:k≤1048576) (hN:N≤4194304) (w:World):Calls Tryz.prog 240 #[.int .i64 N,.int .i64 k] w fun e w'=>e= .returned (.int .i64 (((N+k-1)/k*k:Nat):Int))∧w=w':=by
 refine (xT (N:Int) (k:Int) (by omega) w).mono ?_;rintro e w' ⟨rfl,rfl⟩;refine ⟨?_,rfl⟩;have hf:wM (N:Int) (k:Int):=⟨hk,by omega,by omega,by omega⟩;have:gc (N:Int) (k:Int) true=(((N+k-1)/k*k:Nat):Int):=by
  unfold gc;rw [if_pos hf];show ((N:Int)+(k:Int)-1)/(k:Int)*(k:Int)=_
  rw [show (N:Int)+(k:Int)-1=((N+k-1:Nat):Int) by omega];simp
 rw [this]
def gS (N k:Nat):Nat:=(N+k-1)/k
theorem v8 {N k:Nat} (hk:1≤k):(N+k-1)/k*k/k=gS N k:=Nat.mul_div_cancel _ (by omega)
theorem pw {N k:Nat} (hk:1≤k):N≤gS N k*k:=by
 unfold gS;have:=Nat.div_add_mod (N+k-1) k;have h2:=Nat.mod_lt (N+k-1) (show 0<k by omega);rw [Nat.mul_comm] at this;omega
theorem px {N k j:Nat} (hk:1≤k) (hj:j<gS N k):j*k<N:=by
 unfold gS at hj;have h1:(j+1)*k≤N+k-1:=Nat.le_trans (Nat.mul_le_mul_right k hj) (Nat.div_mul_le_self _ _);rw [Nat.succ_mul] at h1;omega
def ca (lo hi:Nat) (w:World) (q W k:Nat) (E:Nat→Nat) (Ba:Nat):Prop:=
 ∃p,lo≤q∧q<hi∧ak w q [.pointer (some ⟨p,0,none⟩),.int .i64 k] 325∧cB lo hi w p W k E Ba∧aK (k:Int)=true∧1≤k∧k≤1024
theorem ca.frame {lo hi:Nat} {S:Nat→Prop} {w w':World} {q W k Ba:Nat} {E:Nat→Nat} (h:ca lo hi w q W k E Ba) (hf:Fr S w w') (hS:∀i,S i→i<lo∨hi≤i):ca lo hi w' q W k E Ba:=by
 obtain ⟨p,q1,q2,q3,q4,q5⟩:=h;exact ⟨p,q1,q2,q3.frame hf (fun h=>by rcases hS _ h with h|h<;>omega),q4.frame hf hS,q5⟩
theorem ca.keep {lo hi:Nat} {w w':World} {q W k Ba:Nat} {E:Nat→Nat} (h:ca lo hi w q W k E Ba) (hf:Fr (fun _=>False) w w'):ca lo hi w' q W k E Ba:=h.frame hf (fun _ h=>h.elim)
theorem cB.keep {lo hi:Nat} {w w':World} {p W k Ba:Nat} {E:Nat→Nat} (h:cB lo hi w p W k E Ba) (hf:Fr (fun _=>False) w w'):cB lo hi w' p W k E Ba:=h.frame hf (fun _ h=>h.elim)
theorem ca.small {lo hi:Nat} {w:World} {q W k Ba:Nat} {E:Nat→Nat} (h:ca lo hi w q W k E Ba):W≤1048576:=by
 obtain ⟨p,q1,q2,q3,q4,q5⟩:=h;exact q4.off
theorem cB.wide {lo hi lo' hi':Nat} {w:World} {p W k Ba:Nat} {E:Nat→Nat} (h:cB lo hi w p W k E Ba) (h1:lo'≤lo) (h2:hi≤hi'):cB lo' hi' w p W k E Ba:=by
 obtain ⟨t,o,q1,q2,q3,q4⟩:=h;exact ⟨t,o,by omega,by omega,q3,q4.wide h1 h2⟩
theorem ww {w:World} {L:aI} {W k:Nat} {E:Nat→Nat} (h:bA w L W E) (hT:bu w) (hk:aK (k:Int)=true) (hk1:1≤k) (hk2:k≤1024) (Ba:Nat) (hb:Ba<2147483648):Calls Tryz.prog 190 #[L.m,.int .i64 k,.int .i64 Ba] w fun e w'=>∃q,e= .returned (.tuple #[.pointer (some ⟨q,0,none⟩),.int .i64 0])∧ca w.heap.size w'.heap.size w' q W k E Ba∧Fr (fun _=>False) w w':=by
 have HF:=ae (callsIn_wide.1 (ql 0 h hT hk hk1 hk2 Ba hb));have HK:=ae (af hk (af hk1 hk2));obtain ⟨B,hB⟩:∃B:Int,(Ba:Int)=B:=⟨_,rfl⟩;rw [hB] at HF ⊢;clear h hT hk hb hB
 go_enter Tryz.func190,Tryz.ntmps190
 go_wp2_with fail
 refine (HF.out).mono ?_;rintro e w1 ⟨p,rfl,h1,h2⟩;have HP:=ae (af h1 h2);clear h1 h2;go_wp2;go_ret2;have hz:=HP.out.2.size;have hfa:Fr (fun _=>False) w1 (w1.alloc (.cells #[.pointer (some ⟨p,0,none⟩),.int .i64 k] 325)):=(Fr.refl _ w1).alloc _;exact ⟨w1.heap.size,rfl,⟨p,hz,by simp,ak.new w1 _ _,(HP.out.1.keep hfa).wide (Nat.le_refl _) (by simp),HK.out⟩,HP.out.2.alloc _⟩
theorem dt {lo hi:Nat} {w:World} {q W k Ba:Nat} {E:Nat→Nat} (h:ca lo hi w q W k E Ba):Calls Tryz.prog 191 #[q] w fun e w'=>(∃p,e= .returned (.pointer (some ⟨p,0,none⟩))∧cB lo hi w p W k E Ba)∧w=w':=by
 obtain ⟨p,q1,q2,q3,q4,q5⟩:=h;have c0:=q3.cell 0 rfl;have HF:=ae q4;clear q1 q2 q3 q4 q5
 go_enter Tryz.func191,Tryz.ntmps191
 go_wp2;go_ret;exact ⟨⟨p,rfl,HF.out⟩,rfl⟩
theorem iP {lo hi:Nat} {w:World} {q W k Ba:Nat} {E:Nat→Nat} (h:ca lo hi w q W k E Ba):Calls Tryz.prog 193 #[q] w fun e w'=>e= .returned (.int .i64 ((gS (cnt (aj E) 0 W) k:Nat):Int))∧Fr (fun _=>False) w w':=by
 obtain ⟨p,q1,q2,q3,q4,q5,q6,q7⟩:=h;have c0:=q3.drew.cell 0 rfl;have c1:=q3.drew.cell 1 rfl;have hN:=bx (E:=E) q4.off;have HF:=ae (js (q4.keep ((Fr.refl _ w).drew)));generalize cnt (aj E) 0 W=N at*;have HU:=ae (va N k q5 q6 (by omega) (by omega) w.drew);have hM:=v8 (N:=N) q6;generalize (N+k-1)/k*k=M at*;have hq:(M:Int).tdiv (k:Int)=((gS N k:Nat):Int):=by rw [bV,hM]
 have hk0:((k:Int)==0)=false:=by rw [beq_eq_false_iff_ne];omega
 have hk1:(1:Int)≤(k:Int):=by omega
 have HW:=ae ((Fr.refl (fun _=>False) w).drew);have hnb:gS N k≤N+k:=by unfold gS;exact Nat.le_trans (Nat.div_le_self _ _) (by omega)
 have hkk:k≤1024:=q7;have hkz:¬k=0:=by omega
 generalize gS N k=B at*;have hb1:(B:Int)≤2097152:=by omega
 have hb2:(N:Int)≤1048576:=by omega
 clear q1 q2 q3 q4 q5 q6 q7 hM
 go_enter Tryz.func193,Tryz.ntmps193
 go_wp2;refine ar (fun w'=>w'=w.drew) (by kernel_rfl) (by kernel_rfl) rfl ?_;refine ag (.pointer (some ⟨q,0,none⟩)) rfl (fun w hw=>by go_simp) ?_;simp only [Act.put,aa,ab,ac];refine ag (.pointer (some ⟨q,0,none⟩)) rfl (fun w hw=>by go_simp) ?_;simp only [Act.put,aa,ab,ac];refine ag (.pointer (some ⟨q,0,none⟩)) rfl (fun w hw=>by go_simp) ?_;simp only [Act.put,aa,ab,ac];refine ag (.pointer (some ⟨p,0,none⟩)) rfl (fun w hw=>by subst hw;go_simp) ?_;simp only [Act.put,aa,ab,ac];refine aA (.int .i64 N) 192 #[p] rfl (fun w=>by go_simp) (fun w hw=>by subst hw;exact (HF.out).mono fun e w' h=>⟨h.1,h.2.symm⟩) ?_;simp only [Act.put,aa,ab,ac];refine ag (.pointer (some ⟨q,0,none⟩)) rfl (fun w hw=>by go_simp) ?_;simp only [Act.put,aa,ab,ac];refine ag (.pointer (some ⟨q,0,none⟩)) rfl (fun w hw=>by go_simp) ?_;simp only [Act.put,aa,ab,ac];refine ag (.pointer (some ⟨q,1,none⟩)) rfl (fun w hw=>by go_simp) ?_;simp only [Act.put,aa,ab,ac];refine ag (.int .i64 k) rfl (fun w hw=>by subst hw;go_simp) ?_;simp only [Act.put,aa,ab,ac];refine aA (.int .i64 M) 240 #[.int .i64 N,.int .i64 k] rfl (fun w=>by go_simp) (fun w hw=>by subst hw;exact (HU.out).mono fun e w' h=>⟨h.1,h.2.symm⟩) ?_;simp only [Act.put,aa,ab,ac];refine ag (.pointer (some ⟨q,0,none⟩)) rfl (fun w hw=>by go_simp) ?_;simp only [Act.put,aa,ab,ac];refine ag (.pointer (some ⟨q,0,none⟩)) rfl (fun w hw=>by go_simp) ?_;simp only [Act.put,aa,ab,ac];refine ag (.pointer (some ⟨q,1,none⟩)) rfl (fun w hw=>by go_simp) ?_;simp only [Act.put,aa,ab,ac];refine ag (.int .i64 k) rfl (fun w hw=>by subst hw;go_simp) ?_;simp only [Act.put,aa,ab,ac];refine ag (.int .i64 B) rfl (fun w hw=>by go_simp;rw [IntKind.wrap_i64];omega) ?_;simp only [Act.put,aa,ab,ac];refine ag (.int .i64 B) rfl (fun w hw=>by go_simp) ?_;simp only [Act.put,aa,ab,ac];refine wpQuiet_nil ?_;rintro w2 rfl;go_wp2;go_ret;exact ⟨rfl,HW.out⟩
end
end Go.Proofs.YthahbijbpinneaaGreatDoor
