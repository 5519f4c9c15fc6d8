import Derived.Test.YthahbijbpinneaaGreatDoorA24
set_option maxRecDepth 100000
set_option maxHeartbeats 8000000
set_option linter.all false
namespace Go.Proofs.YthahbijbpinneaaGreatDoor
open Go.RowKit
section
variable {b xb m i j:Nat} {c:Cf} {w0 w:World}
def zo (b:Nat) (c:Cf) (A:AG) (rs:List Nat) (xb m:Nat) (w0 w:World):Prop:=bu b c A rs xb [.int .i64 2,.int .i64 0,.int .i64 m] 31 w0 w∧c.Sl=3
def wF (b:Nat) (c:Cf) (i xb m:Nat) (w0 w:World):Prop:=∃A r0 r1 r2,zo b c A [r0,r1,r2] xb m w0 w∧(i=0∨r2≠0∧A.np r2=2)
def wV (b:Nat) (c:Cf) (i xb m:Nat) (w0 w:World):Prop:=∃A r0 k r2,zo b c A [r0,k,r2] xb m w0 w∧(k≠0∧A.np k=2)∧(i=0∨r2≠0∧A.np r2=2)
def wG (b:Nat) (c:Cf) (xb m:Nat) (w0 w:World):Prop:=∃A r0 k r2,zo b c A [r0,k,r2] xb m w0 w∧(k≠0∧A.np k=2)∧r2≠0∧A.np r2=2
theorem wF.alloc (h:wF b c i xb m w0 w) (r:m<8):Calls Tryz.prog 11 #[b,.int .i64 1,bN ((2:Nat):Int) ((0:Nat):Int) (m:Int)] w fun e w'=>(e= .returned (.int .i64 0)∧wV b c i xb m w0 w')∨(e= .returned (.int .i64 21)∧wF b c i xb m w0 w'):=by
 obtain ⟨A,o,q,a,⟨d,g⟩,f⟩:=h;obtain ⟨l,n⟩:=d.lives;refine (d.alloc2 (s:=1) (k:=l.sum+1) n (by omega) (by unfold bl;omega) (by omega) (jr l)).mono ?_;rintro e w' (⟨p,rfl,g1⟩|⟨p,rfl,g1⟩)
 ·refine .inl ⟨rfl,_,o,l.sum+1,a,⟨g1,g⟩,⟨by omega,(AG.new_self A _ 2 0 m).1⟩,f.imp id (fun h=>⟨h.1,?_⟩)⟩;rw [(AG.new_other (A:=A) (show a≠l.sum+1 from fun e=>jr l (e▸(n.2 a).2 (.root (by simp) h.1)))).1];exact h.2
 ·exact .inr ⟨rfl,A,o,q,a,⟨g1,g⟩,f⟩
theorem wV.copy0 (h:wV b c i xb m w0 w):Calls Tryz.prog 15 #[b,.int .i64 0,.int .i64 1] w fun e w'=>e= .returned (.int .i64 0)∧wV b c i xb m w0 w':=by
 obtain ⟨A,n,k,l,⟨a,f⟩,d⟩:=h;refine (a.copy (s:=0) (u:=1) (by omega) rfl).mono ?_;rintro e w' ⟨rfl,g⟩;exact ⟨rfl,A,k,k,l,⟨g,f⟩,d⟩
theorem wV.copy2 (h:wV b c i xb m w0 w):Calls Tryz.prog 15 #[b,.int .i64 2,.int .i64 1] w fun e w'=>e= .returned (.int .i64 0)∧wG b c xb m w0 w':=by
 obtain ⟨A,l,k,n,⟨d,f⟩,a⟩:=h;refine (d.copy (s:=2) (u:=1) (by omega) rfl).mono ?_;rintro e w' ⟨rfl,g⟩;exact ⟨rfl,A,l,k,k,⟨g,f⟩,a.1,a.1⟩
theorem wV.toB (h:wV b c i xb m w0 w) (f:i≠0):wG b c xb m w0 w:=let ⟨A,g,k,l,a,d,e⟩:=h;⟨A,g,k,l,a,d,e.resolve_left f⟩
theorem wG.to0 (h:wG b c xb m w0 w):wF b c (i+1) xb m w0 w:=let ⟨A,e,k,f,a,_,d⟩:=h;⟨A,e,k,f,a,.inr d⟩
theorem wG.copy2 (h:wG b c xb m w0 w):Calls Tryz.prog 15 #[b,.int .i64 2,.int .i64 1] w fun e w'=>e= .returned (.int .i64 0)∧wG b c xb m w0 w':=
 wV.copy2 (i:=0) (let ⟨A,f,k,g,a,d,_⟩:=h;⟨A,f,k,g,a,d,.inl rfl⟩)
theorem wG.store (h:wG b c xb m w0 w) (s p u:Nat) (r:s=1∨s=2) (hp:p<2) (t:u<3):Calls Tryz.prog 13 #[b,.int .i64 s,.int .i64 p,.int .i64 u] w fun e w'=>e= .returned (.int .i64 0)∧wG b c xb m w0 w':=by
 obtain ⟨A,f,k,d,⟨o,q⟩,l,n⟩:=h;obtain ⟨v,y⟩:∃v,[f,k,d][u]? =some v:=⟨_,List.getElem?_eq_getElem t⟩;obtain ⟨x,z,a⟩:∃x,[f,k,d][s]? =some x∧x≠0∧A.np x=2:=by
  rcases r with rfl|rfl
  ·exact ⟨k,rfl,l⟩
  ·exact ⟨d,rfl,n⟩
 refine (o.store z a.1 (by rw [a.2];exact hp) y).mono ?_;rintro e w' ⟨rfl,g⟩;exact ⟨rfl,_,f,k,d,⟨g,q⟩,l,n⟩
def yt (b:Nat) (c:Cf) (j xb m:Nat) (w0 w:World):Prop:=∃A rs,zo b c A rs xb m w0 w∧∀i,i<j->rs[i]? =some 0
theorem wF.toC (h:wF b c i xb m w0 w):yt b c 0 xb m w0 w:=let ⟨A,_,_,_,a,_⟩:=h;⟨A,_,a,fun _ h=>absurd h (Nat.not_lt_zero _)⟩
theorem yt.clear (h:yt b c j xb m w0 w) (l:j<3):Calls Tryz.prog 14 #[b,.int .i64 j] w fun e w'=>e= .returned (.int .i64 0)∧yt b c (j+1) xb m w0 w':=by
 obtain ⟨A,rs,⟨a,f⟩,d⟩:=h;have n:=a.Sl;refine (a.clear (s:=j) (by omega)).mono ?_;rintro e w' ⟨rfl,g⟩;refine ⟨rfl,A,_,⟨g,f⟩,fun i k=> ?_⟩;by_cases e:i=j
 ·subst e;exact List.getElem?_set_self (by omega)
 ·rw [List.getElem?_set_ne (Ne.symm e)];exact d i (by omega)
def wH (b:Nat) (c:Cf) (xb m:Nat) (w0 w:World):Prop:=∃A,zo b c A [0,0,0] xb m w0 w
theorem yt.toD (h:yt b c 3 xb m w0 w):wH b c xb m w0 w:=by
 obtain ⟨A,rs,⟨a,g⟩,f⟩:=h;have k:=a.Sl;have e:rs=[0,0,0]:=List.ext_getElem? (fun i=>by
  by_cases d:i<3
  ·rw [f i d];match i,d with|0,_=>rfl|1,_=>rfl|2,_=>rfl
  ·rw [List.getElem?_eq_none (by omega),List.getElem?_eq_none (by simp;omega)])
 subst e;exact ⟨A,a,g⟩
theorem lE {A:AG}:aJ A [0,0,0] []:=⟨.nil,fun x=>⟨fun h=>(by cases h),fun h=>absurd h (dT (n:=3))⟩⟩
theorem wH.live (h:wH b c xb m w0 w):Calls Tryz.prog 19 #[b] w fun e w'=>e= .returned (.tuple #[.int .i64 0,.int .i64 0])∧wH b c xb m w0 w':=by
 obtain ⟨A,a,d⟩:=h;refine (a.live lE).mono ?_;rintro e w' ⟨rfl,g⟩;exact ⟨rfl,A,g,d⟩
def Ag (b:Nat) (c:Cf) (z xb m:Nat) (w0 w:World):Prop:=∃A,zo b c A [1,0,0] xb m w0 w∧aJ A [1,0,0] [1]∧A.Wd [1]=z+1
theorem wH.alloc {z:Nat} (h:wH b c xb m w0 w) (t:z<256) (r:z+1<=c.Wd):Calls Tryz.prog 11 #[b,.int .i64 0,bN ((0:Nat):Int) ((0:Nat):Int) (z:Int)] w fun e w'=>e= .returned (.int .i64 0)∧Ag b c z xb m w0 w':=by
 obtain ⟨A,l,n⟩:=h;refine (l.alloc2 (s:=0) (k:=1) lE (by omega) (by unfold bl;omega) (by omega) (by simp)).mono ?_;rintro e w' (⟨g,rfl,g1⟩|⟨g,rfl,g1⟩)
 ·obtain ⟨o,u,v,y,q⟩:=AG.new_self A 1 0 0 z;refine ⟨rfl,_,⟨g1,n⟩,⟨by simp,fun x=>⟨fun d=> ?_,fun d=> ?_⟩⟩,?_⟩
  ·rw [List.mem_singleton.1 d];exact .root (by simp) (by omega)
  ·induction d with
   |root q1 q2=>simp at q1;simp;omega
   | @step a p _ q1 _ ih=>
    rw [List.mem_singleton.1 ih] at q1;obtain ⟨i,f,_⟩:=List.mem_map.1 q1;rw [o] at f;simp at f
  ·unfold AG.Wd;simp [q];omega
 ·have:A.Wd []=0:=rfl;omega
def Ai (b:Nat) (c:Cf) (z xb m:Nat) (w0 w:World):Prop:=∃A,ue b c A [1,0,0] [1] xb [.int .i64 2,.int .i64 0,.int .i64 m] 31 w0 w∧aJ A [1,0,0] [1]∧A.Wd [1]=z+1
theorem Ag.collect {z:Nat} (h:Ag b c z xb m w0 w):Calls Tryz.prog 20 #[b] w fun e w'=>e= .returned (.tuple #[])∧Ai b c z xb m w0 w':=by
 obtain ⟨A,d,a,f⟩:=h;refine (d.1.collect a).mono ?_;rintro e w' ⟨rfl,g⟩;exact ⟨rfl,A,g,a,f⟩
theorem Ai.stats {z:Nat} (h:Ai b c z xb m w0 w):Calls Tryz.prog 21 #[b] w fun e w'=>(∃(no Us Hg:Nat) (d a:Int),e= .returned (.agg #[.int .i64 no,.int .i64 ((z+1:Nat):Int),.int .i64 ((z+1:Nat):Int),.int .i64 Us,.int .i64 Hg,.int .i64 d,.int .i64 a,.bool false,.int .i64 0]))∧Fr (fun _=>False) w0 w':=by
 obtain ⟨A,f,k,l⟩:=h;refine (f.stats k).mono ?_;rintro e w' ⟨⟨Us,Hg,d,a,rfl⟩,g⟩;exact ⟨⟨_,Us,Hg,d,a,by rw [l]⟩,g.toI.fr⟩
theorem wF.blk (h:wF b c i xb m w0 w):aj w xb [.int .i64 2,.int .i64 0,.int .i64 m] 31:=let ⟨_,_,_,_,a,_⟩:=h;a.1.blk
theorem wH.fr (h:wH b c xb m w0 w):Fr (fun _=>False) w0 w:=let ⟨_,a,_⟩:=h;a.fr
theorem wH.cok (h:wH b c xb m w0 w):cT c:=let ⟨_,a,_⟩:=h;a.cok
end
def yE (w:World) (e:Ending) (w':World):Prop:=e= .returned (.bool true)∧Fr (fun _=>False) w w'
section
variable {v0 v1 v2 v3 v4 v5 v6:Int} {tr x1 x2:Nat} {w:World}
theorem qy (b1:v1<=9223372036854775807) (b2:v2<=9223372036854775807) (b3:v3<=9223372036854775807) (hT:bv w) (bo:x1<256) (b0:x2<256):Calls Tryz.prog 5 #[dY v0 v1 v2 v3 v4 v5 v6 tr,.int .u8 x1,.int .u8 x2] w (yE w):=by
 obtain ⟨W1,O⟩:∃W1,w.alloc (.cells #[.int .i64 v0,.int .i64 v1,.int .i64 v2,.int .i64 v3,.int .i64 3,.int .i64 v5,.int .i64 v6,.float .f64 tr] 24)=W1:=⟨_,rfl⟩;have X:Fr (fun _=>False) w W1:=by rw [<-O];exact (Fr.refl _ w).alloc _
 have V:aj W1 w.heap.size [.int .i64 v0,.int .i64 v1,.int .i64 v2,.int .i64 v3,.int .i64 3,.int .i64 v5,.int .i64 v6,.float .f64 tr] 24:=by rw [<-O];exact aj.new w _ _
 obtain ⟨k0,k1,k2,k3,k4,k5,k6,k7⟩:=cY V;have M:=ae (gZ (v0:=v0) (v4:=3) (v5:=v5) (v6:=v6) (tr:=tr) b1 b2 b3 (ak hT X (fun h=>h)) ⟨fun _=>0,fun _=>0,fun _=>0,fun _ _=>0⟩ none 0 0);have n:=ae (fun w1 (hf:Fr (fun _=>False) w w1)=>eN w1 (ak hT hf (fun h=>h)));have f:=ae X;have L:=ae V;have HQ:Hid (∀w',Fr (fun _=>False) w w'->yE w (.returned (.bool true)) w'):=ae (fun w' h=>⟨rfl,h⟩);obtain ⟨N,hN⟩:∃N,N=x1% 30:=⟨_,rfl⟩;obtain ⟨m,hm⟩:∃m,m=x2% 8:=⟨_,rfl⟩;have bb:(x1:Int)% 30=(N:Int):=by omega
 have bj:(x2:Int)% 8=(m:Int):=by omega
 have HM:=ae (show m<8∧N<30 by omega);clear b1 b2 b3 hT X V bo b0 hN hm;unfold dY at M ⊢;generalize (yE w)=Q at*
 go_enter Tryz.func5,Tryz.ntmps5
 go_wp2_with fail
 refine (M.out).mono ?_;rintro e w2 bd;obtain ⟨k0,k1,k2,k3,k4,k5,k6,k7⟩:=cY (L.out);rcases bd with ⟨rfl,o⟩|⟨c,b,T,W,a3,bk,_,rfl,hi,a0,o⟩
 ·have ax:=ae (n.out w2 (f.out.trans o (fun _ h=>h.elim)));have av:=ae (f.out.trans o (fun _ h=>h.elim));clear M n f L HM o O k0 k1 k2 k3 k4 k5 k6 k7;go_wp2_with fail
  refine (ax.out).mono ?_;rintro e w3 ⟨rfl,p⟩;have H:=ae (HQ.out w3 (av.out.trans p (fun _ h=>h.elim)));clear ax av p HQ;go_wp2;exact H.out
 ·have hv:=Array.mk.inj (Value.agg.inj a3);simp only [List.cons.injEq,Value.int.injEq,true_and,and_true,Value.float.injEq] at hv;obtain ⟨e0,e1,e2,e3,e4,e5,e6,e7⟩:=hv;have ah:c.Sl=3:=by omega
  subst e3;clear e0 e1 e2 e4 e5 e6 e7 a3 O M bk W;obtain ⟨W3,S⟩:∃W3,w2.alloc (.cells #[.int .i64 2,.int .i64 0,.int .i64 m] 31)=W3:=⟨_,rfl⟩;have p:Fr (fun _=>False) w2 W3:=by rw [<-S];exact (Fr.refl _ w2).alloc _
  have a2:aj W3 w2.heap.size [.int .i64 2,.int .i64 0,.int .i64 m] 31:=by rw [<-S];exact aj.new w2 _ _
  rw [ah] at hi;have H0:=ae (show wF b c 0 w2.heap.size m W1 W3 from ⟨_,0,0,0,⟨⟨_,_,T,hi.keep p,a0,fun hk=>by have:=hi.lt _ hk;omega,a2,o.trans p (fun _ h=>h.elim)⟩,ah⟩,.inl rfl⟩);clear hi o a0 a2 p ah k0 k1 k2 k3 k4 k5 k6 k7
  go_upto_region 6 with fail
  clear S;obtain ⟨xb,a9⟩:∃xb,xb=w2.heap.size:=⟨_,rfl⟩;rw [<-a9] at H0 ⊢;clear a9;go_wp2;clear bb bj
  go_loopw [27] (fun z wr=>∃i:Nat,z= .int .i64 i∧i<=N∧Hid (wF b c i xb m W1 wr)) (fun z _=>(N-intOf z).toNat)
  case atStart=>exact ⟨0,rfl,by omega,H0⟩
  case round=>
   clear H0;obtain ⟨i,rfl,a5,l⟩:=hrel;by_cases a7:i<N
   ·have c1:(i:Int)<(N:Int):=by omega
    obtain ⟨k0,k1,k2⟩:=bE l.out.blk;have a:=ae (l.out.alloc HM.out.1);have u:=ae (show i<30 by have:=HM.out.2;omega);unfold bN at a;rw [show ((0:Nat):Int)=0 from rfl,show ((2:Nat):Int)=2 from rfl] at a;clear l;go_wp2_with fail
    refine (a.out).mono ?_;rintro e w4 (⟨rfl,U⟩|⟨rfl,U⟩)
    ·by_cases h0:i=0
     ·subst h0;have ap:=ae U.copy0;clear a U k0 k1 k2;go_wp2_with fail
      refine (ap.out).mono ?_;rintro e w5 ⟨rfl,a1⟩;have aq:=ae a1.copy2;clear ap a1;go_wp2_with fail
      refine (aq.out).mono ?_;rintro e w6 ⟨rfl,a8⟩;have HX:=ae a8;clear aq a8;have x:=ae (HX.out.store 1 0 0 (.inl rfl) (by omega) (by omega));clear HX;go_wp2_with fail
      refine (x.out).mono ?_;rintro e w7 ⟨rfl,F⟩;have y:=ae (F.store 2 0 1 (.inr rfl) (by omega) (by omega));clear x F;go_wp2_with fail
      refine (y.out).mono ?_;rintro e J ⟨rfl,G⟩;have A:=ae (G.store 1 1 1 (.inl rfl) (by omega) (by omega));clear y G;go_wp2_with fail
      refine (A.out).mono ?_;rintro e K ⟨rfl,I⟩;have B:=ae (I.copy2);clear A I;go_wp2_with fail
      refine (B.out).mono ?_;rintro e b4 ⟨rfl,d⟩;have R:=ae (d.to0 (i:=0));have a6:=u.out;clear B d;go_wp2;go_roundw
      case rel=>exact ⟨0+1,by go_num,by omega,R⟩
      case measure=>simp [intOf];omega
     ·have b5:decide ((i:Int)=0)=false:=by rw [decide_eq_false_iff_not];omega
      have b6:¬(i:Int)=0:=by omega
      have HX:=ae (U.toB h0);clear a U k0 k1 k2 h0;have x:=ae (HX.out.store 1 0 0 (.inl rfl) (by omega) (by omega));clear HX;go_wp2_with fail
      refine (x.out).mono ?_;rintro e w7 ⟨rfl,F⟩;have y:=ae (F.store 2 0 1 (.inr rfl) (by omega) (by omega));clear x F;go_wp2_with fail
      refine (y.out).mono ?_;rintro e J ⟨rfl,G⟩;have A:=ae (G.store 1 1 1 (.inl rfl) (by omega) (by omega));clear y G;go_wp2_with fail
      refine (A.out).mono ?_;rintro e K ⟨rfl,I⟩;have B:=ae (I.copy2);clear A I;go_wp2_with fail
      refine (B.out).mono ?_;rintro e b4 ⟨rfl,d⟩;have R:=ae (d.to0 (i:=i));have a6:=u.out;clear B d;go_wp2;go_roundw
      case rel=>exact ⟨i+1,by go_num,by omega,R⟩
      case measure=>simp [intOf];omega
    ·have HC:=ae U.toC;clear a U k0 k1 k2 c1 a7 a5 u;go_wp2
     go_loopw [49] (fun z wr=>∃j:Nat,z= .int .i64 j∧j<=3∧Hid (yt b c j xb m W1 wr)) (fun z _=>(3-intOf z).toNat)
     case atStart=>exact ⟨0,rfl,by omega,HC⟩
     case round=>
      clear HC;obtain ⟨j,rfl,ad,l⟩:=hrel;by_cases hj:j<3
      ·have c1:(j:Int)<3:=by omega
       have q:=ae (l.out.clear hj);clear l;go_wp2_with fail
       refine (q.out).mono ?_;rintro e w5 ⟨rfl,W⟩;have R:=ae W;clear q W;go_wp2;go_roundw
       case rel=>exact ⟨j+1,by go_num,by omega,R⟩
       case measure=>simp [intOf];omega
      ·have c1:¬(j:Int)<3:=by omega
       obtain rfl:j=3:=by omega
       have t:=ae (l.out.toD.live);clear l hj ad;go_wp2_with fail
       refine (t.out).mono ?_;rintro e w5 ⟨rfl,P⟩;have k3:=(L.out.frame P.fr (fun h=>h)).cell 3 rfl;have C:=P.cok.words2;obtain ⟨z,hz⟩:∃z,z+1=min c.Wd 256:=⟨min c.Wd 256-1,by omega⟩;obtain ⟨Z,hZ⟩:∃Z:Int,Z=((z+1:Nat):Int):=⟨_,rfl⟩;have am:(min (c.Wd:Int) 256)=Z:=by omega
       have a:=ae (P.alloc (z:=z) (by omega) (by omega));obtain ⟨Y,hY⟩:∃Y:Int,Z-1=Y:=⟨_,rfl⟩;have E:(z:Int)=Y:=by omega
       have HZ:=ae hZ;unfold bN at a;rw [show ((0:Nat):Int)=0 from rfl,E] at a;clear E t P hz C c1 hZ;go_wp2_with fail
       refine (a.out).mono ?_;rintro e w6 ⟨rfl,he⟩;have r:=ae he.collect;clear a he;go_wp2_with fail
       refine (r.out).mono ?_;rintro e w7 ⟨rfl,hf⟩;have g:=ae hf.stats;rw [<-HZ.out] at g;clear r hf;go_wp2_with fail
       refine (g.out).mono ?_;rintro e J ⟨⟨no,Us,Hg,ns,bs,rfl⟩,k⟩;have s:=ae (n.out J (f.out.trans k (fun _ h=>h.elim)));have v:=ae (fun K (hf:Fr (fun _=>False) J K)=>HQ.out K ((f.out.trans k (fun _ h=>h.elim)).trans hf (fun _ h=>h.elim)));have a4:(Instr.field 43 (.agg #[.int .i64 no,.int .i64 Z,.int .i64 Z,.int .i64 Us,.int .i64 Hg,.int .i64 ns,.int .i64 bs,.bool false,.int .i64 0]) 2).run Tryz.prog J= .ok (.int .i64 Z) J:=by kernel_rfl
       clear g k n HQ k3 am HZ;go_wp2_with fail
       refine (s.out).mono ?_;rintro e K ⟨rfl,D⟩;have H:=ae (v.out K D);clear s v D;go_wp2;exact H.out
   ·have HC:=ae l.out.toC;have c1:¬(i:Int)<(N:Int):=by omega
    clear l a7 a5;go_wp2
    go_loopw [49] (fun z wr=>∃j:Nat,z= .int .i64 j∧j<=3∧Hid (yt b c j xb m W1 wr)) (fun z _=>(3-intOf z).toNat)
    case atStart=>exact ⟨0,rfl,by omega,HC⟩
    case round=>
     clear HC;obtain ⟨j,rfl,ad,l⟩:=hrel;by_cases hj:j<3
     ·have c1:(j:Int)<3:=by omega
      have q:=ae (l.out.clear hj);clear l;go_wp2_with fail
      refine (q.out).mono ?_;rintro e w5 ⟨rfl,W⟩;have R:=ae W;clear q W;go_wp2;go_roundw
      case rel=>exact ⟨j+1,by go_num,by omega,R⟩
      case measure=>simp [intOf];omega
     ·have c1:¬(j:Int)<3:=by omega
      obtain rfl:j=3:=by omega
      have t:=ae (l.out.toD.live);clear l hj ad;go_wp2_with fail
      refine (t.out).mono ?_;rintro e w5 ⟨rfl,P⟩;have k3:=(L.out.frame P.fr (fun h=>h)).cell 3 rfl;have C:=P.cok.words2;obtain ⟨z,hz⟩:∃z,z+1=min c.Wd 256:=⟨min c.Wd 256-1,by omega⟩;obtain ⟨Z,hZ⟩:∃Z:Int,Z=((z+1:Nat):Int):=⟨_,rfl⟩;have am:(min (c.Wd:Int) 256)=Z:=by omega
      have a:=ae (P.alloc (z:=z) (by omega) (by omega));obtain ⟨Y,hY⟩:∃Y:Int,Z-1=Y:=⟨_,rfl⟩;have E:(z:Int)=Y:=by omega
      have HZ:=ae hZ;unfold bN at a;rw [show ((0:Nat):Int)=0 from rfl,E] at a;clear E t P hz C c1 hZ;go_wp2_with fail
      refine (a.out).mono ?_;rintro e w6 ⟨rfl,he⟩;have r:=ae he.collect;clear a he;go_wp2_with fail
      refine (r.out).mono ?_;rintro e w7 ⟨rfl,hf⟩;have g:=ae hf.stats;rw [<-HZ.out] at g;clear r hf;go_wp2_with fail
      refine (g.out).mono ?_;rintro e J ⟨⟨no,Us,Hg,ns,bs,rfl⟩,k⟩;have s:=ae (n.out J (f.out.trans k (fun _ h=>h.elim)));have v:=ae (fun K (hf:Fr (fun _=>False) J K)=>HQ.out K ((f.out.trans k (fun _ h=>h.elim)).trans hf (fun _ h=>h.elim)));have a4:(Instr.field 43 (.agg #[.int .i64 no,.int .i64 Z,.int .i64 Z,.int .i64 Us,.int .i64 Hg,.int .i64 ns,.int .i64 bs,.bool false,.int .i64 0]) 2).run Tryz.prog J= .ok (.int .i64 Z) J:=by kernel_rfl
      clear g k n HQ k3 am HZ;go_wp2_with fail
      refine (s.out).mono ?_;rintro e K ⟨rfl,D⟩;have H:=ae (v.out K D);clear s v D;go_wp2;exact H.out
end
theorem kz {n:Int} (h:(Lit.int .u8 n).wf=true):∃x:Nat,x<256∧n=(x:Int):=by
 simp [Lit.wf,IntKind.min,IntKind.max,IntKind.bits,IntKind.signed] at h;exact ⟨n.toNat,by omega,by rw [Int.toNat_of_nonneg (by omega)]⟩
theorem o0 {cs:List Value} {a b:Int} {W:World} (h:cq gP cs) (i:(Lit.int .u8 a).wf=true) (j:(Lit.int .u8 b).wf=true) (k:laidMetH Tryz.prog Rows.topRingRow.laid W):Calls Tryz.prog 5 #[.agg cs.toArray,.int .u8 a,.int .u8 b] W fun e w'=>e= .returned (.bool true)∧Fr (fun _=>False) W w':=by
 obtain ⟨v0,v1,v2,v3,v4,v5,v6,tr,e,c,d,f⟩:=ea h;obtain ⟨l,g1,rfl⟩:=kz i;obtain ⟨m,g,rfl⟩:=kz j;rw [e];exact qy c d f (gd k) g1 g
end Go.Proofs.YthahbijbpinneaaGreatDoor
