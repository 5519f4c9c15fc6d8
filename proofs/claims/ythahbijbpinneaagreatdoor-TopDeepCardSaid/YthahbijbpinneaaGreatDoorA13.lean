import Derived.Test.YthahbijbpinneaaGreatDoorA12
set_option maxRecDepth 100000
set_option maxHeartbeats 8000000
set_option linter.all false
namespace Go.Proofs.YthahbijbpinneaaGreatDoor
open Go.RowKit
structure qJ (c:Cy) (s:bh) (hf hg:Nat->Nat) (Fs top:Nat):Prop where
 ok:b8 s
 hd:∀a,s.E a≠0->bl (s.hp a) (hf a) (hg a)
 top1:top<=s.to_+s.R*s.P
 low1:s.to_+s.N<=top
 fr1:Fs=s.R+(s.Ah+2)*(qk s.B s.P+3)
 to_:s.to_<=524288
 nb:c.nb=s.nb
 ah:c.Ah=s.Ah
 N:s.N<=524288
 B:s.B<=1024
 a16:s.Ah<=16
def dp (Mv:List Bool) (k:Nat):Bool:=Mv.getD k false
theorem rx {a:List Bool} {k:Nat} (b:k<a.length):dp (a.set k true)=cH (dp a) k:=by
 funext j;unfold dp cH;by_cases e:j=k
 ·subst e;rw [decide_eq_true rfl,Bool.or_true];simp [List.getD,b]
 ·rw [decide_eq_false e,Bool.or_false];simp only [List.getD,List.getElem?_set,if_neg (Ne.symm e)]
def eo (c:Cy) (s:bh) (hf hg:Nat->Nat) (Fs top:Nat) (Mv:List Bool) (left fr ah:Nat) (L:Nat->Nat) (S:Nat->Prop) (w:World):Prop:=
 ∃Us Hg Sm mp M fw n,dX c s hf hg Fs Us Hg Sm mp M Mv fw n left fr ah w∧fQ s L M mp (dp Mv) fr ah left top∧(∀q,(fw q).getD 0=jm s (aZ s.B (dp Mv)) q)∧n<4611686018427387904∧∀k,S k↔(Sm k∨c.has k)
def wT (c:Cy) (s:bh) (hf hg:Nat->Nat) (Fs top:Nat) (Mv:List Bool) (left fr k:Nat) (L:Nat->Nat) (S:Nat->Prop) (w:World) (e:Ending) (w':World):Prop:=
 e= .returned (.int .i64 0)∧∃fr' ah' S',eo c s hf hg Fs top (Mv.set k true) (left-1) fr' ah' L S' w'∧fr<=fr'∧(k=fr->fr<fr')∧Fr S w w'∧∀j,S' j->S j∨w.heap.size<=j
def kQ (w:World) (y:Nat):Nat:=match w.cell? ⟨y,12,none⟩ with|some (.int _ f)=>f.toNat|_=>0
section
variable {c:Cy} {s:bh} {hf hg:Nat->Nat} {Fs Us Hg top:Nat} {Sm S:Nat->Prop} {mp mp1:Nat->Bool} {L M M1:Nat->Nat} {Mv:List Bool} {fw:Nat->Option Nat} {n left fr ah k:Nat} {w w' w0:World} {mvd:Nat->Bool}
theorem mi {mvd:Nat->Bool} {k f m:Nat} (d:f<=k) (o:k<m) (e:mvd k=false):cnt (cH mvd k) f m=cnt mvd f m+1:=by
 have h:∀g:Nat->Bool,cnt g f m=cnt g f k+(if g k then 1 else 0)+cnt g (k+1) m:=fun g=>by
  rw [ay g (show f<=k+1 by omega) (show k+1<=m from o),aC g d]
 rw [h,h mvd,aK (f:=cH mvd k) (g:=mvd) (a:=f) (b:=k) (fun i _ l=>by unfold cH;rw [decide_eq_false (by omega),Bool.or_false]),aK (f:=cH mvd k) (g:=mvd) (a:=k+1) (b:=m) (fun i l _=>by unfold cH;rw [decide_eq_false (by omega),Bool.or_false])];have j:cH mvd k k=true:=by unfold cH;simp
 rw [j,e];simp;omega
theorem sx (h:fQ s L M mp mvd fr ah left top) (v:k<s.nb) (g:mvd k=false) (x:k=fr∨ah<s.Ah) {f a:Nat} (p:∀j,j<f->cH mvd k j=true) (q:fr<=f) (r:f<=s.nb) (t:f<s.nb->cH mvd k f=false) (u:a=cnt (cH mvd k) f s.nb):a<=s.Ah∧(k=fr->fr<f):=by
 obtain ⟨A,E,B⟩:=h.front;obtain ⟨F,G⟩:=h.Ah;have y:fr<=k:=by
  rcases Nat.lt_or_ge k fr with b|b
  ·rw [A k b] at g;cases g
  ·exact b
 by_cases e:k=fr
 ·have m:fr<f:=by
   rcases Nat.lt_or_ge fr f with b|b
   ·exact b
   ·have l:f=fr:=by omega
    have d:=t (by omega);rw [l,<-e] at d;unfold cH at d;simp at d
  refine ⟨?_,fun _=>m⟩;have d:cnt (cH mvd k) f s.nb=cnt mvd f s.nb:=aK (fun i D _=>by unfold cH;rw [decide_eq_false (by omega),Bool.or_false]);have C:cnt mvd fr s.nb=cnt mvd fr f+cnt mvd f s.nb:=ay mvd q r;omega
 ·have z:fr<k:=by omega
  have d:cH mvd k fr=false:=by
   unfold cH;rw [B (by omega),decide_eq_false (by omega)];rfl
  have l:f=fr:=by
   rcases Nat.lt_or_ge fr f with b|b
   ·rw [p fr b] at d;cases d
   ·omega
  subst l;rw [mi (by omega) v g] at u;exact ⟨by omega,fun o=>absurd o e⟩
theorem oI (D:qJ c s hf hg Fs top) (h:eo c s hf hg Fs top Mv left fr ah L S w) (I:k<s.nb) (A:dp Mv k=false) (Y:k=fr∨ah<s.Ah):
  Calls Tryz.prog 133 #[c.y,.int .i64 k] w (wT c s hf hg Fs top Mv left fr k L S w):=by
 obtain ⟨Us,Hg,Sm,mp,M,fw,n,d,hp,ap,hn,hS⟩:=h;have K:=D.ok;have gs:=fp K.B1 I;obtain ⟨t,r⟩:∃t,t=s.to_+k*s.B:=⟨_,rfl⟩;obtain ⟨u,C⟩:∃u,u=min (s.to_+k*s.B+s.B) (s.to_+s.N):=⟨_,rfl⟩;have ge:=K.B1;have f4:t<u:=by omega
 have g5:u<=s.to_+s.N:=by omega
 have hW:=K.to2;have a2:=K.N2;have ct:=ko d.plan (by have:=d.to_;have:=D.to_;omega) k (by rw [d.B];exact I);have cs:=fun w1 (hh:cl c.lo c.hi w1 c.pl s.W c.B s.E c.to_) (hT:bv w1)=>ow hh hT (by have:=d.to_;have:=D.to_;omega) k (by rw [d.B];exact I)
 rw [d.B,d.to_] at ct cs;rw [<-r,show cnt (ai s.E) 0 s.W=s.N from rfl,r,<-C,<-r] at ct cs;have cc:Us+cnt (bX mp) (t/s.P) ((u-1)/s.P+1)<=Fs:=by
  have h1:=hp.need K I Y r C;rw [D.fr1,d.mem.at.2.2.2.2.2.2.2.1];exact h1
 have e8:=ae ct;have ey:=ae (fun w1 (am:Fr (fun _=>False) w w1)=>ik (d.mem.keep am) t u f4 (by omega) cc);have e6:=ae cs;have em:=ae (fun w1 (am:Fr (fun _=>False) w w1)=>af ((d.Fh am).blk.cell 0 rfl) ((d.Fh am).blk.cell 8 rfl));have HW:=ae d;have HP:=ae hp;have c8:=d.blk.cell 8 rfl;have HX:=ae (af ap (af hn (af hS (af D (af Y (af I (af A (af r C))))))));have hu:(k:Int)<=524288:=by have:=D.N;have h2:=Nat.le_mul_of_pos_right k (show 0<s.B by omega);omega
 have g4:(u:Int)<=1048576:=by have:=D.N;have:=D.to_;omega
 have HQ:Hid (∀(a5 cp:Nat) (S':Nat->Prop) (w':World),eo c s hf hg Fs top (Mv.set k true) (left-1) a5 cp L S' w'->fr<=a5->(k=fr->fr<a5)->Fr S w w'->(∀j,S' j->S j∨w.heap.size<=j)->wT c s hf hg Fs top Mv left fr k L S w (.returned (.int .i64 0)) w'):=by
  show∀(a5 cp:Nat) (S':Nat->Prop) (w':World),_
  exact fun a5 cp S' w' h1 h2 h3 h4 h5=>⟨rfl,a5,cp,S',h1,h2,h3,h4,h5⟩
 clear d hp ap hn hS D Y I A r C ct cs K gs ge g5 hW a2 cc;generalize (wT c s hf hg Fs top Mv left fr k L S w)=Q at*
 go_enter Tryz.func133,Tryz.ntmps133
 go_wp2_with fail
 refine (e8.out).mono ?_;rintro e w1 ⟨rfl,am⟩;obtain ⟨c0,_⟩:=em.out w1 am;have ex:=ae (ey.out w1 am);have bb:=ae am;clear am ey e8 c8;go_wp2_with fail
 refine (ex.out).mono ?_;rintro e w2 ⟨rfl,m,high1,mp1,M1,n1,n2,n3,n4,n5⟩;have H:=(HW.out.Fh bb.out).mem_ n1 n4 n5;have c8:=H.blk.cell 8 rfl;have e3:=ae (e6.out w2 (by have h9:=H.plan;rw [HW.out.B,HW.out.to_] at h9;exact h9) H.tab);have H2:=ae (af H (af n2 (af n3 (af n4 n5))));clear H n1 n2 n3 n4 n5 ex e6 c0 em;go_wp2_with fail
 refine (e3.out).mono ?_;rintro e w3 ⟨v,l,rfl,cd,cb,U⟩;obtain ⟨g,cap,rfl,a9⟩:∃g cap,v= .slice (some ⟨g,0,none⟩) l.length cap∧w2.heap.size<=g:=by
  rcases cd.2 with ⟨h1,h2⟩|⟨g,cap,cur,h1,h2,_⟩
  ·have:l.length=0:=by have:=h2;omega
   have h3:l=[]:=List.eq_nil_of_length_eq_zero this;subst h3;have:t=u:=cb;omega
  ·exact ⟨g,cap,h1,h2⟩
 have ej:=vH cd;have bs:=im cb;obtain ⟨H,n2,n3,n4,n5⟩:=H2.out;have f5:=H.Fh U;have a0:¬m g:=fun hs=>by have:=H.mem.lt g hs;omega
 have a8:g<w3.heap.size:=by
  have h0:0<l.length:=by
   by_cases h0:l.length=0
   ·have h3:l=[]:=List.eq_nil_of_length_eq_zero h0;subst h3;have:t=u:=cb;omega
   ·omega
  have:=ej 0 l[0] (List.getElem?_eq_getElem h0) 0 _ rfl;exact aD this
 obtain ⟨ap,hn,hS,D,Y,I,A,r,C⟩:=HX.out;have K:=D.ok;have a2:=K.N2;have dm:=ae (fun (j F p Z:Nat) (wr:World) (V:l[j]? =some (F,p,Z)) (h1:1<=Z) (hs:kL s.E s.to_ s.W p F Z) (aq:t<=p) (a4:p+Z<=u) (J:dX c s hf hg Fs (Us+cnt (bX mp) (t/s.P) ((u-1)/s.P+1)) high1 m mp1 (kG s M1 t p) Mv fw n left fr ah wr∧Fr (fun k=>m k∨w3.heap.size<=k) w3 wr)=>
  (let hb:=vD K I r C aq a4 h1 hs
   (vW J.1 F p Z (y8 K HP.out I A r C hb h1 n2 n3 D.hd HW.out.to_ (by have:=D.to_;omega))).mono (fun e w' ⟨q1,q2,q3⟩=>(⟨q1,by rw [zK K hb (by omega) (by omega)] at q2;exact q2,J.2.trans q3 (fun k I=> .inl (.inl I))⟩:e=Ending.returned (.tuple #[])∧dX c s hf hg Fs (Us+cnt (bX mp) (t/s.P) ((u-1)/s.P+1)) high1 m mp1 (kG s M1 t (p+Z)) Mv fw n left fr ah w'∧Fr (fun k=>m k∨w3.heap.size<=k) w3 w'))))
 have H3:=ae (⟨by rw [uo];exact f5,Fr.refl _ _⟩:dX c s hf hg Fs (Us+cnt (bX mp) (t/s.P) ((u-1)/s.P+1)) high1 m mp1 (kG s M1 t t) Mv fw n left fr ah w3∧Fr (fun k=>m k∨w3.heap.size<=k) w3 w3);have cn:=ae (fun (wr:World) (hf:Fr (fun k=>m k∨w3.heap.size<=k) w3 wr)=>ej.frame hf (fun h=>by rcases h with h|h;exact a0 h;omega));have ds:=ae cb;have bd:=ae (fun (j p:Nat) (hh:iz s.E s.to_ s.W p (l.drop j) u) (V:j<l.length)=>th hh V);have f9:=ae (fun (w4 w5:World) (h4:dX c s hf hg Fs (Us+cnt (bX mp) (t/s.P) ((u-1)/s.P+1)) high1 m mp1 (kG s M1 t t) Mv fw n left fr ah w4∧Fr (fun k=>m k∨w3.heap.size<=k) w3 w4) (hf:Fr (fun _=>False) w4 w5)=>af (h4.1.Fh hf) (h4.2.trans hf (fun _ h=>h.elim)));have HH:=ae (af U (af a0 (af a8 a9)));have g9:Hid ((Tryz.prog.info? 286).map (·.size)=some 3):=by show _=_;kernel_rfl
 have d6:l.length<=1048576:=by have:=D.N;have:=D.to_;omega
 clear cd cb U ej H n2 n3 n4 n5 f5 a0 a8 ap hn hS D Y I A r C K e3 c8 a9 a2;go_wp2
 go_loopw [46] (fun x wr=>∃j p:Nat,x= .int .i64 j∧j<=l.length∧t<=p∧iz s.E s.to_ s.W p (l.drop j) u∧Hid (dX c s hf hg Fs (Us+cnt (bX mp) (t/s.P) ((u-1)/s.P+1)) high1 m mp1 (kG s M1 t p) Mv fw n left fr ah wr∧Fr (fun k=>m k∨w3.heap.size<=k) w3 wr)) (fun x _=>(l.length-intOf x).toNat)
 case atStart=>exact ⟨0,t,rfl,Nat.zero_le _,Nat.le_refl _,by simpa using ds.out,H3⟩
 case round=>
  clear H3 f9;obtain ⟨j,p,rfl,V,aq,O,J⟩:=hrel;by_cases b0:j<l.length
  ·obtain ⟨F,Z,hx,ei,cf,R⟩:=bd.out j p O b0;have a4:=im R;have HC:=ae (fun w5 (hf:Fr (fun _=>False) wr w5)=>dm.out j F p Z w5 hx ei cf aq (by omega) ⟨J.out.1.Fh hf,J.out.2.trans hf (fun _ h=>h.elim)⟩);have T:=cn.out wr J.out.2 j _ hx;rw [Nat.mul_comm] at T;have e0:=T 0 _ rfl;have e1:=T 1 _ rfl;have e2:=T 2 _ rfl;rw [Nat.add_zero] at e0;dsimp only at e0 e1 e2;have bj:=ae R;have c1:(j:Int)<(l.length:Int):=by omega
   clear J dm cn bd O R cf hx T;go_wp2_with fail
   refine (HC.out _ ((Fr.refl _ wr).alloc _)).mono ?_;rintro e w6 ⟨rfl,hq⟩;have dx:=ae hq;clear hq HC e0 e1 e2;go_wp2;go_roundw
   case rel=>exact ⟨j+1,p+Z,by go_num,by omega,by omega,bj.out,dx⟩
   case measure=>simp [intOf];omega
  ·have d5:j=l.length:=by omega
   subst d5;obtain ⟨w4,e4⟩:∃w4,w4=wr:=⟨_,rfl⟩;subst e4;have a4:p=u:=by
    rw [List.drop_length] at O;exact O
   subst a4;have c1:¬(l.length:Int)<(l.length:Int):=by omega
   obtain ⟨ck,a3⟩:=J.out;obtain ⟨H,n2,n3,n4,n5⟩:=H2.out;obtain ⟨U,a0,a8,a9⟩:=HH.out;obtain ⟨ap,hn,hS,D,Y,I,A,r,C⟩:=HX.out;have K:=D.ok;have a2:=K.N2;have c9:=cn.out w4 a3;have f0:g≠c.wb:=fun e=>by have:=H.wds.lt;omega
   have fl:ja c s hf hg Fs Mv n left fr ah (kG s M1 t p) (df s (cH (dp Mv) k) top) m w4 (nu (aZ s.B (dp Mv)) (k*s.B) (t-s.to_)) w4:=by
    rw [show t-s.to_=k*s.B by omega,um];exact ⟨_,_,m,mp1,_,fw,ck,HP.out.drn K I r C n2 ap,fun _ _ _=>rfl,Fr.refl _ _,fun _ h=> .inl h⟩
   have dr:=ae (fun (j F q Z:Nat) (wq:World) (V:l[j]? =some (F,q,Z)) (h1:1<=Z) (hs:kL s.E s.to_ s.W q F Z) (aq:t<=q) (a4:q+Z<=p) (J:ja c s hf hg Fs Mv n left fr ah (kG s M1 t p) (df s (cH (dp Mv) k) top) m w4 (nu (aZ s.B (dp Mv)) (k*s.B) (q-s.to_)) wq)=>
    (let hb:zE s (dp Mv) k t p F q Z:=vD K I r C aq a4 h1 hs
     let hc:=hb.at_ h1
     (tF K.P1 hn K.W1 J F q Z (by have:=(hb.live (Z-1) (by omega)).2.1;omega) (fun i hi=>⟨(hb.live i hi).1,(hb.live i hi).2.2.2.1⟩) (fun i hi=>by
      have h6:dp Mv ((bt s.E F+i)/s.B)=false:=by rw [<-(hb.live i hi).2.2.2.1,(hb.live i hi).2.2.2.2];exact A
      unfold nu aZ;rw [h6,decide_eq_false (by omega)];rfl)).mono (fun e w' ⟨q1,q2⟩=>(⟨q1,by rw [zI hb h1 (by omega) (by omega)] at q2;exact q2⟩:e=Ending.returned (.tuple #[])∧ja c s hf hg Fs Mv n left fr ah (kG s M1 t p) (df s (cH (dp Mv) k) top) m w4 (nu (aZ s.B (dp Mv)) (k*s.B) (q+Z-s.to_)) w'))))
   have bk:=ae (fun (wq:World) (X:Nat->Bool) (J:ja c s hf hg Fs Mv n left fr ah (kG s M1 t p) (df s (cH (dp Mv) k) top) m w4 X wq)=>(show mX wq g l from by
    obtain ⟨_,_,_,_,_,_,_,_,_,q4,_⟩:=J;exact c9.frame q4 (fun h=>by rcases h with h|h;exact a0 h;exact f0 h)))
   have es:=ae fl;have HR:=ae (af ck a3);clear ck a3 H n2 n3 n4 n5 U a0 a8 a9 ap hn hS D Y I A r C K a2 c9 f0 fl J O dm cn b0 aq;go_wp2
   go_loopw [56] (fun x wq=>∃j q:Nat,x= .int .i64 j∧j<=l.length∧t<=q∧iz s.E s.to_ s.W q (l.drop j) p∧Hid (ja c s hf hg Fs Mv n left fr ah (kG s M1 t p) (df s (cH (dp Mv) k) top) m w4 (nu (aZ s.B (dp Mv)) (k*s.B) (q-s.to_)) wq)) (fun x _=>(l.length-intOf x).toNat)
   case atStart=>exact ⟨0,t,rfl,Nat.zero_le _,Nat.le_refl _,by simpa using ds.out,es⟩
   case round=>
    clear es;obtain ⟨j,q,rfl,V,aq,O,J⟩:=hrel;by_cases b0:j<l.length
    ·obtain ⟨F,Z,hx,ei,cf,R⟩:=bd.out j q O b0;have a4:=im R;have HC:=ae (fun w5 (hf:Fr (fun _=>False) wr w5)=>dr.out j F q Z w5 hx ei cf aq (by omega) (J.out.Fh hf));have T:=bk.out wr _ J.out j _ hx;rw [Nat.mul_comm] at T;have e0:=T 0 _ rfl;have e1:=T 1 _ rfl;have e2:=T 2 _ rfl;rw [Nat.add_zero] at e0;dsimp only at e0 e1 e2;have bj:=ae R;have c2:(j:Int)<(l.length:Int):=by omega
     clear J dr bk bd O R cf hx T;go_wp2_with fail
     refine (HC.out _ ((Fr.refl _ wr).alloc _)).mono ?_;rintro e w6 ⟨rfl,hq⟩;have dx:=ae hq;clear hq HC e0 e1 e2;go_wp2;go_roundw
     case rel=>exact ⟨j+1,q+Z,by go_num,by omega,by omega,bj.out,dx⟩
     case measure=>simp [intOf];omega
    ·have d5:j=l.length:=by omega
     subst d5;have g3:q=p:=by
      rw [List.drop_length] at O;exact O
     subst g3;clear dr bk bd O b0 aq;obtain ⟨w5,e5⟩:∃w5,w5=wr:=⟨_,rfl⟩;subst e5;obtain ⟨z,o,ad,a1,M3,ax,av,d4,fs,fB,f3⟩:=J.out;obtain ⟨ck,a3⟩:=HR.out;obtain ⟨H,n2,n3,n4,n5⟩:=H2.out;obtain ⟨U,a0,a8,a9⟩:=HH.out;obtain ⟨ap,hn,hS,D,Y,I,A,r,C⟩:=HX.out;have K:=D.ok;have a2:=K.N2;have hp:=HP.out;have c3:k<Mv.length:=by rw [av.len,D.nb];exact I
     have b9:=rx c3;have d7:=hp.left;have d6:1<=left:=by
      have h6:=mi (f:=0) (Nat.zero_le k) I A;have h7:=be (cH (dp Mv) k) 0 s.nb;omega
     have bo:=hp.front;have fv:=hp.Ah;have f1:fr<=k:=by
      rcases Nat.lt_or_ge k fr with hh|hh
      ·rw [bo.1 k hh] at A;cases A
      ·exact hh
     rw [show q-s.to_=min (k*s.B+s.B) s.N by omega] at d4;have c4:Hid (∀f a wz,dX c s hf hg Fs z o ad a1 M3 (Mv.set k true) ax n (left-1) f a wz->Fr (fun j=>j=c.mv∨j=c.y) w5 wz->(∀j,j<f->cH (dp Mv) k j=true)->fr<=f->f<=s.nb->(f<s.nb->cH (dp Mv) k f=false)->a=cnt (cH (dp Mv) k) f s.nb->Q (.returned (.int .i64 0)) wz):=by
      show∀f a wz,_
      intro f a wz G b2 b3 b4 b5 b6 b7;obtain ⟨e1,e2⟩:=sx hp I A Y b3 b4 b5 b6 b7;obtain ⟨g1,g2⟩:=hp.move K I A r C D.top1 n2 n3 d4 (fun b hb hm=>fs b hb hm) ⟨b3,b5,b6⟩ ⟨b7,e1⟩ (show left-1+1=left by omega);rw [<-b9] at g1 g2;refine HQ.out f a (fun j=>ad j∨c.has j) wz ⟨z,o,ad,a1,M3,ax,n,G,g1,g2,hn,fun j=>Iff.rfl⟩ b4 e2 ?_ ?_
      ·have z1:=bb.out.size;have z2:=n4.size;have z3:=U.size;have c6:∀j,m j->Sm j∨w.heap.size<=j:=fun j V=>(n5 j V).imp id (fun h=>by omega)
       refine ((((((bb.out.mono (S':=S) (fun _ h=>h.elim)).trans n4 (fun j V=> .inl ((hS j).2 (.inl V)))).trans U (fun _ h=>h.elim)).trans a3 (fun j V=> ?_)).trans fB (fun j V=> ?_)).trans b2 (fun j V=> ?_))
       ·rcases V with h|h
        ·exact (c6 j h).imp (fun h=>(hS j).2 (.inl h)) id
        ·exact .inr (by omega)
       ·rcases V with h|h
        ·exact (c6 j h).imp (fun h=>(hS j).2 (.inl h)) id
        ·exact .inl ((hS j).2 (.inr (.inr (.inr (.inl h)))))
       ·rcases V with h|h
        ·exact .inl ((hS j).2 (.inr (.inr (.inl h))))
        ·exact .inl ((hS j).2 (.inr (.inl h)))
      ·intro j V;have z1:=bb.out.size;have z2:=n4.size;have z3:=U.size;have z4:=a3.size;rcases V with h|h
       ·rcases f3 j h with h|h
        ·rcases n5 j h with h|h
         ·exact .inl ((hS j).2 (.inl h))
         ·exact .inr (by omega)
        ·exact .inr (by omega)
       ·exact .inl ((hS j).2 (.inr h))
     have a6:∀W6,w5.setCell ⟨c.mv,k,none⟩ (.bool true)=W6->dX c s hf hg Fs z o ad a1 M3 (Mv.set k true) ax n left fr ah W6∧Fr (fun j=>j=c.mv∨j=c.y) w5 W6:=by
      rintro W6 rfl;have f6:Fr (fun j=>j=c.mv) w5 (w5.setCell ⟨c.mv,k,none⟩ (.bool true)):=(Fr.refl (fun j=>j=c.mv) w5).setCell ⟨c.mv,k,none⟩ (.inl rfl) _;refine ⟨av.mv_ ?_ (by rw [List.length_set];exact av.len) f6,f6.mono (fun _ h=> .inl (.inl h))⟩;have:=av.mv.set k (.bool true);unfold pj at*;rwa [List.map_set]
     have a7:∀W6 W7 W8,dX c s hf hg Fs z o ad a1 M3 (Mv.set k true) ax n left fr ah W6->Fr (fun j=>j=c.mv∨j=c.y) w5 W6->W6.setCell ⟨c.y,11,none⟩ (.int .i64 ((left-1:Nat):Int))=W7->W7.setCell ⟨c.y,13,none⟩ (.int .i64 ((ah+1:Nat):Int))=W8->dX c s hf hg Fs z o ad a1 M3 (Mv.set k true) ax n (left-1) fr (ah+1) W8∧Fr (fun j=>j=c.mv∨j=c.y) w5 W8:=by
      rintro W6 W7 W8 G b2 rfl rfl;have f7:Fr (fun j=>j=c.y) W6 ((W6.setCell ⟨c.y,11,none⟩ (.int .i64 ((left-1:Nat):Int))).setCell ⟨c.y,13,none⟩ (.int .i64 ((ah+1:Nat):Int))):=((Fr.refl (fun j=>j=c.y) W6).setCell ⟨c.y,11,none⟩ (.inl rfl) _).setCell ⟨c.y,13,none⟩ (.inl rfl) _;exact ⟨G.y_ ((G.blk.set 11 _).set 13 _) f7,b2.trans f7 (fun _ h=> .inl (.inr h))⟩
     have e9:=ae a6;have fh:=ae a7;have fk:∀W6,dX c s hf hg Fs z o ad a1 M3 (Mv.set k true) ax n left fr ah W6->(W6.cell? ⟨c.y,11,none⟩=some (.int .i64 left)∧W6.frozen? ⟨c.y,11,none⟩=false)∧∀W7,W6.setCell ⟨c.y,11,none⟩ (.int .i64 ((left-1:Nat):Int))=W7->W7.cell? ⟨c.y,13,none⟩=some (.int .i64 ah)∧W7.frozen? ⟨c.y,13,none⟩=false:=by
      intro W6 G;refine ⟨⟨G.blk.cell 11 rfl,G.blk.free 11⟩,?_⟩;rintro W7 rfl;exact ⟨(G.blk.set 11 _).cell 13 rfl,(G.blk.set 11 _).free 13⟩
     have eq:=ae fk;have d2:=av.blk.cell 10 rfl;have d0:=av.mv.cell k (fS c3);have d1:=av.mv.free k;have c5:=ae (af bo (af fv (af I (af A (af f1 (af c3 (af b9 (af D av.len))))))));have gt:k<c.nb:=by rw [D.nb];exact I
     have f2:(k:Int)<(c.nb:Int):=by omega
     have gM:(left:Int)<=1048576:=by have:=D.N;have h8:=D.nb;have:s.nb<=1048576:=by {have h9:s.nb=iv s.N s.B:=rfl;unfold iv at h9;have:=Nat.div_le_self (s.N+s.B-1) s.B;have:=D.B;omega};omega
     have g0:IntKind.i64.wrap ((left:Int)-1)=((left-1:Nat):Int):=by rw [IntKind.wrap_i64];omega
     have gf:IntKind.i64.wrap ((ah:Int)+1)=((ah+1:Nat):Int):=by have:=D.a16;rw [IntKind.wrap_i64];omega
     clear av d4 fs fB f3 ck a3 H n2 n3 n4 n5 U a0 a8 a9 ap hn hS D Y I A r C K a2 hp c3 b9 d7 d6 bo fv f1 a6 a7 fk J HQ HR H2 HH HX HP ds bb HW
     go_upto_region 17 with fail
     obtain ⟨W6,a6⟩:∃W6,w5.setCell ⟨c.mv,k,none⟩ (.bool true)=W6:=⟨_,rfl⟩;rw [a6];obtain ⟨G,b2⟩:=e9.out W6 a6;have c0:=G.blk.cell 0 rfl;obtain ⟨⟨k1,k2⟩,k3⟩:=eq.out W6 G;have K3:=ae k3;have B6:=ae (af G b2);clear a6 G b2 k3 e9 eq d2 d0 d1 c0
     go_upto_region 18 with fail
     obtain ⟨W7,cx⟩:∃W7,W6.setCell ⟨c.y,11,none⟩ (.int .i64 ((left-1:Nat):Int))=W7:=⟨_,rfl⟩;rw [cx];obtain ⟨k3,k4⟩:=K3.out W7 cx;have fa:=ae cx;clear cx k1 k2 K3
     go_upto_region 19 with fail
     obtain ⟨W8,a7⟩:∃W8,W7.setCell ⟨c.y,13,none⟩ (.int .i64 ((ah+1:Nat):Int))=W8:=⟨_,rfl⟩;rw [show (ah:Int)+1=((ah+1:Nat):Int) by push_cast;rfl,a7];have H8:=ae (fh.out W6 W7 W8 B6.out.1 B6.out.2 fa.out a7);clear a7 fa fh B6 k3 k4
     go_loopw [] (fun wz=>∃f a:Nat,Hid ((dX c s hf hg Fs z o ad a1 M3 (Mv.set k true) ax n (left-1) f a wz∧Fr (fun j=>j=c.mv∨j=c.y) w5 wz)∧(∀j,j<f->cH (dp Mv) k j=true)∧fr<=f∧f<=s.nb∧a=cnt (cH (dp Mv) k) f s.nb)) (fun wz=>c.nb-kQ wz c.y)
     case atStart=>
      obtain ⟨x1,x2,x3,x4,x5,x6,x7,x8,x9⟩:=c5.out;refine ⟨fr,ah+1,ae ⟨H8.out,fun j V=>by unfold cH;rw [x1.1 j V];rfl,Nat.le_refl _,x1.2.1,?_⟩⟩;rw [mi x5 x3 x4,x2.1]
     case round=>
      clear H8;obtain ⟨f,a,J⟩:=hrel;obtain ⟨⟨G,b2⟩,b3,b4,b5,b6⟩:=J.out;obtain ⟨x1,x2,x3,x4,x5,x6,x7,x8,x9⟩:=c5.out;have gb:=G.blk.drew.cell 12 rfl;have d2:=G.blk.drew.cell 10 rfl;have c7:c.nb=s.nb:=x8.nb;have g8:(c.nb:Int)<=1048576:=by have:=x8.N;have:s.nb<=1048576:=by {have h9:s.nb=iv s.N s.B:=rfl;unfold iv at h9;have:=Nat.div_le_self (s.N+s.B-1) s.B;have:=x8.B;omega};omega
      have bs:(Mv.set k true).length=c.nb:=by rw [List.length_set];exact x9
      by_cases cy:f<s.nb
      ·have d0:=G.mv.drew.cell f (fS (by rw [bs,c7];exact cy));have eg:(Mv.set k true).getD f false=cH (dp Mv) k f:=by rw [<-x7];rfl
       rw [eg] at d0;have he:(f:Int)<(c.nb:Int):=by omega
       cases hmk:cH (dp Mv) k f with
       |true=>
        rw [hmk] at d0;have ha:1<=a:=by
         have h6:=iE (Nat.le_refl f) cy hmk;omega
        have fA:a-1=cnt (cH (dp Mv) k) (f+1) s.nb:=by
         have h6:=ay (cH (dp Mv) k) (show f<=f+1 by omega) (show f+1<=s.nb by omega);rw [aC _ (Nat.le_refl f),bc,hmk] at h6;simp only [if_true] at h6;omega
        have g7:(a:Int)<=1048576:=by
         have h6:=be (cH (dp Mv) k) f s.nb;omega
        have g6:IntKind.i64.wrap ((a:Int)-1)=((a-1:Nat):Int):=by rw [IntKind.wrap_i64];omega
        have hl:IntKind.i64.wrap ((f:Int)+1)=((f+1:Nat):Int):=by rw [IntKind.wrap_i64];omega
        have fi:=G.blk.drew.free 12;have e7:Hid (∀Wa,wr.drew.setCell ⟨c.y,12,none⟩ (.int .i64 ((f+1:Nat):Int))=Wa->(Wa.cell? ⟨c.y,13,none⟩=some (.int .i64 a)∧Wa.frozen? ⟨c.y,13,none⟩=false)∧∀Wb,Wa.setCell ⟨c.y,13,none⟩ (.int .i64 ((a-1:Nat):Int))=Wb->kQ Wb c.y=f+1∧((dX c s hf hg Fs z o ad a1 M3 (Mv.set k true) ax n (left-1) (f+1) (a-1) Wb∧Fr (fun j=>j=c.mv∨j=c.y) w5 Wb)∧(∀j,j<f+1->cH (dp Mv) k j=true)∧fr<=f+1∧f+1<=s.nb∧a-1=cnt (cH (dp Mv) k) (f+1) s.nb)):=by
         show∀Wa,_
         rintro Wa rfl;refine ⟨⟨(G.blk.drew.set 12 _).cell 13 rfl,(G.blk.drew.set 12 _).free 13⟩,?_⟩;rintro Wb rfl;have f7:Fr (fun j=>j=c.y) wr.drew ((wr.drew.setCell ⟨c.y,12,none⟩ (.int .i64 ((f+1:Nat):Int))).setCell ⟨c.y,13,none⟩ (.int .i64 ((a-1:Nat):Int))):=((Fr.refl (fun j=>j=c.y) wr.drew).setCell ⟨c.y,12,none⟩ (.inl rfl) _).setCell ⟨c.y,13,none⟩ (.inl rfl) _;have g1:=(G.Fh ((Fr.refl _ wr).drew)).y_ ((G.blk.drew.set 12 _).set 13 _) f7;refine ⟨?_,⟨⟨g1,(b2.drew).trans f7 (fun _ h=> .inl (.inr h))⟩,fun j V=> ?_,by omega,by omega,fA⟩⟩
         ·unfold kQ;rw [g1.blk.cell 12 rfl];rfl
         ·by_cases e:j=f
          ·rw [e];exact hmk
          ·exact b3 j (by omega)
        have gr:kQ wr c.y=f:=by
         unfold kQ;rw [G.blk.cell 12 rfl];rfl
        clear x1 x2 x3 x4 x5 x6 x7 x8 x9 J G b2 b3 b4 b5 b6 fA hmk eg;go_wp2;refine au (fun w'=>w'=wr.drew) (by kernel_rfl) (by kernel_rfl) rfl ?_;refine ag (.pointer (some ⟨c.y,0,none⟩)) rfl (fun w' d=>by go_simp) ?_;simp only [Act.put,aa,ab,ac];refine ag (.pointer (some ⟨c.y,0,none⟩)) rfl (fun w' d=>by go_simp) ?_;simp only [Act.put,aa,ab,ac];refine ag (.pointer (some ⟨c.y,12,none⟩)) rfl (fun w' d=>by go_simp) ?_;simp only [Act.put,aa,ab,ac];refine ag (.int .i64 f) rfl (fun w' d=>by subst d;go_simp) ?_;simp only [Act.put,aa,ab,ac];refine ag (.pointer (some ⟨c.y,0,none⟩)) rfl (fun w' d=>by go_simp) ?_;simp only [Act.put,aa,ab,ac];refine ag (.pointer (some ⟨c.y,0,none⟩)) rfl (fun w' d=>by go_simp) ?_;simp only [Act.put,aa,ab,ac];refine ag (.pointer (some ⟨c.y,10,none⟩)) rfl (fun w' d=>by go_simp) ?_;simp only [Act.put,aa,ab,ac];refine ag (.slice (some ⟨c.mv,0,none⟩) c.nb c.nb) rfl (fun w' d=>by subst d;go_simp) ?_;simp only [Act.put,aa,ab,ac];refine ag (.int .i64 (c.nb:Int)) rfl (fun w' d=>by go_simp) ?_;simp only [Act.put,aa,ab,ac];refine ag (.bool true) rfl (fun w' d=>by go_simp) ?_;simp only [Act.put,aa,ab,ac];refine ag (.bool true) rfl (fun w' d=>by go_simp) ?_;simp only [Act.put,aa,ab,ac];refine al (.pointer (some ⟨c.y,0,none⟩)) rfl (fun w' d=>by go_simp) ?_;simp only [Act.put,aa,ab,ac];refine al (.pointer (some ⟨c.y,0,none⟩)) rfl (fun w' d=>by go_simp) ?_;simp only [Act.put,aa,ab,ac];refine al (.pointer (some ⟨c.y,10,none⟩)) rfl (fun w' d=>by go_simp) ?_;simp only [Act.put,aa,ab,ac];refine al (.slice (some ⟨c.mv,0,none⟩) c.nb c.nb) rfl (fun w' d=>by subst d;go_simp) ?_;simp only [Act.put,aa,ab,ac];refine al (.pointer (some ⟨c.y,0,none⟩)) rfl (fun w' d=>by go_simp) ?_;simp only [Act.put,aa,ab,ac];refine al (.pointer (some ⟨c.y,0,none⟩)) rfl (fun w' d=>by go_simp) ?_;simp only [Act.put,aa,ab,ac];refine al (.pointer (some ⟨c.y,12,none⟩)) rfl (fun w' d=>by go_simp) ?_;simp only [Act.put,aa,ab,ac];refine al (.int .i64 f) rfl (fun w' d=>by subst d;go_simp) ?_;simp only [Act.put,aa,ab,ac];refine al (.pointer (some ⟨c.mv,f,none⟩)) rfl (fun w' d=>by go_simp) ?_;simp only [Act.put,aa,ab,ac];refine al (.bool true) rfl (fun w' d=>by subst d;go_simp) ?_;simp only [Act.put,aa,ab,ac];refine ag (.bool true) rfl (fun w' d=>by go_simp) ?_;simp only [Act.put,aa,ab,ac];refine wpQuiet_nil ?_;rintro w2 rfl
        go_upto_region 21 with fail
        obtain ⟨Wa,d3⟩:∃Wa,(wr.setCell ⟨c.y,12,none⟩ (.int .i64 ((f:Int)+1))).drew=Wa:=⟨_,rfl⟩;rw [d3];obtain ⟨⟨k3,k4⟩,hz⟩:=e7.out Wa (by rw [<-d3];rfl);have HZ:=ae hz;clear hz e7 d3 gb d2 d0 fi;go_wp2;go_roundw
        case rel=>exact ⟨f+1,a-1,ae (HZ.out _ rfl).2⟩
        case measure=>
         rw [(HZ.out _ rfl).1,gr];omega
       |false=>
        rw [hmk] at d0;have HE:=ae (c4.out f a wr.drew (G.Fh ((Fr.refl _ wr).drew)) (b2.trans (S':=fun _=>False) ((Fr.refl _ wr).drew) (fun _ h=>h.elim)) b3 b4 b5 (fun _=>hmk) b6);clear x1 x2 x3 x4 x5 x6 x7 x8 x9 J G b2 b3 b4 b5 b6 hmk eg;go_wp2;refine au (fun w'=>w'=wr.drew) (by kernel_rfl) (by kernel_rfl) rfl ?_;refine ag (.pointer (some ⟨c.y,0,none⟩)) rfl (fun w' d=>by go_simp) ?_;simp only [Act.put,aa,ab,ac];refine ag (.pointer (some ⟨c.y,0,none⟩)) rfl (fun w' d=>by go_simp) ?_;simp only [Act.put,aa,ab,ac];refine ag (.pointer (some ⟨c.y,12,none⟩)) rfl (fun w' d=>by go_simp) ?_;simp only [Act.put,aa,ab,ac];refine ag (.int .i64 f) rfl (fun w' d=>by subst d;go_simp) ?_;simp only [Act.put,aa,ab,ac];refine ag (.pointer (some ⟨c.y,0,none⟩)) rfl (fun w' d=>by go_simp) ?_;simp only [Act.put,aa,ab,ac];refine ag (.pointer (some ⟨c.y,0,none⟩)) rfl (fun w' d=>by go_simp) ?_;simp only [Act.put,aa,ab,ac];refine ag (.pointer (some ⟨c.y,10,none⟩)) rfl (fun w' d=>by go_simp) ?_;simp only [Act.put,aa,ab,ac];refine ag (.slice (some ⟨c.mv,0,none⟩) c.nb c.nb) rfl (fun w' d=>by subst d;go_simp) ?_;simp only [Act.put,aa,ab,ac];refine ag (.int .i64 (c.nb:Int)) rfl (fun w' d=>by go_simp) ?_;simp only [Act.put,aa,ab,ac];refine ag (.bool true) rfl (fun w' d=>by go_simp) ?_;simp only [Act.put,aa,ab,ac];refine ag (.bool true) rfl (fun w' d=>by go_simp) ?_;simp only [Act.put,aa,ab,ac];refine al (.pointer (some ⟨c.y,0,none⟩)) rfl (fun w' d=>by go_simp) ?_;simp only [Act.put,aa,ab,ac];refine al (.pointer (some ⟨c.y,0,none⟩)) rfl (fun w' d=>by go_simp) ?_;simp only [Act.put,aa,ab,ac];refine al (.pointer (some ⟨c.y,10,none⟩)) rfl (fun w' d=>by go_simp) ?_;simp only [Act.put,aa,ab,ac];refine al (.slice (some ⟨c.mv,0,none⟩) c.nb c.nb) rfl (fun w' d=>by subst d;go_simp) ?_;simp only [Act.put,aa,ab,ac];refine al (.pointer (some ⟨c.y,0,none⟩)) rfl (fun w' d=>by go_simp) ?_;simp only [Act.put,aa,ab,ac];refine al (.pointer (some ⟨c.y,0,none⟩)) rfl (fun w' d=>by go_simp) ?_;simp only [Act.put,aa,ab,ac];refine al (.pointer (some ⟨c.y,12,none⟩)) rfl (fun w' d=>by go_simp) ?_;simp only [Act.put,aa,ab,ac];refine al (.int .i64 f) rfl (fun w' d=>by subst d;go_simp) ?_;simp only [Act.put,aa,ab,ac];refine al (.pointer (some ⟨c.mv,f,none⟩)) rfl (fun w' d=>by go_simp) ?_;simp only [Act.put,aa,ab,ac];refine al (.bool false) rfl (fun w' d=>by subst d;go_simp) ?_;simp only [Act.put,aa,ab,ac];refine ag (.bool false) rfl (fun w' d=>by go_simp) ?_;simp only [Act.put,aa,ab,ac];refine wpQuiet_nil ?_;rintro w2 rfl;go_wp2;exact HE.out
      ·have ev:=ae (decide_eq_false (show¬f<c.nb by omega));obtain ⟨B0,fj⟩:∃B0,B0=decide (f<c.nb):=⟨_,rfl⟩;have dk:=ae fj;have HE:=ae (c4.out f a wr.drew (G.Fh ((Fr.refl _ wr).drew)) (b2.trans (S':=fun _=>False) ((Fr.refl _ wr).drew) (fun _ h=>h.elim)) b3 b4 b5 (fun h=>absurd h cy) b6);clear x1 x2 x3 x4 x5 x6 x7 x8 x9 J G b2 b3 b4 b5 b6 cy c7 bs fj c1 V d6 f4 g4 gt f2 gM g0 gf;go_wp2;refine au (fun w'=>w'=wr.drew) (by kernel_rfl) (by kernel_rfl) rfl ?_;refine ag (.pointer (some ⟨c.y,0,none⟩)) rfl (fun w' d=>by go_simp) ?_;simp only [Act.put,aa,ab,ac];refine ag (.pointer (some ⟨c.y,0,none⟩)) rfl (fun w' d=>by go_simp) ?_;simp only [Act.put,aa,ab,ac];refine ag (.pointer (some ⟨c.y,12,none⟩)) rfl (fun w' d=>by go_simp) ?_;simp only [Act.put,aa,ab,ac];refine ag (.int .i64 f) rfl (fun w' d=>by subst d;go_simp) ?_;simp only [Act.put,aa,ab,ac];refine ag (.pointer (some ⟨c.y,0,none⟩)) rfl (fun w' d=>by go_simp) ?_;simp only [Act.put,aa,ab,ac];refine ag (.pointer (some ⟨c.y,0,none⟩)) rfl (fun w' d=>by go_simp) ?_;simp only [Act.put,aa,ab,ac];refine ag (.pointer (some ⟨c.y,10,none⟩)) rfl (fun w' d=>by go_simp) ?_;simp only [Act.put,aa,ab,ac];refine ag (.slice (some ⟨c.mv,0,none⟩) c.nb c.nb) rfl (fun w' d=>by subst d;go_simp) ?_;simp only [Act.put,aa,ab,ac];refine ag (.int .i64 (c.nb:Int)) rfl (fun w' d=>by go_simp) ?_;simp only [Act.put,aa,ab,ac];refine ag (.bool B0) rfl (fun w' d=>by rw [dk.out];go_simp) ?_;simp only [Act.put,aa,ab,ac];refine ag (.bool B0) rfl (fun w' d=>by go_simp) ?_;simp only [Act.put,aa,ab,ac];have f8:=dk.out.trans ev.out;clear dk ev
       cases B0
       case true=>cases f8
       go_big_quiet_skip
       go_big_quiet_skip
       go_big_quiet_skip
       go_big_quiet_skip
       go_big_quiet_skip
       go_big_quiet_skip
       go_big_quiet_skip
       go_big_quiet_skip
       go_big_quiet_skip
       go_big_quiet_skip
       refine ag (.bool false) rfl (fun w' d=>by go_simp) ?_;simp only [Act.put,aa,ab,ac];refine wpQuiet_nil ?_;rintro w2 rfl;go_wp2;exact HE.out
end
section
variable {c:Cy} {s:bh} {hf hg:Nat->Nat} {Fs top:Nat} {S:Nat->Prop} {L:Nat->Nat} {Mv:List Bool} {left fr ah k:Nat} {w w':World}
theorem eo.stays {T:Nat->Prop} (h:eo c s hf hg Fs top Mv left fr ah L S w) (a:Fr T w w') (e:∀k,S k->¬T k) (i:¬T aN):eo c s hf hg Fs top Mv left fr ah L S w':=by
 obtain ⟨Us,Hg,f,mp,M,g,n,j,l,m,o,d⟩:=h;exact ⟨Us,Hg,f,mp,M,g,n,j.frame a (fun k b=>e k ((d k).2 (.inr b))) (fun k b=>e k ((d k).2 (.inl b))) i,l,m,o,d⟩
theorem eo.Fh (h:eo c s hf hg Fs top Mv left fr ah L S w) (a:Fr (fun _=>False) w w'):eo c s hf hg Fs top Mv left fr ah L S w':=h.stays a (fun _ _ h=>h) (fun h=>h)
theorem eo.lt (h:eo c s hf hg Fs top Mv left fr ah L S w):∀k,S k->k<w.heap.size:=by
 obtain ⟨Us,Hg,e,mp,M,f,n,a,g,i,j,d⟩:=h;intro k b;rcases (d k).1 b with h|h
 ·exact a.mem.lt k h
 ·exact a.lt k h
theorem eo.tabl (h:eo c s hf hg Fs top Mv left fr ah L S w):aN<w.heap.size:=by
 obtain ⟨Us,Hg,b,mp,M,d,n,a,_⟩:=h;exact a.tabl
theorem eo.cells (b:qJ c s hf hg Fs top) (h:eo c s hf hg Fs top Mv left fr ah L S w):tU w c left fr ah∧aj w c.mv (pj Mv) 4∧Mv.length=s.nb∧cl c.lo c.hi w c.pl s.W s.B s.E s.to_∧bv w:=by
 obtain ⟨Us,Hg,d,mp,M,e,n,a,_⟩:=h;exact ⟨a.blk,a.mv,by rw [a.len,b.nb],by have:=a.plan;rwa [a.B,a.to_] at this,a.tab⟩
theorem eo.fronts (h:eo c s hf hg Fs top Mv left fr ah L S w):((∀k,k<fr->dp Mv k=true)∧fr<=s.nb∧(fr<s.nb->dp Mv fr=false))∧(ah=cnt (dp Mv) fr s.nb∧ah<=s.Ah)∧left+cnt (dp Mv) 0 s.nb=s.nb:=by
 obtain ⟨Us,Hg,b,mp,M,d,n,e,a,_⟩:=h;exact ⟨a.front,a.Ah,a.left⟩
theorem eo.open_ (h:eo c s hf hg Fs top Mv left fr ah L S w) (n:left≠0):fr<s.nb∧dp Mv fr=false:=by
 obtain ⟨⟨e,j,g⟩,_,l⟩:=h.fronts;rcases Nat.lt_or_ge fr s.nb with d|d
 ·exact ⟨d,g d⟩
 ·have:=iF (f:=dp Mv) (a:=0) (b:=s.nb) (fun i _ m=>e i (by omega));omega
def qN (c:Cy) (s:bh) (hf hg:Nat->Nat) (Fs top:Nat) (Mv:List Bool) (left fr:Nat) (L:Nat->Nat) (S:Nat->Prop) (w:World) (e:Ending) (w':World):Prop:=
 e= .returned (.tuple #[.bool true,.int .i64 0])∧∃fr' ah' S',eo c s hf hg Fs top (Mv.set fr true) (left-1) fr' ah' L S' w'∧fr<fr'∧Fr S w w'∧∀j,S' j->S j∨w.heap.size<=j
theorem oK (i:qJ c s hf hg Fs top) (h:eo c s hf hg Fs top Mv left fr ah L S w) (o:left≠0):
  Calls Tryz.prog 65 #[c.y] w (qN c s hf hg Fs top Mv left fr L S w):=by
 obtain ⟨m,n⟩:=h.open_ o;obtain ⟨b,_⟩:=eo.cells i h;have j:=ae (oI i h m n (.inl rfl));have d:=b.cell 11 rfl;have f:=b.cell 12 rfl;have q:((left:Int)==0)=false:=by rw [beq_eq_false_iff_ne];omega
 have r:¬(left:Int)=0:=by omega
 have l:Hid (∀e w',wT c s hf hg Fs top Mv left fr fr L S w e w'->e= .returned (.int .i64 0)∧qN c s hf hg Fs top Mv left fr L S w (.returned (.tuple #[.bool true,.int .i64 0])) w'):=by
  show∀e w',_
  rintro e w' ⟨rfl,g,a,S',t,z,u,v,x⟩;exact ⟨rfl,rfl,g,a,S',t,u rfl,v,x⟩
 clear i h b m n o;generalize (qN c s hf hg Fs top Mv left fr L S w)=Q at*
 go_enter Tryz.func65,Tryz.ntmps65
 go_wp2_with fail
 refine (j.out).mono ?_;intro e w1 hp;obtain ⟨rfl,p⟩:=l.out _ _ hp;have H:=ae p;clear hp p j l d f;go_wp2;exact H.out
theorem wh (D:qJ c s hf hg Fs top) (h:eo c s hf hg Fs top Mv left fr ah L S w) (a:Nat) (h1:s.to_<=a) (h2:a<top):
  Calls Tryz.prog 320 #[c.y,.int .i64 a] w fun e w'=>e= .returned (.tuple #[.int .u64 ((L a:Nat):Int),.int .i64 0])∧Fr (fun _=>False) w w':=by
 obtain ⟨Us,Hg,Sm,mp,M,fw,n,d,hp,_,_,_⟩:=h;have C:=D.ok;have a8:=D.to_;have r:cl c.lo c.hi w c.pl s.W s.B s.E s.to_:=by have:=d.plan;rwa [d.B,d.to_] at this
 have a2:a<s.W:=by have:=D.top1;have:=C.to2;omega
 have R:=d.blk.cell 0 rfl;have Z:=d.blk.cell 8 rfl;rcases Nat.lt_or_ge a (s.to_+s.N) with x|x
 ·obtain ⟨b,G,v,b3⟩:=pY (E:=s.E) (W:=s.W) (i:=a-s.to_) (by have:s.N=cnt (ai s.E) 0 s.W:=rfl;omega);have q:s.F b=a:=by show s.to_+bt s.E b=a;omega
  have J:=ae (lJ r d.tab (by omega) a h1 x);have V:(a-s.to_)/s.B<s.nb:=by
   have h3:s.nb=iv s.N s.B:=rfl;have h4:=ql (N:=s.N) (k:=s.B) C.B1;rw [h3,Nat.div_lt_iff_lt_mul (by have:=C.B1;omega)];omega
  have Y:(a-s.to_)/s.B<Mv.length:=by rw [d.len,D.nb];exact V
  have a7:(((a-s.to_)/s.B:Nat):Int)<(c.nb:Int):=by rw [D.nb];omega
  have l:=d.blk.cell 10 rfl;have I:=d.mv.cell _ (fS Y)
  cases hm:dp Mv ((a-s.to_)/s.B) with
  |true=>
   have hL:M a=L a:=by
    have:=hp.moved b G v (by rw [b3];exact hm);rwa [q] at this
   have A:mp (a/s.P)=true:=by
    have:=hp.to_page C v (by rw [b3];exact hm);rwa [q] at this
   have o:=ae (fun w1 (hf:Fr (fun _=>False) w w1)=>dS (d.mem.keep hf) a a2 A);rw [hL] at o;have t:=ae (fun w1 (hf:Fr (fun _=>False) w w1)=>af ((d.Fh hf).blk.cell 0 rfl) (af ((d.Fh hf).blk.cell 10 rfl) ((d.Fh hf).mv.cell _ (fS Y))));rw [show Mv.getD ((a-s.to_)/s.B) false=true from hm] at t;clear d hp D C r q G v b3 hL A hm I l R V;generalize (a-s.to_)/s.B=kk at*;generalize L a=X at*
   go_enter Tryz.func320,Tryz.ntmps320
   go_wp2_with fail
   refine (J.out).mono ?_;rintro e w1 ⟨rfl,g⟩;obtain ⟨R,l,I⟩:=t.out w1 g;have u:=ae (o.out w1 g);have K:=ae g;clear g J o t Z;go_wp2_with fail
   refine (u.out).mono ?_;rintro e w2 ⟨rfl,m⟩;have H:=ae (K.out.trans m (fun _ h=>h.elim));clear m u R l I;go_wp2;go_ret2;exact ⟨rfl,H.out⟩
  |false=>
   have z:dp Mv (bt s.E b/s.B)=false:=by rw [b3];exact hm
   have hL:wrd s.E s.hp M s.F b=L a:=by
    have:=hp.still b G v z;rwa [q] at this
   have A:=hp.from_page C v z;have a3:=ci v;have a5:=d.mem.at.2.2.1;obtain ⟨ns,f,q1,q2⟩:=d.shp;have O:=ae (fun w1 (hf:Fr (fun _=>False) w w1)=>(q1.frame hf (fun h=>h)).look (aT s.E b) (by omega));rw [q2 _ (by omega)] at O;have aq:=ae (fun w1 (hf:Fr (fun _=>False) w w1) p (hh:cJ c.lo c.hi w1 p s.W s.B s.E s.to_)=>iJ hh (d.Fh hf).tab (by omega) a b ⟨G,v,q⟩);have ax:=ae (fun w1 (hf:Fr (fun _=>False) w w1)=>dH (r.keep hf));have ap:=ae (fun w1 (hf:Fr (fun _=>False) w w1)=>re (d.Fh hf) C.apart b G v);have Q:=ae (fun w1 (U:Fr (fun _=>False) w w1)=>oM (d.Fh U).blk (d.Fh U).plan (by have:=d.to_;omega) (d.Fh U).mem b (aT s.E b) (s.hp (aT s.E b)) (hf (aT s.E b)) (hg (aT s.E b)) a3.1 G A (D.hd _ (by omega)) (hp.ptrs b G v z) (hp.small b G v z));rw [show gV M (goes s.E c.to_) (aT s.E b) (s.hp (aT s.E b)) (b-aT s.E b)=L a from by rw [<-hL,d.to_];rfl] at Q;have t:=ae (fun w1 (hf:Fr (fun _=>False) w w1)=>af ((d.Fh hf).blk.cell 8 rfl) (af ((d.Fh hf).blk.cell 9 rfl) (af ((d.Fh hf).blk.cell 15 rfl) (af ((d.Fh hf).blk.cell 10 rfl) ((d.Fh hf).mv.cell _ (fS Y))))));rw [show Mv.getD ((a-s.to_)/s.B) false=false from hm] at t;have a6:(b:Int)<=1048576:=by have:=d.mem.at.2.2.1;omega
   clear d hp D C r q G v b3 hL A hm I l R V z a3 q1 q2;unfold rT bN at*;generalize (a-s.to_)/s.B=kk at*;generalize L a=X at*;generalize aT s.E b=st at*;generalize s.hp st=x1 at*;generalize hf st=x2 at*;generalize hg st=x3 at*
   go_enter Tryz.func320,Tryz.ntmps320
   go_wp2_with fail
   refine (J.out).mono ?_;rintro e w1 ⟨rfl,g⟩;obtain ⟨Z,c9,T,l,I⟩:=t.out w1 g;have av:=ae (ax.out w1 g);have K:=ae g;clear g J ax;go_wp2_with fail
   refine (av.out).mono ?_;rintro e w' ⟨⟨p,rfl,hp⟩,rfl⟩;have a0:=ae (aq.out w1 K.out p hp);clear hp av aq;go_wp2_with fail
   refine (a0.out).mono ?_;rintro e w2 ⟨rfl,m⟩;have j:=K.out.trans m (fun _ h=>h.elim);clear Z c9 T l I;obtain ⟨Z,c9,T,l,I⟩:=t.out w2 j;have am:=ae j;have ad:=ae (ap.out w2 j);have a4:=O.out w2 j;have a1:=ae (Q.out w2 j);clear m j a0 t ap O Q Z l I K;go_wp2_with fail
   refine (ad.out).mono ?_;rintro e w' ⟨rfl,rfl⟩;clear ad;go_wp2_with fail
   refine (a1.out).mono ?_;rintro e w3 ⟨rfl,j⟩;have H:=ae (am.out.trans j (fun _ h=>h.elim));clear j a1 am c9 T a4;go_wp2;go_ret2;exact ⟨rfl,H.out⟩
 ·have J:=ae (kj r (by omega) a x);have hb:=hp.beh_page C D.top1 x h2;have o:=ae (fun w1 (hf:Fr (fun _=>False) w w1)=>dS (d.mem.keep hf) a a2 hb.2);rw [hp.behind a x h2] at o;have t:=ae (fun w1 (hf:Fr (fun _=>False) w w1)=>(d.Fh hf).blk.cell 0 rfl);clear d hp D C r hb R;generalize L a=X at*
  go_enter Tryz.func320,Tryz.ntmps320
  go_wp2_with fail
  refine (J.out).mono ?_;rintro e w1 ⟨rfl,g⟩;have R:=t.out w1 g;have u:=ae (o.out w1 g);have K:=ae g;clear g J o t Z;go_wp2_with fail
  refine (u.out).mono ?_;rintro e w2 ⟨rfl,m⟩;have H:=ae (K.out.trans m (fun _ h=>h.elim));clear m u R;go_wp2;go_ret2;exact ⟨rfl,H.out⟩
end
section
variable {c:Cy} {s:bh} {hf hg:Nat->Nat} {Fs top:Nat} {S:Nat->Prop} {L:Nat->Nat} {Mv:List Bool} {left fr ah k:Nat} {w w' w0:World}
def oU (c:Cy) (s:bh) (hf hg:Nat->Nat) (Fs top:Nat) (L:Nat->Nat) (S:Nat->Prop) (w0:World) (Mv:List Bool) (left fr ah:Nat) (w:World):Prop:=
 ∃S',eo c s hf hg Fs top Mv left fr ah L S' w∧Fr S w0 w∧∀j,S' j->S j∨w0.heap.size<=j
theorem oU.Fh (h:oU c s hf hg Fs top L S w0 Mv left fr ah w) (a:Fr (fun _=>False) w w'):oU c s hf hg Fs top L S w0 Mv left fr ah w':=by
 obtain ⟨S',b,d,e⟩:=h;exact ⟨S',b.Fh a,d.trans a (fun _ h=>h.elim),e⟩
theorem oU.go {L':Nat->Nat} {b:List Bool} {a e d:Nat} {f S2:Nat->Prop} (g:Fr S w0 w) (i:∀j,f j->S j∨w0.heap.size<=j) (m:eo c s hf hg Fs top b a e d L' S2 w') (n:Fr f w w') (o:∀j,S2 j->f j∨w.heap.size<=j):oU c s hf hg Fs top L' S w0 b a e d w':=
 ⟨S2,m,g.trans n i,fun j l=>by
  have:=g.size;rcases o j l with h|h
  ·exact i j h
  ·exact .inr (by omega)⟩
def jb (c:Cy) (s:bh) (hf hg:Nat->Nat) (Fs top:Nat) (L:Nat->Nat) (S:Nat->Prop) (a:Nat) (w:World) (e:Ending) (w':World):Prop:=
 e= .returned (.int .i64 0)∧∃mvl' left' fr' ah',oU c s hf hg Fs top L S w mvl' left' fr' ah' w'∧(a<s.to_+s.N->dp mvl' ((a-s.to_)/s.B)=true)
theorem lO (z:qJ c s hf hg Fs top) (h:eo c s hf hg Fs top Mv left fr ah L S w) (a:Nat) (h1:s.to_<=a) (h2:a<top):
  Calls Tryz.prog 316 #[c.y,.int .i64 a] w (jb c s hf hg Fs top L S a w):=by
 obtain ⟨b1,b2,b3,ad,hT⟩:=eo.cells z h;have ho:=z.ok;have a3:=z.to_;have c8:=b1.cell 8 rfl;have T:oU c s hf hg Fs top L S w Mv left fr ah w:=⟨S,h,Fr.refl _ _,fun _ h=> .inl h⟩;rcases Nat.lt_or_ge a (s.to_+s.N) with Y|Y
 ·have HB:=ae (lJ ad hT (by omega) a h1 Y);have Z:(a-s.to_)/s.B<s.nb:=by
   have h3:s.nb=iv s.N s.B:=rfl;have h4:=ql (N:=s.N) (k:=s.B) ho.B1;rw [h3,Nat.div_lt_iff_lt_mul (by have:=ho.B1;omega)];omega
  have C:Hid (∀b g j p w',oU c s hf hg Fs top L S w b g j p w'->dp b ((a-s.to_)/s.B)=true->jb c s hf hg Fs top L S a w (.returned (.int .i64 0)) w'):=by
   show∀b g j p w',_
   exact fun b g j p w' F q2=>⟨rfl,b,g,j,p,F,fun _=>q2⟩
  have bj:s.nb<=1048576:=by
   have h9:s.nb=iv s.N s.B:=rfl;unfold iv at h9;have:=Nat.div_le_self (s.N+s.B-1) s.B;have:=z.N;have:=z.B;omega
  generalize bd:(a-s.to_)/s.B=kk at*;have bs:(kk:Int)<(c.nb:Int):=by rw [z.nb];omega
  have V:=ae (fun b g j p w1 (U:oU c s hf hg Fs top L S w b g j p w1)=>(show w1.cell? ⟨c.y,7,none⟩=some (.int .i64 (s.Ah:Int))∧w1.cell? ⟨c.y,10,none⟩=some (.slice (some ⟨c.mv,0,none⟩) c.nb c.nb)∧w1.cell? ⟨c.y,12,none⟩=some (.int .i64 (j:Int))∧w1.cell? ⟨c.y,13,none⟩=some (.int .i64 (p:Int))∧w1.cell? ⟨c.mv,kk,none⟩=some (.bool (dp b kk))∧j<=1048576∧p<=16 from by
   obtain ⟨S',F,_⟩:=U;obtain ⟨d1,d2,d3,_⟩:=eo.cells z F;obtain ⟨⟨_,f2,_⟩,⟨_,f4⟩,_⟩:=F.fronts;have:=z.a16;exact ⟨by rw [<-z.ah];exact d1.cell 7 rfl,d1.cell 10 rfl,d1.cell 12 rfl,d1.cell 13 rfl,d2.cell kk (fS (by rw [d3];exact Z)),by omega,by omega⟩))
  have x:=ae (fun b g j p w1 (U:oU c s hf hg Fs top L S w b g j p w1) (b0:j<kk)=>(show Calls Tryz.prog 65 #[c.y] w1 fun e w'=>e= .returned (.tuple #[.bool true,.int .i64 0])∧∃a4 av D K,oU c s hf hg Fs top L S w a4 av D K w'∧j<D from by
   obtain ⟨S',F,q2,q3⟩:=U;obtain ⟨⟨f1,f2,f3⟩,_,f4⟩:=F.fronts;have hl:g≠0:=fun e=>by
    have X:=iE (f:=fun i=> !dp b i) (Nat.zero_le j) (show j<s.nb by omega) (by rw [f3 (by omega)];rfl);have h6:∀m,cnt (dp b) 0 m+cnt (fun i=> !dp b i) 0 m=m:=fun m=>by
     induction m with
     |zero=>rw [bc,bc]
     |succ m ih=>
      rw [aC _ (Nat.zero_le m),aC _ (Nat.zero_le m)]
      cases dp b m<;>simp<;>omega
    have:=h6 s.nb;omega
   refine (oK z F hl).mono ?_;rintro e w' ⟨rfl,D,K,S2,r1,r2,r3,r4⟩;exact ⟨rfl,_,_,D,K,oU.go q2 q3 r1 r3 r4,r2⟩))
  have v:=ae (fun b g j p w1 (U:oU c s hf hg Fs top L S w b g j p w1) (r:dp b kk=false) (a7:¬j<kk∨p<s.Ah)=>(show Calls Tryz.prog 133 #[c.y,.int .i64 kk] w1 fun e w'=>e= .returned (.int .i64 0)∧jb c s hf hg Fs top L S a w (.returned (.int .i64 0)) w' from by
   obtain ⟨S',F,q2,q3⟩:=U;obtain ⟨⟨f1,f2,f3⟩,_,f4⟩:=F.fronts;have bb:kk=j∨p<s.Ah:=by
    rcases a7 with h|h
    ·left;rcases Nat.lt_or_ge kk j with X|X
     ·rw [f1 kk X] at r;cases r
     ·omega
    ·exact .inr h
   obtain ⟨_,_,d3,_⟩:=eo.cells z F;refine (oI z F Z r bb).mono ?_;rintro e w' ⟨rfl,D,K,S2,r1,r2,r3,r4,r5⟩;refine ⟨rfl,C.out _ _ D K _ (oU.go q2 q3 r1 r4 r5) ?_⟩;rw [rx (by rw [d3];exact Z)];unfold cH;rw [decide_eq_true rfl,Bool.or_true]))
  have a5:=ae T;have o:=ae (fun w1 (hf:Fr (fun _=>False) w w1)=>T.Fh hf);have b4:(s.Ah:Int)<=16:=by have:=z.a16;omega
  have bo:(kk:Int)<=1048576:=by omega
  clear h b1 b2 b3 ad hT ho a3 T Z bd z;generalize (jb c s hf hg Fs top L S a w)=Q at*
  go_enter Tryz.func316,Tryz.ntmps316
  go_wp2_with fail
  refine (HB.out).mono ?_;rintro e w1 ⟨rfl,E⟩;have I:=ae (o.out w1 E);obtain ⟨c7,ap,O,W,d0,a9,a6⟩:=V.out _ _ _ _ w1 I.out;clear E HB o a5 c8
  cases r:dp Mv kk with
  |true=>
   rw [r] at d0;have HE:=ae (C.out _ _ _ _ w1 I.out r);clear C V x v I r c7 O W;go_wp2;exact HE.out
  |false=>
   rw [r] at d0;clear r c7 O W;go_wp2;clear ap d0 a9 a6
   go_loopw [] (fun wr=>∃(m:List Bool) (l f h:Nat),Hid (oU c s hf hg Fs top L S w m l f h wr)) (fun wr=>kk-kQ wr c.y)
   case atStart=>exact ⟨Mv,left,fr,ah,I⟩
   case round=>
    clear I;obtain ⟨m,l,f,h,hr⟩:=hrel;obtain ⟨c7,ap,O,W,d0,E,bk⟩:=V.out _ _ _ _ wr.drew (hr.out.Fh ((Fr.refl _ wr).drew));have q:=ae (hr.out.Fh (w':=wr.drew) ((Fr.refl _ wr).drew));have a8:kQ wr c.y=f:=by
     unfold kQ;rw [show wr.cell? ⟨c.y,12,none⟩=some (.int .i64 f) from O];rfl
    obtain ⟨G,a0⟩:∃G,G=decide (f<kk):=⟨_,rfl⟩;have t:=ae a0;clear a0;obtain ⟨BB,a1⟩:∃BB,BB=decide (s.Ah<=h):=⟨_,rfl⟩;have A:=ae a1;clear a1;by_cases u:f<kk
    ·by_cases am:s.Ah<=h
     ·have ax:=ae (x.out _ _ _ _ wr.drew q.out u);clear C v q hr d0;go_wp2;refine au (fun w'=>w'=wr.drew) (by kernel_rfl) (by kernel_rfl) rfl ?_;refine ag (.pointer (some ⟨c.y,0,none⟩)) rfl (fun w' d=>by go_simp) ?_;simp only [Act.put,aa,ab,ac];refine ag (.pointer (some ⟨c.y,0,none⟩)) rfl (fun w' d=>by go_simp) ?_;simp only [Act.put,aa,ab,ac];refine ag (.pointer (some ⟨c.y,12,none⟩)) rfl (fun w' d=>by go_simp) ?_;simp only [Act.put,aa,ab,ac];refine ag (.int .i64 f) rfl (fun w' d=>by subst d;go_simp) ?_;simp only [Act.put,aa,ab,ac];refine ag (.int .i64 kk) rfl (fun w' d=>by go_simp) ?_;simp only [Act.put,aa,ab,ac];refine ag (.bool G) rfl (fun w' d=>by rw [t.out];go_simp) ?_;simp only [Act.put,aa,ab,ac];refine ag (.bool G) rfl (fun w' d=>by go_simp) ?_;simp only [Act.put,aa,ab,ac];have o:=t.out.trans (decide_eq_true u);clear t
      cases G
      case false=>cases o
      clear o;refine al (.pointer (some ⟨c.y,0,none⟩)) rfl (fun w' d=>by go_simp) ?_;simp only [Act.put,aa,ab,ac];refine al (.pointer (some ⟨c.y,0,none⟩)) rfl (fun w' d=>by go_simp) ?_;simp only [Act.put,aa,ab,ac];refine al (.pointer (some ⟨c.y,13,none⟩)) rfl (fun w' d=>by go_simp) ?_;simp only [Act.put,aa,ab,ac];refine al (.int .i64 h) rfl (fun w' d=>by subst d;go_simp) ?_;simp only [Act.put,aa,ab,ac];refine al (.pointer (some ⟨c.y,0,none⟩)) rfl (fun w' d=>by go_simp) ?_;simp only [Act.put,aa,ab,ac];refine al (.pointer (some ⟨c.y,0,none⟩)) rfl (fun w' d=>by go_simp) ?_;simp only [Act.put,aa,ab,ac];refine al (.pointer (some ⟨c.y,1,none⟩)) rfl (fun w' d=>by go_simp) ?_;simp only [Act.put,aa,ab,ac];refine al (.pointer (some ⟨c.y,7,none⟩)) rfl (fun w' d=>by go_simp) ?_;simp only [Act.put,aa,ab,ac];refine al (.int .i64 (s.Ah:Int)) rfl (fun w' d=>by subst d;go_simp) ?_;simp only [Act.put,aa,ab,ac];refine al (.bool BB) rfl (fun w' d=>by rw [A.out];go_simp) ?_;simp only [Act.put,aa,ab,ac];refine ag (.bool BB) rfl (fun w' d=>by go_simp) ?_;simp only [Act.put,aa,ab,ac];have o:=A.out.trans (decide_eq_true am);clear A
      cases BB
      case false=>cases o
      clear o;refine wpQuiet_nil ?_;rintro w2 rfl;clear V x c7 ap O W;go_wp2_with fail
      refine (ax.out).mono ?_;rintro e w5 ⟨rfl,m2,l2,f2,h2,g5,g6⟩;have a2:kQ w5 c.y=f2:=by
       obtain ⟨S5,g7,_⟩:=g5;obtain ⟨Us,Hg,Sm,mp,M,fw,n,F,_⟩:=g7;unfold kQ;rw [F.blk.cell 12 rfl];rfl
      have G5:=ae g5;clear g5 ax;go_wp2;go_roundw
      case rel=>exact ⟨m2,l2,f2,h2,G5⟩
      case measure=>
       rw [a2,a8];omega
     ·clear d0;go_wp2;refine au (fun w'=>w'=wr.drew) (by kernel_rfl) (by kernel_rfl) rfl ?_;refine ag (.pointer (some ⟨c.y,0,none⟩)) rfl (fun w' d=>by go_simp) ?_;simp only [Act.put,aa,ab,ac];refine ag (.pointer (some ⟨c.y,0,none⟩)) rfl (fun w' d=>by go_simp) ?_;simp only [Act.put,aa,ab,ac];refine ag (.pointer (some ⟨c.y,12,none⟩)) rfl (fun w' d=>by go_simp) ?_;simp only [Act.put,aa,ab,ac];refine ag (.int .i64 f) rfl (fun w' d=>by subst d;go_simp) ?_;simp only [Act.put,aa,ab,ac];refine ag (.int .i64 kk) rfl (fun w' d=>by go_simp) ?_;simp only [Act.put,aa,ab,ac];refine ag (.bool G) rfl (fun w' d=>by rw [t.out];go_simp) ?_;simp only [Act.put,aa,ab,ac];refine ag (.bool G) rfl (fun w' d=>by go_simp) ?_;simp only [Act.put,aa,ab,ac];have o:=t.out.trans (decide_eq_true u);clear t
      cases G
      case false=>cases o
      clear o;refine al (.pointer (some ⟨c.y,0,none⟩)) rfl (fun w' d=>by go_simp) ?_;simp only [Act.put,aa,ab,ac];refine al (.pointer (some ⟨c.y,0,none⟩)) rfl (fun w' d=>by go_simp) ?_;simp only [Act.put,aa,ab,ac];refine al (.pointer (some ⟨c.y,13,none⟩)) rfl (fun w' d=>by go_simp) ?_;simp only [Act.put,aa,ab,ac];refine al (.int .i64 h) rfl (fun w' d=>by subst d;go_simp) ?_;simp only [Act.put,aa,ab,ac];refine al (.pointer (some ⟨c.y,0,none⟩)) rfl (fun w' d=>by go_simp) ?_;simp only [Act.put,aa,ab,ac];refine al (.pointer (some ⟨c.y,0,none⟩)) rfl (fun w' d=>by go_simp) ?_;simp only [Act.put,aa,ab,ac];refine al (.pointer (some ⟨c.y,1,none⟩)) rfl (fun w' d=>by go_simp) ?_;simp only [Act.put,aa,ab,ac];refine al (.pointer (some ⟨c.y,7,none⟩)) rfl (fun w' d=>by go_simp) ?_;simp only [Act.put,aa,ab,ac];refine al (.int .i64 (s.Ah:Int)) rfl (fun w' d=>by subst d;go_simp) ?_;simp only [Act.put,aa,ab,ac];refine al (.bool BB) rfl (fun w' d=>by rw [A.out];go_simp) ?_;simp only [Act.put,aa,ab,ac];refine ag (.bool BB) rfl (fun w' d=>by go_simp) ?_;simp only [Act.put,aa,ab,ac];have o:=A.out.trans (decide_eq_false am);clear A
      cases BB
      case true=>cases o
      clear o;refine wpQuiet_nil ?_;rintro w2 rfl;obtain ⟨e7,aq,P,R,e0,_,_⟩:=V.out _ _ _ _ wr.drew q.out
      cases r:dp m kk with
      |true=>
       rw [r] at e0;have HE:=ae (C.out _ _ _ _ wr.drew q.out r);clear C V x v hr q r e7 P R u;go_wp2;exact HE.out
      |false=>
       rw [r] at e0;have J:=ae (v.out _ _ _ _ wr.drew q.out r (.inr (by omega)));clear C V x v hr q r e7 P R u;go_wp2_with fail
       refine (J.out).mono ?_;rintro e w5 ⟨rfl,X⟩;have H5:=ae X;clear X J e0 aq;go_wp2;exact H5.out
    ·clear d0;go_wp2;refine au (fun w'=>w'=wr.drew) (by kernel_rfl) (by kernel_rfl) rfl ?_;refine ag (.pointer (some ⟨c.y,0,none⟩)) rfl (fun w' d=>by go_simp) ?_;simp only [Act.put,aa,ab,ac];refine ag (.pointer (some ⟨c.y,0,none⟩)) rfl (fun w' d=>by go_simp) ?_;simp only [Act.put,aa,ab,ac];refine ag (.pointer (some ⟨c.y,12,none⟩)) rfl (fun w' d=>by go_simp) ?_;simp only [Act.put,aa,ab,ac];refine ag (.int .i64 f) rfl (fun w' d=>by subst d;go_simp) ?_;simp only [Act.put,aa,ab,ac];refine ag (.int .i64 kk) rfl (fun w' d=>by go_simp) ?_;simp only [Act.put,aa,ab,ac];refine ag (.bool G) rfl (fun w' d=>by rw [t.out];go_simp) ?_;simp only [Act.put,aa,ab,ac];refine ag (.bool G) rfl (fun w' d=>by go_simp) ?_;simp only [Act.put,aa,ab,ac];have o:=t.out.trans (decide_eq_false u);clear t
     cases G
     case true=>cases o
     clear o
     go_big_quiet_skip
     go_big_quiet_skip
     go_big_quiet_skip
     go_big_quiet_skip
     go_big_quiet_skip
     go_big_quiet_skip
     go_big_quiet_skip
     go_big_quiet_skip
     go_big_quiet_skip
     go_big_quiet_skip
     refine ag (.bool false) rfl (fun w' d=>by go_simp) ?_;simp only [Act.put,aa,ab,ac];refine wpQuiet_nil ?_;rintro w2 rfl;obtain ⟨e7,aq,P,R,e0,_,_⟩:=V.out _ _ _ _ wr.drew q.out
     cases r:dp m kk with
     |true=>
      rw [r] at e0;have HE:=ae (C.out _ _ _ _ wr.drew q.out r);clear C V x v hr q r e7 P R u;go_wp2;exact HE.out
     |false=>
      rw [r] at e0;have J:=ae (v.out _ _ _ _ wr.drew q.out r (.inl u));clear C V x v hr q r e7 P R u;go_wp2_with fail
      refine (J.out).mono ?_;rintro e w5 ⟨rfl,X⟩;have H5:=ae X;clear X J e0 aq;go_wp2;exact H5.out
 ·have HB:=ae (kj ad (by omega) a Y);have C:Hid (∀w',Fr (fun _=>False) w w'->jb c s hf hg Fs top L S a w (.returned (.int .i64 0)) w'):=by
   show∀w',_
   exact fun w' hf=>⟨rfl,Mv,left,fr,ah,T.Fh hf,fun h=>absurd h (by omega)⟩
  clear z h b1 b2 b3 ad hT ho a3 T h1 h2 Y;generalize (jb c s hf hg Fs top L S a w)=Q at*
  go_enter Tryz.func316,Tryz.ntmps316
  go_wp2_with fail
  refine (HB.out).mono ?_;rintro e w1 ⟨rfl,E⟩;have H:=ae (C.out w1 E);clear E HB C c8;go_wp2;exact H.out
end
theorem fQ.store {s:bh} {L M:Nat->Nat} {mp:Nat->Bool} {g:Nat->Bool} {fr l left top:Nat} (n:b8 s) (h:fQ s L M mp g fr l left top) (o:top<=s.to_+s.R*s.P) {a x:Nat} (u:s.to_<=a) (v:a<top) (q:a<s.to_+s.N->g ((a-s.to_)/s.B)=true):
  fQ s (bw L a x) (bw M a x) mp g fr l left top:=by
 have i:∀b,ai s.E b=true->b≠a:=fun b c e=>by
  have p:=(n.from_ b c).2;omega
 have j:∀b,ai s.E b=true->g (bt s.E b/s.B)=false->s.F b≠a:=fun b c f e=>by
  have p:=n.Fa c;have w:s.F b=s.to_+bt s.E b:=rfl;have m:=q (by omega);rw [show a-s.to_=bt s.E b by omega,f] at m
  cases m
 refine ⟨fun b d c f=> ?_,fun b d c f=> ?_,fun b d c f=> ?_,fun b d c f=> ?_,fun k r t=> ?_,h.pages,h.front,h.far,h.Ah,h.left,h.Rm⟩
 ·unfold bw;split
  ·rfl
  ·exact h.moved b d c f
 ·have e:bw M a x b=M b:=if_neg (i b c);rw [dK c e,h.still b d c f];exact (if_neg (j b c f)).symm
 ·have e:bw M a x b=M b:=if_neg (i b c);rw [e];exact h.ptrs b d c f
 ·have e:bw M a x b=M b:=if_neg (i b c);rw [e];exact h.small b d c f
 ·unfold bw;split
  ·rfl
  ·exact h.behind k r t
section
variable {c:Cy} {s:bh} {hf hg:Nat->Nat} {Fs top:Nat} {S:Nat->Prop} {L:Nat->Nat} {Mv:List Bool} {left fr ah k:Nat} {w w' w0:World}
def kK (c:Cy) (s:bh) (hf hg:Nat->Nat) (Fs top:Nat):dZ:=fun L S w=>∃Mv left fr ah,eo c s hf hg Fs top Mv left fr ah L S w
def rd (s:bh) (top a:Nat):Prop:=s.to_<=a∧a<top
theorem eo.word (o:qJ c s hf hg Fs top) (h:eo c s hf hg Fs top Mv left fr ah L S w) {a:Nat} (H:s.to_<=a) (p:a<top) (v:a<s.to_+s.N->dp Mv ((a-s.to_)/s.B)=true):
  (Calls Tryz.prog 223 #[c.m,.int .i64 a] w fun e w'=>e= .returned (.tuple #[.int .u64 ((L a:Nat):Int),.int .i64 0])∧Fr (fun _=>False) w w')∧
  ∀x:Nat,x<18446744073709551616->Calls Tryz.prog 224 #[c.m,.int .i64 a,.int .u64 x] w fun e w'=>e= .returned (.int .i64 0)∧eo c s hf hg Fs top Mv left fr ah (bw L a x) S w'∧Fr S w w':=by
 obtain ⟨Us,Hg,A,mp,M,G,n,y,hp,K,O,z⟩:=h;have l:=o.ok;have g:a<s.W:=by have:=o.top1;have:=l.to2;omega
 have f:mp (a/s.P)=true∧M a=L a:=by
  rcases Nat.lt_or_ge a (s.to_+s.N) with d|d
  ·obtain ⟨b,C,r,D⟩:=pY (E:=s.E) (W:=s.W) (i:=a-s.to_) (by have:s.N=cnt (ai s.E) 0 s.W:=rfl;omega);have q:s.F b=a:=by show s.to_+bt s.E b=a;omega
   have j:dp Mv (bt s.E b/s.B)=true:=by rw [D];exact v d
   have t:=hp.to_page l r j;have u:=hp.moved b C r j;rw [q] at t u;exact ⟨t,u⟩
  ·exact ⟨(hp.beh_page l o.top1 d p).2,hp.behind a d p⟩
 refine ⟨?_,fun x J=> ?_⟩
 ·have:=dS y.mem a g f.1;rwa [f.2] at this
 ·refine (nG y a x g f.1 J).mono ?_;rintro e w' ⟨rfl,Q,R⟩;exact ⟨rfl,⟨Us,Hg,A,mp,_,G,n,Q,hp.store l o.top1 H p v,K,O,z⟩,R.mono (fun k I=> .inl ((z k).2 (.inl I)))⟩
theorem v9 (i:qJ c s hf hg Fs top) (h:kK c s hf hg Fs top L S w) (a:Nat) (b:rd s top a):
  Calls Tryz.prog 314 #[c.y,.int .i64 a] w fun e w'=>e= .returned (.tuple #[.int .u64 ((L a:Nat):Int),.int .i64 0])∧dz (kK c s hf hg Fs top) L S w w':=by
 obtain ⟨Mv,left,fr,ah,h⟩:=h;have p:=ae (lO i h a b.1 b.2);have o:Hid (∀e w1,jb c s hf hg Fs top L S a w e w1->e= .returned (.int .i64 0)∧w1.cell? ⟨c.y,0,none⟩=some (.pointer (some ⟨c.m,0,none⟩))∧(Calls Tryz.prog 223 #[c.m,.int .i64 a] w1 fun e w'=>e= .returned (.tuple #[.int .u64 ((L a:Nat):Int),.int .i64 0])∧dz (kK c s hf hg Fs top) L S w w')):=by
  show∀e w1,_
  rintro e w1 ⟨rfl,m,l,f,g,⟨S',j,u,v⟩,x⟩;refine ⟨rfl,(eo.cells i j).1.cell 0 rfl,((eo.word i j b.1 b.2 x).1).mono ?_⟩;rintro e w2 ⟨rfl,d⟩;exact ⟨rfl,S',⟨m,l,f,g,j.Fh d⟩,u.trans d (fun _ h=>h.elim),v⟩
 clear i h b;generalize (dz (kK c s hf hg Fs top) L S w)=Q at*;generalize L a=X at*
 go_enter Tryz.func314,Tryz.ntmps314
 go_wp2_with fail
 refine (p.out).mono ?_;intro e w1 hp;obtain ⟨rfl,t,q⟩:=o.out _ _ hp;have n:=ae q;clear hp p o q;go_wp2_with fail
 refine (n.out).mono ?_;rintro e w2 ⟨rfl,r⟩;have H:=ae r;clear r n t;go_wp2;go_ret2;exact ⟨rfl,H.out⟩
theorem tH (d:qJ c s hf hg Fs top) (h:kK c s hf hg Fs top L S w) (a x:Nat) (b:rd s top a) (q:x<18446744073709551616):
  Calls Tryz.prog 315 #[c.y,.int .i64 a,.int .u64 x] w fun e w'=>e= .returned (.int .i64 0)∧dz (kK c s hf hg Fs top) (bw L a x) S w w':=by
 obtain ⟨Mv,left,fr,ah,h⟩:=h;have n:=ae (lO d h a b.1 b.2);have j:Hid (∀e w1,jb c s hf hg Fs top L S a w e w1->e= .returned (.int .i64 0)∧w1.cell? ⟨c.y,0,none⟩=some (.pointer (some ⟨c.m,0,none⟩))∧(Calls Tryz.prog 224 #[c.m,.int .i64 a,.int .u64 x] w1 fun e w'=>e= .returned (.int .i64 0)∧dz (kK c s hf hg Fs top) (bw L a x) S w w')):=by
  show∀e w1,_
  rintro e w1 ⟨rfl,m,l,f,g,⟨S',r,v,t⟩,z⟩;refine ⟨rfl,(eo.cells d r).1.cell 0 rfl,((eo.word d r b.1 b.2 z).2 x q).mono ?_⟩;rintro e w2 ⟨rfl,A,B⟩;exact ⟨rfl,S',⟨m,l,f,g,A⟩,v.trans B t,t⟩
 clear d h b q;generalize (dz (kK c s hf hg Fs top) (bw L a x) S w)=Q at*
 go_enter Tryz.func315,Tryz.ntmps315
 go_wp2_with fail
 refine (n.out).mono ?_;intro e w1 hp;obtain ⟨rfl,u,o⟩:=j.out _ _ hp;have i:=ae o;clear hp n j o;go_wp2_with fail
 refine (i.out).mono ?_;rintro e w2 ⟨rfl,p⟩;have H:=ae p;clear p i u;go_wp2;go_ret;exact ⟨rfl,H.out⟩
theorem xm (b:qJ c s hf hg Fs top):aX 115 (.pointer (some ⟨c.y,0,none⟩)) 314 (.pointer (some ⟨c.y,0,none⟩)) (kK c s hf hg Fs top) (rd s top) where
 mload:=fun w=>by kernel_rfl
 eload:=enters_of Tryz.func314 (by kernel_rfl) rfl
 stays:=fun L S w1 w2 T ⟨m,l,f,g,q⟩ hf e b=>⟨m,l,f,g,q.stays hf e b⟩
 tabl:= .inr (fun L S w ⟨_,_,_,_,q⟩=>q.tabl)
 lt:=fun L S w ⟨_,_,_,_,q⟩=>q.lt
 load:=fun L S w a h d=>v9 b h a d
theorem yN (d:qJ c s hf hg Fs top):iA 115 (.pointer (some ⟨c.y,0,none⟩)) 315 (.pointer (some ⟨c.y,0,none⟩)) (kK c s hf hg Fs top) (rd s top) where
 mstore:=fun w=>by kernel_rfl
 estore:=enters_of Tryz.func315 (by kernel_rfl) rfl
 store:=fun L S w a x h b e=>tH d h a x b e
end
end Go.Proofs.YthahbijbpinneaaGreatDoor
