import Derived.Test.YtgnoapadkncphaaGreatDoorA0
import Derived.Test.YtgnoapadkncphaaGreatDoorA3
import Derived.Test.YtgnoapadkncphaaGreatDoorA4
import Derived.Test.YtgnoapadkncphaaGreatDoorA5
import Derived.Deep.RegionHeld
set_option maxRecDepth 100000
set_option maxHeartbeats 8000000
set_option linter.all false
namespace Go.Proofs.YtgnoapadkncphaaGreatDoor
open Go.RowKit Go.Proofs.Tryz
structure AA(c:Cy)(s:dE)(hf hg:Nat->Nat)(Fs top:Nat):Prop where
 ok:fD s
 hd:∀a,s.E a≠0->dD (s.hp a) (hf a) (hg a)
 Yt:top<=s.Qe+s.R*s.P
 low1:s.Qe+s.N<=top
 fr1:Fs=s.R+(s.Ah+2)*(CB s.B s.P+3)
 Qe:s.Qe<=524288
 nb:c.nb=s.nb
 ah:c.Ah=s.Ah
 N:s.N<=524288
 B:s.B<=1024
 a16:s.Ah<=16
def iS(Mv:List Bool)(k:Nat):Bool:=Mv.getD k false
theorem zL{a:List Bool}{k:Nat}(b:k<a.length):iS (a.set k true)=gS (iS a) k:=by
 funext j;unfold iS gS
 grind
def kl(c:Cy)(s:dE)(hf hg:Nat->Nat)(Fs top:Nat)(Mv:List Bool)(left fr ah:Nat)(L:Nat->Nat)(S:Nat->Prop)(w:World):Prop:=
 ∃Us Hg Sm mp M fw n,jO c s hf hg Fs Us Hg Sm mp M Mv fw n left fr ah w/\mW s L M mp (iS Mv) fr ah left top/\(∀q,(fw q).getD 0=qF s (df s.B (iS Mv)) q)/\n<4611686018427387904/\∀k,S k↔(Sm k\/c.has k)
def G7(c:Cy)(s:dE)(hf hg:Nat->Nat)(Fs top:Nat)(Mv:List Bool)(left fr k:Nat)(L:Nat->Nat)(S:Nat->Prop)(w:World)(e:Ending)(w':World):Prop:=
 e= .returned (0:Int)/\∃fr' ah' S',kl c s hf hg Fs top (Mv.set k true) (left-1) fr' ah' L S' w'/\fr<=fr'/\(k=fr->fr<fr')/\Fr S w w'/\∀j,S' j->S j\/w.heap.size<=j
def sF(w:World)(y:Nat):Nat:=match w.cell? ⟨y,12,none⟩ with|some (.int _ f)=>f.toNat|_=>0
section
variable{c:Cy}{s:dE}{hf hg:Nat->Nat}{Fs Us Hg top:Nat}{Sm S:Nat->Prop}{mp mp1:Nat->Bool}{L M M1:Nat->Nat}{Mv:List Bool}{fw:Nat->Option Nat}{n left fr ah k:Nat}{w w' w0:World}{mvd:Nat->Bool}
theorem uE{mvd:Nat->Bool}{k f m:Nat}(d:f<=k)(j:k<m)(l:mvd k=false):Qc (gS mvd k) f m=Qc mvd f m+1:=by
 have e:∀g:Nat->Bool,Qc g f m=Qc g f k+(if g k then 1 else 0)+Qc g (k+1) m:=fun g=>by
  rw [bp g (show f<=k+1 by omega) (show k+1<=m from j),bJ g d]
 rw [e,e mvd,bY (f:=gS mvd k) (g:=mvd) (a:=f) (b:=k) (fun i _ h=>by unfold gS;rw [decide_eq_false (by omega),fN]),bY (f:=gS mvd k) (g:=mvd) (a:=k+1) (b:=m) (fun i h _=>by unfold gS;rw [decide_eq_false (by omega),fN])]
 grind [gS]
theorem BU(h:mW s L M mp mvd fr ah left top)(x:k<s.nb)(o:mvd k=false)(l:k=fr\/ah<s.Ah){f a:Nat}(p:∀j,j<f->gS mvd k j=true)(d:fr<=f)(g:f<=s.nb)(q:f<s.nb->gS mvd k f=false)(r:a=Qc (gS mvd k) f s.nb):a<=s.Ah/\(k=fr->fr<f):=by
 obtain ⟨p1,p2,p3⟩:=h.front;obtain ⟨y,z⟩:=h.Ah;have m:fr<=k:=by
  grind
 by_cases e:k=fr
 ·have b:fr<f:=by
   grind [gS]
  refine ⟨?_,fun _=>b⟩;have t:Qc (gS mvd k) f s.nb=Qc mvd f s.nb:=bY (fun i v _=>by unfold gS;rw [decide_eq_false (by omega),fN]);have u:Qc mvd fr s.nb=Qc mvd fr f+Qc mvd f s.nb:=bp mvd d g;omega
 grind [gS,uE]
theorem vi(D:AA c s hf hg Fs top)(h:kl c s hf hg Fs top Mv left fr ah L S w)(I:k<s.nb)(A:iS Mv k=false)(Y:k=fr\/ah<s.Ah):
  Calls prog 176 #[c.y,(k:Int)] w (G7 c s hf hg Fs top Mv left fr k L S w):=by
 obtain ⟨Us,Hg,Sm,mp,M,fw,n,d,hp,ak,hn,hS⟩:=h;have K:=D.ok;have cx:=l7 K.B1 I;obtain ⟨t,r⟩:∃t,t=s.Qe+k*s.B:=⟨_,rfl⟩;obtain ⟨u,C⟩:∃u,u=min (s.Qe+k*s.B+s.B) (s.Qe+s.N):=⟨_,rfl⟩;have cu:=K.B1;have cp:t<u:=by omega
 have cH:u<=s.Qe+s.N:=by omega
 have hW:=K.to2;have ar:=K.N2;have a9:=rf d.Xh (by have:=d.Qe;have:=D.Qe;omega) k (by rw [d.B];exact I);have a8:=fun w1 (hh:fS c.lo c.hi w1 c.pl s.W c.B s.E c.Qe) (hT:ee w1)=>vz hh hT (by have:=d.Qe;have:=D.Qe;omega) k (by rw [d.B];exact I)
 rw [d.B,d.Qe] at a9 a8;rw [<-r,show Qc (aw s.E) 0 s.W=s.N from rfl,r,<-C,<-r] at a9 a8;have a2:Us+Qc (fq mp) (t/s.P) ((u-1)/s.P+1)<=Fs:=by
  have h1:=hp.need K I Y r C;rw [D.fr1,d.mem.at.2.2.2.2.2.2.2.1];exact h1
 have bX:=ae a9;have bM:=ae (fun w1 (aj:J7 w w1)=>ot (d.mem.Qb aj) t u cp (by omega) a2);have bO:=ae a8;have bF:=ae (fun w1 (aj:J7 w w1)=>af ((d.Fh aj).Qd.cell 0 rfl) ((d.Fh aj).Qd.cell 8 rfl));have HW:=ae d;have HP:=ae hp;have c8:=d.Qd.cell 8 rfl;have HX:=ae (af ak (af hn (af hS (af D (af Y (af I (af A (af r C))))))));have cZ:(k:Int)<=524288:=by have:=D.N;have h2:=cF k (show 0<s.B by omega);omega
 have cG:(u:Int)<=1048576:=by have:=D.N;have:=D.Qe;omega
 have HQ:Hid (∀(az a7:Nat) (S':Nat->Prop) (w':World),kl c s hf hg Fs top (Mv.set k true) (left-1) az a7 L S' w'->fr<=az->(k=fr->fr<az)->Fr S w w'->(∀j,S' j->S j\/w.heap.size<=j)->G7 c s hf hg Fs top Mv left fr k L S w (.returned (0:Int)) w'):=by
  show∀(az a7:Nat) (S':Nat->Prop) (w':World),_
  exact fun az a7 S' w' h1 h2 h3 h4 h5=>⟨rfl,az,a7,S',h1,h2,h3,h4,h5⟩
 clear d hp ak hn hS D Y I A r C a9 a8 K cx cu cH hW ar a2;generalize (G7 c s hf hg Fs top Mv left fr k L S w)=Q at*
 go_enter func176,ntmps176
 go_wp2_with fail
 refine bX.out.mono ?_;rintro e w1 ⟨rfl,aj⟩;obtain ⟨c0,_⟩:=bF.out w1 aj;have bL:=ae (bM.out w1 aj);have aI:=ae aj;clear aj bM bX c8;go_wp2_with fail
 refine bL.out.mono ?_;rintro e w2 ⟨rfl,m,Qi,mp1,M1,n1,n2,n3,n4,n5⟩;have H:=(HW.out.Fh aI.out).mem_ n1 n4 n5;have c8:=H.Qd.cell 8 rfl;have bN:=ae (bO.out w2 (by have h9:=H.Xh;rwa [HW.out.B,HW.out.Qe] at h9) H.Qo);have H2:=ae (af H (af n2 (af n3 (af n4 n5))));clear H n1 n2 n3 n4 n5 bL bO c0 bF;go_wp2_with fail
 refine bN.out.mono ?_;rintro e w3 ⟨v,l,rfl,a3,a1,U⟩;obtain ⟨g,cap,rfl,aH⟩:∃g cap,v= .slice (some ⟨g,0,none⟩) l.length cap/\w2.heap.size<=g:=by
  rcases a3.2 with ⟨h1,h2⟩|⟨g,cap,cur,h1,h2,_⟩
  ·have:l.length=0:=by have:=h2;omega
   have h3:l=[]:=bZ this;subst h3;have:t=u:=a1;omega
  ·exact ⟨g,cap,h1,h2⟩
 have bE:=Ds a3;have aU:=oo a1;obtain ⟨H,n2,n3,n4,n5⟩:=H2.out;have cq:=H.Fh U;have ap:¬m g:=fun hs=>by have:=H.mem.lt g hs;omega
 have aG:g<w3.heap.size:=by
  have h0:0<l.length:=by
   by_cases h0:l.length=0
   ·have h3:l=[]:=bZ h0;subst h3;have:t=u:=a1;omega
   ·omega
  have:=bE 0 l[0] (aC h0) 0 _ rfl;exact bu this
 obtain ⟨ak,hn,hS,D,Y,I,A,r,C⟩:=HX.out;have K:=D.ok;have ar:=K.N2;have bm:=ae (fun (j F p Z:Nat) (wr:World) (V:l[j]? =some (F,p,Z)) (h1:1<=Z) (hs:sK s.E s.Qe s.W p F Z) (al:t<=p) (ax:p+Z<=u) (J:jO c s hf hg Fs (Us+Qc (fq mp) (t/s.P) ((u-1)/s.P+1)) Qi m mp1 (sx s M1 t p) Mv fw n left fr ah wr/\Fr (fun k=>m k\/w3.heap.size<=k) w3 wr)=>
  (let hb:=Dw K I r C al ax h1 hs
   (C5 J.1 F p Z (Io K HP.out I A r C hb h1 n2 n3 D.hd HW.out.Qe (by have:=D.Qe;omega))).mono (fun e w' ⟨q1,q2,q3⟩=>(⟨q1,by rwa [Jo K hb (by omega) (by omega)] at q2,J.2.trans q3 (fun k I=> .inl (.inl I))⟩:e=Ending.returned (.tuple #[])/\jO c s hf hg Fs (Us+Qc (fq mp) (t/s.P) ((u-1)/s.P+1)) Qi m mp1 (sx s M1 t (p+Z)) Mv fw n left fr ah w'/\Fr (fun k=>m k\/w3.heap.size<=k) w3 w'))))
 have H3:=ae (⟨by rw [EZ];exact cq,Kb _ _⟩:jO c s hf hg Fs (Us+Qc (fq mp) (t/s.P) ((u-1)/s.P+1)) Qi m mp1 (sx s M1 t t) Mv fw n left fr ah w3/\Fr (fun k=>m k\/w3.heap.size<=k) w3 w3);have a6:=ae (fun (wr:World) (hf:Fr (fun k=>m k\/w3.heap.size<=k) w3 wr)=>bE.frame hf (fun h=>by rcases h with h|h;exact ap h;omega));have bo:=ae a1;have aO:=ae (fun (j p:Nat) (hh:pU s.E s.Qe s.W p (l.drop j) u) (V:j<l.length)=>Be hh V);have cs:=ae (fun (w4 w5:World) (h4:jO c s hf hg Fs (Us+Qc (fq mp) (t/s.P) ((u-1)/s.P+1)) Qi m mp1 (sx s M1 t t) Mv fw n left fr ah w4/\Fr (fun k=>m k\/w3.heap.size<=k) w3 w4) (hf:J7 w4 w5)=>af (h4.1.Fh hf) (h4.2.trans hf J8));have HH:=ae (af U (af ap (af aG aH)));have cN:Hid ((prog.info? 273).map (·.size)=some 3):=by show _=_;kernel_rfl
 have bx:l.length<=1048576:=by have:=D.N;have:=D.Qe;omega
 clear a3 a1 U bE H n2 n3 n4 n5 cq ap aG ak hn hS D Y I A r C K bN c8 aH ar;go_wp2
 go_loopw [46] (fun x wr=>∃j p:Nat,x= .int .i64 j/\j<=l.length/\t<=p/\pU s.E s.Qe s.W p (l.drop j) u/\Hid (jO c s hf hg Fs (Us+Qc (fq mp) (t/s.P) ((u-1)/s.P+1)) Qi m mp1 (sx s M1 t p) Mv fw n left fr ah wr/\Fr (fun k=>m k\/w3.heap.size<=k) w3 wr)) (fun x _=>(l.length-intOf x).toNat)
 case atStart=>exact ⟨0,t,rfl,ao _,ag _,by simpa using bo.out,H3⟩
 case round=>
  clear H3 cs;obtain ⟨j,p,rfl,V,al,O,J⟩:=hrel;by_cases aY:j<l.length
  ·obtain ⟨F,Z,hx,bD,a4,R⟩:=aO.out j p O aY;have ax:=oo R;have HC:=ae (fun w5 (hf:J7 wr w5)=>bm.out j F p Z w5 hx bD a4 al (by omega) ⟨J.out.1.Fh hf,J.out.2.trans hf J8⟩);have T:=a6.out wr J.out.2 j _ hx;rw [bg] at T;have e0:=T 0 _ rfl;have e1:=T 1 _ rfl;have e2:=T 2 _ rfl;rw [aP] at e0;dsimp only at e0 e1 e2;have aR:=ae R;have c1:(j:Int)<(l.length:Int):=by omega
   clear J bm a6 aO O R a4 hx T;go_wp2_with fail
   refine (HC.out _ ((Kb _ wr).alloc _)).mono ?_;rintro e w6 ⟨rfl,hq⟩;have bq:=ae hq;clear hq HC e0 e1 e2;go_wp2;go_roundw
   case rel=>exact ⟨j+1,p+Z,by go_num,by omega,by omega,aR.out,bq⟩
   case measure=>simp [intOf];omega
  ·have bw:j=l.length:=by omega
   subst bw;obtain ⟨w4,e4⟩:∃w4,w4=wr:=⟨_,rfl⟩;subst e4;have ax:p=u:=by
    rwa [kD] at O
   subst ax;have c1:¬(l.length:Int)<(l.length:Int):=by omega
   obtain ⟨a5,av⟩:=J.out;obtain ⟨H,n2,n3,n4,n5⟩:=H2.out;obtain ⟨U,ap,aG,aH⟩:=HH.out;obtain ⟨ak,hn,hS,D,Y,I,A,r,C⟩:=HX.out;have K:=D.ok;have ar:=K.N2;have bk:=a6.out w4 av;have cl:g≠c.wb:=fun e=>by have:=H.wds.lt;omega
   have cd:qx c s hf hg Fs Mv n left fr ah (sx s M1 t p) (ii s (gS (iS Mv) k) top) m w4 (wO (df s.B (iS Mv)) (k*s.B) (t-s.Qe)) w4:=by
    rw [show t-s.Qe=k*s.B by omega,E1];exact ⟨_,_,m,mp1,_,fw,a5,HP.out.drn K I r C n2 ak,fun _ _ _=>rfl,Kb _ _,fun _ h=> .inl h⟩
   have bn:=ae (fun (j F q Z:Nat) (wq:World) (V:l[j]? =some (F,q,Z)) (h1:1<=Z) (hs:sK s.E s.Qe s.W q F Z) (al:t<=q) (ax:q+Z<=p) (J:qx c s hf hg Fs Mv n left fr ah (sx s M1 t p) (ii s (gS (iS Mv) k) top) m w4 (wO (df s.B (iS Mv)) (k*s.B) (q-s.Qe)) wq)=>
    (let hb:Js s (iS Mv) k t p F q Z:=Dw K I r C al ax h1 hs
     let cT:=hb.at_ h1
     (AY K.P1 hn K.W1 J F q Z (by have:=(hb.live (Z-1) (by omega)).2.1;omega) (fun i hi=>⟨(hb.live i hi).1,(hb.live i hi).2.2.2.1⟩) (fun i hi=>by
      have h6:iS Mv ((ec s.E F+i)/s.B)=false:=by rw [<-(hb.live i hi).2.2.2.1,(hb.live i hi).2.2.2.2];exact A
      unfold wO df;rw [h6,decide_eq_false (by omega)];rfl)).mono (fun e w' ⟨q1,q2⟩=>(⟨q1,by rwa [Jq hb h1 (by omega) (by omega)] at q2⟩:e=Ending.returned (.tuple #[])/\qx c s hf hg Fs Mv n left fr ah (sx s M1 t p) (ii s (gS (iS Mv) k) top) m w4 (wO (df s.B (iS Mv)) (k*s.B) (q+Z-s.Qe)) w'))))
   have aS:=ae (fun (wq:World) (X:Nat->Bool) (J:qx c s hf hg Fs Mv n left fr ah (sx s M1 t p) (ii s (gS (iS Mv) k) top) m w4 X wq)=>(show wZ wq g l from by
    obtain ⟨_,_,_,_,_,_,_,_,_,q4,_⟩:=J;exact bk.frame q4 (fun h=>by rcases h with h|h;exact ap h;exact cl h)))
   have bH:=ae cd;have HR:=ae (af a5 av);clear a5 av H n2 n3 n4 n5 U ap aG aH ak hn hS D Y I A r C K ar bk cl cd J O bm a6 aY al;go_wp2
   go_loopw [56] (fun x wq=>∃j q:Nat,x= .int .i64 j/\j<=l.length/\t<=q/\pU s.E s.Qe s.W q (l.drop j) p/\Hid (qx c s hf hg Fs Mv n left fr ah (sx s M1 t p) (ii s (gS (iS Mv) k) top) m w4 (wO (df s.B (iS Mv)) (k*s.B) (q-s.Qe)) wq)) (fun x _=>(l.length-intOf x).toNat)
   case atStart=>exact ⟨0,t,rfl,ao _,ag _,by simpa using bo.out,bH⟩
   case round=>
    clear bH;obtain ⟨j,q,rfl,V,al,O,J⟩:=hrel;by_cases aY:j<l.length
    ·obtain ⟨F,Z,hx,bD,a4,R⟩:=aO.out j q O aY;have ax:=oo R;have HC:=ae (fun w5 (hf:J7 wr w5)=>bn.out j F q Z w5 hx bD a4 al (by omega) (J.out.Fh hf));have T:=aS.out wr _ J.out j _ hx;rw [bg] at T;have e0:=T 0 _ rfl;have e1:=T 1 _ rfl;have e2:=T 2 _ rfl;rw [aP] at e0;dsimp only at e0 e1 e2;have aR:=ae R;have c2:(j:Int)<(l.length:Int):=by omega
     clear J bn aS aO O R a4 hx T;go_wp2_with fail
     refine (HC.out _ ((Kb _ wr).alloc _)).mono ?_;rintro e w6 ⟨rfl,hq⟩;have bq:=ae hq;clear hq HC e0 e1 e2;go_wp2;go_roundw
     case rel=>exact ⟨j+1,q+Z,by go_num,by omega,by omega,aR.out,bq⟩
     case measure=>simp [intOf];omega
    ·have bw:j=l.length:=by omega
     subst bw;have cC:q=p:=by
      rwa [kD] at O
     subst cC;clear bn aS aO O aY al;obtain ⟨w5,e5⟩:∃w5,w5=wr:=⟨_,rfl⟩;subst e5;obtain ⟨z,o,ad,aq,M3,an,am,bv,cf,ck,co⟩:=J.out;obtain ⟨a5,av⟩:=HR.out;obtain ⟨H,n2,n3,n4,n5⟩:=H2.out;obtain ⟨U,ap,aG,aH⟩:=HH.out;obtain ⟨ak,hn,hS,D,Y,I,A,r,C⟩:=HX.out;have K:=D.ok;have ar:=K.N2;have hp:=HP.out;have bc:k<Mv.length:=by rw [am.len,D.nb];exact I
     have a0:=zL bc;have bB:=hp.left;have bx:1<=left:=by
      have h6:=uE (f:=0) (ao k) I A;have h7:=dA (gS (iS Mv) k) 0 s.nb;omega
     have aT:=hp.front;have cg:=hp.Ah;have cm:fr<=k:=by
      rcases aN k fr with hh|hh
      ·rw [aT.1 k hh] at A;cases A
      ·exact hh
     rw [show q-s.Qe=min (k*s.B+s.B) s.N by omega] at bv;have bd:Hid (∀f a wz,jO c s hf hg Fs z o ad aq M3 (Mv.set k true) an n (left-1) f a wz->Fr (fun j=>j=c.mv\/j=c.y) w5 wz->(∀j,j<f->gS (iS Mv) k j=true)->fr<=f->f<=s.nb->(f<s.nb->gS (iS Mv) k f=false)->a=Qc (gS (iS Mv) k) f s.nb->Q (.returned (0:Int)) wz):=by
      show∀f a wz,_
      intro f a wz G b2 b3 b4 b5 b6 b7;obtain ⟨e1,e2⟩:=BU hp I A Y b3 b4 b5 b6 b7;obtain ⟨g1,g2⟩:=hp.move K I A r C D.Yt n2 n3 bv (fun b hb hm=>cf b hb hm) ⟨b3,b5,b6⟩ ⟨b7,e1⟩ (show left-1+1=left by omega);rw [<-a0] at g1 g2;refine HQ.out f a (fun j=>ad j\/c.has j) wz ⟨z,o,ad,aq,M3,an,n,G,g1,g2,hn,fun j=>dO⟩ b4 e2 ?_ ?_
      ·have z1:=aI.out.size;have z2:=n4.size;have z3:=U.size;have bi:∀j,m j->Sm j\/w.heap.size<=j:=fun j V=>(n5 j V).imp id (fun h=>by omega)
       refine ((((((aI.out.mono (S':=S) J8).trans n4 (fun j V=> .inl ((hS j).2 (.inl V)))).trans U J8).trans av (fun j V=> ?_)).trans ck (fun j V=> ?_)).trans b2 (fun j V=> ?_))
       ·rcases V with h|h
        ·exact (bi j h).imp (fun h=>(hS j).2 (.inl h)) id
        ·exact .inr (by omega)
       ·rcases V with h|h
        ·exact (bi j h).imp (fun h=>(hS j).2 (.inl h)) id
        ·exact .inl ((hS j).2 (.inr (.inr (.inr (.inl h)))))
       ·rcases V with h|h
        ·exact .inl ((hS j).2 (.inr (.inr (.inl h))))
        ·exact .inl ((hS j).2 (.inr (.inl h)))
      ·intro j V;have z1:=aI.out.size;have z2:=n4.size;have z3:=U.size;have z4:=av.size;rcases V with h|h
       ·rcases co j h with h|h
        ·rcases n5 j h with h|h
         ·exact .inl ((hS j).2 (.inl h))
         ·exact .inr (by omega)
        ·exact .inr (by omega)
       ·exact .inl ((hS j).2 (.inr h))
     have aA:∀W6,w5.setCell ⟨c.mv,k,none⟩ (.bool true)=W6->jO c s hf hg Fs z o ad aq M3 (Mv.set k true) an n left fr ah W6/\Fr (fun j=>j=c.mv\/j=c.y) w5 W6:=by
      rintro W6 rfl;have f6:Fr (fun j=>j=c.mv) w5 (w5.setCell ⟨c.mv,k,none⟩ (.bool true)):=(Kb (fun j=>j=c.mv) w5).setCell ⟨c.mv,k,none⟩ (.inl rfl) _;refine ⟨am.mv_ ?_ (by rw [aW];exact am.len) f6,f6.mono (fun _ h=> .inl (.inl h))⟩;have:=am.mv.set k (.bool true);unfold Ao at*;rwa [di]
     have aB:∀W6 W7 W8,jO c s hf hg Fs z o ad aq M3 (Mv.set k true) an n left fr ah W6->Fr (fun j=>j=c.mv\/j=c.y) w5 W6->W6.setCell ⟨c.y,11,none⟩ (.int .i64 ((left-1:Nat):Int))=W7->W7.setCell ⟨c.y,13,none⟩ (.int .i64 ((ah+1:Nat):Int))=W8->jO c s hf hg Fs z o ad aq M3 (Mv.set k true) an n (left-1) fr (ah+1) W8/\Fr (fun j=>j=c.mv\/j=c.y) w5 W8:=by
      rintro W6 W7 W8 G b2 rfl rfl;have f7:Fr (fun j=>j=c.y) W6 ((W6.setCell ⟨c.y,11,none⟩ (.int .i64 ((left-1:Nat):Int))).setCell ⟨c.y,13,none⟩ (.int .i64 ((ah+1:Nat):Int))):=((Kb (fun j=>j=c.y) W6).setCell ⟨c.y,11,none⟩ (.inl rfl) _).setCell ⟨c.y,13,none⟩ (.inl rfl) _;exact ⟨G.y_ ((G.Qd.set 11 _).set 13 _) f7,b2.trans f7 (fun _ h=> .inl (.inr h))⟩
     have b0:=ae aA;have b9:=ae aB;have cc:∀W6,jO c s hf hg Fs z o ad aq M3 (Mv.set k true) an n left fr ah W6->(W6.cell? ⟨c.y,11,none⟩=some (left:Int)/\W6.frozen? ⟨c.y,11,none⟩=false)/\∀W7,W6.setCell ⟨c.y,11,none⟩ (.int .i64 ((left-1:Nat):Int))=W7->W7.cell? ⟨c.y,13,none⟩=some (ah:Int)/\W7.frozen? ⟨c.y,13,none⟩=false:=by
      intro W6 G;refine ⟨⟨G.Qd.cell 11 rfl,G.Qd.free 11⟩,?_⟩;rintro W7 rfl;exact ⟨(G.Qd.set 11 _).cell 13 rfl,(G.Qd.set 11 _).free 13⟩
     have bG:=ae cc;have bs:=am.Qd.cell 10 rfl;have d0:=am.mv.cell k (mR bc);have d1:=am.mv.free k;have be:=ae (af aT (af cg (af I (af A (af cm (af bc (af a0 (af D am.len))))))));have cy:k<c.nb:=by rw [D.nb];exact I
     have cn:(k:Int)<(c.nb:Int):=by omega
     have cA:(left:Int)<=1048576:=by have:=D.N;have h8:=D.nb;have:s.nb<=1048576:=by {have h9:s.nb=oZ s.N s.B:=rfl;unfold oZ at h9;have:=aX (s.N+s.B-1) s.B;have:=D.B;omega};omega
     have cB:IntKind.i64.wrap ((left:Int)-1)=((left-1:Nat):Int):=by rw [IntKind.wrap_i64];omega
     have cv:IntKind.i64.wrap ((ah:Int)+1)=((ah+1:Nat):Int):=by have:=D.a16;rw [IntKind.wrap_i64];omega
     clear am bv cf ck co a5 av H n2 n3 n4 n5 U ap aG aH ak hn hS D Y I A r C K ar hp bc a0 bB bx aT cg cm aA aB cc J HQ HR H2 HH HX HP bo aI HW
     go_upto_region 17 with fail
     obtain ⟨W6,aA⟩:∃W6,w5.setCell ⟨c.mv,k,none⟩ (.bool true)=W6:=⟨_,rfl⟩;rw [aA];obtain ⟨G,b2⟩:=b0.out W6 aA;have c0:=G.Qd.cell 0 rfl;obtain ⟨⟨k1,k2⟩,k3⟩:=bG.out W6 G;have K3:=ae k3;have B6:=ae (af G b2);clear aA G b2 k3 b0 bG bs d0 d1 c0
     go_upto_region 18 with fail
     obtain ⟨W7,ba⟩:∃W7,W6.setCell ⟨c.y,11,none⟩ (.int .i64 ((left-1:Nat):Int))=W7:=⟨_,rfl⟩;rw [ba];obtain ⟨k3,k4⟩:=K3.out W7 ba;have b8:=ae ba;clear ba k1 k2 K3
     go_upto_region 19 with fail
     obtain ⟨W8,aB⟩:∃W8,W7.setCell ⟨c.y,13,none⟩ (.int .i64 ((ah+1:Nat):Int))=W8:=⟨_,rfl⟩;rw [show (ah:Int)+1=((ah+1:Nat):Int) by push_cast;rfl,aB];have H8:=ae (b9.out W6 W7 W8 B6.out.1 B6.out.2 b8.out aB);clear aB b8 b9 B6 k3 k4
     go_loopw [] (fun wz=>∃f a:Nat,Hid ((jO c s hf hg Fs z o ad aq M3 (Mv.set k true) an n (left-1) f a wz/\Fr (fun j=>j=c.mv\/j=c.y) w5 wz)/\(∀j,j<f->gS (iS Mv) k j=true)/\fr<=f/\f<=s.nb/\a=Qc (gS (iS Mv) k) f s.nb)) (fun wz=>c.nb-sF wz c.y)
     case atStart=>
      obtain ⟨x1,x2,x3,x4,x5,x6,x7,x8,x9⟩:=be.out;refine ⟨fr,ah+1,ae ⟨H8.out,fun j V=>by unfold gS;rw [x1.1 j V];rfl,ag _,x1.2.1,?_⟩⟩;rw [uE x5 x3 x4,x2.1]
     case round=>
      clear H8;obtain ⟨f,a,J⟩:=hrel;obtain ⟨⟨G,b2⟩,b3,b4,b5,b6⟩:=J.out;obtain ⟨x1,x2,x3,x4,x5,x6,x7,x8,x9⟩:=be.out;have ct:=G.Qd.drew.cell 12 rfl;have bs:=G.Qd.drew.cell 10 rfl;have bj:c.nb=s.nb:=x8.nb;have cM:(c.nb:Int)<=1048576:=by have:=x8.N;have:s.nb<=1048576:=by {have h9:s.nb=oZ s.N s.B:=rfl;unfold oZ at h9;have:=aX (s.N+s.B-1) s.B;have:=x8.B;omega};omega
      have aU:(Mv.set k true).length=c.nb:=by rw [aW];exact x9
      by_cases bb:f<s.nb
      ·have d0:=G.mv.drew.cell f (mR (by rw [aU,bj];exact bb));have bC:(Mv.set k true).getD f false=gS (iS Mv) k f:=by rw [<-x7];rfl
       rw [bC] at d0;have cU:(f:Int)<(c.nb:Int):=by omega
       cases hmk:gS (iS Mv) k f with
       |true=>
        rw [hmk] at d0;have cQ:1<=a:=by
         have h6:=pP (ag f) bb hmk;omega
        have ci:a-1=Qc (gS (iS Mv) k) (f+1) s.nb:=by
         have h6:=bp (gS (iS Mv) k) (show f<=f+1 by omega) (show f+1<=s.nb by omega);rw [bJ _ (ag f),eu,hmk] at h6;simp only [if_true] at h6;omega
        have cK:(a:Int)<=1048576:=by
         have h6:=dA (gS (iS Mv) k) f s.nb;omega
        have cJ:IntKind.i64.wrap ((a:Int)-1)=((a-1:Nat):Int):=by rw [IntKind.wrap_i64];omega
        have cW:IntKind.i64.wrap ((f:Int)+1)=((f+1:Nat):Int):=by rw [IntKind.wrap_i64];omega
        have ca:=G.Qd.drew.free 12;have bS:Hid (∀Wa,wr.drew.setCell ⟨c.y,12,none⟩ (.int .i64 ((f+1:Nat):Int))=Wa->(Wa.cell? ⟨c.y,13,none⟩=some (a:Int)/\Wa.frozen? ⟨c.y,13,none⟩=false)/\∀Wb,Wa.setCell ⟨c.y,13,none⟩ (.int .i64 ((a-1:Nat):Int))=Wb->sF Wb c.y=f+1/\((jO c s hf hg Fs z o ad aq M3 (Mv.set k true) an n (left-1) (f+1) (a-1) Wb/\Fr (fun j=>j=c.mv\/j=c.y) w5 Wb)/\(∀j,j<f+1->gS (iS Mv) k j=true)/\fr<=f+1/\f+1<=s.nb/\a-1=Qc (gS (iS Mv) k) (f+1) s.nb)):=by
         show∀Wa,_
         rintro Wa rfl;refine ⟨⟨(G.Qd.drew.set 12 _).cell 13 rfl,(G.Qd.drew.set 12 _).free 13⟩,?_⟩;rintro Wb rfl;have f7:Fr (fun j=>j=c.y) wr.drew ((wr.drew.setCell ⟨c.y,12,none⟩ (.int .i64 ((f+1:Nat):Int))).setCell ⟨c.y,13,none⟩ (.int .i64 ((a-1:Nat):Int))):=((Kb (fun j=>j=c.y) wr.drew).setCell ⟨c.y,12,none⟩ (.inl rfl) _).setCell ⟨c.y,13,none⟩ (.inl rfl) _;have g1:=(G.Fh ((Kb _ wr).drew)).y_ ((G.Qd.drew.set 12 _).set 13 _) f7;refine ⟨?_,⟨⟨g1,(b2.drew).trans f7 (fun _ h=> .inl (.inr h))⟩,fun j V=> ?_,by omega,by omega,ci⟩⟩
         ·unfold sF;rw [g1.Qd.cell 12 rfl];rfl
         ·by_cases e:j=f
          ·rw [e];exact hmk
          ·exact b3 j (by omega)
        have cw:sF wr c.y=f:=by
         unfold sF;rw [G.Qd.cell 12 rfl];rfl
        clear x1 x2 x3 x4 x5 x6 x7 x8 x9 J G b2 b3 b4 b5 b6 ci hmk bC;go_wp2;refine aV (fun w'=>w'=wr.drew) (by kernel_rfl) rfl ?_;refine aL [c.y,c.y,.pointer (some ⟨c.y,12,none⟩)] ?_
        iterate 3 (refine aM rfl (fun w9 h9=>by go_simp) ?_;simp only [aa])
        refine aK ?_;refine ai (f:Int) rfl (fun w' d=>by subst d;go_simp) ?_;simp only [aa];refine aL [c.y,c.y,.pointer (some ⟨c.y,10,none⟩)] ?_
        iterate 3 (refine aM rfl (fun w9 h9=>by go_simp) ?_;simp only [aa])
        refine aK ?_;refine ai (.slice (some c.mv) c.nb c.nb) rfl (fun w' d=>by subst d;go_simp) ?_;simp only [aa];refine aL [((c.nb:Int):Int),.bool true,.bool true,c.y,c.y,.pointer (some ⟨c.y,10,none⟩)] ?_
        iterate 6 (refine aM rfl (fun w9 h9=>by go_simp) ?_;simp only [aa])
        refine aK ?_;refine aQ (.slice (some c.mv) c.nb c.nb) rfl (fun w' d=>by subst d;go_simp) ?_;simp only [aa];refine aL [c.y,c.y,.pointer (some ⟨c.y,12,none⟩)] ?_
        iterate 3 (refine aM rfl (fun w9 h9=>by go_simp) ?_;simp only [aa])
        refine aK ?_;refine aQ (f:Int) rfl (fun w' d=>by subst d;go_simp) ?_;simp only [aa];refine aQ (.pointer (some ⟨c.mv,f,none⟩)) rfl (fun w' d=>by go_simp) ?_;simp only [aa];refine aQ (.bool true) rfl (fun w' d=>by subst d;go_simp) ?_;simp only [aa];refine ai (.bool true) rfl (fun w' d=>by go_simp) ?_;simp only [aa];refine wpQuiet_nil ?_;rintro w2 rfl
        go_upto_region 21 with fail
        obtain ⟨Wa,bt⟩:∃Wa,(wr.setCell ⟨c.y,12,none⟩ (.int .i64 ((f:Int)+1))).drew=Wa:=⟨_,rfl⟩;rw [bt];obtain ⟨⟨k3,k4⟩,hz⟩:=bS.out Wa (by rw [<-bt];rfl);have HZ:=ae hz;clear hz bS bt ct bs d0 ca;go_wp2;go_roundw
        case rel=>exact ⟨f+1,a-1,ae (HZ.out _ rfl).2⟩
        case measure=>
         rw [(HZ.out _ rfl).1,cw];omega
       |false=>
        rw [hmk] at d0;have HE:=ae (bd.out f a wr.drew (G.Fh ((Kb _ wr).drew)) (b2.trans (S':=fun _=>False) ((Kb _ wr).drew) J8) b3 b4 b5 (fun _=>hmk) b6);clear x1 x2 x3 x4 x5 x6 x7 x8 x9 J G b2 b3 b4 b5 b6 hmk bC;go_wp2;refine aV (fun w'=>w'=wr.drew) (by kernel_rfl) rfl ?_;refine aL [c.y,c.y,.pointer (some ⟨c.y,12,none⟩)] ?_
        iterate 3 (refine aM rfl (fun w9 h9=>by go_simp) ?_;simp only [aa])
        refine aK ?_;refine ai (f:Int) rfl (fun w' d=>by subst d;go_simp) ?_;simp only [aa];refine aL [c.y,c.y,.pointer (some ⟨c.y,10,none⟩)] ?_
        iterate 3 (refine aM rfl (fun w9 h9=>by go_simp) ?_;simp only [aa])
        refine aK ?_;refine ai (.slice (some c.mv) c.nb c.nb) rfl (fun w' d=>by subst d;go_simp) ?_;simp only [aa];refine aL [((c.nb:Int):Int),.bool true,.bool true,c.y,c.y,.pointer (some ⟨c.y,10,none⟩)] ?_
        iterate 6 (refine aM rfl (fun w9 h9=>by go_simp) ?_;simp only [aa])
        refine aK ?_;refine aQ (.slice (some c.mv) c.nb c.nb) rfl (fun w' d=>by subst d;go_simp) ?_;simp only [aa];refine aL [c.y,c.y,.pointer (some ⟨c.y,12,none⟩)] ?_
        iterate 3 (refine aM rfl (fun w9 h9=>by go_simp) ?_;simp only [aa])
        refine aK ?_;refine aQ (f:Int) rfl (fun w' d=>by subst d;go_simp) ?_;simp only [aa];refine aQ (.pointer (some ⟨c.mv,f,none⟩)) rfl (fun w' d=>by go_simp) ?_;simp only [aa];refine aQ (.bool false) rfl (fun w' d=>by subst d;go_simp) ?_;simp only [aa];refine ai (.bool false) rfl (fun w' d=>by go_simp) ?_;simp only [aa];refine wpQuiet_nil ?_;rintro w2 rfl;go_wp2;exact HE.out
      ·have bK:=ae (decide_eq_false (show¬f<c.nb by omega));obtain ⟨B0,cb⟩:∃B0,B0=decide (f<c.nb):=⟨_,rfl⟩;have bl:=ae cb;have HE:=ae (bd.out f a wr.drew (G.Fh ((Kb _ wr).drew)) (b2.trans (S':=fun _=>False) ((Kb _ wr).drew) J8) b3 b4 b5 (fun h=>absurd h bb) b6);clear x1 x2 x3 x4 x5 x6 x7 x8 x9 J G b2 b3 b4 b5 b6 bb bj aU cb c1 V bx cp cG cy cn cA cB cv;go_wp2;refine aV (fun w'=>w'=wr.drew) (by kernel_rfl) rfl ?_;refine aL [c.y,c.y,.pointer (some ⟨c.y,12,none⟩)] ?_
       iterate 3 (refine aM rfl (fun w9 h9=>by go_simp) ?_;simp only [aa])
       refine aK ?_;refine ai (f:Int) rfl (fun w' d=>by subst d;go_simp) ?_;simp only [aa];refine aL [c.y,c.y,.pointer (some ⟨c.y,10,none⟩)] ?_
       iterate 3 (refine aM rfl (fun w9 h9=>by go_simp) ?_;simp only [aa])
       refine aK ?_;refine ai (.slice (some c.mv) c.nb c.nb) rfl (fun w' d=>by subst d;go_simp) ?_;simp only [aa];refine ai (.int .i64 (c.nb:Int)) rfl (fun w' d=>by go_simp) ?_;simp only [aa];refine ai (.bool B0) rfl (fun w' d=>by rw [bl.out];go_simp) ?_;simp only [aa];refine ai (.bool B0) rfl (fun w' d=>by go_simp) ?_;simp only [aa];have cr:=bl.out.trans bK.out;clear bl bK
       cases B0
       case true=>cases cr
       go_big_quiet_skip
       go_big_quiet_skip
       go_big_quiet_skip
       go_big_quiet_skip
       go_big_quiet_skip
       go_big_quiet_skip
       go_big_quiet_skip
       go_big_quiet_skip
       go_big_quiet_skip
       go_big_quiet_skip
       refine ai (.bool false) rfl (fun w' d=>by go_simp) ?_;simp only [aa];refine wpQuiet_nil ?_;rintro w2 rfl;go_wp2;exact HE.out
end
section
variable{c:Cy}{s:dE}{hf hg:Nat->Nat}{Fs top:Nat}{S:Nat->Prop}{L:Nat->Nat}{Mv:List Bool}{left fr ah k:Nat}{w w':World}
theorem kl.stays{T:Nat->Prop}(h:kl c s hf hg Fs top Mv left fr ah L S w)(a:Fr T w w')(e:∀k,S k->¬T k)(i:¬T ch):kl c s hf hg Fs top Mv left fr ah L S w':=by
 obtain ⟨Us,Hg,f,mp,M,g,n,j,l,m,o,d⟩:=h;exact ⟨Us,Hg,f,mp,M,g,n,j.frame a (fun k b=>e k ((d k).2 (.inr b))) (fun k b=>e k ((d k).2 (.inl b))) i,l,m,o,d⟩
theorem kl.Fh(h:kl c s hf hg Fs top Mv left fr ah L S w)(a:J7 w w'):kl c s hf hg Fs top Mv left fr ah L S w':=h.stays a (fun _ _ h=>h) id
theorem kl.lt(h:kl c s hf hg Fs top Mv left fr ah L S w):∀k,S k->k<w.heap.size:=by
 obtain ⟨Us,Hg,e,mp,M,f,n,a,g,i,j,d⟩:=h;intro k b;rcases (d k).1 b with h|h
 ·exact a.mem.lt k h
 ·exact a.lt k h
theorem kl.Xu(h:kl c s hf hg Fs top Mv left fr ah L S w):ch<w.heap.size:=by
 obtain ⟨Us,Hg,b,mp,M,d,n,a,_⟩:=h;exact a.Xu
theorem kl.cells(b:AA c s hf hg Fs top)(h:kl c s hf hg Fs top Mv left fr ah L S w):CF w c left fr ah/\ay w c.mv (Ao Mv) 4/\Mv.length=s.nb/\fS c.lo c.hi w c.pl s.W s.B s.E s.Qe/\ee w:=by
 obtain ⟨Us,Hg,d,mp,M,e,n,a,_⟩:=h;exact ⟨a.Qd,a.mv,by rw [a.len,b.nb],by have:=a.Xh;rwa [a.B,a.Qe] at this,a.Qo⟩
theorem kl.Ym(h:kl c s hf hg Fs top Mv left fr ah L S w):((∀k,k<fr->iS Mv k=true)/\fr<=s.nb/\(fr<s.nb->iS Mv fr=false))/\(ah=Qc (iS Mv) fr s.nb/\ah<=s.Ah)/\left+Qc (iS Mv) 0 s.nb=s.nb:=by
 obtain ⟨Us,Hg,b,mp,M,d,n,e,a,_⟩:=h;exact ⟨a.front,a.Ah,a.left⟩
theorem kl.open_(h:kl c s hf hg Fs top Mv left fr ah L S w)(f:left≠0):fr<s.nb/\iS Mv fr=false:=by
 obtain ⟨⟨a,b,d⟩,_,e⟩:=h.Ym
 grind [pO]
def Au(c:Cy)(s:dE)(hf hg:Nat->Nat)(Fs top:Nat)(Mv:List Bool)(left fr:Nat)(L:Nat->Nat)(S:Nat->Prop)(w:World)(e:Ending)(w':World):Prop:=
 e= .returned (.tuple #[.bool true,(0:Int)])/\∃fr' ah' S',kl c s hf hg Fs top (Mv.set fr true) (left-1) fr' ah' L S' w'/\fr<fr'/\Fr S w w'/\∀j,S' j->S j\/w.heap.size<=j
theorem vg(i:AA c s hf hg Fs top)(h:kl c s hf hg Fs top Mv left fr ah L S w)(o:left≠0):
  Calls prog 130 #[c.y] w (Au c s hf hg Fs top Mv left fr L S w):=by
 obtain ⟨m,n⟩:=h.open_ o;obtain ⟨b,_⟩:=kl.cells i h;have j:=ae (vi i h m n (.inl rfl));have d:=b.cell 11 rfl;have f:=b.cell 12 rfl;have q:((left:Int)==0)=false:=by rw [beq_eq_false_iff_ne];omega
 have r:¬(left:Int)=0:=by omega
 have l:Hid (∀e w',G7 c s hf hg Fs top Mv left fr fr L S w e w'->e= .returned (0:Int)/\Au c s hf hg Fs top Mv left fr L S w (.returned (.tuple #[.bool true,(0:Int)])) w'):=by
  show∀e w',_
  rintro e w' ⟨rfl,g,a,S',t,z,u,v,x⟩;exact ⟨rfl,rfl,g,a,S',t,u rfl,v,x⟩
 clear i h b m n o;generalize (Au c s hf hg Fs top Mv left fr L S w)=Q at*
 go_enter func130,ntmps130
 go_wp2_with fail
 refine j.out.mono ?_;intro e w1 hp;obtain ⟨rfl,p⟩:=l.out _ _ hp;have H:=ae p;clear hp p j l d f;go_wp2;exact H.out
theorem CX(D:AA c s hf hg Fs top)(h:kl c s hf hg Fs top Mv left fr ah L S w)(a:Nat)(h1:s.Qe<=a)(h2:a<top):
  Calls prog 280 #[c.y,(a:Int)] w fun e w'=>e= .returned (.tuple #[.int .u64 ((L a:Nat):Int),(0:Int)])/\J7 w w':=by
 obtain ⟨Us,Hg,Sm,mp,M,fw,n,d,hp,_,_,_⟩:=h;have C:=D.ok;have aA:=D.Qe;have r:fS c.lo c.hi w c.pl s.W s.B s.E s.Qe:=by have:=d.Xh;rwa [d.B,d.Qe] at this
 have ap:a<s.W:=by have:=D.Yt;have:=C.to2;omega
 have R:=d.Qd.cell 0 rfl;have Z:=d.Qd.cell 8 rfl;rcases aN a (s.Qe+s.N) with x|x
 ·obtain ⟨b,G,v,b3⟩:=yi (E:=s.E) (W:=s.W) (i:=a-s.Qe) (by have:s.N=Qc (aw s.E) 0 s.W:=rfl;omega);have q:s.F b=a:=by show s.Qe+ec s.E b=a;omega
  have J:=ae (sY r d.Qo (by omega) a h1 x);have V:(a-s.Qe)/s.B<s.nb:=by
   have h3:s.nb=oZ s.N s.B:=rfl;have h4:=xU (N:=s.N) (k:=s.B) C.B1;rw [h3,aO (by have:=C.B1;omega)];omega
  have Y:(a-s.Qe)/s.B<Mv.length:=by rw [d.len,D.nb];exact V
  have az:(((a-s.Qe)/s.B:Nat):Int)<(c.nb:Int):=by rw [D.nb];omega
  have l:=d.Qd.cell 10 rfl;have I:=d.mv.cell _ (mR Y)
  cases hm:iS Mv ((a-s.Qe)/s.B) with
  |true=>
   have hL:M a=L a:=by
    have:=hp.Yh b G v (by rw [b3];exact hm);rwa [q] at this
   have A:mp (a/s.P)=true:=by
    have:=hp.Yl C v (by rw [b3];exact hm);rwa [q] at this
   have o:=ae (fun w1 (hf:J7 w w1)=>jB (d.mem.Qb hf) a ap A);rw [hL] at o;have t:=ae (fun w1 (hf:J7 w w1)=>af ((d.Fh hf).Qd.cell 0 rfl) (af ((d.Fh hf).Qd.cell 10 rfl) ((d.Fh hf).mv.cell _ (mR Y))));rw [show Mv.getD ((a-s.Qe)/s.B) false=true from hm] at t;clear d hp D C r q G v b3 hL A hm I l R V;generalize (a-s.Qe)/s.B=kk at*;generalize L a=X at*
   go_enter func280,ntmps280
   go_wp2_with fail
   refine J.out.mono ?_;rintro e w1 ⟨rfl,g⟩;obtain ⟨R,l,I⟩:=t.out w1 g;have u:=ae (o.out w1 g);have K:=ae g;clear g J o t Z;go_wp2_with fail
   refine u.out.mono ?_;rintro e w2 ⟨rfl,m⟩;have H:=ae (K.out.trans m J8);clear m u R l I;go_wp2;go_ret2;exact ⟨rfl,H.out⟩
  |false=>
   have z:iS Mv (ec s.E b/s.B)=false:=by rw [b3];exact hm
   have hL:oY s.E s.hp M s.F b=L a:=by
    have:=hp.still b G v z;rwa [q] at this
   have A:=hp.Xe C v z;have aq:=fK v;have av:=d.mem.at.2.2.1;obtain ⟨ns,f,q1,q2⟩:=d.shp;have O:=ae (fun w1 (hf:J7 w w1)=>(q1.frame hf id).look (cO s.E b) (by omega));rw [q2 _ (by omega)] at O;have ak:=ae (fun w1 (hf:J7 w w1) p (hh:gX c.lo c.hi w1 p s.W s.B s.E s.Qe)=>pK hh (d.Fh hf).Qo (by omega) a b ⟨G,v,q⟩);have am:=ae (fun w1 (hf:J7 w w1)=>jp (r.Qb hf));have aj:=ae (fun w1 (hf:J7 w w1)=>Ae (d.Fh hf) C.apart b G v);have Q:=ae (fun w1 (U:J7 w w1)=>vc (d.Fh U).Qd (d.Fh U).Xh (by have:=d.Qe;omega) (d.Fh U).mem b (cO s.E b) (s.hp (cO s.E b)) (hf (cO s.E b)) (hg (cO s.E b)) aq.1 G A (D.hd _ (by omega)) (hp.Qr b G v z) (hp.small b G v z));rw [show oF M (goes s.E c.Qe) (cO s.E b) (s.hp (cO s.E b)) (b-cO s.E b)=L a from by rw [<-hL,d.Qe];rfl] at Q;have t:=ae (fun w1 (hf:J7 w w1)=>af ((d.Fh hf).Qd.cell 8 rfl) (af ((d.Fh hf).Qd.cell 9 rfl) (af ((d.Fh hf).Qd.cell 15 rfl) (af ((d.Fh hf).Qd.cell 10 rfl) ((d.Fh hf).mv.cell _ (mR Y))))));rw [show Mv.getD ((a-s.Qe)/s.B) false=false from hm] at t;have ax:(b:Int)<=1048576:=by have:=d.mem.at.2.2.1;omega
   clear d hp D C r q G v b3 hL A hm I l R V z aq q1 q2;unfold Cq ft at*;generalize (a-s.Qe)/s.B=kk at*;generalize L a=X at*;generalize cO s.E b=st at*;generalize s.hp st=x1 at*;generalize hf st=x2 at*;generalize hg st=x3 at*
   go_enter func280,ntmps280
   go_wp2_with fail
   refine J.out.mono ?_;rintro e w1 ⟨rfl,g⟩;obtain ⟨Z,c9,T,l,I⟩:=t.out w1 g;have al:=ae (am.out w1 g);have K:=ae g;clear g J am;go_wp2_with fail
   refine al.out.mono ?_;rintro e w' ⟨⟨p,rfl,hp⟩,rfl⟩;have an:=ae (ak.out w1 K.out p hp);clear hp al ak;go_wp2_with fail
   refine an.out.mono ?_;rintro e w2 ⟨rfl,m⟩;have j:=K.out.trans m J8;clear Z c9 T l I;obtain ⟨Z,c9,T,l,I⟩:=t.out w2 j;have ag:=ae j;have ad:=ae (aj.out w2 j);have ar:=O.out w2 j;have ao:=ae (Q.out w2 j);clear m j an t aj O Q Z l I K;go_wp2_with fail
   refine ad.out.mono ?_;rintro e w' ⟨rfl,rfl⟩;clear ad;go_wp2_with fail
   refine ao.out.mono ?_;rintro e w3 ⟨rfl,j⟩;have H:=ae (ag.out.trans j J8);clear j ao ag c9 T ar;go_wp2;go_ret2;exact ⟨rfl,H.out⟩
 ·have J:=ae (rj r (by omega) a x);have hb:=hp.Xi C D.Yt x h2;have o:=ae (fun w1 (hf:J7 w w1)=>jB (d.mem.Qb hf) a ap hb.2);rw [hp.behind a x h2] at o;have t:=ae (fun w1 (hf:J7 w w1)=>(d.Fh hf).Qd.cell 0 rfl);clear d hp D C r hb R;generalize L a=X at*
  go_enter func280,ntmps280
  go_wp2_with fail
  refine J.out.mono ?_;rintro e w1 ⟨rfl,g⟩;have R:=t.out w1 g;have u:=ae (o.out w1 g);have K:=ae g;clear g J o t Z;go_wp2_with fail
  refine u.out.mono ?_;rintro e w2 ⟨rfl,m⟩;have H:=ae (K.out.trans m J8);clear m u R;go_wp2;go_ret2;exact ⟨rfl,H.out⟩
end
section
variable{c:Cy}{s:dE}{hf hg:Nat->Nat}{Fs top:Nat}{S:Nat->Prop}{L:Nat->Nat}{Mv:List Bool}{left fr ah k:Nat}{w w' w0:World}
def zk(c:Cy)(s:dE)(hf hg:Nat->Nat)(Fs top:Nat)(L:Nat->Nat)(S:Nat->Prop)(w0:World)(Mv:List Bool)(left fr ah:Nat)(w:World):Prop:=
 ∃S',kl c s hf hg Fs top Mv left fr ah L S' w/\Fr S w0 w/\∀j,S' j->S j\/w0.heap.size<=j
theorem zk.Fh(h:zk c s hf hg Fs top L S w0 Mv left fr ah w)(a:J7 w w'):zk c s hf hg Fs top L S w0 Mv left fr ah w':=by
 obtain ⟨S',b,d,e⟩:=h;exact ⟨S',b.Fh a,d.trans a J8,e⟩
theorem zk.go{L':Nat->Nat}{b:List Bool}{a e d:Nat}{f S2:Nat->Prop}(g:Fr S w0 w)(h:∀j,f j->S j\/w0.heap.size<=j)(i:kl c s hf hg Fs top b a e d L' S2 w')(l:Fr f w w')(n:∀j,S2 j->f j\/w.heap.size<=j):zk c s hf hg Fs top L' S w0 b a e d w':=
 ⟨S2,i,g.trans l h,fun j m=>by
  have:=g.size
  grind⟩
def qw(c:Cy)(s:dE)(hf hg:Nat->Nat)(Fs top:Nat)(L:Nat->Nat)(S:Nat->Prop)(a:Nat)(w:World)(e:Ending)(w':World):Prop:=
 e= .returned (0:Int)/\∃mvl' left' fr' ah',zk c s hf hg Fs top L S w mvl' left' fr' ah' w'/\(a<s.Qe+s.N->iS mvl' ((a-s.Qe)/s.B)=true)
theorem sT(z:AA c s hf hg Fs top)(h:kl c s hf hg Fs top Mv left fr ah L S w)(a:Nat)(h1:s.Qe<=a)(h2:a<top):
  Calls prog 272 #[c.y,(a:Int)] w (qw c s hf hg Fs top L S a w):=by
 obtain ⟨b1,b2,b3,Z,hT⟩:=kl.cells z h;have ho:=z.ok;have aq:=z.Qe;have c8:=b1.cell 8 rfl;have T:zk c s hf hg Fs top L S w Mv left fr ah w:=⟨S,h,Kb _ _,fun _ h=> .inl h⟩;rcases aN a (s.Qe+s.N) with X|X
 ·have HB:=ae (sY Z hT (by omega) a h1 X);have Y:(a-s.Qe)/s.B<s.nb:=by
   have h3:s.nb=oZ s.N s.B:=rfl;have h4:=xU (N:=s.N) (k:=s.B) ho.B1;rw [h3,aO (by have:=ho.B1;omega)];omega
  have C:Hid (∀b d g o w',zk c s hf hg Fs top L S w b d g o w'->iS b ((a-s.Qe)/s.B)=true->qw c s hf hg Fs top L S a w (.returned (0:Int)) w'):=by
   show∀b d g o w',_
   exact fun b d g o w' F q2=>⟨rfl,b,d,g,o,F,fun _=>q2⟩
  have aH:s.nb<=1048576:=by
   have h9:s.nb=oZ s.N s.B:=rfl;unfold oZ at h9;have:=aX (s.N+s.B-1) s.B;have:=z.N;have:=z.B;omega
  generalize aG:(a-s.Qe)/s.B=kk at*;have aR:(kk:Int)<(c.nb:Int):=by rw [z.nb];omega
  have V:=ae (fun b d g o w1 (U:zk c s hf hg Fs top L S w b d g o w1)=>(show w1.cell? ⟨c.y,7,none⟩=some (.int .i64 (s.Ah:Int))/\w1.cell? ⟨c.y,10,none⟩=some (.slice (some c.mv) c.nb c.nb)/\w1.cell? ⟨c.y,12,none⟩=some (.int .i64 (g:Int))/\w1.cell? ⟨c.y,13,none⟩=some (.int .i64 (o:Int))/\w1.cell? ⟨c.mv,kk,none⟩=some (.bool (iS b kk))/\g<=1048576/\o<=16 from by
   obtain ⟨S',F,_⟩:=U;obtain ⟨d1,d2,d3,_⟩:=kl.cells z F;obtain ⟨⟨_,f2,_⟩,⟨_,f4⟩,_⟩:=F.Ym;have:=z.a16;exact ⟨by rw [<-z.ah];exact d1.cell 7 rfl,d1.cell 10 rfl,d1.cell 12 rfl,d1.cell 13 rfl,d2.cell kk (mR (by rw [d3];exact Y)),by omega,by omega⟩))
  have x:=ae (fun b d g o w1 (U:zk c s hf hg Fs top L S w b d g o w1) (aS:g<kk)=>(show Calls prog 130 #[c.y] w1 fun e w'=>e= .returned (.tuple #[.bool true,(0:Int)])/\∃ar ak D K,zk c s hf hg Fs top L S w ar ak D K w'/\g<D from by
   obtain ⟨S',F,q2,q3⟩:=U;obtain ⟨⟨f1,f2,f3⟩,_,f4⟩:=F.Ym;have hl:d≠0:=fun e=>by
    have W:=pP (f:=fun i=> !iS b i) (ao g) (show g<s.nb by omega) (by rw [f3 (by omega)];rfl);have h6:∀m,Qc (iS b) 0 m+Qc (fun i=> !iS b i) 0 m=m:=fun m=>by
     induction m with
     |zero=>rw [eu,eu]
     |succ m ih=>
      rw [bJ _ (ao m),bJ _ (ao m)]
      cases iS b m<;>simp<;>omega
    have:=h6 s.nb;omega
   refine (vg z F hl).mono ?_;rintro e w' ⟨rfl,D,K,S2,r1,r2,r3,r4⟩;exact ⟨rfl,_,_,D,K,zk.go q2 q3 r1 r3 r4,r2⟩))
  have v:=ae (fun b d g o w1 (U:zk c s hf hg Fs top L S w b d g o w1) (r:iS b kk=false) (az:¬g<kk\/o<s.Ah)=>(show Calls prog 176 #[c.y,(kk:Int)] w1 fun e w'=>e= .returned (0:Int)/\qw c s hf hg Fs top L S a w (.returned (0:Int)) w' from by
   obtain ⟨S',F,q2,q3⟩:=U;obtain ⟨⟨f1,f2,f3⟩,_,f4⟩:=F.Ym;have aC:kk=g\/o<s.Ah:=by
    rcases az with h|h
    ·left;rcases aN kk g with W|W
     ·rw [f1 kk W] at r;cases r
     ·omega
    ·exact .inr h
   obtain ⟨_,_,d3,_⟩:=kl.cells z F;refine (vi z F Y r aC).mono ?_;rintro e w' ⟨rfl,D,K,S2,r1,r2,r3,r4,r5⟩;refine ⟨rfl,C.out _ _ D K _ (zk.go q2 q3 r1 r4 r5) ?_⟩;rw [zL (by rw [d3];exact Y)];unfold gS;rw [decide_eq_true rfl,iA]))
  have av:=ae T;have j:=ae (fun w1 (hf:J7 w w1)=>T.Fh hf);have aT:(s.Ah:Int)<=16:=by have:=z.a16;omega
  have aP:(kk:Int)<=1048576:=by omega
  clear h b1 b2 b3 Z hT ho aq T Y aG z;generalize (qw c s hf hg Fs top L S a w)=Q at*
  go_enter func272,ntmps272
  go_wp2_with fail
  refine HB.out.mono ?_;rintro e w1 ⟨rfl,E⟩;have I:=ae (j.out w1 E);obtain ⟨c7,ag,O,Xc,d0,aB,ax⟩:=V.out _ _ _ _ w1 I.out;clear E HB j av c8
  cases r:iS Mv kk with
  |true=>
   rw [r] at d0;have HE:=ae (C.out _ _ _ _ w1 I.out r);clear C V x v I r c7 O Xc;go_wp2;exact HE.out
  |false=>
   rw [r] at d0;clear r c7 O Xc;go_wp2;clear ag d0 aB ax
   go_loopw [] (fun wr=>∃(m:List Bool) (l f h:Nat),Hid (zk c s hf hg Fs top L S w m l f h wr)) (fun wr=>kk-sF wr c.y)
   case atStart=>exact ⟨Mv,left,fr,ah,I⟩
   case round=>
    clear I;obtain ⟨m,l,f,h,hr⟩:=hrel;obtain ⟨c7,ag,O,Xc,d0,E,aI⟩:=V.out _ _ _ _ wr.drew (hr.out.Fh ((Kb _ wr).drew));have q:=ae (hr.out.Fh (w':=wr.drew) ((Kb _ wr).drew));have aA:sF wr c.y=f:=by
     unfold sF;rw [show wr.cell? ⟨c.y,12,none⟩=some (f:Int) from O];rfl
    obtain ⟨G,am⟩:∃G,G=decide (f<kk):=⟨_,rfl⟩;have t:=ae am;clear am;obtain ⟨BB,an⟩:∃BB,BB=decide (s.Ah<=h):=⟨_,rfl⟩;have A:=ae an;clear an;by_cases u:f<kk
    ·by_cases ad:s.Ah<=h
     ·have al:=ae (x.out _ _ _ _ wr.drew q.out u);clear C v q hr d0;go_wp2;refine aV (fun w'=>w'=wr.drew) (by kernel_rfl) rfl ?_;refine aL [c.y,c.y,.pointer (some ⟨c.y,12,none⟩)] ?_
      iterate 3 (refine aM rfl (fun w9 h9=>by go_simp) ?_;simp only [aa])
      refine aK ?_;refine ai (f:Int) rfl (fun w' p=>by subst p;go_simp) ?_;simp only [aa];refine ai (kk:Int) rfl (fun w' p=>by go_simp) ?_;simp only [aa];refine ai (.bool G) rfl (fun w' p=>by rw [t.out];go_simp) ?_;simp only [aa];refine ai (.bool G) rfl (fun w' p=>by go_simp) ?_;simp only [aa];have j:=t.out.trans (decide_eq_true u);clear t
      cases G
      case false=>cases j
      clear j;refine aL [c.y,c.y,.pointer (some ⟨c.y,13,none⟩)] ?_
      iterate 3 (refine aM rfl (fun w9 h9=>by go_simp) ?_;simp only [aa])
      refine aK ?_;refine aQ (h:Int) rfl (fun w' p=>by subst p;go_simp) ?_;simp only [aa];refine aL [c.y,c.y,.pointer (some ⟨c.y,1,none⟩),.pointer (some ⟨c.y,7,none⟩)] ?_
      iterate 4 (refine aM rfl (fun w9 h9=>by go_simp) ?_;simp only [aa])
      refine aK ?_;refine aQ (.int .i64 (s.Ah:Int)) rfl (fun w' p=>by subst p;go_simp) ?_;simp only [aa];refine aQ (.bool BB) rfl (fun w' p=>by rw [A.out];go_simp) ?_;simp only [aa];refine ai (.bool BB) rfl (fun w' p=>by go_simp) ?_;simp only [aa];have j:=A.out.trans (decide_eq_true ad);clear A
      cases BB
      case false=>cases j
      clear j;refine wpQuiet_nil ?_;rintro w2 rfl;clear V x c7 ag O Xc;go_wp2_with fail
      refine al.out.mono ?_;rintro e w5 ⟨rfl,m2,l2,f2,h2,g5,g6⟩;have ap:sF w5 c.y=f2:=by
       obtain ⟨S5,g7,_⟩:=g5;obtain ⟨Us,Hg,Sm,mp,M,fw,n,F,_⟩:=g7;unfold sF;rw [F.Qd.cell 12 rfl];rfl
      have G5:=ae g5;clear g5 al;go_wp2;go_roundw
      case rel=>exact ⟨m2,l2,f2,h2,G5⟩
      case measure=>
       rw [ap,aA];omega
     ·clear d0;go_wp2;refine aV (fun w'=>w'=wr.drew) (by kernel_rfl) rfl ?_;refine aL [c.y,c.y,.pointer (some ⟨c.y,12,none⟩)] ?_
      iterate 3 (refine aM rfl (fun w9 h9=>by go_simp) ?_;simp only [aa])
      refine aK ?_;refine ai (f:Int) rfl (fun w' p=>by subst p;go_simp) ?_;simp only [aa];refine ai (kk:Int) rfl (fun w' p=>by go_simp) ?_;simp only [aa];refine ai (.bool G) rfl (fun w' p=>by rw [t.out];go_simp) ?_;simp only [aa];refine ai (.bool G) rfl (fun w' p=>by go_simp) ?_;simp only [aa];have j:=t.out.trans (decide_eq_true u);clear t
      cases G
      case false=>cases j
      clear j;refine aL [c.y,c.y,.pointer (some ⟨c.y,13,none⟩)] ?_
      iterate 3 (refine aM rfl (fun w9 h9=>by go_simp) ?_;simp only [aa])
      refine aK ?_;refine aQ (h:Int) rfl (fun w' p=>by subst p;go_simp) ?_;simp only [aa];refine aL [c.y,c.y,.pointer (some ⟨c.y,1,none⟩),.pointer (some ⟨c.y,7,none⟩)] ?_
      iterate 4 (refine aM rfl (fun w9 h9=>by go_simp) ?_;simp only [aa])
      refine aK ?_;refine aQ (.int .i64 (s.Ah:Int)) rfl (fun w' p=>by subst p;go_simp) ?_;simp only [aa];refine aQ (.bool BB) rfl (fun w' p=>by rw [A.out];go_simp) ?_;simp only [aa];refine ai (.bool BB) rfl (fun w' p=>by go_simp) ?_;simp only [aa];have j:=A.out.trans (decide_eq_false ad);clear A
      cases BB
      case true=>cases j
      clear j;refine wpQuiet_nil ?_;rintro w2 rfl;obtain ⟨e7,aj,P,R,e0,_,_⟩:=V.out _ _ _ _ wr.drew q.out
      cases r:iS m kk with
      |true=>
       rw [r] at e0;have HE:=ae (C.out _ _ _ _ wr.drew q.out r);clear C V x v hr q r e7 P R u;go_wp2;exact HE.out
      |false=>
       rw [r] at e0;have J:=ae (v.out _ _ _ _ wr.drew q.out r (.inr (by omega)));clear C V x v hr q r e7 P R u;go_wp2_with fail
       refine J.out.mono ?_;rintro e w5 ⟨rfl,W⟩;have H5:=ae W;clear W J e0 aj;go_wp2;exact H5.out
    ·clear d0;go_wp2;refine aV (fun w'=>w'=wr.drew) (by kernel_rfl) rfl ?_;refine aL [c.y,c.y,.pointer (some ⟨c.y,12,none⟩)] ?_
     iterate 3 (refine aM rfl (fun w9 h9=>by go_simp) ?_;simp only [aa])
     refine aK ?_;refine ai (f:Int) rfl (fun w' p=>by subst p;go_simp) ?_;simp only [aa];refine ai (kk:Int) rfl (fun w' p=>by go_simp) ?_;simp only [aa];refine ai (.bool G) rfl (fun w' p=>by rw [t.out];go_simp) ?_;simp only [aa];refine ai (.bool G) rfl (fun w' p=>by go_simp) ?_;simp only [aa];have j:=t.out.trans (decide_eq_false u);clear t
     cases G
     case true=>cases j
     clear j
     go_big_quiet_skip
     go_big_quiet_skip
     go_big_quiet_skip
     go_big_quiet_skip
     go_big_quiet_skip
     go_big_quiet_skip
     go_big_quiet_skip
     go_big_quiet_skip
     go_big_quiet_skip
     go_big_quiet_skip
     refine ai (.bool false) rfl (fun w' p=>by go_simp) ?_;simp only [aa];refine wpQuiet_nil ?_;rintro w2 rfl;obtain ⟨e7,aj,P,R,e0,_,_⟩:=V.out _ _ _ _ wr.drew q.out
     cases r:iS m kk with
     |true=>
      rw [r] at e0;have HE:=ae (C.out _ _ _ _ wr.drew q.out r);clear C V x v hr q r e7 P R u;go_wp2;exact HE.out
     |false=>
      rw [r] at e0;have J:=ae (v.out _ _ _ _ wr.drew q.out r (.inl u));clear C V x v hr q r e7 P R u;go_wp2_with fail
      refine J.out.mono ?_;rintro e w5 ⟨rfl,W⟩;have H5:=ae W;clear W J e0 aj;go_wp2;exact H5.out
 ·have HB:=ae (rj Z (by omega) a X);have C:Hid (∀w',J7 w w'->qw c s hf hg Fs top L S a w (.returned (0:Int)) w'):=by
   show∀w',_
   exact fun w' hf=>⟨rfl,Mv,left,fr,ah,T.Fh hf,fun h=>absurd h (by omega)⟩
  clear z h b1 b2 b3 Z hT ho aq T h1 h2 X;generalize (qw c s hf hg Fs top L S a w)=Q at*
  go_enter func272,ntmps272
  go_wp2_with fail
  refine HB.out.mono ?_;rintro e w1 ⟨rfl,E⟩;have H:=ae (C.out w1 E);clear E HB C c8;go_wp2;exact H.out
end
theorem mW.store{s:dE}{L M:Nat->Nat}{mp:Nat->Bool}{g:Nat->Bool}{fr l left top:Nat}(m:fD s)(h:mW s L M mp g fr l left top)(n:top<=s.Qe+s.R*s.P){a x:Nat}(r:s.Qe<=a)(t:a<top)(v:a<s.Qe+s.N->g ((a-s.Qe)/s.B)=true):
  mW s (eb L a x) (eb M a x) mp g fr l left top:=by
 have i:∀b,aw s.E b=true->b≠a:=fun b c e=>by
  have o:=(m.from_ b c).2;omega
 have j:∀b,aw s.E b=true->g (ec s.E b/s.B)=false->s.F b≠a:=fun b c f e=>by
  have o:=m.Fa c;have u:s.F b=s.Qe+ec s.E b:=rfl
  grind
 refine ⟨fun b d c f=> ?_,fun b d c f=> ?_,fun b d c f=> ?_,fun b d c f=> ?_,fun k p q=> ?_,h.Qx,h.front,h.far,h.Ah,h.left,h.Rm⟩
 ·unfold eb;split
  ·rfl
  ·exact h.Yh b d c f
 ·have e:eb M a x b=M b:=if_neg (i b c);rw [jw c e,h.still b d c f];exact (if_neg (j b c f)).symm
 ·have e:eb M a x b=M b:=if_neg (i b c);rw [e];exact h.Qr b d c f
 ·have e:eb M a x b=M b:=if_neg (i b c);rw [e];exact h.small b d c f
 ·unfold eb;split
  ·rfl
  ·exact h.behind k p q
section
variable{c:Cy}{s:dE}{hf hg:Nat->Nat}{Fs top:Nat}{S:Nat->Prop}{L:Nat->Nat}{Mv:List Bool}{left fr ah k:Nat}{w w' w0:World}
def sL(c:Cy)(s:dE)(hf hg:Nat->Nat)(Fs top:Nat):jW:=fun L S w=>∃Mv left fr ah,kl c s hf hg Fs top Mv left fr ah L S w
def Af(s:dE)(top a:Nat):Prop:=s.Qe<=a/\a<top
theorem kl.word(o:AA c s hf hg Fs top)(h:kl c s hf hg Fs top Mv left fr ah L S w){a:Nat}(z:s.Qe<=a)(p:a<top)(D:a<s.Qe+s.N->iS Mv ((a-s.Qe)/s.B)=true):
  (Calls prog 187 #[c.m,(a:Int)] w fun e w'=>e= .returned (.tuple #[.int .u64 ((L a:Nat):Int),(0:Int)])/\J7 w w')/\
  ∀x:Nat,x<18446744073709551616->Calls prog 188 #[c.m,(a:Int),.int .u64 x] w fun e w'=>e= .returned (0:Int)/\kl c s hf hg Fs top Mv left fr ah (eb L a x) S w'/\Fr S w w':=by
 obtain ⟨Us,Hg,u,mp,M,y,n,r,hp,H,I,t⟩:=h;have l:=o.ok;have f:a<s.W:=by have:=o.Yt;have:=l.to2;omega
 have j:mp (a/s.P)=true/\M a=L a:=by
  rcases aN a (s.Qe+s.N) with d|d
  ·obtain ⟨b,v,q,O⟩:=yi (E:=s.E) (W:=s.W) (i:=a-s.Qe) (by have:s.N=Qc (aw s.E) 0 s.W:=rfl;omega);have A:s.F b=a:=by show s.Qe+ec s.E b=a;omega
   have g:iS Mv (ec s.E b/s.B)=true:=by grind
   have Q:=hp.Yl l q g;have R:=hp.Yh b v q g
   grind
  ·exact ⟨(hp.Xi l o.Yt d p).2,hp.behind a d p⟩
 refine ⟨?_,fun x G=> ?_⟩
 ·have:=jB r.mem a f j.1
  grind
 ·refine (wD r a x f j.1 G).mono ?_;rintro e w' ⟨rfl,J,K⟩;exact ⟨rfl,⟨Us,Hg,u,mp,_,y,n,J,hp.store l o.Yt z p D,H,I,t⟩,K.mono (fun k C=> .inl ((t k).2 (.inl C)))⟩
theorem CZ(i:AA c s hf hg Fs top)(h:sL c s hf hg Fs top L S w)(a:Nat)(b:Af s top a):
  Calls prog 270 #[c.y,(a:Int)] w fun e w'=>e= .returned (.tuple #[.int .u64 ((L a:Nat):Int),(0:Int)])/\je (sL c s hf hg Fs top) L S w w':=by
 obtain ⟨Mv,left,fr,ah,h⟩:=h;have p:=ae (sT i h a b.1 b.2);have o:Hid (∀e w1,qw c s hf hg Fs top L S a w e w1->e= .returned (0:Int)/\w1.cell? c.y=some c.m/\(Calls prog 187 #[c.m,(a:Int)] w1 fun e w'=>e= .returned (.tuple #[.int .u64 ((L a:Nat):Int),(0:Int)])/\je (sL c s hf hg Fs top) L S w w')):=by
  show∀e w1,_
  rintro e w1 ⟨rfl,m,l,f,g,⟨S',j,u,v⟩,x⟩;refine ⟨rfl,(kl.cells i j).1.cell 0 rfl,((kl.word i j b.1 b.2 x).1).mono ?_⟩;rintro e w2 ⟨rfl,d⟩;exact ⟨rfl,S',⟨m,l,f,g,j.Fh d⟩,u.trans d J8,v⟩
 clear i h b;generalize (je (sL c s hf hg Fs top) L S w)=Q at*;generalize L a=X at*
 go_enter func270,ntmps270
 go_wp2_with fail
 refine p.out.mono ?_;intro e w1 hp;obtain ⟨rfl,t,q⟩:=o.out _ _ hp;have n:=ae q;clear hp p o q;go_wp2_with fail
 refine n.out.mono ?_;rintro e w2 ⟨rfl,r⟩;have H:=ae r;clear r n t;go_wp2;go_ret2;exact ⟨rfl,H.out⟩
theorem AV(d:AA c s hf hg Fs top)(h:sL c s hf hg Fs top L S w)(a x:Nat)(b:Af s top a)(q:x<18446744073709551616):
  Calls prog 271 #[c.y,(a:Int),.int .u64 x] w fun e w'=>e= .returned (0:Int)/\je (sL c s hf hg Fs top) (eb L a x) S w w':=by
 obtain ⟨Mv,left,fr,ah,h⟩:=h;have n:=ae (sT d h a b.1 b.2);have j:Hid (∀e w1,qw c s hf hg Fs top L S a w e w1->e= .returned (0:Int)/\w1.cell? c.y=some c.m/\(Calls prog 188 #[c.m,(a:Int),.int .u64 x] w1 fun e w'=>e= .returned (0:Int)/\je (sL c s hf hg Fs top) (eb L a x) S w w')):=by
  show∀e w1,_
  rintro e w1 ⟨rfl,m,l,f,g,⟨S',r,v,t⟩,z⟩;refine ⟨rfl,(kl.cells d r).1.cell 0 rfl,((kl.word d r b.1 b.2 z).2 x q).mono ?_⟩;rintro e w2 ⟨rfl,A,B⟩;exact ⟨rfl,S',⟨m,l,f,g,A⟩,v.trans B t,t⟩
 clear d h b q;generalize (je (sL c s hf hg Fs top) (eb L a x) S w)=Q at*
 go_enter func271,ntmps271
 go_wp2_with fail
 refine n.out.mono ?_;intro e w1 hp;obtain ⟨rfl,u,o⟩:=j.out _ _ hp;have i:=ae o;clear hp n j o;go_wp2_with fail
 refine i.out.mono ?_;rintro e w2 ⟨rfl,p⟩;have H:=ae p;clear p i u;go_wp2;go_ret;exact ⟨rfl,H.out⟩
theorem GH(b:AA c s hf hg Fs top):cY 55 (.pointer (some ⟨c.y,0,none⟩)) 270 (.pointer (some ⟨c.y,0,none⟩)) (sL c s hf hg Fs top) (Af s top) where
 Yf:=fun w=>by kernel_rfl
 Yg:=enters_of func270 (by kernel_rfl) rfl
 stays:=fun L S w1 w2 T ⟨m,l,f,g,q⟩ hf e b=>⟨m,l,f,g,q.stays hf e b⟩
 Xu:= .inr (fun L S w ⟨_,_,_,_,q⟩=>q.Xu)
 lt:=fun L S w ⟨_,_,_,_,q⟩=>q.lt
 load:=fun L S w a h d=>CZ b h a d
theorem IN(d:AA c s hf hg Fs top):qy 55 (.pointer (some ⟨c.y,0,none⟩)) 271 (.pointer (some ⟨c.y,0,none⟩)) (sL c s hf hg Fs top) (Af s top) where
 Xv:=fun w=>by kernel_rfl
 Xw:=enters_of func271 (by kernel_rfl) rfl
 store:=fun L S w a x h b e=>AV d h a x b e
end
theorem AE{w:World}(g k r:Nat)(A:k<=64)(h:∀j,j<k->∃a b c:Int,w.cell? ⟨g,j*3,none⟩=some (a:Int)/\w.cell? ⟨g,j*3+1,none⟩=some (b:Int)/\w.cell? ⟨g,j*3+2,none⟩=some (c:Int)/\a<=b/\b<=c):
  Calls prog 158 #[.slice (some g) k r] w fun e w'=>e= .returned (.bool true)/\J7 w w':=by
 have H:=ae (fun (j:Nat) (w1:World) (hf:J7 w w1) (p:j<k)=>(show∃a b c:Int,w1.cell? ⟨g,j*3,none⟩=some (a:Int)/\w1.cell? ⟨g,j*3+1,none⟩=some (b:Int)/\w1.cell? ⟨g,j*3+2,none⟩=some (c:Int)/\a<=b/\b<=c from by
  obtain ⟨a,b,c,f,i,o,s⟩:=h j p;exact ⟨a,b,c,(World.cell?_of_block (w:=w) (hf.block _ (bu f) id)).trans f,(World.cell?_of_block (w:=w) (hf.block _ (bu i) id)).trans i,(World.cell?_of_block (w:=w) (hf.block _ (bu o) id)).trans o,s⟩))
 have n:=ae (Kb (fun _=>False) w);clear h
 go_enter func158,ntmps158
 go_wp2
 go_loopw [7] (fun x wr=>∃j:Nat,x= .int .i64 j/\j<=k/\Hid (J7 w wr)) (fun x _=>(k-intOf x).toNat)
 case atStart=>exact ⟨0,rfl,ao _,n⟩
 case round=>
  clear n;obtain ⟨j,rfl,p,l⟩:=hrel;by_cases d:j<k
  ·obtain ⟨a,b,c,v,y,z,f,i⟩:=H.out j wr l.out d;have q:=ae (l.out.alloc (.cells #[(a:Int),(b:Int),(c:Int)] 101));have c1:(j:Int)<(k:Int):=by omega
   have t:¬b<a:=by omega
   have u:¬c<b:=by omega
   clear l H f i;go_wp2;go_roundw
   case rel=>exact ⟨j+1,by go_num,by omega,q⟩
   case measure=>simp [intOf];omega
  ·have m:j=k:=by omega
   subst m;have c1:¬(j:Int)<(j:Int):=by omega
   clear H d;go_wp2;go_ret;exact ⟨rfl,l.out⟩
def ic(F Tp T Li B st ah:Nat):Value:= .agg #[(F:Int),(Tp:Int),(T:Int),(Li:Int),(B:Int),(st:Int),(ah:Int)]
structure nU(Pg W F Tp T Li B st ah:Nat):Prop where
 B0:bV (B:Int)=true
 B1:1<=B
 B2:B<=1024
 s1:1<=st
 s2:st<=4096
 a1:ah<=16
 F1:Pg<=F
 F2:F<=Tp
 F3:Tp<=W
 T1:Pg<=T
 T2:T<Li
 T3:Li<=W
 F4:F% Pg=0
 T4:T% Pg=0
 L4:Li% Pg=0
 P:bV (Pg:Int)=true
 ap:Li<=F\/(Tp+Pg-1)/Pg*Pg<=T
section
variable{w:World}{m Pg W Fs Us Hg:Nat}{S:Nat->Prop}{mp:Nat->Bool}{M:Nat->Nat}
theorem sV(L:dQ w m S Pg W Fs Us Hg mp M){F Tp T c B K H:Nat}(d:nU Pg W F Tp T c B K H):
  Calls prog 107 #[m,ic F Tp T c B K H] w fun e w'=>e= .returned (0:Int)/\J7 w w':=by
 obtain ⟨p1,p2,hW,ag,_,_,_,_,ad⟩:=L.at;have A:=ae (fun w1 (hf:J7 w w1)=>jy (L.Qb hf));have E:=ae (fun w1 (hf:J7 w w1)=>gR (L.Qb hf));have C:=ae (fun w1=>jU (B:Int) (by have:=d.B2;omega) true d.B0 w1);have r:=ae (fun w1=>CN Tp Pg d.P p1 (by omega) (by have:=d.F3;omega) w1);obtain ⟨u,I⟩:∃u,u=(Tp+Pg-1)/Pg*Pg:=⟨_,rfl⟩;have o:=d.ap;rw [<-I] at r o;have q1:((F:Int).tmod (Pg:Int))=0:=by rw [show ((F:Int).tmod (Pg:Int))=((F% Pg:Nat):Int) from rfl,d.F4];rfl
 have q2:((T:Int).tmod (Pg:Int))=0:=by rw [show ((T:Int).tmod (Pg:Int))=((T% Pg:Nat):Int) from rfl,d.T4];rfl
 have q3:((c:Int).tmod (Pg:Int))=0:=by rw [show ((c:Int).tmod (Pg:Int))=((c% Pg:Nat):Int) from rfl,d.L4];rfl
 have ak:((Pg:Int)==0)=false:=by rw [beq_eq_false_iff_ne];omega
 have aj:¬Pg=0:=by omega
 have G:=ae (fun (w1:World) (g:Nat) (a:ay w1 g [(1:Int),(B:Int),(1024:Int),(1:Int),(K:Int),(4096:Int),(0:Int),(H:Int),(16:Int),(Pg:Int),(F:Int),(W:Int),(F:Int),(Tp:Int),(W:Int),(Pg:Int),(T:Int),(W:Int),(T:Int),(c:Int),(W:Int)] 101)=>AE (w:=w1) g 7 7 (by omega) (fun j hj=>by
  have hh:=d;obtain ⟨B0,B1,B2,s1,s2,a1,F1,F2,F3,T1,T2,T3,_,_,_,_,_⟩:=hh
  match j,hj with
  |0,_=>exact ⟨_,_,_,a.cell 0 rfl,a.cell 1 rfl,a.cell 2 rfl,by omega,by omega⟩
  |1,_=>exact ⟨_,_,_,a.cell 3 rfl,a.cell 4 rfl,a.cell 5 rfl,by omega,by omega⟩
  |2,_=>exact ⟨_,_,_,a.cell 6 rfl,a.cell 7 rfl,a.cell 8 rfl,by omega,by omega⟩
  |3,_=>exact ⟨_,_,_,a.cell 9 rfl,a.cell 10 rfl,a.cell 11 rfl,by omega,by omega⟩
  |4,_=>exact ⟨_,_,_,a.cell 12 rfl,a.cell 13 rfl,a.cell 14 rfl,by omega,by omega⟩
  |5,_=>exact ⟨_,_,_,a.cell 15 rfl,a.cell 16 rfl,a.cell 17 rfl,by omega,by omega⟩
  |6,_=>exact ⟨_,_,_,a.cell 18 rfl,a.cell 19 rfl,a.cell 20 rfl,by omega,by omega⟩))
 obtain ⟨W1,f⟩:∃W1,w.alloc (.cells #[(F:Int),(Tp:Int),(T:Int),(c:Int),(B:Int),(K:Int),(H:Int)] 113)=W1:=⟨_,rfl⟩;have t:J7 w W1:=by rw [<-f];exact (Kb _ w).alloc _
 have b:ay W1 w.heap.size [(F:Int),(Tp:Int),(T:Int),(c:Int),(B:Int),(K:Int),(H:Int)] 113:=by rw [<-f];exact ay.new w _ _
 have s:=d.T2;have hN:F<=524288/\T<=524288/\c<=524288/\Tp<=524288:=by have:=d.F2;have:=d.F3;have:=d.T3;omega
 have p:=ae t;have v:=ae b;have z:=ae (A.out W1 t);obtain ⟨R,U,V,X,k4,k5,k6,_⟩:=Kg b;clear L d t b I;unfold ic
 go_enter func107,ntmps107
 go_wp2_with fail
 refine z.out.mono ?_;rintro e w' ⟨rfl,rfl⟩;have D:=ae (E.out W1 p.out);go_wp2_with fail
 refine D.out.mono ?_;rintro e w' ⟨rfl,rfl⟩;clear D z A E f;go_wp2_with fail
 refine (C.out W1).mono ?_;rintro e w' ⟨rfl,rfl⟩;clear C;go_wp2_with fail
 refine (G.out _ _ (ay.new W1 _ _)).mono ?_;rintro e w2 ⟨rfl,J⟩;have l:J7 W1 w2:=((Kb (fun _=>False) W1).alloc _).trans J J8;have i:=v.out.frame l id;have y:=ae (p.out.trans l J8);have x:=ae i;have j0:=i.drew.cell 0 rfl;have j2:=i.drew.cell 2 rfl;have j3:=i.drew.cell 3 rfl;clear l J i v p G R U V X k4 k5 k6;go_wp2;refine aV (fun w'=>w'=w2.drew) (by kernel_rfl) rfl ?_;refine ai w.heap.size rfl (fun w' n=>by go_simp) ?_;simp only [aa];refine ai (F:Int) rfl (fun w' n=>by subst n;go_simp) ?_;simp only [aa];refine aL [(Pg:Int),(0:Int),.pointer (some ⟨w.heap.size,2,none⟩)] ?_
 iterate 3 (refine aM rfl (fun Y Q=>by go_simp) ?_;simp only [aa])
 refine aK ?_;refine ai (T:Int) rfl (fun w' n=>by subst n;go_simp) ?_;simp only [aa];refine aL [(Pg:Int),(0:Int)] ?_
 iterate 2 (refine aM rfl (fun Y Q=>by go_simp) ?_;simp only [aa])
 refine aK ?_;refine ai (0:Int) rfl (fun w' n=>by go_simp;rfl) ?_;simp only [aa];refine ai (.pointer (some ⟨w.heap.size,3,none⟩)) rfl (fun w' n=>by go_simp) ?_;simp only [aa];refine ai (c:Int) rfl (fun w' n=>by subst n;go_simp) ?_;simp only [aa];refine aL [(Pg:Int),(0:Int)] ?_
 iterate 2 (refine aM rfl (fun Y Q=>by go_simp) ?_;simp only [aa])
 refine aK ?_;refine ai (0:Int) rfl (fun w' n=>by go_simp;rfl) ?_;simp only [aa];refine ai (.bool false) rfl (fun w' n=>by go_simp) ?_;simp only [aa];refine wpQuiet_nil ?_;rintro w3 rfl;have k:=x.out.drew;obtain ⟨R,U,V,X,_⟩:=Kd k;have q:=ae (y.out.drew);clear k x y j0 j2 j3;go_wp2_with fail
 refine (r.out _).mono ?_;rintro e w' ⟨rfl,rfl⟩;clear r;have c1:(T:Int)<(c:Int):=by omega
 by_cases N:F<u
 ·have Z:(F:Int)<(u:Int):=by omega
  by_cases O:F<c
  ·have d2:(F:Int)<(c:Int):=by omega
   have d3:¬(T:Int)<(u:Int):=by omega
   clear o N O s;go_wp2;go_ret;exact ⟨rfl,q.out⟩
  ·have d2:¬(F:Int)<(c:Int):=by omega
   clear o N O s;go_wp2;go_ret;exact ⟨rfl,q.out⟩
 ·have Z:¬(F:Int)<(u:Int):=by omega
  clear o N s;go_wp2;go_ret;exact ⟨rfl,q.out⟩
end
def eW(w:World)(b m Ba top Lm:Nat):Prop:=ay w b [m,(Ba:Int),(top:Int),(Lm:Int)] 150
section
variable{w:World}{b m Ba top Lm:Nat}
theorem kz(h:eW w b m Ba top Lm):Calls prog 97 #[b] w fun e w'=>e= .returned (.bool false)/\w=w':=by
 have a:=h.cell 0 rfl;clear h
 go_enter func97,ntmps97
 go_wp2;go_ret;exact ⟨rfl,rfl⟩
theorem mS(h:eW w b m Ba top Lm):Calls prog 60 #[b] w fun e w'=>e= .returned (Ba:Int)/\w=w':=by
 have a:=ae (kz h);have c:=h.cell 1 rfl;clear h
 go_enter func60,ntmps60
 go_wp2_with fail
 refine a.out.mono ?_;rintro e w1 ⟨rfl,rfl⟩;clear a;go_wp2;go_ret;exact ⟨rfl,rfl⟩
theorem sa(h:eW w b m Ba top Lm):Calls prog 59 #[b] w fun e w'=>e= .returned (top:Int)/\w=w':=by
 have a:=ae (kz h);have c:=h.cell 2 rfl;clear h
 go_enter func59,ntmps59
 go_wp2_with fail
 refine a.out.mono ?_;rintro e w1 ⟨rfl,rfl⟩;clear a;go_wp2;go_ret;exact ⟨rfl,rfl⟩
theorem wN(h:eW w b m Ba top Lm)(x:Nat)(g:Ba<=x)(i:x<=Lm):Calls prog 101 #[b,(x:Int)] w fun e w'=>e= .returned (0:Int)/\eW w' b m Ba x Lm/\Fr (fun k=>k=b) w w':=by
 have a:=ae (kz h);obtain ⟨_,c1,c2,_⟩:=Kf h;have o:=h.free 2;have j:=h.cell 3 rfl;have c:Hid (∀w',w'=w.setCell ⟨b,2,none⟩ (.int .i64 x)->eW w' b m Ba x Lm/\Fr (fun k=>k=b) w w'):=by
  show∀w',_
  rintro w' rfl;exact ⟨h.set 2 _,(Kb (fun k=>k=b) w).setCell ⟨b,2,none⟩ (.inl rfl) _⟩
 have l:decide ((x:Int)<(Ba:Int))=false:=by rw [decide_eq_false_iff_not];omega
 have n:decide ((Lm:Int)<(x:Int))=false:=by rw [decide_eq_false_iff_not];omega
 have d:¬(x:Int)<(Ba:Int):=by omega
 have f:¬(Lm:Int)<(x:Int):=by omega
 clear h g i
 go_enter func101,ntmps101
 go_wp2_with fail
 refine a.out.mono ?_;rintro e w1 ⟨rfl,rfl⟩;clear a;go_wp2;go_ret;exact ⟨rfl,c.out _ rfl⟩
theorem uH{S:Nat->Prop}{Pg W Rm Us Hg:Nat}{mp:Nat->Bool}{M:Nat->Nat}(h:dQ w m S Pg W Rm Us Hg mp M)(Ba Lm:Nat)(i:Ba<=Lm)(j:Lm<=W):Calls prog 49 #[m,(Ba:Int),(Lm:Int)] w fun e w'=>∃b,e= .returned (.tuple #[.pointer (some ⟨b,0,none⟩),(0:Int)])/\eW w' b m Ba Ba Lm/\w.heap.size<=b/\J7 w w':=by
 have a:=ae (gR h);obtain ⟨_,_,_,_,_,_,_,_,c⟩:=h.at;have k:((W:Int)==0)=false:=by rw [beq_eq_false_iff_ne];omega
 have l:¬(Ba:Int)<0:=by omega
 have n:decide ((Lm:Int)<(Ba:Int))=false:=by rw [decide_eq_false_iff_not];omega
 have f:¬(Lm:Int)<(Ba:Int):=by omega
 have o:decide ((W:Int)<(Lm:Int))=false:=by rw [decide_eq_false_iff_not];omega
 have g:¬(W:Int)<(Lm:Int):=by omega
 have d:Hid (∀w',w'=w.alloc (.cells #[m,(Ba:Int),(Ba:Int),(Lm:Int)] 150)->eW w' w.heap.size m Ba Ba Lm/\w.heap.size<=w.heap.size/\J7 w w'):=by
  show∀w',_
  rintro w' rfl;exact ⟨ay.new w _ _,ag _,(Kb _ w).alloc _⟩
 clear h i j c
 go_enter func49,ntmps49
 go_wp2_with fail
 refine a.out.mono ?_;rintro e w1 ⟨rfl,rfl⟩;go_wp2_with fail
 refine a.out.mono ?_;rintro e w1 ⟨rfl,rfl⟩;clear a;go_wp2;refine bodyPost_ret (results_tmp2 rfl _ _ _) rfl ?_;exact ⟨_,rfl,d.out _ rfl⟩
theorem Cn(h:eW w b m Ba top Lm)(n:Nat)(i:1<=n)(l:top<=Lm)(k:Lm-top<n)(j:Lm<=1048576):Calls prog 52 #[b,(n:Int)] w fun e w'=>e= .returned (.tuple #[(0:Int),(21:Int)])/\J7 w w':=by
 have a:=ae (kz h);obtain ⟨_,_,c2,d,_⟩:=Kd h;have f:¬(n:Int)<1:=by omega
 have o:IntKind.i64.wrap ((Lm:Int)-(top:Int))=(Lm:Int)-(top:Int):=by rw [IntKind.wrap_i64];omega
 have g:decide ((Lm:Int)-(top:Int)<(n:Int))=true:=by rw [decide_eq_true_eq];omega
 have c:(Lm:Int)-(top:Int)<(n:Int):=by omega
 clear h
 go_enter func52,ntmps52
 go_wp2_with fail
 refine a.out.mono ?_;rintro e w1 ⟨rfl,rfl⟩;clear a;go_wp2
 go_quiet (fail)
 go_wp2;go_ret2;exact ⟨rfl,(Kb _ _).drewN _⟩
end
section
variable{w:World}{b m Ba top Lm:Nat}{S:Nat->Prop}{Pg W Rm Us Hg:Nat}{mp:Nat->Bool}{M:Nat->Nat}
def Fm(w:World)(b m Ba top Lm n:Nat)(S:Nat->Prop)(Pg W Rm Us:Nat)(mp:Nat->Bool)(M:Nat->Nat)(e:Ending)(w':World):Prop:=
 e= .returned (.tuple #[(top:Int),(0:Int)])/\eW w' b m Ba (top+n) Lm/\∃S' Hg' mp' M',dQ w' m S' Pg W Rm (Us+Qc (fq mp) (top/Pg) ((top+n-1)/Pg+1)) Hg' mp' M'/\(∀q,mp' q=(mp q||(decide (top/Pg<=q)&&decide (q<=(top+n-1)/Pg))))/\(∀a,a<W->mp (a/Pg)=true->M' a=M a)/\Fr (fun k=>S k\/k=b) w w'/\∀k,S' k->S k\/w.heap.size<=k
theorem tM(h:eW w b m Ba top Lm)(s:dQ w m S Pg W Rm Us Hg mp M)(o:¬S b)(n:Nat)(H:1<=n)(L:top+n<=Lm)(I:Lm<=W)(g:Us+Qc (fq mp) (top/Pg) ((top+n-1)/Pg+1)<=Rm):Calls prog 52 #[b,(n:Int)] w (Fm w b m Ba top Lm n S Pg W Rm Us mp M):=by
 have v:=ae (kz h);have J:=s.at.2.2.1;obtain ⟨E,_,c2,F,_⟩:=Kd h;have R:¬(n:Int)<1:=by omega
 have a:IntKind.i64.wrap ((Lm:Int)-(top:Int))=(Lm:Int)-(top:Int):=by rw [IntKind.wrap_i64];omega
 have N:IntKind.i64.wrap ((top:Int)+(n:Int))=(top:Int)+(n:Int):=by rw [IntKind.wrap_i64];omega
 have T:decide ((Lm:Int)-(top:Int)<(n:Int))=false:=by rw [decide_eq_false_iff_not];omega
 have G:¬(Lm:Int)-(top:Int)<(n:Int):=by omega
 have d:=ae (fun w1 (hf:J7 w w1)=>ot (s.Qb hf) top (top+n) (by omega) (by omega) g);rw [show ((top+n:Nat):Int)=(top:Int)+(n:Int) by push_cast;rfl] at d;have C:=ae (af h o);have u:Hid (∀w1 e w',J7 w w1->xd w1 m S Pg W Rm Us mp M (top/Pg) ((top+n-1)/Pg) e w'->e= .returned (0:Int)/\eW w' b m Ba top Lm/\∀w2,w2=w'.setCell ⟨b,2,none⟩ (.int .i64 ((top:Int)+(n:Int)))->Fm w b m Ba top Lm n S Pg W Rm Us mp M (.returned (.tuple #[(top:Int),(0:Int)])) w2):=by
  show∀w1 e w',_
  rintro w1 e w' hf ⟨rfl,S',q,t,D,O,P,Q,z,A⟩;have j:eW w' b m Ba top Lm:=ay.frame (ay.frame h hf id) z o;have K:b<w.heap.size:=ay.lt h;have V:=hf.size;refine ⟨rfl,j,?_⟩;rintro w2 rfl;have l:Fr (fun k=>k=b) w' (w'.setCell ⟨b,2,none⟩ (.int .i64 ((top:Int)+(n:Int)))):=(Kb (fun k=>k=b) w').setCell ⟨b,2,none⟩ (.inl rfl) _;refine ⟨rfl,?_,S',q,t,D,O.frame l (fun k r e=> ?_),P,Q,(((hf.mono (S':=fun k=>S k\/k=b) J8).trans z (fun k h=> .inl (.inl h)))).trans l (fun k h=> .inl (.inr h)),fun k r=> ?_⟩
  ·have:=ay.set j 2 (.int .i64 ((top:Int)+(n:Int)));unfold eW;rw [show ((top+n:Nat):Int)=(top:Int)+(n:Int) by push_cast;rfl];exact this
  ·subst e;rcases A _ r with h|h
   ·exact o h
   ·omega
  ·rcases A k r with h|h
   ·exact .inl h
   ·exact .inr (by omega)
 clear h s o H L I g J
 go_enter func52,ntmps52
 go_wp2_with fail
 refine v.out.mono ?_;rintro e w1 ⟨rfl,rfl⟩;clear v;go_wp2
 go_quiet (fail)
 go_wp2;refine bz (fun w'=>w'=(w.drewN nq).drew) 14 (by kernel_rfl) rfl ?_;simp only [Kc];refine aL [b,b,b] ?_
 iterate 3 (refine aM rfl (fun B x=>by go_simp) ?_;simp only [aa])
 refine aK ?_;refine ai m rfl (fun w a=>by subst a;go_simp) ?_;simp only [aa];refine aL [b,b,.pointer (some ⟨b,2,none⟩)] ?_
 iterate 3 (refine aM rfl (fun B x=>by go_simp) ?_;simp only [aa])
 refine aK ?_;refine ai (top:Int) rfl (fun w a=>by subst a;go_simp) ?_;simp only [aa];refine aL [b,b,.pointer (some ⟨b,2,none⟩)] ?_
 iterate 3 (refine aM rfl (fun B x=>by go_simp) ?_;simp only [aa])
 refine aK ?_;refine ai (top:Int) rfl (fun w a=>by subst a;go_simp) ?_;simp only [aa];refine ai (n:Int) rfl (fun w a=>by go_simp) ?_;simp only [aa];refine ai (.int .i64 ((top:Int)+(n:Int))) rfl (fun w a=>by subst a;go_simp) ?_;simp only [aa];refine wpQuiet_nil ?_;rintro w6 rfl;have f:J7 w (w.drewN nq).drew:=((Kb _ _).drewN _).drew;have c:=ae (d.out _ f);have i:=ae (fun e w' h=>u.out _ e w' f h);clear d u E c2 F a f;go_wp2_with fail
 refine c.out.mono ?_;intro e w3 hp;obtain ⟨rfl,g,y⟩:=i.out _ _ hp;have X:=ay.cell g 2 rfl;have U:=ay.free g 2;have p:=ae y;clear hp g y c i C;go_wp2;go_ret2;exact p.out _ rfl
end
structure Cf where
 kind:Nat
 Pg:Nat
 block:Nat
 Wd:Nat
 Sl:Nat
 stack:Nat
 Ah:Nat
 Xb:Nat
def Cf.spare(c:Cf):Nat:=(c.Ah+2)*(max (c.block/c.Pg) 1+3)
def Cf.Fs(c:Cf):Nat:=c.Wd/c.Pg+if c.kind=1 then c.spare else if c.kind=2 then c.Wd/c.Pg else 0
def Cf.W(c:Cf):Nat:=c.Pg+c.Wd+if c.kind=3 then 0 else c.Wd
structure iC(c:Cf):Prop where
 Zh:c.kind=1\/c.kind=2\/c.kind=3
 Qu:bV (c.Pg:Int)=true
 Qp:1<=c.Pg
 Yu:c.Pg<=256
 Yz:bV (c.block:Int)=true
 block2:1<=c.block
 Yn:c.block<=1024
 words1:bV (c.Wd:Int)=true
 words2:16<=c.Wd
 Xr:c.Wd<=131072
 words4:c.Pg<=c.Wd
 Ya:1<=c.Sl
 Zd:c.Sl<=64
 Za:1<=c.stack
 Zb:c.stack<=4096
 Yo:c.Ah<=16
 Zi:c.Fs<=4096
def Cf.cells(c:Cf):List Value:=[((c.kind:Int):Int),((c.Pg:Int):Int),((c.block:Int):Int),((c.Wd:Int):Int),((c.Sl:Int):Int),((c.stack:Int):Int),((c.Ah:Int):Int),.float .f64 c.Xb]
def lZ(cy:Option Nat):Value:= .pointer (cy.map fun y=>⟨y,0,none⟩)
def nS(w:World)(b:Nat)(c:Cf)(m rb ub:Nat)(cy:Option Nat)(ns bs:Int):Prop:=ay w b (c.cells++[.pointer (some ⟨m,0,none⟩),.pointer (some ⟨rb,0,none⟩),.pointer (some ⟨ub,0,none⟩),lZ cy,.int .i64 ns,.int .i64 bs]) 57
section
variable{w:World}{b m rb ub:Nat}{c:Cf}{cy:Option Nat}{ns bs:Int}
theorem gk(h:nS w b c m rb ub cy ns bs):Calls prog 16 #[b] w fun e w'=>e= .returned (.bool false)/\w=w':=by
 have a:=h.cell 8 rfl;clear h
 go_enter func16,ntmps16
 go_wp2;go_ret;exact ⟨rfl,rfl⟩
variable{Ba top Lm:Nat}
theorem nS.reads(h:nS w b c m rb ub cy ns bs)(a:eW w ub m Ba top Lm):∀w',J7 w w'->(w'.cell? ⟨b,1,none⟩=some (.int .i64 (c.Pg:Int))/\w'.cell? ⟨b,2,none⟩=some (.int .i64 (c.block:Int))/\w'.cell? ⟨b,3,none⟩=some (.int .i64 (c.Wd:Int))/\w'.cell? ⟨b,5,none⟩=some (.int .i64 (c.stack:Int))/\w'.cell? ⟨b,6,none⟩=some (.int .i64 (c.Ah:Int))/\w'.cell? ⟨b,8,none⟩=some m/\w'.cell? ⟨b,10,none⟩=some ub):=fun w' hf=>
 have g:ay w' b _ _:=h.frame hf id
 ⟨g.cell 1 rfl,g.cell 2 rfl,g.cell 3 rfl,g.cell 5 rfl,g.cell 6 rfl,g.cell 8 rfl,g.cell 10 rfl⟩
theorem ym(i:iC c)(h:nS w b c m rb ub cy ns bs)(j:eW w ub m Ba top Lm)(v:Ba<=2*c.Pg+c.Wd):Calls prog 105 #[b] w fun e w'=>e= .returned (.int .i64 ((2*c.Pg+c.Wd-Ba:Nat):Int))/\J7 w w':=by
 have g:=ae (h.reads j);have f:=ae (fun w' (hf:J7 w w')=>mS (show eW w' ub m Ba top Lm from ay.frame j hf id));have t:=i.Yu;have u:=i.Xr;have q:((2*c.Pg+c.Wd-Ba:Nat):Int)=2*(c.Pg:Int)+(c.Wd:Int)-(Ba:Int):=by omega
 rw [q];clear h j i q;generalize c.Pg=pg at*;generalize c.Wd=wd at*
 go_enter func105,ntmps105
 go_wp2;refine aV (fun w'=>J7 w w') (by kernel_rfl) ((Kb _ w).drew) ?_;refine aL [b,b,b,.pointer (some ⟨b,1,none⟩)] ?_
 iterate 4 (refine aM rfl (fun s r=>by go_simp) ?_;simp only [aa])
 refine aK ?_;refine ai (pg:Int) rfl (fun w' a=>by obtain ⟨c1,c2,l,n,o,p,d⟩:=g.out w' a;go_simp) ?_;simp only [aa];refine ai (.int .i64 (2*(pg:Int))) rfl (fun w' a=>by go_simp;rw [IntKind.wrap_i64];omega) ?_;simp only [aa];refine aL [b,b,b,.pointer (some ⟨b,3,none⟩)] ?_
 iterate 4 (refine aM rfl (fun s r=>by go_simp) ?_;simp only [aa])
 refine aK ?_;refine ai (wd:Int) rfl (fun w' a=>by obtain ⟨c1,c2,l,n,o,p,d⟩:=g.out w' a;go_simp) ?_;simp only [aa];refine ai (.int .i64 (2*(pg:Int)+(wd:Int))) rfl (fun w' a=>by go_simp;rw [IntKind.wrap_i64];omega) ?_;simp only [aa];refine aL [b,b,.pointer (some ⟨b,10,none⟩)] ?_
 iterate 3 (refine aM rfl (fun s r=>by go_simp) ?_;simp only [aa])
 refine aK ?_;refine ai ub rfl (fun w' a=>by obtain ⟨c1,c2,l,n,o,p,d⟩:=g.out w' a;go_simp) ?_;simp only [aa];refine bf (.int .i64 Ba) 60 #[ub] rfl (fun w'=>by go_simp) (fun w' a=>(f.out w' a).mono fun e w2 h=>⟨h.1,h.2▸a⟩) ?_;simp only [aa];refine ai (.int .i64 (2*(pg:Int)+(wd:Int)-(Ba:Int))) rfl (fun w' a=>by go_simp;rw [IntKind.wrap_i64];omega) ?_;simp only [aa];refine ai (.int .i64 (2*(pg:Int)+(wd:Int)-(Ba:Int))) rfl (fun w' a=>by go_simp) ?_;simp only [aa];refine wpQuiet_nil ?_;intro w2 k;go_wp2;go_ret;exact ⟨rfl,k⟩
end
theorem jT{P:Program}{fn:Func}{p:Tmp}{b:TypeId}(h:fn.results= #[.cell p b])(tmps:Array Value)(w:World)(g:Nat)(t:TypeId)(cs:Array Value)(fr:Nat×Nat)(d:TypeDesc)
  (hp:tmps.getD p undef= .pointer (some ⟨g,0,none⟩)) (hg:w.heap[g]? =some (.cells cs t fr))
  (i:P.underlying b=some d) (c:(match d with| .struct _| .array _ _=>true|_=>false)=true) (f:(P.info? b).map (·.size)=some cs.size):
  (results fn tmps).run P w= .ok (.agg cs) w:=by
 have e:(results fn tmps).run P w=((asAddr (tmps.getD p undef)).run P w).andThen fun a j=>(loadVar b a).run P j:=by
  simp_all [results]
 rw [e,hp];simp [asAddr,run_loadVar_row w g t b cs fr d hg i c f,Result.andThen]
theorem DB(a b c d e f g:Int):(#[Value.int .i64 a,(b:Int),(c:Int),(d:Int),(e:Int),(f:Int),(g:Int)]:Array Value).all (·.oneCell')=true:=
 Go.all_oneCell_toArray (cs:=[(a:Int),(b:Int),(c:Int),(d:Int),(e:Int),(f:Int),(g:Int)]) (fun v h=>by simp only [cG,bF,or_false] at h;rcases h with rfl|rfl|rfl|rfl|rfl|rfl|rfl<;>rfl)
section
variable{w:World}{b m rb ub:Nat}{c:Cf}{cy:Option Nat}{ns bs:Int}{Ba top Lm:Nat}
theorem tx(H:iC c)(h:nS w b c m rb ub cy ns bs)(E:eW w ub m Ba top Lm)(O:Ba<=2*c.Pg+c.Wd):Calls prog 61 #[b] w fun e w'=>e= .returned (ic Ba top (2*c.Pg+c.Wd-Ba) (2*c.Pg+c.Wd-Ba+c.Wd) c.block c.stack c.Ah)/\J7 w w':=by
 obtain ⟨W1,l⟩:∃W1,w.alloc (.cells #[(0:Int),(0:Int),(0:Int),(0:Int),(0:Int),(0:Int),(0:Int)] 113)=W1:=⟨_,rfl⟩;have f:J7 w W1:=by rw [<-l];exact (Kb _ w).alloc _
 have C:ay W1 w.heap.size [(0:Int),(0:Int),(0:Int),(0:Int),(0:Int),(0:Int),(0:Int)] 113:=by rw [<-l];exact ay.new w _ _
 have M:=ae (ym H (ay.frame h f id) (show eW W1 ub m Ba top Lm from ay.frame E f id) O);have L:=ae (fun w' (hf:J7 W1 w')=>h.reads E w' (f.trans hf J8));have p:=ae (fun w' (hf:J7 W1 w')=>mS (show eW w' ub m Ba top Lm from ay.frame E (f.trans hf J8) id));have v:=ae (fun w' (hf:J7 W1 w')=>sa (show eW w' ub m Ba top Lm from ay.frame E (f.trans hf J8) id));have t:Hid ((prog.info? 113).map (·.size)=some 7):=by show _=_;kernel_rfl
 have s:=ae (DB Ba top (2*c.Pg+c.Wd-Ba:Nat) (2*c.Pg+c.Wd-Ba+c.Wd:Nat) c.block c.stack c.Ah);have n:=ae C;have q:=ae f;have S:=H.Yu;have U:=H.Xr;clear h E H O f C;unfold ic;have V:2*c.Pg+c.Wd-Ba<=1048576:=by omega
 generalize 2*c.Pg+c.Wd-Ba=T at*;have k:((T+c.Wd:Nat):Int)=(T:Int)+(c.Wd:Int):=by push_cast;rfl
 rw [k] at s ⊢;generalize c.Pg=pg at*;generalize c.Wd=wd at*;generalize c.block=bk at*;generalize c.stack=sk at*;generalize c.Ah=ad at*;clear k
 go_enter func61,ntmps61
 go_wp2_with fail
 refine M.out.mono ?_;rintro e w2 ⟨rfl,g⟩;have d:=ae (fun w' (hf:J7 w2 w')=>L.out w' (g.trans hf J8));have o:=ae (fun w' (hf:J7 w2 w')=>p.out w' (g.trans hf J8));have u:=ae (fun w' (hf:J7 w2 w')=>v.out w' (g.trans hf J8));have r:=ae (fun w' (hf:J7 w2 w')=>af (n.out.frame (g.trans hf J8) id) (q.out.trans (g.trans hf J8) J8));clear g M L p v n q l;go_wp2;refine bz (fun w'=>J7 w2 w') 34 (by kernel_rfl) ((Kb _ w2).drew) ?_;simp only [Kc];refine aL [b,b,.pointer (some ⟨b,10,none⟩)] ?_
 iterate 3 (refine aM rfl (fun G B=>by go_simp) ?_;simp only [aa])
 refine aK ?_;refine ai ub rfl (fun w' a=>by obtain ⟨c1,c2,x,y,z,A,i⟩:=d.out w' a;go_simp) ?_;simp only [aa];refine bf (.int .i64 Ba) 60 #[ub] rfl (fun w'=>by go_simp) (fun w' a=>(o.out w' a).mono fun e w2 h=>⟨h.1,h.2▸a⟩) ?_;simp only [aa];refine aL [b,b,.pointer (some ⟨b,10,none⟩)] ?_
 iterate 3 (refine aM rfl (fun G B=>by go_simp) ?_;simp only [aa])
 refine aK ?_;refine ai ub rfl (fun w' a=>by obtain ⟨c1,c2,x,y,z,A,i⟩:=d.out w' a;go_simp) ?_;simp only [aa];refine bf (.int .i64 top) 59 #[ub] rfl (fun w'=>by go_simp) (fun w' a=>(u.out w' a).mono fun e w2 h=>⟨h.1,h.2▸a⟩) ?_;simp only [aa];refine aL [(T:Int),(T:Int),b,b,b,.pointer (some ⟨b,3,none⟩)] ?_
 iterate 6 (refine aM rfl (fun G B=>by go_simp) ?_;simp only [aa])
 refine aK ?_;refine ai (wd:Int) rfl (fun w' a=>by obtain ⟨c1,c2,x,y,z,A,i⟩:=d.out w' a;go_simp) ?_;simp only [aa];refine ai (.int .i64 ((T:Int)+(wd:Int))) rfl (fun w' a=>by go_simp;rw [IntKind.wrap_i64];omega) ?_;simp only [aa];refine aL [b,b,b,.pointer (some ⟨b,2,none⟩)] ?_
 iterate 4 (refine aM rfl (fun G B=>by go_simp) ?_;simp only [aa])
 refine aK ?_;refine ai (bk:Int) rfl (fun w' a=>by obtain ⟨c1,c2,x,y,z,A,i⟩:=d.out w' a;go_simp) ?_;simp only [aa];refine aL [b,b,b,.pointer (some ⟨b,5,none⟩)] ?_
 iterate 4 (refine aM rfl (fun G B=>by go_simp) ?_;simp only [aa])
 refine aK ?_;refine ai (sk:Int) rfl (fun w' a=>by obtain ⟨c1,c2,x,y,z,A,i⟩:=d.out w' a;go_simp) ?_;simp only [aa];refine aL [b,b,b,.pointer (some ⟨b,6,none⟩)] ?_
 iterate 4 (refine aM rfl (fun G B=>by go_simp) ?_;simp only [aa])
 refine aK ?_;refine ai (ad:Int) rfl (fun w' a=>by obtain ⟨c1,c2,x,y,z,A,i⟩:=d.out w' a;go_simp) ?_;simp only [aa];refine ai (.agg #[(Ba:Int),(top:Int),(T:Int),(((T:Int)+(wd:Int)):Int),(bk:Int),(sk:Int),(ad:Int)]) rfl (fun w' a=>by go_simp) ?_;simp only [aa];refine wpQuiet_nil ?_;intro w3 F;obtain ⟨g1,N⟩:=r.out w3 F;have D:w3.there w.heap.size 0 7:=fun j R=>by
  match j,R with
  |0,_=>exact ⟨by rw [g1.cell 0 rfl];rfl,g1.free 0⟩
  |1,_=>exact ⟨by rw [g1.cell 1 rfl];rfl,g1.free 1⟩
  |2,_=>exact ⟨by rw [g1.cell 2 rfl];rfl,g1.free 2⟩
  |3,_=>exact ⟨by rw [g1.cell 3 rfl];rfl,g1.free 3⟩
  |4,_=>exact ⟨by rw [g1.cell 4 rfl];rfl,g1.free 4⟩
  |5,_=>exact ⟨by rw [g1.cell 5 rfl];rfl,g1.free 5⟩
  |6,_=>exact ⟨by rw [g1.cell 6 rfl];rfl,g1.free 6⟩
 have I:=ae D;have P:=ae g1;have Q:=ae N;clear D g1 N F d o u r;go_wp2_with (refine wpList_store_mid rfl 113 _ _ rfl w.heap.size 0 #[(Ba:Int),(top:Int),(T:Int),(((T:Int)+(wd:Int)):Int),(bk:Int),(sk:Int),(ad:Int)] rfl rfl I.out t.out s.out ?_)
 have J:=((((((P.out.set 0 (.int .i64 Ba)).set 1 (.int .i64 top)).set 2 (.int .i64 T)).set 3 (.int .i64 ((T:Int)+(wd:Int)))).set 4 (.int .i64 bk)).set 5 (.int .i64 sk)).set 6 (.int .i64 ad);have K:J7 w (w3.setCells w.heap.size 0 [(Ba:Int),(top:Int),(T:Int),(((T:Int)+(wd:Int)):Int),(bk:Int),(sk:Int),(ad:Int)]):=((((((Q.out.setCell w.heap.size (.inr (ag _)) _).setCell ⟨w.heap.size,1,none⟩ (.inr (ag _)) _).setCell ⟨w.heap.size,2,none⟩ (.inr (ag _)) _).setCell ⟨w.heap.size,3,none⟩ (.inr (ag _)) _).setCell ⟨w.heap.size,4,none⟩ (.inr (ag _)) _).setCell ⟨w.heap.size,5,none⟩ (.inr (ag _)) _).setCell ⟨w.heap.size,6,none⟩ (.inr (ag _)) _;refine bodyPost_ret (jT rfl _ _ _ _ _ _ _ rfl J underlying113 rfl t.out) rfl ?_;exact ⟨rfl,K⟩
end
structure CG(m Pg W Fs Us Hg:Nat)(mp:Nat->Bool)(kb wb:Nat)(M:Nat->Nat)(f:Nat->Option Nat)(n top:Nat)(S:Nat->Prop)(w:World):Prop where
 Qd:ay w kb [m,.map (some wb),(top:Int)] 217
 mem:dJ m Pg W Fs Us Hg mp M S w
 Qs:gE w wb n f
 d1:¬S kb
 d2:¬S wb
 d3:kb≠wb
section
variable{m Pg W Fs Us Hg:Nat}{mp:Nat->Bool}{kb wb:Nat}{M:Nat->Nat}{f:Nat->Option Nat}{n top:Nat}{S:Nat->Prop}{w w':World}
theorem CG.Fh(h:CG m Pg W Fs Us Hg mp kb wb M f n top S w)(hf:J7 w w'):CG m Pg W Fs Us Hg mp kb wb M f n top S w':=
 ⟨h.Qd.frame hf id,h.mem.Qb hf,h.Qs.frame hf id,h.d1,h.d2,h.d3⟩
theorem yU(kb:Nat)(w:World):Calls prog 148 #[kb,(0:Int)] w fun e w'=>e= .returned (0:Int)/\w=w':=by
 go_enter func148,ntmps148
 go_wp2;go_ret;exact ⟨rfl,rfl⟩
theorem ET(h:CG m Pg W Fs Us Hg mp kb wb M f n top S w)(a z:Nat)(i:1<=a)(b:a<4611686018427387904)(d:f a=some z):Calls prog 148 #[kb,(a:Int)] w fun e w'=>e= .returned (z:Int)/\w=w':=by
 have c:=h.Qs.look_ok a b;rw [d] at c;simp only [Option.getD_some,Option.isSome_some] at c;have c1:=h.Qd.cell 1 rfl;have g:¬(a:Int)=0:=by omega
 clear h d
 go_enter func148,ntmps148
 go_wp2;go_ret;exact ⟨rfl,rfl⟩
theorem Ca(h:CG m Pg W Fs Us Hg mp kb wb M f n top S w)(a p t g:Nat)(ha:1<=a)(av:a<1048576)(D:f a=none)(X:lw M a p t g)(Xg:∀k,a<=k->k<a+(1+(p+t+g))->cX W Pg mp k/\M k<18446744073709551616)(ap:1<=top)(ax:top<1048576)(Xl:∀k,top<=k->k<top+(1+(p+t+g))->cX W Pg mp k)(hn:n<1048576):
  Calls prog 148 #[kb,(a:Int)] w fun e w'=>e= .returned (top:Int)/\∃S',CG m Pg W Fs Us Hg mp kb wb (o0 M a top (1+(p+t+g))) (jf f a top) (n+1) (top+(1+(p+t+g))) S' w'/\Fr (fun k=>S k\/k=kb\/k=wb) w w'/\∀k,S' k->S k\/w.heap.size<=k:=by
 have hl:=h.Qs.look_ok a (by omega);rw [D] at hl;simp only [Option.getD_none,Option.isSome_none] at hl;rw [show ((0:Nat):Int)=0 from rfl] at hl;have c0:=h.Qd.cell 0 rfl;have c1:=h.Qd.cell 1 rfl;have h0:¬(a:Int)=0:=by omega
 have ao:p+t+g<256:=by have:=X.2;unfold dD at this;omega
 have ak:Hid ((prog.info? 32).map (·.size)=some 3):=by show _=_;kernel_rfl
 have N:=ae (mM h.mem a p t g ha (Xg a (ag _) (by omega)).1 X);have A:=ae (fun w1=>iK p t g w1);have Z:fO p t g=((1+(p+t+g):Nat):Int):=by unfold fO;rw [if_pos X.2];push_cast;omega
 rw [Z] at A;have y:=ae (fun w2 S2 (hm:dJ m Pg W Fs Us Hg mp M S2 w2)=>DE (cD m Pg W Fs Us Hg mp) (bR m Pg W Fs Us Hg mp) (rB m Pg W Fs Us Hg mp) hm a top p t g ha ap (by omega) (by omega) X Xg Xl);have s:=ae h;have am:=h.Qd.lt;have aq:=h.Qs.lt;obtain ⟨z,hz⟩:∃z,z=1+(p+t+g):=⟨_,rfl⟩;rw [<-hz] at A y ⊢;have az:z<=256:=by omega
 unfold jn ft at*;have L:Hid ((f a).isSome=false):=by show _=_;rw [D];rfl
 clear h Xg Xl X D Z hz ao
 go_enter func148,ntmps148
 go_wp2_with fail
 refine N.out.mono ?_;rintro e w1 ⟨rfl,S1,J,G,H⟩;clear N hl c0 c1;have F:¬S1 kb:=fun v=>by rcases H _ v with h|h;exact s.out.d1 h;omega
 have ah:¬S1 wb:=fun v=>by rcases H _ v with h|h;exact s.out.d2 h;omega
 have aj:=G.size;have Q:=(bR m Pg W Fs Us Hg mp).lt _ _ _ J;have R:=s.out.Qd.frame G s.out.d1;obtain ⟨P,u⟩:∃P,P=w1.alloc (.cells #[(p:Int),(t:Int),(g:Int)] 32):=⟨_,rfl⟩;have c:J7 w1 P:=by rw [u];exact (Kb _ w1).alloc _
 have i:ay P w1.heap.size [(p:Int),(t:Int),(g:Int)] 32:=by rw [u];exact ay.new w1 _ _
 have b:=R.frame c id;have O:=ae u;obtain ⟨e0,e1,e2,_⟩:=Kf b;have K:=ae (y.out P S1 (J.Qb c));have HB:=ae (af c (af i (af b (af J (af G H)))));clear c i b R J G y u
 go_upto_region 7 with fail
 rw [<-O.out];clear O;go_wp2_with fail
 refine K.out.mono ?_;rintro e w3 ⟨rfl,S3,m3,r3,s3⟩;obtain ⟨c,i,b,J,G,H⟩:=HB.out;have ar:=c.size;have o:¬S3 kb:=fun v=>by rcases s3 _ v with h|h;exact F h;omega
 have r:¬S3 wb:=fun v=>by rcases s3 _ v with h|h;exact ah h;omega
 have B:=b.frame r3 F;have U:=i.frame r3 (fun v=>by have:=Q _ v;omega);have l:Fr S w w3:=(G.trans c J8).trans r3 H;have x:=s.out.Qs.frame l s.out.d2;obtain ⟨w4,u1,u2,u3⟩:=x.put a top (by omega) (by omega) (by omega);have q:(f a).isSome=false:=L.out;rw [q] at u2;simp only [dF,if_false] at u2;have T:=B.frame u3 s.out.d3;have E:=U.frame u3 (fun e=>by omega);have c1:=B.cell 1 rfl;have Y:=E.drew;have d:Hid (∀w5,J7 w4 w5->(w5.cell? ⟨kb,2,none⟩=some (top:Int)/\w5.frozen? ⟨kb,2,none⟩=false/\ay w5 w1.heap.size [(p:Int),(t:Int),(g:Int)] 32)/\∀w6,w5.setCell ⟨kb,2,none⟩ (.int .i64 ((top+z:Nat):Int))=w6->∃S',CG m Pg W Fs Us Hg mp kb wb (o0 M a top z) (jf f a top) (n+1) (top+z) S' w6/\Fr (fun k=>S k\/k=kb\/k=wb) w w6/\∀k,S' k->S k\/w.heap.size<=k):=by
  show∀w5,_
  intro w5 j;have C:=T.frame j id;refine ⟨⟨C.cell 2 rfl,C.free 2,E.frame j id⟩,?_⟩;rintro w6 rfl;have f6:Fr (fun k=>k=kb) w5 (w5.setCell ⟨kb,2,none⟩ (.int .i64 ((top+z:Nat):Int))):=(Kb (fun k=>k=kb) w5).setCell ⟨kb,2,none⟩ (.inl rfl) _;refine ⟨S3,⟨C.set 2 _,cD _ _ _ _ _ _ _ _ _ _ _ _ ((cD _ _ _ _ _ _ _ _ _ _ _ _ m3 u3 (fun k V e=>r (e▸V))).Qb j) f6 (fun k V e=>o (e▸V)),(u2.frame j id).frame f6 (fun e=>s.out.d3 e.symm),o,r,s.out.d3⟩,?_,fun k V=> ?_⟩
  ·exact (((l.mono (S':=fun k=>S k\/k=kb\/k=wb) (fun k h=> .inl (.inl h))).trans u3 (fun k h=> .inl (.inr (.inr h)))).trans j J8).trans f6 (fun k h=> .inl (.inr (.inl h)))
  ·rcases s3 k V with h|h
   ·exact H k h
   ·exact .inr (by omega)
 clear c i b J G H ar B U l x u2 u3 T E m3 r3 s3 o r F ah Q HB s K L am aq aj e0 e1 e2 Y q;go_wp2;refine bz (fun w'=>J7 w4 w') 9 (by kernel_rfl) ((Kb _ w4).drew) ?_;simp only [Kc];refine aL [kb,kb,.pointer (some ⟨kb,2,none⟩)] ?_
 iterate 3 (refine aM rfl (fun w9 h9=>by go_simp) ?_;simp only [aa])
 refine aK ?_;refine ai (top:Int) rfl (fun w' I=>by obtain ⟨⟨k1,_,_⟩,_⟩:=d.out w' I;go_simp) ?_;simp only [aa];refine ai (.agg #[(p:Int),(t:Int),(g:Int)]) rfl (fun w' I=>eX rfl w1.heap.size rfl 32 _ (0,0) _ (d.out w' I).1.2.2 underlying32 rfl ak.out) ?_;simp only [aa];refine bf (.int .i64 z) 20 #[.agg #[(p:Int),(t:Int),(g:Int)]] rfl (fun w'=>by go_simp) (fun w' I=>(A.out w').mono fun e w2 h=>⟨h.1,I.trans h.2 J8⟩) ?_;simp only [aa];refine ai (.int .i64 ((top:Int)+(z:Int))) rfl (fun w' I=>by go_simp;rw [IntKind.wrap_i64];omega) ?_;simp only [aa];refine aL [kb,.pointer (some ⟨kb,2,none⟩)] ?_
 iterate 2 (refine aM rfl (fun w9 h9=>by go_simp) ?_;simp only [aa])
 refine aK ?_;refine wpQuiet_nil ?_;intro w5 ad;obtain ⟨⟨k1,k2,_⟩,hq⟩:=d.out w5 ad;have HQ:=ae (hq _ rfl);rw [show ((top+z:Nat):Int)=(top:Int)+(z:Int) by push_cast;rfl] at HQ;clear hq d ad;go_wp2;go_ret;exact ⟨rfl,HQ.out⟩
end
structure iB where
 M:Nat->Nat
 f:Nat->Option Nat
 n:Nat
 top:Nat
def iB.take(sz:Nat->Nat)(s:iB)(x:Nat):iB×Nat:=
 if x=0 then (s,0) else match s.f x with
  |some z=>(s,z)
  |none=>(⟨o0 s.M x s.top (sz x),jf s.f x s.top,s.n+1,s.top+sz x⟩,s.top)
def iB.Ok(dom:Nat->Prop)(sz:Nat->Nat)(s:iB)(x:Nat):Prop:=
 x≠0->x<1048576/\(s.f x=none->∃p t g,lw s.M x p t g/\sz x=1+(p+t+g)/\(∀k,x<=k->k<x+sz x->dom k/\s.M k<18446744073709551616)/\1<=s.top/\s.top<1048576/\(∀k,s.top<=k->k<s.top+sz x->dom k)/\s.n<1048576)
section
variable{m Pg W Fs Us Hg:Nat}{mp:Nat->Bool}{kb wb:Nat}{S S0:Nat->Prop}{w w' w0:World}{s:iB}{sz:Nat->Nat}
def nh(m Pg W Fs Us Hg:Nat)(mp:Nat->Bool)(kb wb:Nat)(S0:Nat->Prop)(w0:World)(s:iB)(w:World):Prop:=
 ∃S,CG m Pg W Fs Us Hg mp kb wb s.M s.f s.n s.top S w/\Fr (fun k=>S0 k\/k=kb\/k=wb) w0 w/\∀k,S k->S0 k\/w0.heap.size<=k
theorem nh.Fh(h:nh m Pg W Fs Us Hg mp kb wb S0 w0 s w)(hf:J7 w w'):nh m Pg W Fs Us Hg mp kb wb S0 w0 s w':=by
 obtain ⟨S,a,b,c⟩:=h;exact ⟨S,a.Fh hf,b.trans hf J8,c⟩
theorem wE(h:nh m Pg W Fs Us Hg mp kb wb S0 w0 s w)(x:Nat)(o:s.Ok (cX W Pg mp) sz x):
  Calls prog 148 #[kb,(x:Int)] w fun e w'=>e= .returned (.int .i64 (((s.take sz x).2:Nat):Int))/\nh m Pg W Fs Us Hg mp kb wb S0 w0 (s.take sz x).1 w':=by
 unfold iB.take;by_cases a:x=0
 ·subst a;rw [if_pos rfl];refine (yU kb w).mono ?_
  grind
 ·rw [if_neg a];obtain ⟨b,c⟩:=o a
  cases hf:s.f x with
  |some z=>
   obtain ⟨S,d,i,A⟩:=id h;refine (ET d x z (by omega) (by omega) hf).mono ?_
   grind
  |none=>
   obtain ⟨S,d,i,A⟩:=h;obtain ⟨p,t,g,q,r,j,u,v,l,y⟩:=c hf;rw [r] at j l;refine (Ca d x p t g (by omega) b hf q j u v l y).mono ?_;rintro e w' ⟨rfl,S',D,B,E⟩;have C:=i.size;refine ⟨rfl,S',?_,i.trans B (fun k n=> ?_),fun k n=> ?_⟩
   ·grind
   ·grind
   grind
end
def iB.Xx(sz:Nat->Nat)(a:Nat)(s:iB)(i:Nat):iB:=
 ⟨eb (s.take sz (s.M (a+1+i))).1.M (a+1+i) (s.take sz (s.M (a+1+i))).2,(s.take sz (s.M (a+1+i))).1.f,(s.take sz (s.M (a+1+i))).1.n,(s.take sz (s.M (a+1+i))).1.top⟩
def iB.Qz(sz:Nat->Nat)(a:Nat)(s:iB):Nat->iB
 |0=>s
 |i+1=>(iB.Qz sz a s i).Xx sz a i
section
variable{m Pg W Fs Us Hg:Nat}{mp:Nat->Bool}{kb wb:Nat}{S S0:Nat->Prop}{w w' w0:World}{s:iB}{sz:Nat->Nat}
theorem nh.sp(h:CG m Pg W Fs Us Hg mp kb wb s.M s.f s.n s.top S w)(g:Fr (fun k=>S0 k\/k=kb\/k=wb) w0 w)(j:∀k,S k->S0 k\/w0.heap.size<=k){d:Nat->Nat}(hp:je (dJ m Pg W Fs Us Hg mp) d S w w'):nh m Pg W Fs Us Hg mp kb wb S0 w0 ⟨d,s.f,s.n,s.top⟩ w':=by
 obtain ⟨S',l,c,i⟩:=hp;have o:=g.size;have p:=h.Qd.lt;have q:=h.Qs.lt;refine ⟨S',⟨h.Qd.frame c h.d1,l,h.Qs.frame c h.d2,fun b=> ?_,fun b=> ?_,h.d3⟩,g.trans c (fun k e=>(j k e).imp .inl id),fun k e=> ?_⟩
 ·rcases i _ b with a|a
  ·exact h.d1 a
  ·omega
 ·rcases i _ b with a|a
  ·exact h.d2 a
  ·omega
 grind
structure iB.Ok1(dom:Nat->Prop)(sz:Nat->Nat)(a p t g:Nat)(s:iB)(i:Nat):Prop where
 ok:s.Ok dom sz (s.M (a+1+i))
 Xg:lw s.M a p t g
 Xl:lw (s.take sz (s.M (a+1+i))).1.M a p t g
 x:s.M (a+1+i)<2147483648
 z:(s.take sz (s.M (a+1+i))).2<2147483648
 d:dom (a+1+i)
theorem EU(a p t g:Nat)(l:1<=a)(q:a<1048576)(c:cX W Pg mp a)(h:nh m Pg W Fs Us Hg mp kb wb S0 w0 s w)(i:Nat)(r:i<p)(b:iB.Ok1 (cX W Pg mp) sz a p t g s i):
  (Calls prog 126 #[.iface 52 (.pointer (some ⟨m,0,none⟩)),(a:Int),(i:Int)] w fun e w'=>e= .returned (.tuple #[(((s.M (a+1+i):Nat):Int):Int),(0:Int)])/\nh m Pg W Fs Us Hg mp kb wb S0 w0 s w')/\
  (∀w1,nh m Pg W Fs Us Hg mp kb wb S0 w0 (s.take sz (s.M (a+1+i))).1 w1->Calls prog 127 #[.iface 52 (.pointer (some ⟨m,0,none⟩)),(a:Int),(i:Int),((((s.take sz (s.M (a+1+i))).2:Nat):Int):Int)] w1 fun e w'=>e= .returned (0:Int)/\nh m Pg W Fs Us Hg mp kb wb S0 w0 (s.Xx sz a i) w'):=by
 have o:=b.Xg.2;unfold dD at o;have n:fP p t g i=1:=by
  unfold fP;rw [fO,if_pos b.Xg.2,if_neg (by omega),if_pos (by omega)]
 constructor
 ·obtain ⟨S,f,j,k⟩:=h;refine (ql (bR m Pg W Fs Us Hg mp) f.mem a i p t g _ l (by omega) c b.Xg n b.d rfl b.x).mono ?_;rintro e w' ⟨rfl,hp⟩;exact ⟨rfl,nh.sp f j k hp⟩
 ·rintro w1 ⟨S,f,j,k⟩;refine (xR (bR m Pg W Fs Us Hg mp) (rB m Pg W Fs Us Hg mp) f.mem a i p t g _ l (by omega) c b.Xl n b.d b.z).mono ?_;rintro e w' ⟨rfl,hp⟩;exact ⟨rfl,nh.sp f j k hp⟩
end
section
variable{m Pg W Fs Us Hg:Nat}{mp:Nat->Bool}{kb wb:Nat}{S S0:Nat->Prop}{w w' w0:World}{s:iB}{sz:Nat->Nat}
theorem nh.anchor(h:nh m Pg W Fs Us Hg mp kb wb S0 w0 s w):∃a,CG m Pg W Fs Us Hg mp kb wb s.M s.f s.n s.top a w/\(∀s' w',nh m Pg W Fs Us Hg mp kb wb a w s' w'->nh m Pg W Fs Us Hg mp kb wb S0 w0 s' w')/\(∀k,a k->k<w.heap.size)/\kb<w.heap.size/\wb<w.heap.size:=by
 obtain ⟨a,b,c,j⟩:=h;refine ⟨a,b,?_,(bR m Pg W Fs Us Hg mp).lt _ _ _ b.mem,b.Qd.lt,b.Qs.lt⟩;rintro s' w' ⟨S2,e,g,l⟩;have i:=c.size;refine ⟨S2,e,c.trans g (fun k d=> ?_),fun k d=> ?_⟩
 ·grind
 grind
def JP(m Pg W Fs Us Hg:Nat)(mp:Nat->Bool)(kb wb:Nat)(S0:Nat->Prop)(w0:World)(s:iB)(x:Nat)(e:Ending)(w':World):Prop:=e= .returned (x:Int)/\nh m Pg W Fs Us Hg mp kb wb S0 w0 s w'
theorem ES(h:nh m Pg W Fs Us Hg mp kb wb S0 w0 s w)(a p t g:Nat)(ha:1<=a)(hA:a<1048576)(H:cX W Pg mp a)(R:lw s.M a p t g)(u:∀i,i<p->iB.Ok1 (cX W Pg mp) sz a p t g (iB.Qz sz a s i) i):
  Calls prog 149 #[kb,(a:Int)] w (JP m Pg W Fs Us Hg mp kb wb S0 w0 (iB.Qz sz a s p) (a+(1+(p+t+g)))):=by
 have hH:=R.2;unfold dD at hH;have an:p+t+g<256:=by omega
 have E:Hid ((prog.info? 32).map (·.size)=some 3):=by show _=_;kernel_rfl
 have D:Hid (Calls prog 80 #[.iface 52 (.pointer (some ⟨m,0,none⟩)),(a:Int)] w fun e w'=>e= .returned (.tuple #[ft p t g,(0:Int)])/\nh m Pg W Fs Us Hg mp kb wb S0 w0 s w'):=by
  show Calls _ _ _ _ _
  obtain ⟨b,z,q2,N⟩:=h;refine (mM z.mem a p t g ha H R).mono ?_;rintro e w' ⟨rfl,hp⟩;obtain ⟨S2,r1,O,r3⟩:=hp;exact ⟨rfl,nh.sp z q2 N ⟨S2,r1,O,r3⟩⟩
 have L:fO p t g=((1+(p+t+g):Nat):Int):=by unfold fO;rw [if_pos R.2];push_cast;omega
 have n:=ae (fun w1=>iK p t g w1);rw [L] at n;have P:w.cell? kb=some (.pointer (some ⟨m,0,none⟩)):=by
  obtain ⟨b,z,_⟩:=h;exact z.Qd.cell 0 rfl
 have A:=ae (fun w1 (h1:nh m Pg W Fs Us Hg mp kb wb S0 w0 s w1)=>h1.anchor);have l:=ae (fun b T wr i (Q:i<p) (K:nh m Pg W Fs Us Hg mp kb wb b T (iB.Qz sz a s i) wr)=>af (EU a p t g ha hA H K i Q (u i Q)) (fun w1 (aj:nh m Pg W Fs Us Hg mp kb wb b T (iB.Qz sz a s i) w1)=>wE (sz:=sz) aj ((iB.Qz sz a s i).M (a+1+i)) (u i Q).ok));have d:=ae (fun b T s' wr (K:nh m Pg W Fs Us Hg mp kb wb b T s' wr)=>(show wr.cell? kb=some (.pointer (some ⟨m,0,none⟩)) from by
  obtain ⟨S2,z,_⟩:=K;exact z.Qd.cell 0 rfl))
 unfold jn ft at*;have ap:1+(p+t+g)<=256:=by omega
 rw [show ((a+(1+(p+t+g)):Nat))=a+(1+(p+t+g)) from rfl];clear h u R L hH
 go_enter func149,ntmps149
 go_wp2_with fail
 refine D.out.mono ?_;rintro e w1 ⟨rfl,J⟩;obtain ⟨b,a1,a2,a3,a4,a5⟩:=A.out w1 J;obtain ⟨c,f⟩:∃c,c=w1.alloc (.cells #[(p:Int),(t:Int),(g:Int)] 32):=⟨_,rfl⟩;have r:J7 w1 c:=by rw [f];exact (Kb _ w1).alloc _
 have o:ay c w1.heap.size [(p:Int),(t:Int),(g:Int)] 32:=by rw [f];exact ay.new w1 _ _
 have F:=ae f;have am:c.heap.size=w1.heap.size+1:=by rw [f];exact aY _
 have G:nh m Pg W Fs Us Hg mp kb wb b c s c:=⟨b,a1.Fh r,Kb _ _,fun _ h=> .inl h⟩;have j:Hid (∀s' w',nh m Pg W Fs Us Hg mp kb wb b c s' w'->nh m Pg W Fs Us Hg mp kb wb S0 w0 s' w'):=by
  show∀s' w',_
  rintro s' w' ⟨S2,r1,O,r3⟩;exact a2 s' w' ⟨S2,r1,(r.mono J8).trans O (fun k h=> .inl h),fun k hk=>(r3 k hk).imp id (fun h=>by omega)⟩
 have Z:=ae (fun s' wr (K:nh m Pg W Fs Us Hg mp kb wb b c s' wr)=>(show ay wr w1.heap.size [(p:Int),(t:Int),(g:Int)] 32 from by
  obtain ⟨S2,_,O,_⟩:=K;exact o.frame O (fun h=>by
   rcases h with h|h|h
   ·have:=a3 _ h;omega
   ·omega
   ·omega)))
 have H0:=ae G;have k0:=o.cell 0 rfl;clear J a1 a2 a3 a4 a5 f r o am G A D P
 go_upto_region 2 with fail
 rw [<-F.out];clear F;go_wp2
 go_loopw [22] (fun x wr=>∃i:Nat,x= .int .i64 i/\i<=p/\Hid (nh m Pg W Fs Us Hg mp kb wb b c (iB.Qz sz a s i) wr)) (fun x _=>(p-intOf x).toNat)
 case atStart=>exact ⟨0,rfl,ao _,H0⟩
 case round=>
  clear H0 k0;obtain ⟨i,rfl,Q,y⟩:=hrel;have q:=Z.out _ wr y.out;have P:=d.out b c _ wr y.out;by_cases al:i<p
  ·obtain ⟨⟨g1,g2⟩,g3⟩:=l.out b c wr i al y.out;have U:=ae g1;have V:=ae g2;have Y:=ae g3;have c1:(i:Int)<(p:Int):=by omega
   clear g1 g2 g3 y l q Z j;obtain ⟨sg,v⟩:∃sg,sg=iB.Qz sz a s i:=⟨_,rfl⟩;rw [<-v] at U V Y;have ah:=ae v;clear v;generalize hX:sg.M (a+1+i)=X at*;have HX:=ae hX;clear hX;go_wp2_with fail
   refine U.out.mono ?_;rintro e w3 ⟨rfl,N⟩;have c3:=d.out b c _ w3 N;have HT:=ae (Y.out w3.drew (N.Fh ((Kb _ w3).drew)));clear U N P;go_wp2
   go_region_held (fun w'=>w'.cell? kb=some (.pointer (some ⟨m,0,none⟩))) (first|assumption|go_keep) (first
    |(refine HT.out.mono ?_;rintro e w4 ⟨rfl,q4⟩;have c4:=d.out b c _ w4 q4)
    |(refine (V.out _ q4).mono ?_;rintro e w5 ⟨rfl,q5⟩;have c5:=d.out b c _ w5 q5))
   have ag:=ae q5;clear q5 q4 c4 HT V Y c3;go_wp2;refine ⟨⟨i+1,by simp,by omega,?_⟩,by unfold intOf;simp only [];omega⟩;have hn:=ag.out;rwa [ah.out] at hn
  ·have ak:i=p:=by omega
   subst ak;have C:=ae (j.out _ wr y.out);have c1:¬(i:Int)<(i:Int):=by omega
   have B:=ae q;clear j l d Z q P y;go_wp2_with (refine wpList_load_row rfl 32 _ rfl w1.heap.size rfl 32 #[(i:Int),(t:Int),(g:Int)] _ _ B.out underlying32 rfl E.out ?_)
   refine (n.out _).mono ?_;rintro e w5 ⟨rfl,I⟩;have ad:=ae (C.out.Fh I);clear I C B n E;go_wp2;go_ret;refine ⟨?_,ad.out⟩;congr 2
end
def n7(sz:Nat->Nat)(l:List Nat):Nat:=(l.map sz).sum
theorem nZ(sz:Nat->Nat)(l a:List Nat):n7 sz (l++a)=n7 sz l+n7 sz a:=by grind [n7]
theorem qB(sz:Nat->Nat)(x:Nat):n7 sz [x]=sz x:=by simp [n7]
theorem uY{sz:Nat->Nat}{l:List Nat}{j x:Nat}(h:l[j]? =some x):n7 sz (l.take j)+sz x<=n7 sz l:=by
 have a:l.take (j+1)=l.take j++[x]:=by grind [List.take_add_one]
 grind [nZ,List.take_append_drop,qB]
structure lh(L:Nat->Nat)(sz np:Nat->Nat)(To:Nat)(ord:List Nat)(cur:Nat)(s:iB):Prop where
 nd:ord.Nodup
 Qs:∀x z,s.f x=some z↔∃j,ord[j]? =some x/\z=To+n7 sz (ord.take j)
 num:s.n=ord.length
 top:s.top=To+n7 sz ord
 still:∀k,k<To\/s.top<=k->s.M k=L k
 Xo:∀x z i,s.f x=some z->i<sz x->(cur<=z+i\/i=0\/np x<i)->s.M (z+i)=L (x+i)
 new:∀x z i,s.f x=some z->z+i<cur->1<=i->i<=np x->i<sz x->(L (x+i)=0/\s.M (z+i)=0)\/s.f (L (x+i))=some (s.M (z+i))
section
variable{L sz np:Nat->Nat}{To cur:Nat}{ord:List Nat}{s:iB}
theorem lh.fits(h:lh L sz np To ord cur s){x z:Nat}(b:s.f x=some z):To<=z/\z+sz x<=s.top:=by
 obtain ⟨j,a,rfl⟩:=(h.Qs x z).1 b;have:=uY (sz:=sz) a;have:=h.top;omega
theorem lh.Fh(h:lh L sz np To ord cur s){x:Nat}:s.f x=none↔x∉ord:=by
 constructor
 ·intro b a;obtain ⟨j,c⟩:=bc.1 a;have:=(h.Qs x _).2 ⟨j,c,rfl⟩
  grind
 ·intro b
  cases hx:s.f x with
  |none=>rfl
  |some z=>
   obtain ⟨j,a,_⟩:=(h.Qs x z).1 hx
   grind
theorem lh.goes(h:lh L sz np To ord cur s){x:Nat}(E:x≠0)(hf:s.f x=none)(v:cur<=s.top)(e:∀k,x<=k->k<x+sz x->k<To\/s.top<=k):
  lh L sz np To (ord++[x]) cur (s.take sz x).1/\(s.take sz x).2=s.top/\(s.take sz x).1.top=s.top+sz x/\(s.take sz x).1.f x=some s.top/\(∀y z,s.f y=some z->(s.take sz x).1.f y=some z):=by
 have C:=h.Fh.1 hf;have D:s.take sz x=(⟨o0 s.M x s.top (sz x),jf s.f x s.top,s.n+1,s.top+sz x⟩,s.top):=by
  unfold iB.take
  grind
 have w:=h.top;rw [D];have b:∀y z,s.f y=some z->jf s.f x s.top y=some z:=by
  intro y z c;have g:y≠x:=by grind
  unfold jf
  grind
 have m:jf s.f x s.top x=some s.top:=by unfold jf;grind
 have a:∀y z,jf s.f x s.top y=some z->(y=x/\z=s.top)\/(y≠x/\s.f y=some z):=by
  intro y z c;unfold jf at c
  grind
 refine ⟨⟨?_,?_,?_,?_,?_,?_,?_⟩,rfl,rfl,m,b⟩
 ·rw [iw];refine ⟨h.nd,by simp,?_⟩
  grind
 ·intro y z;constructor
  ·intro c;rcases a y z c with ⟨rfl,rfl⟩|⟨g,d⟩
   ·refine ⟨ord.length,by simp,?_⟩
    grind
   ·obtain ⟨j,l,p⟩:=(h.Qs y z).1 d;have t:=(aj.1 l).1;refine ⟨j,by grind,?_⟩
    grind
  ·rintro ⟨j,l,p⟩;rcases aN j ord.length with t|t
   ·rw [gp t] at l;rw [List.take_append_of_le_length (by omega)] at p;exact b y z ((h.Qs y z).2 ⟨j,l,p⟩)
   grind
 ·show s.n+1=_
  rw [h.num,aU];rfl
 ·grind [nZ,qB]
 ·intro k B;show o0 s.M x s.top (sz x) k=_
  unfold o0;change k<To\/s.top+sz x<=k at B;rw [if_neg (by omega)];exact h.still k (by omega)
 ·intro y z i c q u;show o0 s.M x s.top (sz x) (z+i)=_
  unfold o0;rcases a y z c with ⟨rfl,rfl⟩|⟨g,d⟩
  ·rw [if_pos (by omega),show y+(s.top+i-s.top)=y+i by omega];exact h.still _ (e _ (by omega) (by omega))
  ·have:=h.fits d;rw [if_neg (by omega)];exact h.Xo y z i d q u
 ·intro y z i c A o r q;show (_/\o0 s.M x s.top (sz x) (z+i)=0)\/jf s.f x s.top _=some (o0 s.M x s.top (sz x) (z+i))
  unfold o0;rcases a y z c with ⟨rfl,rfl⟩|⟨g,d⟩
  ·omega
  ·have:=h.fits d;rw [if_neg (by omega)];rcases h.new y z i d A o r q with l|l
   ·omega
   grind
end
theorem sS{sz:Nat->Nat}{l:List Nat}{j a x:Nat}(h:l[j]? =some x)(d:j<a):n7 sz (l.take j)+sz x<=n7 sz (l.take a):=by
 have b:(l.take a)[j]? =some x:=by grind
 have c:=uY (sz:=sz) b
 grind
section
variable{L sz np:Nat->Nat}{To cur:Nat}{ord:List Nat}{s:iB}
theorem lh.apart(h:lh L sz np To ord cur s){x y z a q:Nat}(d:s.f x=some z)(e:s.f y=some a)(l:z<=q)(m:q<z+sz x)(n:a<=q)(o:q<a+sz y):x=y/\z=a:=by
 obtain ⟨j,g1,i⟩:=(h.Qs x z).1 d;obtain ⟨g,c,k⟩:=(h.Qs y a).1 e;rcases cW j g with b|b|b
 ·have:=sS (sz:=sz) g1 b;omega
 ·grind
 ·have:=sS (sz:=sz) c b;omega
theorem lh.skip(h:lh L sz np To ord cur s){a:Nat}(k:cur<=a)(l:∀x z i,s.f x=some z->i<sz x->cur<=z+i->z+i<a->i=0\/np x<i):lh L sz np To ord a s:=by
 refine ⟨h.nd,h.Qs,h.num,h.top,h.still,fun x z i b c d=>h.Xo x z i b c ?_,fun x z i b c d g j=> ?_⟩
 ·omega
 ·rcases aN (z+i) cur with e|e
  ·exact h.new x z i b e d g j
  grind
theorem lh.put(h:lh L sz np To ord cur s){y a i v:Nat}(d:s.f y=some a)(r:cur=a+1+i)(t:i<np y)(p:np y<sz y)(u:(L (y+1+i)=0/\v=0)\/s.f (L (y+1+i))=some v):lh L sz np To ord (cur+1) ⟨eb s.M cur v,s.f,s.n,s.top⟩:=by
 have hf:=h.fits d;refine ⟨h.nd,h.Qs,h.num,h.top,fun k l=> ?_,fun x z j b e g=> ?_,fun x z j b e g m o=> ?_⟩
 ·show eb s.M cur v k=_
  unfold eb;change k<To\/s.top<=k at l;rw [if_neg (by omega)];exact h.still k l
 ·show eb s.M cur v (z+j)=_
  unfold eb;by_cases c:z+j=cur
  ·obtain ⟨rfl,rfl⟩:=h.apart (q:=cur) b d (by omega) (by omega) (by omega) (by omega);omega
  ·rw [if_neg c];refine h.Xo x z j b e ?_;omega
 ·show (_/\eb s.M cur v (z+j)=0)\/s.f _=some (eb s.M cur v (z+j))
  unfold eb;by_cases c:z+j=cur
  ·obtain ⟨rfl,rfl⟩:=h.apart (q:=cur) b d (by omega) (by omega) (by omega) (by omega)
   grind
  ·rw [if_neg c];exact h.new x z j b (by omega) g m o
theorem lh.Xx(h:lh L sz np To ord cur s){y a i:Nat}(e:s.f y=some a)(g:cur=a+1+i)(l:i<np y)(d:np y<sz y)
  (c:L (y+1+i)≠0->s.f (L (y+1+i))=none->∀k,L (y+1+i)<=k->k<L (y+1+i)+sz (L (y+1+i))->k<To\/s.top<=k):
  ∃b,lh L sz np To b (cur+1) (s.Xx sz a i)/\(b=ord\/(L (y+1+i)≠0/\L (y+1+i)∉ord/\b=ord++[L (y+1+i)]))/\(∀x z,s.f x=some z->(s.Xx sz a i).f x=some z):=by
 have hf:=h.fits e;have o:s.M (a+1+i)=L (y+1+i):=by
  have:=h.Xo y a (1+i) e (by omega) (.inl (by omega))
  grind
 unfold iB.Xx;rw [o];generalize t:L (y+1+i)=X at*;rw [<-g];by_cases j:X=0
 ·have m:s.take sz X=(s,0):=by unfold iB.take;grind
  rw [m];exact ⟨ord,h.put e g l d (.inl ⟨by omega,rfl⟩),.inl rfl,fun _ _ h=>h⟩
 ·cases hfx:s.f X with
  |some z=>
   have m:s.take sz X=(s,z):=by unfold iB.take;grind
   rw [m];exact ⟨ord,h.put e g l d (.inr (by grind)),.inl rfl,fun _ _ h=>h⟩
  |none=>
   obtain ⟨g1,p,q,r,n⟩:=h.goes j hfx (by omega) (c j hfx);refine ⟨_,g1.put (n y a e) g l d (.inr ?_),.inr ⟨j,h.Fh.1 hfx,rfl⟩,n⟩
   grind
end
structure Fl(L:Nat->Nat)(sz np:Nat->Nat)(To Li:Nat)(R:Nat->Prop):Prop where
 some:∀x,R x->x≠0/\np x<sz x
 out:∀x,R x->∀k,x<=k->k<x+sz x->k<To\/Li<=k
 next:∀x,R x->∀i,i<np x->L (x+1+i)=0\/R (L (x+1+i))
 fit:∀l:List Nat,l.Nodup->(∀x∈l,R x)->To+n7 sz l<=Li
section
variable{L sz np:Nat->Nat}{To Li cur:Nat}{R:Nat->Prop}{ord:List Nat}{s:iB}
theorem lh.Qz(d:Fl L sz np To Li R)(h:lh L sz np To ord cur s)(t:∀x∈ord,R x){y a:Nat}(n:s.f y=some a)(I:cur=a)(c:R y):∀i,i<=np y->
  ∃b,lh L sz np To b (a+1+i) (iB.Qz sz a s i)/\(∀x∈b,R x)/\ord<+:b/\(∀x z,s.f x=some z->(iB.Qz sz a s i).f x=some z):=by
 intro i
 induction i with
 |zero=>
  intro _;have l:=(d.some y c).2;refine ⟨ord,h.skip (by omega) (fun x z j r F G H=> ?_),t,List.prefix_refl _,fun _ _ h=>h⟩;obtain ⟨rfl,rfl⟩:=h.apart (q:=z+j) r n (by omega) (by omega) (by omega) (by omega);omega
 |succ i ih=>
  intro J;obtain ⟨A,g1,o,E,g⟩:=ih (by omega);have l:=(d.some y c).2;have e:=d.next y c i (by omega);have K:=d.fit A g1.nd o;have m:=g1.top;obtain ⟨B,C,M,D⟩:=g1.Xx (g y a n) rfl (by omega) l (fun p _ k v w=>by
   have:=d.out _ (e.resolve_left p) k v w;omega)
  refine ⟨B,C,?_,?_,fun x z u=>D x z (g x z u)⟩
  ·grind
  grind
theorem lh.turned(k:Fl L sz np To Li R)(h:lh L sz np To ord cur s)(l:∀x∈ord,R x){c y:Nat}(e:ord[c]? =some y)(o:cur=To+n7 sz (ord.take c)):
  ∃a,lh L sz np To a (cur+sz y) (iB.Qz sz cur s (np y))/\(∀x∈a,R x)/\ord<+:a/\cur+sz y=To+n7 sz (a.take (c+1))/\(∀x z,s.f x=some z->(iB.Qz sz cur s (np y)).f x=some z):=by
 have b:=l y (ar e);have d:=(h.Qs y cur).2 ⟨c,e,o⟩;have v:=(k.some y b).2;obtain ⟨A,g1,m,g,i⟩:=h.Qz k l d rfl b (np y) (ag _);obtain ⟨w,rfl⟩:=id g;have p:=(aj.1 e).1;refine ⟨_,g1.skip (by omega) (fun x z j n r t u=> ?_),m,g,?_,i⟩
 ·obtain ⟨rfl,rfl⟩:=g1.apart (q:=z+j) n (i _ _ d) (by omega) (by omega) (by omega) (by omega);omega
 grind [List.take_add_one,nZ,qB]
end
structure Ie(L:Nat->Nat)(sz np:Nat->Nat)(To Li:Nat)(R:Nat->Prop)(dom:Nat->Prop):Prop where
 hd:∀x,R x->∃p t g,lw L x p t g/\sz x=1+(p+t+g)/\np x=p
 Qm:∀x,R x->x<1048576/\∀k,x<=k->k<x+sz x->dom k/\L k<18446744073709551616
 Rm:∀k,To<=k->k<Li->dom k
 low:1<=To
 Hg:Li<1048576
section
variable{L sz np:Nat->Nat}{To Li cur:Nat}{R dom:Nat->Prop}{ord:List Nat}{s:iB}
theorem qT{sz:Nat->Nat}:∀l:List Nat,(∀x∈l,1<=sz x)->l.length<=n7 sz l
 |[],_=>ao _
 |x::l,h=>by
  have b:=qT l (fun y a=>h y (bm _ a))
  grind [n7]
theorem lh.ok(c:Fl L sz np To Li R)(b:Ie L sz np To Li R dom)(h:lh L sz np To ord cur s)(w:∀x∈ord,R x)(x:Nat)(A:x=0\/R x):s.Ok dom sz x:=by
 intro r;have a:=A.resolve_left r;obtain ⟨B,C⟩:=b.Qm x a;refine ⟨B,fun hf=> ?_⟩;obtain ⟨p,t,g,l,u,D⟩:=b.hd x a;have v:=h.Fh.1 hf;have f:=c.fit (ord++[x]) (by
  rw [iw];refine ⟨h.nd,by simp,?_⟩
  grind) (fun y q=>by
  grind)
 rw [nZ,qB] at f;have o:=h.top;have n:=b.low;have i:=b.Hg;have m:=qT (sz:=sz) ord (fun y q=>by have:=(c.some y (w y q)).2;omega);have j:∀k,x<=k->k<x+sz x->s.M k=L k:=fun k d e=>h.still k (by have:=c.out x a k d e;omega)
 have z:=(c.some x a).2;refine ⟨p,t,g,⟨by rw [j x (ag _) (by omega)];exact l.1,l.2⟩,u,fun k d e=>⟨(C k d e).1,by grind⟩,by omega,by omega,fun k d e=>b.Rm k (by omega) (by omega),by rw [h.num];omega⟩
theorem lh.taken(e:Fl L sz np To Li R)(h:lh L sz np To ord cur s)(j:∀x∈ord,R x)(b:cur<=s.top)(x:Nat)(m:x=0\/R x):
  ∃a,lh L sz np To a cur (s.take sz x).1/\(∀y∈a,R y)/\ord<+:a/\(∀y z,s.f y=some z->(s.take sz x).1.f y=some z)/\((x=0/\(s.take sz x).2=0)\/(s.take sz x).1.f x=some (s.take sz x).2):=by
 by_cases d:x=0
 ·have l:s.take sz x=(s,0):=by unfold iB.take;grind
  grind
 ·have c:=m.resolve_left d
  cases hfx:s.f x with
  |some z=>
   have l:s.take sz x=(s,z):=by unfold iB.take;grind
   grind
  |none=>
   have i:=e.fit ord h.nd j;have g:=h.top;obtain ⟨g1,p,q,r,t⟩:=h.goes d hfx b (fun k n o=>by have:=e.out x c k n o;omega)
   grind
theorem lh.ok1(c:Fl L sz np To Li R)(d:Ie L sz np To Li R dom)(h:lh L sz np To ord cur s)(m:∀x∈ord,R x){y a i p t g:Nat}(j:s.f y=some a)(J:cur=a+1+i)(K:i<p)(k:R y)(e:lw L y p t g)(D:sz y=1+(p+t+g))(C:np y=p):iB.Ok1 dom sz a p t g s i:=by
 have hf:=h.fits j;have A:=c.fit ord h.nd m;have r:=h.top;have l:=d.Hg;have n:s.M (a+1+i)=L (y+1+i):=by
  have:=h.Xo y a (1+i) j (by omega) (.inl (by omega))
  grind
 have b:=c.next y k i (by omega);have B:L (y+1+i)<1048576:=by
  rcases b with o|o
  ·omega
  ·exact (d.Qm _ o).1
 obtain ⟨E,g1,u,F,v,w⟩:=h.taken c m (by omega) _ b;refine ⟨by rw [n];exact h.ok c d m _ b,⟨?_,e.2⟩,⟨?_,e.2⟩,by omega,?_,d.Rm _ (by omega) (by omega)⟩
 ·have:=h.Xo y a 0 j (by omega) (.inr (.inl rfl));rw [aP,aP] at this;rw [this];exact e.1
 ·rw [n];have z:(s.take sz (L (y+1+i))).1.M a=L y:=g1.Xo y a 0 (v y a j) (by omega) (.inr (.inl rfl));rw [z];exact e.1
 ·rw [n];rcases w with ⟨_,q⟩|q
  ·omega
  ·have G:=g1.fits q;have H:=c.fit E g1.nd u;have I:=g1.top;omega
end
section
variable{m Pg W Fs Us Hg:Nat}{mp:Nat->Bool}{kb wb:Nat}{S0:Nat->Prop}{w w0:World}{L sz np:Nat->Nat}{To Li cur:Nat}{R:Nat->Prop}{ord:List Nat}{s:iB}
def Jb(m Pg W Fs Us Hg:Nat)(mp:Nat->Bool)(kb wb:Nat)(S0:Nat->Prop)(w0:World)(L sz np:Nat->Nat)(To:Nat)(R:Nat->Prop)(ord:List Nat)(cur:Nat)(s:iB)(w:World):Prop:=
 nh m Pg W Fs Us Hg mp kb wb S0 w0 s w/\lh L sz np To ord cur s/\∀x∈ord,R x
theorem GJ(g:Fl L sz np To Li R)(p:Ie L sz np To Li R (cX W Pg mp))(h:Jb m Pg W Fs Us Hg mp kb wb S0 w0 L sz np To R ord cur s w)(b:cur<=s.top)(x:Nat)(i:x=0\/R x):
  Calls prog 148 #[kb,(x:Int)] w fun e w'=>∃(z:Nat) (a:List Nat) (s':iB),e= .returned (z:Int)/\Jb m Pg W Fs Us Hg mp kb wb S0 w0 L sz np To R a cur s' w'/\ord<+:a/\(∀y q,s.f y=some q->s'.f y=some q)/\((x=0/\z=0)\/s'.f x=some z):=by
 obtain ⟨o,c,d⟩:=h;obtain ⟨r,g1,j,k,l,n⟩:=c.taken g d b x i;refine (wE o x (c.ok g p d x i)).mono ?_;rintro e w' ⟨rfl,q⟩;exact ⟨_,r,_,rfl,⟨q,g1,j⟩,k,l,n⟩
theorem GI(n:Fl L sz np To Li R)(k:Ie L sz np To Li R (cX W Pg mp))(h:Jb m Pg W Fs Us Hg mp kb wb S0 w0 L sz np To R ord cur s w){c y:Nat}(u:ord[c]? =some y)(B:cur=To+n7 sz (ord.take c)):
  Calls prog 149 #[kb,(cur:Int)] w fun e w'=>∃(a:List Nat) (s':iB),e= .returned (.int .i64 ((cur+sz y:Nat):Int))/\Jb m Pg W Fs Us Hg mp kb wb S0 w0 L sz np To R a (cur+sz y) s' w'/\ord<+:a/\cur+sz y=To+n7 sz (a.take (c+1))/\∀x q,s.f x=some q->s'.f x=some q:=by
 obtain ⟨H,d,l⟩:=h;have j:=l y (ar u);have b:=(d.Qs y cur).2 ⟨c,u,B⟩;obtain ⟨p,t,g,o,v,z⟩:=k.hd y j;obtain ⟨N,g1,E,F,G,A⟩:=d.turned n l u B;have hf:=d.fits b;have J:=n.fit ord d.nd l;have D:=d.top;have r:=k.Hg;have C:=k.low;have I:s.M cur=L y:=d.Xo y cur 0 b (by omega) (.inr (.inl rfl));rw [z] at g1 A;refine (ES (sz:=sz) H cur p t g (by omega) (by omega) (k.Rm cur (by omega) (by omega)) ⟨by rw [I];exact o.1,o.2⟩ (fun i K=> ?_)).mono ?_
 ·obtain ⟨S,O,P,T,Q⟩:=d.Qz n l b rfl j i (by omega);exact O.ok1 n k P (Q y cur b) rfl K j o v z
 ·rintro e w' ⟨rfl,q⟩;rw [<-v];exact ⟨N,_,rfl,⟨q,g1,E⟩,F,G,A⟩
end
theorem ce.copied{A:AG}{rs:List Nat}{φ L:Nat->Nat}{lo t p:Nat}{sz F:Nat->Nat}{o:List Nat}{s:iB}(h:ce A rs φ L lo t)(g:lh L sz F p o s.top s)(G:1<=p)(r:s.f 0=none)(k:∀x,Reach A.gr rs x->sz (φ x)=A.sz x/\F (φ x)=A.np x)(w:∀x,Reach A.gr rs x->φ x∈o):
  ce A rs (fun x=>(s.f (φ x)).getD 0) s.M p s.top:=by
 have c:∀x,Reach A.gr rs x->s.f (φ x)=some ((s.f (φ x)).getD 0):=by
  intro x b;obtain ⟨j,H⟩:=bc.1 (w x b);have Q:=(g.Qs (φ x) _).2 ⟨j,H,rfl⟩
  grind
 have d:∀x,1<=A.sz x:=fun x=>by unfold AG.sz;omega
 refine ⟨?_,G,fun x b=> ?_,fun x y b C B=> ?_,fun x b=>⟨?_,(h.head x b).2⟩,fun x b i t=> ?_,fun x b i u v=> ?_⟩
 ·show (s.f (φ 0)).getD 0=0
  rw [h.zero,r];rfl
 ·have:=g.fits (c x b)
  grind
 ·have g1:=c x b;have E:=c y C;generalize (s.f (φ x)).getD 0=z at*;generalize (s.f (φ y)).getD 0=a at*;have O:=(k x b).1;have P:=(k y C).1;have J:=d x;have R:=d y;have n:φ x≠φ y:=fun e=>B (h.inj b C e)
  show z+A.sz x<=a\/a+A.sz y<=z
  rcases aN a (z+A.sz x) with K|K
  ·rcases aN z (a+A.sz y) with N|N
   ·rcases kW z a with D|D
    ·exact absurd (g.apart (q:=a) g1 E D (by omega) (ag _) (by omega)).1 n
    ·exact absurd (g.apart (q:=z) g1 E (ag _) (by omega) D (by omega)).1 n
   omega
  omega
 ·have J:=d x;have l:s.M ((s.f (φ x)).getD 0)=L (φ x):=g.Xo (φ x) _ 0 (c x b) (by grind) (.inr (.inl rfl));show s.M ((s.f (φ x)).getD 0)=_
  rw [l];exact (h.head x b).1
 ·have I:1+i<A.sz x:=by unfold AG.sz;omega
  have m:=g.fits (c x b);rw [(k x b).1] at m;have l:=g.new (φ x) _ (1+i) (c x b) (by omega) (by omega) (by grind) (by grind);rw [<-js φ,h.ptr x b i t] at l
  grind
 ·have I:1+i<A.sz x:=by unfold AG.sz;omega
  have l:=g.Xo (φ x) _ (1+i) (c x b) (by grind) (.inr (.inr (by grind)));rw [<-js φ] at l;show s.M ((s.f (φ x)).getD 0+1+i)=_/\_
  rw [cv,l];exact h.val x b i u v
theorem ce.shut{A:AG}{rs:List Nat}{φ L:Nat->Nat}{lo e o:Nat}{sz n:Nat->Nat}{b:List Nat}{s:iB}(h:ce A rs φ L lo e)(d:lh L sz n o b s.top s)(k:∀x,Reach A.gr rs x->sz (φ x)=A.sz x/\n (φ x)=A.np x)(g:∀x∈rs,x≠0->φ x∈b):∀x,Reach A.gr rs x->φ x∈b:=by
 intro x r
 induction r with
 |root h1 h2=>grind
 | @step a p h0 h1 h2 ih=>
  obtain ⟨i,e,rfl⟩:=bw.1 h1;have f:=bO.1 e;obtain ⟨j,q⟩:=bc.1 ih;have l:=(d.Qs (φ a) _).2 ⟨j,q,rfl⟩;have v:1+i<A.sz a:=by unfold AG.sz;omega
  have c:=d.fits l;rw [(k a h0).1] at c;have m:=d.new (φ a) _ (1+i) l (by omega) (by omega) (by grind) (by grind);rw [<-js φ,h.ptr a h0 i f] at m;have t:=h.pos (.step h0 h1 h2);rcases m with ⟨g1,_⟩|g1
  ·omega
  ·obtain ⟨w,u,_⟩:=(d.Qs _ _).1 g1
   grind
theorem ce.cpr{A:AG}{rs:List Nat}{φ L:Nat->Nat}{lo c g f:Nat}{sz n:Nat->Nat}(h:ce A rs φ L lo c)(e:∀x,Reach A.gr rs x->sz (φ x)=A.sz x/\n (φ x)=A.np x)(m:c<=g\/f<=lo)(d:∀l:List Nat,l.Nodup->(∀a∈l,∃x,Reach A.gr rs x/\φ x=a)->g+n7 sz l<=f):
  Fl L sz n g f (fun a=>∃x,Reach A.gr rs x/\φ x=a):=by
 refine ⟨?_,?_,?_,d⟩
 ·rintro a ⟨x,b,rfl⟩;have o:=h.pos b
  grind [AG.sz]
 ·rintro a ⟨x,b,rfl⟩ k q p;rw [(e x b).1] at p;have o:=h.Qm x b;omega
 ·rintro a ⟨x,b,rfl⟩ i c;rw [(e x b).2] at c;rw [h.ptr x b i c];by_cases j:A.Qv x i=0
  ·rw [j];exact .inl h.zero
  ·exact .inr ⟨_,AG.Ql b c j,rfl⟩
theorem lh.none(L sz b:Nat->Nat)(a:Nat):lh L sz b a [] a ⟨L,fun _=>Option.none,0,a⟩:=by
 refine ⟨List.nodup_nil,fun x z=> ?_,rfl,rfl,fun _ _=>rfl,fun x z i h=> ?_,fun x z i h=> ?_⟩
 ·grind
 ·grind
 grind
theorem zr(sz:Nat->Nat)(N:Nat):∀(l:List Nat) (f:Nat->Bool),l.Nodup->(∀a∈l,a+sz a<=N/\∀k,a<=k->k<a+sz a->f k=true)->(∀a∈l,∀b∈l,a≠b->a+sz a<=b\/b+sz b<=a)->n7 sz l<=Qc f 0 N
 |[],_,_,_,_=>ao _
 |x::l,f,hn,h1,h2=>by
  obtain ⟨D,o⟩:=List.nodup_cons.1 hn;obtain ⟨q,e⟩:=h1 x (cw);have p:=zr sz N l (fun k=>f k&& !(decide (x<=k)&&decide (k<x+sz x))) o (fun a d=>by
   obtain ⟨r,s⟩:=h1 a (bm _ d)
   grind) (fun a d b j=>h2 a (bm _ d) b (bm _ j))
  have t:=bp f (a:=0) (m:=x) (b:=N) (by omega) (by omega);have u:=bp f (a:=x) (m:=x+sz x) (b:=N) (by omega) (by omega);have v:Qc f x (x+sz x)=sz x:=by rw [pO e];omega
  generalize hg:(fun k=>f k&& !(decide (x<=k)&&decide (k<x+sz x)))=g at p;have n:∀k,g k=(f k&& !(decide (x<=k)&&decide (k<x+sz x))):=fun k=>by grind
  have c:∀k,k<x\/x+sz x<=k->g k=f k:=fun k C=>by
   simp_all
  have w:=bp g (a:=0) (m:=x) (b:=N) (by omega) (by omega);have y:=bp g (a:=x) (m:=x+sz x) (b:=N) (by omega) (by omega);have z:Qc g 0 x=Qc f 0 x:=bY (fun i _ h=>c i (.inl h));have A:Qc g (x+sz x) N=Qc f (x+sz x) N:=bY (fun i h _=>c i (.inr h));have B:Qc g x (x+sz x)=0:=bP (fun k E F=>by grind)
  grind [n7]
end Go.Proofs.YtgnoapadkncphaaGreatDoor
