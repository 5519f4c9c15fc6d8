import Derived.Test.YthahbijbpinneaaGreatDoorA15
import Derived.Test.YthahbijbpinneaaGreatDoorA16
import Derived.Test.YthahbijbpinneaaGreatDoorA17
import Derived.Test.YthahbijbpinneaaGreatDoorA18
import Derived.Test.YthahbijbpinneaaGreatDoorA19
set_option maxRecDepth 100000
set_option maxHeartbeats 8000000
set_option linter.all false
namespace Go.Proofs.YthahbijbpinneaaGreatDoor
open Go.RowKit
def eH (b:Nat) (c:Cf) (m rb:Nat) (cy:Option Nat) (ns bs:Int) (Ba top wd:Nat) (w w':World):Prop:=∃ub',gq w' b c m rb ub' cy ns bs∧bR w' ub' m Ba top (Ba+wd)∧w.heap.size<=ub'∧Fr (fun k=>k=b) w w'
section
variable {b m rb ub:Nat} {c:Cf} {cy:Option Nat} {ns bs:Int} {w w' w'':World}
theorem eH.size {Ba top a:Nat} (h:eH b c m rb cy ns bs Ba top a w w'):w.heap.size<=w'.heap.size:=let ⟨_,_,_,_,h⟩:=h;h.size
theorem nR {S:Nat->Prop} {Pg W Rm Us Hg:Nat} {mp:Nat->Bool} {M:Nat->Nat} (h:gq w b c m rb ub cy ns bs) (hm:bn w m S Pg W Rm Us Hg mp M) (Ba top:Nat) (s:Ba<=top) (o:top<=Ba+c.Wd) (J:Ba+c.Wd<=W):
  Calls Tryz.prog 73 #[b,.int .i64 Ba,.int .i64 top] w fun e w'=>e= .returned (.tuple #[])∧eH b c m rb cy ns bs Ba top c.Wd w w':=by
 obtain ⟨i,r⟩:∃i,i=c.Wd:=⟨_,rfl⟩;have ap:=hm.at.2.2.1;rw [<-r] at o J;have P:=ae (fun w1 (hf:Fr (fun _=>False) w.drew w1)=>(show w1.cell? ⟨b,8,none⟩=some (.pointer (some ⟨m,0,none⟩))∧w1.cell? ⟨b,3,none⟩=some (.int .i64 i) from by
  have g:aj w1 b _ _:=aj.frame h (((Fr.refl (fun _=>False) w).drew).trans hf (fun _ h=>h.elim)) (fun h=>h);rw [r];exact ⟨g.cell 8 rfl,g.cell 3 rfl⟩))
 have B:=ae (fun w1 (hf:Fr (fun _=>False) w.drew w1)=>mf (hm.keep (((Fr.refl (fun _=>False) w).drew).trans hf (fun _ h=>h.elim))) Ba (Ba+i) (by omega) J);have aq:IntKind.i64.wrap ((Ba:Int)+(i:Int))=((Ba+i:Nat):Int):=by rw [IntKind.wrap_i64];push_cast;omega
 have HH:=ae h;have q:=aj.lt h;have E:=ae (fun w1 d (f:bR w1 d m Ba Ba (Ba+i))=>nx f top s o);have HQ:Hid (∀d w1 w2,w.heap.size<=d->Fr (fun k=>k=b) w w1->gq w1 b c m rb d cy ns bs->bR w2 d m Ba top (Ba+i)->Fr (fun k=>k=d) w1 w2->eH b c m rb cy ns bs Ba top c.Wd w w2):=by
  show∀d w1 w2,_
  intro d w1 w2 l G n I a5;have hb:=aj.lt h;refine ⟨d,aj.frame n a5 (fun e=>by omega),by rw [<-r];exact I,l,G.trans a5 (fun k hk=> .inr (by omega))⟩
 have k8:w.cell? ⟨b,8,none⟩=some (.pointer (some ⟨m,0,none⟩)):=aj.cell h 8 rfl;clear h hm s o J;have ah:=ae r;clear r;generalize (eH b c m rb cy ns bs Ba top c.Wd w)=Q at*
 go_enter Tryz.func73,Tryz.ntmps73
 go_wp2;refine aS 20 19 (fun a R=>Fr (fun k=>k=b) a R) (fun a R=>Fr (fun _=>False) a R) [.c (.pointer (some ⟨b,0,none⟩)),.c (.pointer (some ⟨b,0,none⟩)),.c (.pointer (some ⟨b,0,none⟩)),.c (.pointer (some ⟨b,8,none⟩)),.c (.pointer (some ⟨m,0,none⟩)),.c (.int .i64 Ba),.c (.int .i64 Ba),.c (.pointer (some ⟨b,0,none⟩)),.c (.pointer (some ⟨b,0,none⟩)),.c (.pointer (some ⟨b,0,none⟩)),.c (.pointer (some ⟨b,3,none⟩)),.c (.int .i64 i),.c (.int .i64 (((Ba+i:Nat)):Int)),.p (fun v w'=>∃ub,w.heap.size<=ub∧v= .tuple #[.pointer (some ⟨ub,0,none⟩),.int .i64 0]∧bR w' ub m Ba Ba (Ba+i)),.p (fun v w'=>∃ub,w.heap.size<=ub∧v= .tuple #[.pointer (some ⟨ub,0,none⟩),.int .i64 0]∧bR w' ub m Ba Ba (Ba+i)),.p (fun v w'=>∃ub,w.heap.size<=ub∧v= .pointer (some ⟨ub,0,none⟩)∧bR w' ub m Ba Ba (Ba+i)),.p (fun v w'=>True),.c (.pointer (some ⟨b,0,none⟩)),.c (.pointer (some ⟨b,10,none⟩)),.p (fun v w'=>∃ub,w.heap.size<=ub∧bR w' ub m Ba Ba (Ba+i)∧gq w' b c m rb ub cy ns bs)] (fun j=>false) (by kernel_rfl) (by kernel_rfl) (by kernel_rfl) (by kernel_rfl) rfl (fun _=>Fr.refl _ _) (fun _ _ h=>h.mono (fun _ h=>h.elim)) (fun _ _ _ s o=>s.trans o (fun _ h=>h.elim)) (fun _ _ _ s o=>s.trans o (fun _ h=>h.elim)) (fun _ _ _ s o=>(s.mono (fun _ h=>h.elim)).trans o (fun _ h=> .inl h)) (fun _ _ h=>h.size) ⟨fun v w1 w2 h f=>let ⟨ub,a,b,c⟩:=h;⟨ub,a,b,aj.frame c f (fun h=>h)⟩,fun v w1 w2 h f=>let ⟨ub,a,b,c⟩:=h;⟨ub,a,b,aj.frame c f (fun h=>h)⟩,fun v w1 w2 h f=>let ⟨ub,a,b,c⟩:=h;⟨ub,a,b,aj.frame c f (fun h=>h)⟩,fun _ _ _ h _=>h,fun v w1 w2 h f=>let ⟨ub,a,b,c⟩:=h;⟨ub,a,aj.frame b f (fun h=>h),aj.frame c f (fun h=>h)⟩,trivial⟩ ⟨.inr (fun v w1 w2 h f=>let ⟨ub,a,b,c⟩:=h;⟨ub,a,b,aj.frame c f (fun e=>by have:=q;omega)⟩),.inr (fun v w1 w2 h f=>let ⟨ub,a,b,c⟩:=h;⟨ub,a,b,aj.frame c f (fun e=>by have:=q;omega)⟩),.inr (fun v w1 w2 h f=>let ⟨ub,a,b,c⟩:=h;⟨ub,a,b,aj.frame c f (fun e=>by have:=q;omega)⟩),.inr (fun _ _ _ h _=>h),.inl rfl,trivial⟩ ?_;intro F hF;simp only [cU,PK.val,List.take_succ_cons,List.take_zero,aa,ab,ac] at hF;subst hF;refine ⟨by
  refine ⟨?_,?_,?_,?_,?_,?_,?_,?_,?_,?_,?_,?_,?_,?_,?_,?_,?_,?_,?_,?_,trivial⟩<;>intro vs w1 hw t O hx
  all_goals try (apply oV;rotate_left;rfl;exact Fr.refl _ _;go_simp;done)
  all_goals try (apply oV;rotate_left;rfl;exact Fr.refl _ _;have u:=t (by kernel_rfl);have k8:=(P.out w1 u).1;go_simp;done)
  all_goals try (apply oV;rotate_left;rfl;exact Fr.refl _ _;have u:=t (by kernel_rfl);have k3:=(P.out w1 u).2;go_simp;done)
  ·have u:=t (by kernel_rfl);refine ar 121 #[m,.int .i64 Ba,.int .i64 ((Ba+i:Nat):Int)] (by go_simp) ((B.out w1 u).mono ?_);rintro e w5 ⟨ub,rfl,s,o,J⟩;exact ⟨_,rfl,⟨ub,Nat.le_trans u.size o,rfl,s⟩,J,fun h=>nomatch h⟩
  ·have Z:=O 13 (by kernel_rfl);obtain ⟨ub,l,G,n⟩:=Z;refine ao (.tuple #[ub,.int .i64 0]) (by go_simp) ⟨⟨ub,l,rfl,n⟩,Fr.refl _ _,fun h=>nomatch h⟩
  ·have x:=O 14 (by kernel_rfl);obtain ⟨ub,l,G,n⟩:=x;refine ao (.pointer (some ⟨ub,0,none⟩)) (by go_simp) ⟨⟨ub,l,rfl,n⟩,Fr.refl _ _,fun h=>nomatch h⟩
  ·have x:=O 14 (by kernel_rfl);obtain ⟨ub,l,G,n⟩:=x;refine ao (.int .i64 0) (by go_simp) ⟨trivial,Fr.refl _ _,fun h=>nomatch h⟩
  ·have ad:=O 15 (by kernel_rfl);obtain ⟨ub,l,G,n⟩:=ad;have u:=t (by kernel_rfl);have y:gq w1 b c m rb _ cy ns bs:=aj.frame HH.out (((Fr.refl (fun _=>False) w).drew).trans u (fun _ h=>h.elim)) (fun h=>h);have N:=aj.cell y 10 rfl;have am:=aj.free y 10;refine bZ (w':=w1.setCell ⟨b,10,none⟩ (.pointer (some ⟨ub,0,none⟩))) (by go_simp) ⟨⟨ub,l,aj.frame n ((Fr.refl (fun k=>k=b) w1).setCell ⟨b,10,none⟩ (.inl rfl) _) (fun e=>by have:=q;omega),y.set 10 _⟩,(Fr.refl (fun k=>k=b) w1).setCell ⟨b,10,none⟩ (.inl rfl) _,fun h=>nomatch h⟩
  ,fun vs w1 hw hp hx=> ?_⟩
 obtain ⟨T,U,V,X,Y,_⟩:=hp;obtain ⟨ub,l,n,I⟩:=Y;clear T U V X hx;simp only [List.drop_succ_cons,List.drop_zero];have D:=ae n;have A:=ae I;have C:=ae ((show Fr (fun k=>k=b) w w.drew from (Fr.refl _ _).drew).trans hw (fun _ h=> .inl h));have z:=ae l;have N:=aj.cell I 10 rfl;clear hw l n I P B HH q;go_wp2_with fail
 refine (E.out _ _ D.out).mono ?_;intro e w5 hp;obtain ⟨rfl,L,K⟩:=hp;have H:=ae (HQ.out ub w1 w5 z.out C.out A.out L K);clear L K HQ D C z E A N;go_wp2;go_end0;exact ⟨rfl,H.out⟩
theorem wE.keep {A:AG} {rs:List Nat} {u n:Nat} {T:Nat->Prop} (a:wE b c A rs u n T w) (hf:Fr (fun _=>False) w w'):wE b c A rs u n T w':=by
 obtain ⟨h,φ,L,Ba,ub,cy,ns,bs,S,d,e,f⟩:=a;exact ⟨h,φ,L,Ba,ub,cy,ns,bs,S,d,e.keep hf,f⟩
def ua (b:Nat) (c:Cf) (A:AG) (rs:List Nat) (T:Nat->Prop) (w:World) (e:Ending) (w':World):Prop:=e= .returned (.tuple #[])∧∃l n' T',aJ A rs l∧bM b c A rs (A.Wd l) n' T' w'∧Fr T w w'∧∀k,T' k->T k∨w.heap.size<=k
end
def Af (b m rb:Nat) (c:Cf) (ns bs:Int) (A:AG) (rs:List Nat) (T:Nat->Prop) (w:World) (To y tp wd:Nat) (w6:World):Prop:=
 (∀w7,Fr (fun _=>False) w6 w7->Calls Tryz.prog 130 #[y] w7 fun e w'=>e= .returned (.int .i64 tp)∧Fr (fun _=>False) w7 w')∧
 (∀w7,Fr (fun _=>False) w6 w7->Calls Tryz.prog 73 #[b,.int .i64 To,.int .i64 tp] w7 fun e w'=>e= .returned (.tuple #[])∧eH b c m rb (some y) ns bs To tp wd w7 w')∧
 (∀w7 w8,Fr (fun _=>False) w6 w7->eH b c m rb (some y) ns bs To tp wd w7 w8->∃l n T1,aJ A rs l∧wE b c A rs (A.Wd l) n T1 w8∧Fr T w w8∧∀k,T1 k->T k∨w.heap.size<=k)
section
variable {b u n Ba ub:Nat} {h:Hp} {c:Cf} {A:AG} {rs:List Nat} {T S:Nat->Prop} {φ L:Nat->Nat} {ns bs:Int} {w w1 w5 w6:World}
theorem vA (v:eT (fun _=>True) h c A rs φ L Ba u ub none 0 ns bs S w) (C:∀k,T k↔eZ h ub S k) (a:c.kind=1) (hf:Fr (fun _=>False) w w1) {e:Ending} (ho:jz h.m h.rb h.rg c.Pg c.W c.Fs A rs (2*c.Pg+c.Wd-Ba) (2*c.Pg+c.Wd-Ba+c.Wd) c.block c.Ah S w1 e w5):
  ∃y tp,e= .returned (.tuple #[.pointer (some ⟨y,0,none⟩),.int .i64 0])∧gq w5 h.b c h.m h.rb ub none ns bs∧(∀E cs t,w.heap.size<=E->aj w1 E cs t->aj w5 E cs t)∧∀w6,Fr (fun k=>k=h.b) w5 w6->gq w6 h.b c h.m h.rb ub (some y) ns bs->Af h.b h.m h.rb c ns bs A rs T w (2*c.Pg+c.Wd-Ba) y tp c.Wd w6:=by
 have B:=v.keep hf;have j:=v.half.other (by omega);have Y:=j.le;have K:=j.top;generalize 2*c.Pg+c.Wd-Ba=To at ho j Y K ⊢;obtain ⟨P,s,X,hg,φ',L',S',l,rfl,r1,r2,r3,r4,r5,r6,r7,q1,q2,q3,q4,q5,q6,q7,q8,O,a4,ad⟩:=ho;obtain ⟨ah,_⟩:=v.cok.W5;have f:=B.lt;have ax:=hf.size;have a3:=O.size;obtain ⟨e1,Q,e3,e4,e5,F,e7,e8,e9⟩:=v.e;have hd:=v.d;have aq:aN<w1.heap.size:=aD (B.tab 0 0 rfl);have G:gq w5 h.b c h.m h.rb ub none ns bs:=aj.frame B.blk O (fun r=>r.elim (fun r=>(hd _ r).1 rfl) (fun e=>Q e));have ap:=aj.lt G;refine ⟨P.y,To+A.Wd l,rfl,G,fun E cs t am hb=>aj.frame hb O (fun r=> ?_),fun w6 q R=> ?_⟩
 ·have J:=v.lt;have h3:=J h.rg (.inr (.inr (.inr (.inl rfl))));rcases r with r|r
  ·have:=J E (.inl r);omega
  ·omega
 have U:∀k,S' k->k<w5.heap.size:=q2.lt;have p:∀k,S' k->k≠h.b∧k≠h.rb∧k≠h.rg∧k≠ub∧k≠aN:=fun k a=>by
  rcases q8 k a with x|x
  ·exact hd k x
  ·have h2:=f h.b (.inr (.inl rfl));have h3:=f h.rb (.inr (.inr (.inl rfl)));have h4:=f h.rg (.inr (.inr (.inr (.inl rfl))));have h5:=f ub (.inr (.inr (.inr (.inr rfl))));exact ⟨by omega,by omega,by omega,by omega,by omega⟩
 have a0:=q.size;obtain ⟨Us,z⟩:=q2.su;refine ⟨fun w7 g=> ?_,fun w7 g=> ?_,fun w7 w8 g hp=> ?_⟩
 ·have o:=(z.stays q (fun k a=>(p k a).1) (Ne.symm F)).stays g (fun _ _ h=>h) (fun h=>h);obtain ⟨Hg,Sm,mp,M,fw,n,D,p2,p3,p4,p5⟩:=o;have x:=wo D.blk D.plan (by rw [D.to_,r2];omega);refine x.mono ?_;rintro e w' ⟨rfl,h2⟩;rw [D.to_,r2,ad];exact ⟨rfl,h2⟩
 ·have o:=(z.stays q (fun k a=>(p k a).1) (Ne.symm F)).stays g (fun _ _ h=>h) (fun h=>h);obtain ⟨Hg,Sm,mp,M,fw,n,D,p2,p3,p4,p5⟩:=o;have hm:=D.mem;rw [r1,r4] at hm;exact nR (aj.frame R g (fun h=>h)) hm To (To+A.Wd l) (by omega) q5 K
 ·obtain ⟨N,V,Z,av,H⟩:=hp;have a1:=g.size;have a2:=H.size;have i:Fr (fun k=>k=h.b) w5 w8:=(q.trans g (fun _ h=>h.elim)).trans H (fun _ h=> .inl h);have I:A.Wd l<=c.Wd:=by omega
  refine ⟨l,s.nb,eZ h N S',q3,⟨h,φ',L',To,N,some P.y,ns,bs,S',rfl,⟨v.cok,V,q6.frame i (Ne.symm e1) (Ne.symm Q),Z,ak q7 i (Ne.symm F),q4,v.Sl,I,j,⟨a,P,s,X,hg,_,0,0,q1,⟨Us,trivial,z.stays i (fun k a=>(p k a).1) (Ne.symm F)⟩,rfl,r1,r2,r3,by rw [r5];congr 1;omega,r4,r6,r7⟩,fun k a=> ?_,e1,Q,?_,?_,?_,F,e7,?_,e9⟩,fun k=>Iff.rfl⟩,?_,?_⟩
  ·have h9:=U k a;have:=p k a;exact ⟨this.1,this.2.1,this.2.2.1,by omega,this.2.2.2.2⟩
  ·have:=f h.b (.inr (.inl rfl));omega
  ·have:=f h.rb (.inr (.inr (.inl rfl)));omega
  ·have:=f h.rg (.inr (.inr (.inr (.inl rfl))));omega
  ·omega
  ·refine (((hf.mono (fun _ h=>h.elim)).trans O (fun k a=> .inl ?_)).trans i (fun k a=> .inl ?_))
   ·exact (C k).2 (a.elim .inl (fun e=> .inr (.inr (.inr (.inl e)))))
   ·exact (C k).2 (.inr (.inl a))
  ·rintro k (a|a|a|a|a)
   ·rcases q8 k a with x|x
    ·exact .inl ((C k).2 (.inl x))
    ·exact .inr (by omega)
   ·exact .inl ((C k).2 (.inr (.inl a)))
   ·exact .inl ((C k).2 (.inr (.inr (.inl a))))
   ·exact .inl ((C k).2 (.inr (.inr (.inr (.inl a)))))
   ·exact .inr (by omega)
theorem jS (hi:bM b c A rs u 0 T w) (hk:c.kind=1):Calls Tryz.prog 58 #[b] w (ua b c A rs T w):=by
 obtain ⟨h,φ,L,Ba,ub,cy,ns,bs,S,rfl,f,hT,a8⟩:=hi;obtain rfl:=a8 rfl;have X:=ae (lp f.cok f.blk f.reg (by have:=f.half.le;omega));have s:=ae (fun w1 (hf:Fr (fun _=>False) w w1)=>(show Calls Tryz.prog 129 #[h.m,.pointer (some ⟨h.rb,0,none⟩),cP Ba (Ba+u) (2*c.Pg+c.Wd-Ba) (2*c.Pg+c.Wd-Ba+c.Wd) c.block c.stack c.Ah] w1 (jz h.m h.rb h.rg c.Pg c.W c.Fs A rs (2*c.Pg+c.Wd-Ba) (2*c.Pg+c.Wd-Ba+c.Wd) c.block c.Ah S w1) from by
  obtain ⟨_,Us,Hg,mp,hm,cb⟩:=(f.keep hf).mem;refine callsIn_wide.1 (wg 0 hm (f.keep hf).roots (f.keep hf).tab (fun h=>(f.d _ h).2.2.2.2 rfl) ⟨fun h=>(f.d _ h).2.1 rfl,fun h=>(f.d _ h).2.2.1 rfl⟩ f.e.2.2.2.2.2.2.1 Ba (Ba+u) _ _ c.block c.stack c.Ah (f.half.conf f.cok (by omega) f.fits) f.laid (by have:=f.cok.slots1;have:=f.Sl;omega) (by have:=f.fits;omega) cb ?_ f.cok.div);unfold Cf.Fs Cf.spare;rw [if_pos hk,Nat.add_sub_cancel_left];rfl))
 have a4:=ae (fun w1 w5 e (hf:Fr (fun _=>False) w w1) ho=>vA (e:=e) (w5:=w5) f hT hk hf ho);have aq:=ae (fun u n t w1 (hj:wE h.b c A rs u n t w1)=>mn hj);have U:=ae f.blk;have bj:Hid ((Tryz.prog.info? 143).map (·.size)=some 7):=by show _=_;kernel_rfl
 have cd:=ae (vx Ba (Ba+u:Nat) (2*c.Pg+c.Wd-Ba:Nat) (2*c.Pg+c.Wd-Ba+c.Wd:Nat) c.block c.stack c.Ah);have HQ:Hid (∀w1 e w2 l n t,aJ A rs l->Fr T w w1->(∀k,t k->T k∨w.heap.size<=k)->yA h.b c A rs (A.Wd l) n t w1 e w2->e= .returned (.tuple #[])∧ua h.b c A rs T w (.returned (.tuple #[])) w2):=by
  show∀w1 e w2 l n t,_
  rintro w1 e w2 l n t g0 g1 g2 ⟨rfl,T2,g3,g4,g5⟩;have hz:=g1.size;exact ⟨rfl,rfl,l,n,T2,g0,g3,g1.trans g4 g2,fun k hk=>(g5 k hk).elim (g2 k) (fun h=> .inr (by omega))⟩
 clear f hT a8;unfold cP at X s;generalize (ua h.b c A rs T w)=Q at*;generalize 2*c.Pg+c.Wd-Ba=To at*;generalize To+c.Wd=Li at*;generalize Ba+u=Tp at*;obtain ⟨b,m,rb,rg⟩:=h;dsimp only at*
 go_enter Tryz.func58,Tryz.ntmps58
 go_wp2_with fail
 refine (X.out).mono ?_;rintro e w2 ⟨rfl,ah⟩;obtain ⟨z,a5⟩:∃z,w2.alloc (.cells #[.int .i64 Ba,.int .i64 Tp,.int .i64 To,.int .i64 Li,.int .i64 (c.block:Int),.int .i64 (c.stack:Int),.int .i64 (c.Ah:Int)] 143)=z:=⟨_,rfl⟩;have K:Fr (fun _=>False) w z.drew:=by rw [<-a5];exact (ah.alloc _).drew
 have V:Hid (aj z.drew w2.heap.size [.int .i64 Ba,.int .i64 Tp,.int .i64 To,.int .i64 Li,.int .i64 (c.block:Int),.int .i64 (c.stack:Int),.int .i64 (c.Ah:Int)] 143):=by rw [<-a5];exact ae (aj.new w2 _ _)
 have Y:gq z.drew b c m rb ub none ns bs:=aj.frame U.out K (fun h=>h);have k8:=aj.cell Y 8 rfl;have k9:=aj.cell Y 9 rfl;have N:=ae (s.out z.drew K);have O:=ae (fun w5 e ho=>a4.out z.drew w5 e K ho);have C:Hid (∀e w5,jz m rb rg c.Pg c.W c.Fs A rs To Li c.block c.Ah S z.drew e w5->z.drew.heap.size<w5.heap.size):=ae (fun e w5 h=>by
  obtain ⟨_,_,_,_,_,_,_,_,_,_,_,_,_,_,_,_,_,_,_,_,_,_,_,_,_,i,_⟩:=h;exact i)
 have I:Hid (∀e w5,jz m rb rg c.Pg c.W c.Fs A rs To Li c.block c.Ah S z.drew e w5->∃y,e= .returned (.tuple #[.pointer (some ⟨y,0,none⟩),.int .i64 0])):=ae (fun e w5 h=>by
  obtain ⟨_,_,_,_,_,_,_,_,i,_⟩:=h;exact ⟨_,i⟩)
 generalize (jz m rb rg c.Pg c.W c.Fs A rs To Li c.block c.Ah S z.drew)=OPN at*;have av:=ae ah;have ap:=U;clear ah X K Y s a4 U;generalize c.block=bk at*;generalize c.stack=sk at*;generalize c.Ah=ad at*;have s:=N;clear N;go_wp2;refine aS 15 9 (fun a B=>(B=a∨a=z.drew)∧a.heap.size<=B.heap.size) (fun a B=>B=a) [.c (.pointer (some ⟨b,0,none⟩)),.c (.pointer (some ⟨b,0,none⟩)),.c (.pointer (some ⟨b,8,none⟩)),.c (.pointer (some ⟨m,0,none⟩)),.c (.pointer (some ⟨b,0,none⟩)),.c (.pointer (some ⟨b,0,none⟩)),.c (.pointer (some ⟨b,9,none⟩)),.c (.pointer (some ⟨rb,0,none⟩)),.c (.agg #[.int .i64 Ba,.int .i64 Tp,.int .i64 To,.int .i64 Li,.int .i64 bk,.int .i64 sk,.int .i64 ad]),.p (fun v w'=>OPN (.returned v) w'),.p (fun v w'=>OPN (.returned v) w'),.p (fun v w'=>∃y,v= .pointer (some ⟨y,0,none⟩)∧OPN (.returned (.tuple #[.pointer (some ⟨y,0,none⟩),.int .i64 0])) w'),.c (.int .i64 0),.p (fun v w'=>∃y,v= .pointer (some ⟨y,0,none⟩)∧OPN (.returned (.tuple #[.pointer (some ⟨y,0,none⟩),.int .i64 0])) w'),.c (.int .i64 0)] (fun j=>false) (by kernel_rfl) (by kernel_rfl) (by kernel_rfl) (by kernel_rfl) rfl (fun _=>rfl) (fun _ _ h=>⟨.inl h,by rw [h];exact Nat.le_refl _⟩) (fun _ _ _ i r=>r.trans i) (fun _ _ _ i r=>by subst r;exact i) (fun _ _ _ i r=>by subst i;exact r) (fun _ _ h=>h.2) ⟨fun v w1 w2 h o=>by subst o;exact h,fun v w1 w2 h o=>by subst o;exact h,fun v w1 w2 h o=>by subst o;exact h,fun v w1 w2 h o=>by subst o;exact h,trivial⟩ ⟨.inl rfl,.inr (fun v w1 w2 h o=>by rcases o.1 with e|e;(subst e;exact h);(subst e;exact absurd (C.out _ _ h) (Nat.lt_irrefl _))),.inr (fun v w1 w2 h o=>by rcases o.1 with e|e;(subst e;exact h);(subst e;obtain ⟨y,_,h⟩:=h;exact absurd (C.out _ _ h) (Nat.lt_irrefl _))),.inr (fun v w1 w2 h o=>by rcases o.1 with e|e;(subst e;exact h);(subst e;obtain ⟨y,_,h⟩:=h;exact absurd (C.out _ _ h) (Nat.lt_irrefl _))),trivial⟩ ?_;intro F hF;simp only [cU,PK.val,List.take_succ_cons,List.take_zero,aa,ab,ac] at hF;subst hF;refine ⟨by
  refine ⟨?_,?_,?_,?_,?_,?_,?_,?_,?_,?_,?_,?_,?_,?_,?_,trivial⟩<;>intro vs w1 f q hd hx
  all_goals try (apply oV;rotate_left;rfl;exact rfl;go_simp;done)
  all_goals try (apply oV;rotate_left;rfl;exact rfl;have E:=q (by kernel_rfl);subst E;go_simp;done)
  ·have E:=q (by kernel_rfl);subst E;refine ao (.agg #[.int .i64 Ba,.int .i64 Tp,.int .i64 To,.int .i64 Li,.int .i64 bk,.int .i64 sk,.int .i64 ad]) ?_ ⟨rfl,rfl,fun h=>nomatch h⟩;exact dI rfl w2.heap.size rfl 143 _ (0,0) _ V.out Tryz.underlying143 rfl bj.out
  ·have E:=q (by kernel_rfl);subst E;refine ar 129 #[m,.pointer (some ⟨rb,0,none⟩),.agg #[.int .i64 Ba,.int .i64 Tp,.int .i64 To,.int .i64 Li,.int .i64 bk,.int .i64 sk,.int .i64 ad]] (by go_simp) ((s.out).mono ?_);intro e w5 hp;have hz:=C.out e w5 hp;obtain ⟨y,rfl⟩:=I.out e w5 hp;exact ⟨_,rfl,hp,⟨.inr rfl,Nat.le_of_lt hz⟩,fun h=>nomatch h⟩
  ·have h9:=hd 9 (by kernel_rfl);refine ao (vs 9) (by go_simp) ⟨h9,rfl,fun h=>nomatch h⟩
  ·have g:=hd 10 (by kernel_rfl);have g:OPN (.returned (vs 10)) w1:=g;obtain ⟨y,R⟩:=I.out _ _ g;have bd:=Ending.returned.inj R;rw [bd] at g;refine ao (.pointer (some ⟨y,0,none⟩)) (by go_simp) ⟨⟨y,rfl,g⟩,rfl,fun h=>nomatch h⟩
  ·have g:=hd 10 (by kernel_rfl);have g:OPN (.returned (vs 10)) w1:=g;obtain ⟨y,R⟩:=I.out _ _ g;have bd:=Ending.returned.inj R;clear R g;refine ao (.int .i64 0) (by go_simp) ⟨rfl,rfl,fun h=>nomatch h⟩
  ·have b7:=hd 11 (by kernel_rfl);obtain ⟨y,R,ho⟩:=b7;refine ao (.pointer (some ⟨y,0,none⟩)) (by go_simp) ⟨⟨y,rfl,ho⟩,rfl,fun h=>nomatch h⟩
  ,fun vs w1 f hp hx=> ?_⟩
 obtain ⟨g9,b0,b5,b6,_⟩:=hp;obtain ⟨y,R,a9⟩:=b6;simp only [R];clear g9 b0 b5 hx R f;simp only [List.drop_succ_cons,List.drop_zero];obtain ⟨y',tp,e1,J,P,hJ⟩:=O.out _ _ a9;have e2:y=y':=by
  have i:=congrArg (fun x=>match x with|Ending.returned (.tuple #[.pointer (some a),_])=>a.block|_=>0) e1;exact i
 subst e2;have a7:=P _ _ _ av.out.size V.out;clear e1 P a9 V s C I O k8 k9;have am:Fr (fun k=>k=b) w1 (w1.setCell ⟨b,11,none⟩ (.pointer (some ⟨y,0,none⟩))):=(Fr.refl (fun k=>k=b) w1).setCell ⟨b,11,none⟩ (.inl rfl) _;have b9:=aj.lt ap.out;have D:=hJ _ am (J.set 11 (.pointer (some ⟨y,0,none⟩)));have Z:=aj.frame a7 am (fun e=>by have:=av.out.size;omega);have cc:=aj.cell J 11 rfl;have bo:=aj.free J 11;obtain ⟨G,a6⟩:∃G,w1.setCell ⟨b,11,none⟩ (.pointer (some ⟨y,0,none⟩))=G:=⟨_,rfl⟩;rw [a6] at D Z;have a3:=ae (fun w1 (hf:Fr (fun _=>False) G.drew w1)=>D.1 w1 (((Fr.refl (fun _=>False) G).drew).trans hf (fun _ h=>h.elim)));have a0:=ae (fun w1 (hf:Fr (fun _=>False) G.drew w1)=>D.2.1 w1 (((Fr.refl (fun _=>False) G).drew).trans hf (fun _ h=>h.elim)));have a1:=ae (fun w1 w8 (hf:Fr (fun _=>False) G.drew w1) hp=>D.2.2 w1 w8 (((Fr.refl (fun _=>False) G).drew).trans hf (fun _ h=>h.elim)) hp);have ax:=ae (fun w1 (hf:Fr (fun _=>False) G.drew w1)=>(aj.frame Z (((Fr.refl (fun _=>False) G).drew).trans hf (fun _ h=>h.elim)) (fun h=>h)).cell 2 rfl);clear hJ D a7 Z J am b9;go_wp2;clear a6 cc bo;refine aS 6 5 (fun a B=>(Fr (fun _=>False) a B∨True)∧a.heap.size<=B.heap.size) (fun a B=>Fr (fun _=>False) a B) [.c (.pointer (some ⟨b,0,none⟩)),.c (.pointer (some ⟨w2.heap.size,2,none⟩)),.c (.int .i64 To),.c (.pointer (some ⟨y,0,none⟩)),.c (.int .i64 tp),.p (fun _ w'=>∃l n t,aJ A rs l∧wE b c A rs (A.Wd l) n t w'∧Fr T w w'∧∀k,t k->T k∨w.heap.size<=k)] (fun j=>false) (by kernel_rfl) (by kernel_rfl) (by kernel_rfl) (by kernel_rfl) rfl (fun _=>Fr.refl _ _) (fun _ _ h=>⟨.inl h,h.size⟩) (fun _ _ _ i r=>i.trans r (fun _ h=>h.elim)) (fun _ _ _ i r=>⟨i.1.elim (fun h=> .inl (h.trans r (fun _ h=>h.elim))) (fun h=> .inr trivial),Nat.le_trans i.2 r.size⟩) (fun _ _ _ i r=>⟨.inr trivial,Nat.le_trans i.size r.2⟩) (fun _ _ h=>h.2) ⟨fun v w1 w2 h o=>let ⟨l,n,t,i,r,h3,h4⟩:=h;⟨l,n,t,i,r.keep o,h3.trans o (fun _ h=>h.elim),h4⟩,trivial⟩ ⟨.inl rfl,trivial⟩ ?_;intro F hF;simp only [cU,PK.val,List.take_succ_cons,List.take_zero,aa,ab,ac] at hF;subst hF;refine ⟨by
  refine ⟨?_,?_,?_,?_,?_,?_,trivial⟩<;>intro vs w1 f q hd hx
  all_goals try (apply oV;rotate_left;rfl;exact Fr.refl _ _;go_simp;done)
  all_goals try (apply oV;rotate_left;rfl;exact Fr.refl _ _;have k2:=ax.out w1 (q (by kernel_rfl));go_simp;done)
  ·refine ar 130 #[y] (by go_simp) ((a3.out w1 (q (by kernel_rfl))).mono ?_);rintro e w5 ⟨rfl,hf⟩;exact ⟨_,rfl,rfl,hf,fun h=>nomatch h⟩
  ·have bb:=q (by kernel_rfl);refine ar 73 #[b,.int .i64 To,.int .i64 tp] (by go_simp) ((a0.out w1 bb).mono ?_);rintro e w5 ⟨rfl,hp⟩;exact ⟨_,rfl,a1.out w1 w5 bb hp,⟨.inr trivial,hp.size⟩,fun h=>nomatch h⟩
  ,fun vs w1 f hp hx=> ?_⟩
 obtain ⟨g5,_⟩:=hp;obtain ⟨l,n1,t,b1,B,b3,b4⟩:=g5;clear hx f;simp only [List.drop_succ_cons,List.drop_zero];have M:=ae (aq.out _ _ _ _ B);have a2:=ae (fun e w2 he=>HQ.out w1 e w2 l n1 t b1 b3 b4 he);clear aq HQ b1 B b3 b4 a3 a0 a1 ax;go_wp2_with fail
 refine (M.out).mono ?_;intro e w7 he;obtain ⟨rfl,hq⟩:=a2.out _ _ he;have H:=ae hq;clear he hq M a2;go_wp2;go_end0;exact H.out
end
section
variable {m b g Pg W Fs Us Hg:Nat} {S:Nat->Prop} {mp:Nat->Bool} {L:Nat->Nat} {w:World}
def qI (m b g Pg W Fs:Nat) (A:AG) (rs:List Nat) (T Li:Nat) (S:Nat->Prop) (w:World) (e:Ending) (w':World):Prop:=
 ∃(φ' L':Nat->Nat) (S':Nat->Prop) (used' Hg':Nat) (mp':Nat->Bool) (l:List Nat),e= .returned (.tuple #[.int .i64 ((T+A.Wd l:Nat):Int),.int .i64 0])∧bm m Pg W Fs used' Hg' mp' L' S' w'∧(∀q,mp' q=(decide (T<=q*Pg)&&decide (q*Pg<T+A.Wd l)))∧aJ A rs l∧aO A rs φ' L' T (T+A.Wd l)∧T+A.Wd l<=Li∧aV w' b g (rs.map φ')∧bv w'∧(∀k,S' k->S k∨w.heap.size<=k)∧Fr (fun k=>S k∨k=g) w w'
theorem yi.fr {kb wb:Nat} {S0:Nat->Prop} {w0:World} {sz d:Nat->Nat} {a:Nat} {R:Nat->Prop} {ls rs:List Nat} {cur:Nat} (h:yi m Pg W Fs Us Hg mp kb wb S0 w0 L sz d a R ls rs cur w):Fr (fun k=>S0 k∨k=kb∨k=wb) w0 w:=by
 obtain ⟨e,s,c,⟨⟨i,j,f,l⟩,_⟩,_⟩:=h;exact f
theorem xj {A:AG} {rs:List Nat} {φ:Nat->Nat} (hi:bm m Pg W Fs Us Hg mp L S w) (hr:aV w b g (rs.map φ)) (hT:bv w) (K:¬S aN) (u:¬S b∧¬S g) (bs:g≠aN) (F Tp T Li B Rm ah:Nat) (hc:gw Pg W F Tp T Li B Rm ah) (hl:aO A rs φ L F Tp) (gf:1<=rs.length) (J:Tp-F<=Li-T) (ad:∀q,mp q=(decide (F<=q*Pg)&&decide (q*Pg<Tp))) (Y:Us+(Li-T)/Pg<=Fs):
  Calls Tryz.prog 72 #[m,.pointer (some ⟨b,0,none⟩),cP F Tp T Li B Rm ah] w (qI m b g Pg W Fs A rs T Li S w):=by
 have p:=aF m Pg W Fs Us Hg mp;have gt:=hi.choose_spec.1.at;obtain ⟨a0,b5,cn,cs,hS,hR,hL,hU,ck⟩:=gt;have ct:=p.lt _ _ _ hi;have b9:aN<w.heap.size:=aD (hT 0 0 rfl);have b6:=hr.blk.lt;have b7:=hr.row.lt;obtain ⟨G,Q⟩:=hl.conc;have hG:=cG.sound hl Q;have cb:=hc.F1;have a6:=hc.F2;have a7:=hc.F3;have am:=hc.T1;have cc:=hc.T2;have cd:=hc.T3;have a8:=hc.F4;have aq:=hc.T4;have bb:=hc.L4;have av:=hc.ap;have a9:F=F/Pg*Pg:=by have:=Nat.div_add_mod F Pg;rw [Nat.mul_comm];omega
 have cf:T=T/Pg*Pg:=by have:=Nat.div_add_mod T Pg;rw [Nat.mul_comm];omega
 have f:∀k,F<=k->k<Tp->aY W Pg mp k:=fun k h1 R=>by
  refine ⟨by omega,?_⟩;have h3:=Nat.mul_le_mul_right Pg (Nat.div_le_div_right (c:=Pg) h1);have h4:=Nat.div_mul_le_self k Pg;rw [ad,decide_eq_true (show F<=k/Pg*Pg by omega),decide_eq_true (show k/Pg*Pg<Tp by omega)];rfl
 have hO:=cG.obj hl Q f (by omega);have ax:=cG.low hl Q;obtain ⟨W1,c5⟩:∃W1,w.alloc (.cells #[.int .i64 F,.int .i64 Tp,.int .i64 T,.int .i64 Li,.int .i64 B,.int .i64 Rm,.int .i64 ah] 143)=W1:=⟨_,rfl⟩;have I:Fr (fun _=>False) w W1:=by rw [<-c5];exact (Fr.refl _ w).alloc _
 have bd:aj W1 w.heap.size [.int .i64 F,.int .i64 Tp,.int .i64 T,.int .i64 Li,.int .i64 B,.int .i64 Rm,.int .i64 ah] 143:=by rw [<-c5];exact aj.new w _ _
 have c0:W1.heap.size=w.heap.size+1:=by rw [<-c5,World.size_alloc]
 have e3:=ae (callsIn_wide.1 (sh 0 (p.keep hi I) (hr.frame I (fun h=>h) (fun h=>h)) (ak hT I (fun h=>h)) K F Tp T Li B Rm ah hc hG hO ax (by rw [List.length_map];exact gf) J));unfold cP at e3;unfold cP;have k0:=bd.cell 0 rfl;have k1:=bd.cell 1 rfl;have k2:=bd.cell 2 rfl;have k3:=bd.cell 3 rfl;have k4:=bd.cell 4 rfl;have k5:=bd.cell 5 rfl;have k6:=bd.cell 6 rfl;have hZ:F<=524288∧Tp<=524288∧T<=524288∧Li<=524288:=by omega
 have hN:(rs.map φ).length=rs.length:=List.length_map _;have h9:∀(fn:Fn) (first cap:Array Value) (w:World),(Instr.makeFunc fn first cap).run Tryz.prog w= .ok (.func fn first cap) w:=fun _ _ _ _=>rfl
 have ih:∀(t:TypeId) (w:World),(Instr.makeMap t none).run Tryz.prog w= .ok (.map (some w.heap.size)) (w.alloc (.map #[] 0)):=fun _ _=>rfl
 have HA:=ae (af hi (af hr (af hT (af K (af u (af bs (af hc (af hl (af J (af ad (af Y (af p (af ct (af Q (af hG (af f (af I (af hO ax))))))))))))))))));have HB:=ae (af a0 (af b5 (af cn (af cs (af ck (af b9 (af b6 (af b7 (af c0 (af cb (af a6 (af a7 (af am (af cc (af cd (af a8 (af aq (af bb (af av (af a9 cf))))))))))))))))))));have fk:=ae bd;have fw:Hid (∀E S1 w2,bm m Pg W Fs Us Hg mp L S1 w2->(∀k,S1 k->S k∨W1.heap.size<=k)->(∀a,E a≠0↔Reach G (rs.map φ) a)->ca G (rs.map φ) E->Fr S W1 w2->cnt (ai E) 0 W<=Li-T∧fe A rs φ E∧cnt (ai E) 0 W=cnt (ai E) 0 Tp∧
   Calls Tryz.prog 144 #[m,.int .i64 T,.int .i64 ((T:Int)+((cnt (ai E) 0 W:Nat):Int))] w2 fun e w'=>e= .returned (.int .i64 0)∧∃S' fj hm hb L',bm m Pg W Fs fj hm hb L' S' w'∧(∀q,hb q=(mp q||(decide (T<T+cnt (ai E) 0 W)&&decide (T/Pg<=q)&&decide (q<=(T+cnt (ai E) 0 W-1)/Pg))))∧(∀b,aY W Pg mp b->L' b=L b)∧Fr S1 w2 w'∧∀k,S' k->S1 k∨w2.heap.size<=k):=by
  show∀E S1 w2,_
  intro E S1 w2 q1 q2 q3 q4 q5;have hJ:=cG.ext hl Q q3 q4;have h0:cnt (ai E) 0 W=cnt (ai E) 0 Tp:=by
   rw [ay (ai E) (Nat.zero_le Tp) a7,aE (a:=Tp) (b:=W) (fun i hi _=>by
    rw [Bool.eq_false_iff];intro fa;obtain ⟨s,s1,s2⟩:=aQ.1 fa;have h6:=q4 s (by omega);have:=hG.top s (by omega);omega),Nat.add_zero]
  have h1:cnt (ai E) 0 Tp<=Tp-F:=by
   rw [ay (ai E) (Nat.zero_le F) a6,aE (a:=0) (b:=F) (fun i _ hi=>by
    rw [Bool.eq_false_iff];intro fa;obtain ⟨s,s1,s2⟩:=aQ.1 fa;have h6:=q4 s (by omega);have:=ax s (by omega);omega),Nat.zero_add]
   exact be _ _ _
  have R:cnt (ai E) 0 W<=Li-T:=by omega
  have h3:=sT q1 T (T+cnt (ai E) 0 W) (by omega) (Nat.le_trans (Nat.add_le_add_left (sd a0 aq am bb (by omega)) Us) Y);rw [Int.natCast_add] at h3;exact ⟨R,hJ,h0,h3⟩
 clear hi hr hT K u bs hc hl J ad Y p ct Q hG f I a0 b5 cn cs hS hR hL hU ck b9 b6 b7 cb a6 a7 am cc cd a8 aq bb av a9 cf hO ax gf bd
 go_enter Tryz.func72,Tryz.ntmps72
 go_wp2_with fail
 clear c5;refine (e3.out).mono ?_;rintro e w2 ⟨E,S1,rfl,q1,q2,q3,q4,q5⟩;obtain ⟨r1,r2,r3,r4⟩:=fw.out E S1 w2 q1 q2 q3 q4 q5;obtain ⟨n,hn⟩:∃n,n=cnt (ai E) 0 W:=⟨_,rfl⟩;rw [<-hn] at r1 r3 r4;rw [<-hn];have d7:=ae r4;have cx:=ae (af q1 (af q2 (af q3 (af q4 (af q5 (af r1 (af r2 (af r3 hn))))))));have i0:n<=524288:=by omega
 have c6:¬S w.heap.size:=fun h=>by have R:=HA.out.2.2.2.2.2.2.2.2.2.2.2.2.1 _ h;omega
 have e7:=fk.out.frame q5 c6;have fl:=ae e7;have k2:=e7.cell 2 rfl;have i5:IntKind.i64.wrap ((T:Int)+(n:Int))=(T:Int)+(n:Int):=by rw [IntKind.wrap_i64];omega
 clear q1 q2 q3 q4 q5 r1 r2 r3 r4 hn fw e3 k0 k1 k3 k4 k5 k6 e7;go_wp2_with fail
 refine (d7.out).mono ?_;rintro e w3 ⟨rfl,S3,C,z,O,L3,t1,t2,t3,t4,t5⟩;clear d7 k2;obtain ⟨q1,q2,q3,q4,q5,r1,r2,r3,hn⟩:=cx.out;obtain ⟨hi,hr,hT,K,u,bs,hc,hl,J,ad,Y,p,ct,Q,hG,f,I,hO,ax⟩:=HA.out;obtain ⟨a0,b5,cn,cs,ck,b9,b6,b7,c0,cb,a6,a7,am,cc,cd,a8,aq,bb,av,a9,cf⟩:=HB.out;have c7:=q5.size;have c8:=t4.size;have d:∀k,k<w.heap.size+1->¬S k->¬S1 k∧¬S3 k:=fun k hk hs=>by
  have h1:¬S1 k:=fun h=>(q2 k h).elim hs (fun h=>by omega)
  exact ⟨h1,fun h=>(t5 k h).elim h1 (fun h=>by omega)⟩
 have bk:=fl.out.frame t4 (d _ (Nat.lt_succ_self _) c6).1;have k2:=bk.cell 2 rfl;have hW:=(bk.frame ((Fr.refl (fun _=>False) w3).alloc (.map #[] 0)) (fun h=>h)).cell 2 rfl;have g8:=((hr.frame I (fun h=>h) (fun h=>h)).frame q5 u.1 u.2).frame t4 (d b (by omega) u.1).1 (d g (by omega) u.2).1;have U:=ak (ak (ak hT I (fun h=>h)) q5 K) t4 (d _ (by omega) K).1;have b0:aO A rs φ L3 F Tp:=hl.congr (fun k h1 R=>t3 k (f k h1 R));obtain ⟨hp,hf,hg,ge⟩:=hl.heads;have N:∀x,Reach A.gr rs x->E (φ x)=A.sz x∧hp (φ x)=A.np x:=fun x H=>⟨r2.size x H,(ge x H).1⟩
 have ex:∀k,k<W->mp (k/Pg)=true->aY W Pg O k:=fun k h1 R=>⟨h1,by rw [t2,R];rfl⟩
 have e5:tY L3 E hp T (T+n) (fun a=>∃x,Reach A.gr rs x∧φ x=a):=by
  refine b0.cpr N (by
   rcases av with h|h
   ·right;omega
   ·left;have h1:Tp<=(Tp+Pg-1)/Pg*Pg:=by
     have R:=Nat.div_add_mod (Tp+Pg-1) Pg;have h3:=Nat.mod_lt (Tp+Pg-1) (show 0<Pg by omega);rw [Nat.mul_comm] at R;omega
    omega) (fun l h1 R=> ?_)
  refine Nat.add_le_add_left ?_ T;rw [hn];refine rI E W l (ai E) h1 (fun a ha=> ?_) (fun a ha c hD hP=> ?_)
  ·obtain ⟨x,H,rfl⟩:=R a ha;have h4:=hl.lies x H;rw [(N x H).1];exact ⟨by omega,fun k k1 k2=>aQ.2 ⟨φ x,k1,by rw [(N x H).1];omega⟩⟩
  ·obtain ⟨x,H,rfl⟩:=R a ha;obtain ⟨y,hy,rfl⟩:=R c hD;rw [(N x H).1,(N y hy).1];exact hl.apart x y H hy (fun e=>hP (by rw [e]))
 have e4:yh L3 E hp T (T+n) (fun a=>∃x,Reach A.gr rs x∧φ x=a) (aY W Pg O):=by
  refine b0.cpd2 N (fun k h1 R=> ?_) (fun k h1 R=>⟨by omega,?_⟩) (by omega) (by omega) (by omega)
  ·have h3:=f k h1 R;exact ex k h3.1 h3.2
  ·rw [t2];have h4:T/Pg<=k/Pg:=Nat.div_le_div_right h1;have h5:k/Pg<=(T+n-1)/Pg:=Nat.div_le_div_right (by omega);rw [decide_eq_true (show T<T+n by omega),decide_eq_true h4,decide_eq_true h5];simp
 obtain ⟨W5,cp⟩:∃W5,(w3.alloc (.map #[] 0)).alloc (.cells #[.pointer (some ⟨m,0,none⟩),.map (some w3.heap.size),.int .i64 T] 230)=W5:=⟨_,rfl⟩;have o:Fr (fun _=>False) w3 W5:=by rw [<-cp];exact ((Fr.refl _ w3).alloc _).alloc _
 have c9:W5.heap.size=w3.heap.size+2:=by rw [<-cp,World.size_alloc,World.size_alloc]
 have gs:=p;have P:=(aF m Pg W Fs C z O).lt _ _ _ t1;have f8:tT m Pg W Fs C z O (w3.heap.size+1) w3.heap.size L3 (fun _=>none) 0 T S3 W5:=by
  refine ⟨?_,(aF m Pg W Fs C z O).keep t1 o,?_,fun h=>by have:=P _ h;omega,fun h=>by have:=P _ h;omega,by omega⟩
  ·rw [<-cp];have:=aj.new (w3.alloc (.map #[] 0)) [.pointer (some ⟨m,0,none⟩),.map (some w3.heap.size),.int .i64 T] 230;rwa [World.size_alloc] at this
  ·rw [<-cp];exact (lq w3).frame ((Fr.refl (fun _=>False) _).alloc _) (fun h=>h)
 have g9:=g8.frame o (fun h=>h) (fun h=>h);have hC:b<w3.heap.size∧g<w3.heap.size:=by omega
 have f6:wC m Pg W Fs C z O (w3.heap.size+1) w3.heap.size g S3 W5 L3 E hp T (fun a=>∃x,Reach A.gr rs x∧φ x=a) (rs.map φ) [] W5:=
  ⟨[],⟨L3,fun _=>none,0,T⟩,⟨S3,f8,Fr.refl _ _,fun _ h=> .inl h⟩,eG.none _ _ _ _,fun x H=>absurd H List.not_mem_nil,Nat.zero_le _,fun i a hi=>absurd hi (Nat.not_lt_zero i)⟩
 have fB:=ae (sf e5 e4 f6 g9 (fun a ha=>by
  obtain ⟨x,H,rfl⟩:=List.mem_map.1 ha;by_cases h0:x=0
  ·left;rw [h0];exact hl.zero
  ·exact .inr ⟨x,.root H h0,rfl⟩) (by omega) (by omega) (d g (by omega) u.2).2 (d b (by omega) u.1).2 (by omega))
 have HU:=ae (fun dk w6 (hu:wC m Pg W Fs C z O (w3.heap.size+1) w3.heap.size g S3 W5 L3 E hp T (fun a=>∃x,Reach A.gr rs x∧φ x=a) (rs.map φ) dk w6) (hM:dk.length=(rs.map φ).length)=>wC.loop hu hM);have HC:=ae (af e5 e4);have HY:=ae (af d (af bk (af U (af b0 (af N (af o (af c9 (af P (af t1 (af t2 (af t4 (af t5 (af c7 c8)))))))))))));clear q1 q2 q3 q4 q5 r1 r2 r3 hn hi hr hT K u bs hc hl J ad Y p ct Q hG f I hO ax a0 b5 cn cs ck b9 b6 b7 c0 cb a6 a7 am cc cd a8 aq bb av a9 cf c7 c8 d bk g8 U b0 ge N ex e5 e4 o c9 gs P f8 g9 hC f6 t1 t2 t3 t4 t5
 go_upto_region 8 with fail
 clear cp k2 hW;go_wp2_with fail
 refine (fB.out).mono ?_;rintro e w6 ⟨rfl,dk,u1,u2,u3⟩;obtain ⟨S6,v1,v2,v3⟩:=HU.out dk w6 u3 u1;obtain ⟨d,bk,U,b0,N,o,c9,P,t1,t2,t4,t5,c7,c8⟩:=HY.out;obtain ⟨hi,hr,hT,K,u,bs,hc,hl,J,ad,Y,p,ct,Q,hG,f,I,hO,ax⟩:=HA.out;obtain ⟨a0,b5,cn,cs,ck,b9,b6,b7,c0,cb,a6,a7,am,cc,cd,a8,aq,bb,av,a9,cf⟩:=HB.out;have eq:=v3.size;have Z:∀k,k<w.heap.size+1->¬S k->¬S6 k:=fun k hk hs h=>(v2 k h).elim (d k hk hs).2 (fun h=>by omega)
 have e8:aj w6 w.heap.size [.int .i64 F,.int .i64 Tp,.int .i64 T,.int .i64 Li,.int .i64 B,.int .i64 Rm,.int .i64 ah] 143:=
  (bk.frame o (fun h=>h)).frame v3 (fun h=>by
   rcases h with h|h|h|h
   ·exact (d _ (Nat.lt_succ_self _) c6).2 h
   ·omega
   ·omega
   ·omega)
 have dx:bv w6:=ak (ak U o (fun h=>h)) v3 (fun h=>by
   rcases h with h|h|h|h
   ·exact (d _ (by omega) K).2 h
   ·omega
   ·omega
   ·exact bs h.symm)
 have d0:∀wr,Fr (fun k=>S6 k∨k=w3.heap.size+1∨k=w3.heap.size) w6 wr->aj wr w.heap.size [.int .i64 F,.int .i64 Tp,.int .i64 T,.int .i64 Li,.int .i64 B,.int .i64 Rm,.int .i64 ah] 143:=
  fun wr hf=>e8.frame hf (fun h=>by
   rcases h with h|h|h
   ·exact Z _ (Nat.lt_succ_self _) c6 h
   ·omega
   ·omega)
 have fs:=ae d0;have k2:=e8.cell 2 rfl;have H6:=ae (af u1 (af u2 (af v2 (af v3 (af eq (af Z dx))))));have HV:=ae v1;have fA:=ae (fun cur wr hv=>yi.next (m:=m) (Pg:=Pg) (W:=W) (Fs:=Fs) (Us:=C) (Hg:=z) (mp:=O) (kb:=w3.heap.size+1) (wb:=w3.heap.size) (S0:=S6) (w0:=w6) (ls:=rs.map φ) (rs:=dk) (cur:=cur) (w:=wr) HC.out.1 HC.out.2 hv);clear u1 u2 u3 v1 v2 v3 d bk U b0 N o c9 P t1 t2 t4 t5 c7 c8 hi hr hT K u bs hc hl J ad Y p ct Q hG f I hO ax a0 b5 cn cs ck b9 b6 b7 cb a6 a7 am cc cd a8 aq bb av a9 cf c0 eq Z e8 dx d0 HU fB;go_wp2;clear k2
 go_loopw [12] (fun x wr=>∃cur:Nat,x= .int .i64 cur∧Hid (yi m Pg W Fs C z O (w3.heap.size+1) w3.heap.size S6 w6 L3 E hp T (fun a=>∃x,Reach A.gr rs x∧φ x=a) (rs.map φ) dk cur wr)) (fun x _=>(T+n+1-intOf x).toNat)
 case atStart=>exact ⟨T,rfl,HV⟩
 case round=>
  clear HV;obtain ⟨cur,rfl,hr⟩:=hrel;obtain ⟨top,a1,a2,a3,a4,a5⟩:=fA.out cur wr hr.out;have Y:=hr.out.fr;have ej:=fs.out wr Y;have e2:=a1.cell 2 rfl;have hH:(cur:Int)<=1048576:=by omega
  by_cases fh:cur<top
  ·have HS:=ae (a4 fh);have c1:(cur:Int)<(top:Int):=by omega
   clear a1 a4 a5 ej Y hr;go_wp2_with fail
   refine (HS.out).mono ?_;rintro e w9 ⟨f0,g1,rfl,g2⟩;have G2:=ae g2;clear g2 HS e2;go_wp2;go_roundw
   case rel=>exact ⟨f0,rfl,G2⟩
   case measure=>simp [intOf];omega
  ·obtain ⟨i6,s,b1,b2,b3,b4⟩:=a5 fh;have c1:¬(cur:Int)<(top:Int):=by omega
   obtain ⟨⟨S8,d1,d2,d3⟩,bj,bo⟩:=b2;obtain ⟨u1,u2,v2,v3,eq,Z,dx⟩:=H6.out;obtain ⟨d,bk,U,b0,N,o,c9,P,t1,t2,t4,t5,c7,c8⟩:=HY.out;obtain ⟨hi,hQ,hT,K,u,bs,hc,hl,J,ad,f9,p,ct,Q,hG,f,I,hO,ax⟩:=HA.out;obtain ⟨a0,b5,cn,cs,ck,b9,b6,b7,c0,cb,a6,a7,am,cc,cd,a8,aq,bb,av,a9,cf⟩:=HB.out;have hV:=d2.size;have cy:∀k,k<w.heap.size+1->¬S k->¬S8 k:=fun k hk hs h=>(d3 k h).elim (Z k hk hs) (fun h=>by omega)
   have f5:1<=T:=by omega
   obtain ⟨φ',l,f1,f2,f3,f4⟩:=pm b0 N f5 bj bo b3 b4;have hE:=(aJ.cnt hl cx.out.2.2.2.2.2.2.1 f3).1;have gM:n<=Li-T:=cx.out.2.2.2.2.2.1;have g7:n=A.Wd l:=by
    obtain ⟨_,_,_,_,_,_,_,r3,hn⟩:=cx.out;omega
   have ds:=ae (mQ.start (q0:=F/Pg) d1.mem);have es:=ae (ds.out.pg);have e0:=ae (fun q D (hu:mQ m Pg W Fs O s.M (F/Pg) S8 wr q D) (h:q*Pg<Tp) (hq:F/Pg<=q)=>mQ.drop hu (by
    rw [t2,ad,decide_eq_true (show F<=q*Pg by rw [a9];exact Nat.mul_le_mul_right Pg hq),decide_eq_true h];rfl) (by
    have R:W=W/Pg*Pg:=by have:=Nat.div_add_mod W Pg;rw [Nat.mul_comm];omega
    have h3:q*Pg<W/Pg*Pg:=by omega
    exact Nat.lt_of_mul_lt_mul_right h3) hq)
   have d4:Hid (∀q D,mQ m Pg W Fs O s.M (F/Pg) S8 wr q D->D.cell? ⟨w.heap.size,1,none⟩=some (.int .i64 Tp)∧D.cell? ⟨w3.heap.size+1,2,none⟩=some (.int .i64 top)):=by
    show∀q D,_
    rintro q D ⟨ud,gb,he,S',c1,c2,c3,c4⟩;exact ⟨(ej.frame c3 (cy _ (Nat.lt_succ_self _) c6)).cell 1 rfl,by have:=(d1.blk.frame c3 d1.d1).cell 2 rfl;rw [b1] at this;exact this⟩
   have dm:Hid (∀q D,mQ m Pg W Fs O s.M (F/Pg) S8 wr q D->Tp<=q*Pg->q*Pg<Tp+Pg->qI m b g Pg W Fs A rs T Li S w (.returned (.tuple #[.int .i64 top,.int .i64 0])) D):=by
    show∀q D,_
    rintro q D ⟨ud,gb,he,S',c1,c2,c3,c4⟩ fi em;have e1:top=T+A.Wd l:=by omega
    have hK:Fr (fun k=>S k∨k=g) w D:=by
     obtain ⟨q1,q2,q3,q4,q5,_⟩:=cx.out;have s1:Fr (fun k=>S k∨k=g) w w2:=(I.mono (fun _ h=>h.elim)).trans q5 (fun k h=> .inl (.inl h));have s2:Fr (fun k=>S k∨k=g) w w3:=s1.trans t4 (fun k h=>(q2 k h).imp .inl (fun h=>by omega));have s3:∀k,S3 k->(S k∨k=g)∨w.heap.size<=k:=fun k hk=>by
      rcases t5 k hk with h|h
      ·exact (q2 k h).imp .inl (fun h=>by omega)
      ·exact .inr (by omega)
     have s4:Fr (fun k=>S k∨k=g) w w6:=(s2.trans o (fun _ h=>h.elim)).trans v3 (fun k h=>by
      rcases h with h|h|h|h
      ·exact s3 k h
      ·exact .inr (by omega)
      ·exact .inr (by omega)
      ·exact .inl (.inr h))
     have s6:∀k,S6 k->(S k∨k=g)∨w.heap.size<=k:=fun k hk=>by
      rcases v2 k hk with h|h
      ·exact s3 k h
      ·exact .inr (by omega)
     have s5:Fr (fun k=>S k∨k=g) w wr:=s4.trans d2 (fun k h=>by
      rcases h with h|h|h
      ·exact s6 k h
      ·exact .inr (by omega)
      ·exact .inr (by omega))
     exact s5.trans c3 (fun k hk=>by
      rcases d3 k hk with h|h
      ·exact s6 k h
      ·exact .inr (by omega))
    have hA:∀k,S' k->S k∨w.heap.size<=k:=fun k hk=>by
     obtain ⟨q1,q2,q3,q4,q5,_⟩:=cx.out;rcases c4 k hk with h|h
     ·rcases d3 k h with h|h
      ·rcases v2 k h with h|h
       ·rcases t5 k h with h|h
        ·exact (q2 k h).imp id (fun h=>by omega)
        ·exact .inr (by omega)
       ·exact .inr (by omega)
      ·exact .inr (by omega)
     ·exact .inr (by omega)
    have e9:∀k,k<w.heap.size->¬S k->k≠w3.heap.size+1∧k≠w3.heap.size∧¬S6 k∧¬S8 k:=fun k hk hs=>⟨by omega,by omega,Z k (by omega) hs,cy k (by omega) hs⟩
    have hB:=e9 b b6 u.1;have eg:=e9 g b7 u.2;have ei:=e9 aN b9 K;refine ⟨φ',s.M,S',ud,gb,he,l,by rw [e1],c1,fun r=> ?_,f3,by rw [<-f4];exact f1,by omega,?_,?_,hA,hK⟩
    ·rw [c2,t2,ad,<-g7];exact pn a0 a8 aq am (by omega) av fi em r
    ·rw [<-f2];exact (u2.frame d2 (fun h=>by rcases h with h|h|h;exact hB.2.2.1 h;exact hB.1 h;exact hB.2.1 h) (fun h=>by rcases h with h|h|h;exact eg.2.2.1 h;exact eg.1 h;exact eg.2.1 h)).frame c3 hB.2.2.2 eg.2.2.2
    ·exact ak (ak dx d2 (fun h=>by rcases h with h|h|h;exact ei.2.2.1 h;exact ei.1 h;exact ei.2.1 h)) c3 ei.2.2.2
   have k0:=ej.cell 0 rfl;have hI:(F:Int).tdiv (Pg:Int)=((F/Pg:Nat):Int):=bV _ _;have h8:¬Pg=0:=by omega
   have i1:Pg<=256:=b5;have hY:Tp<=524288:=by omega
   have ho:F<=524288:=by omega
   have hz:F/Pg<=524288:=Nat.le_trans (Nat.div_le_self _ _) ho;have e6:F/Pg*Pg<Tp+Pg:=by omega
   generalize ht:F/Pg=QF at ds es e0 d4 dm hI hz e6;clear ht gM;have i4:IntKind.i64.wrap (QF:Int)=(QF:Int):=by rw [IntKind.wrap_i64];omega
   clear u1 u2 v2 v3 eq Z dx d bk U b0 N o c9 P t1 t2 t4 t5 c7 c8 hi hQ hT K u bs hc hl J ad f9 p ct Q hG f I hO ax a0 b5 cn cs ck b9 b6 b7 cb a6 a7 am cc cd a8 aq bb av a9 cf c0 hV cy f5 f1 f2 f3 f4 hE g7 d1 d2 d3 bj bo b1 b3 b4 a1 a4 a5 ej Y hr fA HC fs H6 HY HA HB cx fl fk c6;have dr:=ae (show Calls Tryz.prog 148 #[m] wr.drew fun e w'=>e= .returned (.int .i64 Pg)∧wr.drew=w' from mQ.pg (ds.out.Fh ((Fr.refl _ wr).drew)));clear es;go_wp2;refine en 6 (fun a b=>b=a) [fun v _=>v= .pointer (some ⟨w.heap.size,0,none⟩),fun v _=>v= .int .i64 F,fun v _=>v= .pointer (some ⟨m,0,none⟩),fun v _=>v= .int .i64 Pg,fun v _=>v= .int .i64 ((QF:Nat):Int),fun v _=>v= .int .i64 ((QF:Nat):Int)] (fun j=>false) (by kernel_rfl) (by kernel_rfl) (by kernel_rfl) (by kernel_rfl) rfl (fun _=>rfl) (fun _ _ _ h1 R=>R.trans h1) (fun _ _ h=>by rw [h];exact Nat.le_refl _) ⟨fun _ _ _ h _=>h,fun _ _ _ h _=>h,fun _ _ _ h _=>h,fun _ _ _ h _=>h,fun _ _ _ h _=>h,fun _ _ _ h _=>h,trivial⟩ ?_;intro F hF;simp only [bg,List.take_succ_cons,List.take_zero,aa,ab,ac] at hF;subst hF;refine ⟨⟨fun vs w1 hw V H=> ?_,fun vs w1 hw V H=> ?_,fun vs w1 hw V H=> ?_,fun vs w1 hw V H=> ?_,fun vs w1 hw V H=> ?_,fun vs w1 hw V H=> ?_,trivial⟩,?_⟩
   ·refine ao (.pointer (some ⟨w.heap.size,0,none⟩)) ?_ ⟨rfl,rfl,fun h=>nomatch h⟩;go_simp
   ·have h0:vs 0= .pointer (some ⟨w.heap.size,0,none⟩):=V 0 (by kernel_rfl);refine ao (.int .i64 F) ?_ ⟨rfl,rfl,fun h=>nomatch h⟩;subst hw;go_simp
   ·refine ao (.pointer (some ⟨m,0,none⟩)) ?_ ⟨rfl,rfl,fun h=>nomatch h⟩;go_simp
   ·have R:vs 2= .pointer (some ⟨m,0,none⟩):=V 2 (by kernel_rfl);subst hw;refine ar 148 #[m] (by go_simp) ((dr.out).mono ?_);rintro e w2 ⟨rfl,rfl⟩;exact ⟨_,rfl,rfl,rfl,fun h=>nomatch h⟩
   ·have h1:vs 1= .int .i64 F:=V 1 (by kernel_rfl);have h3:vs 3= .int .i64 Pg:=V 3 (by kernel_rfl);refine ao (.int .i64 ((QF:Nat):Int)) ?_ ⟨rfl,rfl,fun h=>nomatch h⟩;go_simp
   ·have h4:vs 4= .int .i64 ((QF:Nat):Int):=V 4 (by kernel_rfl);refine ao (.int .i64 ((QF:Nat):Int)) ?_ ⟨rfl,rfl,fun h=>nomatch h⟩;go_simp
   intro vs w1 hw hp H;obtain ⟨g0,g1,g2,g3,g4,g5,_⟩:=hp;simp only [g0,g1,g2,g3,g4,g5];subst hw;clear g0 g1 g2 g3 g4 g5 H dr;simp only [List.drop_succ_cons,List.drop_zero];go_wp2;clear k0 e2 hH fh c1
   go_loopw [13] (fun x D=>∃q:Nat,x= .int .i64 q∧QF<=q∧q*Pg<Tp+Pg∧q<=524288+1∧Hid (mQ m Pg W Fs O s.M QF S8 wr q D)) (fun x _=>(524288+2-intOf x).toNat)
   case atStart=>exact ⟨QF,rfl,Nat.le_refl _,e6,by omega,ae (ds.out.Fh ((Fr.refl _ wr).drew))⟩
   case round=>
    clear ds e6;obtain ⟨q,rfl,fi,em,i2,hr⟩:=hrel;obtain ⟨k1,k2⟩:=d4.out q _ hr.out;have dr:=ae (hr.out.Fh ((Fr.refl _ _).drew)).pg;have d5:=ae (fun w1 (hf:Fr (fun _=>False) _ w1) (h:q*Pg<Tp)=>e0.out q w1 (hr.out.Fh hf) h fi);have ey:=ae (fun w1 (hf:Fr (fun _=>False) _ w1)=>d4.out q w1 (hr.out.Fh hf));have d6:=ae (fun w1 (hf:Fr (fun _=>False) _ w1) (h:Tp<=q*Pg)=>dm.out q w1 (hr.out.Fh hf) h em);obtain ⟨X,hX⟩:∃X,X=q*Pg:=⟨_,rfl⟩;have f7:(q:Int)*(Pg:Int)=(X:Int):=by rw [hX];push_cast;rfl
    have h7:X<=1048576:=by omega
    have hw:IntKind.i64.wrap ((q:Int)*(Pg:Int))=(X:Int):=by rw [f7,IntKind.wrap_i64];omega
    have i3:q<=X:=by rw [hX];exact Nat.le_mul_of_pos_right q (by omega)
    rw [<-hX] at em d5 d6;have HN:Hid (X<Tp->(q+1)*Pg<Tp+Pg):=by
     show X<Tp->_
     intro h;rw [Nat.succ_mul,<-hX];omega
    clear d4 e0 dm hr hX f7;go_wp2;refine en 7 (fun a b=>b=a) [fun v _=>v= .int .i64 q,fun v _=>v= .pointer (some ⟨m,0,none⟩),fun v _=>v= .int .i64 Pg,fun v _=>v= .int .i64 X,fun v _=>v= .pointer (some ⟨w.heap.size,1,none⟩),fun v _=>v= .int .i64 Tp,fun v _=>v= .bool (decide ((X:Int)<(Tp:Int)))] (fun j=>false) (by kernel_rfl) (by kernel_rfl) (by kernel_rfl) (by kernel_rfl) rfl (fun _=>rfl) (fun _ _ _ h1 R=>R.trans h1) (fun _ _ h=>by rw [h];exact Nat.le_refl _) ⟨fun _ _ _ h _=>h,fun _ _ _ h _=>h,fun _ _ _ h _=>h,fun _ _ _ h _=>h,fun _ _ _ h _=>h,fun _ _ _ h _=>h,fun _ _ _ h _=>h,trivial⟩ ?_;intro F hF;simp only [bg,List.take_succ_cons,List.take_zero,aa,ab,ac] at hF;subst hF;refine ⟨⟨fun vs w1 hw V H=> ?_,fun vs w1 hw V H=> ?_,fun vs w1 hw V H=> ?_,fun vs w1 hw V H=> ?_,fun vs w1 hw V H=> ?_,fun vs w1 hw V H=> ?_,fun vs w1 hw V H=> ?_,trivial⟩,?_⟩
    ·refine ao (.int .i64 q) ?_ ⟨rfl,rfl,fun h=>nomatch h⟩;go_simp
    ·refine ao (.pointer (some ⟨m,0,none⟩)) ?_ ⟨rfl,rfl,fun h=>nomatch h⟩;go_simp
    ·have h1:vs 1= .pointer (some ⟨m,0,none⟩):=V 1 (by kernel_rfl);subst hw;refine ar 148 #[m] (by go_simp) ((dr.out).mono ?_);rintro e w2 ⟨rfl,rfl⟩;exact ⟨_,rfl,rfl,rfl,fun h=>nomatch h⟩
    ·have h0:vs 0= .int .i64 q:=V 0 (by kernel_rfl);have R:vs 2= .int .i64 Pg:=V 2 (by kernel_rfl);refine ao (.int .i64 X) ?_ ⟨rfl,rfl,fun h=>nomatch h⟩;go_simp
    ·refine ao (.pointer (some ⟨w.heap.size,1,none⟩)) ?_ ⟨rfl,rfl,fun h=>nomatch h⟩;go_simp
    ·have h4:vs 4= .pointer (some ⟨w.heap.size,1,none⟩):=V 4 (by kernel_rfl);refine ao (.int .i64 Tp) ?_ ⟨rfl,rfl,fun h=>nomatch h⟩;subst hw;go_simp
    ·have h3:vs 3= .int .i64 X:=V 3 (by kernel_rfl);have h5:vs 5= .int .i64 Tp:=V 5 (by kernel_rfl);refine ao (.bool (decide ((X:Int)<(Tp:Int)))) ?_ ⟨rfl,rfl,fun h=>nomatch h⟩;go_simp
    intro vs w1 hw hp H;obtain ⟨g0,g1,g2,g3,g4,g5,g6,_⟩:=hp;simp only [g0,g1,g2,g3,g4,g5,g6];subst hw;clear g0 g1 g2 g3 g4 g5 g6 H dr;simp only [List.drop_succ_cons,List.drop_zero];by_cases ev:X<Tp
    ·have c1:(X:Int)<(Tp:Int):=by omega
     have fv:=ae (d5.out _ ((Fr.refl _ _).drew) ev);have d7:=ae (HN.out ev);clear d5 ey d6 HN k1 k2;go_wp2_with fail
     refine (fv.out).mono ?_;rintro e w9 ⟨rfl,hu⟩;have hj:=ae hu;clear hu fv;go_wp2;go_roundw
     case rel=>exact ⟨q+1,by go_num,by omega,d7.out,by omega,hj⟩
     case measure=>simp [intOf];omega
    ·have c1:¬(X:Int)<(Tp:Int):=by omega
     obtain ⟨k3,k4⟩:=ey.out _ ((Fr.refl _ _).drew);have hh:=ae (d6.out _ ((Fr.refl _ _).drew) (by omega));clear d5 ey d6 HN k1 k2;go_wp2;go_ret2;exact hh.out
end
section
variable {A:AG} {rs l l':List Nat} {φ L:Nat->Nat} {lo hi:Nat}
theorem qG {l l':List Nat} (h:l.Perm l'):A.Wd l=A.Wd l':=by
 unfold AG.Wd
 induction h with
 |nil=>rfl
 |cons x _ ih=>rw [List.map_cons,List.map_cons,List.sum_cons,List.sum_cons,ih]
 |swap x y l=>rw [List.map_cons,List.map_cons,List.map_cons,List.map_cons,List.sum_cons,List.sum_cons,List.sum_cons,List.sum_cons];omega
 |trans _ _ h1 h2=>rw [h1,h2]
theorem aJ.Wd (h:aJ A rs l) (b:aJ A rs l'):A.Wd l=A.Wd l':=
 qG ((List.perm_ext_iff_of_nodup h.1 b.1).2 (fun a=>(h.2 a).trans (b.2 a).symm))
theorem aO.some (h:aO A rs φ L lo hi):∃l,aJ A rs l:=by
 obtain ⟨G,b⟩:=h.conc;refine h.lives (E:=G.size) ⟨b.size,b.some⟩ (W:=hi) (fun a c=> ?_);obtain ⟨x,d,rfl⟩:=b.some a c;have:=(h.lies x d).2;have e:1<=A.sz x:=by unfold AG.sz;omega
 omega
theorem aO.small (h:aO A rs φ L lo hi) {G:Gr} (b:cG A rs φ G) (e:hi<=2147483648):∀a,G.size a≠0->∀i,i<G.size a->L (a+i)<18446744073709551616:=fun a d i hi=>by
 obtain ⟨x,c,rfl⟩:=b.some a d;rw [b.size x c] at hi;exact h.opn_small (E:=G.size) ⟨b.size,b.some⟩ e _ (h.live ⟨b.size,b.some⟩ c hi)
theorem aO.words_le (h:aO A rs φ L lo hi) (j:lo<=hi) {l:List Nat} (e:aJ A rs l):lo+A.Wd l<=hi:=by
 obtain ⟨G,b⟩:=h.conc;rw [<-(aJ.cnt h (E:=G.size) ⟨b.size,b.some⟩ e).1];have:=eK (f:=ai G.size) (M:=hi) (a:=lo) (R:=hi-lo) (fun i _ c=>by
  obtain ⟨s,k,g⟩:=aQ.1 c;obtain ⟨x,d,rfl⟩:=b.some s (by omega);rw [b.size x d] at g;have:=h.lies x d;omega)
 omega
end
def lV (b:Nat) (c:Cf) (A:AG) (rs:List Nat) (T:Nat->Prop) (w:World) (e:Ending) (w':World):Prop:=e= .returned (.tuple #[])∧∃l T',aJ A rs l∧bM b c A rs (A.Wd l) 0 T' w'∧Fr T w w'∧∀k,T' k->T k∨w.heap.size<=k
section
variable {b u n Ba ub:Nat} {h:Hp} {c:Cf} {A:AG} {rs l0:List Nat} {T S:Nat->Prop} {φ L:Nat->Nat} {ns bs:Int} {w w1 w5 w6 w':World}
theorem bM.count (p:bM b c A rs u n T w):∃ns:Int,w.cell? ⟨b,12,none⟩=some (.int .i64 ns)∧w.frozen? ⟨b,12,none⟩=false∧∀v:Int,bM b c A rs u n T (w.setCell ⟨b,12,none⟩ (.int .i64 v))∧Fr T w (w.setCell ⟨b,12,none⟩ (.int .i64 v)):=by
 obtain ⟨h,φ,L,Ba,ub,j,ns,bs,S,rfl,a,i,q⟩:=p;refine ⟨ns,aj.cell a.blk 12 rfl,aj.free a.blk 12,fun v=> ?_⟩;have hf:Fr (fun k=>k=h.b) w (w.setCell ⟨h.b,12,none⟩ (.int .i64 v)):=(Fr.refl (fun k=>k=h.b) w).setCell ⟨h.b,12,none⟩ (.inl rfl) _;obtain ⟨l,m,o,r,s,g,t,x,y⟩:=a.e;exact ⟨⟨h,φ,L,Ba,ub,j,v,bs,S,rfl,⟨a.cok,a.blk.set 12 _,a.roots.frame hf (Ne.symm l) (Ne.symm m),aj.frame a.reg hf (Ne.symm o),ak a.tab hf (Ne.symm g),a.laid,a.Sl,a.fits,a.half,a.mem.stays hf (fun k f=>(a.d k f).1) (Ne.symm g),a.d,a.e⟩,i,q⟩,hf.mono (fun k f=> .inl ((i k).2 (.inr (.inl f))))⟩
theorem bM.plain (e:bM b c A rs u n T w) (f:c.kind≠1):n=0:=by
 obtain ⟨h,φ,L,Ba,ub,d,ns,bs,S,rfl,a,g,i⟩:=e
 cases d with
 |none=>exact a.mem.1
 |some y=>exact absurd a.mem.1 f
theorem nH (a:cT c) (j:Ba% c.Pg=0):(Ba+c.Wd)/c.Pg=Ba/c.Pg+c.Wd/c.Pg:=by
 have e:=a.page2;have f:=a.wp;have g:=Nat.div_add_mod Ba c.Pg;have i:=Nat.div_add_mod c.Wd c.Pg;have d:Ba+c.Wd=c.Pg*(Ba/c.Pg+c.Wd/c.Pg):=by rw [Nat.mul_add];omega
 rw [d,Nat.mul_div_cancel_left _ (by omega)]
theorem qB {j:Nat->Prop} {m Us Hg:Nat} {mp:Nat->Bool} {M:Nat->Nat} (d:cT c) (e:c.half Ba) (s:u<=c.Wd) (o:bn w m j c.Pg c.W c.Fs Us Hg mp M) (f:∀q,mp q=(decide (Ba<=q*c.Pg)&&decide (q*c.Pg<Ba+u))):Us<=c.Wd/c.Pg:=by
 obtain ⟨_,_,_,_,_,_,_,k,_⟩:=o.at;rw [k];have hp:=d.page2;refine eK (a:=Ba/c.Pg) (fun i _ g=> ?_);rw [f,Bool.and_eq_true,decide_eq_true_eq,decide_eq_true_eq] at g;refine ⟨Nat.div_le_of_le_mul (by rw [Nat.mul_comm];exact g.1),?_⟩;rw [<-nH d (e.mod d)];have p:=nH d (e.mod d);refine Nat.lt_of_mul_lt_mul_right (a:=c.Pg) ?_;have r:(Ba+c.Wd)/c.Pg*c.Pg=Ba+c.Wd:=by
  have l:=Nat.div_add_mod (Ba+c.Wd) c.Pg;rw [Nat.add_mod,e.mod d,d.wp,Nat.zero_add,Nat.zero_mod] at l;rw [Nat.mul_comm];omega
 omega
end
section
variable {b u n Ba ub m rb rg:Nat} {h:Hp} {c:Cf} {A:AG} {rs l0:List Nat} {T S:Nat->Prop} {φ L:Nat->Nat} {ns bs:Int} {w w1 w5 w6 w' w'':World}
def t7 (b:Nat) (c:Cf) (A:AG) (rs:List Nat) (N:Nat) (T:Nat->Prop) (w w8:World):Prop:=∃T1,bM b c A rs N 0 T1 w8∧Fr T w w8∧∀k,T1 k->T k∨w.heap.size<=k
def yz (b m rb:Nat) (c:Cf) (ns bs:Int) (A:AG) (rs:List Nat) (N:Nat) (T:Nat->Prop) (w:World) (To:Nat) (w5:World):Prop:=
 (∀w7,Fr (fun _=>False) w5 w7->Calls Tryz.prog 73 #[b,.int .i64 To,.int .i64 ((To+N:Nat):Int)] w7 fun e w'=>e= .returned (.tuple #[])∧eH b c m rb none ns bs To (To+N) c.Wd w7 w')∧
 (∀w7 w8,Fr (fun _=>False) w5 w7->eH b c m rb none ns bs To (To+N) c.Wd w7 w8->t7 b c A rs N T w w8)
theorem j5 {Pg W lo top:Nat} {mp:Nat->Bool} (a:∀q,mp q=(decide (lo<=q*Pg)&&decide (q*Pg<top))) (f:lo% Pg=0) (l:top<=W):∀k,lo<=k->k<top->aY W Pg mp k:=fun k d g=>by
 refine ⟨by omega,?_⟩;have e:lo=lo/Pg*Pg:=by have:=Nat.div_add_mod lo Pg;rw [Nat.mul_comm];omega
 have i:=Nat.mul_le_mul_right Pg (Nat.div_le_div_right (c:=Pg) d);have j:=Nat.div_mul_le_self k Pg;rw [a,decide_eq_true (show lo<=k/Pg*Pg by omega),decide_eq_true (show k/Pg*Pg<top by omega)];rfl
theorem xi (p:eT (fun _=>True) h c A rs φ L Ba u ub none 0 ns bs S w) (s:∀k,T k↔eZ h ub S k) (f:c.kind=2) (N:aJ A rs l0) (hf:Fr (fun _=>False) w w1) {e:Ending} (ho:qI h.m h.rb h.rg c.Pg c.W c.Fs A rs (2*c.Pg+c.Wd-Ba) (2*c.Pg+c.Wd-Ba+c.Wd) S w1 e w5):
  e= .returned (.tuple #[.int .i64 ((2*c.Pg+c.Wd-Ba+A.Wd l0:Nat):Int),.int .i64 0])∧w1.heap.size<=w5.heap.size∧(∀v cs t,w.heap.size<=v->aj w1 v cs t->aj w5 v cs t)∧yz h.b h.m h.rb c ns bs A rs (A.Wd l0) T w (2*c.Pg+c.Wd-Ba) w5:=by
 have q:=p.keep hf;have i:=p.half.other (by omega);have O:=i.le;have E:=i.top;generalize 2*c.Pg+c.Wd-Ba=To at ho i O E ⊢;obtain ⟨φ',L',S',r,H,U,l,rfl,V,q2,q3,q4,q5,q6,q7,q8,G⟩:=ho;rw [q3.Wd N] at q2 q4 q5 ⊢;obtain ⟨ad,_⟩:=p.cok.W5;have a:=q.lt;have av:=hf.size;have R:=G.size;obtain ⟨X,I,e3,e4,e5,Y,e7,e8,e9⟩:=p.e;have Z:=p.d;have ap:aN<w1.heap.size:=aD (q.tab 0 0 rfl);have y:gq w5 h.b c h.m h.rb ub none ns bs:=aj.frame q.blk G (fun o=>o.elim (fun o=>(Z _ o).1 rfl) (fun e=>I e));have J:∀k,S' k->k<w5.heap.size:=(aF _ _ _ _ _ _ _).lt _ _ _ V;have z:∀k,S' k->k≠h.b∧k≠h.rb∧k≠h.rg∧k≠ub∧k≠aN:=fun k f=>by
  rcases q8 k f with x|x
  ·exact Z k x
  ·have h2:=a h.b (.inr (.inl rfl));have h3:=a h.rb (.inr (.inr (.inl rfl)));have h4:=a h.rg (.inr (.inr (.inr (.inl rfl))));have h5:=a ub (.inr (.inr (.inr (.inr rfl))));exact ⟨by omega,by omega,by omega,by omega,by omega⟩
 refine ⟨rfl,R,fun v cs t ah hb=>aj.frame hb G (fun o=> ?_),fun w7 j=> ?_,fun w7 w8 j hp=> ?_⟩
 ·have D:=p.lt;have h3:=D h.rg (.inr (.inr (.inr (.inl rfl))));rcases o with o|o
  ·have:=D v (.inl o);omega
  ·omega
 ·obtain ⟨M,hm,_⟩:=(aF _ _ _ _ _ _ _).keep V j;exact nR (aj.frame y j (fun h=>h)) hm To (To+A.Wd l0) (by omega) q5 E
 ·obtain ⟨F,K,Q,aq,B⟩:=hp;have ax:=j.size;have a0:=B.size;have am:=aj.lt y;have g:Fr (fun k=>k=h.b) w5 w8:=(j.mono (fun _ h=>h.elim)).trans B (fun _ h=> .inl h);have C:A.Wd l0<=c.Wd:=by omega
  have P:=aR _ _ _ _ _ _ _ _ _ _ _ _ V g (fun k f=>(z k f).1);refine ⟨eZ h F S',⟨h,φ',L',To,F,none,ns,bs,S',rfl,⟨p.cok,K,q6.frame g (Ne.symm X) (Ne.symm I),Q,ak q7 g (Ne.symm Y),q4,p.Sl,C,i,⟨rfl,r,H,U,P,q2⟩,fun k f=> ?_,X,I,?_,?_,?_,Y,e7,?_,e9⟩,fun k=>Iff.rfl,fun _=>rfl⟩,?_,?_⟩
  ·have h9:=J k f;have:=z k f;exact ⟨this.1,this.2.1,this.2.2.1,by omega,this.2.2.2.2⟩
  ·have:=a h.b (.inr (.inl rfl));omega
  ·have:=a h.rb (.inr (.inr (.inl rfl)));omega
  ·have:=a h.rg (.inr (.inr (.inr (.inl rfl))));omega
  ·omega
  ·refine (((hf.mono (fun _ h=>h.elim)).trans G (fun k f=> .inl ?_)).trans g (fun k f=> .inl ?_))
   ·exact (s k).2 (f.elim .inl (fun e=> .inr (.inr (.inr (.inl e)))))
   ·exact (s k).2 (.inr (.inl f))
  ·rintro k (f|f|f|f|f)
   ·rcases q8 k f with x|x
    ·exact .inl ((s k).2 (.inl x))
    ·exact .inr (by omega)
   ·exact .inl ((s k).2 (.inr (.inl f)))
   ·exact .inl ((s k).2 (.inr (.inr (.inl f))))
   ·exact .inl ((s k).2 (.inr (.inr (.inr (.inl f)))))
   ·exact .inr (by omega)
theorem xh (a:eT (fun _=>True) h c A rs φ L Ba u ub none 0 ns bs S w) (k:c.kind=2) (hf:Fr (fun _=>False) w w1):Calls Tryz.prog 72 #[h.m,.pointer (some ⟨h.rb,0,none⟩),cP Ba (Ba+u) (2*c.Pg+c.Wd-Ba) (2*c.Pg+c.Wd-Ba+c.Wd) c.block c.stack c.Ah] w1 (qI h.m h.rb h.rg c.Pg c.W c.Fs A rs (2*c.Pg+c.Wd-Ba) (2*c.Pg+c.Wd-Ba+c.Wd) S w1):=by
 have f:=a.keep hf;obtain ⟨_,Us,Hg,mp,j,g⟩:=f.mem;refine xj j f.roots f.tab (fun h=>(a.d _ h).2.2.2.2 rfl) ⟨fun h=>(a.d _ h).2.1 rfl,fun h=>(a.d _ h).2.2.1 rfl⟩ a.e.2.2.2.2.2.2.1 Ba (Ba+u) _ _ c.block c.stack c.Ah (a.half.conf a.cok (by omega) a.fits) a.laid (by have:=a.cok.slots1;have:=a.Sl;omega) (by have:=a.fits;omega) g ?_;obtain ⟨M,i,_⟩:=j;have l:=qB a.cok a.half a.fits i g;unfold Cf.Fs;rw [if_neg (by omega),if_pos k,Nat.add_sub_cancel_left];omega
def rR (b m rb ub:Nat) (c:Cf) (ns bs:Int) (A:AG) (rs:List Nat) (N Ba u:Nat) (T:Nat->Prop) (w:World) (e:Ending) (w5:World):Prop:=
 e= .returned (.tuple #[.int .i64 ((Ba+N:Nat):Int),.int .i64 0])∧gq w5 b c m rb ub none ns bs∧bR w5 ub m Ba (Ba+u) (Ba+c.Wd)∧Ba+N<=Ba+c.Wd∧
 ∀w7 w8,Fr (fun _=>False) w5 w7->bR w8 ub m Ba (Ba+N) (Ba+c.Wd)->Fr (fun k=>k=ub) w7 w8->t7 b c A rs N T w w8
theorem rR.Fh {N:Nat} {e:Ending} (h:rR b m rb ub c ns bs A rs N Ba u T w e w') (hf:Fr (fun _=>False) w' w''):rR b m rb ub c ns bs A rs N Ba u T w e w'':=by
 obtain ⟨f,g,i,j,k⟩:=h;exact ⟨f,aj.frame g hf (fun h=>h),aj.frame i hf (fun h=>h),j,fun l o g1 a d=>k l o (hf.trans g1 (fun _ h=>h.elim)) a d⟩
theorem xR (a:eT (fun _=>True) h c A rs φ L Ba u ub none 0 ns bs S w) (J:∀k,T k↔eZ h ub S k) (s:aJ A rs l0) (hf:Fr (fun _=>False) w w1):Calls Tryz.prog 74 #[h.m,.pointer (some ⟨h.rb,0,none⟩),.int .i64 Ba,.int .i64 ((Ba+u:Nat):Int),.int .i64 (c.stack:Int)] w1 fun e w5=>rR h.b h.m h.rb ub c ns bs A rs (A.Wd l0) Ba u T w e w5∧w1.heap.size<=w5.heap.size:=by
 have j:=a.keep hf;obtain ⟨_,Us,Hg,mp,hm,D⟩:=j.mem;have aq:=a.half.le;have a0:=a.half.top;have ah:=a.fits;have av:=a.cok.page2;obtain ⟨ap,_⟩:=a.cok.W5;obtain ⟨G,g⟩:=a.laid.conc;have hG:=cG.sound a.laid g;have C:=a.half.mod a.cok;have hO:=cG.obj a.laid g (j5 D C (show Ba+u<=c.W by omega)) (by omega);obtain ⟨e1,e2,e3,e4,N,e6,e7,e8,e9⟩:=a.e;have Q:=a.d;refine (callsIn_wide.1 (vK 0 hm j.roots j.tab (fun h=>(a.d _ h).2.2.2.2 rfl) ⟨fun h=>(a.d _ h).2.1 rfl,fun h=>(a.d _ h).2.2.1 rfl⟩ Ba (Ba+u) c.stack hG hO (cG.low a.laid g) (by omega) (by omega) (by omega) a.cok.stack1 a.cok.stack2 D C (a.laid.small g (by omega)) e7)).mono ?_;rintro e w5 ⟨E,L',S',t,M,ad,rfl,q1,q2,q3,q4,q5,q6,q7,q8,K⟩;have I:=cG.ext a.laid g q3 q4;have P:=(aJ.cnt (a.laid.wide (show Ba+u<=c.W by omega)) I s).1;have B:=(aJ.cnt a.laid I s).1;have a1:=a.laid.words_le (by omega) s;rw [P] at q2 ⊢;have p:=a.laid.slide I (show 1<=Ba by omega) (L':=L') (fun x Y i hi=>by
  have q:=q5 (φ x) ((q3 _).2 ((cG.reach a.laid g _).2 ⟨x,Y,rfl⟩)) i (by rw [I.size x Y];exact hi);rw [g.ptrs x Y,List.length_map,List.length_range] at q;exact q)
 rw [B] at p;have l:=j.lt;have a2:=hf.size;have Z:=K.size;have ax:aN<w1.heap.size:=aD (j.tab 0 0 rfl);have v:gq w5 h.b c h.m h.rb ub none ns bs:=aj.frame j.blk K (fun r=>r.elim (fun r=>(Q _ r).1 rfl) (fun e=>e2 e));have O:bR w5 ub h.m Ba (Ba+u) (Ba+c.Wd):=aj.frame j.reg K (fun r=>r.elim (fun r=>(Q _ r).2.2.2.1 rfl) (fun e=>N e.symm));have am:∀k,S' k->k<w5.heap.size:=(aF _ _ _ _ _ _ _).lt _ _ _ q1;have y:∀k,S' k->k≠h.b∧k≠h.rb∧k≠h.rg∧k≠ub∧k≠aN:=fun k o=>by
  rcases q8 k o with q|q
  ·exact Q k q
  ·have h2:=l h.b (.inr (.inl rfl));have h3:=l h.rb (.inr (.inr (.inl rfl)));have h4:=l h.rg (.inr (.inr (.inr (.inl rfl))));have h5:=l ub (.inr (.inr (.inr (.inr rfl))));exact ⟨by omega,by omega,by omega,by omega,by omega⟩
 refine ⟨⟨rfl,v,O,by omega,fun w7 w8 R X U=> ?_⟩,Z⟩;have f:Fr (fun k=>k=ub) w5 w8:=(R.mono (fun _ h=>h.elim)).trans U (fun _ h=> .inl h);have V:=aR _ _ _ _ _ _ _ _ _ _ _ _ q1 f (fun k o=>(y k o).2.2.2.1);rw [List.map_map] at q6;have F:rs.map (lD (goes E Ba) id∘φ)=rs.map (lD (goes E Ba) φ):=List.map_congr_left (fun z hz=>by
  show (if φ z=0 then 0 else goes E Ba (φ z))=if z=0 then 0 else goes E Ba (φ z)
  by_cases H:z=0
  ·rw [if_pos H,if_pos (by rw [H];exact a.laid.zero)]
  ·rw [if_neg H,if_neg (by have:=a.laid.pos (.root hz H);omega)])
 rw [F] at q6;refine ⟨eZ h ub S',⟨h,_,L',Ba,ub,none,ns,bs,S',rfl,⟨a.cok,aj.frame v f e3,q6.frame f e4 N,X,ak q7 f (Ne.symm e8),p,a.Sl,by omega,a.half,⟨rfl,t,M,ad,V,q2⟩,y,e1,e2,e3,e4,N,e6,e7,e8,e9⟩,fun k=>Iff.rfl,fun _=>rfl⟩,?_,?_⟩
 ·refine (((hf.mono (fun _ h=>h.elim)).trans K (fun k o=> .inl ?_)).trans f (fun k o=> .inl ?_))
  ·exact (J k).2 (o.elim .inl (fun e=> .inr (.inr (.inr (.inl e)))))
  ·exact (J k).2 (.inr (.inr (.inr (.inr o))))
 ·rintro k (o|o)
  ·rcases q8 k o with q|q
   ·exact .inl ((J k).2 (.inl q))
   ·exact .inr (by omega)
  ·exact .inl ((J k).2 (.inr o))
end
end Go.Proofs.YthahbijbpinneaaGreatDoor
