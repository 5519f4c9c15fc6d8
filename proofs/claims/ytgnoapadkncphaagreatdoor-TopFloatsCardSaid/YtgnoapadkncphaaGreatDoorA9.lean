import Derived.Test.YtgnoapadkncphaaGreatDoorA0
import Derived.Test.YtgnoapadkncphaaGreatDoorA3
import Derived.Test.YtgnoapadkncphaaGreatDoorA6
import Derived.Test.YtgnoapadkncphaaGreatDoorA7
import Derived.Test.YtgnoapadkncphaaGreatDoorA8
set_option maxRecDepth 100000
set_option maxHeartbeats 8000000
set_option linter.all false
namespace Go.Proofs.YtgnoapadkncphaaGreatDoor
open Go.RowKit Go.Proofs.Tryz
def lg(b:Nat)(c:Cf)(m rb:Nat)(cy:Option Nat)(ns bs:Int)(Ba top wd:Nat)(w w':World):Prop:=∃ub',nS w' b c m rb ub' cy ns bs/\eW w' ub' m Ba top (Ba+wd)/\w.heap.size<=ub'/\Fr (fun k=>k=b) w w'
section
variable{b m rb ub:Nat}{c:Cf}{cy:Option Nat}{ns bs:Int}{w w' w'':World}
theorem lg.size{Ba top a:Nat}(h:lg b c m rb cy ns bs Ba top a w w'):w.heap.size<=w'.heap.size:=let ⟨_,_,_,_,h⟩:=h;h.size
theorem wi{S:Nat->Prop}{Pg W Rm Us Hg:Nat}{mp:Nat->Bool}{M:Nat->Nat}(h:nS w b c m rb ub cy ns bs)(hm:dQ w m S Pg W Rm Us Hg mp M)(Ba top:Nat)(s:Ba<=top)(o:top<=Ba+c.Wd)(J:Ba+c.Wd<=W):
  Calls prog 63 #[b,(Ba:Int),(top:Int)] w fun e w'=>e= .returned (.tuple #[])/\lg b c m rb cy ns bs Ba top c.Wd w w':=by
 obtain ⟨i,r⟩:∃i,i=c.Wd:=⟨_,rfl⟩;have aj:=hm.at.2.2.1;rw [<-r] at o J;have P:=ae (fun w1 (hf:J7 w.drew w1)=>(show w1.cell? ⟨b,8,none⟩=some m/\w1.cell? ⟨b,3,none⟩=some (i:Int) from by
  have g:ay w1 b _ _:=ay.frame h (((Kb (fun _=>False) w).drew).trans hf J8) id;rw [r];exact ⟨g.cell 8 rfl,g.cell 3 rfl⟩))
 have B:=ae (fun w1 (hf:J7 w.drew w1)=>uH (hm.Qb (((Kb (fun _=>False) w).drew).trans hf J8)) Ba (Ba+i) (by omega) J);have ak:IntKind.i64.wrap ((Ba:Int)+(i:Int))=((Ba+i:Nat):Int):=by rw [IntKind.wrap_i64];push_cast;omega
 have HH:=ae h;have q:=ay.lt h;have E:=ae (fun w1 d (f:eW w1 d m Ba Ba (Ba+i))=>wN f top s o);have HQ:Hid (∀d w1 w2,w.heap.size<=d->Fr (fun k=>k=b) w w1->nS w1 b c m rb d cy ns bs->eW w2 d m Ba top (Ba+i)->Fr (fun k=>k=d) w1 w2->lg b c m rb cy ns bs Ba top c.Wd w w2):=by
  show∀d w1 w2,_
  intro d w1 w2 l G n I a5;have hb:=ay.lt h;refine ⟨d,ay.frame n a5 (fun e=>by omega),by rw [<-r];exact I,l,G.trans a5 (fun k hk=> .inr (by omega))⟩
 have k8:w.cell? ⟨b,8,none⟩=some m:=ay.cell h 8 rfl;clear h hm s o J;have ag:=ae r;clear r;generalize (lg b c m rb cy ns bs Ba top c.Wd w)=Q at*
 go_enter func63,ntmps63
 go_wp2;refine cR 20 19 (fun a R=>Fr (fun k=>k=b) a R) (fun a R=>J7 a R) [.c b,.c b,.c b,.c (.pointer (some ⟨b,8,none⟩)),.c m,.c (Ba:Int),.c (Ba:Int),.c b,.c b,.c b,.c (.pointer (some ⟨b,3,none⟩)),.c (i:Int),.c (.int .i64 (((Ba+i:Nat)):Int)),.p (fun v w'=>∃ub,w.heap.size<=ub/\v= .tuple #[.pointer (some ⟨ub,0,none⟩),(0:Int)]/\eW w' ub m Ba Ba (Ba+i)),.p (fun v w'=>∃ub,w.heap.size<=ub/\v= .tuple #[.pointer (some ⟨ub,0,none⟩),(0:Int)]/\eW w' ub m Ba Ba (Ba+i)),.p (fun v w'=>∃ub,w.heap.size<=ub/\v= .pointer (some ⟨ub,0,none⟩)/\eW w' ub m Ba Ba (Ba+i)),.p (fun v w'=>True),.c b,.c (.pointer (some ⟨b,10,none⟩)),.p (fun v w'=>∃ub,w.heap.size<=ub/\eW w' ub m Ba Ba (Ba+i)/\nS w' b c m rb ub cy ns bs)] (fun j=>false) (by kernel_rfl) (fun _=>Kb _ _) (fun _ _ h=>h.mono J8) (fun _ _ _ s o=>s.trans o J8) (fun _ _ _ s o=>s.trans o J8) (fun _ _ _ s o=>(s.mono J8).trans o (fun _ h=> .inl h)) (fun _ _ h=>h.size) ⟨fun v w1 w2 h f=>let ⟨ub,a,b,c⟩:=h;⟨ub,a,b,ay.frame c f id⟩,fun v w1 w2 h f=>let ⟨ub,a,b,c⟩:=h;⟨ub,a,b,ay.frame c f id⟩,fun v w1 w2 h f=>let ⟨ub,a,b,c⟩:=h;⟨ub,a,b,ay.frame c f id⟩,fun _ _ _ h _=>h,fun v w1 w2 h f=>let ⟨ub,a,b,c⟩:=h;⟨ub,a,ay.frame b f id,ay.frame c f id⟩,trivial⟩ ⟨.inr (fun v w1 w2 h f=>let ⟨ub,a,b,c⟩:=h;⟨ub,a,b,ay.frame c f (fun e=>by have:=q;omega)⟩),.inr (fun v w1 w2 h f=>let ⟨ub,a,b,c⟩:=h;⟨ub,a,b,ay.frame c f (fun e=>by have:=q;omega)⟩),.inr (fun v w1 w2 h f=>let ⟨ub,a,b,c⟩:=h;⟨ub,a,b,ay.frame c f (fun e=>by have:=q;omega)⟩),.inr (fun _ _ _ h _=>h),.inl rfl,trivial⟩ ?_;intro F hF;simp only [il,PK.val,Kc,aa] at hF;subst hF;refine ⟨by
  refine ⟨?_,?_,?_,?_,?_,?_,?_,?_,?_,?_,?_,?_,?_,?_,?_,?_,?_,?_,?_,?_,trivial⟩<;>intro vs w1 hw t O hx
  all_goals try (apply oV;rotate_left;rfl;exact Kb _ _;go_simp;done)
  all_goals try (apply oV;rotate_left;rfl;exact Kb _ _;have u:=t (by kernel_rfl);have k8:=(P.out w1 u).1;go_simp;done)
  all_goals try (apply oV;rotate_left;rfl;exact Kb _ _;have u:=t (by kernel_rfl);have k3:=(P.out w1 u).2;go_simp;done)
  ·have u:=t (by kernel_rfl);refine bh 49 #[m,(Ba:Int),(((Ba+i:Nat):Int):Int)] (by go_simp) ((B.out w1 u).mono ?_);rintro e w5 ⟨ub,rfl,s,o,J⟩;exact ⟨_,rfl,⟨ub,aH u.size o,rfl,s⟩,J,fun h=>nomatch h⟩
  ·have Z:=O 13 (by kernel_rfl);obtain ⟨ub,l,G,n⟩:=Z;refine aJ (.tuple #[ub,(0:Int)]) (by go_simp) ⟨⟨ub,l,rfl,n⟩,Kb _ _,fun h=>nomatch h⟩
  ·have x:=O 14 (by kernel_rfl);obtain ⟨ub,l,G,n⟩:=x;refine aJ (.pointer (some ⟨ub,0,none⟩)) (by go_simp) ⟨⟨ub,l,rfl,n⟩,Kb _ _,fun h=>nomatch h⟩
  ·have x:=O 14 (by kernel_rfl);obtain ⟨ub,l,G,n⟩:=x;refine aJ (.int .i64 0) (by go_simp) ⟨trivial,Kb _ _,fun h=>nomatch h⟩
  ·have ad:=O 15 (by kernel_rfl);obtain ⟨ub,l,G,n⟩:=ad;have u:=t (by kernel_rfl);have y:nS w1 b c m rb _ cy ns bs:=ay.frame HH.out (((Kb (fun _=>False) w).drew).trans u J8) id;have N:=ay.cell y 10 rfl;have ah:=ay.free y 10;refine fZ (w':=w1.setCell ⟨b,10,none⟩ (.pointer (some ⟨ub,0,none⟩))) (by go_simp) ⟨⟨ub,l,ay.frame n ((Kb (fun k=>k=b) w1).setCell ⟨b,10,none⟩ (.inl rfl) _) (fun e=>by have:=q;omega),y.set 10 _⟩,(Kb (fun k=>k=b) w1).setCell ⟨b,10,none⟩ (.inl rfl) _,fun h=>nomatch h⟩
  ,fun vs w1 hw hp hx=> ?_⟩
 obtain ⟨T,U,V,X,Y,_⟩:=hp;obtain ⟨ub,l,n,I⟩:=Y;clear T U V X hx;simp only [an,aB];have D:=ae n;have A:=ae I;have C:=ae ((show Fr (fun k=>k=b) w w.drew from (Kb _ _).drew).trans hw (fun _ h=> .inl h));have z:=ae l;have N:=ay.cell I 10 rfl;clear hw l n I P B HH q;go_wp2_with fail
 refine (E.out _ _ D.out).mono ?_;intro e w5 hp;obtain ⟨rfl,L,K⟩:=hp;have H:=ae (HQ.out ub w1 w5 z.out C.out A.out L K);clear L K HQ D C z E A N;go_wp2;go_end0;exact ⟨rfl,H.out⟩
theorem Fp.Qb{A:AG}{rs:List Nat}{u n:Nat}{T:Nat->Prop}(a:Fp b c A rs u n T w)(hf:J7 w w'):Fp b c A rs u n T w':=by
 obtain ⟨h,φ,L,Ba,ub,cy,ns,bs,S,d,e,f⟩:=a;exact ⟨h,φ,L,Ba,ub,cy,ns,bs,S,d,e.Qb hf,f⟩
def Ff(b:Nat)(c:Cf)(A:AG)(rs:List Nat)(T:Nat->Prop)(w:World)(e:Ending)(w':World):Prop:=e= .returned (.tuple #[])/\∃l n' T',dt A rs l/\eF b c A rs (A.Wd l) n' T' w'/\Fr T w w'/\∀k,T' k->T k\/w.heap.size<=k
end
def JR(b m rb:Nat)(c:Cf)(ns bs:Int)(A:AG)(rs:List Nat)(T:Nat->Prop)(w:World)(To y tp wd:Nat)(w6:World):Prop:=
 (∀w7,J7 w6 w7->Calls prog 64 #[y] w7 fun e w'=>e= .returned (tp:Int)/\J7 w7 w')/\
 (∀w7,J7 w6 w7->Calls prog 63 #[b,(To:Int),(tp:Int)] w7 fun e w'=>e= .returned (.tuple #[])/\lg b c m rb (some y) ns bs To tp wd w7 w')/\
 (∀w7 w8,J7 w6 w7->lg b c m rb (some y) ns bs To tp wd w7 w8->∃l n T1,dt A rs l/\Fp b c A rs (A.Wd l) n T1 w8/\Fr T w w8/\∀k,T1 k->T k\/w.heap.size<=k)
section
variable{b u n Ba ub:Nat}{h:Hp}{c:Cf}{A:AG}{rs:List Nat}{T S:Nat->Prop}{φ L:Nat->Nat}{ns bs:Int}{w w1 w5 w6:World}
theorem Dy(r:lp (fun _=>True) h c A rs φ L Ba u ub none 0 ns bs S w)(C:∀k,T k↔lC h ub S k)(a:c.kind=1)(hf:J7 w w1){e:Ending}(ho:sq h.m h.rb h.rg c.Pg c.W c.Fs A rs (2*c.Pg+c.Wd-Ba) (2*c.Pg+c.Wd-Ba+c.Wd) c.block c.Ah S w1 e w5):
  ∃y tp,e= .returned (.tuple #[.pointer (some ⟨y,0,none⟩),(0:Int)])/\nS w5 h.b c h.m h.rb ub none ns bs/\(∀D cs t,w.heap.size<=D->ay w1 D cs t->ay w5 D cs t)/\∀w6,Fr (fun k=>k=h.b) w5 w6->nS w6 h.b c h.m h.rb ub (some y) ns bs->JR h.b h.m h.rb c ns bs A rs T w (2*c.Pg+c.Wd-Ba) y tp c.Wd w6:=by
 have z:=r.Qb hf;have j:=r.half.other (by omega);have V:=j.le;have J:=j.top;generalize 2*c.Pg+c.Wd-Ba=To at ho j V J ⊢;obtain ⟨O,s,U,hg,φ',L',S',l,rfl,r1,Z,r3,r4,r5,r6,r7,q1,q2,q3,q4,q5,q6,q7,q8,N,ar,Y⟩:=ho;obtain ⟨ag,_⟩:=r.Qw.W5;have f:=z.lt;have am:=hf.size;have aq:=N.size;obtain ⟨e1,P,e3,e4,e5,E,e7,e8,e9⟩:=r.e;have hd:=r.d;have ak:ch<w1.heap.size:=bu (z.Qo 0 0 rfl);have F:nS w5 h.b c h.m h.rb ub none ns bs:=ay.frame z.Qd N (fun q=>q.elim (fun q=>(hd _ q).1 rfl) (fun e=>P e));have aj:=ay.lt F;refine ⟨O.y,To+A.Wd l,rfl,F,fun D cs t ah hb=>ay.frame hb N (fun q=> ?_),fun w6 p Q=> ?_⟩
 ·have I:=r.lt;have h3:=I h.rg (.inr (.inr (.inr (.inl rfl))));rcases q with q|q
  ·have:=I D (.inl q);omega
  ·omega
 have ad:∀k,S' k->k<w5.heap.size:=q2.lt;have v:∀k,S' k->k≠h.b/\k≠h.rb/\k≠h.rg/\k≠ub/\k≠ch:=fun k a=>by
  rcases q8 k a with B|B
  ·grind
  ·have h2:=f h.b (.inr (.inl rfl));have h3:=f h.rb (.inr (.inr (.inl rfl)));have h4:=f h.rg (.inr (.inr (.inr (.inl rfl))));have h5:=f ub (.inr (.inr (.inr (.inr rfl))));omega
 have an:=p.size;obtain ⟨Us,x⟩:=q2.su;refine ⟨fun w7 g=> ?_,fun w7 g=> ?_,fun w7 w8 g hp=> ?_⟩
 ·have o:=(x.stays p (fun k a=>(v k a).1) (Ne.symm E)).stays g (fun _ _ h=>h) id;obtain ⟨Hg,Sm,mp,M,fw,n,p1,p2,p3,p4,p5⟩:=o;have B:=CS p1.Qd p1.Xh (by rw [p1.Qe,Z];omega);refine B.mono ?_;rintro e w' ⟨rfl,h2⟩;rw [p1.Qe,Z,Y]
  grind
 ·have o:=(x.stays p (fun k a=>(v k a).1) (Ne.symm E)).stays g (fun _ _ h=>h) id;obtain ⟨Hg,Sm,mp,M,fw,n,p1,p2,p3,p4,p5⟩:=o;have hm:=p1.mem;rw [r1,r4] at hm;exact wi (ay.frame Q g id) hm To (To+A.Wd l) (by omega) q5 J
 ·obtain ⟨K,R,X,al,G⟩:=hp;have ao:=g.size;have ap:=G.size;have i:Fr (fun k=>k=h.b) w5 w8:=(p.trans g J8).trans G (fun _ h=> .inl h);have H:A.Wd l<=c.Wd:=by omega
  refine ⟨l,s.nb,lC h K S',q3,⟨h,φ',L',To,K,some O.y,ns,bs,S',rfl,⟨r.Qw,R,q6.frame i (Ne.symm e1) (Ne.symm P),X,aE q7 i (Ne.symm E),q4,r.Sl,H,j,⟨a,O,s,U,hg,_,0,0,q1,⟨Us,trivial,x.stays i (fun k a=>(v k a).1) (Ne.symm E)⟩,rfl,r1,Z,r3,by grind,r4,r6,r7⟩,fun k a=> ?_,e1,P,?_,?_,?_,E,e7,?_,e9⟩,fun k=>dO⟩,?_,?_⟩
  ·grind
  ·omega
  ·have:=f h.rb (.inr (.inr (.inl rfl)));omega
  ·have:=f h.rg (.inr (.inr (.inr (.inl rfl))));omega
  ·omega
  ·refine (((hf.mono J8).trans N (fun k a=> .inl ?_)).trans i (fun k a=> .inl ?_))
   ·exact (C k).2 (a.elim .inl (fun e=> .inr (.inr (.inr (.inl e)))))
   ·exact (C k).2 (.inr (.inl a))
  ·rintro k (a|a|a|a|a)
   ·rcases q8 k a with B|B
    ·exact .inl ((C k).2 (.inl B))
    omega
   ·exact .inl ((C k).2 (.inr (.inl a)))
   ·exact .inl ((C k).2 (.inr (.inr (.inl a))))
   ·exact .inl ((C k).2 (.inr (.inr (.inr (.inl a)))))
   omega
theorem rM(hi:eF b c A rs u 0 T w)(hk:c.kind=1):Calls prog 24 #[b] w (Ff b c A rs T w):=by
 obtain ⟨h,φ,L,Ba,ub,cy,ns,bs,S,rfl,f,hT,aN⟩:=hi;obtain rfl:=aN rfl;have X:=ae (tx f.Qw f.Qd f.Yd (by have:=f.half.le;omega));have s:=ae (fun w1 (hf:J7 w w1)=>(show Calls prog 62 #[h.m,h.rb,ic Ba (Ba+u) (2*c.Pg+c.Wd-Ba) (2*c.Pg+c.Wd-Ba+c.Wd) c.block c.stack c.Ah] w1 (sq h.m h.rb h.rg c.Pg c.W c.Fs A rs (2*c.Pg+c.Wd-Ba) (2*c.Pg+c.Wd-Ba+c.Wd) c.block c.Ah S w1) from by
  obtain ⟨_,Us,Hg,mp,hm,a0⟩:=(f.Qb hf).mem;refine callsIn_wide.1 (CY 0 hm (f.Qb hf).roots (f.Qb hf).Qo (fun h=>(f.d _ h).2.2.2.2 rfl) ⟨fun h=>(f.d _ h).2.1 rfl,fun h=>(f.d _ h).2.2.1 rfl⟩ f.e.2.2.2.2.2.2.1 Ba (Ba+u) _ _ c.block c.stack c.Ah (f.half.conf f.Qw (by omega) f.fits) f.laid (by have:=f.Qw.Ya;have:=f.Sl;omega) (by have:=f.fits;omega) a0 ?_ f.Qw.div);unfold Cf.Fs Cf.spare;rw [if_pos hk,ef];rfl))
 have az:=ae (fun w1 w5 e (hf:J7 w w1) ho=>Dy (e:=e) (w5:=w5) f hT hk hf ho);have am:=ae (fun u n t w1 (hj:Fp h.b c A rs u n t w1)=>uy hj);have U:=ae f.Qd;have aR:Hid ((prog.info? 113).map (·.size)=some 7):=by show _=_;kernel_rfl
 have a2:=ae (DB Ba (Ba+u:Nat) (2*c.Pg+c.Wd-Ba:Nat) (2*c.Pg+c.Wd-Ba+c.Wd:Nat) c.block c.stack c.Ah);have HQ:Hid (∀w1 e w2 l n t,dt A rs l->Fr T w w1->(∀k,t k->T k\/w.heap.size<=k)->IY h.b c A rs (A.Wd l) n t w1 e w2->e= .returned (.tuple #[])/\Ff h.b c A rs T w (.returned (.tuple #[])) w2):=by
  show∀w1 e w2 l n t,_
  rintro w1 e w2 l n t g0 g1 g2 ⟨rfl,T2,g3,g4,g5⟩;have hz:=g1.size;exact ⟨rfl,rfl,l,n,T2,g0,g3,g1.trans g4 g2,fun k hk=>(g5 k hk).elim (g2 k) (fun h=> .inr (by omega))⟩
 clear f hT aN;unfold ic at X s;generalize (Ff h.b c A rs T w)=Q at*;generalize 2*c.Pg+c.Wd-Ba=To at*;generalize To+c.Wd=Li at*;generalize Ba+u=Tp at*;obtain ⟨b,m,rb,rg⟩:=h;dsimp only at*
 go_enter func24,ntmps24
 go_wp2_with fail
 refine X.out.mono ?_;rintro e w2 ⟨rfl,ah⟩;obtain ⟨z,aC⟩:∃z,w2.alloc (.cells #[(Ba:Int),(Tp:Int),(To:Int),(Li:Int),((c.block:Int):Int),((c.stack:Int):Int),((c.Ah:Int):Int)] 113)=z:=⟨_,rfl⟩;have K:J7 w z.drew:=by rw [<-aC];exact (ah.alloc _).drew
 have V:Hid (ay z.drew w2.heap.size [(Ba:Int),(Tp:Int),(To:Int),(Li:Int),((c.block:Int):Int),((c.stack:Int):Int),((c.Ah:Int):Int)] 113):=by rw [<-aC];exact ae (ay.new w2 _ _)
 have Y:nS z.drew b c m rb ub none ns bs:=ay.frame U.out K id;have k8:=ay.cell Y 8 rfl;have k9:=ay.cell Y 9 rfl;have N:=ae (s.out z.drew K);have O:=ae (fun w5 e ho=>az.out z.drew w5 e K ho);have C:Hid (∀e w5,sq m rb rg c.Pg c.W c.Fs A rs To Li c.block c.Ah S z.drew e w5->z.drew.heap.size<w5.heap.size):=ae (fun e w5 h=>by
  obtain ⟨_,_,_,_,_,_,_,_,_,_,_,_,_,_,_,_,_,_,_,_,_,_,_,_,_,i,_⟩:=h;exact i)
 have I:Hid (∀e w5,sq m rb rg c.Pg c.W c.Fs A rs To Li c.block c.Ah S z.drew e w5->∃y,e= .returned (.tuple #[.pointer (some ⟨y,0,none⟩),(0:Int)])):=ae (fun e w5 h=>by
  obtain ⟨_,_,_,_,_,_,_,_,i,_⟩:=h;exact ⟨_,i⟩)
 generalize (sq m rb rg c.Pg c.W c.Fs A rs To Li c.block c.Ah S z.drew)=OPN at*;have ao:=ae ah;have ak:=U;clear ah X K Y s az U;generalize c.block=bk at*;generalize c.stack=sk at*;generalize c.Ah=ad at*;have s:=N;clear N;go_wp2;refine cR 15 9 (fun a B=>(B=a\/a=z.drew)/\a.heap.size<=B.heap.size) (fun a B=>B=a) [.c b,.c b,.c (.pointer (some ⟨b,8,none⟩)),.c m,.c b,.c b,.c (.pointer (some ⟨b,9,none⟩)),.c rb,.c (.agg #[(Ba:Int),(Tp:Int),(To:Int),(Li:Int),(bk:Int),(sk:Int),(ad:Int)]),.p (fun v w'=>OPN (.returned v) w'),.p (fun v w'=>OPN (.returned v) w'),.p (fun v w'=>∃y,v= .pointer (some ⟨y,0,none⟩)/\OPN (.returned (.tuple #[.pointer (some ⟨y,0,none⟩),(0:Int)])) w'),.c (0:Int),.p (fun v w'=>∃y,v= .pointer (some ⟨y,0,none⟩)/\OPN (.returned (.tuple #[.pointer (some ⟨y,0,none⟩),(0:Int)])) w'),.c (0:Int)] (fun j=>false) (by kernel_rfl) (fun _=>rfl) (fun _ _ h=>⟨.inl h,by rw [h];exact ag _⟩) (fun _ _ _ i r=>r.trans i) (fun _ _ _ i r=>by subst r;exact i) (fun _ _ _ i r=>by subst i;exact r) (fun _ _ h=>h.2) ⟨fun v w1 w2 h o=>by subst o;exact h,fun v w1 w2 h o=>by subst o;exact h,fun v w1 w2 h o=>by subst o;exact h,fun v w1 w2 h o=>by subst o;exact h,trivial⟩ ⟨.inl rfl,.inr (fun v w1 w2 h o=>by rcases o.1 with e|e;(subst e;exact h);(subst e;exact absurd (C.out _ _ h) (kg _))),.inr (fun v w1 w2 h o=>by rcases o.1 with e|e;(subst e;exact h);(subst e;obtain ⟨y,_,h⟩:=h;exact absurd (C.out _ _ h) (kg _))),.inr (fun v w1 w2 h o=>by rcases o.1 with e|e;(subst e;exact h);(subst e;obtain ⟨y,_,h⟩:=h;exact absurd (C.out _ _ h) (kg _))),trivial⟩ ?_;intro F hF;simp only [il,PK.val,Kc,aa] at hF;subst hF;refine ⟨by
  refine ⟨?_,?_,?_,?_,?_,?_,?_,?_,?_,?_,?_,?_,?_,?_,?_,trivial⟩<;>intro vs w1 f q hd hx
  all_goals try (apply oV;rotate_left;rfl;exact rfl;go_simp;done)
  all_goals try (apply oV;rotate_left;rfl;exact rfl;have E:=q (by kernel_rfl);subst E;go_simp;done)
  ·have E:=q (by kernel_rfl);subst E;refine aJ (.agg #[(Ba:Int),(Tp:Int),(To:Int),(Li:Int),(bk:Int),(sk:Int),(ad:Int)]) ?_ ⟨rfl,rfl,fun h=>nomatch h⟩;exact eX rfl w2.heap.size rfl 113 _ (0,0) _ V.out underlying113 rfl aR.out
  ·have E:=q (by kernel_rfl);subst E;refine bh 62 #[m,rb,.agg #[(Ba:Int),(Tp:Int),(To:Int),(Li:Int),(bk:Int),(sk:Int),(ad:Int)]] (by go_simp) (s.out.mono ?_);intro e w5 hp;have hz:=C.out e w5 hp;obtain ⟨y,rfl⟩:=I.out e w5 hp;exact ⟨_,rfl,hp,⟨.inr rfl,ea hz⟩,fun h=>nomatch h⟩
  ·have h9:=hd 9 (by kernel_rfl);refine aJ (vs 9) (by go_simp) ⟨h9,rfl,fun h=>nomatch h⟩
  ·have g:=hd 10 (by kernel_rfl);have g:OPN (.returned (vs 10)) w1:=g;obtain ⟨y,R⟩:=I.out _ _ g;have aP:=Ending.returned.inj R;rw [aP] at g;refine aJ (.pointer (some ⟨y,0,none⟩)) (by go_simp) ⟨⟨y,rfl,g⟩,rfl,fun h=>nomatch h⟩
  ·have g:=hd 10 (by kernel_rfl);have g:OPN (.returned (vs 10)) w1:=g;obtain ⟨y,R⟩:=I.out _ _ g;have aP:=Ending.returned.inj R;clear R g;refine aJ (.int .i64 0) (by go_simp) ⟨rfl,rfl,fun h=>nomatch h⟩
  ·have aX:=hd 11 (by kernel_rfl);obtain ⟨y,R,ho⟩:=aX;refine aJ (.pointer (some ⟨y,0,none⟩)) (by go_simp) ⟨⟨y,rfl,ho⟩,rfl,fun h=>nomatch h⟩
  ,fun vs w1 f hp hx=> ?_⟩
 obtain ⟨g9,aT,aU,aW,_⟩:=hp;obtain ⟨y,R,Xf⟩:=aW;simp only [R];clear g9 aT aU hx R f;simp only [an,aB];obtain ⟨y',tp,e1,J,P,hJ⟩:=O.out _ _ Xf;have e2:y=y':=by
  have i:=congrArg (fun x=>match x with|Ending.returned (.tuple #[.pointer (some a),_])=>a.block|_=>0) e1;exact i
 subst e2;have aI:=P _ _ _ ao.out.size V.out;clear e1 P Xf V s C I O k8 k9;have aj:Fr (fun k=>k=b) w1 (w1.setCell ⟨b,11,none⟩ (.pointer (some ⟨y,0,none⟩))):=(Kb (fun k=>k=b) w1).setCell ⟨b,11,none⟩ (.inl rfl) _;have aY:=ay.lt ak.out;have D:=hJ _ aj (J.set 11 (.pointer (some ⟨y,0,none⟩)));have Z:=ay.frame aI aj (fun e=>by have:=ao.out.size;omega);have a1:=ay.cell J 11 rfl;have aS:=ay.free J 11;obtain ⟨G,aG⟩:∃G,w1.setCell ⟨b,11,none⟩ (.pointer (some ⟨y,0,none⟩))=G:=⟨_,rfl⟩;rw [aG] at D Z;have ax:=ae (fun w1 (hf:J7 G.drew w1)=>D.1 w1 (((Kb (fun _=>False) G).drew).trans hf J8));have aq:=ae (fun w1 (hf:J7 G.drew w1)=>D.2.1 w1 (((Kb (fun _=>False) G).drew).trans hf J8));have ar:=ae (fun w1 w8 (hf:J7 G.drew w1) hp=>D.2.2 w1 w8 (((Kb (fun _=>False) G).drew).trans hf J8) hp);have ap:=ae (fun w1 (hf:J7 G.drew w1)=>(ay.frame Z (((Kb (fun _=>False) G).drew).trans hf J8) id).cell 2 rfl);clear hJ D aI Z J aj aY;go_wp2;clear aG a1 aS;refine cR 6 5 (fun a B=>(J7 a B\/True)/\a.heap.size<=B.heap.size) (fun a B=>J7 a B) [.c b,.c (.pointer (some ⟨w2.heap.size,2,none⟩)),.c (To:Int),.c y,.c (tp:Int),.p (fun _ w'=>∃l n t,dt A rs l/\Fp b c A rs (A.Wd l) n t w'/\Fr T w w'/\∀k,t k->T k\/w.heap.size<=k)] (fun j=>false) (by kernel_rfl) (fun _=>Kb _ _) (fun _ _ h=>⟨.inl h,h.size⟩) (fun _ _ _ i r=>i.trans r J8) (fun _ _ _ i r=>⟨i.1.elim (fun h=> .inl (h.trans r J8)) (fun h=> .inr trivial),aH i.2 r.size⟩) (fun _ _ _ i r=>⟨.inr trivial,aH i.size r.2⟩) (fun _ _ h=>h.2) ⟨fun v w1 w2 h o=>let ⟨l,n,t,i,r,h3,h4⟩:=h;⟨l,n,t,i,r.Qb o,h3.trans o J8,h4⟩,trivial⟩ ⟨.inl rfl,trivial⟩ ?_;intro F hF;simp only [il,PK.val,Kc,aa] at hF;subst hF;refine ⟨by
  refine ⟨?_,?_,?_,?_,?_,?_,trivial⟩<;>intro vs w1 f q hd hx
  all_goals try (apply oV;rotate_left;rfl;exact Kb _ _;go_simp;done)
  all_goals try (apply oV;rotate_left;rfl;exact Kb _ _;have k2:=ap.out w1 (q (by kernel_rfl));go_simp;done)
  ·refine bh 64 #[y] (by go_simp) ((ax.out w1 (q (by kernel_rfl))).mono ?_);rintro e w5 ⟨rfl,hf⟩;exact ⟨_,rfl,rfl,hf,fun h=>nomatch h⟩
  ·have aO:=q (by kernel_rfl);refine bh 63 #[b,(To:Int),(tp:Int)] (by go_simp) ((aq.out w1 aO).mono ?_);rintro e w5 ⟨rfl,hp⟩;exact ⟨_,rfl,ar.out w1 w5 aO hp,⟨.inr trivial,hp.size⟩,fun h=>nomatch h⟩
  ,fun vs w1 f hp hx=> ?_⟩
 obtain ⟨g5,_⟩:=hp;obtain ⟨l,n1,t,b1,B,b3,b4⟩:=g5;clear hx f;simp only [an,aB];have M:=ae (am.out _ _ _ _ B);have av:=ae (fun e w2 he=>HQ.out w1 e w2 l n1 t b1 b3 b4 he);clear am HQ b1 B b3 b4 ax aq ar ap;go_wp2_with fail
 refine M.out.mono ?_;intro e w7 he;obtain ⟨rfl,hq⟩:=av.out _ _ he;have H:=ae hq;clear he hq M av;go_wp2;go_end0;exact H.out
end
section
variable{m b g Pg W Fs Us Hg:Nat}{S:Nat->Prop}{mp:Nat->Bool}{L:Nat->Nat}{w:World}
def AB(m b g Pg W Fs:Nat)(A:AG)(rs:List Nat)(T Li:Nat)(S:Nat->Prop)(w:World)(e:Ending)(w':World):Prop:=
 ∃(φ' L':Nat->Nat) (S':Nat->Prop) (used' Hg':Nat) (mp':Nat->Bool) (l:List Nat),e= .returned (.tuple #[(((T+A.Wd l:Nat):Int):Int),(0:Int)])/\dJ m Pg W Fs used' Hg' mp' L' S' w'/\(∀q,mp' q=(decide (T<=q*Pg)&&decide (q*Pg<T+A.Wd l)))/\dt A rs l/\ce A rs φ' L' T (T+A.Wd l)/\T+A.Wd l<=Li/\cz w' b g (rs.map φ')/\ee w'/\(∀k,S' k->S k\/w.heap.size<=k)/\Fr (fun k=>S k\/k=g) w w'
theorem Id.fr{kb wb:Nat}{S0:Nat->Prop}{w0:World}{sz d:Nat->Nat}{a:Nat}{R:Nat->Prop}{ls rs:List Nat}{cur:Nat}(h:Id m Pg W Fs Us Hg mp kb wb S0 w0 L sz d a R ls rs cur w):Fr (fun k=>S0 k\/k=kb\/k=wb) w0 w:=by
 obtain ⟨e,s,c,⟨⟨i,j,f,l⟩,_⟩,_⟩:=h;exact f
theorem GK{A:AG}{rs:List Nat}{φ:Nat->Nat}(hi:dJ m Pg W Fs Us Hg mp L S w)(hr:cz w b g (rs.map φ))(hT:ee w)(K:¬S ch)(u:¬S b/\¬S g)(aU:g≠ch)(F Tp T Li B Rm ah:Nat)(hc:nU Pg W F Tp T Li B Rm ah)(hl:ce A rs φ L F Tp)(cN:1<=rs.length)(J:Tp-F<=Li-T)(ad:∀q,mp q=(decide (F<=q*Pg)&&decide (q*Pg<Tp)))(Y:Us+(Li-T)/Pg<=Fs):
  Calls prog 99 #[m,b,ic F Tp T Li B Rm ah] w (AB m b g Pg W Fs A rs T Li S w):=by
 have p:=bR m Pg W Fs Us Hg mp;have cU:=hi.choose_spec.1.at;obtain ⟨ar,aY,be,bk,dM,dI,dx,dN,bd⟩:=cU;have bl:=p.lt _ _ _ hi;have a7:ch<w.heap.size:=bu (hT 0 0 rfl);have a0:=hr.Qd.lt;have a6:=hr.row.lt;obtain ⟨G,Q⟩:=hl.conc;have hG:=gx.sound hl Q;have a8:=hc.F1;have av:=hc.F2;have ax:=hc.F3;have aj:=hc.T1;have a9:=hc.T2;have bb:=hc.T3;have aC:=hc.F4;have ak:=hc.T4;have aO:=hc.L4;have am:=hc.ap;have aN:F=F/Pg*Pg:=by have:=az F Pg;rw [bg];omega
 have bc:T=T/Pg*Pg:=by have:=az T Pg;rw [bg];omega
 have f:∀k,F<=k->k<Tp->cX W Pg mp k:=fun k h1 R=>by
  refine ⟨by omega,?_⟩;have h3:=aG Pg (aS (c:=Pg) h1);have h4:=ba k Pg;rw [ad,decide_eq_true (show F<=k/Pg*Pg by omega),decide_eq_true (show k/Pg*Pg<Tp by omega)];rfl
 have hO:=gx.obj hl Q f (by omega);have aq:=gx.low hl Q;obtain ⟨W1,bv⟩:∃W1,w.alloc (.cells #[(F:Int),(Tp:Int),(T:Int),(Li:Int),(B:Int),(Rm:Int),(ah:Int)] 113)=W1:=⟨_,rfl⟩;have I:J7 w W1:=by rw [<-bv];exact (Kb _ w).alloc _
 have aR:ay W1 w.heap.size [(F:Int),(Tp:Int),(T:Int),(Li:Int),(B:Int),(Rm:Int),(ah:Int)] 113:=by rw [<-bv];exact ay.new w _ _
 have bs:W1.heap.size=w.heap.size+1:=by rw [<-bv,World.size_alloc]
 have cd:=ae (callsIn_wide.1 (Cb 0 (p.Qb hi I) (hr.frame I id id) (aE hT I id) K F Tp T Li B Rm ah hc hG hO aq (by rw [cQ];exact cN) J));unfold ic at cd;unfold ic;obtain ⟨k0,k1,k2,k3,k4,k5,k6,_⟩:=Kg aR;have dU:F<=524288/\Tp<=524288/\T<=524288/\Li<=524288:=by omega
 have dB:(rs.map φ).length=rs.length:=cQ _;have d0:∀(fn:Fn) (first cap:Array Value) (w:World),(Instr.makeFunc fn first cap).run prog w= .ok (.func fn first cap) w:=fun _ _ _ _=>rfl
 have d4:∀(t:TypeId) (w:World),(Instr.makeMap t none).run prog w= .ok (.map (some w.heap.size)) (w.alloc (.map #[] 0)):=fun _ _=>rfl
 have HA:=ae (af hi (af hr (af hT (af K (af u (af aU (af hc (af hl (af J (af ad (af Y (af p (af bl (af Q (af hG (af f (af I (af hO aq))))))))))))))))));have HB:=ae (af ar (af aY (af be (af bk (af bd (af a7 (af a0 (af a6 (af bs (af a8 (af av (af ax (af aj (af a9 (af bb (af aC (af ak (af aO (af am (af aN bc))))))))))))))))))));have cs:=ae aR;have cw:Hid (∀E S1 w2,dJ m Pg W Fs Us Hg mp L S1 w2->(∀k,S1 k->S k\/W1.heap.size<=k)->(∀a,E a≠0↔Reach G (rs.map φ) a)->fz G (rs.map φ) E->Fr S W1 w2->Qc (aw E) 0 W<=Li-T/\mz A rs φ E/\Qc (aw E) 0 W=Qc (aw E) 0 Tp/\
   Calls prog 98 #[m,(T:Int),(((T:Int)+((Qc (aw E) 0 W:Nat):Int)):Int)] w2 fun e w'=>e= .returned (0:Int)/\∃S' cr db c6 L',dJ m Pg W Fs cr db c6 L' S' w'/\(∀q,c6 q=(mp q||(decide (T<T+Qc (aw E) 0 W)&&decide (T/Pg<=q)&&decide (q<=(T+Qc (aw E) 0 W-1)/Pg))))/\(∀b,cX W Pg mp b->L' b=L b)/\Fr S1 w2 w'/\∀k,S' k->S1 k\/w2.heap.size<=k):=by
  show∀E S1 w2,_
  intro E S1 w2 q1 q2 q3 q4 q5;have dv:=gx.ext hl Q q3 q4;have h0:Qc (aw E) 0 W=Qc (aw E) 0 Tp:=by
   rw [bp (aw E) (ao Tp) ax,bP (a:=Tp) (b:=W) (fun i hi _=>by
    rw [bt];intro co;obtain ⟨s,s1,s2⟩:=cE.1 co;have h6:=q4 s (by omega);have:=hG.top s (by omega);omega),aP]
  have h1:Qc (aw E) 0 Tp<=Tp-F:=by
   rw [bp (aw E) (ao F) av,bP (a:=0) (b:=F) (fun i _ hi=>by
    rw [bt];intro co;obtain ⟨s,s1,s2⟩:=cE.1 co;have h6:=q4 s (by omega);have:=aq s (by omega);omega),bq]
   exact dA _ _ _
  have R:Qc (aw E) 0 W<=Li-T:=by omega
  have h3:=Bs q1 T (T+Qc (aw E) 0 W) (by omega) (aH (na (Ce ar ak aj aO (by omega)) Us) Y);rw [Int.natCast_add] at h3;exact ⟨R,dv,h0,h3⟩
 clear hi hr hT K u aU hc hl J ad Y p bl Q hG f I ar aY be bk dM dI dx dN bd a7 a0 a6 a8 av ax aj a9 bb aC ak aO am aN bc hO aq cN aR
 go_enter func99,ntmps99
 go_wp2_with fail
 clear bv;refine cd.out.mono ?_;rintro e w2 ⟨E,S1,rfl,q1,q2,q3,q4,q5⟩;obtain ⟨r1,r2,r3,r4⟩:=cw.out E S1 w2 q1 q2 q3 q4 q5;obtain ⟨n,hn⟩:∃n,n=Qc (aw E) 0 W:=⟨_,rfl⟩;rw [<-hn] at r1 r3 r4;rw [<-hn];have bX:=ae r4;have bm:=ae (af q1 (af q2 (af q3 (af q4 (af q5 (af r1 (af r2 (af r3 hn))))))));have d5:n<=524288:=by omega
 have bx:¬S w.heap.size:=fun h=>by have R:=HA.out.2.2.2.2.2.2.2.2.2.2.2.2.1 _ h;omega
 have ck:=cs.out.frame q5 bx;have ct:=ae ck;have k2:=ck.cell 2 rfl;have ea:IntKind.i64.wrap ((T:Int)+(n:Int))=(T:Int)+(n:Int):=by rw [IntKind.wrap_i64];omega
 clear q1 q2 q3 q4 q5 r1 r2 r3 r4 hn cw cd k0 k1 k3 k4 k5 k6 ck;go_wp2_with fail
 refine bX.out.mono ?_;rintro e w3 ⟨rfl,S3,C,z,O,L3,t1,t2,t3,t4,t5⟩;clear bX k2;obtain ⟨q1,q2,q3,q4,q5,r1,r2,r3,hn⟩:=bm.out;obtain ⟨hi,hr,hT,K,u,aU,hc,hl,J,ad,Y,p,bl,Q,hG,f,I,hO,aq⟩:=HA.out;obtain ⟨ar,aY,be,bk,bd,a7,a0,a6,bs,a8,av,ax,aj,a9,bb,aC,ak,aO,am,aN,bc⟩:=HB.out;have bB:=q5.size;have bC:=t4.size;have d:∀k,k<w.heap.size+1->¬S k->¬S1 k/\¬S3 k:=fun k hk hs=>by
  have h1:¬S1 k:=fun h=>(q2 k h).elim hs (fun h=>by omega)
  exact ⟨h1,fun h=>(t5 k h).elim h1 (fun h=>by omega)⟩
 have aT:=ct.out.frame t4 (d _ (cl _) bx).1;have k2:=aT.cell 2 rfl;have dP:=(aT.frame ((Kb (fun _=>False) w3).alloc (.map #[] 0)) id).cell 2 rfl;have c0:=((hr.frame I id id).frame q5 u.1 u.2).frame t4 (d b (by omega) u.1).1 (d g (by omega) u.2).1;have U:=aE (aE (aE hT I id) q5 K) t4 (d _ (by omega) K).1;have aW:ce A rs φ L3 F Tp:=hl.congr (fun k h1 R=>t3 k (f k h1 R));obtain ⟨hp,hf,hg,cM⟩:=hl.heads;have N:∀x,Reach A.gr rs x->E (φ x)=A.sz x/\hp (φ x)=A.np x:=fun x H=>⟨r2.size x H,(cM x H).1⟩
 have ca:∀k,k<W->mp (k/Pg)=true->cX W Pg O k:=fun k h1 R=>⟨h1,by rw [t2,R];rfl⟩
 have cg:Fl L3 E hp T (T+n) (fun a=>∃x,Reach A.gr rs x/\φ x=a):=by
  refine aW.cpr N (by
   rcases am with h|h
   ·right;omega
   ·left;have h1:Tp<=(Tp+Pg-1)/Pg*Pg:=by
     have R:=az (Tp+Pg-1) Pg;have h3:=aI (Tp+Pg-1) (show 0<Pg by omega);rw [bg] at R;omega
    omega) (fun l h1 R=> ?_)
  refine na ?_ T;rw [hn];refine zr E W l (aw E) h1 (fun a ha=> ?_) (fun a ha c dn dF=> ?_)
  ·obtain ⟨x,H,rfl⟩:=R a ha;have h4:=hl.Qm x H;rw [(N x H).1];exact ⟨by omega,fun k k1 k2=>cE.2 ⟨φ x,k1,by rw [(N x H).1];omega⟩⟩
  ·obtain ⟨x,H,rfl⟩:=R a ha;obtain ⟨y,hy,rfl⟩:=R c dn;rw [(N x H).1,(N y hy).1];exact hl.apart x y H hy (fun e=>dF (by rw [e]))
 have cf:Ie L3 E hp T (T+n) (fun a=>∃x,Reach A.gr rs x/\φ x=a) (cX W Pg O):=by
  refine aW.cpd2 N (fun k h1 R=> ?_) (fun k h1 R=>⟨by omega,?_⟩) (by omega) (by omega) (by omega)
  ·have h3:=f k h1 R;exact ca k h3.1 h3.2
  ·rw [t2];have h4:T/Pg<=k/Pg:=aS h1;have h5:k/Pg<=(T+n-1)/Pg:=aS (by omega);rw [decide_eq_true (show T<T+n by omega),decide_eq_true h4,decide_eq_true h5];simp
 obtain ⟨W5,bi⟩:∃W5,(w3.alloc (.map #[] 0)).alloc (.cells #[m,.map (some w3.heap.size),(T:Int)] 217)=W5:=⟨_,rfl⟩;have o:J7 w3 W5:=by rw [<-bi];exact ((Kb _ w3).alloc _).alloc _
 have bD:W5.heap.size=w3.heap.size+2:=by rw [<-bi,World.size_alloc,World.size_alloc]
 have cT:=p;have P:=(bR m Pg W Fs C z O).lt _ _ _ t1;have cH:CG m Pg W Fs C z O (w3.heap.size+1) w3.heap.size L3 (fun _=>none) 0 T S3 W5:=by
  refine ⟨?_,(bR m Pg W Fs C z O).Qb t1 o,?_,fun h=>by have:=P _ h;omega,fun h=>by have:=P _ h;omega,by omega⟩
  ·rw [<-bi];have:=ay.new (w3.alloc (.map #[] 0)) [m,.map (some w3.heap.size),(T:Int)] 217;rwa [World.size_alloc] at this
  ·rw [<-bi];exact (tu w3).frame ((Kb (fun _=>False) _).alloc _) id
 have c5:=c0.frame o id id;have dm:b<w3.heap.size/\g<w3.heap.size:=by omega
 have cC:Ft m Pg W Fs C z O (w3.heap.size+1) w3.heap.size g S3 W5 L3 E hp T (fun a=>∃x,Reach A.gr rs x/\φ x=a) (rs.map φ) [] W5:=
  ⟨[],⟨L3,fun _=>none,0,T⟩,⟨S3,cH,Kb _ _,fun _ h=> .inl h⟩,lh.none _ _ _ _,fun x H=>absurd H bF,ao _,fun i a hi=>absurd hi (gK i)⟩
 have cy:=ae (Cc cg cf cC c5 (fun a ha=>by
  obtain ⟨x,H,rfl⟩:=bw.1 ha;by_cases h0:x=0
  ·left;rw [h0];exact hl.zero
  ·exact .inr ⟨x,.root H h0,rfl⟩) (by omega) (by omega) (d g (by omega) u.2).2 (d b (by omega) u.1).2 (by omega))
 have HU:=ae (fun bE w6 (hu:Ft m Pg W Fs C z O (w3.heap.size+1) w3.heap.size g S3 W5 L3 E hp T (fun a=>∃x,Reach A.gr rs x/\φ x=a) (rs.map φ) bE w6) (dz:bE.length=(rs.map φ).length)=>Ft.loop hu dz);have HC:=ae (af cg cf);have HY:=ae (af d (af aT (af U (af aW (af N (af o (af bD (af P (af t1 (af t2 (af t4 (af t5 (af bB bC)))))))))))));clear q1 q2 q3 q4 q5 r1 r2 r3 hn hi hr hT K u aU hc hl J ad Y p bl Q hG f I hO aq ar aY be bk bd a7 a0 a6 bs a8 av ax aj a9 bb aC ak aO am aN bc bB bC d aT c0 U aW cM N ca cg cf o bD cT P cH c5 dm cC t1 t2 t3 t4 t5
 go_upto_region 8 with fail
 clear bi k2 dP;go_wp2_with fail
 refine cy.out.mono ?_;rintro e w6 ⟨rfl,bE,u1,u2,u3⟩;obtain ⟨S6,v1,v2,v3⟩:=HU.out bE w6 u3 u1;obtain ⟨d,aT,U,aW,N,o,bD,P,t1,t2,t4,t5,bB,bC⟩:=HY.out;obtain ⟨hi,hr,hT,K,u,aU,hc,hl,J,ad,Y,p,bl,Q,hG,f,I,hO,aq⟩:=HA.out;obtain ⟨ar,aY,be,bk,bd,a7,a0,a6,bs,a8,av,ax,aj,a9,bb,aC,ak,aO,am,aN,bc⟩:=HB.out;have b7:=v3.size;have Z:∀k,k<w.heap.size+1->¬S k->¬S6 k:=fun k hk hs h=>(v2 k h).elim (d k hk hs).2 (fun h=>by omega)
 have cm:ay w6 w.heap.size [(F:Int),(Tp:Int),(T:Int),(Li:Int),(B:Int),(Rm:Int),(ah:Int)] 113:=
  (aT.frame o id).frame v3 (fun h=>by
   rcases h with h|h|h|h
   ·exact (d _ (cl _) bx).2 h
   ·omega
   ·omega
   ·omega)
 have bL:ee w6:=aE (aE U o id) v3 (fun h=>by
   rcases h with h|h|h|h
   ·exact (d _ (by omega) K).2 h
   ·omega
   ·omega
   ·exact aU h.symm)
 have bM:∀wr,Fr (fun k=>S6 k\/k=w3.heap.size+1\/k=w3.heap.size) w6 wr->ay wr w.heap.size [(F:Int),(Tp:Int),(T:Int),(Li:Int),(B:Int),(Rm:Int),(ah:Int)] 113:=
  fun wr hf=>cm.frame hf (fun h=>by
   rcases h with h|h|h
   ·exact Z _ (cl _) bx h
   ·omega
   ·omega)
 have cu:=ae bM;have k2:=cm.cell 2 rfl;have H6:=ae (af u1 (af u2 (af v2 (af v3 (af b7 (af Z bL))))));have HV:=ae v1;have cx:=ae (fun cur wr hv=>Id.next (m:=m) (Pg:=Pg) (W:=W) (Fs:=Fs) (Us:=C) (Hg:=z) (mp:=O) (kb:=w3.heap.size+1) (wb:=w3.heap.size) (S0:=S6) (w0:=w6) (ls:=rs.map φ) (rs:=bE) (cur:=cur) (w:=wr) HC.out.1 HC.out.2 hv);clear u1 u2 u3 v1 v2 v3 d aT U aW N o bD P t1 t2 t4 t5 bB bC hi hr hT K u aU hc hl J ad Y p bl Q hG f I hO aq ar aY be bk bd a7 a0 a6 a8 av ax aj a9 bb aC ak aO am aN bc bs b7 Z cm bL bM HU cy;go_wp2;clear k2
 go_loopw [12] (fun x wr=>∃cur:Nat,x= .int .i64 cur/\Hid (Id m Pg W Fs C z O (w3.heap.size+1) w3.heap.size S6 w6 L3 E hp T (fun a=>∃x,Reach A.gr rs x/\φ x=a) (rs.map φ) bE cur wr)) (fun x _=>(T+n+1-intOf x).toNat)
 case atStart=>exact ⟨T,rfl,HV⟩
 case round=>
  clear HV;obtain ⟨cur,rfl,hr⟩:=hrel;obtain ⟨top,a1,a2,a3,a4,a5⟩:=cx.out cur wr hr.out;have Y:=hr.out.fr;have b5:=cu.out wr Y;have e2:=a1.cell 2 rfl;have ds:(cur:Int)<=1048576:=by omega
  by_cases cp:cur<top
  ·have HS:=ae (a4 cp);have c1:(cur:Int)<(top:Int):=by omega
   clear a1 a4 a5 b5 Y hr;go_wp2_with fail
   refine HS.out.mono ?_;rintro e w9 ⟨cA,g1,rfl,g2⟩;have G2:=ae g2;clear g2 HS e2;go_wp2;go_roundw
   case rel=>exact ⟨cA,rfl,G2⟩
   case measure=>simp [intOf];omega
  ·obtain ⟨ef,s,b1,b2,b3,b4⟩:=a5 cp;have c1:¬(cur:Int)<(top:Int):=by omega
   obtain ⟨⟨S8,d1,d2,d3⟩,bj,bo⟩:=b2;obtain ⟨u1,u2,v2,v3,b7,Z,bL⟩:=H6.out;obtain ⟨d,aT,U,aW,N,o,bD,P,t1,t2,t4,t5,bB,bC⟩:=HY.out;obtain ⟨hi,dH,hT,K,u,aU,hc,hl,J,ad,cJ,p,bl,Q,hG,f,I,hO,aq⟩:=HA.out;obtain ⟨ar,aY,be,bk,bd,a7,a0,a6,bs,a8,av,ax,aj,a9,bb,aC,ak,aO,am,aN,bc⟩:=HB.out;have dO:=d2.size;have bn:∀k,k<w.heap.size+1->¬S k->¬S8 k:=fun k hk hs h=>(d3 k h).elim (Z k hk hs) (fun h=>by omega)
   have cB:1<=T:=by omega
   obtain ⟨φ',l,f1,f2,f3,f4⟩:=y0 aW N cB bj bo b3 b4;have dr:=(dt.Qc hl bm.out.2.2.2.2.2.2.1 f3).1;have cW:n<=Li-T:=bm.out.2.2.2.2.2.1;have cZ:n=A.Wd l:=by
    obtain ⟨_,_,_,_,_,_,_,r3,hn⟩:=bm.out;omega
   have bK:=ae (xl.start (q0:=F/Pg) d1.mem);have b8:=ae (bK.out.pg);have cc:=ae (fun q D (hu:xl m Pg W Fs O s.M (F/Pg) S8 wr q D) (h:q*Pg<Tp) (hq:F/Pg<=q)=>xl.drop hu (by
    rw [t2,ad,decide_eq_true (show F<=q*Pg by rw [aN];exact aG Pg hq),decide_eq_true h];rfl) (by
    have R:W=W/Pg*Pg:=by have:=az W Pg;rw [bg];omega
    have h3:q*Pg<W/Pg*Pg:=by omega
    exact eC h3) hq)
   have bN:Hid (∀q D,xl m Pg W Fs O s.M (F/Pg) S8 wr q D->D.cell? ⟨w.heap.size,1,none⟩=some (Tp:Int)/\D.cell? ⟨w3.heap.size+1,2,none⟩=some (top:Int)):=by
    show∀q D,_
    rintro q D ⟨ud,cK,c7,S',c1,c2,c3,c4⟩;exact ⟨(b5.frame c3 (bn _ (cl _) bx)).cell 1 rfl,by have:=(d1.Qd.frame c3 d1.d1).cell 2 rfl;rwa [b1] at this⟩
   have bG:Hid (∀q D,xl m Pg W Fs O s.M (F/Pg) S8 wr q D->Tp<=q*Pg->q*Pg<Tp+Pg->AB m b g Pg W Fs A rs T Li S w (.returned (.tuple #[(top:Int),(0:Int)])) D):=by
    show∀q D,_
    rintro q D ⟨ud,cK,c7,S',c1,c2,c3,c4⟩ cq b6;have e1:top=T+A.Wd l:=by omega
    have dw:Fr (fun k=>S k\/k=g) w D:=by
     obtain ⟨q1,q2,q3,q4,q5,_⟩:=bm.out;have s1:Fr (fun k=>S k\/k=g) w w2:=(I.mono J8).trans q5 (fun k h=> .inl (.inl h));have s2:Fr (fun k=>S k\/k=g) w w3:=s1.trans t4 (fun k h=>(q2 k h).imp .inl (fun h=>by omega));have s3:∀k,S3 k->(S k\/k=g)\/w.heap.size<=k:=fun k hk=>by
      rcases t5 k hk with h|h
      ·exact (q2 k h).imp .inl (fun h=>by omega)
      ·exact .inr (by omega)
     have s4:Fr (fun k=>S k\/k=g) w w6:=(s2.trans o J8).trans v3 (fun k h=>by
      rcases h with h|h|h|h
      ·exact s3 k h
      ·exact .inr (by omega)
      ·exact .inr (by omega)
      ·exact .inl (.inr h))
     have s6:∀k,S6 k->(S k\/k=g)\/w.heap.size<=k:=fun k hk=>by
      rcases v2 k hk with h|h
      ·exact s3 k h
      ·exact .inr (by omega)
     have s5:Fr (fun k=>S k\/k=g) w wr:=s4.trans d2 (fun k h=>by
      rcases h with h|h|h
      ·exact s6 k h
      ·exact .inr (by omega)
      ·exact .inr (by omega))
     exact s5.trans c3 (fun k hk=>by
      rcases d3 k hk with h|h
      ·exact s6 k h
      ·exact .inr (by omega))
    have dk:∀k,S' k->S k\/w.heap.size<=k:=fun k hk=>by
     obtain ⟨q1,q2,q3,q4,q5,_⟩:=bm.out;rcases c4 k hk with h|h
     ·rcases d3 k h with h|h
      ·rcases v2 k h with h|h
       ·rcases t5 k h with h|h
        ·exact (q2 k h).imp id (fun h=>by omega)
        ·exact .inr (by omega)
       ·exact .inr (by omega)
      ·exact .inr (by omega)
     ·exact .inr (by omega)
    have cn:∀k,k<w.heap.size->¬S k->k≠w3.heap.size+1/\k≠w3.heap.size/\¬S6 k/\¬S8 k:=fun k hk hs=>⟨by omega,by omega,Z k (by omega) hs,bn k (by omega) hs⟩
    have hB:=cn b a0 u.1;have bZ:=cn g a6 u.2;have b0:=cn ch a7 K;refine ⟨φ',s.M,S',ud,cK,c7,l,by rw [e1],c1,fun r=> ?_,f3,by rw [<-f4];exact f1,by omega,?_,?_,dk,dw⟩
    ·rw [c2,t2,ad,<-cZ];exact yZ ar aC ak aj (by omega) am cq b6 r
    ·rw [<-f2];exact (u2.frame d2 (fun h=>by rcases h with h|h|h;exact hB.2.2.1 h;exact hB.1 h;exact hB.2.1 h) (fun h=>by rcases h with h|h|h;exact bZ.2.2.1 h;exact bZ.1 h;exact bZ.2.1 h)).frame c3 hB.2.2.2 bZ.2.2.2
    ·exact aE (aE bL d2 (fun h=>by rcases h with h|h|h;exact b0.2.2.1 h;exact b0.1 h;exact b0.2.1 h)) c3 b0.2.2.2
   have k0:=b5.cell 0 rfl;have du:(F:Int).tdiv (Pg:Int)=((F/Pg:Nat):Int):=fF _ _;have dY:¬Pg=0:=by omega
   have d6:Pg<=256:=aY;have dS:Tp<=524288:=by omega
   have dc:F<=524288:=by omega
   have di:F/Pg<=524288:=aH (aX _ _) dc;have ci:F/Pg*Pg<Tp+Pg:=by omega
   generalize dd:F/Pg=QF at bK b8 cc bN bG du di ci;clear dd cW;have d9:IntKind.i64.wrap (QF:Int)=(QF:Int):=by rw [IntKind.wrap_i64];omega
   clear u1 u2 v2 v3 b7 Z bL d aT U aW N o bD P t1 t2 t4 t5 bB bC hi dH hT K u aU hc hl J ad cJ p bl Q hG f I hO aq ar aY be bk bd a7 a0 a6 a8 av ax aj a9 bb aC ak aO am aN bc bs dO bn cB f1 f2 f3 f4 dr cZ d1 d2 d3 bj bo b1 b3 b4 a1 a4 a5 b5 Y hr cx HC cu H6 HY HA HB bm ct cs bx;have bH:=ae (show Calls prog 114 #[m] wr.drew fun e w'=>e= .returned (Pg:Int)/\wr.drew=w' from xl.pg (bK.out.Fh ((Kb _ wr).drew)));clear b8;go_wp2;refine ka 6 (fun a b=>b=a) [fun v _=>v= .pointer (some ⟨w.heap.size,0,none⟩),fun v _=>v= .int .i64 F,fun v _=>v= .pointer (some ⟨m,0,none⟩),fun v _=>v= .int .i64 Pg,fun v _=>v= .int .i64 ((QF:Nat):Int),fun v _=>v= .int .i64 ((QF:Nat):Int)] (fun j=>false) (by kernel_rfl) (by kernel_rfl) (by kernel_rfl) (by kernel_rfl) rfl (fun _=>rfl) (fun _ _ _ h1 R=>R.trans h1) (fun _ _ h=>by rw [h];exact ag _) ⟨fun _ _ _ h _=>h,fun _ _ _ h _=>h,fun _ _ _ h _=>h,fun _ _ _ h _=>h,fun _ _ _ h _=>h,fun _ _ _ h _=>h,trivial⟩ ?_;intro F hF;simp only [dp,al,aA,aa] at hF;subst hF;refine ⟨⟨fun vs w1 hw V H=> ?_,fun vs w1 hw V H=> ?_,fun vs w1 hw V H=> ?_,fun vs w1 hw V H=> ?_,fun vs w1 hw V H=> ?_,fun vs w1 hw V H=> ?_,trivial⟩,?_⟩
   ·refine aJ (.pointer (some ⟨w.heap.size,0,none⟩)) ?_ ⟨rfl,rfl,fun h=>nomatch h⟩;go_simp
   ·have h0:vs 0= .pointer (some ⟨w.heap.size,0,none⟩):=V 0 (by kernel_rfl);refine aJ (.int .i64 F) ?_ ⟨rfl,rfl,fun h=>nomatch h⟩;subst hw;go_simp
   ·refine aJ (.pointer (some ⟨m,0,none⟩)) ?_ ⟨rfl,rfl,fun h=>nomatch h⟩;go_simp
   ·have R:vs 2= .pointer (some ⟨m,0,none⟩):=V 2 (by kernel_rfl);subst hw;refine bh 114 #[m] (by go_simp) (bH.out.mono ?_);rintro e w2 ⟨rfl,rfl⟩;exact ⟨_,rfl,rfl,rfl,fun h=>nomatch h⟩
   ·have h1:vs 1= .int .i64 F:=V 1 (by kernel_rfl);have h3:vs 3= .int .i64 Pg:=V 3 (by kernel_rfl);refine aJ (.int .i64 ((QF:Nat):Int)) ?_ ⟨rfl,rfl,fun h=>nomatch h⟩;go_simp
   ·have h4:vs 4= .int .i64 ((QF:Nat):Int):=V 4 (by kernel_rfl);refine aJ (.int .i64 ((QF:Nat):Int)) ?_ ⟨rfl,rfl,fun h=>nomatch h⟩;go_simp
   intro vs w1 hw hp H;obtain ⟨g0,g1,g2,g3,g4,g5,_⟩:=hp;simp only [g0,g1,g2,g3,g4,g5];subst hw;clear g0 g1 g2 g3 g4 g5 H bH;simp only [an,aB];go_wp2;clear k0 e2 ds cp c1
   go_loopw [13] (fun x D=>∃q:Nat,x= .int .i64 q/\QF<=q/\q*Pg<Tp+Pg/\q<=524288+1/\Hid (xl m Pg W Fs O s.M QF S8 wr q D)) (fun x _=>(524288+2-intOf x).toNat)
   case atStart=>exact ⟨QF,rfl,ag _,ci,by omega,ae (bK.out.Fh ((Kb _ wr).drew))⟩
   case round=>
    clear bK ci;obtain ⟨q,rfl,cq,b6,d7,hr⟩:=hrel;obtain ⟨k1,k2⟩:=bN.out q _ hr.out;have bH:=ae (hr.out.Fh ((Kb _ _).drew)).pg;have bO:=ae (fun w1 (hf:J7 _ w1) (h:q*Pg<Tp)=>cc.out q w1 (hr.out.Fh hf) h cq);have cb:=ae (fun w1 (hf:J7 _ w1)=>bN.out q w1 (hr.out.Fh hf));have bS:=ae (fun w1 (hf:J7 _ w1) (h:Tp<=q*Pg)=>bG.out q w1 (hr.out.Fh hf) h b6);obtain ⟨X,hX⟩:∃X,X=q*Pg:=⟨_,rfl⟩;have cG:(q:Int)*(Pg:Int)=(X:Int):=by rw [hX];push_cast;rfl
    have dX:X<=1048576:=by omega
    have hw:IntKind.i64.wrap ((q:Int)*(Pg:Int))=(X:Int):=by rw [cG,IntKind.wrap_i64];omega
    have d8:q<=X:=by rw [hX];exact cF q (by omega)
    rw [<-hX] at b6 bO bS;have HN:Hid (X<Tp->(q+1)*Pg<Tp+Pg):=by
     show X<Tp->_
     intro h;rw [dh,<-hX];omega
    clear bN cc bG hr hX cG;go_wp2;refine ka 7 (fun a b=>b=a) [fun v _=>v= .int .i64 q,fun v _=>v= .pointer (some ⟨m,0,none⟩),fun v _=>v= .int .i64 Pg,fun v _=>v= .int .i64 X,fun v _=>v= .pointer (some ⟨w.heap.size,1,none⟩),fun v _=>v= .int .i64 Tp,fun v _=>v= .bool (decide ((X:Int)<(Tp:Int)))] (fun j=>false) (by kernel_rfl) (by kernel_rfl) (by kernel_rfl) (by kernel_rfl) rfl (fun _=>rfl) (fun _ _ _ h1 R=>R.trans h1) (fun _ _ h=>by rw [h];exact ag _) ⟨fun _ _ _ h _=>h,fun _ _ _ h _=>h,fun _ _ _ h _=>h,fun _ _ _ h _=>h,fun _ _ _ h _=>h,fun _ _ _ h _=>h,fun _ _ _ h _=>h,trivial⟩ ?_;intro F hF;simp only [dp,al,aA,aa] at hF;subst hF;refine ⟨⟨fun vs w1 hw V H=> ?_,fun vs w1 hw V H=> ?_,fun vs w1 hw V H=> ?_,fun vs w1 hw V H=> ?_,fun vs w1 hw V H=> ?_,fun vs w1 hw V H=> ?_,fun vs w1 hw V H=> ?_,trivial⟩,?_⟩
    ·refine aJ (.int .i64 q) ?_ ⟨rfl,rfl,fun h=>nomatch h⟩;go_simp
    ·refine aJ (.pointer (some ⟨m,0,none⟩)) ?_ ⟨rfl,rfl,fun h=>nomatch h⟩;go_simp
    ·have h1:vs 1= .pointer (some ⟨m,0,none⟩):=V 1 (by kernel_rfl);subst hw;refine bh 114 #[m] (by go_simp) (bH.out.mono ?_);rintro e w2 ⟨rfl,rfl⟩;exact ⟨_,rfl,rfl,rfl,fun h=>nomatch h⟩
    ·have h0:vs 0= .int .i64 q:=V 0 (by kernel_rfl);have R:vs 2= .int .i64 Pg:=V 2 (by kernel_rfl);refine aJ (.int .i64 X) ?_ ⟨rfl,rfl,fun h=>nomatch h⟩;go_simp
    ·refine aJ (.pointer (some ⟨w.heap.size,1,none⟩)) ?_ ⟨rfl,rfl,fun h=>nomatch h⟩;go_simp
    ·have h4:vs 4= .pointer (some ⟨w.heap.size,1,none⟩):=V 4 (by kernel_rfl);refine aJ (.int .i64 Tp) ?_ ⟨rfl,rfl,fun h=>nomatch h⟩;subst hw;go_simp
    ·have h3:vs 3= .int .i64 X:=V 3 (by kernel_rfl);have h5:vs 5= .int .i64 Tp:=V 5 (by kernel_rfl);refine aJ (.bool (decide ((X:Int)<(Tp:Int)))) ?_ ⟨rfl,rfl,fun h=>nomatch h⟩;go_simp
    intro vs w1 hw hp H;obtain ⟨g0,g1,g2,g3,g4,g5,g6,_⟩:=hp;simp only [g0,g1,g2,g3,g4,g5,g6];subst hw;clear g0 g1 g2 g3 g4 g5 g6 H bH;simp only [an,aB];by_cases b9:X<Tp
    ·have c1:(X:Int)<(Tp:Int):=by omega
     have cv:=ae (bO.out _ ((Kb _ _).drew) b9);have bX:=ae (HN.out b9);clear bO cb bS HN k1 k2;go_wp2_with fail
     refine cv.out.mono ?_;rintro e w9 ⟨rfl,hu⟩;have c9:=ae hu;clear hu cv;go_wp2;go_roundw
     case rel=>exact ⟨q+1,by go_num,by omega,bX.out,by omega,c9⟩
     case measure=>simp [intOf];omega
    ·have c1:¬(X:Int)<(Tp:Int):=by omega
     obtain ⟨k3,k4⟩:=cb.out _ ((Kb _ _).drew);have c8:=ae (bS.out _ ((Kb _ _).drew) (by omega));clear bO cb bS HN k1 k2;go_wp2;go_ret2;exact c8.out
end
section
variable{A:AG}{rs l l':List Nat}{φ L:Nat->Nat}{lo hi:Nat}
theorem xp{l l':List Nat}(h:l.Perm l'):A.Wd l=A.Wd l':=by
 grind [AG.Wd]
theorem dt.Wd(h:dt A rs l)(b:dt A rs l'):A.Wd l=A.Wd l':=
 xp ((List.perm_ext_iff_of_nodup h.1 b.1).2 (fun a=>(h.2 a).trans (b.2 a).symm))
theorem ce.some(h:ce A rs φ L lo hi):∃l,dt A rs l:=by
 obtain ⟨G,b⟩:=h.conc;refine h.Yv (E:=G.size) ⟨b.size,b.some⟩ (W:=hi) (fun a c=> ?_);obtain ⟨x,d,rfl⟩:=b.some a c;have:=(h.Qm x d).2
 grind [AG.sz]
theorem ce.small(h:ce A rs φ L lo hi){G:Gr}(b:gx A rs φ G)(e:hi<=2147483648):∀a,G.size a≠0->∀i,i<G.size a->L (a+i)<18446744073709551616:=fun a d i hi=>by
 obtain ⟨x,c,rfl⟩:=b.some a d;rw [b.size x c] at hi;exact h.Yj (E:=G.size) ⟨b.size,b.some⟩ e _ (h.live ⟨b.size,b.some⟩ c hi)
theorem ce.Xm(h:ce A rs φ L lo hi)(j:lo<=hi){l:List Nat}(e:dt A rs l):lo+A.Wd l<=hi:=by
 obtain ⟨G,b⟩:=h.conc;rw [<-(dt.Qc h (E:=G.size) ⟨b.size,b.some⟩ e).1];have:=kQ (f:=aw G.size) (M:=hi) (a:=lo) (R:=hi-lo) (fun i _ c=>by
  obtain ⟨s,k,g⟩:=cE.1 c;obtain ⟨x,d,rfl⟩:=b.some s (by omega);rw [b.size x d] at g;have:=h.Qm x d;omega)
 omega
end
def uS(b:Nat)(c:Cf)(A:AG)(rs:List Nat)(T:Nat->Prop)(w:World)(e:Ending)(w':World):Prop:=e= .returned (.tuple #[])/\∃l T',dt A rs l/\eF b c A rs (A.Wd l) 0 T' w'/\Fr T w w'/\∀k,T' k->T k\/w.heap.size<=k
section
variable{b u n Ba ub:Nat}{h:Hp}{c:Cf}{A:AG}{rs l0:List Nat}{T S:Nat->Prop}{φ L:Nat->Nat}{ns bs:Int}{w w1 w5 w6 w':World}
theorem eF.count(p:eF b c A rs u n T w):∃ns:Int,w.cell? ⟨b,12,none⟩=some (ns:Int)/\w.frozen? ⟨b,12,none⟩=false/\∀v:Int,eF b c A rs u n T (w.setCell ⟨b,12,none⟩ (.int .i64 v))/\Fr T w (w.setCell ⟨b,12,none⟩ (.int .i64 v)):=by
 obtain ⟨h,φ,L,Ba,ub,j,ns,bs,S,rfl,a,i,q⟩:=p;refine ⟨ns,ay.cell a.Qd 12 rfl,ay.free a.Qd 12,fun v=> ?_⟩;have hf:Fr (fun k=>k=h.b) w (w.setCell ⟨h.b,12,none⟩ (.int .i64 v)):=(Kb (fun k=>k=h.b) w).setCell ⟨h.b,12,none⟩ (.inl rfl) _;obtain ⟨l,m,o,r,s,g,t,x,y⟩:=a.e;exact ⟨⟨h,φ,L,Ba,ub,j,v,bs,S,rfl,⟨a.Qw,a.Qd.set 12 _,a.roots.frame hf (Ne.symm l) (Ne.symm m),ay.frame a.Yd hf (Ne.symm o),aE a.Qo hf (Ne.symm g),a.laid,a.Sl,a.fits,a.half,a.mem.stays hf (fun k f=>(a.d k f).1) (Ne.symm g),a.d,a.e⟩,i,q⟩,hf.mono (fun k f=> .inl ((i k).2 (.inr (.inl f))))⟩
theorem eF.plain(e:eF b c A rs u n T w)(f:c.kind≠1):n=0:=by
 obtain ⟨h,φ,L,Ba,ub,d,ns,bs,S,rfl,a,g,i⟩:=e
 cases d with
 |none=>exact a.mem.1
 |some y=>exact absurd a.mem.1 f
theorem wC(a:iC c)(j:Ba% c.Pg=0):(Ba+c.Wd)/c.Pg=Ba/c.Pg+c.Wd/c.Pg:=by
 have d:=a.Qp;have e:=a.wp;have f:=az Ba c.Pg;have g:=az c.Wd c.Pg;have i:Ba+c.Wd=c.Pg*(Ba/c.Pg+c.Wd/c.Pg):=by grind
 grind [Nat.mul_div_cancel_left]
theorem xz{g:Nat->Prop}{m Us Hg:Nat}{mp:Nat->Bool}{M:Nat->Nat}(d:iC c)(e:c.half Ba)(s:u<=c.Wd)(o:dQ w m g c.Pg c.W c.Fs Us Hg mp M)(f:∀q,mp q=(decide (Ba<=q*c.Pg)&&decide (q*c.Pg<Ba+u))):Us<=c.Wd/c.Pg:=by
 obtain ⟨_,_,_,_,_,_,_,j,_⟩:=o.at;rw [j];have hp:=d.Qp;refine kQ (a:=Ba/c.Pg) (fun i _ l=> ?_);rw [f,ak,decide_eq_true_eq,decide_eq_true_eq] at l;refine ⟨ml (by grind),?_⟩;rw [<-wC d (e.mod d)];have p:=wC d (e.mod d);refine eC (a:=c.Pg) ?_;have r:(Ba+c.Wd)/c.Pg*c.Pg=Ba+c.Wd:=by
  have k:=az (Ba+c.Wd) c.Pg;rw [mn,e.mod d,d.wp,bq,Nat.zero_mod] at k
  grind
 omega
end
section
variable{b u n Ba ub m rb rg:Nat}{h:Hp}{c:Cf}{A:AG}{rs l0:List Nat}{T S:Nat->Prop}{φ L:Nat->Nat}{ns bs:Int}{w w1 w5 w6 w' w'':World}
def Fi(b:Nat)(c:Cf)(A:AG)(rs:List Nat)(N:Nat)(T:Nat->Prop)(w w8:World):Prop:=∃T1,eF b c A rs N 0 T1 w8/\Fr T w w8/\∀k,T1 k->T k\/w.heap.size<=k
def IZ(b m rb:Nat)(c:Cf)(ns bs:Int)(A:AG)(rs:List Nat)(N:Nat)(T:Nat->Prop)(w:World)(To:Nat)(w5:World):Prop:=
 (∀w7,J7 w5 w7->Calls prog 63 #[b,(To:Int),(((To+N:Nat):Int):Int)] w7 fun e w'=>e= .returned (.tuple #[])/\lg b c m rb none ns bs To (To+N) c.Wd w7 w')/\
 (∀w7 w8,J7 w5 w7->lg b c m rb none ns bs To (To+N) c.Wd w7 w8->Fi b c A rs N T w w8)
theorem rA{Pg W lo top:Nat}{mp:Nat->Bool}(e:∀q,mp q=(decide (lo<=q*Pg)&&decide (q*Pg<top)))(d:lo% Pg=0)(i:top<=W):∀k,lo<=k->k<top->cX W Pg mp k:=fun k f g=>by
 refine ⟨by omega,?_⟩;have a:lo=lo/Pg*Pg:=by grind [Nat.div_add_mod]
 grind [Nat.mul_le_mul_right,Nat.div_le_div_right,Nat.div_mul_le_self]
theorem GL(p:lp (fun _=>True) h c A rs φ L Ba u ub none 0 ns bs S w)(s:∀k,T k↔lC h ub S k)(f:c.kind=2)(K:dt A rs l0)(hf:J7 w w1){e:Ending}(Y:AB h.m h.rb h.rg c.Pg c.W c.Fs A rs (2*c.Pg+c.Wd-Ba) (2*c.Pg+c.Wd-Ba+c.Wd) S w1 e w5):
  e= .returned (.tuple #[(((2*c.Pg+c.Wd-Ba+A.Wd l0:Nat):Int):Int),(0:Int)])/\w1.heap.size<=w5.heap.size/\(∀v cs t,w.heap.size<=v->ay w1 v cs t->ay w5 v cs t)/\IZ h.b h.m h.rb c ns bs A rs (A.Wd l0) T w (2*c.Pg+c.Wd-Ba) w5:=by
 have q:=p.Qb hf;have i:=p.half.other (by omega);have N:=i.le;have C:=i.top;generalize 2*c.Pg+c.Wd-Ba=To at Y i N C ⊢;obtain ⟨φ',L',S',r,G,R,l,rfl,U,Z,q3,q4,q5,q6,q7,q8,F⟩:=Y;rw [q3.Wd K] at Z q4 q5 ⊢;obtain ⟨ag,_⟩:=p.Qw.W5;have a:=q.lt;have am:=hf.size;have Q:=F.size;obtain ⟨V,H,e3,e4,e5,X,e7,e8,e9⟩:=p.e;have hd:=p.d;have ak:ch<w1.heap.size:=bu (q.Qo 0 0 rfl);have x:nS w5 h.b c h.m h.rb ub none ns bs:=ay.frame q.Qd F (fun o=>o.elim (fun o=>(hd _ o).1 rfl) (fun e=>H e));have ad:∀k,S' k->k<w5.heap.size:=(bR _ _ _ _ _ _ _).lt _ _ _ U;have I:∀k,S' k->k≠h.b/\k≠h.rb/\k≠h.rg/\k≠ub/\k≠ch:=fun k f=>by
  rcases q8 k f with E|E
  ·grind
  ·have h2:=a h.b (.inr (.inl rfl));have h3:=a h.rb (.inr (.inr (.inl rfl)));have h4:=a h.rg (.inr (.inr (.inr (.inl rfl))));have h5:=a ub (.inr (.inr (.inr (.inr rfl))));omega
 refine ⟨rfl,Q,fun v cs t ah hb=>ay.frame hb F (fun o=> ?_),fun w7 j=> ?_,fun w7 w8 j hp=> ?_⟩
 ·have B:=p.lt;have h3:=B h.rg (.inr (.inr (.inr (.inl rfl))));rcases o with o|o
  ·have:=B v (.inl o);omega
  ·omega
 ·obtain ⟨M,hm,_⟩:=(bR _ _ _ _ _ _ _).Qb U j;exact wi (ay.frame x j id) hm To (To+A.Wd l0) (by omega) q5 C
 ·obtain ⟨D,J,P,al,y⟩:=hp;have an:=j.size;have ao:=y.size;have aj:=ay.lt x;have g:Fr (fun k=>k=h.b) w5 w8:=(j.mono J8).trans y (fun _ h=> .inl h);have z:A.Wd l0<=c.Wd:=by omega
  have O:=cD _ _ _ _ _ _ _ _ _ _ _ _ U g (fun k f=>(I k f).1);refine ⟨lC h D S',⟨h,φ',L',To,D,none,ns,bs,S',rfl,⟨p.Qw,J,q6.frame g (Ne.symm V) (Ne.symm H),P,aE q7 g (Ne.symm X),q4,p.Sl,z,i,⟨rfl,r,G,R,O,Z⟩,fun k f=> ?_,V,H,?_,?_,?_,X,e7,?_,e9⟩,fun k=>dO,fun _=>rfl⟩,?_,?_⟩
  ·grind
  ·omega
  ·have:=a h.rb (.inr (.inr (.inl rfl)));omega
  ·have:=a h.rg (.inr (.inr (.inr (.inl rfl))));omega
  ·omega
  ·refine (((hf.mono J8).trans F (fun k f=> .inl ?_)).trans g (fun k f=> .inl ?_))
   ·exact (s k).2 (f.elim .inl (fun e=> .inr (.inr (.inr (.inl e)))))
   ·exact (s k).2 (.inr (.inl f))
  ·rintro k (f|f|f|f|f)
   ·rcases q8 k f with E|E
    ·exact .inl ((s k).2 (.inl E))
    omega
   ·exact .inl ((s k).2 (.inr (.inl f)))
   ·exact .inl ((s k).2 (.inr (.inr (.inl f))))
   ·exact .inl ((s k).2 (.inr (.inr (.inr (.inl f)))))
   omega
theorem GM(a:lp (fun _=>True) h c A rs φ L Ba u ub none 0 ns bs S w)(l:c.kind=2)(hf:J7 w w1):Calls prog 99 #[h.m,h.rb,ic Ba (Ba+u) (2*c.Pg+c.Wd-Ba) (2*c.Pg+c.Wd-Ba+c.Wd) c.block c.stack c.Ah] w1 (AB h.m h.rb h.rg c.Pg c.W c.Fs A rs (2*c.Pg+c.Wd-Ba) (2*c.Pg+c.Wd-Ba+c.Wd) S w1):=by
 have f:=a.Qb hf;obtain ⟨_,Us,Hg,mp,j,g⟩:=f.mem;refine GK j f.roots f.Qo (fun h=>(a.d _ h).2.2.2.2 rfl) ⟨fun h=>(a.d _ h).2.1 rfl,fun h=>(a.d _ h).2.2.1 rfl⟩ a.e.2.2.2.2.2.2.1 Ba (Ba+u) _ _ c.block c.stack c.Ah (a.half.conf a.Qw (by omega) a.fits) a.laid (by have:=a.Qw.Ya;have:=a.Sl;omega) (by have:=a.fits;omega) g ?_;obtain ⟨M,i,_⟩:=j;have k:=xz a.Qw a.half a.fits i g;simp_all [Cf.Fs]
def Ct(b m rb ub:Nat)(c:Cf)(ns bs:Int)(A:AG)(rs:List Nat)(N Ba u:Nat)(T:Nat->Prop)(w:World)(e:Ending)(w5:World):Prop:=
 e= .returned (.tuple #[(((Ba+N:Nat):Int):Int),(0:Int)])/\nS w5 b c m rb ub none ns bs/\eW w5 ub m Ba (Ba+u) (Ba+c.Wd)/\Ba+N<=Ba+c.Wd/\
 ∀w7 w8,J7 w5 w7->eW w8 ub m Ba (Ba+N) (Ba+c.Wd)->Fr (fun k=>k=ub) w7 w8->Fi b c A rs N T w w8
theorem Ct.Fh{N:Nat}{e:Ending}(h:Ct b m rb ub c ns bs A rs N Ba u T w e w')(hf:J7 w' w''):Ct b m rb ub c ns bs A rs N Ba u T w e w'':=by
 obtain ⟨f,g,i,j,k⟩:=h;exact ⟨f,ay.frame g hf id,ay.frame i hf id,j,fun l o g1 a d=>k l o (hf.trans g1 J8) a d⟩
theorem FL(a:lp (fun _=>True) h c A rs φ L Ba u ub none 0 ns bs S w)(J:∀k,T k↔lC h ub S k)(s:dt A rs l0)(hf:J7 w w1):Calls prog 100 #[h.m,h.rb,(Ba:Int),(((Ba+u:Nat):Int):Int),((c.stack:Int):Int)] w1 fun e w5=>Ct h.b h.m h.rb ub c ns bs A rs (A.Wd l0) Ba u T w e w5/\w1.heap.size<=w5.heap.size:=by
 have j:=a.Qb hf;obtain ⟨_,Us,Hg,mp,hm,D⟩:=j.mem;have aj:=a.half.le;have am:=a.half.top;have ad:=a.fits;have ak:=a.Qw.Qp;obtain ⟨ah,_⟩:=a.Qw.W5;obtain ⟨G,g⟩:=a.laid.conc;have hG:=gx.sound a.laid g;have C:=a.half.mod a.Qw;have hO:=gx.obj a.laid g (rA D C (show Ba+u<=c.W by omega)) (by omega);obtain ⟨e1,e2,e3,e4,N,e6,e7,e8,e9⟩:=a.e;have hd:=a.d;refine (callsIn_wide.1 (Dp 0 hm j.roots j.Qo (fun h=>(a.d _ h).2.2.2.2 rfl) ⟨fun h=>(a.d _ h).2.1 rfl,fun h=>(a.d _ h).2.2.1 rfl⟩ Ba (Ba+u) c.stack hG hO (gx.low a.laid g) (by omega) (by omega) (by omega) a.Qw.Za a.Qw.Zb D C (a.laid.small g (by omega)) e7)).mono ?_;rintro e w5 ⟨E,L',S',t,M,Z,rfl,q1,q2,q3,q4,q5,q6,q7,q8,K⟩;have I:=gx.ext a.laid g q3 q4;have P:=(dt.Qc (a.laid.wide (show Ba+u<=c.W by omega)) I s).1;have B:=(dt.Qc a.laid I s).1;have an:=a.laid.Xm (by omega) s;rw [P] at q2 ⊢;have p:=a.laid.slide I (show 1<=Ba by omega) (L':=L') (fun x X i hi=>by
  have r:=q5 (φ x) ((q3 _).2 ((gx.reach a.laid g _).2 ⟨x,X,rfl⟩)) i (by rw [I.size x X];exact hi);rwa [g.Qr x X,cQ,jY] at r)
 rw [B] at p;have l:=j.lt;have ao:=hf.size;have Y:=K.size;have al:ch<w1.heap.size:=bu (j.Qo 0 0 rfl);have v:nS w5 h.b c h.m h.rb ub none ns bs:=ay.frame j.Qd K (fun q=>q.elim (fun q=>(hd _ q).1 rfl) (fun e=>e2 e));have O:eW w5 ub h.m Ba (Ba+u) (Ba+c.Wd):=ay.frame j.Yd K (fun q=>q.elim (fun q=>(hd _ q).2.2.2.1 rfl) (fun e=>N e.symm));have ag:∀k,S' k->k<w5.heap.size:=(bR _ _ _ _ _ _ _).lt _ _ _ q1;have y:∀k,S' k->k≠h.b/\k≠h.rb/\k≠h.rg/\k≠ub/\k≠ch:=fun k o=>by
  rcases q8 k o with r|r
  ·grind
  ·have h2:=l h.b (.inr (.inl rfl));have h3:=l h.rb (.inr (.inr (.inl rfl)));have h4:=l h.rg (.inr (.inr (.inr (.inl rfl))));have h5:=l ub (.inr (.inr (.inr (.inr rfl))));omega
 refine ⟨⟨rfl,v,O,by omega,fun w7 w8 Q V R=> ?_⟩,Y⟩;have f:Fr (fun k=>k=ub) w5 w8:=(Q.mono J8).trans R (fun _ h=> .inl h);have U:=cD _ _ _ _ _ _ _ _ _ _ _ _ q1 f (fun k o=>(y k o).2.2.2.1);rw [kZ] at q6;have F:rs.map (te (goes E Ba) id∘φ)=rs.map (te (goes E Ba) φ):=dP (fun z hz=>by
  show (if φ z=0 then 0 else goes E Ba (φ z))=if z=0 then 0 else goes E Ba (φ z)
  by_cases H:z=0
  ·rw [if_pos H,if_pos (by rw [H];exact a.laid.zero)]
  ·rw [if_neg H,if_neg (by have:=a.laid.pos (.root hz H);omega)])
 rw [F] at q6;refine ⟨lC h ub S',⟨h,_,L',Ba,ub,none,ns,bs,S',rfl,⟨a.Qw,ay.frame v f e3,q6.frame f e4 N,V,aE q7 f (Ne.symm e8),p,a.Sl,by omega,a.half,⟨rfl,t,M,Z,U,q2⟩,y,e1,e2,e3,e4,N,e6,e7,e8,e9⟩,fun k=>dO,fun _=>rfl⟩,?_,?_⟩
 ·refine (((hf.mono J8).trans K (fun k o=> .inl ?_)).trans f (fun k o=> .inl ?_))
  ·exact (J k).2 (o.elim .inl (fun e=> .inr (.inr (.inr (.inl e)))))
  ·exact (J k).2 (.inr (.inr (.inr (.inr o))))
 ·rintro k (o|o)
  ·rcases q8 k o with r|r
   ·exact .inl ((J k).2 (.inl r))
   omega
  ·exact .inl ((J k).2 (.inr o))
end
section
variable{b u n:Nat}{c:Cf}{A:AG}{rs:List Nat}{T:Nat->Prop}{w:World}
theorem Jm(y:eF b c A rs u n T w)(f:c.kind=1):Calls prog 54 #[b] w (uS b c A rs T w):=by
 obtain ⟨z,F⟩:Hid (Calls prog 16 #[b] w fun e w'=>e= .returned (.bool false)/\w=w')/\w.cell? b=some (1:Int):=by
  obtain ⟨h,φ,L,Ba,M,I,ns,G,S,rfl,D,J,K⟩:=y;refine ⟨ae (gk D.Qd),?_⟩;have:=ay.cell D.Qd 0 rfl;rwa [f] at this
 have i:=ae (nJ y);have j:Hid (∀N n w2,lv b c A rs N n T w w2->Calls prog 53 #[b] w2 fun e w3=>e= .returned (.tuple #[])/\lv b c A rs N 0 T w w3):=by
  show∀N n w2,_
  rintro N n w2 ⟨r,g1,a,d⟩;refine (nJ g1).mono ?_;rintro e w3 ⟨rfl,s,t,v,x⟩;have E:=a.size;exact ⟨rfl,s,t,a.trans v d,fun k f=>(x k f).elim (d k) (fun h=> .inr (by omega))⟩
 have p:Hid (∀w2,lv b c A rs u 0 T w w2->Calls prog 24 #[b] w2 fun e w3=>e= .returned (.tuple #[])/\∃l n,dt A rs l/\lv b c A rs (A.Wd l) n T w w3):=by
  show∀w2,_
  rintro w2 ⟨r,g1,a,d⟩;refine (rM g1 f).mono ?_;rintro e w3 ⟨rfl,l,C,s,g,t,v,x⟩;have E:=a.size;exact ⟨rfl,l,C,g,s,t,a.trans v d,fun k f=>(x k f).elim (d k) (fun h=> .inr (by omega))⟩
 have B:Hid (∀l w3,dt A rs l->lv b c A rs (A.Wd l) 0 T w w3->uS b c A rs T w (.returned (.tuple #[])) w3):=ae (fun l w3 g ⟨r,g1,a,d⟩=>⟨rfl,l,r,g,g1,a,d⟩);clear y;generalize (uS b c A rs T w)=Q at*
 go_enter func54,ntmps54
 go_wp2_with fail
 refine z.out.mono ?_;rintro e w1 ⟨rfl,rfl⟩;clear z;go_wp2_with fail
 refine i.out.mono ?_;rintro e w1 ⟨rfl,hf⟩;have o:=ae (p.out w1 hf);clear i hf F p;go_wp2_with fail
 refine o.out.mono ?_;rintro e w2 ⟨rfl,l,C,g,hf⟩;have m:=ae (j.out _ _ w2 hf);have q:=ae (fun w3 h=>B.out l w3 g h);clear o hf j B g;go_wp2_with fail
 refine m.out.mono ?_;rintro e w3 ⟨rfl,hf⟩;have H:=ae (q.out w3 hf);clear m hf q;go_wp2;go_end0;exact H.out
theorem Ei{l:List Nat}{w5:World}(j:dt A rs l)(h:Fi b c A rs (A.Wd l) T w w5):∃ns:Int,w5.cell? ⟨b,12,none⟩=some (ns:Int)/\w5.frozen? ⟨b,12,none⟩=false/\∀v:Int,uS b c A rs T w (.returned (.tuple #[])) (w5.setCell ⟨b,12,none⟩ (.int .i64 v)):=by
 obtain ⟨e,g1,f,a⟩:=h;obtain ⟨ns,g,i,d⟩:=g1.count;exact ⟨ns,g,i,fun v=>⟨rfl,l,e,j,(d v).1,f.trans (d v).2 a,a⟩⟩
theorem Jl(hi:eF b c A rs u n T w)(V:c.kind=2):Calls prog 54 #[b] w (uS b c A rs T w):=by
 have h0:=hi.plain (by omega);obtain ⟨h,φ,L,Ba,ub,cy,ns,bs,S,rfl,d,hT,I⟩:=hi;obtain rfl:=I h0;subst h0;obtain ⟨W,J⟩:=d.laid.some;have Y:=ae (gk d.Qd);have k0:w.cell? h.b=some (2:Int):=by
  have:=ay.cell d.Qd 0 rfl;rwa [V] at this
 have p:=ae (tx d.Qw d.Qd d.Yd (by have:=d.half.le;omega));have f:=ae (fun w1 (hf:J7 w w1)=>(GM d V hf).mono (fun e w5 ho=>GL (e:=e) (w5:=w5) d hT V J hf ho));have x:=ae d.Qd;have N:Hid ((prog.info? 113).map (·.size)=some 7):=by show _=_;kernel_rfl
 have ah:=ae (DB Ba (Ba+u:Nat) (2*c.Pg+c.Wd-Ba:Nat) (2*c.Pg+c.Wd-Ba+c.Wd:Nat) c.block c.stack c.Ah);have HQ:=ae (fun w5 (hh:Fi h.b c A rs (A.Wd W) T w w5)=>Ei J hh);clear d hT I;unfold ic at p f;generalize (uS h.b c A rs T w)=Q at*;generalize 2*c.Pg+c.Wd-Ba=To at*;obtain ⟨X,R⟩:∃X,X=To+A.Wd W:=⟨_,rfl⟩;rw [<-R] at f;generalize To+c.Wd=Li at*;generalize Ba+u=Tp at*;obtain ⟨b,m,K,rg⟩:=h;dsimp only at*
 go_enter func54,ntmps54
 go_wp2_with fail
 refine Y.out.mono ?_;rintro e w1 ⟨rfl,rfl⟩;clear Y;have HX:=ae R;clear R;go_wp2_with fail
 refine p.out.mono ?_;rintro e w2 ⟨rfl,r⟩;obtain ⟨i,E⟩:∃i,w2.alloc (.cells #[(Ba:Int),(Tp:Int),(To:Int),(Li:Int),((c.block:Int):Int),((c.stack:Int):Int),((c.Ah:Int):Int)] 113)=i:=⟨_,rfl⟩;have s:J7 w i.drew:=by rw [<-E];exact (r.alloc _).drew
 have o:Hid (ay i.drew w2.heap.size [(Ba:Int),(Tp:Int),(To:Int),(Li:Int),((c.block:Int):Int),((c.stack:Int):Int),((c.Ah:Int):Int)] 113):=by rw [<-E];exact ae (ay.new w2 _ _)
 have q:nS i.drew b c m K ub none ns bs:=ay.frame x.out s id;have k8:=ay.cell q 8 rfl;have k9:=ay.cell q 9 rfl;have M:∃Z:World->Prop,Z=fun w5=>(∀P cs t,w.heap.size<=P->ay i.drew P cs t->ay w5 P cs t)/\IZ b m K c ns bs A rs (A.Wd W) T w To w5:=⟨_,rfl⟩
 obtain ⟨Z,U⟩:=M;have k:Hid (Calls prog 99 #[m,K,.agg #[(Ba:Int),(Tp:Int),(To:Int),(Li:Int),((c.block:Int):Int),((c.stack:Int):Int),((c.Ah:Int):Int)]] i.drew fun e w5=>e= .returned (.tuple #[(X:Int),(0:Int)])/\i.drew.heap.size<=w5.heap.size/\Z w5):=by
  rw [U];exact ae (f.out i.drew s)
 have M:=ae U;have y:=ae r;have f:=k;clear r p s q k x U k0;generalize c.block=bk at*;generalize c.stack=sk at*;generalize c.Ah=ad at*;go_wp2;refine cR 15 9 (fun a O=>a.heap.size<=O.heap.size) (fun a O=>O=a) [.c b,.c b,.c (.pointer (some ⟨b,8,none⟩)),.c m,.c b,.c b,.c (.pointer (some ⟨b,9,none⟩)),.c K,.c (.agg #[(Ba:Int),(Tp:Int),(To:Int),(Li:Int),(bk:Int),(sk:Int),(ad:Int)]),.w (.tuple #[(X:Int),(0:Int)]) (Z),.c (.tuple #[(X:Int),(0:Int)]),.c (X:Int),.c (0:Int),.c (X:Int),.c (0:Int)] (fun j=>false) (by kernel_rfl) (fun _=>rfl) (fun _ _ h=>by rw [h];exact ag _) (fun _ _ _ C D=>D.trans C) (fun _ _ _ C D=>by subst D;exact C) (fun _ _ _ C D=>by subst C;exact D) (fun _ _ h=>h) ⟨fun w1 w2 h hr=>by subst hr;exact h,trivial⟩ ⟨.inl rfl,trivial⟩ ?_;intro F hF;simp only [il,PK.val,Kc,aa] at hF;subst hF;refine ⟨by
  refine ⟨?_,?_,?_,?_,?_,?_,?_,?_,?_,?_,?_,?_,?_,?_,?_,trivial⟩<;>intro vs w1 d v hd hx
  all_goals try (apply oV;rotate_left;rfl;exact rfl;go_simp;done)
  all_goals try (apply oV;rotate_left;rfl;exact rfl;have g:=v (by kernel_rfl);subst g;go_simp;done)
  ·have g:=v (by kernel_rfl);subst g;refine aJ (.agg #[(Ba:Int),(Tp:Int),(To:Int),(Li:Int),(bk:Int),(sk:Int),(ad:Int)]) ?_ ⟨rfl,rfl,fun h=>nomatch h⟩;exact eX rfl w2.heap.size rfl 113 _ (0,0) _ o.out underlying113 rfl N.out
  ·have g:=v (by kernel_rfl);subst g;refine bh 99 #[m,K,.agg #[(Ba:Int),(Tp:Int),(To:Int),(Li:Int),(bk:Int),(sk:Int),(ad:Int)]] (by go_simp) (f.out.mono ?_);rintro e w5 ⟨rfl,hz,hp⟩;exact ⟨_,rfl,⟨rfl,hp⟩,hz,fun h=>nomatch h⟩
  ,fun vs w1 d hp hx=> ?_⟩
 obtain ⟨g9,_⟩:=hp;have Xf:=g9;clear hx d;simp only [an,aB];rw [M.out] at Xf;obtain ⟨l,hp⟩:=Xf;have G:=l _ _ _ y.out.size o.out;unfold IZ at hp;rw [<-HX.out] at hp;have z:=ae (hp.1 w1 (Kb _ _));have B:=ae (fun w8 h=>hp.2 w1 w8 (Kb _ _) h);have k2:=G.cell 2 rfl;clear l hp G M o f y k8 k9;go_wp2_with fail
 refine z.out.mono ?_;rintro e w6 ⟨rfl,hp⟩;obtain ⟨am,ak,aj,hq⟩:=HQ.out w6 (B.out w6 hp);have H:=ae hq;clear z B hp hq HQ k2;go_wp2;go_end0;exact H.out _
theorem Jk(hi:eF b c A rs u n T w)(hk:c.kind=3):Calls prog 54 #[b] w (uS b c A rs T w):=by
 have h0:=hi.plain (by omega);obtain ⟨h,φ,L,Ba,l,cy,ns,x,S,rfl,g,hT,M⟩:=hi;obtain rfl:=M h0;subst h0;obtain ⟨y,N⟩:=g.laid.some;have HN:=ae (gk g.Qd);have k0:w.cell? h.b=some (3:Int):=by
  have:=ay.cell g.Qd 0 rfl;rwa [hk] at this
 have f:∀w1,J7 w.drew w1->J7 w w1:=fun w1 hf=>((Kb (fun _=>False) w).drew).trans hf J8
 have d:=ae (fun w1 (hf:J7 w.drew w1)=>(FL g hT N (f w1 hf)).mono (fun e w5 ho=>(show e= .returned (.tuple #[(((Ba+A.Wd y:Nat):Int):Int),(0:Int)])/\w1.heap.size<=w5.heap.size/\Ct h.b h.m h.rb l c ns x A rs (A.Wd y) Ba u T w e w5 from ⟨ho.1.1,ho.2,ho.1⟩)));have B:=ae (fun w1 (hf:J7 w.drew w1)=>mS (g.Qb (f w1 hf)).Yd);have s:=ae (fun w1 (hf:J7 w.drew w1)=>sa (g.Qb (f w1 hf)).Yd);have C:=ae (fun w1 (hf:J7 w.drew w1)=>(show w1.cell? ⟨h.b,8,none⟩=some h.m/\w1.cell? ⟨h.b,9,none⟩=some h.rb/\w1.cell? ⟨h.b,10,none⟩=some l/\w1.cell? ⟨h.b,5,none⟩=some (.int .i64 (c.stack:Int))/\True from
  ⟨ay.cell (g.Qb (f w1 hf)).Qd 8 rfl,ay.cell (g.Qb (f w1 hf)).Qd 9 rfl,ay.cell (g.Qb (f w1 hf)).Qd 10 rfl,ay.cell (g.Qb (f w1 hf)).Qd 5 rfl,trivial⟩))
 have HQ:=ae (fun w5 (hh:Fi h.b c A rs (A.Wd y) T w w5)=>Ei N hh);have z:Hid (nS w.drew h.b c h.m h.rb l none ns x):=ae g.Qd;clear g hT M;generalize (uS h.b c A rs T w)=Q at*;obtain ⟨X,hX⟩:∃X,X=Ba+A.Wd y:=⟨_,rfl⟩;rw [<-hX] at d;have HX:=ae hX;clear hX f;obtain ⟨b,m,v,rg⟩:=h;dsimp only at*;have Y:∃Z:World->Prop,Z=fun w5=>Ct b m v l c ns x A rs (A.Wd y) Ba u T w (.returned (.tuple #[(X:Int),(0:Int)])) w5:=⟨_,rfl⟩
 obtain ⟨Z,I⟩:=Y;have G:Hid (∀p wb,Z p->J7 p wb->Z wb):=by
  show∀p wb,_
  rw [I];exact fun p wb h hf=>h.Fh hf
 have E:Hid (∀p,Z p->nS p b c m v l none ns x):=by
  show∀p,_
  rw [I];exact fun p h=>h.2.1
 have q:Hid (∀w1,J7 w.drew w1->Calls prog 100 #[m,v,(Ba:Int),(((Ba+u:Nat):Int):Int),((c.stack:Int):Int)] w1 fun e w5=>e= .returned (.tuple #[(X:Int),(0:Int)])/\w1.heap.size<=w5.heap.size/\Z w5):=by
  show∀w1,_
  intro w1 hf;rw [I];refine (d.out w1 hf).mono ?_;rintro e w5 ⟨rfl,k,h3⟩;exact ⟨rfl,k,h3⟩
 have Y:=ae I;clear d I;have d:=q;clear q;obtain ⟨Tp,t⟩:∃Tp,Tp=Ba+u:=⟨_,rfl⟩;rw [<-t] at d s;have ag:=ae t;clear t;obtain ⟨sk,V⟩:∃sk,sk=c.stack:=⟨_,rfl⟩;rw [<-V] at d C;clear V
 go_enter func54,ntmps54
 go_wp2_with fail
 refine HN.out.mono ?_;rintro e w1 ⟨rfl,rfl⟩;clear HN;go_wp2;clear k0;refine cR 29 23 (fun a b2=>a.heap.size<=b2.heap.size/\(nS a b c m v l none ns x->nS b2 b c m v l none ns x)) (fun a b2=>J7 a b2) [.c b,.c b,.c (.pointer (some ⟨b,8,none⟩)),.c m,.c b,.c b,.c (.pointer (some ⟨b,9,none⟩)),.c v,.c b,.c b,.c (.pointer (some ⟨b,10,none⟩)),.c l,.c (Ba:Int),.c b,.c b,.c (.pointer (some ⟨b,10,none⟩)),.c l,.c (Tp:Int),.c b,.c b,.c b,.c (.pointer (some ⟨b,5,none⟩)),.c (sk:Int),.w (.tuple #[(X:Int),(0:Int)]) (Z),.c (.tuple #[(X:Int),(0:Int)]),.c (X:Int),.c (0:Int),.c (X:Int),.c (0:Int)] (fun j=>false) (by kernel_rfl) (fun _=>Kb _ _) (fun _ _ h=>⟨h.size,fun J=>ay.frame J h id⟩) (fun _ _ _ o k=>o.trans k J8) (fun _ _ _ o k=>⟨aH o.1 k.size,fun J=>ay.frame (o.2 J) k id⟩) (fun _ _ _ o k=>⟨aH o.size k.1,fun J=>k.2 (ay.frame J o id)⟩) (fun _ _ h=>h.1) ⟨fun w1 w2 h hr=>G.out _ _ h hr,trivial⟩ ⟨.inl rfl,trivial⟩ ?_;intro F hF;simp only [il,PK.val,Kc,aa] at hF;subst hF;refine ⟨by
  refine ⟨?_,?_,?_,?_,?_,?_,?_,?_,?_,?_,?_,?_,?_,?_,?_,?_,?_,?_,?_,?_,?_,?_,?_,?_,?_,?_,?_,?_,?_,trivial⟩<;>intro vs w1 g i hd hx
  all_goals try (apply oV;rotate_left;rfl;exact Kb _ _;go_simp;done)
  all_goals try (apply oV;rotate_left;rfl;exact Kb _ _;have W:=ay.cell (g.2 z.out) 10 rfl;go_simp;done)
  all_goals try (apply oV;rotate_left;rfl;exact Kb _ _;have k8:=(C.out w1 (i (by kernel_rfl))).1;go_simp;done)
  all_goals try (apply oV;rotate_left;rfl;exact Kb _ _;have k9:=(C.out w1 (i (by kernel_rfl))).2.1;go_simp;done)
  all_goals try (apply oV;rotate_left;rfl;exact Kb _ _;have k5:=(C.out w1 (i (by kernel_rfl))).2.2.2.1;go_simp;done)
  ·refine bh 60 #[l] (by go_simp) ((B.out w1 (i (by kernel_rfl))).mono ?_);rintro e w5 ⟨rfl,rfl⟩;exact ⟨_,rfl,rfl,Kb _ _,fun h=>nomatch h⟩
  ·refine bh 59 #[l] (by go_simp) ((s.out w1 (i (by kernel_rfl))).mono ?_);rintro e w5 ⟨rfl,rfl⟩;exact ⟨_,rfl,rfl,Kb _ _,fun h=>nomatch h⟩
  ·refine bh 100 #[m,v,(Ba:Int),(Tp:Int),(sk:Int)] (by go_simp) ((d.out w1 (i (by kernel_rfl))).mono ?_);rintro e w5 ⟨rfl,hz,hp⟩;exact ⟨_,rfl,⟨rfl,hp⟩,⟨hz,fun _=>E.out _ hp⟩,fun h=>nomatch h⟩
  ,fun vs w1 g hp hx=> ?_⟩
 obtain ⟨ad,_⟩:=hp;have Xf:=ad;clear hx g;simp only [an,aB];rw [Y.out] at Xf;obtain ⟨_,K,U,O,hp⟩:=Xf;have r:=ae (wN U (Ba+A.Wd y) (by omega) O);rw [<-HX.out] at r hp;have D:=ae (fun w8 o k=>hp w1 w8 (Kb _ _) o k);have W:=ay.cell K 10 rfl;clear hp K U O Y d G E z B s C;go_wp2_with fail
 refine r.out.mono ?_;rintro e w6 ⟨rfl,P,R⟩;obtain ⟨ak,aj,ah,hq⟩:=HQ.out w6 (D.out w6 P R);have H:=ae hq;clear r D P R hq HQ W;go_wp2;go_end0;exact H.out _
theorem lW(a:eF b c A rs u n T w):Calls prog 54 #[b] w (uS b c A rs T w):=by
 rcases a.cf.1.Zh with h|h|h
 ·exact Jm a h
 ·exact Jl a h
 ·exact Jk a h
end
section
variable{s:dE}{L M L' M':Nat->Nat}{mp mp':Nat->Bool}{mvd:Nat->Bool}{fr ah left top n:Nat}
theorem zG{P a b q:Nat}(g:1<=P)(d:a<b):(a/P<=q/\q<=(b-1)/P)↔∃k,a<=k/\k<b/\k/P=q:=by
 constructor
 ·rintro ⟨c,e⟩;have f:q*P<=b-1:=(cA (by omega)).1 e;rcases kW a (q*P) with h|h
  ·exact ⟨q*P,h,by omega,cM _ (by omega)⟩
  ·refine ⟨a,ag _,d,Nat.le_antisymm c ((cA (by omega)).2 h)⟩
 ·rintro ⟨k,c,e,rfl⟩;exact ⟨aS c,aS (by omega)⟩
theorem AS(p:fD s)(z:1<=n)(o:s.Qe+s.N<=top)(u:top+n<=s.Qe+s.R*s.P)(q:Nat):ii s mvd (top+n) q=(ii s mvd top q||(decide (top/s.P<=q)&&decide (q<=(top+n-1)/s.P))):=by
 have l:=p.P1;have y:=p.toq;have x:∀i,(s.Qe+i)/s.P=s.Qe/s.P+i/s.P:=fun i=>yS l i y
 have w:∀t r,mY s t r=true↔∃i,i/s.P=r/\s.N<=i/\s.Qe+i<t:=fun t r=>by
  unfold mY;rw [bU l]
  grind
 have d:=zG (P:=s.P) (a:=top) (b:=top+n) (q:=q) l (by omega);rw [bM];unfold ii;simp only [ak,bL,decide_eq_true_eq,w];constructor
 ·rintro ⟨⟨g,j⟩,v|⟨i,e,c,f⟩⟩
  ·grind
  ·by_cases m:s.Qe+i<top
   ·exact .inl ⟨⟨g,j⟩,.inr ⟨i,e,c,m⟩⟩
   ·exact .inr (d.2 ⟨s.Qe+i,by omega,f,by grind⟩)
 ·rintro (⟨⟨g,j⟩,v|⟨i,e,c,f⟩⟩|h)
  ·grind
  ·exact ⟨⟨g,j⟩,.inr ⟨i,e,c,by omega⟩⟩
  ·obtain ⟨k,e,c,f⟩:=d.1 h;obtain ⟨i,rfl⟩:∃i,k=s.Qe+i:=⟨k-s.Qe,by omega⟩;rw [x] at f;have m:i/s.P<s.R:=by rw [aO (by omega)];omega
   exact ⟨⟨by grind,by omega⟩,.inr ⟨i,by grind,by omega,c⟩⟩
theorem mW.put(r:fD s)(h:mW s L M mp mvd fr ah left top){lo b:Nat}(A:s.Qe+s.N<=lo)(I:lo<=top)(K:top<=b)(D:b<=s.Qe+s.R*s.P)(x:∀q,q<s.W/s.P->mp' q=(lz s.P (aw s.E) (df s.B mvd) q||ii s mvd b q))
  (v:∀k,k<lo->L' k=L k) (w:∀k,k<s.W->mp (k/s.P)=true->(k<lo\/b<=k)->M' k=M k) (O:∀k,lo<=k->k<b->M' k=L' k) (l:∃X,(∀k,X k=true->mvd k=true)/\oH s.P (s.W/s.P) s.R s.N (aw s.E) (df s.B X) (mY s b)<=s.R):
  mW s L' M' mp' mvd fr ah left b:=by
 have t:=r.P1;have J:=r.toq;have y:=r.Wq;have C:=r.to2;have z:∀i,(s.Qe+i)/s.P=s.Qe/s.P+i/s.P:=fun i=>yS t i J
 have j:∀k,k<s.W->k/s.P<s.W/s.P:=fun k H=>by rw [aO (by omega),<-y];exact H
 have G:∀a,a<s.W->aw s.E a=true->s.F a<s.Qe+s.N:=fun a c d=>by
  show goes s.E s.Qe a<_
  rw [wt];have:=kf d c;unfold dE.N;omega
 have e:∀a,a<s.W->aw s.E a=true->mvd (ec s.E a/s.B)=false->M' a=M a:=fun a c d f=>by
  refine w a c ?_ ?_
  ·rw [h.Qx _ (j a c),bL];left;unfold lz;rw [bU t];refine ⟨a,rfl,?_⟩;show (aw s.E a&& !mvd (ec s.E a/s.B))=true
   grind
  ·rcases (r.from_ a d).2 with g|g
   ·omega
   omega
 have p:∀k,s.Qe+s.N<=k->k<lo->M' k=M k:=fun k g m=>by
  refine w k (by omega) ?_ (.inl m);obtain ⟨i,rfl⟩:∃i,k=s.Qe+i:=⟨k-s.Qe,by omega⟩;rw [h.Qx _ (j _ (by omega)),bL];right;have u:i/s.P<s.R:=by rw [aO (by omega)];omega
  unfold ii;rw [z,ak,ak,decide_eq_true_eq,decide_eq_true_eq,bL,ef];refine ⟨⟨dX _ _,jk u _⟩,.inr ?_⟩;unfold mY;rw [bU t]
  grind
 refine ⟨fun a c d f=> ?_,fun a c d f=> ?_,fun a c d f g m o=> ?_,fun a c d f=> ?_,fun k g m=> ?_,x,h.front,h.far,h.Ah,h.left,l⟩
 ·have g:=G a c d;rw [v _ (by omega),<-h.Yh a c d f];refine w _ (by omega) ?_ (.inl (by omega));have m:s.F a=s.Qe+ec s.E a:=rfl;rw [h.Qx _ (j _ (by omega)),bL];right;have u:ec s.E a/s.P<s.R:=by rw [aO (by omega)];omega
  unfold ii;rw [m,z,ak,ak,decide_eq_true_eq,decide_eq_true_eq,bL,ef];refine ⟨⟨dX _ _,jk u _⟩,.inl ?_⟩;unfold pj;rw [bU t];exact ⟨ec s.E a,rfl,by rw [ak,decide_eq_true_eq];exact ⟨by omega,f⟩⟩
 ·rw [jw d (e a c d f),h.still a c d f,v _ (by grind)]
 ·rw [e a c d f] at o ⊢;exact h.Qr a c d f g m o
 ·rw [e a c d f];exact h.small a c d f
 ·by_cases o:k<lo
  ·rw [p k g o,h.behind k g (by omega),v k o]
  grind
theorem mW.grow(f:fD s)(h:mW s L M mp mvd fr ah left top)(g:1<=n)(a:s.Qe+s.N<=top)(b:top+n<=s.Qe+s.R*s.P)(c:∀q,mp' q=(mp q||(decide (top/s.P<=q)&&decide (q<=(top+n-1)/s.P))))
  (i:∀k,k<top->L' k=L k) (j:∀k,k<s.W->mp (k/s.P)=true->(k<top\/top+n<=k)->M' k=M k) (l:∀k,top<=k->k<top+n->M' k=L' k) (e:Qc mp' 0 (s.W/s.P)<=s.R):
  mW s L' M' mp' mvd fr ah left (top+n):=by
 have d:∀q,q<s.W/s.P->mp' q=(lz s.P (aw s.E) (df s.B mvd) q||ii s mvd (top+n) q):=fun q m=>by
  rw [c,h.Qx q m,AS f g a b,Bool.or_assoc]
 exact h.put f a (ag _) (by omega) b d i j l ⟨mvd,fun _ h=>h,by grind [rk]⟩
theorem tI(mp:Nat->Bool)(a:Nat):∀k,Qc mp a (a+k)+Qc (fun q=> !mp q) a (a+k)=k
 |0=>by grind [eL]
 |k+1=>by
  rw [<-cv,bJ _ (by omega),bJ _ (by omega)];have:=tI mp a k
  grind
theorem GP(mp mp':Nat->Bool){a e Q:Nat}(c:a<=e)(d:e<=Q)(h:∀q,mp' q=(mp q||(decide (a<=q)&&decide (q<e)))):Qc mp' 0 Q=Qc mp 0 Q+Qc (fun q=> !mp q) a e:=by
 rw [bp mp' (ao a) (by omega),bp mp' c d,bp mp (ao a) (by omega),bp mp c d,
  bY (f:=mp') (g:=mp) (a:=0) (b:=a) (fun i _ j=>by grind),bY (f:=mp') (g:=mp) (a:=e) (b:=Q) (fun i j _=>by grind),
  pO (f:=mp') (a:=a) (b:=e) (fun i k l=>by grind)]
 grind [tI,Nat.add_sub_cancel']
end
def sy(c:Cf):Value:= .agg #[((c.kind:Int):Int),((c.Pg:Int):Int),((c.block:Int):Int),((c.Wd:Int):Int),((c.Sl:Int):Int),((c.stack:Int):Int),((c.Ah:Int):Int),.float .f64 c.Xb]
theorem rK{c:Cf}(w:World)(s:1<=c.Pg)(t:c.block<=1024)(u:c.Ah<=16):Calls prog 93 #[sy c] w fun e w'=>e= .returned (.int .i64 (c.spare:Int))/\J7 w w':=by
 have o:Hid ((prog.info? 24).map (·.size)=some 8):=by show _=_;kernel_rfl
 have p:decide ((c.Pg:Int)=0)=false:=by rw [decide_eq_false_iff_not];omega
 have r:¬c.Pg=0:=by omega
 have l:=aX c.block c.Pg;have q:IntKind.i64.wrap ((c.block:Int)/(c.Pg:Int))=((c.block/c.Pg:Nat):Int):=by
  rw [show (c.block:Int)/(c.Pg:Int)=((c.block/c.Pg:Nat):Int) from rfl];generalize c.block/c.Pg=X at*;rw [IntKind.wrap_i64];omega
 have A:IntKind.i64.wrap ((c.Ah:Int)+2)=(c.Ah:Int)+2:=by rw [IntKind.wrap_i64];omega
 unfold sy
 go_enter func93,ntmps93
 obtain ⟨W1,f⟩:∃W1,w.alloc (.cells #[((c.kind:Int):Int),((c.Pg:Int):Int),((c.block:Int):Int),((c.Wd:Int):Int),((c.Sl:Int):Int),((c.stack:Int):Int),((c.Ah:Int):Int),.float .f64 c.Xb] 24)=W1:=⟨_,rfl⟩;have g:J7 w W1:=by rw [<-f];exact (Kb _ w).alloc _
 have b:ay W1 w.heap.size [((c.kind:Int):Int),((c.Pg:Int):Int),((c.block:Int):Int),((c.Wd:Int):Int),((c.Sl:Int):Int),((c.stack:Int):Int),((c.Ah:Int):Int),.float .f64 c.Xb] 24:=by rw [<-f];exact ay.new w _ _
 have D:=b.drew.cell 6 rfl;have C:=b.drew.cell 2 rfl;have B:=b.drew.cell 1 rfl;have j:=ae g;clear g b;obtain ⟨Q,k⟩:∃Q,Q=c.block/c.Pg:=⟨_,rfl⟩;rw [<-k] at q l;have m:=ae k;clear k;go_wp2;clear f;refine bz (fun w'=>w'=W1.drew) 10 (by kernel_rfl) rfl ?_;simp only [Kc];refine ai (.pointer (some ⟨w.heap.size,6,none⟩)) rfl (fun w a=>by go_simp) ?_;simp only [aa];refine ai (.int .i64 (c.Ah:Int)) rfl (fun w a=>by subst a;go_simp) ?_;simp only [aa];refine aL [(((c.Ah:Int)+2):Int),.pointer (some ⟨w.heap.size,2,none⟩)] ?_
 iterate 2 (refine aM rfl (fun E y=>by go_simp) ?_;simp only [aa])
 refine aK ?_;refine ai (.int .i64 (c.block:Int)) rfl (fun w a=>by subst a;go_simp) ?_;simp only [aa];refine ai (.pointer (some ⟨w.heap.size,1,none⟩)) rfl (fun w a=>by go_simp) ?_;simp only [aa];refine ai (.int .i64 (c.Pg:Int)) rfl (fun w a=>by subst a;go_simp) ?_;simp only [aa];refine ai (Q:Int) rfl (fun w a=>by go_simp) ?_;simp only [aa];refine ai (.int .i64 ((max Q 1:Nat):Int)) rfl (fun w a=>by go_simp;omega) ?_;simp only [aa];refine ai (.int .i64 ((max Q 1+3:Nat):Int)) rfl (fun w a=>by go_simp;rw [IntKind.wrap_i64];omega) ?_;simp only [aa];refine wpQuiet_nil ?_;rintro w2 rfl;have i:∀M:Nat,M<=1024->wrap64 (((c.Ah:Int)+2)*((M:Int)+3))=(((c.Ah+2)*(M+3):Nat):Int):=fun M z=>by
  have v:(c.Ah+2)*(M+3)<=18*1027:=mi (by omega) (by omega);have n:((c.Ah:Int)+2)*((M:Int)+3)=(((c.Ah+2)*(M+3):Nat):Int):=by push_cast;rfl
  rw [n];generalize (c.Ah+2)*(M+3)=Z at*;unfold wrap64;omega
 have d:=i (max Q 1) (by omega);have h:(c.Ah+2)*(max Q 1+3)=c.spare:=by unfold Cf.spare;rw [m.out]
 rw [h] at d;clear i h;go_wp2;go_ret;exact ⟨congrArg (fun x=>Ending.returned (x:Int)) d,j.out.drew⟩
section
variable{P:Program}{a:Act}{o:Oper}
theorem zB{c:TypeId}{x:Operand}(h:o.op= .load c x)(b f:Nat)(j:a.eval x= .pointer (some ⟨b,f,none⟩))(cs:List Value)(d:TypeDesc){w:World}
  (hg:w.rangeAt b f cs) (i:P.underlying c=some d) (e:d.isRow=true) (g:(P.info? c).map (·.size)=some cs.length):
  (execOp a.eval o).run P w= .ok (.value (.agg cs.toArray)) w:=by
 grind [execOp,Instr.loadAt,Instr.sureAddr,Sem.run_bind,Sem.run_pure,Result.andThen_ok,run_loadVar_mid]
end
def I9(q:Nat->Prop)(b:Nat)(c:Cf)(A:AG)(rs:List Nat)(u n:Nat)(T:Nat->Prop)(w:World):Prop:=
 ∃h φ L Ba ub cy ns bs S,h.b=b/\lp q h c A rs φ L Ba u ub cy n ns bs S w/\(∀k,T k↔lC h ub S k)/\(n=0->cy=none)
def xh(ly:Nat)(b:Nat)(c:Cf)(A:AG)(rs:List Nat)(u:Nat)(T:Nat->Prop)(w:World)(e:Ending)(w':World):Prop:=e= .returned (.tuple #[])/\∃n T',I9 (fun Us=>Us+ly<=c.Wd/c.Pg) b c A rs u n T' w'/\Fr T w w'/\∀k,T' k->T k\/w.heap.size<=k
section
variable{b u n:Nat}{c:Cf}{A:AG}{rs:List Nat}{T:Nat->Prop}{w wr:World}
theorem lv.drew(g:lv b c A rs u n T w wr):lv b c A rs u n T w wr.drew:=let ⟨a,d,e,f⟩:=g;⟨a,d.Qb ((Kb _ _).drew),e.drew,f⟩
theorem Dc(ly:Nat)(K:lv b c A rs u n T w wr):
  (n=0/\(∀w',J7 wr w'->w'.cell? ⟨b,11,none⟩=some (.pointer none)/\True)/\∀w',J7 wr w'->xh ly b c A rs u T w (.returned (.tuple #[])) w')\/
  (n≠0/\∃(y m Us:Nat),Us<=4096/\(∀w',J7 wr w'->w'.cell? ⟨b,11,none⟩=some y/\w'.cell? ⟨b,8,none⟩=some m/\True)/\(∀w',J7 wr w'->Calls prog 95 #[m] w' fun e g=>e= .returned (.int .i64 (c.Fs:Int))/\w'=g)/\
   (∀w',J7 wr w'->Calls prog 96 #[m] w' fun e g=>e= .returned (Us:Int)/\w'=g)/\c.Fs=c.Wd/c.Pg+c.spare/\(∀w',J7 wr w'->w'.rangeAt b 0 [((c.kind:Int):Int),((c.Pg:Int):Int),((c.block:Int):Int),((c.Wd:Int):Int),((c.Sl:Int):Int),((c.stack:Int):Int),((c.Ah:Int):Int),.float .f64 c.Xb])/\
   (Us+ly<=c.Wd/c.Pg->∀w',J7 wr w'->xh ly b c A rs u T w (.returned (.tuple #[])) w')):=by
 obtain ⟨q,⟨h,φ,L,Ba,D,H,ns,r,S,rfl,f,z,o⟩,t,x⟩:=K
 cases H with
 |none=>
  left;refine ⟨f.mem.1,fun w' hf=>⟨ay.cell (f.Qb hf).Qd 11 rfl,trivial⟩,fun w' hf=>⟨rfl,n,q,⟨h,φ,L,Ba,D,none,ns,r,S,rfl,?_,z,fun _=>rfl⟩,t.trans hf J8,x⟩⟩;have a:=f.Qb hf;exact ⟨a.Qw,a.Qd,a.roots,a.Yd,a.Qo,a.laid,a.Sl,a.fits,a.half,a.mem,a.d,a.e⟩
 |some y=>
  right;refine ⟨fun h0=>(by grind),?_⟩;obtain ⟨I,G,s,p,hg,E,fr,F,O,⟨Us,_,C⟩,P,Q,R,U,V,X,Y,Z⟩:=id f.mem;have i:∀w',J7 wr w'->∃Hg l mp M,dQ w' h.m l c.Pg c.W c.Fs Us Hg mp M:=fun w' hf=>by
   obtain ⟨Hg,l,mp,M,fw,k,p1,p2,p3,p4,p5⟩:=C.stays hf (fun _ _ h=>h) id;have B:=p1.mem
   grind
  refine ⟨y,h.m,Us,?_,fun w' hf=>⟨ay.cell (f.Qb hf).Qd 11 rfl,ay.cell (f.Qb hf).Qd 8 rfl,trivial⟩,fun w' hf=> ?_,fun w' hf=> ?_,?_,fun w' hf j v N=> ?_,fun J w' hf=>⟨rfl,n,q,⟨h,φ,L,Ba,D,some y,ns,r,S,rfl,?_,z,o⟩,t.trans hf J8,x⟩⟩
  ·obtain ⟨Hg,l,mp,M,B⟩:=i wr (Kb _ _);have:=B.at;omega
  ·grind [Bn]
  ·grind [Bm]
  ·unfold Cf.Fs;grind
  ·rw [bq];have hj:j<8:=(aj.1 N).1;refine ay.cell (f.Qb hf).Qd j ?_
   grind [Cf.cells]
  ·have a:=f.Qb hf;exact ⟨a.Qw,a.Qd,a.roots,a.Yd,a.Qo,a.laid,a.Sl,a.fits,a.half,⟨I,G,s,p,hg,E,fr,F,O,⟨Us,J,C.stays hf (fun _ _ h=>h) id⟩,P,Q,R,U,V,X,Y,Z⟩,a.d,a.e⟩
theorem wg(hi:eF b c A rs u n T w)(sz:Nat)(az:sz<=1024):Calls prog 51 #[b,(sz:Int)] w (xh (sz/c.Pg+2) b c A rs u T w):=by
 have g:=hi.cf.1;have H0:=ae (show lv b c A rs u n T w w from ⟨T,hi,Kb _ _,fun _ h=> .inl h⟩);have R:=ae (fun n w1 (hh:lv b c A rs u n T w w1)=>(show Calls prog 78 #[b] w1 fun e w2=>e= .returned (.bool (decide (n≠0)))/\lv b c A rs u (n-1) T w w2 from by
  obtain ⟨T',q1,q2,q3⟩:=hh;refine (rJ q1).mono ?_;rintro e w2 ⟨rfl,ao,r1,r2,r3⟩;have hz:=q2.size;exact ⟨rfl,ao,r1,q2.trans r2 q3,fun k F=>by
   rcases r3 k F with h|h
   ·exact q3 k h
   ·exact .inr (by omega)⟩))
 have k1:w.cell? ⟨b,1,none⟩=some (.int .i64 (c.Pg:Int)):=by
  obtain ⟨h,φ,L,Ba,ub,cy,ns,bs,S,rfl,q2,q3,q4⟩:=hi;exact ay.cell q2.Qd 1 rfl
 have O:Hid ((prog.info? 24).map (·.size)=some 8):=by show _=_;kernel_rfl
 have ar:=g.Qp;have Xg:¬c.Pg=0:=by omega
 have ax:=aX sz c.Pg;have q:IntKind.i64.wrap ((sz:Int)/(c.Pg:Int))=((sz/c.Pg:Nat):Int):=by
  rw [show (sz:Int)/(c.Pg:Int)=((sz/c.Pg:Nat):Int) from rfl];generalize sz/c.Pg=X at*;rw [IntKind.wrap_i64];omega
 have x:=ae (fun w'=>rK (c:=c) w' g.Qp g.Yn g.Yo);have V:=g.Zi;clear g ar;obtain ⟨ly,p⟩:∃ly,ly=sz/c.Pg+2:=⟨_,rfl⟩;have C:ly<=2000:=by generalize sz/c.Pg=X at*;omega
 have D:((sz/c.Pg:Nat):Int)+2=(ly:Int):=by rw [p];push_cast;rfl
 have av:IntKind.i64.wrap (((sz/c.Pg:Nat):Int)+2)=(ly:Int):=by rw [D,IntKind.wrap_i64];omega
 rw [<-p];have i:=ae (fun n wr (J:lv b c A rs u n T w wr)=>Dc ly J);clear D p;generalize sz/c.Pg=X at*;have am:=ae C;clear C hi;generalize (xh ly b c A rs u T w)=Q at*
 go_enter func51,ntmps51
 go_wp2;clear k1 q ax Xg av
 go_loopw [] (fun wr=>∃n,Hid (lv b c A rs u n T w wr)) (fun wr=>jD (fun n=>lv b c A rs u n T w wr))
 case atStart=>exact ⟨n,H0⟩
 case round=>
  clear H0;obtain ⟨aH,hm⟩:=hrel;obtain ⟨J,_⟩:=fp (P:=fun n=>lv b c A rs u n T w wr) hm.out;clear hm;generalize W:jD (fun n=>lv b c A rs u n T w wr)=m0 at J;have aj:=ae W;have M:=ae (fun w1 (hf:J7 wr.drew w1)=>R.out m0 w1 (let ⟨T',h1,h2,h3⟩:=J;⟨T',h1.Qb (((Kb (fun _=>False) wr).drew).trans hf J8),h2.trans (((Kb (fun _=>False) wr).drew).trans hf J8) J8,h3⟩));have ap:=i.out m0 wr.drew J.drew;clear W J i R;rcases ap with ⟨U,F,q⟩|⟨U,y,m,Us,hu,F,ad,ag,o,Z,q⟩
  ·have j:=ae F;have I:=ae q;clear F q M U;go_wp2;refine bz (fun w'=>J7 wr.drew w') 24 (by kernel_rfl) (Kb _ _) ?_;simp only [Kc];refine ai b rfl (fun w' a=>by go_simp) ?_;simp only [aa];refine ai b rfl (fun w' a=>by go_simp) ?_;simp only [aa];refine ai (.pointer (some ⟨b,11,none⟩)) rfl (fun w' a=>by go_simp) ?_;simp only [aa];refine ai (.pointer none) rfl (fun w' a=>by have ah:=(j.out w' a).1;go_simp) ?_;simp only [aa];refine ai (.bool false) rfl (fun w' a=>by go_simp) ?_;simp only [aa];refine ai (.bool false) rfl (fun w' a=>by go_simp) ?_;simp only [aa]
   go_big_quiet_skip
   go_big_quiet_skip
   go_big_quiet_skip
   go_big_quiet_skip
   go_big_quiet_skip
   go_big_quiet_skip
   go_big_quiet_skip
   go_big_quiet_skip
   go_big_quiet_skip
   go_big_quiet_skip
   go_big_quiet_skip
   go_big_quiet_skip
   go_big_quiet_skip
   go_big_quiet_skip
   go_big_quiet_skip
   go_big_quiet_skip
   go_big_quiet_skip
   go_big_quiet_skip
   refine wpQuiet_nil ?_;rintro w2 d;have H:=ae (I.out w2 d);clear d I j;go_wp2;go_end0;exact H.out
  ·rw [decide_eq_true U] at M;have ak:=ae U;generalize c.Wd/c.Pg=Y at o q;have j:=ae F;have I:=ae q;have s:=ae Z;obtain ⟨r,G⟩:∃r,r=c.spare:=⟨_,rfl⟩;have t:Hid (∀w',J7 wr.drew w'->Calls prog 93 #[sy c] w' fun e f=>e= .returned (r:Int)/\J7 wr.drew f):=by
    show∀w',_
    intro w' hf;rw [G];refine (x.out w').mono ?_;rintro e f ⟨rfl,h⟩;exact ⟨rfl,hf.trans h J8⟩
   have l:Hid (∀w',J7 wr.drew w'->Calls prog 95 #[m] w' fun e f=>e= .returned (.int .i64 (c.Fs:Int))/\J7 wr.drew f):=by
    show∀w',_
    intro w' hf;refine (ad w' hf).mono ?_;rintro e f ⟨rfl,rfl⟩;exact ⟨rfl,hf⟩
   have v:Hid (∀w',J7 wr.drew w'->Calls prog 96 #[m] w' fun e f=>e= .returned (Us:Int)/\J7 wr.drew f):=by
    show∀w',_
    intro w' hf;refine (ag w' hf).mono ?_;rintro e f ⟨rfl,rfl⟩;exact ⟨rfl,hf⟩
   rw [<-G] at o;obtain ⟨fr,B⟩:∃fr,fr=c.Fs:=⟨_,rfl⟩;rw [<-B] at o V l;have aC:IntKind.i64.wrap ((fr:Int)-(Us:Int))=(fr:Int)-(Us:Int):=by rw [IntKind.wrap_i64];omega
   have aG:IntKind.i64.wrap ((ly:Int)+(r:Int))=(ly:Int)+(r:Int):=by have:=am.out;rw [IntKind.wrap_i64];omega
   have z:(¬(fr:Int)-(Us:Int)<(ly:Int)+(r:Int))->Us+ly<=Y:=fun h=>by rw [o] at h;push_cast at h;omega
   have E:=ae z;clear F q Z ad ag G B o V hu z U x;by_cases aq:(fr:Int)-(Us:Int)<(ly:Int)+(r:Int)
   ·clear I E;go_wp2;refine bz (fun w'=>J7 wr.drew w') 24 (by kernel_rfl) (Kb _ _) ?_;simp only [Kc];refine ai b rfl (fun w' a=>by go_simp) ?_;simp only [aa];refine ai b rfl (fun w' a=>by go_simp) ?_;simp only [aa];refine ai (.pointer (some ⟨b,11,none⟩)) rfl (fun w' a=>by go_simp) ?_;simp only [aa];refine ai y rfl (fun w' a=>by have ah:=(j.out w' a).1;go_simp) ?_;simp only [aa];refine ai (.bool true) rfl (fun w' a=>by go_simp) ?_;simp only [aa];refine ai (.bool true) rfl (fun w' a=>by go_simp) ?_;simp only [aa];refine aQ b rfl (fun w' a=>by go_simp) ?_;simp only [aa];refine aQ b rfl (fun w' a=>by go_simp) ?_;simp only [aa];refine aQ (.pointer (some ⟨b,8,none⟩)) rfl (fun w' a=>by go_simp) ?_;simp only [aa];refine aQ m rfl (fun w' a=>by have k8:=(j.out w' a).2.1;go_simp) ?_;simp only [aa];refine gZ (.int .i64 fr) 95 #[m] rfl (fun w'=>by go_simp) (fun w' a=>l.out w' a) ?_;simp only [aa];refine aQ b rfl (fun w' a=>by go_simp) ?_;simp only [aa];refine aQ b rfl (fun w' a=>by go_simp) ?_;simp only [aa];refine aQ (.pointer (some ⟨b,8,none⟩)) rfl (fun w' a=>by go_simp) ?_;simp only [aa];refine aQ m rfl (fun w' a=>by have k8:=(j.out w' a).2.1;go_simp) ?_;simp only [aa];refine gZ (.int .i64 Us) 96 #[m] rfl (fun w'=>by go_simp) (fun w' a=>v.out w' a) ?_;simp only [aa];refine aQ (.int .i64 ((fr:Int)-(Us:Int))) rfl (fun w' a=>by go_simp) ?_;simp only [aa];refine aQ (ly:Int) rfl (fun w' a=>by go_simp) ?_;simp only [aa];refine aQ b rfl (fun w' a=>by go_simp) ?_;simp only [aa];refine aQ b rfl (fun w' a=>by go_simp) ?_;simp only [aa];refine aQ b rfl (fun w' a=>by go_simp) ?_;simp only [aa];refine aQ (sy c) rfl (fun w' a=>zB rfl b 0 rfl _ _ (s.out w' a) rfl rfl O.out) ?_;simp only [aa];refine gZ (.int .i64 r) 93 #[sy c] rfl (fun w'=>by go_simp) (fun w' a=>t.out w' a) ?_;simp only [aa];refine aQ (.int .i64 ((ly:Int)+(r:Int))) rfl (fun w' a=>by go_simp) ?_;simp only [aa];refine wpQuiet_nil ?_;rintro w2 d;have N:=ae (M.out w2 d);clear M j s l v t d;go_wp2_with fail
    refine N.out.mono ?_;rintro e w3 ⟨rfl,q⟩;have H:=ae q;clear q N;go_wp2;go_roundw
    case rel=>exact ⟨m0-1,H⟩
    case measure=>exact bx (fp (P:=fun n=>lv b c A rs u n T w w3) H.out).2 (by have:=ak.out;have:=aj.out;omega)
   ·have K:=ae (I.out (E.out aq));clear I E M;go_wp2;refine bz (fun w'=>J7 wr.drew w') 24 (by kernel_rfl) (Kb _ _) ?_;simp only [Kc];refine ai b rfl (fun w' a=>by go_simp) ?_;simp only [aa];refine ai b rfl (fun w' a=>by go_simp) ?_;simp only [aa];refine ai (.pointer (some ⟨b,11,none⟩)) rfl (fun w' a=>by go_simp) ?_;simp only [aa];refine ai y rfl (fun w' a=>by have ah:=(j.out w' a).1;go_simp) ?_;simp only [aa];refine ai (.bool true) rfl (fun w' a=>by go_simp) ?_;simp only [aa];refine ai (.bool true) rfl (fun w' a=>by go_simp) ?_;simp only [aa];refine aQ b rfl (fun w' a=>by go_simp) ?_;simp only [aa];refine aQ b rfl (fun w' a=>by go_simp) ?_;simp only [aa];refine aQ (.pointer (some ⟨b,8,none⟩)) rfl (fun w' a=>by go_simp) ?_;simp only [aa];refine aQ m rfl (fun w' a=>by have k8:=(j.out w' a).2.1;go_simp) ?_;simp only [aa];refine gZ (.int .i64 fr) 95 #[m] rfl (fun w'=>by go_simp) (fun w' a=>l.out w' a) ?_;simp only [aa];refine aQ b rfl (fun w' a=>by go_simp) ?_;simp only [aa];refine aQ b rfl (fun w' a=>by go_simp) ?_;simp only [aa];refine aQ (.pointer (some ⟨b,8,none⟩)) rfl (fun w' a=>by go_simp) ?_;simp only [aa];refine aQ m rfl (fun w' a=>by have k8:=(j.out w' a).2.1;go_simp) ?_;simp only [aa];refine gZ (.int .i64 Us) 96 #[m] rfl (fun w'=>by go_simp) (fun w' a=>v.out w' a) ?_;simp only [aa];refine aQ (.int .i64 ((fr:Int)-(Us:Int))) rfl (fun w' a=>by go_simp) ?_;simp only [aa];refine aQ (ly:Int) rfl (fun w' a=>by go_simp) ?_;simp only [aa];refine aQ b rfl (fun w' a=>by go_simp) ?_;simp only [aa];refine aQ b rfl (fun w' a=>by go_simp) ?_;simp only [aa];refine aQ b rfl (fun w' a=>by go_simp) ?_;simp only [aa];refine aQ (sy c) rfl (fun w' a=>zB rfl b 0 rfl _ _ (s.out w' a) rfl rfl O.out) ?_;simp only [aa];refine gZ (.int .i64 r) 93 #[sy c] rfl (fun w'=>by go_simp) (fun w' a=>t.out w' a) ?_;simp only [aa];refine aQ (.int .i64 ((ly:Int)+(r:Int))) rfl (fun w' a=>by go_simp) ?_;simp only [aa];refine wpQuiet_nil ?_;rintro w2 d;have H:=ae (K.out w2 d);clear j s l v t d K;go_wp2;go_end0;exact H.out
end
def JU(c:Cf)(m Ba top lo y n:Nat)(L:Nat->Nat)(S:Nat->Prop)(w:World):Prop:=
 ∃cc s hf hg Mv fr ah Us,AA cc s hf hg c.Fs top/\sM cc s hf hg c.Fs top Mv n fr ah Us L S w/\cc.y=y/\cc.m=m/\s.Qe=Ba/\s.P=c.Pg/\s.R=c.Wd/c.Pg/\s.W=c.W/\s.B=c.block/\s.Ah=c.Ah/\s.Qe+s.N<=lo
def JT(c:Cf)(m Ba top lo:Nat)(L:Nat->Nat)(S:Nat->Prop)(w:World):Option Nat->Nat->Prop
 |none,_=>True
 |some y,n=>JU c m Ba top lo y n L S w
def IX(b:Nat)(c:Cf)(A:AG)(rs:List Nat)(u sz n:Nat)(T:Nat->Prop)(w:World)(a:Nat):Prop:=
 ∃h φ L Ba ub cy ns bs S,h.b=b/\lp (fun _=>True) h c A rs φ L Ba (u+sz) ub cy n ns bs S w/\(∀k,T k↔lC h ub S k)/\(n=0->cy=none)/\ce A rs φ L Ba (Ba+u)/\a=Ba+u/\JT c h.m Ba (Ba+(u+sz)) (Ba+u) L S w cy n
section
variable{b u n:Nat}{c:Cf}{A:AG}{rs:List Nat}{T:Nat->Prop}{w w':World}
theorem eF.q0(j:eF b c A rs u 0 T w)(q:Nat->Prop):I9 q b c A rs u 0 T w:=by
 obtain ⟨h,φ,L,Ba,k,l,ns,g,S,rfl,a,i,f⟩:=j;obtain rfl:=f rfl;exact ⟨h,φ,L,Ba,k,none,ns,g,S,rfl,⟨a.Qw,a.Qd,a.roots,a.Yd,a.Qo,a.laid,a.Sl,a.fits,a.half,a.mem,a.d,a.e⟩,i,f⟩
theorem A0{Ba Pg top sz:Nat}{mp:Nat->Bool}(hp:1<=Pg)(r:Ba% Pg=0)(o:1<=sz)(m:Ba<=top)(e:∀q,mp q=(decide (Ba<=q*Pg)&&decide (q*Pg<top)))(q:Nat):(mp q||(decide (top/Pg<=q)&&decide (q<=(top+sz-1)/Pg)))=(decide (Ba<=q*Pg)&&decide (q*Pg<top+sz)):=by
 have d:=zG (P:=Pg) (a:=top) (b:=top+sz) (q:=q) hp (by omega);have p:Ba=Ba/Pg*Pg:=by grind [Nat.div_add_mod]
 rw [e,bM];simp only [ak,bL,decide_eq_true_eq];rw [d];constructor
 ·rintro (⟨f,g⟩|⟨k,f,g,h⟩)
  ·omega
  ·have i:=aS (c:=Pg) (show Ba<=k by omega);have j:=aG Pg i;have l:=ba k Pg;rw [h] at j l;omega
 grind [Nat.mul_div_cancel]
theorem GO{Ba top Pg R N:Nat}{mp:Nat->Bool}(hp:1<=Pg)(g:Ba% Pg=0)(h:top<=Ba+R*Pg)(d:∀q,mp q=(decide (Ba<=q*Pg)&&decide (q*Pg<top))):Qc mp 0 N<=R:=by
 have f:Ba=Ba/Pg*Pg:=by grind [Nat.div_add_mod]
 refine kQ (a:=Ba/Pg) (fun i _ e=> ?_);rw [d,ak,decide_eq_true_eq,decide_eq_true_eq] at e;refine ⟨ml (by grind),?_⟩;refine eC (a:=Pg) ?_
 grind
theorem Ci{mp:Nat->Bool}{top sz Pg:Nat}(hp:1<=Pg)(g:1<=sz):Qc (fq mp) (top/Pg) ((top+sz-1)/Pg+1)<=sz/Pg+2:=by
 have h:=dA (fq mp) (top/Pg) ((top+sz-1)/Pg+1);have i:(top+sz-1)/Pg<=top/Pg+(sz/Pg+1):=by
  have a:=az top Pg;have d:=az sz Pg;have e:=aI top (show Pg>0 by omega);have f:=aI sz (show Pg>0 by omega);rw [<-Nat.lt_succ_iff,aO (by omega)]
  grind
 grind
theorem iC.wordsq(a:iC c):c.Wd/c.Pg*c.Pg=c.Wd:=by have:=az c.Wd c.Pg;have:=a.wp;grind
theorem lp.ran{q r:Nat->Prop}{h:Hp}{φ L L':Nat->Nat}{Ba i g p:Nat}{j:Option Nat}{ns o:Int}{S S':Nat->Prop}{l:AG}(a:lp q h c A rs φ L Ba u i j n ns o S w)(hf:Fr (fun k=>S k\/k=i) w w')(D:∀k,S' k->S k\/w.heap.size<=k)(C:eW w' i h.m Ba (Ba+g) (Ba+c.Wd))(G:xn c h.m Ba (Ba+g) r L' S' w' j p)(B:ce l rs φ L' Ba (Ba+g))(F:g<=c.Wd):lp r h c l rs φ L' Ba g i j p ns o S' w':=by
 have d:=a.d;have f:=a.lt;have E:ch<w.heap.size:=bu (a.Qo 0 0 rfl);obtain ⟨H,I,s,t,v,J,K,x,M⟩:=id a.e;refine ⟨a.Qw,ay.frame a.Qd hf (fun h=>h.elim (fun h=>(d _ h).1 rfl) s),a.roots.frame hf (fun h=>h.elim (fun h=>(d _ h).2.1 rfl) t) (fun h=>h.elim (fun h=>(d _ h).2.2.1 rfl) v),C,aE a.Qo hf (fun h=>h.elim (fun h=>(d _ h).2.2.2.2 rfl) (Ne.symm x)),B,a.Sl,F,a.half,G,fun k z=> ?_,a.e⟩;rcases D k z with y|y
 ·grind
 ·have N:=f _ (.inr (.inl rfl));have O:=f _ (.inr (.inr (.inl rfl)));have P:=f _ (.inr (.inr (.inr (.inl rfl))));have Q:=f _ (.inr (.inr (.inr (.inr rfl))));omega
theorem jO.mem2{c:Cy}{s:dE}{hf hg:Nat->Nat}{Fs Us Hg g q:Nat}{r l:Nat->Prop}{mp t:Nat->Bool}{M z:Nat->Nat}{C:List Bool}{E:Nat->Option Nat}{n left fr D x:Nat}(h:jO c s hf hg Fs Us Hg r mp M C E n left fr D w)(I:dQ w' c.m l s.P s.W Fs g q t z)(a:Fr (fun k=>r k\/k=x) w w')(j:∀k,l k->r k\/w.heap.size<=k)(v:¬c.has x)(y:x≠ch):jO c s hf hg Fs g q l t z C E n left fr D w':=by
 obtain ⟨ns,f,K,L⟩:=h.shp;have p:∀k,c.has k->¬(r k\/k=x):=fun k o j=>j.elim (fun j=>(h.dm k j).1 o) (fun e=>v (e▸o))
 have J:¬(r ch\/ch=x):=fun j=>j.elim (fun j=>(h.dm _ j).2 rfl) (Ne.symm y)
 exact ⟨h.Qd.frame a (p _ (.inl rfl)),I,h.Xh.frame a (fun i H=>by
   by_cases v:c.lo<=i/\i<c.hi
   ·exact absurd H (p i (.inr (.inr (.inr (.inr (.inr v))))))
   ·omega),h.ext.frame a (fun k o=>p k (.inr (.inr (.inr (.inr (.inl o)))))),aE h.Qo a J,h.mv.frame a (p _ (.inr (.inl rfl))),h.wds.frame a (p _ (.inr (.inr (.inl rfl)))),⟨ns,f,K.frame a (p _ (.inr (.inr (.inr (.inl rfl))))),L⟩,
  by have:=h.hib;have:=a.size;omega,fun k o=>by
   rcases j k o with F|F
   ·grind
   ·exact ⟨fun G=>by have:=h.lt k G;omega,fun e=>by have:=h.Xu;omega⟩,h.d,h.B,h.Qe,h.len⟩
def JC(b:Nat)(c:Cf)(A:AG)(rs:List Nat)(u sz n:Nat)(T:Nat->Prop)(w:World)(a:Nat)(e:Ending)(w':World):Prop:=e= .returned (.tuple #[(a:Int),(0:Int)])/\∃T',IX b c A rs u sz n T' w' a/\Fr T w w'/\∀k,T' k->T k\/w.heap.size<=k
theorem ID{sz:Nat}(hq:I9 (fun Us=>Us+(sz/c.Pg+2)<=c.Wd/c.Pg) b c A rs u n T w)(z:1<=sz)(C:u+sz<=c.Wd):∃p a,w.cell? ⟨b,10,none⟩=some (.pointer (some ⟨p,0,none⟩))/\Calls prog 52 #[.pointer (some ⟨p,0,none⟩),(sz:Int)] w (JC b c A rs u sz n T w a):=by
 obtain ⟨h,φ,L,Ba,p,cy,ns,bs,S,rfl,g,hT,ag⟩:=hq;have ao:=g.half.le;have ar:=g.half.top;have H:=g.Qw.Qp;have m:=g.half.mod g.Qw;have ax:=g.Qw.wordsq;have X:=g.laid.wide (hi':=Ba+(u+sz)) (by omega);have F:∀k,S k->k≠p:=fun k f=>(g.d k f).2.2.2.1
 refine ⟨p,Ba+u,ay.cell g.Qd 10 rfl,?_⟩;have J:∀k,S k\/k=p->T k:=fun k f=>(hT k).2 (f.elim .inl (fun e=> .inr (.inr (.inr (.inr e)))))
 cases cy with
 |none=>
  obtain ⟨aj,Us,Hg,mp,⟨M,Y,ad⟩,Z⟩:=id g.mem;have am:=A0 (sz:=sz) H m z (dX Ba u) Z;have al:=Y.at.2.2.2.2.2.2.2.1;have hQ:(Ba+u+sz-1)/c.Pg+1<=c.W/c.Pg:=by
   rw [Nat.succ_le_iff,aO (by omega)];have:=g.Qw.Wp
   grind [Nat.div_add_mod]
  have aq:=GP mp (fun q=>mp q||(decide ((Ba+u)/c.Pg<=q)&&decide (q<(Ba+u+sz-1)/c.Pg+1))) (e:=(Ba+u+sz-1)/c.Pg+1) (Q:=c.W/c.Pg) (oW (aS (c:=c.Pg) (show Ba+u<=Ba+u+sz-1 by omega))) hQ (fun q=>rfl);have an:=GO (R:=c.Wd/c.Pg) (N:=c.W/c.Pg) (mp:=fun q=>mp q||(decide ((Ba+u)/c.Pg<=q)&&decide (q<(Ba+u+sz-1)/c.Pg+1))) H m (top:=Ba+u+sz) (by omega) (fun q=>by
   grind)
  have U:c.Wd/c.Pg<=c.Fs:=dX _ _;refine (tM g.Yd Y (fun h=>F _ h rfl) sz z (by omega) (by omega) (by show Us+Qc (fun q=> !mp q) _ _<=_;omega)).mono ?_;rintro e w' ⟨rfl,hr,S',E,j,t,g1,g2,g3,I,g5⟩;have G:∀x,Reach A.gr rs x->∀i,i<A.sz x->(if j ((φ x+i)/c.Pg)=true then t (φ x+i) else L (φ x+i))=L (φ x+i):=fun x hx i hi=>by
   have h5:=g.laid.Qm x hx;obtain ⟨d1,d2⟩:=rA Z m (show Ba+u<=c.W by omega) (φ x+i) (by omega) (by omega);by_cases h6:j ((φ x+i)/c.Pg)=true
   ·rw [if_pos h6,g3 _ d1 d2,ad _ ⟨d1,d2⟩]
   grind
  refine ⟨rfl,lC h p S',⟨h,φ,fun k=>if j (k/c.Pg)=true then t k else L k,Ba,p,none,ns,bs,S',rfl,g.ran I g5 (by grind) ⟨aj,_,E,j,⟨t,g1,fun a ha=>(if_pos ha.2).symm⟩,fun q=> ?_⟩ (X.Xz ?_) C,fun k=>dO,fun _=>rfl,g.laid.Xz ?_,rfl,trivial⟩,I.mono (fun k f=> .inl (J k f)),fun k f=> ?_⟩
  ·grind
  ·omega
  ·omega
  ·rcases f with f|f
   ·grind
   ·exact .inl ((hT k).2 (.inr f))
 |some y=>
  obtain ⟨f,v,s,r,hg,Mv,fr,ah,o,⟨Us,al,Hg,Sm,mp,M,fw,kk,p1,p2,p3,p4,p5⟩,r1,r2,r3,r4,r5,r6,r7,r8⟩:=id g.mem;have Y:=p1.mem;rw [r2,r4,r6] at Y;have ap:=Ci (mp:=mp) (top:=Ba+u) H z;have U:c.Wd/c.Pg<=c.Fs:=dX _ _;refine (tM g.Yd Y (fun h=>F _ ((p5 _).2 (.inl h)) rfl) sz z (by omega) (by omega) (by omega)).mono ?_;rintro e w' ⟨rfl,hr,l,E,j,t,g1,g2,g3,I,g5⟩;have G:∀x,Reach A.gr rs x->∀i,i<A.sz x->(if Ba+u<=φ x+i then t (φ x+i) else L (φ x+i))=L (φ x+i):=fun x hx i hi=>by
   have h5:=g.laid.Qm x hx
   grind
  have V:Fr (fun k=>S k\/k=p) w w':=I.mono (fun k f=> .inl (f.imp (fun h=>(p5 k).2 (.inl h)) id));have hs:∀k,(l k\/v.has k)->S k\/w.heap.size<=k:=fun k f=>by
   grind
  have av:=g1.at.2.2.2.2.2.2.2.1;have ak:Ba+(u+sz)<=s.Qe+s.R*s.P:=by grind
  have D:=o.low1;have O:AA v s r hg c.Fs (Ba+(u+sz)):=⟨o.ok,o.hd,ak,by omega,o.fr1,o.Qe,o.nb,o.ah,o.N,o.B,o.a16⟩;have K:sM v s r hg c.Fs (Ba+(u+sz)) Mv n fr ah (Us+Qc (fq mp) ((Ba+u)/c.Pg) ((Ba+u+sz-1)/c.Pg+1)) (fun k=>if Ba+u<=k then t k else L k) (fun k=>l k\/v.has k) w':=by
   refine ⟨E,l,j,t,fw,kk,?_,?_,p3,p4,fun k=>dO⟩
   ·exact p1.mem2 (by grind) I g5 (fun h=>F _ ((p5 _).2 (.inr h)) rfl) g.e.2.2.2.2.2.2.2.1
   ·rw [<-cv];refine p2.grow o.ok z D (by omega) (by grind) (fun k f=>if_neg (by omega)) (fun k z h2 _=> ?_) (fun k z h2=>(if_pos z).symm) ?_
    ·grind
    grind
  refine ⟨rfl,lC h p (fun k=>l k\/v.has k),⟨h,φ,fun k=>if Ba+u<=k then t k else L k,Ba,p,some y,ns,bs,fun k=>l k\/v.has k,rfl,g.ran V hs (by grind) ⟨f,v,s,r,hg,Mv,fr,ah,O,⟨_,trivial,K⟩,r1,r2,r3,r4,r5,r6,r7,r8⟩ (X.Xz G) C,fun k=>dO,ag,g.laid.Xz G,rfl,⟨v,s,r,hg,Mv,fr,ah,_,O,K,r1,r2,r3,r4,r5,r6,r7,r8,D⟩⟩,V.mono (fun k f=> .inl (J k f)),fun k f=> ?_⟩
  ·rcases f with f|f
   ·grind
   ·exact .inl ((hT k).2 (.inr f))
end
def xg(b:Nat)(c:Cf)(A:AG)(rs l0:List Nat)(sz:Nat)(T:Nat->Prop)(w:World)(e:Ending)(w':World):Prop:=
 (A.Wd l0+sz<=c.Wd/\∃a u n T',e= .returned (.tuple #[(((a:Nat):Int):Int),(0:Int)])/\IX b c A rs u sz n T' w' a/\Fr T w w'/\∀k,T' k->T k\/w.heap.size<=k)\/
 (c.Wd<A.Wd l0+sz/\e= .returned (.tuple #[(0:Int),(21:Int)])/\∃u n T',eF b c A rs u n T' w'/\Fr T w w'/\∀k,T' k->T k\/w.heap.size<=k)
section
variable{b u n sz:Nat}{c:Cf}{A:AG}{rs l0:List Nat}{T:Nat->Prop}{w w':World}
theorem IE(i:eF b c A rs u n T w)(f:1<=sz)(o:c.Wd<u+sz):∃d,w.cell? ⟨b,10,none⟩=some (.pointer (some ⟨d,0,none⟩))/\Calls prog 52 #[.pointer (some ⟨d,0,none⟩),(sz:Int)] w fun e w'=>e= .returned (.tuple #[(0:Int),(21:Int)])/\J7 w w':=by
 obtain ⟨h,φ,L,Ba,d,l,ns,k,S,rfl,a,m,g⟩:=i;have j:=a.half.top;have:=a.Qw.W5;have hf:=a.fits;exact ⟨d,ay.cell a.Qd 10 rfl,Cn a.Yd sz f (by omega) (by omega) (by omega)⟩
theorem I9.toI{q:Nat->Prop}(r:I9 q b c A rs u n T w):eF b c A rs u n T w:=by
 obtain ⟨h,φ,L,Ba,z,i,ns,l,S,rfl,a,o,f⟩:=r;refine ⟨h,φ,L,Ba,z,i,ns,l,S,rfl,⟨a.Qw,a.Qd,a.roots,a.Yd,a.Qo,a.laid,a.Sl,a.fits,a.half,?_,a.d,a.e⟩,o,f⟩
 cases i with
 |none=>exact a.mem
 |some y=>
  obtain ⟨p,m,s,g,hg,j,fr,k,t,⟨Us,_,v⟩,x⟩:=a.mem;exact ⟨p,m,s,g,hg,j,fr,k,t,⟨Us,trivial,v⟩,x⟩
theorem eF.Xm(d:eF b c A rs u n T w)(e:dt A rs l0):A.Wd l0<=u:=by
 obtain ⟨h,φ,L,Ba,k,i,ns,g,S,rfl,f,j,a⟩:=d;have:=f.laid.Xm (by omega) e;omega
theorem eF.Yv(d:eF b c A rs u n T w):∃l,dt A rs l:=by
 obtain ⟨h,φ,L,Ba,j,g,ns,f,S,rfl,e,i,a⟩:=d;exact e.laid.some
def G9(b:Nat)(c:Cf)(A:AG)(rs l0:List Nat)(sz:Nat)(T:Nat->Prop)(w:World)(wr:World):Prop:=
 ∃ub a,wr.cell? ⟨b,10,none⟩=some (.pointer (some ⟨ub,0,none⟩))/\Calls prog 52 #[.pointer (some ⟨ub,0,none⟩),(sz:Int)] wr fun e w'=>e= .returned (.tuple #[(((a:Nat):Int):Int),(0:Int)])/\xg b c A rs l0 sz T w e w'
theorem zV{q:Nat->Prop}(p:dt A rs l0)(g:I9 (fun Us=>Us+(sz/c.Pg+2)<=c.Wd/c.Pg) b c A rs u n T w)(m:1<=sz)(d:u+sz<=c.Wd){f:Nat->Prop}{w0:World}(hf:Fr f w0 w)(i:∀k,T k->f k\/w0.heap.size<=k):G9 b c A rs l0 sz f w0 w:=by
 obtain ⟨v,a,g1,l⟩:=ID g m d;refine ⟨v,a,g1,l.mono ?_⟩;rintro e w' ⟨rfl,j,r,s,t⟩;have x:=hf.size;have:=g.toI.Xm p;exact ⟨rfl,.inl ⟨by omega,a,u,n,j,rfl,r,hf.trans s i,fun k o=>(t k o).elim (i k) (fun h=> .inr (by omega))⟩⟩
theorem D7(V:eF b c A rs u n T w)(J:dt A rs l0)(M:1<=sz)(R:sz<=1024):Calls prog 19 #[b,(sz:Int)] w (xg b c A rs l0 sz T w):=by
 have G:=ae (wg V sz R);have x:Hid (∀u n w1,lv b c A rs u n T w w1->Calls prog 53 #[b] w1 fun e w2=>e= .returned (.tuple #[])/\lv b c A rs u 0 T w w2):=by
  show∀u n w1,_
  rintro u n w1 ⟨s,g1,i,j⟩;refine (nJ g1).mono ?_;rintro e w2 ⟨rfl,K,B,I,L⟩;have W:=i.size;exact ⟨rfl,K,B,i.trans I j,fun k N=>(L k N).elim (j k) (fun h=> .inr (by omega))⟩
 have v:Hid (∀u n w1,lv b c A rs u n T w w1->Calls prog 54 #[b] w1 fun e w2=>e= .returned (.tuple #[])/\lv b c A rs (A.Wd l0) 0 T w w2):=by
  show∀u n w1,_
  rintro u n w1 ⟨s,g1,i,j⟩;refine (lW g1).mono ?_;rintro e w2 ⟨rfl,l,K,O,B,I,L⟩;have W:=i.size;rw [O.Wd J] at B;exact ⟨rfl,K,B,i.trans I j,fun k N=>(L k N).elim (j k) (fun h=> .inr (by omega))⟩
 have o:Hid (∀u n w1,c.Wd<u+sz->lv b c A rs u n T w w1->∃C,w1.cell? ⟨b,10,none⟩=some (.pointer (some ⟨C,0,none⟩))/\Calls prog 52 #[.pointer (some ⟨C,0,none⟩),(sz:Int)] w1 fun e w'=>e= .returned (.tuple #[(0:Int),(21:Int)])/\lv b c A rs u n T w w'):=by
  show∀u n w1,_
  rintro u n w1 P ⟨s,g1,i,j⟩;obtain ⟨C,B,I⟩:=IE g1 M P;refine ⟨C,B,I.mono ?_⟩;rintro e w' ⟨rfl,hf⟩;exact ⟨rfl,s,g1.Qb hf,i.trans hf J8,j⟩
 have z:Hid (∀u e w1,xh (sz/c.Pg+2) b c A rs u T w e w1->e= .returned (.tuple #[])/\(u+sz<=c.Wd->G9 b c A rs l0 sz T w w1)/\∃n,lv b c A rs u n T w w1):=by
  show∀u e w1,_
  rintro u e w1 ⟨rfl,n,s,g1,i,j⟩;exact ⟨rfl,fun hf=>zV (q:=fun _=>True) J g1 M hf i j,n,s,g1.toI,i,j⟩
 have p:Hid (∀w1,lv b c A rs (A.Wd l0) 0 T w w1->A.Wd l0+sz<=c.Wd->G9 b c A rs l0 sz T w w1):=by
  show∀w1,_
  rintro w1 ⟨s,g1,i,j⟩ hf;exact zV (q:=fun _=>True) J (g1.q0 _) M hf i j
 have r:Hid (∀w1,c.Wd<A.Wd l0+sz->lv b c A rs (A.Wd l0) 0 T w w1->xg b c A rs l0 sz T w (.returned (.tuple #[(0:Int),(21:Int)])) w1):=by
  show∀w1,_
  rintro w1 P ⟨s,g1,i,j⟩;exact .inr ⟨P,rfl,_,_,s,g1,i,j⟩
 clear V J;unfold G9 at z p;generalize (xg b c A rs l0 sz T w)=Q at*
 go_enter func19,ntmps19
 go_wp2_with fail
 refine G.out.mono ?_;intro e w1 hp;obtain ⟨rfl,S,X,hf⟩:=z.out _ _ _ hp;clear hp G z;by_cases d:u+sz<=c.Wd
 ·obtain ⟨C,a,f,m⟩:=S d;have g:=ae m;clear S m hf x v o p r d;go_wp2_with fail
  refine g.out.mono ?_;rintro e w2 ⟨rfl,t⟩;have H:=ae t;clear t g f;go_wp2;exact H.out
 ·obtain ⟨C,f,m⟩:=o.out u X w1 (by omega) hf;have g:=ae m;have y:=ae d;clear S m hf d;go_wp2_with fail
  refine g.out.mono ?_;rintro e w2 ⟨rfl,hf⟩;have E:=ae (x.out _ _ w2 hf);clear g hf x f;go_wp2_with fail
  refine E.out.mono ?_;rintro e w3 ⟨rfl,hf⟩;obtain ⟨Y,f,m⟩:=o.out u 0 w3 (by have:=y.out;omega) hf;have g:=ae m;clear E hf m;go_wp2_with fail
  refine g.out.mono ?_;rintro e w4 ⟨rfl,hf⟩;have D:=ae (v.out _ _ w4 hf);clear g hf v f;go_wp2_with fail
  refine D.out.mono ?_;rintro e w5 ⟨rfl,hf⟩;clear D;by_cases d:A.Wd l0+sz<=c.Wd
  ·obtain ⟨U,Z,f,m⟩:=p.out w5 hf d;have g:=ae m;clear m hf o p r d y;go_wp2_with fail
   refine g.out.mono ?_;rintro e w6 ⟨rfl,t⟩;have H:=ae t;clear t g f;go_wp2;exact H.out
  ·obtain ⟨U,f,m⟩:=o.out _ 0 w5 (by omega) hf;have g:=ae m;have F:=ae (fun w6 h=>r.out w6 (by omega) h);clear m hf o p r d y;go_wp2_with fail
   refine g.out.mono ?_;rintro e w6 ⟨rfl,t⟩;have H:=ae (F.out w6 t);clear t g f F;go_wp2;exact H.out
end
theorem C7{P:Program}(t:TypeId)(b c:Nat)(w:World):
  ∃r w',(binOp .mul t (.float .f64 b) (.float .f64 c)).run P w= .ok (.float .f64 r) w'/\J7 w w':=by
 cases h:floatBits .mul .f64 b c with
 |some r=>exact ⟨r,w,run_float_arith w .mul t .f64 b c r h,Kb _ w⟩
 |none=>
  refine ⟨(Question.nanBits .f64 b c).cut (w.tape w.drawn (.nanBits .f64 b c)),w.drew,?_,(Kb _ w).drew⟩;simp_all [floatBits,binOp,Op.floatArith,Question.forced]
section
variable{b u n:Nat}{c:Cf}{A:AG}{rs:List Nat}{T:Nat->Prop}{w:World}
theorem Ef(Y:eF b c A rs u n T w):Calls prog 23 #[b] w fun e w'=>∃B,e= .returned (.bool B)/\J7 w w':=by
 obtain ⟨h,φ,L,Ba,z,cy,ns,bs,S,rfl,d,X,N⟩:=Y;obtain ⟨V,M⟩:∃V,V=w:=⟨_,rfl⟩;have l:=ae (fun w1 (hf:J7 w w1)=>d.Qb hf);have U:=ae (fun w1 (hf:J7 w.drew w1)=>(show w1.cell? ⟨h.b,10,none⟩=some z/\True from ⟨ay.cell (l.out w1 (((Kb (fun _=>False) w).drew).trans hf J8)).Qd 10 rfl,trivial⟩));have i:=ae (fun w1 (hf:J7 w.drew w1)=>sa (l.out w1 (((Kb (fun _=>False) w).drew).trans hf J8)).Yd);have m:=ae (fun w1 (hf:J7 w.drew w1)=>mS (l.out w1 (((Kb (fun _=>False) w).drew).trans hf J8)).Yd);generalize Ba+u=Tp at i;have o:=ae (fun w1 w2 (hf:J7 w.drew w1) (hg:J7 w1.drew w2)=>(show J7 w w2/\w2.cell? ⟨h.b,7,none⟩=some (.float .f64 c.Xb)/\w2.cell? ⟨h.b,3,none⟩=some (.int .i64 (c.Wd:Int))/\True from by
  have Q:=((((Kb (fun _=>False) w).drew).trans hf J8).drew).trans hg J8;exact ⟨Q,ay.cell (l.out w2 Q).Qd 7 rfl,ay.cell (l.out w2 Q).Qd 3 rfl,trivial⟩))
 clear d X N l M;generalize h.b=b at*
 go_enter func23,ntmps23
 go_wp2;refine eY 13 (fun a E=>J7 a E) [.c b,.c b,.c (.pointer (some ⟨b,10,none⟩)),.c z,.c (Tp:Int),.c b,.c b,.c (.pointer (some ⟨b,10,none⟩)),.c z,.c (Ba:Int),.c (.int .i64 (IntKind.i64.wrap ((Tp:Int)-(Ba:Int)))),.p (fun v _=>∃r,v= .float .f64 r),.p (fun v _=>∃r,v= .float .f64 r)] (fun j=>false) (by kernel_rfl) (fun _=>Kb _ _) (fun _ _ _ J K=>J.trans K J8) (fun _ _ h=>h.size) ⟨fun _ _ _ h _=>h,fun _ _ _ h _=>h,trivial⟩ ?_;intro F g;simp only [il,PK.val,Kc,aa] at g;subst g;refine ⟨by
  refine ⟨?_,?_,?_,?_,?_,?_,?_,?_,?_,?_,?_,?_,?_,trivial⟩<;>intro vs w1 d R C y
  all_goals try (apply oV;rotate_left;rfl;exact Kb _ _;go_simp;done)
  all_goals try (apply oV;rotate_left;rfl;exact Kb _ _;have ad:=(U.out w1 d).1;go_simp;done)
  ·refine bh 59 #[z] (by go_simp) ((i.out w1 d).mono ?_);rintro e w5 ⟨rfl,rfl⟩;exact ⟨_,rfl,rfl,Kb _ _,fun h=>nomatch h⟩
  ·refine bh 60 #[z] (by go_simp) ((m.out w1 d).mono ?_);rintro e w5 ⟨rfl,rfl⟩;exact ⟨_,rfl,rfl,Kb _ _,fun h=>nomatch h⟩
  ·refine aJ (.float .f64 (floatOfInt .f64 (IntKind.i64.wrap ((Tp:Int)-(Ba:Int))))) (by go_simp) ⟨⟨_,rfl⟩,Kb _ _,fun h=>nomatch h⟩
  ·have q:=C 11 (by kernel_rfl);obtain ⟨r,q⟩:=q;refine aJ (.float .f64 r) (by go_simp) ⟨⟨_,rfl⟩,Kb _ _,fun h=>nomatch h⟩
  ,fun vs w1 d hp y=> ?_⟩
 obtain ⟨G,k,_⟩:=hp;obtain ⟨F,g⟩:=k;simp only [g];clear G y g;simp only [an,aB];have f:=ae (fun w2 hg=>o.out w1 w2 d hg);clear U i m o d;go_wp2;refine eY 15 (fun a E=>J7 a E) [.c (.float .f64 F),.c b,.c b,.c b,.c (.pointer (some ⟨b,7,none⟩)),.c (.float .f64 c.Xb),.c b,.c b,.c b,.c (.pointer (some ⟨b,3,none⟩)),.c (.int .i64 (c.Wd:Int)),.c (.float .f64 (floatOfInt .f64 (c.Wd:Int))),.p (fun v _=>∃r,v= .float .f64 r),.p (fun v _=>∃B,v= .bool B),.p (fun v _=>∃B,v= .bool B)] (fun j=>false) (by kernel_rfl) (fun _=>Kb _ _) (fun _ _ _ J K=>J.trans K J8) (fun _ _ h=>h.size) ⟨fun _ _ _ h _=>h,fun _ _ _ h _=>h,fun _ _ _ h _=>h,trivial⟩ ?_;intro F g;simp only [il,PK.val,Kc,aa] at g;subst g;refine ⟨by
  refine ⟨?_,?_,?_,?_,?_,?_,?_,?_,?_,?_,?_,?_,?_,?_,?_,trivial⟩<;>intro vs w1 d R C y
  all_goals try (apply oV;rotate_left;rfl;exact Kb _ _;go_simp;done)
  all_goals try (apply oV;rotate_left;rfl;exact Kb _ _;have k7:=(f.out w1 d).2.1;go_simp;done)
  all_goals try (apply oV;rotate_left;rfl;exact Kb _ _;have k3:=(f.out w1 d).2.2.1;go_simp;done)
  ·obtain ⟨r,w5,Z,O⟩:=C7 (P:=prog) 22 c.Xb (floatOfInt .f64 (c.Wd:Int)) w1;refine aJ (.float .f64 r) (w':=w5) (by go_simp) ⟨⟨_,rfl⟩,O,fun h=>nomatch h⟩
  ·have s:=C 12 (by kernel_rfl);obtain ⟨r,s⟩:=s;refine aJ (.bool (FloatKind.f64.format.order F r==some .gt||FloatKind.f64.format.order F r==some .eq)) (by go_simp) ⟨⟨_,rfl⟩,Kb _ _,fun h=>nomatch h⟩
  ·have t:=C 13 (by kernel_rfl);obtain ⟨r,t⟩:=t;refine aJ (.bool r) (by go_simp) ⟨⟨_,rfl⟩,Kb _ _,fun h=>nomatch h⟩
  ,fun ag w4 x hp y=> ?_⟩
 obtain ⟨k,H,I,_⟩:=hp;obtain ⟨B,W⟩:=I;simp only [W];clear k H y W;simp only [an,aB];have D:=ae (f.out w4 x).1;clear f x;go_wp2;go_ret;exact ⟨B,rfl,D.out⟩
end
def Jv(b:Nat)(c:Cf)(A:AG)(rs:List Nat)(A':AG)(rs':List Nat)(u n:Nat)(T:Nat->Prop)(s a:Nat)(w:World):Prop:=
 ∃h φ φ' L Ba ub cy ns bs S,h.b=b/\lp (fun _=>True) h c A rs φ L Ba u ub cy n ns bs S w/\(∀k,T k↔lC h ub S k)/\(n=0->cy=none)/\ce A' rs' φ' L Ba (Ba+u)/\rs'.map φ'=(rs.map φ).set s a/\rs'.length=rs.length
section
variable{b u sz n a s p f g k:Nat}{c:Cf}{A A':AG}{rs rs':List Nat}{T:Nat->Prop}{w w':World}
theorem IX.Qb(o:IX b c A rs u sz n T w a)(hf:J7 w w'):IX b c A rs u sz n T w' a:=by
 obtain ⟨h,φ,L,Ba,F,e,ns,l,S,q,r,t,v,x,z,B⟩:=o;refine ⟨h,φ,L,Ba,F,e,ns,l,S,q,r.Qb hf,t,v,x,z,?_⟩
 cases e with
 |none=>trivial
 |some y=>
  obtain ⟨m,s,d,hg,i,fr,j,Us,C,D,E⟩:=B;exact ⟨m,s,d,hg,i,fr,j,Us,C,D.stays hf (fun _ _ h=>h) id,E⟩
theorem ur{L:Nat->Nat}{a W n k:Nat}(h:k<a\/a+1+n<=k):ow L a W n k=L k:=by
 unfold ow
 grind
theorem Iv{L L':Nat->Nat}{a W n k:Nat}(d:a<=k)(e:k<a+1+n):ow L a W n k=ow L' a W n k:=by
 unfold ow
 grind
def Ib(b:Nat)(c:Cf)(A:AG)(rs:List Nat)(A':AG)(rs':List Nat)(u n:Nat)(T:Nat->Prop)(s a:Nat)(w:World)(e:Ending)(w':World):Prop:=e= .returned (0:Int)/\∃T',Jv b c A rs A' rs' u n T' s a w'/\Fr T w w'/\∀k,T' k->T k\/w.heap.size<=k
theorem F8{φ:Nat->Nat}(l:φ 0=0)(d:k≠0)(h:¬Reach A.gr rs k):(rs.set s k).map (fun y=>if y=k then a else φ y)=(rs.map φ).set s a:=by
 have i:rs.map (fun y=>if y=k then a else φ y)=rs.map φ:=dP (fun z j=>if_neg (fun (e:z=k)=>h (.root (e▸j) d)));rw [di,i,if_pos rfl]
theorem IC(ha:IX b c A rs u sz n T w a)(ax:sz=1+(p+f+g))(ho:dD p f g)(G:k≠0)(H:¬Reach A.gr rs k):∃m,w.cell? ⟨b,8,none⟩=some (.pointer (some ⟨m,0,none⟩))/\Calls prog 21 #[.iface 52 (.pointer (some ⟨m,0,none⟩)),(a:Int),ft p f g] w (Ib b c A rs (A.new k p f g) (rs.set s k) (u+sz) n T s a w):=by
 obtain ⟨h,φ,L,Ba,X,cy,ns,bs,S,rfl,j,Z,aj,R,rfl,al⟩:=ha;refine ⟨h.m,ay.cell j.Qd 8 rfl,?_⟩;have ar:=j.half.le;have az:=j.half.top;have av:=j.Qw.Qp;have J:=j.half.mod j.Qw;have an:=j.fits;obtain ⟨aq,_⟩:=j.Qw.W5;have t:=R.new (n:=k) (p:=p) (f:=f) (g:=g) (s:=s) (a:=Ba+u) (hi':=Ba+(u+sz)) G H (by omega) (ag _) (by omega) ho;have r:=F8 (s:=s) (a:=Ba+u) (rs:=rs) R.zero G H;have D:∀k,S k->T k:=fun k d=>(Z k).2 (.inl d)
 cases cy with
 |none=>
  obtain ⟨am,Us,Hg,mp,U,K⟩:=id j.mem;refine (vE (cD _ _ _ _ _ _ _) (bR _ _ _ _ _ _ _) (rB _ _ _ _ _ _ _) U (Ba+u) p f g (by omega) (by omega) ho (fun k o i=>rA K J (show Ba+(u+sz)<=c.W by omega) k (by omega) (by omega))).mono ?_;rintro e w' ⟨rfl,S',g1,B,Q⟩;have l:ce A rs φ (ow L (Ba+u) (lj p f g) (p+f+g)) Ba (Ba+(u+sz)):=(R.congr (fun k o i=>ur (.inl i))).wide (by omega);exact ⟨rfl,lC h X S',⟨h,φ,_,ow L (Ba+u) (lj p f g) (p+f+g),Ba,X,none,ns,bs,S',rfl,j.turn B Q ⟨am,Us,Hg,mp,g1,K⟩ l,fun k=>dO,fun _=>rfl,t,r,aW⟩,B.mono (fun k d=> .inl (D k d)),fun k d=>(lC.sub Q k d).imp (Z k).2 id⟩
 |some y=>
  obtain ⟨P,st,E,hg,Mv,fr,ah,Us,V,⟨Hg,Sm,mp,M,fw,kk,p1,p2,p3,p4,p5⟩,r1,r2,r3,r4,r5,r6,r7,r8,I⟩:=al;have d:=j.mem.1;have U:=p1.mem;rw [r2,r4,r6] at U;have N:=V.Yt;have ak:∀k,Ba+u<=k->k<Ba+(u+sz)->cX c.W c.Pg mp k:=fun k o i=>by
   have:=(p2.Xi V.ok N (x:=k) (by omega) i).2;rw [r4] at this;exact ⟨by omega,this⟩
  refine (vE (cD _ _ _ _ _ _ _) (bR _ _ _ _ _ _ _) (rB _ _ _ _ _ _ _) (L:=M) (show dJ h.m c.Pg c.W c.Fs Us Hg mp M Sm w from ⟨M,U,fun _ _=>rfl⟩) (Ba+u) p f g (by omega) (by omega) ho (fun k o i=>ak k (by omega) (by omega))).mono ?_;rintro e w' ⟨rfl,v,⟨O,g1,gM⟩,B,Q⟩;have F:Fr S w w':=B.mono (fun k d=> .inl ((p5 k).2 (.inl d)));have hs:∀k,(v k\/P.has k)->S k\/w.heap.size<=k:=fun k d=>by
   grind
  obtain ⟨q,ao⟩:∃q:Nat->Nat,q=fun k=>if Ba+u<=k then O k else L k:=⟨_,rfl⟩
  have C:∀k,k<Ba+u->q k=L k:=fun k d=>by grind
  have Y:∀k,Ba+u<=k->q k=O k:=fun k d=>by grind
  have ap:∀k,k<c.W->mp (k/c.Pg)=true->O k=ow M (Ba+u) (lj p f g) (p+f+g) k:=fun k o i=>gM k ⟨o,i⟩
  have ad:sM P st E hg c.Fs (Ba+(u+sz)) Mv n fr ah Us q (fun k=>v k\/P.has k) w':=by
   refine ⟨Hg,v,mp,O,fw,kk,p1.mem_ (by grind) B Q,?_,p3,p4,fun k=>dO⟩;refine p2.put V.ok (lo:=Ba+u) I (by omega) (ag _) N p2.Qx C (fun k o i h3=> ?_) (fun k o i=>(Y k o).symm) p2.Rm
   grind [ur]
  have l:ce A rs φ q Ba (Ba+(u+sz)):=(R.congr (fun k o i=>C k i)).wide (by omega);have z:=t.congr (L':=q) (fun k o i=>by
   grind [ur,Iv])
  exact ⟨rfl,lC h X _,⟨h,φ,_,q,Ba,X,some y,ns,bs,_,rfl,j.turn F hs ⟨d,P,st,E,hg,Mv,fr,ah,V,⟨Us,trivial,ad⟩,r1,r2,r3,r4,r5,r6,r7,r8⟩ l,fun k=>dO,aj,z,r,aW⟩,F.mono (fun k d=> .inl (D k d)),fun k d=>(lC.sub hs k d).imp (Z k).2 id⟩
theorem IB(C:Jv b c A rs A' rs' u n T s a w)(E:s<c.Sl):∃v,w.cell? ⟨b,9,none⟩=some (.pointer (some ⟨v,0,none⟩))/\Calls prog 22 #[.pointer (some ⟨v,0,none⟩),(s:Int),(a:Int)] w fun e w'=>e= .returned (0:Int)/\eF b c A' rs' u n T w'/\Fr T w w':=by
 obtain ⟨h,φ,G,L,Ba,F,y,ns,x,S,rfl,i,r,m,D,l,j⟩:=C;refine ⟨h.rb,ay.cell i.Qd 9 rfl,(C8 i.roots s a (by rw [cQ,i.Sl];exact E)).mono ?_⟩;rintro e w' ⟨rfl,t,hf⟩;rw [<-l] at t;have d:=i.d;obtain ⟨H,z,I,J,B,K,q,M,N⟩:=id i.e;exact ⟨rfl,⟨h,G,L,Ba,F,y,ns,x,S,rfl,⟨i.Qw,ay.frame i.Qd hf z,t,ay.frame i.Yd hf (Ne.symm B),aE i.Qo hf (Ne.symm q),D,by rw [j];exact i.Sl,i.fits,i.half,i.mem.stays hf (fun k o=>(d k o).2.2.1) (Ne.symm q),d,i.e⟩,r,m⟩,hf.mono (fun k o=> .inl ((r k).2 (.inr (.inr (.inr (.inl o))))))⟩
end
end Go.Proofs.YtgnoapadkncphaaGreatDoor
