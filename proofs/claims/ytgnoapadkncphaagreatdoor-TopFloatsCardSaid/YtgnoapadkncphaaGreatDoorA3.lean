import Derived.Test.YtgnoapadkncphaaGreatDoorA0
import Derived.Test.YtgnoapadkncphaaGreatDoorA1
import Derived.Test.YtgnoapadkncphaaGreatDoorA2
import Derived.Laws.BitsAllLaws
import Derived.Laws.BitsLemmas
import Derived.Recover
import Derived.Shelf.Abstract
import Derived.Maps.AppendAt
import Derived.Test.YtgnoapadkncphaaGreatDoorShelf
set_option maxRecDepth 100000
set_option maxHeartbeats 8000000
set_option linter.all false
namespace Go.Proofs.YtgnoapadkncphaaGreatDoor
open Go.RowKit Go.Proofs.Tryz
def fq(mp:Nat->Bool)(q:Nat):Bool:= !mp q
def oS(w:World)(m:Nat)(S:Nat->Prop)(Pg W Rm Us:Nat)(mp:Nat->Bool)(M:Nat->Nat)(A p:Nat)(wr:World):Prop:=
 ∃S1 Qi mp1 M1 v l,dQ wr m S1 Pg W Rm (Us+Qc (fq mp) A p) Qi mp1 M1/\(∀q,mp1 q=(mp q||(decide (A<=q)&&decide (q<p))))/\(∀a,a<W->mp (a/Pg)=true->M1 a=M a)/\Fr S w wr/\(∀k,S1 k->S k\/w.heap.size<=k)/\
  ay wr (w.heap.size+1) [v] 65/\wr.ownsRow 0 3 1 v l.length l/\l.length<=p-A/\ay wr w.heap.size [m] 52/\¬S1 (w.heap.size+1)/\¬S1 w.heap.size/\∀k,v.ownBlock=some k->¬S1 k/\w.heap.size+2<=k
section
variable{w:World}{m Pg W Rm Us Hg:Nat}{S:Nat->Prop}{mp:Nat->Bool}{M:Nat->Nat}
theorem pQ{A p:Nat}(h:A<=p):Qc (fq mp) A (p+1)=Qc (fq mp) A p+(if mp p then 0 else 1):=by
 grind [bJ,fq]
theorem oS.is{A p:Nat}{wr w2:World}(h:oS w m S Pg W Rm Us mp M A p wr)(g:A<=p)(hp:mp p=true)(hf:J7 wr w2):oS w m S Pg W Rm Us mp M A (p+1) w2:=by
 obtain ⟨f,Qi,a,e,v,l,i,j,k,n,o,r,s,u,t,b,c,d⟩:=h;refine ⟨f,Qi,a,e,v,l,by rw [pQ g,if_pos hp];exact i.Qb hf,fun q=> ?_,k,n.trans hf J8,o,r.frame hf id,aF s hf (fun _ _ h=>h),by omega,t.frame hf id,b,c,d⟩;rw [j]
 grind
theorem oS.more{A p g cap:Nat}{wr w2 w3 w4:World}{f S2:Nat->Prop}{Qi high2:Nat}{d mp2:Nat->Bool}{F M2:Nat->Nat}{v:Value}{l:List Value}(L:A<=p)(hp:mp p=false)
  (V:∀q,d q=(mp q||(decide (A<=q)&&decide (q<p)))) (q3:∀a,a<W->mp (a/Pg)=true->F a=M a) (G:Fr S w wr) (X:∀k,f k->S k\/w.heap.size<=k)
  (H:ay wr (w.heap.size+1) [v] 65) (Y:wr.ownsRow 0 3 1 v l.length l) (q8:l.length<=p-A) (I:ay wr w.heap.size [m] 52) (B:¬f (w.heap.size+1)) (C:¬f w.heap.size) (U:∀k,v.ownBlock=some k->¬f k/\w.heap.size+2<=k)
  (J:dQ w2 m S2 Pg W Rm (Us+Qc (fq mp) A p+1) high2 mp2 M2) (rm:∀q,mp2 q=(d q||q==p)) (r2:∀a,a<W->d (a/Pg)=true->mp2 (a/Pg)=true->M2 a=F a) (x:Fr f wr w2) (Z:∀k,S2 k->f k\/wr.heap.size<=k)
  (o:J7 w2 w3) (ho:w4.ownsRow 0 3 1 (.slice (some g) (l.length+1) cap) (l.length+1) (l++[.int .i64 p])) (t:Fr (fun k=>v.ownBlock=some k) w3 w4) (hg:v.ownBlock=some g\/w3.heap.size<=g):
  (∃u,w4.cell? ⟨w.heap.size+1,0,none⟩=some u)/\w4.frozen? ⟨w.heap.size+1,0,none⟩=false/\∀W5,W5=w4.setCell ⟨w.heap.size+1,0,none⟩ (.slice (some g) (l.length+1) cap)->oS w m S Pg W Rm Us mp M A (p+1) W5:=by
 have R:=G.size;have Q:=x.size;have T:=o.size;have l6:=H.lt;have l9:=I.lt;have b:ay w4 (w.heap.size+1) [v] 65:=((H.frame x B).frame o id).frame t (fun e=>by grind);refine ⟨⟨v,b.cell 0 rfl⟩,b.free 0,?_⟩;rintro W5 rfl;have c:Fr (fun k=>k=w.heap.size+1) w4 (w4.setCell ⟨w.heap.size+1,0,none⟩ (.slice (some g) (l.length+1) cap)):=(Kb (fun k=>k=w.heap.size+1) w4).setCell ⟨w.heap.size+1,0,none⟩ (.inl rfl) _;have r:¬S2 (w.heap.size+1):=fun h=>by grind
 have D:¬S2 w.heap.size:=fun h=>by grind
 have E:∀k,v.ownBlock=some k->¬S2 k:=fun k j h=>by
  rcases Z _ h with h|h
  ·grind
  ·have:=(Y.lt k j).2;omega
 have N:¬S2 g/\w.heap.size+2<=g:=by
  rcases hg with hg|hg
  ·grind
  ·refine ⟨fun h=> ?_,by omega⟩;obtain ⟨p',vw,vt,vb,ws,tk,bk,Tm,g',gt,ts,fr,n,K,s,z,_,_,_,_,_,_,y⟩:=J;have P:g<w2.heap.size:=by
    rcases (y g).1 h with h|(h|h|h|h)|(h|h|h)
    ·rw [h];exact K.lt
    ·rw [h];exact s.Qd.lt
    ·exact (s.rw.lt g h).2
    ·exact (s.rt.lt g h).2
    ·exact (s.rb.lt g h).2
    ·rw [h];exact z.Qd.lt
    ·rw [h];exact z.row.lt
    ·obtain ⟨i,O⟩:=bc.1 h;exact (z.Qo i g O).lt
   omega
 refine ⟨S2,high2,mp2,M2,.slice (some g) (l.length+1) cap,l++[.int .i64 p],?_,?_,?_,?_,?_,b.set 0 _,?_,?_,?_,r,D,?_⟩
 ·rw [pQ L,hp];exact ((J.Qb o).frame t (fun k j e=>E k e j)).frame c (fun k j e=>r (by grind))
 ·intro q;rw [rm,V]
  grind
 ·grind
 ·exact ((((G.trans x X).trans o J8).trans t (fun k j=> .inr (by grind))).trans c (fun k j=> .inr (by omega)))
 ·grind
 ·grind [aF,Value.ownBlock]
 ·grind
 ·exact (((I.frame x C).frame o id).frame t (fun e=>by grind)).frame c (by omega)
 grind [Value.ownBlock]
def xd(w:World)(m:Nat)(S:Nat->Prop)(Pg W Rm Us:Nat)(mp:Nat->Bool)(M:Nat->Nat)(A B:Nat)(e:Ending)(w':World):Prop:=
 e= .returned (0:Int)/\∃S' Hg' mp' M',dQ w' m S' Pg W Rm (Us+Qc (fq mp) A (B+1)) Hg' mp' M'/\(∀q,mp' q=(mp q||(decide (A<=q)&&decide (q<=B))))/\(∀a,a<W->mp (a/Pg)=true->M' a=M a)/\Fr S w w'/\∀k,S' k->S k\/w.heap.size<=k
theorem ot(h:dQ w m S Pg W Rm Us Hg mp M)(a u:Nat)(aC:a<u)(hu:u<=W)(j:Us+Qc (fq mp) (a/Pg) ((u-1)/Pg+1)<=Rm):Calls prog 98 #[m,(a:Int),(u:Int)] w (xd w m S Pg W Rm Us mp M (a/Pg) ((u-1)/Pg)):=by
 obtain ⟨i0,hi,aq,ar,av⟩:=info_parts jE;obtain ⟨p1,p2,hW,ao,aP,aO,Y⟩:=h.at;clear Y;have f:J7 w ((w.alloc (.cells #[m] 52)).alloc (.cells #[.slice none 0 0] 65)):=((Kb _ w).alloc _).alloc _;have b:J7 w (w.alloc (.cells #[m] 52)):=(Kb _ w).alloc _;have hS:∀k,S k->k<w.heap.size:=fun k hk=>by
  obtain ⟨p',vw,vt,vb,ws,tk,bk,Tm,g',gt,ts,fr,n,b1,T,b3,_,_,_,_,_,_,al⟩:=id h;rcases (al k).1 hk with h|(h|h|h|h)|(h|h|h)
  ·rw [h];exact b1.lt
  ·rw [h];exact T.Qd.lt
  ·exact (T.rw.lt k h).2
  ·exact (T.rt.lt k h).2
  ·exact (T.rb.lt k h).2
  ·rw [h];exact b3.Qd.lt
  ·rw [h];exact b3.row.lt
  ·obtain ⟨i,hi⟩:=bc.1 h;exact (b3.Qo i k hi).lt
 obtain ⟨A,U⟩:∃A,a/Pg=A:=⟨_,rfl⟩;obtain ⟨B,F⟩:∃B,(u-1)/Pg=B:=⟨_,rfl⟩;have az:A<=B:=by rw [<-U,<-F];exact aS (by omega)
 have aA:B<W/Pg:=by rw [<-F];exact jq (by omega) p1 ao
 have aB:W/Pg<=W:=aX _ _;rw [U,F] at j;rw [U,F];have HN:=ae (fL (h.Qb b));have c2:(w.alloc (.cells #[m] 52)).cell? ⟨m,2,none⟩=_:=(let ⟨_,_,_,_,_,_,_,_,_,_,_,q,_⟩:=(h.Qb b).Qr;q);obtain ⟨p,g,vw,vt,vb,ws,tk,bk,Tm,k0,k1,k2,hp⟩:=(h.Qb f).Qr;have Q:=ae (pI hp);have y:ay ((w.alloc (.cells #[m] 52)).alloc (.cells #[.slice none 0 0] 65)) w.heap.size [m] 52:=(ay.new w _ _).alloc _;have X:ay ((w.alloc (.cells #[m] 52)).alloc (.cells #[.slice none 0 0] 65)) (w.heap.size+1) [.slice none 0 0] 65:=by
  have:=ay.new (w.alloc (.cells #[m] 52)) [.slice none 0 0] 65;rwa [World.size_alloc] at this
 have k3:=y.cell 0 rfl;have V:oS w m S Pg W Rm Us mp M A A ((w.alloc (.cells #[m] 52)).alloc (.cells #[.slice none 0 0] 65)):=
  ⟨S,Hg,mp,M,.slice none 0 0,[],by rw [eL _ (ag A)];exact h.Qb f,fun q=>by
   have:(decide (A<=q)&&decide (q<A))=false:=by rw [bt];simp only [ne_eq,ak,decide_eq_true_eq];omega
   rw [this,fN],fun _ _ _=>rfl,f.mono J8,fun _ h=> .inl h,X,World.ownsRow_nil _ _ _ _,by simp,y,fun h=>by have:=hS _ h;omega,fun h=>by have:=hS _ h;omega,fun k hk=>by simp [Value.ownBlock] at hk⟩
 have N:=ae V;have q1:(a:Int).tdiv (Pg:Int)=(A:Int):=by rw [fF,U]
 have q2:((u:Int)-1).tdiv (Pg:Int)=(B:Int):=by rw [show (u:Int)-1=((u-1:Nat):Int) by omega,fF,F]
 have aG:¬Pg=0:=by omega
 have b1:(a:Int)<(u:Int):=by omega
 have T:(u:Int)<=(W:Int):=by omega
 have b3:(W:Int)<=524288:=by omega
 have b4:(B:Int)<=524288:=by omega
 have b5:(A:Int)<=524288:=by omega
 have HR:=ae j;have ax:=ae f;clear h hS U F hp V y X j f b
 go_enter func98,ntmps98
 go_wp2_with fail
 refine HN.out.mono ?_;rintro e w' ⟨rfl,rfl⟩;go_wp2_with fail
 refine Q.out.mono ?_;rintro e w' ⟨rfl,rfl⟩;generalize an:(w.alloc (.cells #[m] 52)).alloc (.cells #[.slice none 0 0] 65)=W0 at*;clear an k0 k1 k2 k3 c2 HN Q;go_wp2
 go_loopw [10] (fun k wr=>∃q:Nat,k= .int .i64 q/\A<=q/\q<=B+1/\Hid (oS w m S Pg W Rm Us mp M A q wr)) (fun k _=>(B+1-intOf k).toNat)
 case atStart=>exact ⟨A,by go_num,ag A,by omega,N.out⟩
 case round=>
  clear N;obtain ⟨q,rfl,z,aI,j⟩:=hrel;by_cases aN:q<=B
  ·have c1:(q:Int)<=(B:Int):=by omega
   cases hmq:mp q with
   |true=>
    obtain ⟨S1,Qi,C,M1,v,l,D,x,H,I,J,r6,r7,r8,K,o,s,r⟩:=j.out;have d:=ae (Gf D q (by omega) (by rw [x,hmq];rfl));have P:=ae (fun w2 hf=>oS.is (w2:=w2) j.out z hmq hf);have k3:=K.cell 0 rfl;clear D x H I J r6 r7 r8 K o s r j;go_wp2_with fail
    refine d.out.mono ?_;rintro e w2 ⟨rfl,Z⟩;have aj:=ae (P.out w2 Z);clear Z P d k3;go_wp2;go_roundw
    case rel=>exact ⟨q+1,by go_num,by omega,by omega,aj.out⟩
    case measure=>simp [intOf];omega
   |false=>
    obtain ⟨S1,Qi,C,M1,v,l,D,x,H,I,J,r6,r7,r8,K,o,s,r⟩:=j.out;have ad:Us+Qc (fq mp) A q<Rm:=by
     have h1:=pQ (mp:=mp) z;rw [hmq] at h1;have h2:=it (fq mp) (a:=A) (show q+1<=B+1 by omega);have h3:=HR.out;simp only [dF,if_false] at h1;omega
    have d:=ae (Ge D q (by omega) (by
     rw [x,hmq,gF,bt];simp only [ne_eq,ak,decide_eq_true_eq];omega) ad)
    have k3:=K.cell 0 rfl;have c:=ae (fun w2 w3 w4 S2 high2 mp2 M2 g cap a1 am a2 R a4 f1 G E hg=>oS.more (w:=w) (m:=m) (S:=S) (M:=M) (wr:=wr) (w2:=w2) (w3:=w3) (w4:=w4) (S2:=S2) (high2:=high2) (mp2:=mp2) (M2:=M2) (g:=g) (cap:=cap) (Qi:=Qi) (Rm:=Rm) (Us:=Us) z hmq x H I J r6 r7 r8 K o s r a1 am a2 R a4 f1 G E hg);have L:=ae (fun w2 (ah:Fr S1 wr w2)=>(af ((r6.frame ah o).cell 0 rfl) (aF r7 ah (fun k hk h=>(r k hk).1 h))));have aH:l.length<=524289:=by omega
    clear D x H I J r6 r7 r8 K o s r j ad;go_wp2_with fail
    refine d.out.mono ?_;rintro e w2 ⟨rfl,S2,high2,M2,a1,a2,R,a4⟩;obtain ⟨kx,t⟩:=L.out w2 R;have O:=ae (fun w3 w4 g cap f1 G E hg=>c.out w2 w3 w4 S2 high2 _ M2 g cap a1 (fun _=>rfl) a2 R a4 f1 G E hg);clear a1 a2 R a4 c L d k3;go_wp2_with (at_builtin;refine Hid.out ?_)
    unfold Hid;have b:J7 w2 (w2.alloc (.cells #[(q:Int)] 3)):=(Kb _ w2).alloc _;refine eJ rfl _ _ 65 rfl 3 i0 (.int .i64 0) 8 underlying65 hi aq ar av rfl v l.length l rfl (aF t b (fun _ _ h=>h)) ⟨w2.heap.size,0,none⟩ _ (.int .i64 q) rfl ((ay.new w2 [(q:Int)] 3).cell 0 rfl) rfl (by unfold maxLen;omega) (by omega) ?_;intro g cap w4 G E hg;obtain ⟨⟨uu,s1⟩,s2,s3⟩:=O.out _ w4 g cap b G E hg;have HS:=ae s3;clear b G E hg s3 O t kx;go_wp2;go_roundw
    case rel=>exact ⟨q+1,by go_num,by omega,by omega,HS.out _ rfl⟩
    case measure=>simp [intOf];omega
  ·have ap:q=B+1:=by omega
   subst ap;have c1:¬((B+1:Nat):Int)<=(B:Int):=by omega
   have HE:=ae j.out;clear j;go_wp2;go_ret;obtain ⟨S1,Qi,C,M1,v,l,D,x,H,I,J,_⟩:=HE.out;exact ⟨rfl,S1,Qi,C,M1,D,fun k=>by rw [x];congr 2;rw [decide_eq_decide];omega,H,I,J⟩
end
theorem Eu(Rm Pg:Nat)(n:1<=Rm)(d:Rm<=4096)(hp:bV (Pg:Int)=true)(f:1<=Pg)(g:Pg<=256)(w:World):Calls prog 91 #[(Rm:Int),(Pg:Int)] w fun e w'=>∃p,e= .returned (.tuple #[.pointer (some ⟨p,0,none⟩),(0:Int)])/\dl w' p (.slice none 0 0) (.slice none 0 0) (.slice none 0 0) [] [] [] Rm Pg 0 0 0/\w.heap.size<=p/\J7 w w':=by
 have c:=ae (jU (Pg:Int) (by omega) true hp);have a:∀W,W=w.alloc (.cells #[.slice none 0 0,.slice none 0 0,.slice none 0 0,(Rm:Int),(Pg:Int),(0:Int),(0:Int),(0:Int)] 211)->dl W w.heap.size (.slice none 0 0) (.slice none 0 0) (.slice none 0 0) [] [] [] Rm Pg 0 0 0/\J7 w W:=by
  rintro W rfl;exact ⟨⟨ay.new w _ _,World.ownsRow_nil _ _ _ _,World.ownsRow_nil _ _ _ _,World.ownsRow_nil _ _ _ _,by simp,by simp,by simp,by simp,by simp,by simp,d,f,g,by omega⟩,(Kb _ w).alloc _⟩
 have b:=ae a;have h:(1:Int)<=(Rm:Int):=by omega
 have i:(Rm:Int)<=4096:=by omega
 have j:(Pg:Int)<=256:=by omega
 have k:decide ((4096:Int)<(Rm:Int))=false:=decide_eq_false (by omega);have l:decide ((256:Int)<(Pg:Int))=false:=decide_eq_false (by omega);have m:decide ((Rm:Int)<1)=false:=decide_eq_false (by omega);clear hp a
 go_enter func91,ntmps91
 go_wp2_with fail
 refine (c.out _).mono ?_;rintro e w' ⟨rfl,rfl⟩;go_wp2;go_ret2;exact ⟨_,rfl,(b.out _ rfl).1,ag _,(b.out _ rfl).2⟩
theorem Gd(W Pg Rm:Nat)(R:1<=Rm)(T:Rm<=4096)(hp:bV (Pg:Int)=true)(U:1<=Pg)(V:Pg<=256)(E:Pg<=W)(F:W<=524288)(o:W% Pg=0)(w:World):Calls prog 46 #[(W:Int),(Pg:Int),(Rm:Int)] w fun e w'=>∃m S,e= .returned (.tuple #[.pointer (some ⟨m,0,none⟩),(0:Int)])/\dQ w' m S Pg W Rm 0 0 (fun _=>false) (fun _=>0)/\(∀k,S k->w.heap.size<=k)/\J7 w w':=by
 have M:=ae (fun w=>Eu Rm Pg R T hp U V w);have u:1<=W/Pg:=Nat.div_pos E (by omega);have v:W/Pg<=W:=aX _ _;have D:=ae (fun w=>Dq (W/Pg) u (by omega) w);have d:∀w1 w2 w3 p g c l n W5,w2=w1.alloc (.cells #[.pointer (some ⟨p,0,none⟩),.pointer none,(W:Int)] 146)->dl w1 p (.slice none 0 0) (.slice none 0 0) (.slice none 0 0) [] [] [] Rm Pg 0 0 0->w.heap.size<=p->J7 w w1->bW w3 g c l (W/Pg) (fun _=>0) n->(∀k,bQ g c l k->w2.heap.size<=k)->J7 w2 w3->
   (w3.cell? ⟨w1.heap.size,1,none⟩=some (.pointer none)/\w3.frozen? ⟨w1.heap.size,1,none⟩=false)/\(W5=w3.setCell ⟨w1.heap.size,1,none⟩ (.pointer (some ⟨g,0,none⟩))->∃S,dQ W5 w1.heap.size S Pg W Rm 0 0 (fun _=>false) (fun _=>0)/\(∀k,S k->w.heap.size<=k)/\J7 w W5):=by
  rintro w1 w2 w3 p g c l n W5 rfl H Z y A I r;have ad:=y.size;have b:ay w3 w1.heap.size [p,.pointer none,(W:Int)] 146:=(ay.new w1 _ _).frame r id;refine ⟨⟨b.cell 1 rfl,b.free 1⟩,?_⟩;rintro rfl;have s:Fr (fun k=>k=w1.heap.size) w3 (w3.setCell ⟨w1.heap.size,1,none⟩ (.pointer (some ⟨g,0,none⟩))):=(Kb (fun k=>k=w1.heap.size) w3).setCell ⟨w1.heap.size,1,none⟩ (.inl rfl) _;have z:J7 w1 (w1.alloc (.cells #[p,.pointer none,(W:Int)] 146)):=(Kb _ w1).alloc _;have j:=((H.frame z (fun _ _ h=>h)).frame r (fun _ _ h=>h));refine ⟨fun k=>k=w1.heap.size\/dK p (.slice none 0 0) (.slice none 0 0) (.slice none 0 0) k\/bQ g c l k,⟨p,_,_,_,[],[],[],0,g,c,l,fun _=>0,n,b.set 1 _,j.frame s (fun k G e=>lN j b (by rw [<-e];exact G)),A.frame s (fun k G e=>mJ A b (by rw [<-e];exact G)),⟨o,F,by omega⟩,(fun q f h=>by cases h),fun q q' _ h=>absurd rfl h,(bP (fun _ _ _=>rfl)).symm,fun _=>rfl,(fun a f _ h=>by cases h),fun k=>dO⟩,?_,((y.trans z J8).trans r J8).trans s (fun i hi=> .inr (by omega))⟩;rintro k (h|h|h)
  ·omega
  ·rcases h with h|h|h|h
   ·omega
   ·cases h
   ·cases h
   ·cases h
  ·have:=I k h;rw [World.size_alloc] at this;omega
 have B:=ae d;have q1:(W:Int).tdiv (Pg:Int)=((W/Pg:Nat):Int):=fF W Pg;have q2:(W:Int).tmod (Pg:Int)=((W% Pg:Nat):Int):=rfl;rw [o] at q2;obtain ⟨P,x⟩:∃P,W/Pg=P:=⟨_,rfl⟩;rw [x] at q1 D B v;have Y:¬Pg=0:=by omega
 have b1:(1:Int)<=(W:Int):=by omega
 have b2:(W:Int)<=524288:=by omega
 have b3:(P:Int)<=524288:=by omega
 clear d hp x u v o
 go_enter func46,ntmps46
 go_wp2_with fail
 refine (M.out _).mono ?_;rintro e w1 ⟨p,rfl,N,O,Q⟩;have t:=ae (af N (af O Q));clear N O Q M;go_wp2_with fail
 refine (D.out _).mono ?_;rintro e w3 ⟨g,c,l,n,rfl,J,K,L⟩;obtain ⟨⟨k1,k2⟩,_⟩:=B.out w1 _ w3 p g c l n w3 rfl t.out.1 t.out.2.1 t.out.2.2 J K L;have C:=ae (fun W5 X=>(B.out w1 _ w3 p g c l n W5 rfl t.out.1 t.out.2.1 t.out.2.2 J K L).2 X);clear J K L B D;go_wp2;go_ret2;obtain ⟨S,t1,t2,t3⟩:=C.out _ rfl;exact ⟨_,S,rfl,t1,t2,t3⟩
def dD(p f g:Int):Prop:=0<=p/\p<256/\0<=f/\f<256/\0<=g/\g<256/\p+f+g<256
instance (p f g:Int):Decidable (dD p f g):=by unfold dD;exact inferInstance
def ft(p f g:Int):Value:= .agg #[(p:Int),(f:Int),(g:Int)]
def qn(p f g:Int)(i:Nat):Int:=if i=0 then p else if i=1 then f else g
theorem BG(p f g:Int)(i:Nat)(a:i<3)(w:World):(Instr.index 101 (.agg #[(p:Int),(f:Int),(g:Int)]) (.int .i64 i)).run prog w= .ok (.int .i64 (qn p f g i)) w:=by
 obtain rfl|rfl|rfl:i=0\/i=1\/i=2:=by omega
 all_goals kernel_rfl
def nu(w:World)(n:Int)(e:Ending)(w':World):Prop:=e= .returned (n:Int)/\J7 w w'
theorem eB{w:World}{b:Nat}{t:TypeId}{v0 v1 v2:Value}(h:ay w b [v0,v1,v2] t):w.cell? b=some v0/\w.cell? ⟨b,1,none⟩=some v1/\w.cell? ⟨b,2,none⟩=some v2:=
 ⟨h.cell 0 rfl,h.cell 1 rfl,h.cell 2 rfl⟩
theorem iM(p f g:Int)(w:World):Calls prog 18 #[ft p f g] w (nu w (if dD p f g then 0 else 15)):=by
 have q:=ae (BG p f g);have y:Hid (dD p f g->∀w',J7 w w'->nu w (if dD p f g then 0 else 15) (.returned (0:Int)) w'):=fun h w' hf=>⟨by rw [if_pos h],hf⟩
 have o:Hid (¬dD p f g->∀w',J7 w w'->nu w (if dD p f g then 0 else 15) (.returned (15:Int)) w'):=fun h w' hf=>⟨by rw [if_neg h],hf⟩
 generalize (nu w (if dD p f g then 0 else 15))=Q at*;unfold ft
 go_enter func18,ntmps18
 go_upto_region 1 with fail
 have v:=ay.new w [(p:Int),(f:Int),(g:Int)] 32;have u:=(Kb (fun _=>False) w).alloc (.cells #[(p:Int),(f:Int),(g:Int)] 32);generalize w.alloc (.cells #[(p:Int),(f:Int),(g:Int)] 32)=W at*;obtain ⟨H,p1,p2⟩:=eB v;have n:=ae u;clear v u
 go_upto_region 2 with fail
 go_loopw [4,12] (fun _ l wr=>∃i:Nat,i<=3/\l= .int .i64 i/\wr=W/\∀j,j<i->0<=qn p f g j/\qn p f g j<256) (fun _ l _=>3-(intOf l).toNat)
 case atStart=>exact ⟨0,ao _,rfl,rfl,fun j h=>absurd h (gK j)⟩
 case round=>
  obtain ⟨i,C,rfl,rfl,a⟩:=hrel;by_cases d:i<3
  ·have s:=q.out i d;have c:¬(0<=qn p f g i/\qn p f g i<256)->¬dD p f g:=by
    intro h k;unfold dD at k;unfold qn at h;obtain rfl|rfl|rfl:i=0\/i=1\/i=2:=by omega
    all_goals simp at h;omega
   have m:=ae a;have b:=ae c;obtain ⟨x,t⟩:∃x,qn p f g i=x:=⟨_,rfl⟩;rw [t] at s;have r:=ae t;clear a c t;by_cases D:x<0
   ·go_wp2
    try go_ret
    exact o.out (b.out (by rw [r.out];omega)) _ n.out
   ·by_cases E:256<=x
    ·go_wp2
     try go_ret
     exact o.out (b.out (by rw [r.out];omega)) _ n.out
    ·go_wp2;go_roundw
     case rel=>exact ⟨i+1,d,by go_num,trivial,fun j F=>by
      by_cases e:j=i
      ·subst e;rw [r.out];omega
      ·exact m.out j (by omega)⟩
     case measure=>simp [intOf];omega
  ·obtain rfl:i=3:=by omega
   have z:=a 0 (by decide);have A:=a 1 (by decide);have B:=a 2 (by decide);simp only [qn,if_true,show (1:Nat)≠0 from by decide,show (2:Nat)≠0 from by decide,show (2:Nat)≠1 from by decide,if_false] at z A B;clear a d C;by_cases G:256<=p+f+g
   ·go_wp2
    try go_ret
    exact o.out (by unfold dD;omega) _ n.out
   ·go_wp2
    try go_ret
    exact y.out (by unfold dD;omega) _ n.out
def fO(p f g:Int):Int:=if dD p f g then 1+p+f+g else 0
def jn(w:World)(n:Int)(e:Ending)(w':World):Prop:=e= .returned (n:Int)/\J7 w w'
theorem iK(p f g:Int)(w:World):Calls prog 20 #[ft p f g] w (jn w (fO p f g)):=by
 have d:=ae (iM p f g);unfold ft at*;unfold nu at d;by_cases h:dD p f g
 ·have j:fO p f g=1+p+f+g:=if_pos h;rw [if_pos h] at d;rw [j];obtain ⟨m,n,o,q,r,s,t⟩:=h
  go_enter func20,ntmps20
  go_upto_region 1 with fail
  have c:=ay.new w [(p:Int),(f:Int),(g:Int)] 32;have i:=(Kb (fun _=>False) w).alloc (.cells #[(p:Int),(f:Int),(g:Int)] 32);generalize w.alloc (.cells #[(p:Int),(f:Int),(g:Int)] 32)=W at*;obtain ⟨k,p1,p2⟩:=eB c;have l:=ae c;clear j c;go_wp2_with fail
  refine (d.out _).mono ?_;rintro e w1 ⟨rfl,a⟩;obtain ⟨q0,u,v⟩:=eB (l.out.frame a id);have b:=i.trans a J8;clear k p1 p2 i a;go_wp2;go_ret;exact ⟨rfl,b⟩
 ·have j:fO p f g=0:=if_neg h;rw [if_neg h] at d;rw [j];clear h j
  go_enter func20,ntmps20
  go_upto_region 1 with fail
  have c:=ay.new w [(p:Int),(f:Int),(g:Int)] 32;have i:=(Kb (fun _=>False) w).alloc (.cells #[(p:Int),(f:Int),(g:Int)] 32);generalize w.alloc (.cells #[(p:Int),(f:Int),(g:Int)] 32)=W at*;obtain ⟨k,p1,p2⟩:=eB c;clear c;go_wp2_with fail
  refine (d.out _).mono ?_;rintro e w1 ⟨rfl,a⟩;have b:=i.trans a J8;clear k p1 p2 i a;go_wp2;go_ret;exact ⟨rfl,b⟩
def oE(p f g:Nat):Nat:=p+f*256+g*65536+165*16777216
def lj(p f g:Nat):Nat:=(4294967295-oE p f g)*4294967296+oE p f g
theorem yq{p f g:Nat}(hp:p<256)(hf:f<256)(hg:g<256):oE p f g<4294967296:=by unfold oE;omega
theorem Eg{p f g:Nat}(hp:p<256)(hf:f<256)(hg:g<256):lj p f g<18446744073709551616:=by
 have:=yq hp hf hg;unfold lj;omega
theorem zH(a b k:Nat)(c:a<2^k):a|||(b*2^k)=a+b*2^k:=by
 grind [Nat.two_pow_add_eq_or_of_lt,Nat.mul_comm]
theorem Iq{a b:Nat}(k:Nat)(e:a<2^k)(f:a+b*2^k<4294967296)(x y:Int)(c:x=(a:Int))(d:y=((b*2^k:Nat):Int)):bits .or .u32 x y=((a+b*2^k:Nat):Int):=by
 subst c;subst d;have h:=u32_or_nat a (b*2^k) (by omega) (by omega)
 grind [zH]
theorem JN{a b:Nat}(k:Nat)(e:a<2^k)(f:a+b*2^k<18446744073709551616)(x y:Int)(c:x=(a:Int))(d:y=((b*2^k:Nat):Int)):bits .or .u64 y x=((a+b*2^k:Nat):Int):=by
 subst c;subst d;have h:=u64_or_nat (b*2^k) a (by omega) (by omega)
 grind [zH]
theorem Hf(y:Nat)(a:y<4294967296):bits .xor .u32 IntKind.u32.max (y:Int)=((4294967295-y:Nat):Int):=by
 have h:=u32_xor_nat 4294967295 y (by decide) a;have e:4294967295^^^y=4294967295-y:=by
  have b:4294967295-y=2^32-(y+1):=by omega
  rw [b];apply db;intro i;rw [ek (by exact a),lm,show (4294967295:Nat)=2^32-1 by rfl,fT];by_cases d:i<32
  ·grind
  ·have c:y.testBit i=false:=er (bn a (bl (n:=2) (by decide) (by omega:32<=i)))
   grind
 rwa [e] at h
def Ho(w:World)(n:Nat)(e:Ending)(w':World):Prop:=e= .returned (.tuple #[.int .u64 n,(0:Int)])/\J7 w w'
theorem D8(p f g:Nat)(h:dD p f g)(w:World):Calls prog 55 #[ft p f g] w (Ho w (lj p f g)):=by
 have i:=ae (iM p f g);rw [if_pos h] at i;obtain ⟨x,y,z,A,B,C,D⟩:=h;unfold ft at*;unfold nu at i;have s:bits .or .u32 (p:Int) ((f:Int)*256)=((p+f*256:Nat):Int):=Iq 8 (by omega) (by omega) _ _ rfl (by simp);have t:bits .or .u32 ((p:Int)+(f:Int)*256) ((g:Int)*65536)=((p+f*256+g*65536:Nat):Int):=Iq 16 (by omega) (by omega) _ _ (by simp) (by simp);have u:bits .or .u32 ((p:Int)+(f:Int)*256+(g:Int)*65536) 2768240640=((oE p f g:Nat):Int):=Iq (b:=165) 24 (by omega) (by omega) _ _ (by simp) (by simp);have d:=yq (p:=p) (f:=f) (g:=g) (by omega) (by omega) (by omega);have v:=Hf (oE p f g) d;have j:bits .or .u64 (((4294967295-oE p f g:Nat):Int)*4294967296) (oE p f g:Int)=(lj p f g:Int):=by
  have:=JN (a:=oE p f g) (b:=4294967295-oE p f g) 32 d (by omega) _ _ rfl rfl;rw [show oE p f g+(4294967295-oE p f g)*2^32=lj p f g by unfold lj;omega] at this;rw [<-this];simp
 have m:IntKind.u64.wrap (IntKind.u64.wrap ((4294967295-oE p f g:Nat):Int)*4294967296)=((4294967295-oE p f g:Nat):Int)*4294967296:=by
  rw [IntKind.wrap_u64,IntKind.wrap_u64];omega
 rw [<-m] at j;have o:=ae j;clear j m;generalize lj p f g=V at*;generalize oE p f g=N at*
 go_enter func55,ntmps55
 go_upto_region 1 with fail
 have k:=ay.new w [(p:Int),(f:Int),(g:Int)] 32;have n:=(Kb (fun _=>False) w).alloc (.cells #[(p:Int),(f:Int),(g:Int)] 32);generalize w.alloc (.cells #[(p:Int),(f:Int),(g:Int)] 32)=W at*;obtain ⟨r,p1,p2⟩:=eB k;have q:=ae k;clear k;go_wp2_with fail
 refine (i.out _).mono ?_;rintro e w1 ⟨rfl,c⟩;obtain ⟨q0,E,F⟩:=eB (q.out.frame c id);have l:=n.trans c J8;clear r p1 p2 n c;go_wp2;go_ret2;refine ⟨?_,l⟩;rw [<-o.out];rfl
theorem zd(a:Nat)(b:a<4294967296)(x:Int)(c:x=(a:Int)):bits .and .u32 x 255=((a% 256:Nat):Int):=by
 subst c;have h:=u32_and_nat a 255 b (by decide);rwa [show a&&&255=a% 256 from bH a 8] at h
def IQ(w:World)(p f g:Nat)(e:Ending)(w':World):Prop:=e= .returned (.tuple #[ft p f g,(0:Int)])/\J7 w w'
theorem ei{P:Program}{fn:Func}{p u:Tmp}{a:TypeId}(h:fn.results= #[.cell p a,.tmp u])(tmps:Array Value)(w:World)(g:Nat)(t:TypeId)(cs:Array Value)(fr:Nat×Nat)(d:TypeDesc)
  (hp:tmps.getD p undef= .pointer (some ⟨g,0,none⟩)) (hg:w.heap[g]? =some (.cells cs t fr))
  (e:P.underlying a=some d) (b:(match d with| .struct _| .array _ _=>true|_=>false)=true) (c:(P.info? a).map (·.size)=some cs.size):
  (results fn tmps).run P w= .ok (.tuple #[.agg cs,tmps.getD u undef]) w:=by
 rw [results_cell_tmp h,hp];simp [asAddr,run_loadVar_row w g t a cs fr d hg e b c,Result.andThen]
theorem DC(p f g:Int):(#[Value.int .i64 p,(f:Int),(g:Int)]:Array Value).all (·.oneCell')=true:=
 Go.all_oneCell_toArray (cs:=[(p:Int),(f:Int),(g:Int)]) (fun v a=>by simp only [cG,bF,or_false] at a;rcases a with rfl|rfl|rfl<;>rfl)
theorem BH(p f g:Nat)(h:dD p f g)(w:World):Calls prog 131 #[.int .u64 (lj p f g:Int)] w (IQ w p f g):=by
 have A:=ae (iM p f g);rw [if_pos h] at A;obtain ⟨U,W,X,Y,Z,h6,h7⟩:=h;unfold ft at A;unfold nu at A;have I:oE p f g=p+f*256+g*65536+165*16777216:=rfl;have H:lj p f g=(4294967295-oE p f g)*4294967296+oE p f g:=rfl;have y:=yq (p:=p) (f:=f) (g:=g) (by omega) (by omega) (by omega);have o:lj p f g/4294967296=4294967295-oE p f g:=by rw [H];omega
 have S:IntKind.u32.wrap ((lj p f g:Int)/4294967296)=((4294967295-oE p f g:Nat):Int):=by
  rw [show (lj p f g:Int)/4294967296=((lj p f g/4294967296:Nat):Int) by simp,o,IntKind.wrap_u32];omega
 have M:IntKind.u32.wrap (lj p f g:Int)=(oE p f g:Int):=by rw [IntKind.wrap_u32];omega
 have O:bits .and .u32 (oE p f g:Int) 255=(p:Int):=by rw [zd _ y _ rfl];omega
 have P:bits .and .u32 ((oE p f g:Int)/256) 255=(f:Int):=by rw [zd (oE p f g/256) (by omega) _ (by simp)];omega
 have Q:bits .and .u32 ((oE p f g:Int)/65536) 255=(g:Int):=by rw [zd (oE p f g/65536) (by omega) _ (by simp)];omega
 have R:(oE p f g:Int)/16777216=165:=by omega
 have T:=Hf (oE p f g) y;have K:IntKind.u32.signed=false:=rfl;have d:Hid ((prog.info? 32).map (·.size)=some 3):=by show _=_;kernel_rfl
 have n:=ae (DC p f g);clear o;generalize lj p f g=V at*;generalize oE p f g=N at*;clear I H
 go_enter func131,ntmps131
 go_upto_region 1 with fail
 generalize j:World.alloc w _=W0;have v:ay W0 w.heap.size [(0:Int),(0:Int),(0:Int)] 32:=by rw [<-j];exact ay.new w [(0:Int),(0:Int),(0:Int)] 32
 have q:J7 w W0:=by rw [<-j];exact (Kb _ w).alloc _
 clear j
 go_upto_region 3 with (refine wpList_store_row rfl 32 _ _ rfl W0.heap.size #[(p:Int),(f:Int),(g:Int)] rfl rfl 32 _ (heap_alloc_new _ _) d.out rfl n.out ?_)
 generalize k:(World.alloc W0 _).setRow W0.heap.size _=W2;have l:ay W2 W0.heap.size [(p:Int),(f:Int),(g:Int)] 32:=by rw [<-k];exact setRow_heap _ _ _ _ _ _ (heap_alloc_new W0 _)
 have m:J7 W0 W2:=by
  rw [<-k];exact ((Kb _ W0).alloc _).trans (S':=fun i=>i=W0.heap.size) ⟨rfl,rfl,rfl,by simp,fun i _ h=>setRow_other _ _ _ _ (fun e=>h e)⟩ (fun i h=> .inr (by omega))
 clear k;have c:=v.frame m id;have r:=q.trans m J8;obtain ⟨L,p1,p2⟩:=eB l;have B:=ae l;have D:=ae c;have E:=ae r;clear v q m l c r;go_wp2_with fail
 refine (A.out _).mono ?_;rintro e w3 ⟨rfl,b⟩;have t:=B.out.frame b id;have a:=D.out.frame b id;have s:=E.out.trans b J8;clear L p1 p2 b;obtain ⟨q0,q1,q2⟩:=eB t;have z:w3.there w.heap.size 0 3:=fun i J=>by
  match i,J with
  |0,_=>exact ⟨by rw [a.cell 0 rfl];rfl,a.free 0⟩
  |1,_=>exact ⟨by rw [a.cell 1 rfl];rfl,a.free 1⟩
  |2,_=>exact ⟨by rw [a.cell 2 rfl];rfl,a.free 2⟩
 have u:ay (w3.setCells w.heap.size 0 [(p:Int),(f:Int),(g:Int)]) w.heap.size [(p:Int),(f:Int),(g:Int)] 32:=((a.set 0 _).set 1 _).set 2 _;have x:J7 w (w3.setCells w.heap.size 0 [(p:Int),(f:Int),(g:Int)]):=
  ((s.setCell w.heap.size (.inr (ag _)) _).setCell ⟨w.heap.size,1,none⟩ (.inr (ag _)) _).setCell ⟨w.heap.size,2,none⟩ (.inr (ag _)) _
 have G:=ae z;have C:=ae u;have F:=ae x;clear t a s z u x;go_wp2_with (refine wpList_store_mid rfl 32 _ _ rfl w.heap.size 0 #[(p:Int),(f:Int),(g:Int)] rfl rfl G.out d.out n.out ?_)
 refine bodyPost_ret (ei rfl _ _ _ _ _ _ _ rfl C.out underlying32 rfl d.out) rfl ?_;exact ⟨rfl,F.out⟩
def fP(p f g i:Int):Int:=if i<0\/fO p f g-1<=i then 0 else if i<p then 1 else if i<p+f then 2 else 3
theorem pG(p f g i:Int)(h:dD p f g)(w:World):Calls prog 167 #[ft p f g,(i:Int)] w (jn w (fP p f g i)):=by
 have l:=ae (iK p f g);have o:fO p f g=1+p+f+g:=if_pos h;have u:fP p f g i=if i<0\/p+f+g<=i then 0 else if i<p then 1 else if i<p+f then 2 else 3:=by
  unfold fP;rw [o,show 1+p+f+g-1=p+f+g by omega]
 rw [o] at l;rw [u];obtain ⟨F,k,G,H,I,J,L⟩:=h;clear o u;unfold ft at*;unfold jn at l;obtain ⟨K,c⟩:∃K,(if i<0\/p+f+g<=i then (0:Int) else if i<p then 1 else if i<p+f then 2 else 3)=K:=⟨_,rfl⟩;have s:=ae (show (i<0\/p+f+g<=i)->K=0 from fun h=>by rw [<-c,if_pos h]);have y:=ae (show¬(i<0\/p+f+g<=i)->i<p->K=1 from fun h j=>by rw [<-c,if_neg h,if_pos j]);have z:=ae (show¬(i<0\/p+f+g<=i)->¬i<p->i<p+f->K=2 from fun h j k=>by rw [<-c,if_neg h,if_neg j,if_pos k]);have A:=ae (show¬(i<0\/p+f+g<=i)->¬i<p->¬i<p+f->K=3 from fun h j k=>by rw [<-c,if_neg h,if_neg j,if_neg k]);rw [c];clear c;have d:Hid (∀n w',K=n->J7 w w'->jn w K (.returned (n:Int)) w'):=fun n w' e hf=>⟨by rw [e],hf⟩
 go_enter func167,ntmps167
 go_upto_region 1 with fail
 have m:=ay.new w [(p:Int),(f:Int),(g:Int)] 32;have t:=(Kb (fun _=>False) w).alloc (.cells #[(p:Int),(f:Int),(g:Int)] 32);generalize w.alloc (.cells #[(p:Int),(f:Int),(g:Int)] 32)=W at*;obtain ⟨E,p1,p2⟩:=eB m;have x:=ae m;have r:=ae t;clear m t;by_cases C:i<0
 ·go_wp2;go_ret;exact d.out 0 _ (s.out (.inl C)) r.out
 ·go_wp2_with fail
  refine (l.out _).mono ?_;rintro e w1 ⟨rfl,b⟩;obtain ⟨q0,N,O⟩:=eB (x.out.frame b id);have a:=ae (r.out.trans b J8);clear E p1 p2 b;have M:IntKind.i64.wrap (1+p+f+g-1)=p+f+g:=by rw [IntKind.wrap_i64];omega
  by_cases D:p+f+g<=i
  ·have B:decide (1+p+f+g-1<=i)=true:=by rw [decide_eq_true_eq];omega
   go_wp2;go_ret;exact d.out 0 _ (s.out (.inr D)) a.out
  ·have B:decide (1+p+f+g-1<=i)=false:=by rw [decide_eq_false_iff_not];omega
   by_cases q:i<p
   ·go_wp2;go_ret;exact d.out 1 _ (y.out (by omega) q) a.out
   ·by_cases v:i<p+f
    ·go_wp2;go_ret;exact d.out 2 _ (z.out (by omega) q v) a.out
    ·go_wp2;go_ret;exact d.out 3 _ (A.out (by omega) q v) a.out
abbrev jW:=(Nat->Nat)->(Nat->Prop)->World->Prop
def je(I:jW)(L:Nat->Nat)(S:Nat->Prop)(W W':World):Prop:=∃S':Nat->Prop,I L S' W'/\Fr S W W'/\∀k,S' k->S k\/W.heap.size<=k
def iu(I:jW):Prop:=∀L S W W' (T:Nat->Prop),I L S W->Fr T W W'->(∀k,S k->¬T k)->I L S W'
structure cY(t:TypeId)(v:Value)(fl:Nat)(r:Value)(I:jW)(dom:Nat->Prop):Prop where
 Yf:∀w,(method 418 t v "Load").run prog w= .ok (fl,r) w
 Yg:∀args w,(callFunc fl args).run prog w= .ok (.enter fl args) w
 stays:∀L S W W' (T:Nat->Prop),I L S W->Fr T W W'->(∀k,S k->¬T k)->¬T 1->I L S W'
 Xu:iu I\/∀L S W,I L S W->1<W.heap.size
 lt:∀L S W,I L S W->∀k,S k->k<W.heap.size
 load:∀L S W a,I L S W->dom a->Calls prog fl #[r,(((a:Nat):Int):Int)] W fun e W'=>e= .returned (.tuple #[.int .u64 ((L a:Nat):Int),(0:Int)])/\je I L S W W'
structure qy(t:TypeId)(v:Value)(fs:Nat)(r:Value)(I:jW)(dom:Nat->Prop):Prop where
 Xv:∀w,(method 418 t v "Store").run prog w= .ok (fs,r) w
 Xw:∀args w,(callFunc fs args).run prog w= .ok (.enter fs args) w
 store:∀L S W a x,I L S W->dom a->x<18446744073709551616->Calls prog fs #[r,(((a:Nat):Int):Int),.int .u64 ((x:Nat):Int)] W fun e W'=>e= .returned (0:Int)/\je I (eb L a x) S W W'
section
variable{t:TypeId}{v:Value}{fl fs:Nat}{r:Value}{I:jW}{dom:Nat->Prop}{L L' L'':Nat->Nat}{S:Nat->Prop}{w w1 w2:World}
theorem cY.Qb(h:cY t v fl r I dom)(a:I L S w)(hf:J7 w w1):I L S w1:=h.stays L S w w1 _ a hf (fun _ _ h=>h) id
theorem cY.Xp(h:cY t v fl r I dom){d:Nat->Nat}{S0:Nat->Prop}{w0:World}(e:I d S0 w0)(a:I L S w){T:Nat->Prop}(hf:Fr T w w1)(b:∀k,S k->¬T k)(f:∀k,T k->w0.heap.size<=k):I L S w1:=by
 rcases h.Xu with c|c
 ·exact c L S w w1 T a hf b
 ·exact h.stays L S w w1 T a hf b (fun g=>by grind)
theorem je.trans(h:je I L S w w1)(c:∀a,I L a w1->je I L' a w1 w2):je I L' S w w2:=by
 obtain ⟨a,d,b,e⟩:=h;obtain ⟨S2,f,g,l⟩:=c a d;have j:=b.size;exact ⟨S2,f,b.trans g e,fun k i=>by
  grind⟩
theorem cY.Fh(h:cY t v fl r I dom)(a:I L S w)(hf:J7 w w1):je I L S w w1:=⟨S,h.Qb a hf,hf.mono J8,fun _ h=> .inl h⟩
theorem cY.behind(h:cY t v fl r I dom)(hp:je I L S w w1)(hf:J7 w1 w2):je I L S w w2:=hp.trans (fun _ a=>h.Fh a hf)
theorem cY.Ah(h:cY t v fl r I dom)(hf:J7 w w1)(e:I L S w)(hp:je I L' S w1 w2):je I L' S w w2:=by
 obtain ⟨S2,b,c,d⟩:=hp;have f:=hf.size;exact ⟨S2,b,(hf.mono (S':=S) J8).trans c (fun _ h=> .inl h),fun k a=>(d k a).imp id (fun h=>by omega)⟩
theorem je.Qd(hp:je I L S w w1){b:Nat}{c:List Value}{a:TypeId}(d:ay w b c a)(e:¬S b):ay w1 b c a:=let ⟨_,_,f,_⟩:=hp;d.frame f e
theorem je.fr(hp:je I L S w w1):Fr S w w1:=let ⟨_,_,a,_⟩:=hp;a
def lw(L:Nat->Nat)(a p f g:Nat):Prop:=L a=lj p f g/\dD p f g
def zg(I:jW)(L:Nat->Nat)(S:Nat->Prop)(w:World)(p f g:Nat)(e:Ending)(w':World):Prop:=e= .returned (.tuple #[ft p f g,(0:Int)])/\je I L S w w'
theorem kr(l:cY t v fl r I dom)(q:I L S w)(a p f g:Nat)(ha:1<=a)(P:dom a)(N:lw L a p f g):Calls prog 80 #[.iface t v,(a:Int)] w (zg I L S w p f g):=by
 have HM:=l.Yf;have Z:=l.Yg;have y:Hid ((prog.info? 32).map (·.size)=some 3):=by show _=_;kernel_rfl
 have H:=ae (DC p f g);have R:=ae (BH p f g N.2);have G:=ae (fun w1 (hf:J7 w w1)=>l.load L S w1 a (l.Qb q hf) P);rw [N.1] at G;have z:=l.lt _ _ _ q;have j:∀w1 w2 w3 W,J7 w w1->ay w1 w.heap.size [(0:Int),(0:Int),(0:Int)] 32->je I L S w1 w2->J7 w2 w3->
   w3.there w.heap.size 0 3/\(W=w3.setCells w.heap.size 0 [(p:Int),(f:Int),(g:Int)]->ay W w.heap.size [(p:Int),(f:Int),(g:Int)] 32/\je I L S w W):=by
  intro w1 w2 w3 W C A hp b;have E:¬S w.heap.size:=fun h=>by have:=z _ h;omega
  have c:=(hp.Qd A E).frame b id;refine ⟨fun i q=> ?_,?_⟩
  ·match i,q with
   |0,_=>exact ⟨by rw [c.cell 0 rfl];rfl,c.free 0⟩
   |1,_=>exact ⟨by rw [c.cell 1 rfl];rfl,c.free 1⟩
   |2,_=>exact ⟨by rw [c.cell 2 rfl];rfl,c.free 2⟩
  ·rintro rfl;refine ⟨((c.set 0 _).set 1 _).set 2 _,?_⟩;obtain ⟨S2,X,Y,Q⟩:=l.behind hp b;have V:=C.size;have l1:=A.lt;have D:Fr (fun k=>k=w.heap.size) w3 (w3.setCells w.heap.size 0 [(p:Int),(f:Int),(g:Int)]):=
    (((Kb (fun k=>k=w.heap.size) w3).setCell w.heap.size (.inl rfl) _).setCell ⟨w.heap.size,1,none⟩ (.inl rfl) _).setCell ⟨w.heap.size,2,none⟩ (.inl rfl) _
   have M:¬S2 w.heap.size:=fun h=>by
    rcases Q _ h with h|h
    ·exact E h
    ·omega
   exact ⟨S2,l.Xp q X D (fun k s e=>M (by rw [<-e];exact s)) (fun k s=>Nat.le_of_eq s.symm),((C.mono (S':=S) J8).trans Y (fun _ h=> .inl h)).trans D (fun k s=> .inr (by omega)),fun k s=>(Q k s).imp id (fun h=>by omega)⟩
 have d:=ae j;have U:(1:Int)<=(a:Int):=by omega
 clear l q P N z j
 go_enter func80,ntmps80
 go_upto_region 1 with fail
 generalize o:World.alloc w _=W0;have B:ay W0 w.heap.size [(0:Int),(0:Int),(0:Int)] 32:=by rw [<-o];exact ay.new w [(0:Int),(0:Int),(0:Int)] 32
 have n:J7 w W0:=by rw [<-o];exact (Kb _ w).alloc _
 clear o;have x:=ae (G.out W0 n);have u:=ae (fun w2 w3 W hp b=>d.out W0 w2 w3 W n B hp b);clear B n G d;go_wp2_with fail
 refine x.out.mono ?_;rintro e w2 ⟨rfl,hp⟩;have m:=ae (fun w3 W b=>u.out w2 w3 W hp b);clear hp u x;go_wp2_with fail
 refine (R.out _).mono ?_;rintro e w3 ⟨rfl,b⟩;have J:=ae (m.out w3 w3 b).1;have F:=ae (fun W T=>(m.out w3 W b).2 T);unfold ft;clear b m;go_wp2_with (refine wpList_store_mid rfl 32 _ _ rfl w.heap.size 0 #[(p:Int),(f:Int),(g:Int)] rfl rfl J.out y.out H.out ?_)
 obtain ⟨K,O⟩:=F.out _ rfl;refine bodyPost_ret (ei rfl _ _ _ _ _ _ _ rfl K underlying32 rfl y.out) rfl ?_;exact ⟨rfl,O⟩
end
def fc(I:jW)(L:Nat->Nat)(S:Nat->Prop)(w:World)(r:Value)(e:Ending)(w':World):Prop:=e= .returned r/\je I L S w w'
section
variable{t:TypeId}{v:Value}{fl fs:Nat}{r:Value}{I:jW}{dom:Nat->Prop}{L L' L'':Nat->Nat}{S:Nat->Prop}{w w1 w2:World}
theorem s8(d:Value):Calls prog 80 #[d,(0:Int)] w fun e w'=>e= .returned (.tuple #[ft 0 0 0,(18:Int)])/\J7 w w':=by
 have b:Hid (∀W,W=w.alloc (.cells #[(0:Int),(0:Int),(0:Int)] 32)->J7 w W/\ay W w.heap.size [(0:Int),(0:Int),(0:Int)] 32):=by
  show∀W,_
  rintro W rfl;exact ⟨(Kb _ w).alloc _,ay.new w _ _⟩
 have a:Hid ((prog.info? 32).map (·.size)=some 3):=by show _=_;kernel_rfl
 unfold ft
 go_enter func80,ntmps80
 go_wp2;obtain ⟨hf,c⟩:=b.out _ rfl;refine bodyPost_ret (ei rfl _ _ _ _ _ _ _ rfl c underlying32 rfl a.out) rfl ?_;exact ⟨rfl,hf⟩
theorem pm{a:Nat->Prop}(b:Fr S w w1)(d:∀k,a k->S k\/w.heap.size<=k)(c:je I L' a w1 w2):je I L' S w w2:=by
 obtain ⟨S2,e,f,i⟩:=c;have h:=b.size;exact ⟨S2,e,b.trans f d,fun k g=>by
  grind⟩
theorem je.load(k:cY t v fl r I dom){a x:Nat}(g:dom a)(l:L a=x)(hp:je I L S w w1):Calls prog fl #[r,(((a:Nat):Int):Int)] w1 (fc I L S w (.tuple #[.int .u64 x,(0:Int)])):=by
 obtain ⟨b,c,d,f⟩:=hp;have h:=k.load L b w1 a c g;rw [l] at h;exact h.mono (fun e m ⟨i,j⟩=>⟨i,pm d f j⟩)
theorem je.store(j:qy t v fs r I dom){a x:Nat}(g:dom a)(k:x<18446744073709551616)(hp:je I L S w w1):Calls prog fs #[r,(((a:Nat):Int):Int),.int .u64 ((x:Nat):Int)] w1 (fc I (eb L a x) S w (.int .i64 0)):=by
 obtain ⟨b,c,d,f⟩:=hp;exact (j.store L b w1 a x c g k).mono (fun e l ⟨h,i⟩=>⟨h,pm d f i⟩)
def Ia(dom:Nat->Prop)(L:Nat->Nat)(a p f g:Nat):Prop:=(a=0/\p=0/\f=0/\g=0)\/(1<=a/\a<4611686018427387904/\dom a/\lw L a p f g)
theorem Ia.hd{a p f g:Nat}(h:Ia dom L a p f g):dD p f g:=by
 rcases h with ⟨_,rfl,rfl,rfl⟩|h
 ·decide
 ·exact h.2.2.2.2
theorem Bh(c:cY t v fl r I dom)(b:I L S w){a p f g:Nat}(j:Ia dom L a p f g):Calls prog 80 #[.iface t v,(a:Int)] w fun e w'=>(a≠0/\e= .returned (.tuple #[ft p f g,(0:Int)])\/a=0/\e= .returned (.tuple #[ft p f g,(18:Int)]))/\je I L S w w':=by
 rcases j with ⟨rfl,rfl,rfl,rfl⟩|⟨d,k,h,i⟩
 ·refine (s8 _).mono ?_;rintro e w' ⟨rfl,hf⟩;exact ⟨.inr ⟨rfl,rfl⟩,c.Fh b hf⟩
 ·refine (kr c b a p f g d h i).mono ?_;rintro e w' ⟨rfl,hp⟩
  grind
def nX(a p f g:Nat)(z kd:Int):Int:=if a=0 then 18 else if fP p f g z=kd then 0 else if fP p f g z=0 then 19 else 20
theorem pz{a p f g:Nat}(h:dD p f g){z kd:Int}(c:nX a p f g z kd=0)(e:1<=kd):a≠0/\z=z.toNat/\z.toNat<p+f+g/\fP p f g z=kd:=by
 unfold nX at c;split at c
 ·omega
 split at c
 ·rename_i d b;refine ⟨d,?_,?_,b⟩<;>(unfold fP fO at b;rw [if_pos h] at b;split at b<;>omega)
 omega
theorem nF(A:cY t v fl r I dom)(E:I L S w){a p f g:Nat}(d:Ia dom L a p f g)(z kd:Int)(s:1<=kd):Calls prog 119 #[.iface t v,(a:Int),(z:Int),(kd:Int)] w (fc I L S w (.tuple #[((if nX a p f g z kd=0 then (a:Int)+1+z else 0):Int),((nX a p f g z kd):Int)])):=by
 have q:=ae (Bh A E d);have i:=ae (fun w1=>pG p f g z d.hd w1);unfold jn at i;have x:a<4611686018427387904:=by rcases d with h|h<;>omega
 have l:nX a p f g z kd=0->IntKind.i64.wrap ((a:Int)+1)=(a:Int)+1/\IntKind.i64.wrap ((a:Int)+1+z)=(a:Int)+1+z:=fun G=>by
  have:=pz d.hd G s;have:=d.hd;unfold dD at this;rw [IntKind.wrap_i64,IntKind.wrap_i64];omega
 have b:=ae (fun W1 o B (hp:je I L S w W1) (hf:J7 (W1.alloc o) B)=>A.behind hp (((Kb (fun _=>False) W1).alloc o).trans hf J8));clear A E d;unfold fc;generalize je I L S w=J at*;unfold ft at q i;generalize D:fP p f g z=K at*;obtain ⟨C,u⟩:∃C,nX a p f g z kd=C:=⟨_,rfl⟩;obtain ⟨X,y⟩:∃X,(if C=0 then (a:Int)+1+z else 0)=X:=⟨_,rfl⟩;have F:Hid ((a=0->C=18/\X=0)/\(a≠0->(K=kd->C=0/\X=(a:Int)+1+z)/\(K≠kd->(K=0->C=19/\X=0)/\(K≠0->C=20/\X=0)))):=by
  show _/\_
  subst y u;unfold nX;rw [D]
  grind
 rw [u,y];rw [u] at l;clear u y D
 go_enter func119,ntmps119
 go_upto_region 1 with fail
 go_wp2_with fail
 refine q.out.mono ?_;rintro e W1 ⟨⟨j,rfl⟩|⟨j,rfl⟩,hp⟩
 ·have c:=ae hp;have m:=ae (F.out.2 j);clear q hp F j;go_wp2_with fail
  refine (i.out _).mono ?_;rintro e B ⟨rfl,hf⟩;have c:=ae (b.out _ _ _ c.out hf);clear hf b i;by_cases k:K=kd
  ·obtain ⟨rfl,rfl⟩:=m.out.1 k;obtain ⟨H,M⟩:=l rfl;subst k;clear l s x m;go_wp2;go_ret2;exact ⟨rfl,c.out⟩
  ·have n:=ae (m.out.2 k);have c1:(K==kd)=false:=by rw [beq_eq_false_iff_ne];exact k
   clear m l s x k;by_cases c2:K=0
   ·obtain ⟨rfl,rfl⟩:=n.out.1 c2;subst c2;clear n;go_wp2;go_ret2;exact ⟨rfl,c.out⟩
   ·obtain ⟨rfl,rfl⟩:=n.out.2 c2;have c2:(K==0)=false:=by rw [beq_eq_false_iff_ne];exact c2
    clear n;go_wp2;go_ret2;exact ⟨rfl,c.out⟩
 ·have c:=ae (fun o=>b.out W1 o _ hp (Kb _ _));obtain ⟨rfl,rfl⟩:=F.out.1 j;clear q hp l s x b i F j;go_wp2;go_ret2;exact ⟨rfl,c.out _⟩
theorem vF(d:cY t v fl r I dom)(u:I L S w){a p f g:Nat}(l:Ia dom L a p f g)(z kd:Int)(k:1<=kd)(s:nX a p f g z kd=0->dom (a+1+z.toNat)):Calls prog 79 #[.iface t v,(a:Int),(z:Int),(kd:Int)] w (fc I L S w (.tuple #[.int .u64 (((if nX a p f g z kd=0 then L (a+1+z.toNat) else 0):Nat):Int),((nX a p f g z kd):Int)])):=by
 have b:=ae (nF d u l z kd k);have A:=d.Yf;have x:=d.Yg;have n:=fun h=>(pz (a:=a) (z:=z) l.hd h k).2.1
 have j:=ae (fun w1 h (hp:je I L S w w1)=>je.load d (s h) rfl hp);unfold fc at*;generalize je I L S w=J at*;generalize nX a p f g z kd=C at*;generalize L (a+1+z.toNat)=y at*;clear d u l s k;by_cases i:C=0
 ·subst i;have e:(a:Int)+1+z=((a+1+z.toNat:Nat):Int):=by have:=n rfl;omega
  have o:=ae (fun w1=>j.out w1 rfl);rw [if_pos rfl] at b ⊢;clear j n;rw [e] at b;clear e;generalize ((a+1+z.toNat:Nat):Int)=q at*
  go_enter func79,ntmps79
  go_wp2_with fail
  refine b.out.mono ?_;rintro e W1 ⟨rfl,hp⟩;have c:=ae (o.out _ hp);clear hp o b;go_wp2_with fail
  refine c.out.mono ?_;rintro e B ⟨rfl,m⟩;clear c;go_wp2;go_ret2;exact ⟨rfl,m⟩
 ·rw [if_neg i] at b ⊢;have i:(C==0)=false:=by rw [beq_eq_false_iff_ne];exact i
  clear j n
  go_enter func79,ntmps79
  go_wp2_with fail
  refine b.out.mono ?_;rintro e W1 ⟨rfl,hp⟩;clear b;go_wp2;go_ret2;exact ⟨rfl,hp⟩
theorem Dx(y:cY t v fl r I dom)(i:qy t v fs r I dom)(u:I L S w){a p f g:Nat}(l:Ia dom L a p f g)(z kd:Int)(k:1<=kd)(s:nX a p f g z kd=0->dom (a+1+z.toNat)){x:Nat}(A:x<18446744073709551616):Calls prog 65 #[.iface t v,(a:Int),(z:Int),(kd:Int),.int .u64 x] w (fc I (if nX a p f g z kd=0 then eb L (a+1+z.toNat) x else L) S w (.int .i64 (nX a p f g z kd))):=by
 have b:=ae (nF y u l z kd k);have D:=i.Xv;have B:=i.Xw;have n:=fun h=>(pz (a:=a) (z:=z) l.hd h k).2.1
 have j:=ae (fun w1 h (hp:je I L S w w1)=>je.store i (s h) A hp);generalize nX a p f g z kd=C at*;clear y u l s k i A;by_cases d:C=0
 ·subst d;have e:(a:Int)+1+z=((a+1+z.toNat:Nat):Int):=by have:=n rfl;omega
  have o:=ae (fun w1=>j.out w1 rfl);rw [if_pos rfl] at b ⊢;clear j n;rw [e] at b;generalize eb L (a+1+z.toNat) x=L2 at*;clear e;unfold fc at*;generalize ((a+1+z.toNat:Nat):Int)=q at*
  go_enter func65,ntmps65
  go_wp2_with fail
  refine b.out.mono ?_;rintro e W1 ⟨rfl,hp⟩;have c:=ae (o.out _ hp);clear hp o b;go_wp2_with fail
  refine c.out.mono ?_;rintro e E ⟨rfl,m⟩;clear c;go_wp2;go_ret;exact ⟨rfl,m⟩
 ·rw [if_neg d] at b ⊢;have d:(C==0)=false:=by rw [beq_eq_false_iff_ne];exact d
  clear j n;unfold fc at*
  go_enter func65,ntmps65
  go_wp2_with fail
  refine b.out.mono ?_;rintro e W1 ⟨rfl,hp⟩;clear b;go_wp2;go_ret;exact ⟨rfl,hp⟩
end
theorem y7(p q r:Addr)(w:World):
  CallsD prog 156 #[.pointer (some p),.pointer (some q),.pointer (some r)] .returning w fun e c w'=>e= .returned (.tuple #[])/\c= .returning/\w'=w:=by
 refine callsD_of_wpS func156 rfl fun a cs b=> ?_
 apply wpS_seq;apply wpS_region;simp [wpOpsS,go_sem,recoverD,b,ntmps156,Exit.thenS];apply wpS_seq;apply wpS_seq;apply wpS_region;simp [wpOpsS,go_sem,Exit.thenS];refine wpS_cond (t:=true) (by simp [Act.eval,Array.replicate]) ?_;simp only [if_true];refine wpS_of_wp (wp_ret ?_)
 cases a
 simp_all [bodyPostS,results,Exit.thenS]
def pT(w:World)(R:World->World->Prop)(e:Ending)(w':World):Prop:=e= .returned (.agg #[(0:Int),(0:Int)])/\∃w1 w2,J7 w w1/\R w1 w2/\Fr (fun k=>w.heap.size<=k/\k<w1.heap.size) w2 w'
theorem FN(t:TypeId)(v:Value)(F b:Nat)(cap:Array Value)(W:∀args w,(callFunc F args).run prog w= .ok (.enter F args) w)(w:World)(R:World->World->Prop)
  (z:ay w b [.iface t v,.slice none 0 0] 157)
  (G:∀w1,J7 w w1->Calls prog F (#[.pointer (some ⟨b,0,none⟩)]++cap) w1 fun e w2=>e= .returned (.tuple #[])/\R w1 w2/\∃T:Nat->Prop,(∀k,T k->k<w.heap.size\/w1.heap.size<=k)/\Fr T w1 w2):
  Calls prog 102 #[b,.func (.func F) #[] cap] w (pT w R):=by
 have Q:∀(fn:Fn) (first cap:Array Value) (w:World),(Instr.makeFunc fn first cap).run prog w= .ok (.func fn first cap) w:=fun _ _ _ _=>rfl
 have B:=z.cell 1 rfl
 go_enter_defers func102,ntmps102
 go_upto_region 1 with fail
 obtain ⟨W1,c⟩:∃W1,(w.alloc (.cells #[b] 108)).alloc (.cells #[(0:Int),(0:Int)] 106)=W1:=⟨_,rfl⟩;rw [c];have r:=z.lt;have L:W1.heap.size=w.heap.size+2:=by rw [<-c];exact (aY _).trans (congrArg (· +1) (aY _))
 have g:J7 w W1:=by rw [<-c];exact ((Kb _ w).alloc _).alloc _
 have y:ay W1 w.heap.size [b] 108:=by rw [<-c];exact (ay.new w [b] 108).alloc _
 have H:ay W1 (w.heap.size+1) [(0:Int),(0:Int)] 106:=by
  have h:=ay.new (w.alloc (.cells #[b] 108)) [(0:Int),(0:Int)] 106;have O:(w.alloc (.cells #[b] 108)).heap.size=w.heap.size+1:=aY _;rw [O] at h;rw [<-c];exact h
 have C:=(z.frame g id).cell 1 rfl;have D:=y.cell 0 rfl;have s:∀o,(W1.alloc o).cell? w.heap.size=some b:=fun o=>(y.alloc o).cell 0 rfl
 have E:=ae G;have x:=ae (af g (af y (af H (af L r))));clear c g y H L z G B r
 go_upto_region 3 with fail
 have j:J7 w (W1.alloc (.cells #[(0:Int)] 3)):=x.out.1.alloc _;have q:ay (W1.alloc (.cells #[(0:Int)] 3)) (w.heap.size+1) [(0:Int),(0:Int)] 106:=x.out.2.2.1.alloc _;have u:(W1.alloc (.cells #[(0:Int)] 3)).heap.size=w.heap.size+3:=(aY _).trans (congrArg (· +1) x.out.2.2.2.1);have S:=s (.cells #[(0:Int)] 3);have m:=ae (E.out _ j);have d:=ae (af j (af q u));generalize W1.alloc (.cells #[(0:Int)] 3)=W2 at*;clear E x j q u C D s;generalize W1.heap.size=n at*;clear W1;go_wp2_with fail
 refine m.out.mono ?_;rintro e w3 ⟨rfl,I,T,J,hf⟩;have a:=d.out.2.1.frame hf (fun h=>by have:=J _ h;have:=d.out.2.2;omega);have M:Hid (∀w4,w4=w3.setCells (w.heap.size+1) 0 [(0:Int),(0:Int)]->ay w4 (w.heap.size+1) [(0:Int),(0:Int)] 106/\pT w R (.returned (.agg #[(0:Int),(0:Int)])) w4):=by
  show∀w4,_
  rintro w4 rfl;refine ⟨(a.set 0 _).set 1 _,rfl,W2,w3,d.out.1,I,?_⟩;have:=d.out.2.2;exact ((Kb _ w3).setCell ⟨w.heap.size+1,0,none⟩ (.inl ⟨fx _,by show w.heap.size+1<_;omega⟩) _).setCell ⟨w.heap.size+1,1,none⟩ (.inl ⟨fx _,by show w.heap.size+1<_;omega⟩) _
 have N:Hid (w3.there (w.heap.size+1) 0 2):=by
  show w3.there _ _ _
  intro i P
  match i,P with
  |0,_=>exact ⟨by rw [a.cell 0 rfl];rfl,a.free 0⟩
  |1,_=>exact ⟨by rw [a.cell 1 rfl];rfl,a.free 1⟩
 have p:Hid ((prog.info? 106).map (·.size)=some 2):=by show _=_;kernel_rfl
 have A:Hid ((#[Value.int .i64 0,(0:Int)].all (·.oneCell'))=true):=by show _=_;exact Go.all_oneCell_toArray (cs:=[(0:Int),(0:Int)]) (fun v K=>by simp only [cG,bF,or_false] at K;rcases K with rfl|rfl<;>rfl)
 clear I J hf a m d;go_wp2_with (refine wpList_store_mid rfl 106 _ _ rfl (w.heap.size+1) 0 #[(0:Int),(0:Int)] rfl rfl N.out p.out A.out ?_)
 obtain ⟨U,l⟩:=M.out _ rfl;refine leaves_cons (f:=156) (args:= #[w.heap.size,n,.pointer (some ⟨w.heap.size+1,0,none⟩)]) (by simp) (by simp [go_sem]) ?_;refine (y7 ⟨w.heap.size,0,none⟩ ⟨n,0,none⟩ ⟨w.heap.size+1,0,none⟩ _).mono ?_;rintro e X V ⟨rfl,rfl,rfl⟩;exact ⟨_,results_cell_row rfl _ _ _ _ _ _ _ rfl U underlying106 rfl p.out,l⟩
theorem tW(t:TypeId)(v:Value)(F:Nat)(cap:Array Value)(L:∀args w,(callFunc F args).run prog w= .ok (.enter F args) w)(w:World)(R:World->World->Prop)
  (D:∀b w1,J7 w w1->w.heap.size<=b->b<w1.heap.size->ay w1 b [.iface t v,.slice none 0 0] 157->Calls prog F (#[.pointer (some ⟨b,0,none⟩)]++cap) w1 fun e w2=>e= .returned (.tuple #[])/\R w1 w2/\∃T:Nat->Prop,(∀k,T k->k=b\/k<w.heap.size\/w1.heap.size<=k)/\Fr T w1 w2):
  Calls prog 56 #[.iface t v,.func (.func F) #[] cap] w (pT w R):=by
 have C:=ae D;clear D;have o:Hid ((prog.info? 106).map (·.size)=some 2):=by show _=_;kernel_rfl
 have A:Hid ((#[Value.int .i64 0,(0:Int)].all (·.oneCell'))=true):=by show _=_;exact Go.all_oneCell_toArray (cs:=[(0:Int),(0:Int)]) (fun v H=>by simp only [cG,bF,or_false] at H;rcases H with rfl|rfl<;>rfl)
 go_enter func56,ntmps56
 go_upto_region 1 with fail
 obtain ⟨W1,d⟩:∃W1,w.alloc (.cells #[(0:Int),(0:Int)] 106)=W1:=⟨_,rfl⟩;have I:W1.heap.size=w.heap.size+1:=by rw [<-d];exact aY _
 have p:J7 w W1:=by rw [<-d];exact (Kb _ w).alloc _
 have E:ay W1 w.heap.size [(0:Int),(0:Int)] 106:=by rw [<-d];exact ay.new w _ _
 rw [d];have m:=ae (af p (af E I));clear d p E I;go_wp2_with fail
 have g:J7 w (W1.alloc (.cells #[.iface t v,.slice none 0 0] 157)):=m.out.1.alloc _;have f:=ay.new W1 [.iface t v,.slice none 0 0] 157;have q:ay (W1.alloc (.cells #[.iface t v,.slice none 0 0] 157)) w.heap.size [(0:Int),(0:Int)] 106:=m.out.2.1.alloc _;have B:(W1.alloc (.cells #[.iface t v,.slice none 0 0] 157)).heap.size=w.heap.size+2:=(aY _).trans (congrArg (· +1) m.out.2.2);have y:=m.out.2.2;obtain ⟨b,G⟩:∃b,b=W1.heap.size:=⟨_,rfl⟩;rw [<-G] at f y ⊢;clear m G;generalize W1.alloc (.cells #[.iface t v,.slice none 0 0] 157)=W2 at*;clear W1;have n:=ae (FN t v F b cap L W2 (fun w1 w2=>R w1 w2/\∃T:Nat->Prop,(∀k,T k->k=b\/k<w.heap.size\/w1.heap.size<=k)/\Fr T w1 w2) f (fun w1 a=>by
  have x:=a.size;refine (C.out b w1 (g.trans a J8) (by omega) (by omega) (f.frame a id)).mono ?_;rintro e w2 ⟨rfl,z,T,r,hf⟩;exact ⟨rfl,⟨z,T,r,hf⟩,T,fun k N=>by have:=r k N;omega,hf⟩))
 refine n.out.mono ?_;rintro e w3 ⟨rfl,w1,w2,a,⟨z,T,r,u⟩,j⟩;have x:=a.size;have c:=((q.frame a id).frame u (fun h=>by have:=r _ h;omega)).frame j (fun h=>by have:=h.1;omega);have J:Hid (∀w4,w4=w3.setCells w.heap.size 0 [(0:Int),(0:Int)]->ay w4 w.heap.size [(0:Int),(0:Int)] 106/\pT w R (.returned (.agg #[(0:Int),(0:Int)])) w4):=by
  show∀w4,_
  rintro w4 rfl;refine ⟨(c.set 0 _).set 1 _,rfl,w1,w2,g.trans a J8,z,?_⟩;have s:=j.mono (S':=fun k=>w.heap.size<=k/\k<w1.heap.size) (fun k h=> .inl ⟨by have:=h.1;omega,h.2⟩);exact (s.setCell w.heap.size (.inl ⟨ag _,by show w.heap.size<_;omega⟩) _).setCell ⟨w.heap.size,1,none⟩ (.inl ⟨ag _,by show w.heap.size<_;omega⟩) _
 have K:Hid (w3.there w.heap.size 0 2):=by
  show w3.there _ _ _
  intro i M
  match i,M with
  |0,_=>exact ⟨by rw [c.cell 0 rfl];rfl,c.free 0⟩
  |1,_=>exact ⟨by rw [c.cell 1 rfl];rfl,c.free 1⟩
 clear z r u a j c n C g f q B y x;go_wp2_with (refine wpList_store_mid rfl 106 _ _ rfl w.heap.size 0 #[(0:Int),(0:Int)] rfl rfl K.out o.out A.out ?_)
 obtain ⟨O,l⟩:=J.out _ rfl;refine bodyPost_ret (results_cell_row rfl _ _ _ _ _ _ _ rfl O underlying106 rfl o.out) rfl ?_;exact l
def wV(I:jW)(t:TypeId)(v:Value)(b lo:Nat)(L:Nat->Nat)(S:Nat->Prop)(n:Nat)(w:World):Prop:=
 I L S w/\b<lo/\lo<=w.heap.size/\¬S b/\∃sl xs,ay w b [.iface t v,sl] 157/\w.ownsRow lo 163 2 sl n xs/\∀k,sl.ownBlock=some k->¬S k
def CD(I:jW)(t:TypeId)(v:Value)(b lo:Nat)(L:Nat->Nat)(S:Nat->Prop)(n:Nat)(w w':World):Prop:=
 ∃S':Nat->Prop,wV I t v b lo L S' n w'/\Fr (fun k=>S k\/k=b\/lo<=k) w w'/\∀k,S' k->S k\/w.heap.size<=k
section
variable{t:TypeId}{v:Value}{fl fs:Nat}{r:Value}{I:jW}{dom:Nat->Prop}{L L' L'':Nat->Nat}{S:Nat->Prop}{w w1 w2:World}{b lo n:Nat}
theorem wV.sp(h:wV I t v b lo L S n w)(hp:je I L' S w w1):CD I t v b lo L' S n w w1:=by
 obtain ⟨m,f,o,g,sl,xs,c,d,i⟩:=h;obtain ⟨S',l,a,e⟩:=hp;have q:=a.size;have p:=c.lt;refine ⟨S',⟨l,f,by omega,fun h=> ?_,sl,xs,c.frame a g,dL d a i,fun k j h=> ?_⟩,a.mono (fun k h=> .inl (.inl h)),e⟩
 ·grind
 ·rcases e _ h with h|h
  ·grind
  ·have:=(d.lt k j).2;omega
theorem wV.Fh(a:cY t v fl r I dom)(h:wV I t v b lo L S n w)(hf:J7 w w1):CD I t v b lo L S n w w1:=h.sp (a.Fh h.1 hf)
theorem mB{c:Nat}{a:Nat->Prop}(_hlo:lo<=w.heap.size)(d:Fr (fun k=>S k\/k=b\/lo<=k) w w1)(i:∀k,a k->S k\/w.heap.size<=k)(h:CD I t v b lo L' a c w1 w2):CD I t v b lo L' S c w w2:=by
 obtain ⟨S2,e,f,j⟩:=h;have g:=d.size;refine ⟨S2,e,d.trans f (fun k h=> ?_),fun k h=> ?_⟩
 ·grind
 grind
theorem wV.cells(h:wV I t v b lo L S n w):w.cell? b=some (.iface t v):=let ⟨_,_,_,_,_,_,h,_⟩:=h;h.cell 0 rfl
def wU(I:jW)(t:TypeId)(v:Value)(b lo:Nat)(L:Nat->Nat)(S:Nat->Prop)(n:Nat)(w:World)(r:Value)(e:Ending)(w':World):Prop:=e= .returned r/\CD I t v b lo L S n w w'
theorem sP(c:cY t v fl r I dom)(h:wV I t v b lo L S n w)(a:Nat)(g:dom a):Calls prog 103 #[b,(a:Int)] w (wU I t v b lo L S n w (.int .u64 (L a:Int))):=by
 have l:=c.Yf;have k:=c.Yg;have d:=ae (c.load L S w a h.1 g);have i:=h.cells;have f:=ae (fun w' (hp:je I L S w w')=>h.sp hp);generalize L a=x at*;unfold wU;clear c h g
 go_enter func103,ntmps103
 go_wp2_with fail
 refine d.out.mono ?_;rintro e w2 ⟨rfl,hp⟩;have j:=f.out _ hp;clear hp f d i;go_wp2;go_ret;exact ⟨rfl,j⟩
theorem D3:(prog.info? 163).map (fun i=>(i.zero,i.size,i.bytes))=some (some (.agg #[(0:Int),.int .u64 0]),2,16):=by kernel_rfl
theorem wV.entry{sl sl':Value}{xs ys:List Value}{w3:World}(h:wV I t v b lo L S n w)(o:ay w b [.iface t v,sl] 157)(C:w.ownsRow lo 163 2 sl n xs)(hf:J7 w w2)
  (m:w3.ownsRow lo 163 2 sl' (n+1) ys) (hg:w2.grownBy w3 sl.ownBlock) (E:sl'.ownBlock=sl.ownBlock\/sl'.ownBlock=some w2.heap.size) (p:∀k,S k->k<w.heap.size) (q:iu I):
  ∃c,ay w3 b [.iface t v,c] 157/\∀w4,w4=w3.setCell ⟨b,1,none⟩ sl'->CD I t v b lo L S (n+1) w w4:=by
 obtain ⟨u,x,G,y,a,F,z,H,J⟩:=h;have s:a=sl:=by
  have:=z.symm.trans o
  grind
 subst s;have A:=o.lt;have l:=fun k (d:a.ownBlock=some k)=>C.lt k d
 have f:Fr (fun k=>a.ownBlock=some k) w w3:=(hf.mono (S':=fun k=>a.ownBlock=some k) J8).trans (Fr.Xd hg) (fun i B=> .inl B);have g:=o.frame f (fun d=>by grind);refine ⟨a,g,?_⟩;rintro w4 rfl;have j:Fr (fun k=>S k\/k=b\/lo<=k) w (w3.setCell ⟨b,1,none⟩ sl'):=(f.mono (S':=fun k=>S k\/k=b\/lo<=k) (fun k d=> .inl (.inr (.inr (l k d).1)))).setCell ⟨b,1,none⟩ (.inl (.inr (.inl rfl))) sl';have D:=j.size;refine ⟨S,⟨?_,x,by omega,y,sl',ys,g.set 1 sl',?_,?_⟩,j,fun k h=> .inl h⟩
 ·refine q L S w _ (fun k=>a.ownBlock=some k\/k=b) u ((f.mono (fun k d=> .inl (.inl d))).setCell ⟨b,1,none⟩ (.inl (.inr rfl)) sl') ?_
  grind
 ·exact dL m ((Kb (fun k=>k=b) w3).setCell ⟨b,1,none⟩ (.inl rfl) sl') (fun k d e=>by have:=(m.lt k d).1;omega)
 ·intro k d h;rcases E with e|e
  ·grind
  ·rw [e] at d;simp only [aT] at d;have:=p k h;have:=hf.size;omega
theorem nz(N:iu I)(Z:cY t v fl r I dom)(Q:qy t v fs r I dom)(h:wV I t v b lo L S n w)(a x:Nat)(X:dom a)(hx:x<18446744073709551616)(hn:n<1000000000):Calls prog 58 #[b,(a:Int),.int .u64 x] w (wU I t v b lo (eb L a x) S (n+1) w (.tuple #[])):=by
 have HM:=Q.Xv;have HE:=Q.Xw;have U:=ae (sP Z h a X);have c0:=h.cells;have V:=ae (fun w1 E (P:wV I t v b lo L E n w1)=>Q.store L E w1 a x P.1 X hx);have l:=ae (fun E (wa w2 w3:World) (sl sl':Value) (xs ys:List Value) (P:wV I t v b lo (eb L a x) E n wa) m K hf s hg z=>wV.entry (w:=wa) (w2:=w2) (w3:=w3) (sl:=sl) (sl':=sl') (xs:=xs) (ys:=ys) P m K hf s hg z (Z.lt _ _ _ P.1) N);obtain ⟨i0,hi,ad,ag,ah⟩:=info_parts D3;obtain ⟨y,hy⟩:∃y,L a=y:=⟨_,rfl⟩;rw [hy] at U;obtain ⟨W,F⟩:∃W,W=eb L a x:=⟨_,rfl⟩;rw [<-F] at V l ⊢;unfold wU at*;have Y:=h.2.2.1;clear N Z Q h X hx hy F
 go_enter func58,ntmps58
 go_wp2_with fail
 refine U.out.mono ?_;rintro e w1 ⟨rfl,E,f,p,G⟩;have D:=ae (V.out _ _ f);have C:=ae (fun w' hp=>f.sp (w1:=w') (L':=W) hp);have c1:=f.cells;have A:=ae (af p G);have ak:=p.size;clear f p G U V c0;go_wp2_with fail
 refine D.out.mono ?_;rintro e w2 ⟨rfl,hp⟩;obtain ⟨S2,u,J,H⟩:=C.out _ hp;obtain ⟨g1,h2,h3,g2,sl,xs,m,K,g3⟩:=id u;obtain ⟨c2,c3,_⟩:=Ke m;have B:=ae (af J H);have i:=ae (fun wb w3 sl' ys hf s hg z=>l.out S2 w2 wb w3 sl sl' xs ys u m K hf s hg z);have HB:=ae (af m K);have al:=h3;clear hp C D l u J H m c1 h2 h3 K g1 g2 g3;go_wp2_with (at_builtin;refine Hid.out ?_)
 unfold Hid;have d:J7 w2 (w2.alloc (.cells #[(a:Int),.int .u64 y] 163)):=(Kb _ w2).alloc _;have k:ay (w2.alloc (.cells #[(a:Int),.int .u64 y] 163)) w2.heap.size [(a:Int),.int .u64 y] 163:=ay.new w2 _ _;have aj:=d.size;have T:=ae d;have M:=dL HB.out.2 d (fun _ _ h=>h);refine wpList_append_own_at _ rfl _ _ 155 rfl lo 163 i0 _ 2 16 underlying155 hi ad ag ah rfl (by decide) _ n xs rfl M ⟨w2.heap.size,0,none⟩ 1 1 [(a:Int),.int .u64 y] rfl rfl ?_ ?_ (by unfold maxLen;omega) (by omega) (by omega) ?_
 ·intro j u' hj;have:=k.cell j hj;rwa [show ((⟨w2.heap.size,0,none⟩:Addr).add j)=⟨w2.heap.size,j,none⟩ by unfold Addr.add;split<;>simp_all]
 ·intro u' O;simp only [cG,bF,or_false] at O;rcases O with rfl|rfl<;>rfl
 ·intro v' w3 q hg _ z;obtain ⟨g,cap,rfl⟩:∃g cap,v'= .slice (some ⟨g,0,none⟩) (n+1) cap:=by
   rcases q.2 with ⟨_,h⟩|⟨g,cap,_,h,_⟩
   ·omega
   ·exact ⟨g,cap,h⟩
  obtain ⟨c,o,hE⟩:=i.out _ w3 _ _ d q hg z;have c4:=o.cell 1 rfl;have f4:=o.free 1;have R:=ae hE;clear d k aj T M q hg z o hE i HB c2 c3;go_wp2;go_end0;exact ⟨rfl,mB Y A.out.1 A.out.2 (mB (by omega) B.out.1 B.out.2 (R.out _ rfl))⟩
end
def ow(L:Nat->Nat)(a W n:Nat):Nat->Nat:=fun k=>if k=a then W else if a<k/\k<a+1+n then 0 else L k
theorem DP(L:Nat->Nat)(a W:Nat):ow L a W 0=eb L a W:=by
 funext k;unfold ow eb
 grind
theorem DQ(L:Nat->Nat)(a W n:Nat):eb (ow L a W n) (a+1+n) 0=ow L a W (n+1):=by
 funext k;show (if k=a+1+n then 0 else if k=a then W else if a<k/\k<a+1+n then 0 else L k)=if k=a then W else if a<k/\k<a+1+(n+1) then 0 else L k
 grind
def xe(w:World)(c1 c2 c3 a W p f g:Nat):Prop:=ay w c1 [(a:Int)] 3/\ay w c2 [.int .u64 W] 34/\ay w c3 [(p:Int),(f:Int),(g:Int)] 32
theorem xe.Qb{w w':World}{c1 c2 b a W p f g:Nat}{T:Nat->Prop}(h:xe w c1 c2 b a W p f g)(hf:Fr T w w')(c:¬T c1)(d:¬T c2)(e:¬T b):xe w' c1 c2 b a W p f g:=⟨h.1.frame hf c,h.2.1.frame hf d,h.2.2.frame hf e⟩
section
variable{t:TypeId}{v:Value}{fl fs:Nat}{r:Value}{I:jW}{dom:Nat->Prop}{L L' L'':Nat->Nat}{S:Nat->Prop}{w w1 w2:World}{b lo n:Nat}
theorem Iw(q:iu I)(K:cY t v fl r I dom)(Z:qy t v fs r I dom)(h:wV I t v b lo L S 0 w)(c1 c2 C a p f g:Nat)(H:xe w c1 c2 C a (lj p f g) p f g)(J:dD p f g)
  (c:∀k,k=c1\/k=c2\/k=C->¬S k/\k≠b/\k<lo) (hA:a<4611686018427387904) (j:∀k,a<=k->k<a+1+(p+f+g)->dom k):
  Calls prog 57 #[b,c1,c2,C] w (wU I t v b lo (ow L a (lj p f g) (p+f+g)) S (p+f+g+1) w (.tuple #[])):=by
 have hW:lj p f g<18446744073709551616:=by obtain ⟨_,G,_,T,_,U,_⟩:=J;exact Eg (by omega) (by omega) (by omega)
 have hN:p+f+g<256:=by obtain ⟨_,G,_,T,_,U,h4⟩:=J;omega
 have B:=ae (fun w1=>iK p f g w1);have F:fO p f g=((1+(p+f+g):Nat):Int):=by rw [fO,if_pos J];push_cast;omega
 rw [F] at B;unfold ft at B;have d:=ae (nz q K Z h a (lj p f g) (j a (by omega) (by omega)) hW (by omega));rw [<-DP] at d;have R:=ae (fun i (hi:i<p+f+g) w' (hp:CD I t v b lo (ow L a (lj p f g) i) S (i+1) w w')=>by
  obtain ⟨S',G,T,U⟩:=hp;have hq:=nz q K Z G (a+1+i) 0 (j _ (by omega) (by omega)) (by omega) (by omega);rw [DQ] at hq;exact hq.mono (fun e w2 ⟨he,s⟩=>(⟨he,mB h.2.2.1 T U s⟩:wU I t v b lo (ow L a (lj p f g) (i+1)) S (i+1+1) w (.tuple #[]) e w2)))
 have y:=ae (fun w' M i (hp:CD I t v b lo (ow L a (lj p f g) i) S M w w')=>H.Qb hp.choose_spec.2.1 (fun h=>by have:=c c1 (.inl rfl);rcases h with h|h|h;exact this.1 h;exact this.2.1 h;omega) (fun h=>by have:=c c2 (.inr (.inl rfl));rcases h with h|h|h;exact this.1 h;exact this.2.1 h;omega) (fun h=>by have:=c C (.inr (.inr rfl));rcases h with h|h|h;exact this.1 h;exact this.2.1 h;omega));have O:=ae (fun w' w2 M i (hp:CD I t v b lo (ow L a (lj p f g) i) S M w w') (hf:J7 w' w2)=>(mB h.2.2.1 hp.choose_spec.2.1 hp.choose_spec.2.2 (hp.choose_spec.1.Fh K hf):CD I t v b lo (ow L a (lj p f g) i) S M w w2));have Q:Hid ((prog.info? 32).map (·.size)=some 3):=by show _=_;kernel_rfl
 have k1:=H.1.cell 0 rfl;have k2:=H.2.1.cell 0 rfl;unfold jn at B;unfold wU at*;generalize lj p f g=W at*;generalize V:p+f+g=N at*;have ag:IntKind.i64.wrap (1+(N:Int)-1)=(N:Int):=by rw [IntKind.wrap_i64];omega
 clear q K Z h H J c j hW F V
 go_enter func57,ntmps57
 go_wp2_with fail
 refine d.out.mono ?_;rintro e w1 ⟨rfl,o⟩;have u:=ae (y.out _ _ _ o);have z:=ae o;clear o d k1 k2;go_wp2_with (refine wpList_load_row rfl 32 _ rfl C rfl 32 #[(p:Int),(f:Int),(g:Int)] _ _ u.out.2.2 underlying32 rfl Q.out ?_)
 refine (B.out _).mono ?_;rintro e w2 ⟨rfl,D⟩;have A:=ae (O.out _ _ _ _ z.out D);clear D z u B;have ah:IntKind.i64.wrap ((a:Int)+1)=(a:Int)+1:=by rw [IntKind.wrap_i64];omega
 rw [show ((1+N:Nat):Int)=1+(N:Int) by push_cast;rfl];go_wp2
 go_loopw [13] (fun x wr=>∃(i:Nat),x= .int .i64 i/\i<=N/\Hid (CD I t v b lo (ow L a W i) S (i+1) w wr)) (fun x _=>(N-intOf x).toNat)
 case atStart=>exact ⟨0,rfl,by omega,A.out⟩
 case round=>
  clear A;obtain ⟨i,rfl,G,s⟩:=hrel;have HC:=ae (y.out _ _ _ s.out);have k1:=HC.out.1.cell 0 rfl;by_cases Y:i<N
  ·have ad:(i:Int)<(N:Int):=by omega
   have aj:IntKind.i64.wrap ((a:Int)+1+(i:Int))=(a:Int)+1+(i:Int):=by rw [IntKind.wrap_i64];omega
   have m:=R.out i Y _ s.out;rw [show ((a+1+i:Nat):Int)=(a:Int)+1+(i:Int) by push_cast;rfl,show ((0:Nat):Int)=0 from rfl] at m;have l:=ae m;clear m s HC;go_wp2_with fail
   refine l.out.mono ?_;rintro e w3 ⟨rfl,E⟩;have P:=ae E;clear E l;go_wp2;go_roundw
   case rel=>exact ⟨i+1,by go_num,by omega,P⟩
   case measure=>simp [intOf];omega
  ·have X:i=N:=by omega
   subst X;go_wp2;go_end0;exact ⟨rfl,s.out⟩
end
section
variable{t:TypeId}{v:Value}{fl fs:Nat}{r:Value}{I:jW}{dom:Nat->Prop}{L L' L'':Nat->Nat}{S:Nat->Prop}{w w1 w2:World}{b lo n:Nat}
theorem Fy(l:cY t v fl r I dom)(j:I L S w)(F:Nat)(cap:Array Value)(q:∀args w,(callFunc F args).run prog w= .ok (.enter F args) w)
  (s:∀b w1,J7 w w1->w.heap.size<=b->wV I t v b w1.heap.size L S 0 w1->Calls prog F (#[.pointer (some ⟨b,0,none⟩)]++cap) w1 (wU I t v b w1.heap.size L' S n w1 (.tuple #[]))):
  Calls prog 56 #[.iface t v,.func (.func F) #[] cap] w (fc I L' S w (.agg #[(0:Int),(0:Int)])):=by
 have x:=l.lt _ _ _ j;refine (tW t v F cap q w (fun w1 w2=>∃S':Nat->Prop,I L' S' w2/\Fr (fun k=>S k\/w.heap.size<=k) w1 w2/\∀k,S' k->S k\/w1.heap.size<=k) (fun b w1 hf u i g=> ?_)).mono ?_
 ·refine (s b w1 hf u ⟨l.Qb j hf,i,ag _,fun h=>by grind,_,[],g,World.ownsRow_nil _ _ _ _,fun k p=>by grind [Value.ownBlock]⟩).mono ?_;rintro e w2 ⟨rfl,S',f,d,m⟩;refine ⟨rfl,⟨S',f.1,d.mono (fun k h=> ?_),m⟩,_,fun k h=> ?_,d⟩
  ·grind
  grind
 ·rintro e w' ⟨rfl,w1,w2,a,⟨S',f,d,m⟩,c⟩;have y:=a.size;refine ⟨rfl,S',l.Xp j f c (fun k p o=> ?_) (fun k o=>o.1),?_,fun k p=> ?_⟩
  ·grind
  ·exact ((a.mono (S':=S) J8).trans d (fun k h=>h)).trans c (fun k h=> .inr h.1)
  grind
theorem vE(D:iu I)(u:cY t v fl r I dom)(T:qy t v fs r I dom)(H:I L S w)(a p f g:Nat)(U:1<=a)(Q:a<4611686018427387904)(M:dD p f g)(q:∀k,a<=k->k<a+1+(p+f+g)->dom k):
  Calls prog 21 #[.iface t v,(a:Int),ft p f g] w (fc I (ow L a (lj p f g) (p+f+g)) S w (.int .i64 0)):=by
 have Z:∀(fn:Fn) (first cap:Array Value) (w:World),(Instr.makeFunc fn first cap).run prog w= .ok (.func fn first cap) w:=fun _ _ _ _=>rfl
 have c:=ae (fun w1=>D8 p f g M w1);have l:=u.lt _ _ _ H;have o:=ae (fun W (hf:J7 w W) c1 c2 F (G:xe W c1 c2 F a (lj p f g) p f g) (h1:w.heap.size<=c1/\w.heap.size<=c2/\w.heap.size<=F)=>Fy (L':=ow L a (lj p f g) (p+f+g)) (n:=p+f+g+1) u (u.Qb H hf) 57 #[c1,c2,F] (enters_of func57 (by kernel_rfl) rfl) (fun b w1 C hb hw=>Iw D u T hw c1 c2 F a p f g (G.Qb C id id id) M (fun k Y=>by
  have l1:=G.1.lt;have l2:=G.2.1.lt;have l3:=G.2.2.lt;have:=C.size;rcases Y with rfl|rfl|rfl
  ·exact ⟨fun h=>by have:=l _ h;omega,by omega,by omega⟩
  ·exact ⟨fun h=>by have:=l _ h;omega,by omega,by omega⟩
  ·exact ⟨fun h=>by have:=l _ h;omega,by omega,by omega⟩) Q q))
 have m:=ae (fun W w' (hf:J7 w W) (hp:je I (ow L a (lj p f g) (p+f+g)) S W w')=>u.Ah hf H hp);unfold Ho at c;generalize ow L a (lj p f g) (p+f+g)=L2 at*;have J:Hid ((prog.info? 32).map (·.size)=some 3):=by show _=_;kernel_rfl
 generalize lj p f g=X at*;unfold fc at*;have V:(1:Int)<=(a:Int):=by omega
 clear D u T H M q l Q U;unfold ft at*
 go_enter func21,ntmps21
 go_upto_region 1 with fail
 obtain ⟨W1,d⟩:∃W1,(w.alloc (.cells #[(a:Int)] 3)).alloc (.cells #[(p:Int),(f:Int),(g:Int)] 32)=W1:=⟨_,rfl⟩;have E:(w.alloc (.cells #[(a:Int)] 3)).heap.size=w.heap.size+1:=aY _;have z:J7 w W1:=by rw [<-d];exact ((Kb _ w).alloc _).alloc _
 have s:ay W1 w.heap.size [(a:Int)] 3:=by rw [<-d];exact (ay.new w [(a:Int)] 3).alloc _
 have A:ay W1 (w.heap.size+1) [(p:Int),(f:Int),(g:Int)] 32:=by
  have h:=ay.new (w.alloc (.cells #[(a:Int)] 3)) [(p:Int),(f:Int),(g:Int)] 32;rw [E] at h;rw [<-d];exact h
 rw [d];clear d E;have k1:=s.cell 0 rfl;have x:=ae (af z (af s A));clear z s A;go_wp2_with (refine wpList_load_row rfl 32 _ rfl (w.heap.size+1) rfl 32 #[(p:Int),(f:Int),(g:Int)] _ _ x.out.2.2 underlying32 rfl J.out ?_)
 refine (c.out _).mono ?_;rintro e K ⟨rfl,j⟩;have i:=x.out.1.trans j J8;have y:=x.out.2.1.frame j id;have B:=x.out.2.2.frame j id;have O:=ae (o.out (K.alloc (.cells #[.int .u64 X] 34)) (i.alloc _) w.heap.size K.heap.size (w.heap.size+1) ⟨y.alloc _,ay.new K _ _,B.alloc _⟩ ⟨ag _,i.size,by omega⟩);have N:=ae (m.out _ · (i.alloc (.cells #[.int .u64 X] 34)));clear o m c j i y B x k1;go_wp2_with fail
 refine O.out.mono ?_;rintro e P ⟨rfl,hp⟩;have hq:=N.out _ hp;clear O N hp;have R:(Instr.field 106 (.agg #[(0:Int),(0:Int)]) 0).run prog P= .ok (.int .i64 0) P:=by kernel_rfl
 go_wp2;go_ret;exact ⟨rfl,hq⟩
end
def o0(L:Nat->Nat)(fr z n:Nat):Nat->Nat:=fun k=>if z<=k/\k<z+n then L (fr+(k-z)) else L k
theorem EV(L:Nat->Nat)(fr z:Nat):o0 L fr z 0=L:=by
 funext k;unfold o0;grind
theorem EW(L:Nat->Nat)(fr z n:Nat):eb (o0 L fr z n) (z+n) (L (fr+n))=o0 L fr z (n+1):=by
 funext k;show (if k=z+n then L (fr+n) else if z<=k/\k<z+n then L (fr+(k-z)) else L k)=if z<=k/\k<z+(n+1) then L (fr+(k-z)) else L k
 grind
def iE(L:Nat->Nat)(fr n i:Nat):List Nat:=(List.range n).map (fun j=>if j<i then L (fr+j) else 0)
theorem yV(L:Nat->Nat)(fr n:Nat):iE L fr n 0=List.replicate n 0:=by
 unfold iE;apply eO
 grind
theorem mP(L:Nat->Nat)(fr n i j:Nat)(h:j<n):(iE L fr n i)[j]? =some (if j<i then L (fr+j) else 0):=by
 grind [iE]
theorem Cd(L:Nat->Nat)(fr n i:Nat)(h:i<n):(iE L fr n i).set i (L (fr+i))=iE L fr n (i+1):=by
 apply eO;intro j;by_cases a:j<n
 ·rw [mP _ _ _ _ _ a,cq];by_cases e:i=j
  ·subst e;rw [if_pos rfl,if_pos (by simpa [iE] using h),if_pos (by omega)]
  ·rw [if_neg e,mP _ _ _ _ _ a]
   grind
 grind [iE]
def uU(I:jW)(t:TypeId)(v:Value)(b lo q:Nat)(L:Nat->Nat)(S:Nat->Prop)(m:Nat)(xs:List Nat)(w w':World):Prop:=
 ∃S':Nat->Prop,wV I t v b lo L S' m w'/\Fr (fun k=>S k\/k=b\/q<=k) w w'/\(∀k,S' k->S k\/w.heap.size<=k)/\ay w' q (eK xs) 34/\w.heap.size<=w'.heap.size
section
variable{t:TypeId}{v:Value}{fl fs:Nat}{r:Value}{I:jW}{dom:Nat->Prop}{L L' L'':Nat->Nat}{S S1:Nat->Prop}{w w1 w2:World}{b lo q m m' n:Nat}{xs:List Nat}
theorem uU.op(o:q<lo)(l:b<q)(e:lo=w.heap.size)(j:¬S q)(c:Fr (fun k=>S k\/k=b\/q<=k) w w1)(i:∀k,S1 k->S k\/w.heap.size<=k)(d:ay w1 q (eK xs) 34)(hp:CD I t v b lo L' S1 m' w1 w2):uU I t v b lo q L' S m' xs w w2:=by
 obtain ⟨S2,g,a,s⟩:=hp;have p:=c.size;have f:=a.size;refine ⟨S2,g,c.trans a (fun k h=> ?_),fun k h=> ?_,d.frame a (fun h=> ?_),by omega⟩
 ·grind
 ·grind
 grind
theorem uU.set(c:iu I)(E:q<lo)(D:b<q)(x:lo=w.heap.size)(C:¬S q)(h:uU I t v b lo q L S m xs w w1)(i y:Nat):uU I t v b lo q L S m (xs.set i y) w (w1.setCell ⟨q,i,none⟩ (.int .u64 y)):=by
 obtain ⟨S1,⟨f,g,A,j,sl,ys,l,d,o⟩,p,s,u,B⟩:=h;have z:¬S1 q:=fun h=>by grind
 have hf:Fr (fun k=>k=q) w1 (w1.setCell ⟨q,i,none⟩ (.int .u64 y)):=(Kb (fun k=>k=q) w1).setCell ⟨q,i,none⟩ (.inl rfl) _;have F:=hf.size;refine ⟨S1,⟨c _ _ _ _ _ f hf (fun k a e=>z (e▸a)),g,by omega,j,sl,ys,l.frame hf (fun e=>by omega),dL d hf (fun k a e=>by have:=(d.lt k a).1;omega),o⟩,p.trans hf (fun k e=> .inl (.inr (.inr (by omega)))),s,?_,by omega⟩;have:=u.set i (.int .u64 y)
 grind [eK,List.map_set]
def xm(w:World)(c1 c2 c3 fr z p f g:Nat):Prop:=ay w c1 [(p:Int),(f:Int),(g:Int)] 32/\ay w c2 [(fr:Int)] 3/\ay w c3 [(z:Int)] 3
theorem xm.Qb{w w':World}{c1 c2 a fr z p f g:Nat}{T:Nat->Prop}(h:xm w c1 c2 a fr z p f g)(hf:Fr T w w')(c:¬T c1)(d:¬T c2)(e:¬T a):xm w' c1 c2 a fr z p f g:=⟨h.1.frame hf c,h.2.1.frame hf d,h.2.2.frame hf e⟩
def GZ(I:jW)(b:Nat)(L:Nat->Nat)(S:Nat->Prop)(w:World)(e:Ending)(w':World):Prop:=e= .returned (.tuple #[])/\∃S':Nat->Prop,I L S' w'/\Fr (fun k=>S k\/k=b\/w.heap.size<=k) w w'/\∀k,S' k->S k\/w.heap.size<=k
theorem Ir(U:iu I)(hs:cY t v fl r I dom)(ht:qy t v fs r I dom)(hi:I L S w)(hb:ay w b [.iface t v,.slice none 0 0] 157)(c1 c2 c3 fr z p f g:Nat)(Z:xm w c1 c2 c3 fr z p f g)(ho:dD p f g)
  (d:∀k,k=c1\/k=c2\/k=c3\/k=b->¬S k) (F:c1≠b/\c2≠b/\c3≠b) (hA:fr<4611686018427387904) (hZ:z<4611686018427387904) (Xg:∀k,fr<=k->k<fr+(1+(p+f+g))->dom k/\L k<18446744073709551616) (Xl:∀k,z<=k->k<z+(1+(p+f+g))->dom k):
  Calls prog 213 #[b,c1,c2,c3] w (GZ I b (o0 L fr z (1+(p+f+g))) S w):=by
 have hN:p+f+g<256:=by obtain ⟨_,E,_,X,_,Y,h4⟩:=ho;omega
 have V:=ae (fun w1=>iK p f g w1);have aq:fO p f g=((1+(p+f+g):Nat):Int):=by rw [fO,if_pos ho];push_cast;omega
 rw [aq] at V;unfold ft at V;have aj:Hid ((prog.info? 32).map (·.size)=some 3):=by show _=_;kernel_rfl
 obtain ⟨n,hn⟩:∃n,1+(p+f+g)=n:=⟨_,rfl⟩;rw [hn] at V Xg Xl ⊢;have aC:n<=256:=by omega
 have aA:=vP n (by omega) (n:Int) rfl;have a:=hs.lt _ _ _ hi;have az:=hb.lt;unfold jn at V;have HH:=ae Z.1;have ah:=ae (fun w1 (hf:J7 w w1)=>by
  have hz:=hf.size;have R:J7 w (w1.alloc (.cells (eK (List.replicate n 0)).toArray 34)):=hf.alloc _;have ar:(w1.alloc (.cells (eK (List.replicate n 0)).toArray 34)).heap.size=w1.heap.size+1:=aY _;have h0:uU I t v b (w1.heap.size+1) w1.heap.size L S 0 (iE L fr n 0) (w1.alloc (.cells (eK (List.replicate n 0)).toArray 34)) (w1.alloc (.cells (eK (List.replicate n 0)).toArray 34)):=
   ⟨S,⟨hs.Qb hi R,by omega,by omega,d b (by simp),_,[],hb.frame R id,World.ownsRow_nil _ _ _ _,fun k hk=>by simp [Value.ownBlock] at hk⟩,Kb _ _,fun _ h=> .inl h,by rw [yV];exact ay.new w1 _ _,ag _⟩
  exact (⟨R,ar,hz,h0⟩:J7 w (w1.alloc (.cells (eK (List.replicate n 0)).toArray 34))/\(w1.alloc (.cells (eK (List.replicate n 0)).toArray 34)).heap.size=w1.heap.size+1/\w.heap.size<=w1.heap.size/\uU I t v b (w1.heap.size+1) w1.heap.size L S 0 (iE L fr n 0) (w1.alloc (.cells (eK (List.replicate n 0)).toArray 34)) (w1.alloc (.cells (eK (List.replicate n 0)).toArray 34))))
 have ad:=ae (fun (W:World) q (s:w.heap.size<=q/\W.heap.size=q+1) w1 i (T:i<n) (h:uU I t v b (q+1) q L S 0 (iE L fr n i) W w1)=>by
  obtain ⟨S1,E,X,Y,h4,h5⟩:=h;have D:¬S q:=fun h=>by have:=a _ h;omega
  exact (sP hs E (fr+i) (Xg _ (by omega) (by omega)).1).mono (fun e w2 ⟨he,hp⟩=>(⟨he,uU.op (by omega) (by omega) s.2.symm D X Y h4 hp⟩:e=Ending.returned (.int .u64 ((L (fr+i):Nat):Int))/\uU I t v b (q+1) q L S 0 (iE L fr n i) W w2)))
 have K:=ae (fun (W:World) q (s:w.heap.size<=q/\W.heap.size=q+1) w1 i (T:i<n) (h:uU I t v b (q+1) q L S 0 (iE L fr n i) W w1)=>by
  have D:¬S q:=fun h=>by have:=a _ h;omega
  have:=uU.set U (by omega) (by omega) s.2.symm D h i (L (fr+i));rwa [Cd _ _ _ _ T] at this)
 have ak:=ae (fun (W:World) q (s:w.heap.size<=q/\W.heap.size=q+1) w1 i (T:i<n) (h:uU I t v b (q+1) q (o0 L fr z i) S i (iE L fr n n) W w1)=>by
  obtain ⟨S1,E,X,Y,h4,h5⟩:=h;have D:¬S q:=fun h=>by have:=a _ h;omega
  have hk:=nz U hs ht E (z+i) (L (fr+i)) (Xl _ (by omega) (by omega)) (Xg _ (by omega) (by omega)).2 (by omega);rw [EW] at hk;exact hk.mono (fun e w2 ⟨he,hp⟩=>(⟨he,uU.op (by omega) (by omega) s.2.symm D X Y h4 hp⟩:e=Ending.returned (.tuple #[])/\uU I t v b (q+1) q (o0 L fr z (i+1)) S (i+1) (iE L fr n n) W w2)))
 have H:=ae (fun (W:World) q (s:w.heap.size<=q/\W.heap.size=q+1) (o:J7 w W) w1 (hf:Fr (fun k=>S k\/k=b\/q<=k) W w1)=>(Z.Qb o id id id).Qb hf
  (fun h=>by have l1:=Z.1.lt;rcases h with h|h|h;exact d c1 (by simp) h;exact F.1 h;omega)
  (fun h=>by have l1:=Z.2.1.lt;rcases h with h|h|h;exact d c2 (by simp) h;exact F.2.1 h;omega)
  (fun h=>by have l1:=Z.2.2.lt;rcases h with h|h|h;exact d c3 (by simp) h;exact F.2.2 h;omega))
 have B:=ae (fun (W:World) q (s:w.heap.size<=q/\W.heap.size=q+1) (o:J7 w W) w1 m xs (h:uU I t v b (q+1) q (o0 L fr z n) S m xs W w1)=>by
  obtain ⟨S1,E,X,Y,h4,h5⟩:=h;exact (show GZ I b (o0 L fr z n) S w (Ending.returned (.tuple #[])) w1 from ⟨rfl,S1,E.1,(o.mono (S':=fun k=>S k\/k=b\/w.heap.size<=k) J8).trans X (fun k h=>by
   rcases h with h|h|h
   ·exact .inl (.inl h)
   ·exact .inl (.inr (.inl h))
   ·exact .inl (.inr (.inr (by omega)))),fun k h=>by
   rcases Y k h with h|h
   ·exact .inl h
   ·exact .inr (by omega)⟩))
 obtain ⟨Q,hQ⟩:∃Q,Q=GZ I b (o0 L fr z n) S w:=⟨_,rfl⟩;rw [<-hQ] at B ⊢;clear hQ U hs ht hi hb Z ho d F Xg Xl aq hN a az
 go_enter func213,ntmps213
 go_wp2_with (refine wpList_load_row rfl 32 _ rfl c1 rfl 32 #[(p:Int),(f:Int),(g:Int)] _ _ HH.out underlying32 rfl aj.out ?_)
 refine (V.out _).mono ?_;rintro e w1 ⟨rfl,am⟩;have O:=ae (ah.out _ am);clear ah V am
 go_upto_region 1 with fail
 obtain ⟨W,hW⟩:∃W,w1.alloc (.cells (eK (List.replicate n 0)).toArray 34)=W:=⟨_,rfl⟩;rw [hW] at O ⊢;clear hW aA aj HH;obtain ⟨o,av,ax,h0⟩:=O.out;generalize w1.heap.size=q at*;have s:w.heap.size<=q/\W.heap.size=q+1:=⟨ax,av⟩;have J:=ae (ad.out W q s);have C:=ae (K.out W q s);have al:=ae (ak.out W q s);have A:=ae (H.out W q s o);have M:=ae (B.out W q s o);have H0:=ae h0;clear ad K ak H B O o av ax s h0 w1;go_wp2
 go_loopw [14] (fun x wr=>∃(i:Nat),x= .int .i64 i/\i<=n/\Hid (uU I t v b (q+1) q L S 0 (iE L fr n i) W wr)) (fun x _=>(n-intOf x).toNat)
 case atStart=>exact ⟨0,rfl,by omega,H0⟩
 case round=>
  clear H0;obtain ⟨i,rfl,E,u⟩:=hrel;by_cases a:i<n
  ·have ao:(i:Int)<(n:Int):=by omega
   have k2:=(A.out _ u.out.choose_spec.2.1).2.1.cell 0 rfl;have aB:IntKind.i64.wrap ((fr:Int)+(i:Int))=(fr:Int)+(i:Int):=by rw [IntKind.wrap_i64];omega
   have l:=J.out _ i a u.out;rw [show ((fr+i:Nat):Int)=(fr:Int)+(i:Int) by push_cast;rfl] at l;have c:=ae l;clear l u;go_wp2_with fail
   refine c.out.mono ?_;rintro e w3 ⟨rfl,y⟩;have N:=ae (C.out _ i a y);have P:=y.choose_spec.2.2.2.1;have ck:=P.cell i (v:= .int .u64 ((if i<i then L (fr+i) else 0:Nat):Int)) (by unfold eK;rw [aR,mP _ _ _ _ _ a];rfl);have fk:=P.free i;clear y P c;go_wp2;go_roundw
   case rel=>exact ⟨i+1,by go_num,by omega,N⟩
   case measure=>simp [intOf];omega
  ·have an:i=n:=by omega
   have H1:=ae (show uU I t v b (q+1) q (o0 L fr z 0) S 0 (iE L fr n n) W wr from by rw [EV];rw [an] at u;exact u.out);have ap:¬(i:Int)<(n:Int):=by omega
   clear u E a an J C;go_wp2
   go_loopw [28] (fun x wr=>∃(i:Nat),x= .int .i64 i/\i<=n/\Hid (uU I t v b (q+1) q (o0 L fr z i) S i (iE L fr n n) W wr)) (fun x _=>(n-intOf x).toNat)
   case atStart=>exact ⟨0,rfl,by omega,H1⟩
   case round=>
    clear H1 ap;obtain ⟨j,rfl,E,u⟩:=hrel;by_cases a:j<n
    ·have ao:(j:Int)<(n:Int):=by omega
     have k3:=(A.out _ u.out.choose_spec.2.1).2.2.cell 0 rfl;have ck:=u.out.choose_spec.2.2.2.1.cell j (v:= .int .u64 ((L (fr+j):Nat):Int)) (by unfold eK;rw [aR,mP _ _ _ _ _ a,if_pos a];rfl);have aB:IntKind.i64.wrap ((z:Int)+(j:Int))=(z:Int)+(j:Int):=by rw [IntKind.wrap_i64];omega
     have l:=al.out _ j a u.out;rw [show ((z+j:Nat):Int)=(z:Int)+(j:Int) by push_cast;rfl] at l;have c:=ae l;clear l u;go_wp2_with fail
     refine c.out.mono ?_;rintro e w3 ⟨rfl,y⟩;have N:=ae y;clear y c;go_wp2;go_roundw
     case rel=>exact ⟨j+1,by go_num,by omega,N⟩
     case measure=>simp [intOf];omega
    ·have G:j=n:=by omega
     have ap:¬(j:Int)<(n:Int):=by omega
     have H2:=ae (M.out wr j _ (by rw [<-G] at*;rw [G];rw [G] at u;exact u.out));clear u E a G;go_wp2;go_end0;exact H2.out
end
section
variable{t:TypeId}{v:Value}{fl fs:Nat}{r:Value}{I:jW}{dom:Nat->Prop}{L L' L'':Nat->Nat}{S:Nat->Prop}{w w1 w2:World}{b lo n:Nat}
theorem CP(j:cY t v fl r I dom)(i:I L S w)(F:Nat)(cap:Array Value)(o:∀args w,(callFunc F args).run prog w= .ok (.enter F args) w)
  (p:∀b w1,J7 w w1->w.heap.size<=b->I L S w1->ay w1 b [.iface t v,.slice none 0 0] 157->Calls prog F (#[.pointer (some ⟨b,0,none⟩)]++cap) w1 (GZ I b L' S w1)):
  Calls prog 56 #[.iface t v,.func (.func F) #[] cap] w (fc I L' S w (.agg #[(0:Int),(0:Int)])):=by
 have x:=j.lt _ _ _ i;refine (tW t v F cap o w (fun w1 w2=>∃S':Nat->Prop,I L' S' w2/\Fr (fun k=>S k\/w.heap.size<=k) w1 w2/\∀k,S' k->S k\/w1.heap.size<=k) (fun b w1 hf q s g=> ?_)).mono ?_
 ·refine (p b w1 hf q (j.Qb i hf) g).mono ?_;rintro e w2 ⟨rfl,S',f,d,l⟩;refine ⟨rfl,⟨S',f,d.mono (fun k h=> ?_),l⟩,_,fun k h=> ?_,d⟩
  ·grind
  grind
 ·rintro e w' ⟨rfl,w1,w2,a,⟨S',f,d,l⟩,c⟩;have y:=a.size;refine ⟨rfl,S',j.Xp i f c (fun k u m=> ?_) (fun k m=>m.1),?_,fun k u=> ?_⟩
  ·grind
  ·exact ((a.mono (S':=S) J8).trans d (fun k h=>h)).trans c (fun k h=> .inr h.1)
  grind
theorem DE(P:iu I)(l:cY t v fl r I dom)(ht:qy t v fs r I dom)(X:I L S w)(a z p f g:Nat)(ha:1<=a)(hz:1<=z)(hA:a<4611686018427387904)(hZ:z<4611686018427387904)(ho:lw L a p f g)(Xg:∀k,a<=k->k<a+(1+(p+f+g))->dom k/\L k<18446744073709551616)(Xl:∀k,z<=k->k<z+(1+(p+f+g))->dom k):
  Calls prog 182 #[.iface t v,(a:Int),(z:Int)] w (fc I (o0 L a z (1+(p+f+g))) S w (.int .i64 0)):=by
 have an:∀(fn:Fn) (first cap:Array Value) (w:World),(Instr.makeFunc fn first cap).run prog w= .ok (.func fn first cap) w:=fun _ _ _ _=>rfl
 have G:=l.lt _ _ _ X;have y:=ae (fun W (hf:J7 w W)=>kr l (l.Qb X hf) a p f g ha (Xg a (ag _) (by omega)).1 ho);have q:=ae (fun W T (h1:I L T W) c1 c2 U (V:xm W c1 c2 U a z p f g) (hS:¬T c1/\¬T c2/\¬T U)=>CP (L':=o0 L a z (1+(p+f+g))) l h1 213 #[c1,c2,U] (enters_of func213 (by kernel_rfl) rfl) (fun b w1 F hb hw ad=>Ir P l ht hw ad c1 c2 U a z p f g (V.Qb F id id id) ho.2 (fun k hk=>by
   have hl:=l.lt _ _ _ h1;rcases hk with rfl|rfl|rfl|rfl
   ·exact hS.1
   ·exact hS.2.1
   ·exact hS.2.2
   ·exact fun h=>by have:=hl _ h;omega) (by
   have l1:=V.1.lt;have l2:=V.2.1.lt;have l3:=V.2.2.lt;exact ⟨by omega,by omega,by omega⟩) hA hZ Xg Xl))
 have HK:=ae (fun (W1 c i A:World) (F:J7 w W1) (hp:je I L S W1 c) S2 (m:I L S2 i/\Fr S W1 c/\J7 c i/\(∀k,S2 k->S k\/W1.heap.size<=k)) (H:je I (o0 L a z (1+(p+f+g))) S2 i A)=>by
  have J:=m.2.1.size;exact (show je I (o0 L a z (1+(p+f+g))) S w A from l.Ah F X (pm (m.2.1.trans m.2.2.1 J8) m.2.2.2 H)))
 have x:=ae (fun (c i:World) S2 (h:I L S2 c) (hf:J7 c i)=>l.Qb h hf);have K:=ae (fun (c:World) S2 (h:I L S2 c)=>l.lt _ _ _ h);unfold zg at y;generalize o0 L a z (1+(p+f+g))=L2 at*;unfold fc at*;have am:(1:Int)<=(a:Int):=by omega
 have ao:(1:Int)<=(z:Int):=by omega
 clear P l ht X ho Xg Xl hA ha hZ hz;unfold ft at*
 go_enter func182,ntmps182
 go_upto_region 1 with fail
 obtain ⟨W1,j⟩:∃W1,(w.alloc (.cells #[(a:Int)] 3)).alloc (.cells #[(z:Int)] 3)=W1:=⟨_,rfl⟩;have J:(w.alloc (.cells #[(a:Int)] 3)).heap.size=w.heap.size+1:=aY _;have C:J7 w W1:=by rw [<-j];exact ((Kb _ w).alloc _).alloc _
 have B:ay W1 w.heap.size [(a:Int)] 3:=by rw [<-j];exact (ay.new w [(a:Int)] 3).alloc _
 have O:ay W1 (w.heap.size+1) [(z:Int)] 3:=by
  have h:=ay.new (w.alloc (.cells #[(a:Int)] 3)) [(z:Int)] 3;rw [J] at h;rw [<-j];exact h
 rw [j];clear j J;have k1:=B.cell 0 rfl;have u:=ae (af C (af B O));have o:=ae (y.out _ C);clear C B O y;go_wp2_with fail
 refine o.out.mono ?_;rintro e c ⟨rfl,hp⟩;obtain ⟨S2,Y,R,Z⟩:=id hp;have ak:=u.out.1.size;have ah:=u.out.2.1.lt;have aj:=u.out.2.2.lt;have n1:¬S w.heap.size:=fun h=>by have:=G _ h;omega
 have n2:¬S (w.heap.size+1):=fun h=>by have:=G _ h;omega
 have M:=u.out.2.1.frame R n1;have D:=u.out.2.2.frame R n2;have Q:=R.size;obtain ⟨i,E⟩:∃i,c.alloc (.cells #[(p:Int),(f:Int),(g:Int)] 32)=i:=⟨_,rfl⟩;have d:J7 c i:=by rw [<-E];exact (Kb _ _).alloc _
 have N:ay i c.heap.size [(p:Int),(f:Int),(g:Int)] 32:=by rw [<-E];exact ay.new c _ _
 have k3:=(D.frame d id).cell 0 rfl;have s:∀k,S2 k->k<c.heap.size:=K.out _ _ Y;have HR:=ae (q.out i S2 (x.out _ _ _ Y d) c.heap.size w.heap.size (w.heap.size+1) ⟨N,M.frame d id,D.frame d id⟩ ⟨fun h=>by have:=s _ h;omega,fun h=>by rcases Z _ h with h|h;exact n1 h;omega,fun h=>by rcases Z _ h with h|h;exact n2 h;omega⟩);have HE:=ae (fun A H=>HK.out W1 c i A u.out.1 hp S2 ⟨x.out _ _ _ Y d,R,d,Z⟩ H);clear q HK x u Y R Z hp M D d N n1 n2 ak Q ah aj s o G k1 K
 go_upto_region 2 with fail
 clear E;go_wp2_with fail
 refine HR.out.mono ?_;rintro e A ⟨rfl,hp⟩;have hq:=HE.out _ hp;have al:(Instr.field 106 (.agg #[(0:Int),(0:Int)]) 0).run prog A= .ok (.int .i64 0) A:=by kernel_rfl
 clear HR HE hp;go_wp2;go_ret;exact ⟨rfl,hq⟩
end
def cX(W Pg:Nat)(mp:Nat->Bool)(a:Nat):Prop:=a<W/\mp (a/Pg)=true
def dJ(m Pg W Rm Us Hg:Nat)(mp:Nat->Bool):jW:=fun L S w=>∃M,dQ w m S Pg W Rm Us Hg mp M/\∀a,cX W Pg mp a->M a=L a
theorem dQ.lt{S:Nat->Prop}{w:World}{m Pg W Rm Us Hg:Nat}{mp:Nat->Bool}{M:Nat->Nat}(h:dQ w m S Pg W Rm Us Hg mp M):∀k,S k->k<w.heap.size:=by
 obtain ⟨p,B,A,z,ws,x,l,j,g,o,y,fr,n,f,a,c,q,r,s,t,u,v,b⟩:=h;intro k e;rcases (b k).1 e with h|(h|h|h|h)|(h|h|h)
 ·rw [h];exact f.lt
 ·rw [h];exact a.Qd.lt
 ·exact (a.rw.lt k h).2
 ·exact (a.rt.lt k h).2
 ·exact (a.rb.lt k h).2
 ·rw [h];exact c.Qd.lt
 ·rw [h];exact c.row.lt
 ·obtain ⟨i,d⟩:=bc.1 h;exact (c.Qo i k d).lt
theorem cD(m Pg W Rm Us Hg:Nat)(mp:Nat->Bool):iu (dJ m Pg W Rm Us Hg mp):=fun L S w1 w2 T ⟨M,a,b⟩ hf c=>⟨M,a.frame hf c,b⟩
theorem bR(m Pg W Rm Us Hg:Nat)(mp:Nat->Bool):cY 52 (.pointer (some ⟨m,0,none⟩)) 187 (.pointer (some ⟨m,0,none⟩)) (dJ m Pg W Rm Us Hg mp) (cX W Pg mp) where
 Yf:=fun w=>by kernel_rfl
 Yg:=enters_of func187 (by kernel_rfl) rfl
 stays:=fun L S w1 w2 T ⟨M,b,c⟩ hf i _=>⟨M,b.frame hf i,c⟩
 Xu:= .inl (cD m Pg W Rm Us Hg mp)
 lt:=fun L S w ⟨M,b,_⟩=>b.lt
 load:=fun L S w a ⟨M,b,c⟩ f=>(jB b a f.1 f.2).mono (fun e w' ⟨j,d⟩=>⟨by grind,S,⟨M,b.Qb d,c⟩,d.mono J8,fun k g=> .inl g⟩)
theorem rB(m Pg W Rm Us Hg:Nat)(mp:Nat->Bool):qy 52 (.pointer (some ⟨m,0,none⟩)) 188 (.pointer (some ⟨m,0,none⟩)) (dJ m Pg W Rm Us Hg mp) (cX W Pg mp) where
 Xv:=fun w=>by kernel_rfl
 Xw:=enters_of func188 (by kernel_rfl) rfl
 store:=fun L S w a x ⟨M,d,l⟩ c j=>(pC d a x c.1 c.2 j).mono (fun e w' ⟨f,g,h⟩=>⟨f,S,⟨eb M a x,g,fun b n=>by
  grind [eb]⟩,h,fun k i=> .inl i⟩)
def nI(l:List Nat):List Value:=l.map fun x:Nat=>Value.int .i64 x
structure cz(w:World)(b g:Nat)(ls:List Nat):Prop where
 Qd:ay w b [.slice (some g) ls.length ls.length] 100
 row:ay w g (nI ls) 3
 ne:b≠g
 one:1<=ls.length
 small:ls.length<=64
theorem cz.frame{T:Nat->Prop}{w w':World}{b g:Nat}{ls:List Nat}(h:cz w b g ls)(hf:Fr T w w')(a:¬T b)(c:¬T g):cz w' b g ls:=⟨h.Qd.frame hf a,h.row.frame hf c,h.ne,h.one,h.small⟩
theorem cz.get{w:World}{b g:Nat}{ls:List Nat}(h:cz w b g ls){i a:Nat}(c:ls[i]? =some a):w.cell? ⟨g,i,none⟩=some (a:Int):=h.row.cell i (by grind [nI])
theorem Bw(k:Nat)(g:k<=16777216)(X:Int)(a:X=(k:Int))(w:World):(Instr.makeSlice 65 (.int .i64 X) (.int .i64 X)).run prog w= .ok (.slice (some w.heap.size) k k) (w.alloc (.cells (nI (List.replicate k 0)).toArray 3)):=by
 obtain ⟨e,b,d,c,f⟩:=info_parts jE;subst a;have h:=run_makeSlice (P:=prog) w 65 3 e (.int .i64 0) underlying65 b d .i64 .i64 (k:Int) (k:Int) (by omega) (mx _) (by grind) (by grind) (by omega);rw [c,eP,fu,show (Value.int .i64 0).cells= #[.int .i64 0] from rfl,oz] at h
 grind [nI,List.map_replicate]
theorem vn(n:Nat)(f:1<=n)(h:n<=64)(w:World):Calls prog 48 #[(n:Int)] w fun e w'=>∃b g,e= .returned (.tuple #[.pointer (some ⟨b,0,none⟩),(0:Int)])/\cz w' b g (List.replicate n 0)/\w.heap.size<=b/\w.heap.size<=g/\J7 w w':=by
 have i:=Bw n (by omega) (n:Int) rfl w;have k:¬(n:Int)<1:=by omega
 have l:¬(64:Int)<(n:Int):=by omega
 have d:Hid (∀W1 a,W1=w.alloc (.cells (nI (List.replicate n 0)).toArray 3)->a=W1.alloc (.cells #[.slice (some w.heap.size) n n] 100)->cz a (w.heap.size+1) w.heap.size (List.replicate n 0)/\w.heap.size<=w.heap.size+1/\w.heap.size<=w.heap.size/\J7 w a):=by
  show∀W1 a,_
  rintro W1 a rfl rfl;have j:(w.alloc (.cells (nI (List.replicate n 0)).toArray 3)).heap.size=w.heap.size+1:=aY _;have c:=ay.new (w.alloc (.cells (nI (List.replicate n 0)).toArray 3)) [.slice (some w.heap.size) n n] 100;rw [j] at c;refine ⟨⟨by rw [bB];exact c,(ay.new w _ _).alloc _,by omega,by rw [bB];exact f,by rw [bB];exact h⟩,by omega,ag _,((Kb _ w).alloc _).alloc _⟩
 go_enter func48,ntmps48
 go_wp2;refine bodyPost_ret (results_tmp2 rfl _ _ _) rfl ?_;exact ⟨_,rfl,_,d.out _ _ rfl rfl⟩
theorem ra{w:World}{b g:Nat}{ls:List Nat}(h:cz w b g ls):Calls prog 106 #[b] w fun e w'=>e= .returned (.int .i64 (ls.length:Int))/\w=w':=by
 have a:=h.Qd.cell 0 rfl;clear h
 go_enter func106,ntmps106
 go_wp2;go_ret;exact ⟨rfl,rfl⟩
def E8(ls:List Nat)(w:World)(e:Ending)(w':World):Prop:=∃g cap,e= .returned (.slice (some ⟨g,0,none⟩) ls.length cap)/\w.heap.size<=g/\g<w'.heap.size/\(∀(i a:Nat),ls[i]? =some a->w'.cell? ⟨g,i,none⟩=some (a:Int))/\J7 w w'
theorem ol{w:World}{b g:Nat}{ls:List Nat}(h:cz w b g ls):Calls prog 125 #[b] w (E8 ls w):=by
 have q:=h.Qd.cell 0 rfl;have u:=h.small;have m:=ae (Tryz.slices_Clone_int g 0 ls.length ls.length (ls.map Int.ofNat) w (by simp) (by omega) (fun j l=>by
  rw [cQ] at l;rw [bq];have:=h.get (aC l);rw [this,bX,aR,aC l];rfl))
 have r:=h.one;have n:Hid (∀c w',w'.ownsRow w.heap.size 3 1 c ls.length (((ls.map Int.ofNat).take ls.length).map (Value.int .i64))->Below w.heap.size w w'->E8 ls w (.returned c) w'):=by
  show∀c w',_
  intro c w' d f;rcases d.2 with ⟨_,v⟩|⟨g',cap,cur,rfl,s,t,_⟩
  ·omega
  ·refine ⟨g',cap,rfl,s,(bE.1 t).1,fun i a o=> ?_,Fr.Yr f⟩;have k:=(aj.1 o).1;rw [d.cellAt i (by omega),aR,jN,if_pos k,aR,o];rfl
 generalize (E8 ls w)=Q at*;clear h r u
 go_enter func125,ntmps125
 go_wp2_with fail
 refine m.out.mono ?_;rintro e w' ⟨c,rfl,d,_,f⟩;have p:=ae (n.out c w' d f);clear d f n m q;go_wp2;exact p.out
theorem lL{P:Program}{d:Nat}{Q:Exit->Act->World->Prop}{a:Act}{w:World}{l:List Oper}(n:Nat)(c:(P.follows .mixedOrders&&Region.lexTailB .any l.toArray n)=true)
  (h:wpQuiet P l.toArray (fun w'=>∃k,w'=w.drewN k) (fun b=>∀w',(∃k,w'=w.drewN k)->wpList P l.toArray Q (l.drop n) b w') (l.take n) a):
  (Code.region d l.toArray true).wp P Q a w:=by
 exact bz (fun w'=>∃k,w'=w.drewN k) n c ⟨1,rfl⟩ h
def my(n:Nat)(z:Int):Prop:=0<=z/\z<n
section
variable{w:World}{b g:Nat}{ls:List Nat}
theorem rd(h:cz w b g ls)(x k c:Nat)(zs:List Int)(d:zs.length=k)(C:∀(j:Nat) (z:Int),zs[j]? =some z->w.cell? ⟨x,j,none⟩=some (z:Int))(K:k<=64):
  Calls prog 50 #[b,.slice (some x) k c] w fun e w'=>((∀z∈zs,my ls.length z)/\e= .returned (0:Int)\/(¬∀z∈zs,my ls.length z)/\e= .returned (17:Int))/\w=w':=by
 have G:=h.Qd.cell 0 rfl;have L:=h.small;have t:Hid (∀j:Nat,j<k->∃z:Int,z∈zs/\w.cell? ⟨x,j,none⟩=some (z:Int)/\((∀y∈zs.take j,my ls.length y)->my ls.length z->∀y∈zs.take (j+1),my ls.length y)):=by
  show∀j:Nat,_
  intro j J;have q:j<zs.length:=by omega
  have e:=aC q;refine ⟨zs[j],qc q,C j _ e,fun u D y f=> ?_⟩;rw [bC,e] at f;simp only [Option.toList_some,eI,dc] at f;rcases f with f|rfl
  ·exact u y f
  ·exact D
 have s:Hid (∀y:List Int,y=zs.take k->(∀z∈y,my ls.length z)->∀z∈zs,my ls.length z):=by
  show∀y:List Int,_
  intro y e h;rwa [e,bN (by omega)] at h
 have o:Hid (∀z∈zs,¬my ls.length z->¬∀z∈zs,my ls.length z):=ae (fun z d n h=>n (h z d));have v:Hid (∀y∈zs.take 0,my ls.length y):=ae (fun y f=>by rw [aA] at f;exact absurd f (by simp));generalize E:(∀z∈zs,my ls.length z)=P at*;clear h C d E
 go_enter func50,ntmps50
 go_wp2
 go_loopw [11] (fun p wr=>∃(i:Nat),p= .int .i64 i/\i<=k/\wr=w/\Hid (∀y∈zs.take i,my ls.length y)) (fun p _=>(k-intOf p).toNat)
 case atStart=>exact ⟨0,rfl,by omega,by first|trivial|rfl,v⟩
 case round=>
  clear v;obtain ⟨i,rfl,u,rfl,m⟩:=hrel;by_cases r:i<k
  ·have B:(i:Int)<(k:Int):=by omega
   obtain ⟨z,d,H,n⟩:=t.out i r;by_cases I:z<0
   ·have l:=ae (o.out z d (fun h=>by unfold my at h;omega));clear d n o t s m;go_wp2;go_ret;exact ⟨.inr ⟨l.out,rfl⟩,rfl⟩
   ·by_cases A:(ls.length:Int)<=z
    ·have l:=ae (o.out z d (fun h=>by unfold my at h;omega));clear d n o t s m;go_wp2;go_ret;exact ⟨.inr ⟨l.out,rfl⟩,rfl⟩
    ·have a:=ae (n m.out ⟨by omega,by omega⟩);have A:decide ((ls.length:Int)<=z)=false:=by rw [decide_eq_false_iff_not];exact A
     clear d n m;go_wp2;go_roundw
     case rel=>exact ⟨i+1,by go_num,by omega,by first|trivial|rfl,a⟩
     case measure=>simp [intOf];omega
  ·have F:¬(i:Int)<(k:Int):=by omega
   have a:=ae (s.out _ (by rw [show i=k by omega]) m.out);clear u r m t s o;go_wp2;go_ret;exact ⟨.inl ⟨a.out,rfl⟩,rfl⟩
theorem zC(h:cz w b g ls)(z:Int){W1:World}(c:W1=w.alloc (.cells #[(z:Int)] 3)):Calls prog 50 #[b,.slice (some w.heap.size) 1 1] W1 fun e w'=>(my ls.length z/\e= .returned (0:Int)\/¬my ls.length z/\e= .returned (17:Int))/\W1=w':=by
 subst c;have:=rd (h.frame ((Kb (fun _=>False) w).alloc (.cells #[(z:Int)] 3)) id id) w.heap.size 1 1 [z] rfl (fun j y a=>by
  match j,a with
  |0,a=>
   simp_all) (by omega)
 grind
theorem px(h:cz w b g ls)(z:Int):Calls prog 17 #[b,(z:Int)] w fun e w'=>((∃i a:Nat,z=i/\ls[i]? =some a/\e= .returned (.tuple #[(a:Int),(0:Int)]))\/¬my ls.length z/\e= .returned (.tuple #[(0:Int),(17:Int)]))/\J7 w w':=by
 have l:Hid (∀W1,W1=w.alloc (.cells #[(z:Int)] 3)->J7 w W1/\cz W1 b g ls/\W1.cell? b=some (.slice (some g) ls.length ls.length)/\Hid (Calls prog 50 #[b,.slice (some w.heap.size) 1 1] W1 fun e w'=>(my ls.length z/\e= .returned (0:Int)\/¬my ls.length z/\e= .returned (17:Int))/\W1=w')):=by
  show∀W1,_
  intro W1 e;have hf:J7 w W1:=by rw [e];exact (Kb _ w).alloc _
  have n:=h.frame hf id id;exact ⟨hf,n,n.Qd.cell 0 rfl,zC h z e⟩
 clear h
 go_enter func17,ntmps17
 go_wp2_with fail
 obtain ⟨hf,k,q,c⟩:=l.out _ rfl;generalize w.alloc (.cells #[(z:Int)] 3)=W1 at*;have m:=ae hf;clear hf l;refine c.out.mono ?_;rintro e w' ⟨⟨d,rfl⟩|⟨d,rfl⟩,rfl⟩
 ·obtain ⟨i,rfl⟩:∃i:Nat,z=i:=⟨z.toNat,by unfold my at d;omega⟩;have j:i<ls.length:=by unfold my at d;omega
  have f:=aC j;have r:=k.get f;have p:=ae f;have o:(i:Int)<(ls.length:Int):=by omega
  clear k d c f;generalize ls[i]=a at*;go_wp2;go_ret2;exact ⟨.inl ⟨i,a,rfl,p.out,rfl⟩,m.out⟩
 ·clear k c q;go_wp2;go_ret2;exact ⟨.inr ⟨d,rfl⟩,m.out⟩
theorem vo(h:cz w b g ls)(i a:Nat)(c:ls[i]? =some a):Calls prog 17 #[b,(i:Int)] w fun e w'=>e= .returned (.tuple #[(a:Int),(0:Int)])/\J7 w w':=by
 have d:=(aj.1 c).1;refine (px h i).mono ?_;rintro e w' ⟨⟨j,y,k,l,rfl⟩|⟨f,_⟩,hf⟩
 ·grind
 ·exact absurd ⟨by omega,by omega⟩ f
theorem pw(h:cz w b g ls)(z:Int)(a:Nat):Calls prog 22 #[b,(z:Int),(a:Int)] w fun e w'=>(∃i:Nat,z=i/\i<ls.length/\e= .returned (0:Int)/\cz w' b g (ls.set i a)/\Fr (fun k=>k=g) w w')\/¬my ls.length z/\e= .returned (17:Int)/\J7 w w':=by
 have m:Hid (∀W1,W1=w.alloc (.cells #[(z:Int)] 3)->J7 w W1/\cz W1 b g ls/\W1.cell? b=some (.slice (some g) ls.length ls.length)/\Hid (Calls prog 50 #[b,.slice (some w.heap.size) 1 1] W1 fun e w'=>(my ls.length z/\e= .returned (0:Int)\/¬my ls.length z/\e= .returned (17:Int))/\W1=w')):=by
  show∀W1,_
  intro W1 e;have hf:J7 w W1:=by rw [e];exact (Kb _ w).alloc _
  have o:=h.frame hf id id;exact ⟨hf,o,o.Qd.cell 0 rfl,zC h z e⟩
 clear h;have s:¬(a:Int)<0:=by omega
 go_enter func22,ntmps22
 go_wp2_with fail
 obtain ⟨hf,c,r,d⟩:=m.out _ rfl;generalize w.alloc (.cells #[(z:Int)] 3)=W1 at*;have n:=ae hf;clear hf m;refine d.out.mono ?_;rintro e w' ⟨⟨l,rfl⟩|⟨l,rfl⟩,rfl⟩
 ·obtain ⟨i,rfl⟩:∃i:Nat,z=i:=⟨z.toNat,by unfold my at l;omega⟩;have j:i<ls.length:=by unfold my at l;omega
  have t:=c.get (aC j);have u:=c.row.free i;have q:Hid (∀f,f=W1.setCell ⟨g,i,none⟩ (.int .i64 a)->cz f b g (ls.set i a)/\Fr (fun k=>k=g) w f):=by
   show∀f,_
   rintro f rfl;refine ⟨⟨by rw [aW];exact c.Qd.Qg _ _ c.ne,?_,c.ne,by rw [aW];exact c.one,by rw [aW];exact c.small⟩,(n.out.mono (S':=fun k=>k=g) J8).setCell ⟨g,i,none⟩ (.inl rfl) _⟩;have:=c.row.set i (.int .i64 a);unfold nI at*;rw [di];exact this
  have p:(i:Int)<(ls.length:Int):=by omega
  clear c l d;generalize ls[i]=v at*;go_wp2;go_ret;exact .inl ⟨i,rfl,j,rfl,q.out _ rfl⟩
 ·clear c d r;go_wp2;go_ret;exact .inr ⟨l,rfl,n.out⟩
theorem C8(h:cz w b g ls)(i a:Nat)(c:i<ls.length):Calls prog 22 #[b,(i:Int),(a:Int)] w fun e w'=>e= .returned (0:Int)/\cz w' b g (ls.set i a)/\Fr (fun k=>k=g) w w':=by
 refine (pw h i a).mono ?_;rintro e w' (⟨j,f,_,h⟩|⟨d,_⟩)
 ·grind
 ·exact absurd ⟨by omega,by omega⟩ d
theorem xH(h:cz w b g ls)(z y:Int):Calls prog 129 #[b,(z:Int),(y:Int)] w fun e w'=>(∃i f a:Nat,z=i/\i<ls.length/\y=f/\ls[f]? =some a/\e= .returned (0:Int)/\cz w' b g (ls.set i a)/\Fr (fun k=>k=g) w w')\/e= .returned (17:Int)/\J7 w w':=by
 have B:Hid (∀W1,W1=w.alloc (.cells #[(z:Int),(y:Int)] 3)->J7 w W1/\cz W1 b g ls/\W1.cell? b=some (.slice (some g) ls.length ls.length)/\Hid (Calls prog 50 #[b,.slice (some w.heap.size) 2 2] W1 fun e w'=>((∀x∈[z,y],my ls.length x)/\e= .returned (0:Int)\/(¬∀x∈[z,y],my ls.length x)/\e= .returned (17:Int))/\W1=w')):=by
  show∀W1,_
  rintro W1 rfl;have hf:=(Kb (fun _=>False) w).alloc (.cells #[(z:Int),(y:Int)] 3);have u:=h.frame hf id id;refine ⟨hf,u,u.Qd.cell 0 rfl,rd u w.heap.size 2 2 [z,y] rfl (fun j x q=> ?_) (by omega)⟩
  match j,q with
  |0,q=>
   obtain rfl:z=x:=bK q;exact (ay.new w [(z:Int),(y:Int)] 3).cell 0 rfl
  |1,q=>
   obtain rfl:y=x:=bK q;exact (ay.new w [(z:Int),(y:Int)] 3).cell 1 rfl
 clear h
 go_enter func129,ntmps129
 go_wp2_with fail
 obtain ⟨hf,c,J,l⟩:=B.out _ rfl;generalize w.alloc (.cells #[(z:Int),(y:Int)] 3)=W1 at*;have D:=ae hf;clear hf B;refine l.out.mono ?_;rintro e w' ⟨⟨s,rfl⟩|⟨s,rfl⟩,rfl⟩
 ·have n:=s z (by simp);have o:=s y (by simp);obtain ⟨i,rfl⟩:∃i:Nat,z=i:=⟨z.toNat,by unfold my at n;omega⟩;obtain ⟨f,rfl⟩:∃f:Nat,y=f:=⟨y.toNat,by unfold my at o;omega⟩;have m:i<ls.length:=by unfold my at n;omega
  have d:f<ls.length:=by unfold my at o;omega
  obtain ⟨a,r⟩:∃a,ls[f]? =some a:=⟨_,aC d⟩;obtain ⟨v,H⟩:∃v,ls[i]? =some v:=⟨_,aC m⟩;have L:=c.get H;have K:=c.get r;have M:=c.row.free i;have I:=ae r;have C:Hid (∀k p,p=(W1.drewN k).setCell ⟨g,i,none⟩ (.int .i64 a)->cz p b g (ls.set i a)/\Fr (fun k=>k=g) w p):=by
   show∀k p,_
   rintro k p rfl;have F:=(Kb (fun _=>False) W1).drewN k;have E:=c.frame F id id;refine ⟨⟨by rw [aW];exact E.Qd.Qg _ _ c.ne,?_,c.ne,by rw [aW];exact c.one,by rw [aW];exact c.small⟩,((D.out.trans F J8).mono (S':=fun k=>k=g) J8).setCell ⟨g,i,none⟩ (.inl rfl) _⟩;have:=E.row.set i (.int .i64 a);unfold nI at*;rw [di];exact this
  have G:(i:Int)<(ls.length:Int):=by omega
  have A:(f:Int)<(ls.length:Int):=by omega
  have t:=ae (fun k=>af m (af r (C.out k _ rfl)));clear c s n o l r m d H C I;go_wp2;refine lL 12 (by kernel_rfl) ?_;simp only [Kc]
  repeat (go_big_quiet_step (fail))
  refine wpQuiet_nil ?_;rintro w6 ⟨k,rfl⟩;go_wp2;go_ret;exact .inl ⟨i,f,a,rfl,(t.out k).1,rfl,(t.out k).2.1,rfl,(t.out k).2.2⟩
 ·clear c l J;go_wp2;go_ret;exact .inr ⟨rfl,D.out⟩
end
def I5(J:List Nat->World->Prop)(b g:Nat)(ls rs:List Nat)(w:World):Prop:=cz w b g (rs++ls.drop rs.length)/\J rs w
def G0(J:List Nat->World->Prop)(b g:Nat)(ls:List Nat)(e:Ending)(w':World):Prop:=e= .returned (.tuple #[])/\∃rs,rs.length=ls.length/\cz w' b g rs/\J rs w'
theorem Ik{J:List Nat->World->Prop}{b g x:Nat}{ls rs:List Nat}{w:World}(a:∀rs w1 w2,J rs w1->Fr (fun k=>k=g) w1 w2->J rs w2)(d:rs.length<ls.length)(h:cz w b g (rs++ls.drop rs.length))(c:J (rs++[x]) w):
  I5 J b g ls (rs++[x]) (w.setCell ⟨g,rs.length,none⟩ (.int .i64 x)):=by
 have f:ls.drop rs.length=ls[rs.length]::ls.drop (rs.length+1):=dn d;have e:(rs++ls.drop rs.length).set rs.length x=(rs++[x])++ls.drop (rs++[x]).length:=by
  grind
 have hf:Fr (fun k=>k=g) w (w.setCell ⟨g,rs.length,none⟩ (.int .i64 x)):=(Kb (fun k=>k=g) w).setCell ⟨g,rs.length,none⟩ (.inl rfl) _;refine ⟨?_,a _ _ _ c hf⟩;rw [<-e];refine ⟨by rw [aW];exact h.Qd.Qg _ _ h.ne,?_,h.ne,by grind,by rw [aW];exact h.small⟩;have:=h.row.set rs.length (.int .i64 x)
 grind [nI]
theorem pr(F:Nat)(first cap:Array Value)(eg:∀args w,(callFunc F args).run prog w= .ok (.enter F args) w)(J:List Nat->World->Prop){w:World}{b g:Nat}{ls:List Nat}(h:cz w b g ls)(P:J [] w)
  (n:∀rs w1 w2,J rs w1->Fr (fun k=>k=g) w1 w2->J rs w2)
  (o:∀rs w1,J rs w1->ls[rs.length]? =some 0->J (rs++[0]) w1)
  (j:∀rs a w1,cz w1 b g (rs++ls.drop rs.length)->J rs w1->ls[rs.length]? =some a->a≠0->Calls prog F (first++ #[.int .i64 a]++cap) w1 fun e w2=>∃x:Nat,e= .returned (x:Int)/\cz w2 b g (rs++ls.drop rs.length)/\J (rs++[x]) w2):
  Calls prog 115 #[b,.func (.func F) first cap] w (G0 J b g ls):=by
 have T:=h.small;have O:=ae (fun rs x w1 (B:rs.length<ls.length) h hj=>Ik (J:=J) (b:=b) (g:=g) (x:=x) (ls:=ls) (rs:=rs) (w:=w1) n B h hj);have G:=ae (fun rs w1 (u:I5 J b g ls rs w1)=>(⟨u.1.frame ((Kb (fun _=>False) w1).drew) id id,n _ _ _ u.2 ((Kb _ w1).drew)⟩:cz w1.drew b g (rs++ls.drop rs.length)/\J rs w1.drew));have W:=ae j;have HZ:=ae o;have N:=ae (show I5 J b g ls [] w from ⟨h,P⟩);have r:Hid (∀rs w1,rs.length<=ls.length->cz w1 b g (rs++ls.drop rs.length)->w1.cell? b=some (.slice (some g) ls.length ls.length)):=by
  show∀rs w1,_
  intro rs w1 B f;have:=f.Qd.cell 0 rfl;rwa [aU,qb,show rs.length+(ls.length-rs.length)=ls.length by omega] at this
 have H:Hid (∀rs w1 (a:Nat),ls[rs.length]? =some a->cz w1 b g (rs++ls.drop rs.length)->w1.cell? ⟨g,rs.length,none⟩=some (a:Int)/\w1.frozen? ⟨g,rs.length,none⟩=false):=by
  show∀rs w1 a,_
  intro rs w1 a s f;refine ⟨f.get ?_,f.row.free _⟩;rw [List.getElem?_append_right (ag _),kU,gW,aP];exact s
 have X:Hid (∀rs w',rs.length=ls.length->I5 J b g ls rs w'->G0 J b g ls (.returned (.tuple #[])) w'):=by
  show∀rs w',_
  intro rs w' B u;refine ⟨rfl,rs,B,?_,u.2⟩;have:=u.1;rwa [B,kD,List.append_nil] at this
 have V:Hid (∀i,i<ls.length->∃a,ls[i]? =some a):=by
  show∀i,_
  exact fun i u=>⟨_,aC u⟩
 have D:=r.out [] w (ao _) h;generalize (G0 J b g ls)=Q at*;clear h P n o j
 go_enter func115,ntmps115
 go_wp2
 go_loopw [13] (fun p wr=>∃rs:List Nat,p= .int .i64 (rs.length:Int)/\rs.length<=ls.length/\Hid (I5 J b g ls rs wr)) (fun p _=>(ls.length-intOf p).toNat)
 case atStart=>exact ⟨[],rfl,ao _,N⟩
 case round=>
  clear N D;obtain ⟨rs,rfl,E,f⟩:=hrel;by_cases m:rs.length<ls.length
  ·have U:(rs.length:Int)<(ls.length:Int):=by omega
   obtain ⟨a,s⟩:=V.out _ m;have ck:=(H.out rs wr a s f.out.1).1;by_cases t:a=0
   ·subst t;have Y:=ae (show I5 J b g ls (rs++[0]) wr from ⟨by
     have R:=f.out.1;have hd:ls.drop rs.length=ls[rs.length]::ls.drop (rs.length+1):=dn m;have h3:ls[rs.length]=0:=(aj.1 s).2;rw [hd,h3] at R;rw [aU,be,List.append_assoc];exact R,HZ.out rs wr f.out.2 s⟩)
    rw [show ((0:Nat):Int)=0 from rfl] at ck;clear f s;go_wp2;go_roundw
    case rel=>exact ⟨rs++[0],by rw [aU,be];go_num,by rw [aU,be];omega,Y⟩
    case measure=>simp [intOf];omega
   ·have S:¬(a:Int)=0:=by omega
    obtain ⟨y,A⟩:=G.out rs wr f.out;have D:=r.out rs _ E y;have q:=ae (W.out rs a _ y A s t);have z:=ae s;clear f s y A t;go_wp2;refine wp_region_any (by kernel_rfl) ?_;change wpAny _ _ _ _ _ _ _ (World.drew _);generalize ah:wr.drew=wd at*;refine Ka 0 b rfl (by kernel_rfl) (fun _ _ _ h=>h) (ej ⟨by rfl,fun w=>by go_simp⟩) ?_;refine Ka 1 b rfl (by kernel_rfl) (fun _ _ _ h=>h) (ej ⟨by rfl,fun w=>by go_simp⟩) ?_;refine Ka 2 b rfl (by kernel_rfl) (fun _ _ _ h=>h) (ej ⟨by rfl,fun w=>by go_simp⟩) ?_;refine Ka 4 (.int .i64 (rs.length:Int)) rfl (by kernel_rfl) (fun _ _ _ h=>h) (ej ⟨by rfl,fun w=>by go_simp⟩) ?_;refine Ka 5 (.func (.func F) first cap) rfl (by kernel_rfl) (fun _ _ _ h=>h) (ej ⟨by rfl,fun w=>by go_simp⟩) ?_;refine Ka 6 (.int .i64 a) rfl (by kernel_rfl) (fun _ _ _ h=>h) (ej ⟨by rfl,fun w=>by go_simp⟩) ?_;simp only [Act.put];refine wpAny_ready (rs:=[3,7]) (by kernel_rfl) (by simp) ?_;refine AllReady.cons rfl (fun K c=> ?_) (AllReady.cons rfl (fun K c=> ?_) AllReady.nil)
    ·go_simp;refine c _ _ ?_;clear c K;refine J9 7 (by kernel_rfl) rfl fun K c=> ?_;go_simp;refine q.out.mono ?_;rintro e w2 ⟨x,rfl,d,l⟩;have D:=r.out rs _ E d;obtain ⟨I,L⟩:=H.out rs _ a z.out d;have C:=ae (O.out rs x w2 m d l);have M:max (x:Int) 0=(x:Int):=by omega
     clear d l q;refine c _ _ ?_;clear c K;refine J9 8 (by kernel_rfl) rfl fun K c=> ?_;go_simp;refine c _ _ ?_;clear c K;refine J9 9 (by kernel_rfl) rfl fun K c=> ?_;go_simp;refine c _ _ ?_;clear c K;refine J9 10 (by kernel_rfl) rfl fun K c=> ?_;go_simp;refine c _ _ ?_;clear c K;refine wpAny_done (by kernel_rfl) ?_ _;go_wp2;go_roundw
     case rel=>exact ⟨rs++[x],by rw [aU,be];go_num,by rw [aU,be];omega,C⟩
     case measure=>simp [intOf];omega
    ·go_simp;refine q.out.mono ?_;rintro e w2 ⟨x,rfl,d,l⟩;have D:=r.out rs _ E d;obtain ⟨I,L⟩:=H.out rs _ a z.out d;have C:=ae (O.out rs x w2 m d l);have M:max (x:Int) 0=(x:Int):=by omega
     clear d l q;refine c _ _ ?_;clear c K;refine wpAny_ready (rs:=[3,8]) (by kernel_rfl) (by simp) ?_;refine AllReady.cons rfl (fun K c=> ?_) (AllReady.cons rfl (fun K c=> ?_) AllReady.nil)
     ·go_simp;refine c _ _ ?_;clear c K;refine J9 8 (by kernel_rfl) rfl fun K c=> ?_;go_simp;refine c _ _ ?_;clear c K;refine J9 9 (by kernel_rfl) rfl fun K c=> ?_;go_simp;refine c _ _ ?_;clear c K;refine J9 10 (by kernel_rfl) rfl fun K c=> ?_;go_simp;refine c _ _ ?_;clear c K;refine wpAny_done (by kernel_rfl) ?_ _;go_wp2;go_roundw
      case rel=>exact ⟨rs++[x],by rw [aU,be];go_num,by rw [aU,be];omega,C⟩
      case measure=>simp [intOf];omega
     ·go_simp;refine c _ _ ?_;clear c K;refine J9 3 (by kernel_rfl) rfl fun K c=> ?_;go_simp;refine c _ _ ?_;clear c K;refine J9 9 (by kernel_rfl) rfl fun K c=> ?_;go_simp;refine c _ _ ?_;clear c K;refine J9 10 (by kernel_rfl) rfl fun K c=> ?_;go_simp;refine c _ _ ?_;clear c K;refine wpAny_done (by kernel_rfl) ?_ _;go_wp2;go_roundw
      case rel=>exact ⟨rs++[x],by rw [aU,be];go_num,by rw [aU,be];omega,C⟩
      case measure=>simp [intOf];omega
  ·have ad:¬(rs.length:Int)<(ls.length:Int):=by omega
   have Z:=ae (X.out rs wr (by omega) f.out);clear f E m;go_wp2;go_end0;exact Z.out
theorem xN{w:World}{m b g Pg W Fs Us Hg:Nat}{S:Nat->Prop}{mp:Nat->Bool}{M:Nat->Nat}{ls:List Nat}(h:dQ w m S Pg W Fs Us Hg mp M)(i:cz w b g ls)(a top Rm:Nat)(t:1<=a)(u:a<=top)(v:top<=W)(x:1<=Rm)(y:Rm<=4096):
  Calls prog 150 #[m,b,(a:Int),(top:Int),(Rm:Int)] w fun e w'=>e= .returned (0:Int)/\w=w':=by
 have c:=ae (gR h);have j:=ae (ra i);obtain ⟨k,l,n,o,p,q,r,s,d⟩:=h.at;have f:=i.one;have A:((W:Int)==0)=false:=by rw [beq_eq_false_iff_ne];omega
 have z:((ls.length:Int)==0)=false:=by rw [beq_eq_false_iff_ne];omega
 have B:¬(a:Int)<1:=by omega
 have C:decide ((top:Int)<(a:Int))=false:=by rw [decide_eq_false_iff_not];omega
 have D:decide ((W:Int)<(top:Int))=false:=by rw [decide_eq_false_iff_not];omega
 have E:¬(Rm:Int)<1:=by omega
 have F:¬(4096:Int)<(Rm:Int):=by omega
 have G:¬top<a:=by omega
 have H:¬W<top:=by omega
 clear h i t u v x y d f k l n o p q r s
 go_enter func150,ntmps150
 go_wp2_with fail
 refine c.out.mono ?_;rintro e w1 ⟨rfl,rfl⟩;go_wp2_with fail
 refine j.out.mono ?_;rintro e w1 ⟨rfl,rfl⟩;go_wp2_with fail
 refine c.out.mono ?_;rintro e w1 ⟨rfl,rfl⟩;clear c j;go_wp2;go_ret;exact ⟨rfl,rfl⟩
theorem Cj(b:Nat)(w:World):(callFunc 35 #[.float .f64 b]).run prog w= .ok (.value (.int .u64 b)) w:=by kernel_rfl
theorem GR(b:Nat)(w:World):(callFunc 31 #[.int .u64 b]).run prog w= .ok (.value (.float .f64 b)) w:=by kernel_rfl
def gu(b:Nat):Nat:=b/4503599627370496% 2048
def gl(b:Nat):Nat:=b% 4503599627370496
def de(b:Nat):Nat:=if gu b=2047 then (if gl b=0 then 3 else 4) else if gu b=0 then (if gl b=0 then 0 else 1) else 2
def gz(b:Nat):Bool:=decide (9223372036854775808<=b)
theorem gB(b:Nat)(w:World):
  Calls prog 11 #[.float .f64 b] w fun e w'=>e= .returned (.int .u64 b)/\w=w':=by
 have h:=Cj b
 go_enter func11,ntmps11
 go_wp2;go_ret;exact ⟨rfl,rfl⟩
theorem un(b:Nat)(w:World):
  Calls prog 8 #[.int .u64 b] w fun e w'=>e= .returned (.float .f64 b)/\w=w':=by
 have h:=GR b
 go_enter func8,ntmps8
 go_wp2;go_ret;exact ⟨rfl,rfl⟩
theorem wB(b:Nat)(a:b<18446744073709551616):bits .and .u64 ((b:Int)/4503599627370496) 2047=(gu b:Int):=by
 have h:=u64_and_nat (b/4503599627370496) 2047 (by omega) (by decide);rw [bH _ 11] at h;rw [show (b:Int)/4503599627370496=((b/4503599627370496:Nat):Int) by omega];exact h
theorem ww(b:Nat)(a:b<18446744073709551616):bits .and .u64 (b:Int) 4503599627370495=(gl b:Int):=by
 have h:=u64_and_nat b 4503599627370495 a (by decide);rwa [bH _ 52] at h
theorem vl(b:Nat)(c:b<18446744073709551616):bits .and .u64 (b:Int) 9223372036854775808=if gz b then 9223372036854775808 else 0:=by
 have h:=u64_and_nat b 9223372036854775808 c (by decide);have e:b&&&9223372036854775808=if gz b then 9223372036854775808 else 0:=by
  have d:b.testBit 63=gz b:=by
   unfold gz
   grind
  rw [<-d];apply db;intro j;rw [show (9223372036854775808:Nat)=2^63 by rfl,eH];by_cases a:j=63
  ·grind
  ·rw [gn (Ne.symm a)];split
   ·rw [gn (Ne.symm a)];simp
   ·simp
 grind
theorem oC(b:Nat)(h:b<18446744073709551616)(w:World):
  Calls prog 81 #[.float .f64 b] w fun e w'=>e= .returned (.int .i64 (de b:Int))/\w=w':=by
 have k:=wB b h;have l:=ww b h;have a:de b=if gu b=2047 then (if gl b=0 then 3 else 4) else if gu b=0 then (if gl b=0 then 0 else 1) else 2:=rfl
 have n:gu b<2048:=aI _ (by decide);have i:=gB b w;have d:=ae i;clear i;generalize gu b=E at*;generalize gl b=F at*;by_cases f:E=2047
 ·subst f;by_cases c:F=0
  ·subst c;rw [a];clear a
   go_enter func81,ntmps81
   go_wp2_with (go_at_call 11;refine d.out.mono ?_;rintro e w' ⟨rfl,rfl⟩)
   go_ret;exact ⟨rfl,rfl⟩
  ·have j:((F:Int) !=0)=true:=by simp [c]
   rw [a,if_pos rfl,if_neg c];clear a
   go_enter func81,ntmps81
   go_wp2_with (go_at_call 11;refine d.out.mono ?_;rintro e w' ⟨rfl,rfl⟩)
   go_ret;exact ⟨rfl,rfl⟩
 ·have g1:((E:Int)==2047)=false:=by rw [beq_eq_false_iff_ne];omega
  by_cases g:E=0
  ·subst g;by_cases c:F=0
   ·subst c;rw [a];clear a
    go_enter func81,ntmps81
    go_wp2_with (go_at_call 11;refine d.out.mono ?_;rintro e w' ⟨rfl,rfl⟩)
    go_ret;exact ⟨rfl,rfl⟩
   ·have j:((F:Int) !=0)=true:=by simp [c]
    rw [a,if_neg f,if_pos rfl,if_neg c];clear a
    go_enter func81,ntmps81
    go_wp2_with (go_at_call 11;refine d.out.mono ?_;rintro e w' ⟨rfl,rfl⟩)
    go_ret;exact ⟨rfl,rfl⟩
  ·have m:((E:Int) !=0)=true:=by simp [g]
   rw [a,if_neg f,if_neg g];clear a
   go_enter func81,ntmps81
   go_wp2_with (go_at_call 11;refine d.out.mono ?_;rintro e w' ⟨rfl,rfl⟩)
   go_ret;exact ⟨rfl,rfl⟩
theorem qZ(b:Nat)(d:b<18446744073709551616)(w:World):
  Calls prog 82 #[.float .f64 b] w fun e w'=>e= .returned (.bool (gz b))/\w=w':=by
 have a:=vl b d;have c:=ae (gB b w)
 cases hn:gz b with
 |true=>
  rw [hn,if_pos rfl] at a;clear hn
  go_enter func82,ntmps82
  go_wp2_with (go_at_call 11;refine c.out.mono ?_;rintro e w' ⟨rfl,rfl⟩)
  go_ret;exact ⟨rfl,rfl⟩
 |false=>
  rw [hn] at a;simp only [dF,if_false] at a;clear hn
  go_enter func82,ntmps82
  go_wp2_with (go_at_call 11;refine c.out.mono ?_;rintro e w' ⟨rfl,rfl⟩)
  go_ret;exact ⟨rfl,rfl⟩
end Go.Proofs.YtgnoapadkncphaaGreatDoor
