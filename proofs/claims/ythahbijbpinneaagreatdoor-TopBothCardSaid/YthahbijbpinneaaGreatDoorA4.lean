import Derived.Test.YthahbijbpinneaaGreatDoorA0
import Derived.Test.YthahbijbpinneaaGreatDoorA1
import Derived.Test.YthahbijbpinneaaGreatDoorA2
import Derived.Test.YthahbijbpinneaaGreatDoorA3
import Derived.Laws.BitsAllLaws
import Derived.Laws.BitsLemmas
import Derived.Recover
import Derived.Shelf.Abstract
import Derived.Maps.AppendAt
import Derived.Test.YthahbijbpinneaaGreatDoorShelf
set_option maxRecDepth 100000
set_option maxHeartbeats 8000000
set_option linter.all false
namespace Go.Proofs.YthahbijbpinneaaGreatDoor
open Go.RowKit Go.Proofs.Tryz
def fJ(mp:Nat->Bool)(q:Nat):Bool:= !mp q
def od(w:World)(m:Nat)(S:Nat->Prop)(Pg W Rm Us:Nat)(mp:Nat->Bool)(M:Nat->Nat)(A p:Nat)(wr:World):Prop:=
 ∃S1 Qj mp1 M1 v l,ed wr m S1 Pg W Rm (Us+Qb (fJ mp) A p) Qj mp1 M1/\(∀q,mp1 q=(mp q||(decide (A<=q)&&decide (q<p))))/\(∀a,a<W->mp (a/Pg)=true->M1 a=M a)/\Fr S w wr/\(∀k,S1 k->S k\/w.heap.size<=k)/\
  aJ wr (w.heap.size+1) [v] 123/\wr.ownsRow 0 3 1 v l.length l/\l.length<=p-A/\aJ wr w.heap.size [m] 112/\¬S1 (w.heap.size+1)/\¬S1 w.heap.size/\∀k,v.ownBlock=some k->¬S1 k/\w.heap.size+2<=k
section
variable{w:World}{m Pg W Rm Us Hg:Nat}{S:Nat->Prop}{mp:Nat->Bool}{M:Nat->Nat}
theorem oZ{A p:Nat}(h:A<=p):Qb (fJ mp) A (p+1)=Qb (fJ mp) A p+(if mp p then 0 else 1):=by
 rw [cr _ h];unfold fJ
 cases mp p<;>rfl
theorem od.is{A p:Nat}{wr w2:World}(h:od w m S Pg W Rm Us mp M A p wr)(i:A<=p)(hp:mp p=true)(hf:GM wr w2):od w m S Pg W Rm Us mp M A (p+1) w2:=by
 obtain ⟨g,Qj,a,f,v,l,j,k,n,o,r,s,t,x,u,b,c,d⟩:=h;refine ⟨g,Qj,a,f,v,l,by rw [oZ i,aG hp];exact j.Qa hf,fun q=> ?_,n,o.trans hf GN,r,s.frame hf id,aO t hf (fun _ _ h=>h),by omega,u.frame hf id,b,c,d⟩;rw [k];by_cases e:q=p
 ·subst e;rw [hp];rfl
 ·congr 2
  rw [ce];omega
theorem od.more{A p g cap:Nat}{wr w2 w3 w4:World}{o S2:Nat->Prop}{Qj high2:Nat}{j mp2:Nat->Bool}{K M2:Nat->Nat}{v:Value}{l:List Value}(L:A<=p)(hp:mp p=false)
  (I:∀q,j q=(mp q||(decide (A<=q)&&decide (q<p)))) (q3:∀a,a<W->mp (a/Pg)=true->K a=M a) (O:Fr S w wr) (P:∀k,o k->S k\/w.heap.size<=k)
  (Q:aJ wr (w.heap.size+1) [v] 123) (q7:wr.ownsRow 0 3 1 v l.length l) (q8:l.length<=p-A) (R:aJ wr w.heap.size [m] 112) (s:¬o (w.heap.size+1)) (t:¬o w.heap.size) (c:∀k,v.ownBlock=some k->¬o k/\w.heap.size+2<=k)
  (T:ed w2 m S2 Pg W Rm (Us+Qb (fJ mp) A p+1) high2 mp2 M2) (U:∀q,mp2 q=(j q||q==p)) (r2:∀a,a<W->j (a/Pg)=true->mp2 (a/Pg)=true->M2 a=K a) (C:Fr o wr w2) (D:∀k,S2 k->o k\/wr.heap.size<=k)
  (r:GM w2 w3) (Z:w4.ownsRow 0 3 1 (.slice (some g) (l.length+1) cap) (l.length+1) (l++[.int .i64 p])) (B:Fr (fun k=>v.ownBlock=some k) w3 w4) (hg:v.ownBlock=some g\/w3.heap.size<=g):
  (∃u,w4.cell? ⟨w.heap.size+1,0,none⟩=some u)/\w4.frozen? ⟨w.heap.size+1,0,none⟩=false/\∀W5,W5=w4.setCell ⟨w.heap.size+1,0,none⟩ (.slice (some g) (l.length+1) cap)->od w m S Pg W Rm Us mp M A (p+1) W5:=by
 have af:=O.size;have ad:=C.size;have ah:=r.size;have l6:=Q.lt;have l9:=R.lt;have f:aJ w4 (w.heap.size+1) [v] 123:=((Q.frame C s).frame r id).frame B (fun e=>by have:=(c _ e).2;omega);refine ⟨⟨v,f.cell 0 rfl⟩,f.free 0,?_⟩;rintro W5 rfl;have d:Fr (fun k=>k=w.heap.size+1) w4 (w4.setCell ⟨w.heap.size+1,0,none⟩ (.slice (some g) (l.length+1) cap)):=(GQ (fun k=>k=w.heap.size+1) w4).setCell ⟨w.heap.size+1,0,none⟩ (.inl rfl) _;have x:¬S2 (w.heap.size+1):=fun h=>by rcases D _ h with h|h;exact s h;omega
 have J:¬S2 w.heap.size:=fun h=>by rcases D _ h with h|h;exact t h;omega
 have y:∀k,v.ownBlock=some k->¬S2 k:=fun k b h=>by
  rcases D _ h with h|h
  ·exact (c k b).1 h
  ·have:=(q7.lt k b).2;omega
 have G:¬S2 g/\w.heap.size+2<=g:=by
  rcases hg with hg|hg
  ·exact ⟨y g hg,(c g hg).2⟩
  ·refine ⟨fun h=> ?_,by omega⟩;obtain ⟨p',vw,vt,vb,ws,tk,bk,Tm,g',gt,ts,fr,n,V,z,F,_,_,_,_,_,_,E⟩:=T;have Y:g<w2.heap.size:=by
    rcases (E g).1 h with h|(h|h|h|h)|(h|h|h)
    ·rw [h];exact V.lt
    ·rw [h];exact z.Qd.lt
    ·exact (z.rw.lt g h).2
    ·exact (z.rt.lt g h).2
    ·exact (z.rb.lt g h).2
    ·rw [h];exact F.Qd.lt
    ·rw [h];exact F.row.lt
    ·obtain ⟨i,X⟩:=bw.1 h;exact (F.Qp i g X).lt
   omega
 refine ⟨S2,high2,mp2,M2,.slice (some g) (l.length+1) cap,l++[.int .i64 p],?_,?_,?_,?_,?_,f.set 0 _,?_,?_,?_,x,J,?_⟩
 ·rw [oZ L,hp];exact ((T.Qa r).frame B (fun k b e=>y k e b)).frame d (fun k b e=>x (by rw [<-e];exact b))
 ·intro q;rw [U,I];by_cases e:q=p
  ·subst e;simp only [cT,ew,L,iR,bQ,bI]
  ·have:(q==p)=false:=by rw [aT];exact e
   rw [this,ca];congr 2
   rw [ce];omega
 ·intro a N H;rw [r2 a N (by rw [I,H];rfl) (by rw [U,I,H];rfl)];exact q3 a N H
 ·exact ((((O.trans C P).trans r GN).trans B (fun k b=> .inr (by have:=(c k b).2;omega))).trans d (fun k b=> .inr (by omega)))
 ·intro k b;rcases D k b with h|h
  ·exact P k h
  ·exact .inr (by omega)
 ·have:=aO Z d (fun k b e=>by simp only [Value.ownBlock,aL] at b;omega);rw [aH,aP];exact this
 ·rw [aH,aP];omega
 ·exact (((R.frame C t).frame r id).frame B (fun e=>by have:=(c _ e).2;omega)).frame d (by omega)
 ·intro k b;simp only [Value.ownBlock,aL] at b;subst b;exact G
def vo(w:World)(m:Nat)(S:Nat->Prop)(Pg W Rm Us:Nat)(mp:Nat->Bool)(M:Nat->Nat)(A B:Nat)(e:Ending)(w':World):Prop:=
 e= .returned (0:Int)/\∃S' Hg' mp' M',ed w' m S' Pg W Rm (Us+Qb (fJ mp) A (B+1)) Hg' mp' M'/\(∀q,mp' q=(mp q||(decide (A<=q)&&decide (q<=B))))/\(∀a,a<W->mp (a/Pg)=true->M' a=M a)/\Fr S w w'/\∀k,S' k->S k\/w.heap.size<=k
theorem nB(h:ed w m S Pg W Rm Us Hg mp M)(a u:Nat)(ay:a<u)(hu:u<=W)(j:Us+Qb (fJ mp) (a/Pg) ((u-1)/Pg+1)<=Rm):Calls prog 144 #[m,(a:Int),(u:Int)] w (vo w m S Pg W Rm Us mp M (a/Pg) ((u-1)/Pg)):=by
 obtain ⟨i0,hi,ao,ap,aq⟩:=info_parts iP;obtain ⟨p1,p2,hW,al,aG,aF,Y⟩:=h.at;clear Y;have f:GM w ((w.alloc (.cells #[m] 112)).alloc (.cells #[.slice none 0 0] 123)):=((GQ _ w).alloc _).alloc _;have b:GM w (w.alloc (.cells #[m] 112)):=(GQ _ w).alloc _;have hS:∀k,S k->k<w.heap.size:=fun k hk=>by
  obtain ⟨p',vw,vt,vb,ws,tk,bk,Tm,g',gt,ts,fr,n,b1,T,b3,_,_,_,_,_,_,ai⟩:=id h;rcases (ai k).1 hk with h|(h|h|h|h)|(h|h|h)
  ·rw [h];exact b1.lt
  ·rw [h];exact T.Qd.lt
  ·exact (T.rw.lt k h).2
  ·exact (T.rt.lt k h).2
  ·exact (T.rb.lt k h).2
  ·rw [h];exact b3.Qd.lt
  ·rw [h];exact b3.row.lt
  ·obtain ⟨i,hi⟩:=bw.1 h;exact (b3.Qp i k hi).lt
 obtain ⟨A,U⟩:∃A,a/Pg=A:=⟨_,rfl⟩;obtain ⟨B,F⟩:∃B,(u-1)/Pg=B:=⟨_,rfl⟩;have av:A<=B:=by rw [<-U,<-F];exact bi (by omega)
 have aw:B<W/Pg:=by rw [<-F];exact jh (by omega) p1 al
 have ax:W/Pg<=W:=bK _ _;rw [U,F] at j;rw [U,F];have HN:=ae (fY (h.Qa b));have c2:(w.alloc (.cells #[m] 112)).cell? ⟨m,2,none⟩=_:=(let ⟨_,_,_,_,_,_,_,_,_,_,_,q,_⟩:=(h.Qa b).Qr;q);obtain ⟨p,g,vw,vt,vb,ws,tk,bk,Tm,k0,k1,k2,hp⟩:=(h.Qa f).Qr;have Q:=ae (oQ hp);have y:aJ ((w.alloc (.cells #[m] 112)).alloc (.cells #[.slice none 0 0] 123)) w.heap.size [m] 112:=(aJ.new w _ _).alloc _;have X:aJ ((w.alloc (.cells #[m] 112)).alloc (.cells #[.slice none 0 0] 123)) (w.heap.size+1) [.slice none 0 0] 123:=by
  have:=aJ.new (w.alloc (.cells #[m] 112)) [.slice none 0 0] 123;rwa [World.size_alloc] at this
 have k3:=y.cell 0 rfl;have V:od w m S Pg W Rm Us mp M A A ((w.alloc (.cells #[m] 112)).alloc (.cells #[.slice none 0 0] 123)):=
  ⟨S,Hg,mp,M,.slice none 0 0,[],by rw [eS _ (ak A)];exact h.Qa f,fun q=>by
   have:(decide (A<=q)&&decide (q<A))=false:=by rw [be];simp only [mN,au,aC];omega
   rw [this,ca],fun _ _ _=>rfl,f.mono GN,fun _ h=> .inl h,X,World.ownsRow_nil _ _ _ _,by simp,y,fun h=>by have:=hS _ h;omega,fun h=>by have:=hS _ h;omega,fun k hk=>by simp [Value.ownBlock] at hk⟩
 have N:=ae V;have q1:(a:Int).tdiv (Pg:Int)=(A:Int):=by rw [fU,U]
 have q2:((u:Int)-1).tdiv (Pg:Int)=(B:Int):=by rw [show (u:Int)-1=((u-1:Nat):Int) by omega,fU,F]
 have az:¬Pg=0:=by omega
 have b1:(a:Int)<(u:Int):=by omega
 have T:(u:Int)<=(W:Int):=by omega
 have b3:(W:Int)<=524288:=by omega
 have b4:(B:Int)<=524288:=by omega
 have b5:(A:Int)<=524288:=by omega
 have HR:=ae j;have ar:=ae f;clear h hS U F hp V y X j f b
 go_enter func144,ntmps144
 go_wp2_with fail
 refine HN.out.mono ?_;rintro e w' ⟨rfl,rfl⟩;go_wp2_with fail
 refine Q.out.mono ?_;rintro e w' ⟨rfl,rfl⟩;generalize aj:(w.alloc (.cells #[m] 112)).alloc (.cells #[.slice none 0 0] 123)=W0 at*;clear aj k0 k1 k2 k3 c2 HN Q;go_wp2
 go_loopw [10] (fun k wr=>∃q:Nat,k= .int .i64 q/\A<=q/\q<=B+1/\Hid (od w m S Pg W Rm Us mp M A q wr)) (fun k _=>(B+1-intOf k).toNat)
 case atStart=>exact ⟨A,by go_num,ak A,by omega,N.out⟩
 case round=>
  clear N;obtain ⟨q,rfl,z,aD,j⟩:=hrel;by_cases aE:q<=B
  ·have c1:(q:Int)<=(B:Int):=by omega
   cases hmq:mp q with
   |true=>
    obtain ⟨S1,Qj,C,M1,v,l,D,x,H,I,J,r6,r7,r8,K,o,s,r⟩:=j.out;have d:=ae (DF D q (by omega) (by rw [x,hmq];rfl));have P:=ae (fun w2 hf=>od.is (w2:=w2) j.out z hmq hf);have k3:=K.cell 0 rfl;clear D x H I J r6 r7 r8 K o s r j;go_wp2_with fail
    refine d.out.mono ?_;rintro e w2 ⟨rfl,Z⟩;have ah:=ae (P.out w2 Z);clear Z P d k3;go_wp2;go_roundw
    case rel=>exact ⟨q+1,by go_num,by omega,by omega,ah.out⟩
    case measure=>simp [intOf];omega
   |false=>
    obtain ⟨S1,Qj,C,M1,v,l,D,x,H,I,J,r6,r7,r8,K,o,s,r⟩:=j.out;have ad:Us+Qb (fJ mp) A q<Rm:=by
     have h1:=oZ (mp:=mp) z;rw [hmq] at h1;have h2:=il (fJ mp) (a:=A) (show q+1<=B+1 by omega);have h3:=HR.out;simp only [cA,fE] at h1;omega
    have d:=ae (DE D q (by omega) (by
     rw [x,hmq,ga,be];simp only [mN,au,aC];omega) ad)
    have k3:=K.cell 0 rfl;have c:=ae (fun w2 w3 w4 S2 high2 mp2 M2 g cap a1 am a2 R a4 f1 G E hg=>od.more (w:=w) (m:=m) (S:=S) (M:=M) (wr:=wr) (w2:=w2) (w3:=w3) (w4:=w4) (S2:=S2) (high2:=high2) (mp2:=mp2) (M2:=M2) (g:=g) (cap:=cap) (Qj:=Qj) (Rm:=Rm) (Us:=Us) z hmq x H I J r6 r7 r8 K o s r a1 am a2 R a4 f1 G E hg);have L:=ae (fun w2 (af:Fr S1 wr w2)=>(ag ((r6.frame af o).cell 0 rfl) (aO r7 af (fun k hk h=>(r k hk).1 h))));have aB:l.length<=524289:=by omega
    clear D x H I J r6 r7 r8 K o s r j ad;go_wp2_with fail
    refine d.out.mono ?_;rintro e w2 ⟨rfl,S2,high2,M2,a1,a2,R,a4⟩;obtain ⟨kx,t⟩:=L.out w2 R;have O:=ae (fun w3 w4 g cap f1 G E hg=>c.out w2 w3 w4 S2 high2 _ M2 g cap a1 (fun _=>rfl) a2 R a4 f1 G E hg);clear a1 a2 R a4 c L d k3;go_wp2_with (at_builtin;refine Hid.out ?_)
    unfold Hid;have b:GM w2 (w2.alloc (.cells #[(q:Int)] 3)):=(GQ _ w2).alloc _;refine fd rfl _ _ 123 rfl 3 i0 (.int .i64 0) 8 underlying123 hi ao ap aq rfl v l.length l rfl (aO t b (fun _ _ h=>h)) ⟨w2.heap.size,0,none⟩ _ (.int .i64 q) rfl ((aJ.new w2 [(q:Int)] 3).cell 0 rfl) rfl (by unfold maxLen;omega) (by omega) ?_;intro g cap w4 G E hg;obtain ⟨⟨uu,s1⟩,s2,s3⟩:=O.out _ w4 g cap b G E hg;have HS:=ae s3;clear b G E hg s3 O t kx;go_wp2;go_roundw
    case rel=>exact ⟨q+1,by go_num,by omega,by omega,HS.out _ rfl⟩
    case measure=>simp [intOf];omega
  ·have an:q=B+1:=by omega
   subst an;have c1:¬((B+1:Nat):Int)<=(B:Int):=by omega
   have HE:=ae j.out;clear j;go_wp2;go_ret;obtain ⟨S1,Qj,C,M1,v,l,D,x,H,I,J,_⟩:=HE.out;exact ⟨rfl,S1,Qj,C,M1,D,fun k=>by rw [x];congr 2;rw [ce];omega,H,I,J⟩
end
theorem Cl(Rm Pg:Nat)(n:1<=Rm)(d:Rm<=4096)(hp:cJ (Pg:Int)=true)(f:1<=Pg)(g:Pg<=256)(w:World):Calls prog 180 #[(Rm:Int),(Pg:Int)] w fun e w'=>∃p,e= .returned (.tuple #[.pointer (some ⟨p,0,none⟩),(0:Int)])/\dN w' p (.slice none 0 0) (.slice none 0 0) (.slice none 0 0) [] [] [] Rm Pg 0 0 0/\w.heap.size<=p/\GM w w':=by
 have c:=ae (jM (Pg:Int) (by omega) true hp);have a:∀W,W=w.alloc (.cells #[.slice none 0 0,.slice none 0 0,.slice none 0 0,(Rm:Int),(Pg:Int),(0:Int),(0:Int),(0:Int)] 307)->dN W w.heap.size (.slice none 0 0) (.slice none 0 0) (.slice none 0 0) [] [] [] Rm Pg 0 0 0/\GM w W:=by
  rintro W rfl;exact ⟨⟨aJ.new w _ _,World.ownsRow_nil _ _ _ _,World.ownsRow_nil _ _ _ _,World.ownsRow_nil _ _ _ _,by simp,by simp,by simp,by simp,by simp,by simp,d,f,g,by omega⟩,(GQ _ w).alloc _⟩
 have b:=ae a;have h:(1:Int)<=(Rm:Int):=by omega
 have i:(Rm:Int)<=4096:=by omega
 have j:(Pg:Int)<=256:=by omega
 have k:decide ((4096:Int)<(Rm:Int))=false:=ar (by omega);have l:decide ((256:Int)<(Pg:Int))=false:=ar (by omega);have m:decide ((Rm:Int)<1)=false:=ar (by omega);clear hp a
 go_enter func180,ntmps180
 go_wp2_with fail
 refine (c.out _).mono ?_;rintro e w' ⟨rfl,rfl⟩;go_wp2;go_ret2;exact ⟨_,rfl,(b.out _ rfl).1,ak _,(b.out _ rfl).2⟩
theorem DD(W Pg Rm:Nat)(R:1<=Rm)(T:Rm<=4096)(hp:cJ (Pg:Int)=true)(U:1<=Pg)(V:Pg<=256)(E:Pg<=W)(F:W<=524288)(o:W% Pg=0)(w:World):Calls prog 118 #[(W:Int),(Pg:Int),(Rm:Int)] w fun e w'=>∃m S,e= .returned (.tuple #[.pointer (some ⟨m,0,none⟩),(0:Int)])/\ed w' m S Pg W Rm 0 0 (fun _=>false) (fun _=>0)/\(∀k,S k->w.heap.size<=k)/\GM w w':=by
 have M:=ae (fun w=>Cl Rm Pg R T hp U V w);have u:1<=W/Pg:=Nat.div_pos E (by omega);have v:W/Pg<=W:=bK _ _;have D:=ae (fun w=>Bl (W/Pg) u (by omega) w);have d:∀w1 w2 w3 p g c l n W5,w2=w1.alloc (.cells #[.pointer (some ⟨p,0,none⟩),.pointer none,(W:Int)] 219)->dN w1 p (.slice none 0 0) (.slice none 0 0) (.slice none 0 0) [] [] [] Rm Pg 0 0 0->w.heap.size<=p->GM w w1->cK w3 g c l (W/Pg) (fun _=>0) n->(∀k,cv g c l k->w2.heap.size<=k)->GM w2 w3->
   (w3.cell? ⟨w1.heap.size,1,none⟩=some (.pointer none)/\w3.frozen? ⟨w1.heap.size,1,none⟩=false)/\(W5=w3.setCell ⟨w1.heap.size,1,none⟩ (.pointer (some ⟨g,0,none⟩))->∃S,ed W5 w1.heap.size S Pg W Rm 0 0 (fun _=>false) (fun _=>0)/\(∀k,S k->w.heap.size<=k)/\GM w W5):=by
  rintro w1 w2 w3 p g c l n W5 rfl H Z y A I r;have ad:=y.size;have b:aJ w3 w1.heap.size [p,.pointer none,(W:Int)] 219:=(aJ.new w1 _ _).frame r id;refine ⟨⟨b.cell 1 rfl,b.free 1⟩,?_⟩;rintro rfl;have s:Fr (fun k=>k=w1.heap.size) w3 (w3.setCell ⟨w1.heap.size,1,none⟩ (.pointer (some ⟨g,0,none⟩))):=(GQ (fun k=>k=w1.heap.size) w3).setCell ⟨w1.heap.size,1,none⟩ (.inl rfl) _;have z:GM w1 (w1.alloc (.cells #[p,.pointer none,(W:Int)] 219)):=(GQ _ w1).alloc _;have j:=((H.frame z (fun _ _ h=>h)).frame r (fun _ _ h=>h));refine ⟨fun k=>k=w1.heap.size\/d8 p (.slice none 0 0) (.slice none 0 0) (.slice none 0 0) k\/cv g c l k,⟨p,_,_,_,[],[],[],0,g,c,l,fun _=>0,n,b.set 1 _,j.frame s (fun k G e=>lm j b (by rw [<-e];exact G)),A.frame s (fun k G e=>mg A b (by rw [<-e];exact G)),⟨o,F,by omega⟩,(fun q f h=>by cases h),fun q q' _ h=>absurd rfl h,(cu (fun _ _ _=>rfl)).symm,fun _=>rfl,(fun a f _ h=>by cases h),fun k=>dX⟩,?_,((y.trans z GN).trans r GN).trans s (fun i hi=> .inr (by omega))⟩;rintro k (h|h|h)
  ·omega
  ·rcases h with h|h|h|h
   ·omega
   ·cases h
   ·cases h
   ·cases h
  ·have:=I k h;rw [World.size_alloc] at this;omega
 have B:=ae d;have q1:(W:Int).tdiv (Pg:Int)=((W/Pg:Nat):Int):=fU W Pg;have q2:(W:Int).tmod (Pg:Int)=((W% Pg:Nat):Int):=rfl;rw [o] at q2;obtain ⟨P,x⟩:∃P,W/Pg=P:=⟨_,rfl⟩;rw [x] at q1 D B v;have Y:¬Pg=0:=by omega
 have b1:(1:Int)<=(W:Int):=by omega
 have b2:(W:Int)<=524288:=by omega
 have b3:(P:Int)<=524288:=by omega
 clear d hp x u v o
 go_enter func118,ntmps118
 go_wp2_with fail
 refine (M.out _).mono ?_;rintro e w1 ⟨p,rfl,N,O,Q⟩;have t:=ae (ag N (ag O Q));clear N O Q M;go_wp2_with fail
 refine (D.out _).mono ?_;rintro e w3 ⟨g,c,l,n,rfl,J,K,L⟩;obtain ⟨⟨k1,k2⟩,_⟩:=B.out w1 _ w3 p g c l n w3 rfl t.out.1 t.out.2.1 t.out.2.2 J K L;have C:=ae (fun W5 X=>(B.out w1 _ w3 p g c l n W5 rfl t.out.1 t.out.2.1 t.out.2.2 J K L).2 X);clear J K L B D;go_wp2;go_ret2;obtain ⟨S,t1,t2,t3⟩:=C.out _ rfl;exact ⟨_,S,rfl,t1,t2,t3⟩
def eO(p f g:Int):Prop:=0<=p/\p<256/\0<=f/\f<256/\0<=g/\g<256/\p+f+g<256
instance (p f g:Int):Decidable (eO p f g):=by unfold eO;exact inferInstance
def gD(p f g:Int):Value:= .agg #[(p:Int),(f:Int),(g:Int)]
def py(p f g:Int)(i:Nat):Int:=if i=0 then p else if i=1 then f else g
theorem zK(p f g:Int)(i:Nat)(a:i<3)(w:World):(Instr.index 50 (.agg #[(p:Int),(f:Int),(g:Int)]) (.int .i64 i)).run prog w= .ok (.int .i64 (py p f g i)) w:=by
 obtain rfl|rfl|rfl:i=0\/i=1\/i=2:=by omega
 all_goals kernel_rfl
def pK(w:World)(n:Int)(e:Ending)(w':World):Prop:=e= .returned (n:Int)/\GM w w'
theorem gc{w:World}{b:Nat}{t:TypeId}{v0 v1 v2:Value}(h:aJ w b [v0,v1,v2] t):w.cell? b=some v0/\w.cell? ⟨b,1,none⟩=some v1/\w.cell? ⟨b,2,none⟩=some v2:=
 ⟨h.cell 0 rfl,h.cell 1 rfl,h.cell 2 rfl⟩
theorem kw(p f g:Int)(w:World):Calls prog 52 #[gD p f g] w (pK w (if eO p f g then 0 else 15)):=by
 have q:=ae (zK p f g);have y:Hid (eO p f g->∀w',GM w w'->pK w (if eO p f g then 0 else 15) (.returned (0:Int)) w'):=fun h w' hf=>⟨by rw [aG h],hf⟩
 have o:Hid (¬eO p f g->∀w',GM w w'->pK w (if eO p f g then 0 else 15) (.returned (15:Int)) w'):=fun h w' hf=>⟨by rw [aE h],hf⟩
 generalize (pK w (if eO p f g then 0 else 15))=Q at*;unfold gD
 go_enter func52,ntmps52
 go_upto_region 1 with fail
 have v:=aJ.new w [(p:Int),(f:Int),(g:Int)] 31;have u:=(GQ (fun _=>False) w).alloc (.cells #[(p:Int),(f:Int),(g:Int)] 31);generalize w.alloc (.cells #[(p:Int),(f:Int),(g:Int)] 31)=W at*;obtain ⟨H,p1,p2⟩:=gc v;have n:=ae u;clear v u
 go_upto_region 2 with fail
 go_loopw [4,12] (fun _ l wr=>∃i:Nat,i<=3/\l= .int .i64 i/\wr=W/\∀j,j<i->0<=py p f g j/\py p f g j<256) (fun _ l _=>3-(intOf l).toNat)
 case atStart=>exact ⟨0,aF _,rfl,rfl,fun j h=>absurd h (fb j)⟩
 case round=>
  obtain ⟨i,C,rfl,rfl,a⟩:=hrel;by_cases d:i<3
  ·have s:=q.out i d;have c:¬(0<=py p f g i/\py p f g i<256)->¬eO p f g:=by
    intro h k;unfold eO at k;unfold py at h;obtain rfl|rfl|rfl:i=0\/i=1\/i=2:=by omega
    all_goals simp at h;omega
   have m:=ae a;have b:=ae c;obtain ⟨x,t⟩:∃x,py p f g i=x:=⟨_,rfl⟩;rw [t] at s;have r:=ae t;clear a c t;by_cases D:x<0
   ·go_wp2
    try go_ret
    exact o.out (b.out (by rw [r.out];omega)) _ n.out
   ·by_cases E:256<=x
    ·go_wp2
     try go_ret
     exact o.out (b.out (by rw [r.out];omega)) _ n.out
    ·go_wp2;go_roundw
     case rel=>exact ⟨i+1,d,by go_num,trivial,fun j F=>by
      by_cases e:j=i
      ·subst e;rw [r.out];omega
      ·exact m.out j (by omega)⟩
     case measure=>simp [intOf];omega
  ·obtain rfl:i=3:=by omega
   have z:=a 0 (by decide);have A:=a 1 (by decide);have B:=a 2 (by decide);simp only [py,iN,show (1:Nat)≠0 from by decide,show (2:Nat)≠0 from by decide,show (2:Nat)≠1 from by decide,fE] at z A B;clear a d C;by_cases G:256<=p+f+g
   ·go_wp2
    try go_ret
    exact o.out (by unfold eO;omega) _ n.out
   ·go_wp2
    try go_ret
    exact y.out (by unfold eO;omega) _ n.out
def gg(p f g:Int):Int:=if eO p f g then 1+p+f+g else 0
def jO(w:World)(n:Int)(e:Ending)(w':World):Prop:=e= .returned (n:Int)/\GM w w'
theorem iF(p f g:Int)(w:World):Calls prog 54 #[gD p f g] w (jO w (gg p f g)):=by
 have d:=ae (kw p f g);unfold gD at*;unfold pK at d;by_cases h:eO p f g
 ·have j:gg p f g=1+p+f+g:=aG h;rw [aG h] at d;rw [j];obtain ⟨m,n,o,q,r,s,t⟩:=h
  go_enter func54,ntmps54
  go_upto_region 1 with fail
  have c:=aJ.new w [(p:Int),(f:Int),(g:Int)] 31;have i:=(GQ (fun _=>False) w).alloc (.cells #[(p:Int),(f:Int),(g:Int)] 31);generalize w.alloc (.cells #[(p:Int),(f:Int),(g:Int)] 31)=W at*;obtain ⟨k,p1,p2⟩:=gc c;have l:=ae c;clear j c;go_wp2_with fail
  refine (d.out _).mono ?_;rintro e w1 ⟨rfl,a⟩;obtain ⟨q0,u,v⟩:=gc (l.out.frame a id);have b:=i.trans a GN;clear k p1 p2 i a;go_wp2;go_ret;exact ⟨rfl,b⟩
 ·have j:gg p f g=0:=aE h;rw [aE h] at d;rw [j];clear h j
  go_enter func54,ntmps54
  go_upto_region 1 with fail
  have c:=aJ.new w [(p:Int),(f:Int),(g:Int)] 31;have i:=(GQ (fun _=>False) w).alloc (.cells #[(p:Int),(f:Int),(g:Int)] 31);generalize w.alloc (.cells #[(p:Int),(f:Int),(g:Int)] 31)=W at*;obtain ⟨k,p1,p2⟩:=gc c;clear c;go_wp2_with fail
  refine (d.out _).mono ?_;rintro e w1 ⟨rfl,a⟩;have b:=i.trans a GN;clear k p1 p2 i a;go_wp2;go_ret;exact ⟨rfl,b⟩
def nM(p f g:Nat):Nat:=p+f*256+g*65536+165*16777216
def kK(p f g:Nat):Nat:=(4294967295-nM p f g)*4294967296+nM p f g
theorem wy{p f g:Nat}(hp:p<256)(hf:f<256)(hg:g<256):nM p f g<4294967296:=by unfold nM;omega
theorem Cc{p f g:Nat}(hp:p<256)(hf:f<256)(hg:g<256):kK p f g<18446744073709551616:=by
 have:=wy hp hf hg;unfold kK;omega
theorem xP(a b k:Nat)(c:a<2^k):a|||(b*2^k)=a+b*2^k:=by
 have:=Nat.two_pow_add_eq_or_of_lt (i:=k) (b:=a) c b;rw [Nat.or_comm,aN b,<-this,om]
theorem ES{a b:Nat}(k:Nat)(c:a<2^k)(f:a+b*2^k<4294967296)(x y:Int)(d:x=(a:Int))(e:y=((b*2^k:Nat):Int)):bits .or .u32 x y=((a+b*2^k:Nat):Int):=by
 subst d;subst e;have h:=u32_or_nat a (b*2^k) (by omega) (by omega);rw [xP a b k c] at h;exact h
theorem Gk{a b:Nat}(k:Nat)(c:a<2^k)(f:a+b*2^k<18446744073709551616)(x y:Int)(d:x=(a:Int))(e:y=((b*2^k:Nat):Int)):bits .or .u64 y x=((a+b*2^k:Nat):Int):=by
 subst d;subst e;have h:=u64_or_nat (b*2^k) a (by omega) (by omega);rw [Nat.or_comm,xP a b k c] at h;exact h
theorem Em(y:Nat)(a:y<4294967296):bits .xor .u32 IntKind.u32.max (y:Int)=((4294967295-y:Nat):Int):=by
 have h:=u32_xor_nat 4294967295 y (by decide) a;have e:4294967295^^^y=4294967295-y:=by
  have c:4294967295-y=2^32-(y+1):=by omega
  rw [c];apply eC;intro i;rw [fV (by exact a),Nat.testBit_xor,show (4294967295:Nat)=2^32-1 by rfl,eM];by_cases b:i<32
  ·simp [b]
  ·have d:y.testBit i=false:=io (cz a (dI (n:=2) (by decide) (by omega:32<=i)));simp [b,d]
 rw [e] at h;exact h
def Ep(w:World)(n:Nat)(e:Ending)(w':World):Prop:=e= .returned (.tuple #[.int .u64 n,(0:Int)])/\GM w w'
theorem B4(p f g:Nat)(h:eO p f g)(w:World):Calls prog 125 #[gD p f g] w (Ep w (kK p f g)):=by
 have i:=ae (kw p f g);rw [aG h] at i;obtain ⟨x,y,z,A,B,C,D⟩:=h;unfold gD at*;unfold pK at i;have s:bits .or .u32 (p:Int) ((f:Int)*256)=((p+f*256:Nat):Int):=ES 8 (by omega) (by omega) _ _ rfl (by simp);have t:bits .or .u32 ((p:Int)+(f:Int)*256) ((g:Int)*65536)=((p+f*256+g*65536:Nat):Int):=ES 16 (by omega) (by omega) _ _ (by simp) (by simp);have u:bits .or .u32 ((p:Int)+(f:Int)*256+(g:Int)*65536) 2768240640=((nM p f g:Nat):Int):=ES (b:=165) 24 (by omega) (by omega) _ _ (by simp) (by simp);have d:=wy (p:=p) (f:=f) (g:=g) (by omega) (by omega) (by omega);have v:=Em (nM p f g) d;have j:bits .or .u64 (((4294967295-nM p f g:Nat):Int)*4294967296) (nM p f g:Int)=(kK p f g:Int):=by
  have:=Gk (a:=nM p f g) (b:=4294967295-nM p f g) 32 d (by omega) _ _ rfl rfl;rw [show nM p f g+(4294967295-nM p f g)*2^32=kK p f g by unfold kK;omega] at this;rw [<-this];simp
 have m:IntKind.u64.wrap (IntKind.u64.wrap ((4294967295-nM p f g:Nat):Int)*4294967296)=((4294967295-nM p f g:Nat):Int)*4294967296:=by
  rw [IntKind.wrap_u64,IntKind.wrap_u64];omega
 rw [<-m] at j;have o:=ae j;clear j m;generalize kK p f g=V at*;generalize nM p f g=N at*
 go_enter func125,ntmps125
 go_upto_region 1 with fail
 have k:=aJ.new w [(p:Int),(f:Int),(g:Int)] 31;have n:=(GQ (fun _=>False) w).alloc (.cells #[(p:Int),(f:Int),(g:Int)] 31);generalize w.alloc (.cells #[(p:Int),(f:Int),(g:Int)] 31)=W at*;obtain ⟨r,p1,p2⟩:=gc k;have q:=ae k;clear k;go_wp2_with fail
 refine (i.out _).mono ?_;rintro e w1 ⟨rfl,c⟩;obtain ⟨q0,E,F⟩:=gc (q.out.frame c id);have l:=n.trans c GN;clear r p1 p2 n c;go_wp2;go_ret2;refine ⟨?_,l⟩;rw [<-o.out];rfl
theorem xn(a:Nat)(b:a<4294967296)(x:Int)(c:x=(a:Int)):bits .and .u32 x 255=((a% 256:Nat):Int):=by
 subst c;have h:=u32_and_nat a 255 b (by decide);rw [show a&&&255=a% 256 from el a 8] at h;exact h
def Fe(w:World)(p f g:Nat)(e:Ending)(w':World):Prop:=e= .returned (.tuple #[gD p f g,(0:Int)])/\GM w w'
theorem ee{P:Program}{fn:Func}{p u:Tmp}{a:TypeId}(h:fn.results= #[.cell p a,.tmp u])(tmps:Array Value)(w:World)(g:Nat)(t:TypeId)(cs:Array Value)(fr:Nat×Nat)(d:TypeDesc)
  (hp:tmps.getD p undef= .pointer (some ⟨g,0,none⟩)) (hg:w.heap[g]? =some (.cells cs t fr))
  (e:P.underlying a=some d) (b:(match d with| .struct _| .array _ _=>true|_=>false)=true) (c:(P.info? a).map (·.size)=some cs.size):
  (results fn tmps).run P w= .ok (.tuple #[.agg cs,tmps.getD u undef]) w:=by
 rw [results_cell_tmp h,hp];simp [asAddr,run_loadVar_row w g t a cs fr d hg e b c,Result.andThen]
theorem Bx(p f g:Int):(#[Value.int .i64 p,(f:Int),(g:Int)]:Array Value).all (·.oneCell')=true:=
 Go.all_oneCell_toArray (cs:=[(p:Int),(f:Int),(g:Int)]) (fun v a=>by simp only [bM,bq,fD] at a;rcases a with rfl|rfl|rfl<;>rfl)
theorem zL(p f g:Nat)(h:eO p f g)(w:World):Calls prog 164 #[.int .u64 (kK p f g:Int)] w (Fe w p f g):=by
 have A:=ae (kw p f g);rw [aG h] at A;obtain ⟨U,W,X,Y,Z,h6,h7⟩:=h;unfold gD at A;unfold pK at A;have I:nM p f g=p+f*256+g*65536+165*16777216:=rfl;have H:kK p f g=(4294967295-nM p f g)*4294967296+nM p f g:=rfl;have y:=wy (p:=p) (f:=f) (g:=g) (by omega) (by omega) (by omega);have o:kK p f g/4294967296=4294967295-nM p f g:=by rw [H];omega
 have S:IntKind.u32.wrap ((kK p f g:Int)/4294967296)=((4294967295-nM p f g:Nat):Int):=by
  rw [show (kK p f g:Int)/4294967296=((kK p f g/4294967296:Nat):Int) by simp,o,IntKind.wrap_u32];omega
 have M:IntKind.u32.wrap (kK p f g:Int)=(nM p f g:Int):=by rw [IntKind.wrap_u32];omega
 have O:bits .and .u32 (nM p f g:Int) 255=(p:Int):=by rw [xn _ y _ rfl];omega
 have P:bits .and .u32 ((nM p f g:Int)/256) 255=(f:Int):=by rw [xn (nM p f g/256) (by omega) _ (by simp)];omega
 have Q:bits .and .u32 ((nM p f g:Int)/65536) 255=(g:Int):=by rw [xn (nM p f g/65536) (by omega) _ (by simp)];omega
 have R:(nM p f g:Int)/16777216=165:=by omega
 have T:=Em (nM p f g) y;have K:IntKind.u32.signed=false:=rfl;have d:Hid ((prog.info? 31).map (·.size)=some 3):=by show _=_;kernel_rfl
 have n:=ae (Bx p f g);clear o;generalize kK p f g=V at*;generalize nM p f g=N at*;clear I H
 go_enter func164,ntmps164
 go_upto_region 1 with fail
 generalize j:World.alloc w _=W0;have v:aJ W0 w.heap.size [(0:Int),(0:Int),(0:Int)] 31:=by rw [<-j];exact aJ.new w [(0:Int),(0:Int),(0:Int)] 31
 have q:GM w W0:=by rw [<-j];exact (GQ _ w).alloc _
 clear j
 go_upto_region 3 with (refine wpList_store_row rfl 31 _ _ rfl W0.heap.size #[(p:Int),(f:Int),(g:Int)] rfl rfl 31 _ (heap_alloc_new _ _) d.out rfl n.out ?_)
 generalize k:(World.alloc W0 _).setRow W0.heap.size _=W2;have l:aJ W2 W0.heap.size [(p:Int),(f:Int),(g:Int)] 31:=by rw [<-k];exact setRow_heap _ _ _ _ _ _ (heap_alloc_new W0 _)
 have m:GM W0 W2:=by
  rw [<-k];exact ((GQ _ W0).alloc _).trans (S':=fun i=>i=W0.heap.size) ⟨rfl,rfl,rfl,by simp,fun i _ h=>setRow_other _ _ _ _ (fun e=>h e)⟩ (fun i h=> .inr (by omega))
 clear k;have c:=v.frame m id;have r:=q.trans m GN;obtain ⟨L,p1,p2⟩:=gc l;have B:=ae l;have D:=ae c;have E:=ae r;clear v q m l c r;go_wp2_with fail
 refine (A.out _).mono ?_;rintro e w3 ⟨rfl,b⟩;have t:=B.out.frame b id;have a:=D.out.frame b id;have s:=E.out.trans b GN;clear L p1 p2 b;obtain ⟨q0,q1,q2⟩:=gc t;have z:w3.there w.heap.size 0 3:=fun i J=>by
  match i,J with
  |0,_=>exact ⟨by rw [a.cell 0 rfl];rfl,a.free 0⟩
  |1,_=>exact ⟨by rw [a.cell 1 rfl];rfl,a.free 1⟩
  |2,_=>exact ⟨by rw [a.cell 2 rfl];rfl,a.free 2⟩
 have u:aJ (w3.setCells w.heap.size 0 [(p:Int),(f:Int),(g:Int)]) w.heap.size [(p:Int),(f:Int),(g:Int)] 31:=((a.set 0 _).set 1 _).set 2 _;have x:GM w (w3.setCells w.heap.size 0 [(p:Int),(f:Int),(g:Int)]):=
  ((s.setCell w.heap.size (.inr (ak _)) _).setCell ⟨w.heap.size,1,none⟩ (.inr (ak _)) _).setCell ⟨w.heap.size,2,none⟩ (.inr (ak _)) _
 have G:=ae z;have C:=ae u;have F:=ae x;clear t a s z u x;go_wp2_with (refine wpList_store_mid rfl 31 _ _ rfl w.heap.size 0 #[(p:Int),(f:Int),(g:Int)] rfl rfl G.out d.out n.out ?_)
 refine bodyPost_ret (ee rfl _ _ _ _ _ _ _ rfl C.out underlying31 rfl d.out) rfl ?_;exact ⟨rfl,F.out⟩
def fg(p f g i:Int):Int:=if i<0\/gg p f g-1<=i then 0 else if i<p then 1 else if i<p+f then 2 else 3
theorem oO(p f g i:Int)(h:eO p f g)(w:World):Calls prog 195 #[gD p f g,(i:Int)] w (jO w (fg p f g i)):=by
 have l:=ae (iF p f g);have o:gg p f g=1+p+f+g:=aG h;have u:fg p f g i=if i<0\/p+f+g<=i then 0 else if i<p then 1 else if i<p+f then 2 else 3:=by
  unfold fg;rw [o,show 1+p+f+g-1=p+f+g by omega]
 rw [o] at l;rw [u];obtain ⟨F,k,G,H,I,J,L⟩:=h;clear o u;unfold gD at*;unfold jO at l;obtain ⟨K,c⟩:∃K,(if i<0\/p+f+g<=i then (0:Int) else if i<p then 1 else if i<p+f then 2 else 3)=K:=⟨_,rfl⟩;have s:=ae (show (i<0\/p+f+g<=i)->K=0 from fun h=>by rw [<-c,aG h]);have y:=ae (show¬(i<0\/p+f+g<=i)->i<p->K=1 from fun h j=>by rw [<-c,aE h,aG j]);have z:=ae (show¬(i<0\/p+f+g<=i)->¬i<p->i<p+f->K=2 from fun h j k=>by rw [<-c,aE h,aE j,aG k]);have A:=ae (show¬(i<0\/p+f+g<=i)->¬i<p->¬i<p+f->K=3 from fun h j k=>by rw [<-c,aE h,aE j,aE k]);rw [c];clear c;have d:Hid (∀n w',K=n->GM w w'->jO w K (.returned (n:Int)) w'):=fun n w' e hf=>⟨by rw [e],hf⟩
 go_enter func195,ntmps195
 go_upto_region 1 with fail
 have m:=aJ.new w [(p:Int),(f:Int),(g:Int)] 31;have t:=(GQ (fun _=>False) w).alloc (.cells #[(p:Int),(f:Int),(g:Int)] 31);generalize w.alloc (.cells #[(p:Int),(f:Int),(g:Int)] 31)=W at*;obtain ⟨E,p1,p2⟩:=gc m;have x:=ae m;have r:=ae t;clear m t;by_cases C:i<0
 ·go_wp2;go_ret;exact d.out 0 _ (s.out (.inl C)) r.out
 ·go_wp2_with fail
  refine (l.out _).mono ?_;rintro e w1 ⟨rfl,b⟩;obtain ⟨q0,N,O⟩:=gc (x.out.frame b id);have a:=ae (r.out.trans b GN);clear E p1 p2 b;have M:IntKind.i64.wrap (1+p+f+g-1)=p+f+g:=by rw [IntKind.wrap_i64];omega
  by_cases D:p+f+g<=i
  ·have B:decide (1+p+f+g-1<=i)=true:=by rw [aC];omega
   go_wp2;go_ret;exact d.out 0 _ (s.out (.inr D)) a.out
  ·have B:decide (1+p+f+g-1<=i)=false:=by rw [az];omega
   by_cases q:i<p
   ·go_wp2;go_ret;exact d.out 1 _ (y.out (by omega) q) a.out
   ·by_cases v:i<p+f
    ·go_wp2;go_ret;exact d.out 2 _ (z.out (by omega) q v) a.out
    ·go_wp2;go_ret;exact d.out 3 _ (A.out (by omega) q v) a.out
abbrev jF:=(Nat->Nat)->(Nat->Prop)->World->Prop
def iY(I:jF)(L:Nat->Nat)(S:Nat->Prop)(W W':World):Prop:=∃S':Nat->Prop,I L S' W'/\Fr S W W'/\∀k,S' k->S k\/W.heap.size<=k
def im(I:jF):Prop:=∀L S W W' (T:Nat->Prop),I L S W->Fr T W W'->(∀k,S k->¬T k)->I L S W'
structure dy(t:TypeId)(v:Value)(fl:Nat)(r:Value)(I:jF)(dom:Nat->Prop):Prop where
 Yd:∀w,(method 476 t v "Load").run prog w= .ok (fl,r) w
 Ye:∀args w,(callFunc fl args).run prog w= .ok (.enter fl args) w
 stays:∀L S W W' (T:Nat->Prop),I L S W->Fr T W W'->(∀k,S k->¬T k)->¬T 1->I L S W'
 Xu:im I\/∀L S W,I L S W->1<W.heap.size
 lt:∀L S W,I L S W->∀k,S k->k<W.heap.size
 load:∀L S W a,I L S W->dom a->Calls prog fl #[r,(((a:Nat):Int):Int)] W fun e W'=>e= .returned (.tuple #[.int .u64 ((L a:Nat):Int),(0:Int)])/\iY I L S W W'
structure ph(t:TypeId)(v:Value)(fs:Nat)(r:Value)(I:jF)(dom:Nat->Prop):Prop where
 Xv:∀w,(method 476 t v "Store").run prog w= .ok (fs,r) w
 Xw:∀args w,(callFunc fs args).run prog w= .ok (.enter fs args) w
 store:∀L S W a x,I L S W->dom a->x<18446744073709551616->Calls prog fs #[r,(((a:Nat):Int):Int),.int .u64 ((x:Nat):Int)] W fun e W'=>e= .returned (0:Int)/\iY I (ej L a x) S W W'
section
variable{t:TypeId}{v:Value}{fl fs:Nat}{r:Value}{I:jF}{dom:Nat->Prop}{L L' L'':Nat->Nat}{S:Nat->Prop}{w w1 w2:World}
theorem dy.Qa(h:dy t v fl r I dom)(a:I L S w)(hf:GM w w1):I L S w1:=h.stays L S w w1 _ a hf (fun _ _ h=>h) id
theorem dy.Xo(h:dy t v fl r I dom){b:Nat->Nat}{S0:Nat->Prop}{w0:World}(e:I b S0 w0)(c:I L S w){T:Nat->Prop}(hf:Fr T w w1)(d:∀k,S k->¬T k)(f:∀k,T k->w0.heap.size<=k):I L S w1:=by
 rcases h.Xu with a|a
 ·exact a L S w w1 T c hf d
 ·exact h.stays L S w w1 T c hf d (fun g=>by have:=f _ g;have:=a b S0 w0 e;omega)
theorem iY.trans(h:iY I L S w w1)(d:∀a,I L a w1->iY I L' a w1 w2):iY I L' S w w2:=by
 obtain ⟨a,f,b,c⟩:=h;obtain ⟨S2,g,i,j⟩:=d a f;have l:=b.size;exact ⟨S2,g,b.trans i c,fun k e=>by
  rcases j k e with h|h
  ·exact c k h
  ·exact .inr (by omega)⟩
theorem dy.Fh(h:dy t v fl r I dom)(a:I L S w)(hf:GM w w1):iY I L S w w1:=⟨S,h.Qa a hf,hf.mono GN,fun _ h=> .inl h⟩
theorem dy.behind(h:dy t v fl r I dom)(hp:iY I L S w w1)(hf:GM w1 w2):iY I L S w w2:=hp.trans (fun _ a=>h.Fh a hf)
theorem dy.Ah(h:dy t v fl r I dom)(hf:GM w w1)(e:I L S w)(hp:iY I L' S w1 w2):iY I L' S w w2:=by
 obtain ⟨S2,b,c,d⟩:=hp;have f:=hf.size;exact ⟨S2,b,(hf.mono (S':=S) GN).trans c (fun _ h=> .inl h),fun k a=>(d k a).imp id (fun h=>by omega)⟩
theorem iY.Qd(hp:iY I L S w w1){b:Nat}{c:List Value}{a:TypeId}(d:aJ w b c a)(e:¬S b):aJ w1 b c a:=let ⟨_,_,f,_⟩:=hp;d.frame f e
theorem iY.fr(hp:iY I L S w w1):Fr S w w1:=let ⟨_,_,a,_⟩:=hp;a
def jb(L:Nat->Nat)(a p f g:Nat):Prop:=L a=kK p f g/\eO p f g
def tG(I:jF)(L:Nat->Nat)(S:Nat->Prop)(w:World)(p f g:Nat)(e:Ending)(w':World):Prop:=e= .returned (.tuple #[gD p f g,(0:Int)])/\iY I L S w w'
theorem jX(l:dy t v fl r I dom)(q:I L S w)(a p f g:Nat)(ha:1<=a)(P:dom a)(N:jb L a p f g):Calls prog 88 #[.iface t v,(a:Int)] w (tG I L S w p f g):=by
 have HM:=l.Yd;have Z:=l.Ye;have y:Hid ((prog.info? 31).map (·.size)=some 3):=by show _=_;kernel_rfl
 have H:=ae (Bx p f g);have R:=ae (zL p f g N.2);have G:=ae (fun w1 (hf:GM w w1)=>l.load L S w1 a (l.Qa q hf) P);rw [N.1] at G;have z:=l.lt _ _ _ q;have j:∀w1 w2 w3 W,GM w w1->aJ w1 w.heap.size [(0:Int),(0:Int),(0:Int)] 31->iY I L S w1 w2->GM w2 w3->
   w3.there w.heap.size 0 3/\(W=w3.setCells w.heap.size 0 [(p:Int),(f:Int),(g:Int)]->aJ W w.heap.size [(p:Int),(f:Int),(g:Int)] 31/\iY I L S w W):=by
  intro w1 w2 w3 W C A hp b;have E:¬S w.heap.size:=fun h=>by have:=z _ h;omega
  have c:=(hp.Qd A E).frame b id;refine ⟨fun i q=> ?_,?_⟩
  ·match i,q with
   |0,_=>exact ⟨by rw [c.cell 0 rfl];rfl,c.free 0⟩
   |1,_=>exact ⟨by rw [c.cell 1 rfl];rfl,c.free 1⟩
   |2,_=>exact ⟨by rw [c.cell 2 rfl];rfl,c.free 2⟩
  ·rintro rfl;refine ⟨((c.set 0 _).set 1 _).set 2 _,?_⟩;obtain ⟨S2,X,Y,Q⟩:=l.behind hp b;have V:=C.size;have l1:=A.lt;have D:Fr (fun k=>k=w.heap.size) w3 (w3.setCells w.heap.size 0 [(p:Int),(f:Int),(g:Int)]):=
    (((GQ (fun k=>k=w.heap.size) w3).setCell w.heap.size (.inl rfl) _).setCell ⟨w.heap.size,1,none⟩ (.inl rfl) _).setCell ⟨w.heap.size,2,none⟩ (.inl rfl) _
   have M:¬S2 w.heap.size:=fun h=>by
    rcases Q _ h with h|h
    ·exact E h
    ·omega
   exact ⟨S2,l.Xo q X D (fun k s e=>M (by rw [<-e];exact s)) (fun k s=>gB s.symm),((C.mono (S':=S) GN).trans Y (fun _ h=> .inl h)).trans D (fun k s=> .inr (by omega)),fun k s=>(Q k s).imp id (fun h=>by omega)⟩
 have d:=ae j;have U:(1:Int)<=(a:Int):=by omega
 clear l q P N z j
 go_enter func88,ntmps88
 go_upto_region 1 with fail
 generalize o:World.alloc w _=W0;have B:aJ W0 w.heap.size [(0:Int),(0:Int),(0:Int)] 31:=by rw [<-o];exact aJ.new w [(0:Int),(0:Int),(0:Int)] 31
 have n:GM w W0:=by rw [<-o];exact (GQ _ w).alloc _
 clear o;have x:=ae (G.out W0 n);have u:=ae (fun w2 w3 W hp b=>d.out W0 w2 w3 W n B hp b);clear B n G d;go_wp2_with fail
 refine x.out.mono ?_;rintro e w2 ⟨rfl,hp⟩;have m:=ae (fun w3 W b=>u.out w2 w3 W hp b);clear hp u x;go_wp2_with fail
 refine (R.out _).mono ?_;rintro e w3 ⟨rfl,b⟩;have J:=ae (m.out w3 w3 b).1;have F:=ae (fun W T=>(m.out w3 W b).2 T);unfold gD;clear b m;go_wp2_with (refine wpList_store_mid rfl 31 _ _ rfl w.heap.size 0 #[(p:Int),(f:Int),(g:Int)] rfl rfl J.out y.out H.out ?_)
 obtain ⟨K,O⟩:=F.out _ rfl;refine bodyPost_ret (ee rfl _ _ _ _ _ _ _ rfl K underlying31 rfl y.out) rfl ?_;exact ⟨rfl,O⟩
end
def eB(I:jF)(L:Nat->Nat)(S:Nat->Prop)(w:World)(r:Value)(e:Ending)(w':World):Prop:=e= .returned r/\iY I L S w w'
section
variable{t:TypeId}{v:Value}{fl fs:Nat}{r:Value}{I:jF}{dom:Nat->Prop}{L L' L'':Nat->Nat}{S:Nat->Prop}{w w1 w2:World}
theorem oJ(l:dy t v fl r I dom)(s:I L S w)(a i p f g x:Nat)(n:1<=a)(y:a<4611686018427387904)(z:i<256)(q:dom a)(j:jb L a p f g)(u:fg p f g i=x):Calls prog 131 #[.iface t v,(a:Int),(i:Int),(x:Int)] w (eB I L S w (.tuple #[(((a+1+i:Nat):Int):Int),(0:Int)])):=by
 have d:=ae (jX l s a p f g n q j);have c:=ae (fun w1=>oO p f g i j.2 w1);rw [u] at c;unfold jO at c;have w1:IntKind.i64.wrap ((a:Int)+1)=(a:Int)+1:=by rw [IntKind.wrap_i64];omega
 have w2:IntKind.i64.wrap ((a:Int)+1+(i:Int))=(a:Int)+1+(i:Int):=by rw [IntKind.wrap_i64];omega
 have b:=ae (fun W1 o m (hp:iY I L S w W1) (hf:GM (W1.alloc o) m)=>l.behind hp (((GQ (fun _=>False) W1).alloc o).trans hf GN));unfold tG at d;clear l s q j u n y z;unfold gD at d c
 go_enter func131,ntmps131
 go_upto_region 1 with fail
 go_wp2_with fail
 refine d.out.mono ?_;rintro e W1 ⟨rfl,hp⟩;go_wp2_with fail
 refine (c.out _).mono ?_;rintro e m ⟨rfl,hf⟩;have k:=b.out _ _ _ hp hf;clear hp hf b d c;go_wp2;go_ret2;exact ⟨by simp,k⟩
theorem oz{a:Nat->Prop}(b:Fr S w w1)(c:∀k,a k->S k\/w.heap.size<=k)(e:iY I L' a w1 w2):iY I L' S w w2:=by
 obtain ⟨S2,f,g,i⟩:=e;have j:=b.size;exact ⟨S2,f,b.trans g c,fun k d=>by
  rcases i k d with h|h
  ·exact c k h
  ·exact .inr (by omega)⟩
theorem iY.load(k:dy t v fl r I dom){a x:Nat}(g:dom a)(l:L a=x)(hp:iY I L S w w1):Calls prog fl #[r,(((a:Nat):Int):Int)] w1 (eB I L S w (.tuple #[.int .u64 x,(0:Int)])):=by
 obtain ⟨b,c,d,f⟩:=hp;have h:=k.load L b w1 a c g;rw [l] at h;exact h.mono (fun e m ⟨i,j⟩=>⟨i,oz d f j⟩)
theorem iY.store(j:ph t v fs r I dom){a x:Nat}(g:dom a)(k:x<18446744073709551616)(hp:iY I L S w w1):Calls prog fs #[r,(((a:Nat):Int):Int),.int .u64 ((x:Nat):Int)] w1 (eB I (ej L a x) S w (.int .i64 0)):=by
 obtain ⟨b,c,d,f⟩:=hp;exact (j.store L b w1 a x c g k).mono (fun e l ⟨h,i⟩=>⟨h,oz d f i⟩)
theorem sZ(c:dy t v fl r I dom)(A:I L S w)(a i p f g n x:Nat)(u:1<=a)(q:a<4611686018427387904)(s:i<256)(y:dom a)(C:jb L a p f g)(B:fg p f g i=n)(o:dom (a+1+i))(D:L (a+1+i)=x):Calls prog 163 #[.iface t v,(a:Int),(i:Int),(n:Int)] w (eB I L S w (.tuple #[.int .u64 x,(0:Int)])):=by
 have j:=ae (oJ c A a i p f g n u q s y C B);have H:=c.Yd;have G:=c.Ye;have d:=ae (fun w1 (h:iY I L S w w1)=>iY.load c o D h);obtain ⟨z,E⟩:∃z:Int,z=((a+1+i:Nat):Int):=⟨_,rfl⟩;rw [<-E] at j d;clear c A y C B o D E u q s;obtain ⟨Q,k⟩:∃Q,Q=eB I L S w (.tuple #[.int .u64 x,(0:Int)]):=⟨_,rfl⟩;rw [<-k] at d ⊢;have F:Hid (∀e w',Q e w'->e= .returned (.tuple #[.int .u64 x,(0:Int)])/\iY I L S w w'):=by show∀e w',_;intro e w' h;rw [k] at h;exact h
 have l:Hid (∀w',iY I L S w w'->Q (.returned (.tuple #[.int .u64 x,(0:Int)])) w'):=by show∀w',_;intro w' h;rw [k];exact ⟨rfl,h⟩
 clear k;unfold eB at j
 go_enter func163,ntmps163
 go_wp2_with fail
 refine j.out.mono ?_;rintro e W1 ⟨rfl,hp⟩;have b:=ae (d.out _ hp);clear hp d j;go_wp2_with fail
 refine b.out.mono ?_;intro e J hp;obtain ⟨rfl,m⟩:=F.out _ _ hp;clear hp b;go_wp2;exact l.out _ m
theorem xO(D:dy t v fl r I dom)(j:ph t v fs r I dom)(A:I L S w)(a i p f g m x:Nat)(u:1<=a)(q:a<4611686018427387904)(s:i<256)(y:dom a)(C:jb L a p f g)(B:fg p f g i=m)(o:dom (a+1+i))(E:x<18446744073709551616):Calls prog 161 #[.iface t v,(a:Int),(i:Int),(m:Int),.int .u64 x] w (eB I (ej L (a+1+i) x) S w (.int .i64 0)):=by
 have k:=ae (oJ D A a i p f g m u q s y C B);have H:=j.Xv;have G:=j.Xw;have d:=ae (fun w1 (h:iY I L S w w1)=>iY.store j o E h);obtain ⟨z,F⟩:∃z:Int,z=((a+1+i:Nat):Int):=⟨_,rfl⟩;obtain ⟨n,c⟩:∃n,n=ej L (a+1+i) x:=⟨_,rfl⟩;rw [<-F] at k d;rw [<-c] at d ⊢;clear D A y C B o E F u q s j c;unfold eB at*
 go_enter func161,ntmps161
 go_wp2_with fail
 refine k.out.mono ?_;rintro e W1 ⟨rfl,hp⟩;have b:=ae (d.out _ hp);clear hp d k;go_wp2_with fail
 refine b.out.mono ?_;rintro e J ⟨rfl,l⟩;clear b;go_wp2;go_ret;exact ⟨rfl,l⟩
end
theorem xk(p q r:Addr)(w:World):
  CallsD prog 237 #[.pointer (some p),.pointer (some q),.pointer (some r)] .returning w fun e c w'=>e= .returned (.tuple #[])/\c= .returning/\w'=w:=by
 refine callsD_of_wpS func237 rfl fun a cs b=> ?_
 apply wpS_seq;apply wpS_region;simp [wpOpsS,go_sem,recoverD,b,ntmps237,Exit.thenS];apply wpS_seq;apply wpS_seq;apply wpS_region;simp [wpOpsS,go_sem,Exit.thenS];refine wpS_cond (t:=true) (by simp [Act.eval,Array.replicate]) ?_;simp only [iN];refine wpS_of_wp (wp_ret ?_)
 cases a
 simp_all [bodyPostS,results,Tryz.results237,Exit.thenS]
def pf(w:World)(R:World->World->Prop)(e:Ending)(w':World):Prop:=e= .returned (.agg #[(0:Int),(0:Int)])/\∃w1 w2,GM w w1/\R w1 w2/\Fr (fun k=>w.heap.size<=k/\k<w1.heap.size) w2 w'
theorem Du(t:TypeId)(v:Value)(F b:Nat)(cap:Array Value)(W:∀args w,(callFunc F args).run prog w= .ok (.enter F args) w)(w:World)(R:World->World->Prop)
  (z:aJ w b [.iface t v,.slice none 0 0] 270)
  (G:∀w1,GM w w1->Calls prog F (#[.pointer (some ⟨b,0,none⟩)]++cap) w1 fun e w2=>e= .returned (.tuple #[])/\R w1 w2/\∃T:Nat->Prop,(∀k,T k->k<w.heap.size\/w1.heap.size<=k)/\Fr T w1 w2):
  Calls prog 184 #[b,.func (.func F) #[] cap] w (pf w R):=by
 have Q:∀(fn:Fn) (first cap:Array Value) (w:World),(Instr.makeFunc fn first cap).run prog w= .ok (.func fn first cap) w:=fun _ _ _ _=>rfl
 have B:=z.cell 1 rfl
 go_enter_defers func184,ntmps184
 go_upto_region 1 with fail
 obtain ⟨W1,c⟩:∃W1,(w.alloc (.cells #[b] 199)).alloc (.cells #[(0:Int),(0:Int)] 197)=W1:=⟨_,rfl⟩;rw [c];have r:=z.lt;have L:W1.heap.size=w.heap.size+2:=by rw [<-c];exact (bC _).trans (congrArg (· +1) (bC _))
 have g:GM w W1:=by rw [<-c];exact ((GQ _ w).alloc _).alloc _
 have y:aJ W1 w.heap.size [b] 199:=by rw [<-c];exact (aJ.new w [b] 199).alloc _
 have H:aJ W1 (w.heap.size+1) [(0:Int),(0:Int)] 197:=by
  have h:=aJ.new (w.alloc (.cells #[b] 199)) [(0:Int),(0:Int)] 197;have O:(w.alloc (.cells #[b] 199)).heap.size=w.heap.size+1:=bC _;rw [O] at h;rw [<-c];exact h
 have C:=(z.frame g id).cell 1 rfl;have D:=y.cell 0 rfl;have s:∀o,(W1.alloc o).cell? w.heap.size=some b:=fun o=>(y.alloc o).cell 0 rfl
 have E:=ae G;have x:=ae (ag g (ag y (ag H (ag L r))));clear c g y H L z G B r
 go_upto_region 3 with fail
 have j:GM w (W1.alloc (.cells #[(0:Int)] 3)):=x.out.1.alloc _;have q:aJ (W1.alloc (.cells #[(0:Int)] 3)) (w.heap.size+1) [(0:Int),(0:Int)] 197:=x.out.2.2.1.alloc _;have u:(W1.alloc (.cells #[(0:Int)] 3)).heap.size=w.heap.size+3:=(bC _).trans (congrArg (· +1) x.out.2.2.2.1);have S:=s (.cells #[(0:Int)] 3);have m:=ae (E.out _ j);have d:=ae (ag j (ag q u));generalize W1.alloc (.cells #[(0:Int)] 3)=W2 at*;clear E x j q u C D s;generalize W1.heap.size=n at*;clear W1;go_wp2_with fail
 refine m.out.mono ?_;rintro e w3 ⟨rfl,I,T,J,hf⟩;have a:=d.out.2.1.frame hf (fun h=>by have:=J _ h;have:=d.out.2.2;omega);have M:Hid (∀w4,w4=w3.setCells (w.heap.size+1) 0 [(0:Int),(0:Int)]->aJ w4 (w.heap.size+1) [(0:Int),(0:Int)] 197/\pf w R (.returned (.agg #[(0:Int),(0:Int)])) w4):=by
  show∀w4,_
  rintro w4 rfl;refine ⟨(a.set 0 _).set 1 _,rfl,W2,w3,d.out.1,I,?_⟩;have:=d.out.2.2;exact ((GQ _ w3).setCell ⟨w.heap.size+1,0,none⟩ (.inl ⟨fm _,by show w.heap.size+1<_;omega⟩) _).setCell ⟨w.heap.size+1,1,none⟩ (.inl ⟨fm _,by show w.heap.size+1<_;omega⟩) _
 have N:Hid (w3.there (w.heap.size+1) 0 2):=by
  show w3.there _ _ _
  intro i P
  match i,P with
  |0,_=>exact ⟨by rw [a.cell 0 rfl];rfl,a.free 0⟩
  |1,_=>exact ⟨by rw [a.cell 1 rfl];rfl,a.free 1⟩
 have p:Hid ((prog.info? 197).map (·.size)=some 2):=by show _=_;kernel_rfl
 have A:Hid ((#[Value.int .i64 0,(0:Int)].all (·.oneCell'))=true):=by show _=_;exact Go.all_oneCell_toArray (cs:=[(0:Int),(0:Int)]) (fun v K=>by simp only [bM,bq,fD] at K;rcases K with rfl|rfl<;>rfl)
 clear I J hf a m d;go_wp2_with (refine wpList_store_mid rfl 197 _ _ rfl (w.heap.size+1) 0 #[(0:Int),(0:Int)] rfl rfl N.out p.out A.out ?_)
 obtain ⟨U,l⟩:=M.out _ rfl;refine leaves_cons (f:=237) (args:= #[w.heap.size,n,.pointer (some ⟨w.heap.size+1,0,none⟩)]) (by simp) (by simp [go_sem]) ?_;refine (xk ⟨w.heap.size,0,none⟩ ⟨n,0,none⟩ ⟨w.heap.size+1,0,none⟩ _).mono ?_;rintro e X V ⟨rfl,rfl,rfl⟩;exact ⟨_,results_cell_row rfl _ _ _ _ _ _ _ rfl U underlying197 rfl p.out,l⟩
theorem sN(t:TypeId)(v:Value)(F:Nat)(cap:Array Value)(L:∀args w,(callFunc F args).run prog w= .ok (.enter F args) w)(w:World)(R:World->World->Prop)
  (D:∀b w1,GM w w1->w.heap.size<=b->b<w1.heap.size->aJ w1 b [.iface t v,.slice none 0 0] 270->Calls prog F (#[.pointer (some ⟨b,0,none⟩)]++cap) w1 fun e w2=>e= .returned (.tuple #[])/\R w1 w2/\∃T:Nat->Prop,(∀k,T k->k=b\/k<w.heap.size\/w1.heap.size<=k)/\Fr T w1 w2):
  Calls prog 126 #[.iface t v,.func (.func F) #[] cap] w (pf w R):=by
 have C:=ae D;clear D;have o:Hid ((prog.info? 197).map (·.size)=some 2):=by show _=_;kernel_rfl
 have A:Hid ((#[Value.int .i64 0,(0:Int)].all (·.oneCell'))=true):=by show _=_;exact Go.all_oneCell_toArray (cs:=[(0:Int),(0:Int)]) (fun v H=>by simp only [bM,bq,fD] at H;rcases H with rfl|rfl<;>rfl)
 go_enter func126,ntmps126
 go_upto_region 1 with fail
 obtain ⟨W1,d⟩:∃W1,w.alloc (.cells #[(0:Int),(0:Int)] 197)=W1:=⟨_,rfl⟩;have I:W1.heap.size=w.heap.size+1:=by rw [<-d];exact bC _
 have p:GM w W1:=by rw [<-d];exact (GQ _ w).alloc _
 have E:aJ W1 w.heap.size [(0:Int),(0:Int)] 197:=by rw [<-d];exact aJ.new w _ _
 rw [d];have m:=ae (ag p (ag E I));clear d p E I;go_wp2_with fail
 have g:GM w (W1.alloc (.cells #[.iface t v,.slice none 0 0] 270)):=m.out.1.alloc _;have f:=aJ.new W1 [.iface t v,.slice none 0 0] 270;have q:aJ (W1.alloc (.cells #[.iface t v,.slice none 0 0] 270)) w.heap.size [(0:Int),(0:Int)] 197:=m.out.2.1.alloc _;have B:(W1.alloc (.cells #[.iface t v,.slice none 0 0] 270)).heap.size=w.heap.size+2:=(bC _).trans (congrArg (· +1) m.out.2.2);have y:=m.out.2.2;obtain ⟨b,G⟩:∃b,b=W1.heap.size:=⟨_,rfl⟩;rw [<-G] at f y ⊢;clear m G;generalize W1.alloc (.cells #[.iface t v,.slice none 0 0] 270)=W2 at*;clear W1;have n:=ae (Du t v F b cap L W2 (fun w1 w2=>R w1 w2/\∃T:Nat->Prop,(∀k,T k->k=b\/k<w.heap.size\/w1.heap.size<=k)/\Fr T w1 w2) f (fun w1 a=>by
  have x:=a.size;refine (C.out b w1 (g.trans a GN) (by omega) (by omega) (f.frame a id)).mono ?_;rintro e w2 ⟨rfl,z,T,r,hf⟩;exact ⟨rfl,⟨z,T,r,hf⟩,T,fun k N=>by have:=r k N;omega,hf⟩))
 refine n.out.mono ?_;rintro e w3 ⟨rfl,w1,w2,a,⟨z,T,r,u⟩,j⟩;have x:=a.size;have c:=((q.frame a id).frame u (fun h=>by have:=r _ h;omega)).frame j (fun h=>by have:=h.1;omega);have J:Hid (∀w4,w4=w3.setCells w.heap.size 0 [(0:Int),(0:Int)]->aJ w4 w.heap.size [(0:Int),(0:Int)] 197/\pf w R (.returned (.agg #[(0:Int),(0:Int)])) w4):=by
  show∀w4,_
  rintro w4 rfl;refine ⟨(c.set 0 _).set 1 _,rfl,w1,w2,g.trans a GN,z,?_⟩;have s:=j.mono (S':=fun k=>w.heap.size<=k/\k<w1.heap.size) (fun k h=> .inl ⟨by have:=h.1;omega,h.2⟩);exact (s.setCell w.heap.size (.inl ⟨ak _,by show w.heap.size<_;omega⟩) _).setCell ⟨w.heap.size,1,none⟩ (.inl ⟨ak _,by show w.heap.size<_;omega⟩) _
 have K:Hid (w3.there w.heap.size 0 2):=by
  show w3.there _ _ _
  intro i M
  match i,M with
  |0,_=>exact ⟨by rw [c.cell 0 rfl];rfl,c.free 0⟩
  |1,_=>exact ⟨by rw [c.cell 1 rfl];rfl,c.free 1⟩
 clear z r u a j c n C g f q B y x;go_wp2_with (refine wpList_store_mid rfl 197 _ _ rfl w.heap.size 0 #[(0:Int),(0:Int)] rfl rfl K.out o.out A.out ?_)
 obtain ⟨O,l⟩:=J.out _ rfl;refine bodyPost_ret (results_cell_row rfl _ _ _ _ _ _ _ rfl O underlying197 rfl o.out) rfl ?_;exact l
def vk(I:jF)(t:TypeId)(v:Value)(b lo:Nat)(L:Nat->Nat)(S:Nat->Prop)(n:Nat)(w:World):Prop:=
 I L S w/\b<lo/\lo<=w.heap.size/\¬S b/\∃sl xs,aJ w b [.iface t v,sl] 270/\w.ownsRow lo 274 2 sl n xs/\∀k,sl.ownBlock=some k->¬S k
def AA(I:jF)(t:TypeId)(v:Value)(b lo:Nat)(L:Nat->Nat)(S:Nat->Prop)(n:Nat)(w w':World):Prop:=
 ∃S':Nat->Prop,vk I t v b lo L S' n w'/\Fr (fun k=>S k\/k=b\/lo<=k) w w'/\∀k,S' k->S k\/w.heap.size<=k
section
variable{t:TypeId}{v:Value}{fl fs:Nat}{r:Value}{I:jF}{dom:Nat->Prop}{L L' L'':Nat->Nat}{S:Nat->Prop}{w w1 w2:World}{b lo n:Nat}
theorem vk.sp(h:vk I t v b lo L S n w)(hp:iY I L' S w w1):AA I t v b lo L' S n w w1:=by
 obtain ⟨m,j,o,d,sl,xs,e,f,g⟩:=h;obtain ⟨S',l,a,c⟩:=hp;have q:=a.size;have p:=e.lt;refine ⟨S',⟨l,j,by omega,fun h=> ?_,sl,xs,e.frame a d,cD f a g,fun k i h=> ?_⟩,a.mono (fun k h=> .inl (.inl h)),c⟩
 ·rcases c _ h with h|h
  ·exact d h
  ·omega
 ·rcases c _ h with h|h
  ·exact g k i h
  ·have:=(f.lt k i).2;omega
theorem vk.Fh(a:dy t v fl r I dom)(h:vk I t v b lo L S n w)(hf:GM w w1):AA I t v b lo L S n w w1:=h.sp (a.Fh h.1 hf)
theorem lY{n':Nat}{a:Nat->Prop}(_hlo:lo<=w.heap.size)(c:Fr (fun k=>S k\/k=b\/lo<=k) w w1)(d:∀k,a k->S k\/w.heap.size<=k)(h:AA I t v b lo L' a n' w1 w2):AA I t v b lo L' S n' w w2:=by
 obtain ⟨S2,e,f,g⟩:=h;have i:=c.size;refine ⟨S2,e,c.trans f (fun k h=> ?_),fun k h=> ?_⟩
 ·rcases h with h|h|h
  ·exact (d k h).imp .inl id
  ·exact .inl (.inr (.inl h))
  ·exact .inl (.inr (.inr h))
 ·rcases g k h with h|h
  ·exact d k h
  ·exact .inr (by omega)
theorem vk.cells(h:vk I t v b lo L S n w):w.cell? b=some (.iface t v):=let ⟨_,_,_,_,_,_,h,_⟩:=h;h.cell 0 rfl
def vj(I:jF)(t:TypeId)(v:Value)(b lo:Nat)(L:Nat->Nat)(S:Nat->Prop)(n:Nat)(w:World)(r:Value)(e:Ending)(w':World):Prop:=e= .returned r/\AA I t v b lo L S n w w'
theorem rL(c:dy t v fl r I dom)(h:vk I t v b lo L S n w)(a:Nat)(g:dom a):Calls prog 185 #[b,(a:Int)] w (vj I t v b lo L S n w (.int .u64 (L a:Int))):=by
 have l:=c.Yd;have k:=c.Ye;have d:=ae (c.load L S w a h.1 g);have i:=h.cells;have f:=ae (fun w' (hp:iY I L S w w')=>h.sp hp);generalize L a=x at*;unfold vj;clear c h g
 go_enter func185,ntmps185
 go_wp2_with fail
 refine d.out.mono ?_;rintro e w2 ⟨rfl,hp⟩;have j:=f.out _ hp;clear hp f d i;go_wp2;go_ret;exact ⟨rfl,j⟩
theorem BY:(prog.info? 274).map (fun i=>(i.zero,i.size,i.bytes))=some (some (.agg #[(0:Int),.int .u64 0]),2,16):=by kernel_rfl
theorem vk.entry{sl sl':Value}{xs ys:List Value}{w3:World}(h:vk I t v b lo L S n w)(o:aJ w b [.iface t v,sl] 270)(E:w.ownsRow lo 274 2 sl n xs)(hf:GM w w2)
  (m:w3.ownsRow lo 274 2 sl' (n+1) ys) (hg:w2.grownBy w3 sl.ownBlock) (G:sl'.ownBlock=sl.ownBlock\/sl'.ownBlock=some w2.heap.size) (q:∀k,S k->k<w.heap.size) (s:im I):
  ∃c,aJ w3 b [.iface t v,c] 270/\∀w4,w4=w3.setCell ⟨b,1,none⟩ sl'->AA I t v b lo L S (n+1) w w4:=by
 obtain ⟨z,A,J,u,d,H,B,K,x⟩:=h;have y:d=sl:=by
  have:=B.symm.trans o;simp only [aL,Obj.cells.injEq,gP,Array.mk.injEq] at this
  simpa using this.1
 subst y;have C:=o.lt;have f:=fun k (a:d.ownBlock=some k)=>E.lt k a
 have g:Fr (fun k=>d.ownBlock=some k) w w3:=(hf.mono (S':=fun k=>d.ownBlock=some k) GN).trans (Fr.Qm hg) (fun i D=> .inl D);have j:=o.frame g (fun a=>by have:=(f b a).1;omega);refine ⟨d,j,?_⟩;rintro w4 rfl;have l:Fr (fun k=>S k\/k=b\/lo<=k) w (w3.setCell ⟨b,1,none⟩ sl'):=(g.mono (S':=fun k=>S k\/k=b\/lo<=k) (fun k a=> .inl (.inr (.inr (f k a).1)))).setCell ⟨b,1,none⟩ (.inl (.inr (.inl rfl))) sl';have F:=l.size;refine ⟨S,⟨?_,A,by omega,u,sl',ys,j.set 1 sl',?_,?_⟩,l,fun k h=> .inl h⟩
 ·refine s L S w _ (fun k=>d.ownBlock=some k\/k=b) z ((g.mono (fun k a=> .inl (.inl a))).setCell ⟨b,1,none⟩ (.inl (.inr rfl)) sl') ?_;rintro k a (p|rfl)
  ·exact x k p a
  ·exact u a
 ·exact cD m ((GQ (fun k=>k=b) w3).setCell ⟨b,1,none⟩ (.inl rfl) sl') (fun k a e=>by have:=(m.lt k a).1;omega)
 ·intro k a h;rcases G with e|e
  ·exact x k (e▸a) h
  ·rw [e] at a;simp only [aL] at a;have:=q k h;have:=hf.size;omega
theorem mP(N:im I)(Z:dy t v fl r I dom)(Q:ph t v fs r I dom)(h:vk I t v b lo L S n w)(a x:Nat)(X:dom a)(hx:x<18446744073709551616)(hn:n<1000000000):Calls prog 128 #[b,(a:Int),.int .u64 x] w (vj I t v b lo (ej L a x) S (n+1) w (.tuple #[])):=by
 have HM:=Q.Xv;have HE:=Q.Xw;have U:=ae (rL Z h a X);have c0:=h.cells;have V:=ae (fun w1 E (P:vk I t v b lo L E n w1)=>Q.store L E w1 a x P.1 X hx);have l:=ae (fun E (wa w2 w3:World) (sl sl':Value) (xs ys:List Value) (P:vk I t v b lo (ej L a x) E n wa) m K hf s hg z=>vk.entry (w:=wa) (w2:=w2) (w3:=w3) (sl:=sl) (sl':=sl') (xs:=xs) (ys:=ys) P m K hf s hg z (Z.lt _ _ _ P.1) N);obtain ⟨i0,hi,ad,af,ah⟩:=info_parts BY;obtain ⟨y,hy⟩:∃y,L a=y:=⟨_,rfl⟩;rw [hy] at U;obtain ⟨W,F⟩:∃W,W=ej L a x:=⟨_,rfl⟩;rw [<-F] at V l ⊢;unfold vj at*;have Y:=h.2.2.1;clear N Z Q h X hx hy F
 go_enter func128,ntmps128
 go_wp2_with fail
 refine U.out.mono ?_;rintro e w1 ⟨rfl,E,f,p,G⟩;have D:=ae (V.out _ _ f);have C:=ae (fun w' hp=>f.sp (w1:=w') (L':=W) hp);have c1:=f.cells;have A:=ae (ag p G);have aj:=p.size;clear f p G U V c0;go_wp2_with fail
 refine D.out.mono ?_;rintro e w2 ⟨rfl,hp⟩;obtain ⟨S2,u,J,H⟩:=C.out _ hp;obtain ⟨g1,h2,h3,g2,sl,xs,m,K,g3⟩:=id u;obtain ⟨c2,c3,_⟩:=GS m;have B:=ae (ag J H);have i:=ae (fun wb w3 sl' ys hf s hg z=>l.out S2 w2 wb w3 sl sl' xs ys u m K hf s hg z);have HB:=ae (ag m K);have ak:=h3;clear hp C D l u J H m c1 h2 h3 K g1 g2 g3;go_wp2_with (at_builtin;refine Hid.out ?_)
 unfold Hid;have d:GM w2 (w2.alloc (.cells #[(a:Int),.int .u64 y] 274)):=(GQ _ w2).alloc _;have k:aJ (w2.alloc (.cells #[(a:Int),.int .u64 y] 274)) w2.heap.size [(a:Int),.int .u64 y] 274:=aJ.new w2 _ _;have ai:=d.size;have T:=ae d;have M:=cD HB.out.2 d (fun _ _ h=>h);refine wpList_append_own_at _ rfl _ _ 268 rfl lo 274 i0 _ 2 16 underlying268 hi ad af ah rfl (by decide) _ n xs rfl M ⟨w2.heap.size,0,none⟩ 1 1 [(a:Int),.int .u64 y] rfl rfl ?_ ?_ (by unfold maxLen;omega) (by omega) (by omega) ?_
 ·intro j u' hj;have:=k.cell j hj;rwa [show ((⟨w2.heap.size,0,none⟩:Addr).add j)=⟨w2.heap.size,j,none⟩ by unfold Addr.add;split<;>simp_all]
 ·intro u' O;simp only [bM,bq,fD] at O;rcases O with rfl|rfl<;>rfl
 ·intro v' w3 q hg _ z;obtain ⟨g,cap,rfl⟩:∃g cap,v'= .slice (some ⟨g,0,none⟩) (n+1) cap:=by
   rcases q.2 with ⟨_,h⟩|⟨g,cap,_,h,_⟩
   ·omega
   ·exact ⟨g,cap,h⟩
  obtain ⟨c,o,hE⟩:=i.out _ w3 _ _ d q hg z;have c4:=o.cell 1 rfl;have f4:=o.free 1;have R:=ae hE;clear d k ai T M q hg z o hE i HB c2 c3;go_wp2;go_end0;exact ⟨rfl,lY Y A.out.1 A.out.2 (lY (by omega) B.out.1 B.out.2 (R.out _ rfl))⟩
end
def nD(L:Nat->Nat)(a W n:Nat):Nat->Nat:=fun k=>if k=a then W else if a<k/\k<a+1+n then 0 else L k
theorem BJ(L:Nat->Nat)(a W:Nat):nD L a W 0=ej L a W:=by
 funext k;unfold nD ej;by_cases h:k=a
 ·rw [aG h,aG h]
 ·rw [aE h,aE h,aE (by omega)]
theorem BK(L:Nat->Nat)(a W n:Nat):ej (nD L a W n) (a+1+n) 0=nD L a W (n+1):=by
 funext k;show (if k=a+1+n then 0 else if k=a then W else if a<k/\k<a+1+n then 0 else L k)=if k=a then W else if a<k/\k<a+1+(n+1) then 0 else L k
 by_cases h:k=a+1+n
 ·subst h;rw [aG rfl,aE (by omega),aG (by omega)]
 ·rw [aE h];by_cases b:k=a
  ·rw [aG b,aG b]
  ·rw [aE b,aE b];by_cases c:a<k/\k<a+1+n
   ·rw [aG c,aG (by omega)]
   ·rw [aE c,aE (by omega)]
def vp(w:World)(c1 c2 c3 a W p f g:Nat):Prop:=aJ w c1 [(a:Int)] 3/\aJ w c2 [.int .u64 W] 46/\aJ w c3 [(p:Int),(f:Int),(g:Int)] 31
theorem vp.Qa{w w':World}{c1 c2 b a W p f g:Nat}{T:Nat->Prop}(h:vp w c1 c2 b a W p f g)(hf:Fr T w w')(c:¬T c1)(d:¬T c2)(e:¬T b):vp w' c1 c2 b a W p f g:=⟨h.1.frame hf c,h.2.1.frame hf d,h.2.2.frame hf e⟩
section
variable{t:TypeId}{v:Value}{fl fs:Nat}{r:Value}{I:jF}{dom:Nat->Prop}{L L' L'':Nat->Nat}{S:Nat->Prop}{w w1 w2:World}{b lo n:Nat}
theorem EX(q:im I)(K:dy t v fl r I dom)(Y:ph t v fs r I dom)(h:vk I t v b lo L S 0 w)(c1 c2 C a p f g:Nat)(H:vp w c1 c2 C a (kK p f g) p f g)(J:eO p f g)
  (c:∀k,k=c1\/k=c2\/k=C->¬S k/\k≠b/\k<lo) (hA:a<4611686018427387904) (j:∀k,a<=k->k<a+1+(p+f+g)->dom k):
  Calls prog 127 #[b,c1,c2,C] w (vj I t v b lo (nD L a (kK p f g) (p+f+g)) S (p+f+g+1) w (.tuple #[])):=by
 have hW:kK p f g<18446744073709551616:=by obtain ⟨_,G,_,R,_,T,_⟩:=J;exact Cc (by omega) (by omega) (by omega)
 have hN:p+f+g<256:=by obtain ⟨_,G,_,R,_,T,h4⟩:=J;omega
 have B:=ae (fun w1=>iF p f g w1);have F:gg p f g=((1+(p+f+g):Nat):Int):=by rw [gg,aG J];push_cast;omega
 rw [F] at B;unfold gD at B;have d:=ae (mP q K Y h a (kK p f g) (j a (by omega) (by omega)) hW (by omega));rw [<-BJ] at d;have Q:=ae (fun i (hi:i<p+f+g) w' (hp:AA I t v b lo (nD L a (kK p f g) i) S (i+1) w w')=>by
  obtain ⟨S',G,R,T⟩:=hp;have hq:=mP q K Y G (a+1+i) 0 (j _ (by omega) (by omega)) (by omega) (by omega);rw [BK] at hq;exact hq.mono (fun e w2 ⟨he,s⟩=>(⟨he,lY h.2.2.1 R T s⟩:vj I t v b lo (nD L a (kK p f g) (i+1)) S (i+1+1) w (.tuple #[]) e w2)))
 have y:=ae (fun w' n' i (hp:AA I t v b lo (nD L a (kK p f g) i) S n' w w')=>H.Qa hp.choose_spec.2.1 (fun h=>by have:=c c1 (.inl rfl);rcases h with h|h|h;exact this.1 h;exact this.2.1 h;omega) (fun h=>by have:=c c2 (.inr (.inl rfl));rcases h with h|h|h;exact this.1 h;exact this.2.1 h;omega) (fun h=>by have:=c C (.inr (.inr rfl));rcases h with h|h|h;exact this.1 h;exact this.2.1 h;omega));have M:=ae (fun w' w2 n' i (hp:AA I t v b lo (nD L a (kK p f g) i) S n' w w') (hf:GM w' w2)=>(lY h.2.2.1 hp.choose_spec.2.1 hp.choose_spec.2.2 (hp.choose_spec.1.Fh K hf):AA I t v b lo (nD L a (kK p f g) i) S n' w w2));have P:Hid ((prog.info? 31).map (·.size)=some 3):=by show _=_;kernel_rfl
 have k1:=H.1.cell 0 rfl;have k2:=H.2.1.cell 0 rfl;unfold jO at B;unfold vj at*;generalize kK p f g=W at*;generalize U:p+f+g=N at*;have af:IntKind.i64.wrap (1+(N:Int)-1)=(N:Int):=by rw [IntKind.wrap_i64];omega
 clear q K Y h H J c j hW F U
 go_enter func127,ntmps127
 go_wp2_with fail
 refine d.out.mono ?_;rintro e w1 ⟨rfl,o⟩;have u:=ae (y.out _ _ _ o);have z:=ae o;clear o d k1 k2;go_wp2_with (refine wpList_load_row rfl 31 _ rfl C rfl 31 #[(p:Int),(f:Int),(g:Int)] _ _ u.out.2.2 underlying31 rfl P.out ?_)
 refine (B.out _).mono ?_;rintro e w2 ⟨rfl,D⟩;have A:=ae (M.out _ _ _ _ z.out D);clear D z u B;have ah:IntKind.i64.wrap ((a:Int)+1)=(a:Int)+1:=by rw [IntKind.wrap_i64];omega
 rw [show ((1+N:Nat):Int)=1+(N:Int) by push_cast;rfl];go_wp2
 go_loopw [13] (fun x wr=>∃(i:Nat),x= .int .i64 i/\i<=N/\Hid (AA I t v b lo (nD L a W i) S (i+1) w wr)) (fun x _=>(N-intOf x).toNat)
 case atStart=>exact ⟨0,rfl,by omega,A.out⟩
 case round=>
  clear A;obtain ⟨i,rfl,G,s⟩:=hrel;have Z:=ae (y.out _ _ _ s.out);have k1:=Z.out.1.cell 0 rfl;by_cases X:i<N
  ·have ad:(i:Int)<(N:Int):=by omega
   have ai:IntKind.i64.wrap ((a:Int)+1+(i:Int))=(a:Int)+1+(i:Int):=by rw [IntKind.wrap_i64];omega
   have m:=Q.out i X _ s.out;rw [show ((a+1+i:Nat):Int)=(a:Int)+1+(i:Int) by push_cast;rfl,show ((0:Nat):Int)=0 from rfl] at m;have l:=ae m;clear m s Z;go_wp2_with fail
   refine l.out.mono ?_;rintro e w3 ⟨rfl,E⟩;have O:=ae E;clear E l;go_wp2;go_roundw
   case rel=>exact ⟨i+1,by go_num,by omega,O⟩
   case measure=>simp [intOf];omega
  ·have V:i=N:=by omega
   subst V;go_wp2;go_end0;exact ⟨rfl,s.out⟩
end
section
variable{t:TypeId}{v:Value}{fl fs:Nat}{r:Value}{I:jF}{dom:Nat->Prop}{L L' L'':Nat->Nat}{S:Nat->Prop}{w w1 w2:World}{b lo n:Nat}
theorem Dc(p:dy t v fl r I dom)(o:I L S w)(F:Nat)(cap:Array Value)(s:∀args w,(callFunc F args).run prog w= .ok (.enter F args) w)
  (u:∀b w1,GM w w1->w.heap.size<=b->vk I t v b w1.heap.size L S 0 w1->Calls prog F (#[.pointer (some ⟨b,0,none⟩)]++cap) w1 (vj I t v b w1.heap.size L' S n w1 (.tuple #[]))):
  Calls prog 126 #[.iface t v,.func (.func F) #[] cap] w (eB I L' S w (.agg #[(0:Int),(0:Int)])):=by
 have a:=p.lt _ _ _ o;refine (sN t v F cap s w (fun w1 w2=>∃S':Nat->Prop,I L' S' w2/\Fr (fun k=>S k\/w.heap.size<=k) w1 w2/\∀k,S' k->S k\/w1.heap.size<=k) (fun b w1 hf x m l=> ?_)).mono ?_
 ·refine (u b w1 hf x ⟨p.Qa o hf,m,ak _,fun h=>by have:=a b h;omega,_,[],l,World.ownsRow_nil _ _ _ _,fun k f=>by simp [Value.ownBlock] at f⟩).mono ?_;rintro e w2 ⟨rfl,S',j,g,i⟩;refine ⟨rfl,⟨S',j.1,g.mono (fun k h=> ?_),i⟩,_,fun k h=> ?_,g⟩
  ·have:=hf.size;rcases h with h|h|h
   ·exact .inl (.inl h)
   ·exact .inl (.inr (by omega))
   ·exact .inl (.inr (by omega))
  ·rcases h with h|h|h
   ·exact .inr (.inl (a k h))
   ·exact .inl h
   ·exact .inr (.inr h)
 ·rintro e w' ⟨rfl,w1,w2,c,⟨S',j,g,i⟩,d⟩;have y:=c.size;refine ⟨rfl,S',p.Xo o j d (fun k f q=> ?_) (fun k q=>q.1),?_,fun k f=> ?_⟩
  ·rcases i k f with h|h
   ·have:=a k h;omega
   ·omega
  ·exact ((c.mono (S':=S) GN).trans g (fun k h=>h)).trans d (fun k h=> .inr h.1)
  ·rcases i k f with h|h
   ·exact .inl h
   ·exact .inr (by omega)
theorem uo(D:im I)(u:dy t v fl r I dom)(T:ph t v fs r I dom)(H:I L S w)(a p f g:Nat)(U:1<=a)(Q:a<4611686018427387904)(M:eO p f g)(q:∀k,a<=k->k<a+1+(p+f+g)->dom k):
  Calls prog 55 #[.iface t v,(a:Int),gD p f g] w (eB I (nD L a (kK p f g) (p+f+g)) S w (.int .i64 0)):=by
 have Z:∀(fn:Fn) (first cap:Array Value) (w:World),(Instr.makeFunc fn first cap).run prog w= .ok (.func fn first cap) w:=fun _ _ _ _=>rfl
 have c:=ae (fun w1=>B4 p f g M w1);have l:=u.lt _ _ _ H;have o:=ae (fun W (hf:GM w W) c1 c2 F (G:vp W c1 c2 F a (kK p f g) p f g) (h1:w.heap.size<=c1/\w.heap.size<=c2/\w.heap.size<=F)=>Dc (L':=nD L a (kK p f g) (p+f+g)) (n:=p+f+g+1) u (u.Qa H hf) 127 #[c1,c2,F] (enters_of func127 (by kernel_rfl) rfl) (fun b w1 C hb hw=>EX D u T hw c1 c2 F a p f g (G.Qa C id id id) M (fun k Y=>by
  have l1:=G.1.lt;have l2:=G.2.1.lt;have l3:=G.2.2.lt;have:=C.size;rcases Y with rfl|rfl|rfl
  ·exact ⟨fun h=>by have:=l _ h;omega,by omega,by omega⟩
  ·exact ⟨fun h=>by have:=l _ h;omega,by omega,by omega⟩
  ·exact ⟨fun h=>by have:=l _ h;omega,by omega,by omega⟩) Q q))
 have m:=ae (fun W w' (hf:GM w W) (hp:iY I (nD L a (kK p f g) (p+f+g)) S W w')=>u.Ah hf H hp);unfold Ep at c;generalize nD L a (kK p f g) (p+f+g)=L2 at*;have J:Hid ((prog.info? 31).map (·.size)=some 3):=by show _=_;kernel_rfl
 generalize kK p f g=X at*;unfold eB at*;have V:(1:Int)<=(a:Int):=by omega
 clear D u T H M q l Q U;unfold gD at*
 go_enter func55,ntmps55
 go_upto_region 1 with fail
 obtain ⟨W1,d⟩:∃W1,(w.alloc (.cells #[(a:Int)] 3)).alloc (.cells #[(p:Int),(f:Int),(g:Int)] 31)=W1:=⟨_,rfl⟩;have E:(w.alloc (.cells #[(a:Int)] 3)).heap.size=w.heap.size+1:=bC _;have z:GM w W1:=by rw [<-d];exact ((GQ _ w).alloc _).alloc _
 have s:aJ W1 w.heap.size [(a:Int)] 3:=by rw [<-d];exact (aJ.new w [(a:Int)] 3).alloc _
 have A:aJ W1 (w.heap.size+1) [(p:Int),(f:Int),(g:Int)] 31:=by
  have h:=aJ.new (w.alloc (.cells #[(a:Int)] 3)) [(p:Int),(f:Int),(g:Int)] 31;rw [E] at h;rw [<-d];exact h
 rw [d];clear d E;have k1:=s.cell 0 rfl;have x:=ae (ag z (ag s A));clear z s A;go_wp2_with (refine wpList_load_row rfl 31 _ rfl (w.heap.size+1) rfl 31 #[(p:Int),(f:Int),(g:Int)] _ _ x.out.2.2 underlying31 rfl J.out ?_)
 refine (c.out _).mono ?_;rintro e K ⟨rfl,j⟩;have i:=x.out.1.trans j GN;have y:=x.out.2.1.frame j id;have B:=x.out.2.2.frame j id;have O:=ae (o.out (K.alloc (.cells #[.int .u64 X] 46)) (i.alloc _) w.heap.size K.heap.size (w.heap.size+1) ⟨y.alloc _,aJ.new K _ _,B.alloc _⟩ ⟨ak _,i.size,by omega⟩);have N:=ae (m.out _ · (i.alloc (.cells #[.int .u64 X] 46)));clear o m c j i y B x k1;go_wp2_with fail
 refine O.out.mono ?_;rintro e P ⟨rfl,hp⟩;have hq:=N.out _ hp;clear O N hp;have R:(Instr.field 197 (.agg #[(0:Int),(0:Int)]) 0).run prog P= .ok (.int .i64 0) P:=by kernel_rfl
 go_wp2;go_ret;exact ⟨rfl,hq⟩
end
def ov(L:Nat->Nat)(fr z n:Nat):Nat->Nat:=fun k=>if z<=k/\k<z+n then L (fr+(k-z)) else L k
theorem CC(L:Nat->Nat)(fr z:Nat):ov L fr z 0=L:=by
 funext k;unfold ov;rw [aE (by omega)]
theorem CD(L:Nat->Nat)(fr z n:Nat):ej (ov L fr z n) (z+n) (L (fr+n))=ov L fr z (n+1):=by
 funext k;show (if k=z+n then L (fr+n) else if z<=k/\k<z+n then L (fr+(k-z)) else L k)=if z<=k/\k<z+(n+1) then L (fr+(k-z)) else L k
 by_cases h:k=z+n
 ·subst h;rw [aG rfl,aG (by omega),show z+n-z=n by omega]
 ·rw [aE h];by_cases a:z<=k/\k<z+n
  ·rw [aG a,aG (by omega)]
  ·rw [aE a,aE (by omega)]
def ik(L:Nat->Nat)(fr n i:Nat):List Nat:=(List.range n).map (fun j=>if j<i then L (fr+j) else 0)
theorem xc(L:Nat->Nat)(fr n:Nat):ik L fr n 0=List.replicate n 0:=by
 unfold ik;apply ir;intro j;rw [aR,eD];by_cases h:j<n
 ·rw [fz h,aG h];rfl
 ·rw [cL (by simpa using h),aE h];rfl
theorem mo(L:Nat->Nat)(fr n i j:Nat)(h:j<n):(ik L fr n i)[j]? =some (if j<i then L (fr+j) else 0):=by
 unfold ik;rw [aR,fz h];rfl
theorem Ag(L:Nat->Nat)(fr n i:Nat)(h:i<n):(ik L fr n i).set i (L (fr+i))=ik L fr n (i+1):=by
 apply ir;intro j;by_cases a:j<n
 ·rw [mo _ _ _ _ _ a,bF];by_cases e:i=j
  ·subst e;rw [aG rfl,aG (by simpa [ik] using h),aG (by omega)]
  ·rw [aE e,mo _ _ _ _ _ a];by_cases b:j<i
   ·rw [aG b,aG (by omega)]
   ·rw [aE b,aE (by omega)]
 ·rw [cL (by simpa [ik] using a),cL (by simpa [ik] using a)]
def tK(I:jF)(t:TypeId)(v:Value)(b lo q:Nat)(L:Nat->Nat)(S:Nat->Prop)(m:Nat)(xs:List Nat)(w w':World):Prop:=
 ∃S':Nat->Prop,vk I t v b lo L S' m w'/\Fr (fun k=>S k\/k=b\/q<=k) w w'/\(∀k,S' k->S k\/w.heap.size<=k)/\aJ w' q (ez xs) 46/\w.heap.size<=w'.heap.size
section
variable{t:TypeId}{v:Value}{fl fs:Nat}{r:Value}{I:jF}{dom:Nat->Prop}{L L' L'':Nat->Nat}{S S1:Nat->Prop}{w w1 w2:World}{b lo q m m' n:Nat}{xs:List Nat}
theorem tK.op(p:q<lo)(o:b<q)(g:lo=w.heap.size)(f:¬S q)(d:Fr (fun k=>S k\/k=b\/q<=k) w w1)(a:∀k,S1 k->S k\/w.heap.size<=k)(e:aJ w1 q (ez xs) 46)(hp:AA I t v b lo L' S1 m' w1 w2):tK I t v b lo q L' S m' xs w w2:=by
 obtain ⟨S2,j,c,l⟩:=hp;have s:=d.size;have i:=c.size;refine ⟨S2,j,d.trans c (fun k h=> ?_),fun k h=> ?_,e.frame c (fun h=> ?_),by omega⟩
 ·rcases h with h|h|h
  ·exact (a k h).imp .inl id
  ·exact .inl (.inr (.inl h))
  ·exact .inl (.inr (.inr (by omega)))
 ·rcases l k h with h|h
  ·exact a k h
  ·exact .inr (by omega)
 ·rcases h with h|h|h
  ·rcases a _ h with h|h
   ·exact f h
   ·omega
  ·omega
  ·omega
theorem tK.set(c:im I)(E:q<lo)(D:b<q)(z:lo=w.heap.size)(x:¬S q)(h:tK I t v b lo q L S m xs w w1)(i y:Nat):tK I t v b lo q L S m (xs.set i y) w (w1.setCell ⟨q,i,none⟩ (.int .u64 y)):=by
 obtain ⟨S1,⟨g,j,B,l,sl,ys,o,d,p⟩,s,f,u,C⟩:=h;have A:¬S1 q:=fun h=>by rcases f _ h with h|h;exact x h;omega
 have hf:Fr (fun k=>k=q) w1 (w1.setCell ⟨q,i,none⟩ (.int .u64 y)):=(GQ (fun k=>k=q) w1).setCell ⟨q,i,none⟩ (.inl rfl) _;have F:=hf.size;refine ⟨S1,⟨c _ _ _ _ _ g hf (fun k a e=>A (e▸a)),j,by omega,l,sl,ys,o.frame hf (fun e=>by omega),cD d hf (fun k a e=>by have:=(d.lt k a).1;omega),p⟩,s.trans hf (fun k e=> .inl (.inr (.inr (by omega)))),f,?_,by omega⟩;have:=u.set i (.int .u64 y);unfold ez at*;rw [dM];exact this
def vz(w:World)(c1 c2 c3 fr z p f g:Nat):Prop:=aJ w c1 [(p:Int),(f:Int),(g:Int)] 31/\aJ w c2 [(fr:Int)] 3/\aJ w c3 [(z:Int)] 3
theorem vz.Qa{w w':World}{c1 c2 a fr z p f g:Nat}{T:Nat->Prop}(h:vz w c1 c2 a fr z p f g)(hf:Fr T w w')(c:¬T c1)(d:¬T c2)(e:¬T a):vz w' c1 c2 a fr z p f g:=⟨h.1.frame hf c,h.2.1.frame hf d,h.2.2.frame hf e⟩
def Ea(I:jF)(b:Nat)(L:Nat->Nat)(S:Nat->Prop)(w:World)(e:Ending)(w':World):Prop:=e= .returned (.tuple #[])/\∃S':Nat->Prop,I L S' w'/\Fr (fun k=>S k\/k=b\/w.heap.size<=k) w w'/\∀k,S' k->S k\/w.heap.size<=k
theorem ET(U:im I)(hs:dy t v fl r I dom)(ht:ph t v fs r I dom)(hi:I L S w)(hb:aJ w b [.iface t v,.slice none 0 0] 270)(c1 c2 c3 fr z p f g:Nat)(Z:vz w c1 c2 c3 fr z p f g)(ho:eO p f g)
  (d:∀k,k=c1\/k=c2\/k=c3\/k=b->¬S k) (F:c1≠b/\c2≠b/\c3≠b) (hA:fr<4611686018427387904) (hZ:z<4611686018427387904) (Xk:∀k,fr<=k->k<fr+(1+(p+f+g))->dom k/\L k<18446744073709551616) (Qz:∀k,z<=k->k<z+(1+(p+f+g))->dom k):
  Calls prog 254 #[b,c1,c2,c3] w (Ea I b (ov L fr z (1+(p+f+g))) S w):=by
 have hN:p+f+g<256:=by obtain ⟨_,E,_,X,_,Y,h4⟩:=ho;omega
 have V:=ae (fun w1=>iF p f g w1);have ap:gg p f g=((1+(p+f+g):Nat):Int):=by rw [gg,aG ho];push_cast;omega
 rw [ap] at V;unfold gD at V;have ah:Hid ((prog.info? 31).map (·.size)=some 3):=by show _=_;kernel_rfl
 obtain ⟨n,hn⟩:∃n,1+(p+f+g)=n:=⟨_,rfl⟩;rw [hn] at V Xk Qz ⊢;have ay:n<=256:=by omega
 have aw:=uw n (by omega) (n:Int) rfl;have a:=hs.lt _ _ _ hi;have av:=hb.lt;unfold jO at V;have HH:=ae Z.1;have af:=ae (fun w1 (hf:GM w w1)=>by
  have hz:=hf.size;have R:GM w (w1.alloc (.cells (ez (List.replicate n 0)).toArray 46)):=hf.alloc _;have aq:(w1.alloc (.cells (ez (List.replicate n 0)).toArray 46)).heap.size=w1.heap.size+1:=bC _;have h0:tK I t v b (w1.heap.size+1) w1.heap.size L S 0 (ik L fr n 0) (w1.alloc (.cells (ez (List.replicate n 0)).toArray 46)) (w1.alloc (.cells (ez (List.replicate n 0)).toArray 46)):=
   ⟨S,⟨hs.Qa hi R,by omega,by omega,d b (by simp),_,[],hb.frame R id,World.ownsRow_nil _ _ _ _,fun k hk=>by simp [Value.ownBlock] at hk⟩,GQ _ _,fun _ h=> .inl h,by rw [xc];exact aJ.new w1 _ _,ak _⟩
  exact (⟨R,aq,hz,h0⟩:GM w (w1.alloc (.cells (ez (List.replicate n 0)).toArray 46))/\(w1.alloc (.cells (ez (List.replicate n 0)).toArray 46)).heap.size=w1.heap.size+1/\w.heap.size<=w1.heap.size/\tK I t v b (w1.heap.size+1) w1.heap.size L S 0 (ik L fr n 0) (w1.alloc (.cells (ez (List.replicate n 0)).toArray 46)) (w1.alloc (.cells (ez (List.replicate n 0)).toArray 46))))
 have ad:=ae (fun (W:World) q (s:w.heap.size<=q/\W.heap.size=q+1) w1 i (T:i<n) (h:tK I t v b (q+1) q L S 0 (ik L fr n i) W w1)=>by
  obtain ⟨S1,E,X,Y,h4,h5⟩:=h;have D:¬S q:=fun h=>by have:=a _ h;omega
  exact (rL hs E (fr+i) (Xk _ (by omega) (by omega)).1).mono (fun e w2 ⟨he,hp⟩=>(⟨he,tK.op (by omega) (by omega) s.2.symm D X Y h4 hp⟩:e=Ending.returned (.int .u64 ((L (fr+i):Nat):Int))/\tK I t v b (q+1) q L S 0 (ik L fr n i) W w2)))
 have K:=ae (fun (W:World) q (s:w.heap.size<=q/\W.heap.size=q+1) w1 i (T:i<n) (h:tK I t v b (q+1) q L S 0 (ik L fr n i) W w1)=>by
  have D:¬S q:=fun h=>by have:=a _ h;omega
  have:=tK.set U (by omega) (by omega) s.2.symm D h i (L (fr+i));rw [Ag _ _ _ _ T] at this;exact this)
 have ai:=ae (fun (W:World) q (s:w.heap.size<=q/\W.heap.size=q+1) w1 i (T:i<n) (h:tK I t v b (q+1) q (ov L fr z i) S i (ik L fr n n) W w1)=>by
  obtain ⟨S1,E,X,Y,h4,h5⟩:=h;have D:¬S q:=fun h=>by have:=a _ h;omega
  have hk:=mP U hs ht E (z+i) (L (fr+i)) (Qz _ (by omega) (by omega)) (Xk _ (by omega) (by omega)).2 (by omega);rw [CD] at hk;exact hk.mono (fun e w2 ⟨he,hp⟩=>(⟨he,tK.op (by omega) (by omega) s.2.symm D X Y h4 hp⟩:e=Ending.returned (.tuple #[])/\tK I t v b (q+1) q (ov L fr z (i+1)) S (i+1) (ik L fr n n) W w2)))
 have H:=ae (fun (W:World) q (s:w.heap.size<=q/\W.heap.size=q+1) (o:GM w W) w1 (hf:Fr (fun k=>S k\/k=b\/q<=k) W w1)=>(Z.Qa o id id id).Qa hf
  (fun h=>by have l1:=Z.1.lt;rcases h with h|h|h;exact d c1 (by simp) h;exact F.1 h;omega)
  (fun h=>by have l1:=Z.2.1.lt;rcases h with h|h|h;exact d c2 (by simp) h;exact F.2.1 h;omega)
  (fun h=>by have l1:=Z.2.2.lt;rcases h with h|h|h;exact d c3 (by simp) h;exact F.2.2 h;omega))
 have B:=ae (fun (W:World) q (s:w.heap.size<=q/\W.heap.size=q+1) (o:GM w W) w1 m xs (h:tK I t v b (q+1) q (ov L fr z n) S m xs W w1)=>by
  obtain ⟨S1,E,X,Y,h4,h5⟩:=h;exact (show Ea I b (ov L fr z n) S w (Ending.returned (.tuple #[])) w1 from ⟨rfl,S1,E.1,(o.mono (S':=fun k=>S k\/k=b\/w.heap.size<=k) GN).trans X (fun k h=>by
   rcases h with h|h|h
   ·exact .inl (.inl h)
   ·exact .inl (.inr (.inl h))
   ·exact .inl (.inr (.inr (by omega)))),fun k h=>by
   rcases Y k h with h|h
   ·exact .inl h
   ·exact .inr (by omega)⟩))
 obtain ⟨Q,hQ⟩:∃Q,Q=Ea I b (ov L fr z n) S w:=⟨_,rfl⟩;rw [<-hQ] at B ⊢;clear hQ U hs ht hi hb Z ho d F Xk Qz ap hN a av
 go_enter func254,ntmps254
 go_wp2_with (refine wpList_load_row rfl 31 _ rfl c1 rfl 31 #[(p:Int),(f:Int),(g:Int)] _ _ HH.out underlying31 rfl ah.out ?_)
 refine (V.out _).mono ?_;rintro e w1 ⟨rfl,al⟩;have O:=ae (af.out _ al);clear af V al
 go_upto_region 1 with fail
 obtain ⟨W,hW⟩:∃W,w1.alloc (.cells (ez (List.replicate n 0)).toArray 46)=W:=⟨_,rfl⟩;rw [hW] at O ⊢;clear hW aw ah HH;obtain ⟨o,ar,au,h0⟩:=O.out;generalize w1.heap.size=q at*;have s:w.heap.size<=q/\W.heap.size=q+1:=⟨au,ar⟩;have J:=ae (ad.out W q s);have C:=ae (K.out W q s);have aj:=ae (ai.out W q s);have A:=ae (H.out W q s o);have M:=ae (B.out W q s o);have H0:=ae h0;clear ad K ai H B O o ar au s h0 w1;go_wp2
 go_loopw [14] (fun x wr=>∃(i:Nat),x= .int .i64 i/\i<=n/\Hid (tK I t v b (q+1) q L S 0 (ik L fr n i) W wr)) (fun x _=>(n-intOf x).toNat)
 case atStart=>exact ⟨0,rfl,by omega,H0⟩
 case round=>
  clear H0;obtain ⟨i,rfl,E,u⟩:=hrel;by_cases a:i<n
  ·have an:(i:Int)<(n:Int):=by omega
   have k2:=(A.out _ u.out.choose_spec.2.1).2.1.cell 0 rfl;have ax:IntKind.i64.wrap ((fr:Int)+(i:Int))=(fr:Int)+(i:Int):=by rw [IntKind.wrap_i64];omega
   have l:=J.out _ i a u.out;rw [show ((fr+i:Nat):Int)=(fr:Int)+(i:Int) by push_cast;rfl] at l;have c:=ae l;clear l u;go_wp2_with fail
   refine c.out.mono ?_;rintro e w3 ⟨rfl,y⟩;have N:=ae (C.out _ i a y);have P:=y.choose_spec.2.2.2.1;have ck:=P.cell i (v:= .int .u64 ((if i<i then L (fr+i) else 0:Nat):Int)) (by unfold ez;rw [aR,mo _ _ _ _ _ a];rfl);have fk:=P.free i;clear y P c;go_wp2;go_roundw
   case rel=>exact ⟨i+1,by go_num,by omega,N⟩
   case measure=>simp [intOf];omega
  ·have am:i=n:=by omega
   have H1:=ae (show tK I t v b (q+1) q (ov L fr z 0) S 0 (ik L fr n n) W wr from by rw [CC];rw [am] at u;exact u.out);have ao:¬(i:Int)<(n:Int):=by omega
   clear u E a am J C;go_wp2
   go_loopw [28] (fun x wr=>∃(i:Nat),x= .int .i64 i/\i<=n/\Hid (tK I t v b (q+1) q (ov L fr z i) S i (ik L fr n n) W wr)) (fun x _=>(n-intOf x).toNat)
   case atStart=>exact ⟨0,rfl,by omega,H1⟩
   case round=>
    clear H1 ao;obtain ⟨j,rfl,E,u⟩:=hrel;by_cases a:j<n
    ·have an:(j:Int)<(n:Int):=by omega
     have k3:=(A.out _ u.out.choose_spec.2.1).2.2.cell 0 rfl;have ck:=u.out.choose_spec.2.2.2.1.cell j (v:= .int .u64 ((L (fr+j):Nat):Int)) (by unfold ez;rw [aR,mo _ _ _ _ _ a,aG a];rfl);have ax:IntKind.i64.wrap ((z:Int)+(j:Int))=(z:Int)+(j:Int):=by rw [IntKind.wrap_i64];omega
     have l:=aj.out _ j a u.out;rw [show ((z+j:Nat):Int)=(z:Int)+(j:Int) by push_cast;rfl] at l;have c:=ae l;clear l u;go_wp2_with fail
     refine c.out.mono ?_;rintro e w3 ⟨rfl,y⟩;have N:=ae y;clear y c;go_wp2;go_roundw
     case rel=>exact ⟨j+1,by go_num,by omega,N⟩
     case measure=>simp [intOf];omega
    ·have G:j=n:=by omega
     have ao:¬(j:Int)<(n:Int):=by omega
     have H2:=ae (M.out wr j _ (by rw [<-G] at*;rw [G];rw [G] at u;exact u.out));clear u E a G;go_wp2;go_end0;exact H2.out
end
section
variable{t:TypeId}{v:Value}{fl fs:Nat}{r:Value}{I:jF}{dom:Nat->Prop}{L L' L'':Nat->Nat}{S:Nat->Prop}{w w1 w2:World}{b lo n:Nat}
theorem AL(o:dy t v fl r I dom)(l:I L S w)(F:Nat)(cap:Array Value)(q:∀args w,(callFunc F args).run prog w= .ok (.enter F args) w)
  (s:∀b w1,GM w w1->w.heap.size<=b->I L S w1->aJ w1 b [.iface t v,.slice none 0 0] 270->Calls prog F (#[.pointer (some ⟨b,0,none⟩)]++cap) w1 (Ea I b L' S w1)):
  Calls prog 126 #[.iface t v,.func (.func F) #[] cap] w (eB I L' S w (.agg #[(0:Int),(0:Int)])):=by
 have d:=o.lt _ _ _ l;refine (sN t v F cap q w (fun w1 w2=>∃S':Nat->Prop,I L' S' w2/\Fr (fun k=>S k\/w.heap.size<=k) w1 w2/\∀k,S' k->S k\/w1.heap.size<=k) (fun b w1 hf u x j=> ?_)).mono ?_
 ·refine (s b w1 hf u (o.Qa l hf) j).mono ?_;rintro e w2 ⟨rfl,S',i,f,g⟩;refine ⟨rfl,⟨S',i,f.mono (fun k h=> ?_),g⟩,_,fun k h=> ?_,f⟩
  ·have:=hf.size;rcases h with h|h|h
   ·exact .inl (.inl h)
   ·exact .inl (.inr (by omega))
   ·exact .inl (.inr (by omega))
  ·rcases h with h|h|h
   ·exact .inr (.inl (d k h))
   ·exact .inl h
   ·exact .inr (.inr h)
 ·rintro e w' ⟨rfl,w1,w2,a,⟨S',i,f,g⟩,c⟩;have y:=a.size;refine ⟨rfl,S',o.Xo l i c (fun k m p=> ?_) (fun k p=>p.1),?_,fun k m=> ?_⟩
  ·rcases g k m with h|h
   ·have:=d k h;omega
   ·omega
  ·exact ((a.mono (S':=S) GN).trans f (fun k h=>h)).trans c (fun k h=> .inr h.1)
  ·rcases g k m with h|h
   ·exact .inl h
   ·exact .inr (by omega)
theorem By(P:im I)(l:dy t v fl r I dom)(ht:ph t v fs r I dom)(X:I L S w)(a z p f g:Nat)(ha:1<=a)(hz:1<=z)(hA:a<4611686018427387904)(hZ:z<4611686018427387904)(ho:jb L a p f g)(Xk:∀k,a<=k->k<a+(1+(p+f+g))->dom k/\L k<18446744073709551616)(Qz:∀k,z<=k->k<z+(1+(p+f+g))->dom k):
  Calls prog 212 #[.iface t v,(a:Int),(z:Int)] w (eB I (ov L a z (1+(p+f+g))) S w (.int .i64 0)):=by
 have am:∀(fn:Fn) (first cap:Array Value) (w:World),(Instr.makeFunc fn first cap).run prog w= .ok (.func fn first cap) w:=fun _ _ _ _=>rfl
 have G:=l.lt _ _ _ X;have y:=ae (fun W (hf:GM w W)=>jX l (l.Qa X hf) a p f g ha (Xk a (ak _) (by omega)).1 ho);have q:=ae (fun W T (h1:I L T W) c1 c2 U (V:vz W c1 c2 U a z p f g) (hS:¬T c1/\¬T c2/\¬T U)=>AL (L':=ov L a z (1+(p+f+g))) l h1 254 #[c1,c2,U] (enters_of func254 (by kernel_rfl) rfl) (fun b w1 F hb hw ad=>ET P l ht hw ad c1 c2 U a z p f g (V.Qa F id id id) ho.2 (fun k hk=>by
   have hl:=l.lt _ _ _ h1;rcases hk with rfl|rfl|rfl|rfl
   ·exact hS.1
   ·exact hS.2.1
   ·exact hS.2.2
   ·exact fun h=>by have:=hl _ h;omega) (by
   have l1:=V.1.lt;have l2:=V.2.1.lt;have l3:=V.2.2.lt;exact ⟨by omega,by omega,by omega⟩) hA hZ Xk Qz))
 have HK:=ae (fun (W1 c i A:World) (F:GM w W1) (hp:iY I L S W1 c) S2 (m:I L S2 i/\Fr S W1 c/\GM c i/\(∀k,S2 k->S k\/W1.heap.size<=k)) (H:iY I (ov L a z (1+(p+f+g))) S2 i A)=>by
  have J:=m.2.1.size;exact (show iY I (ov L a z (1+(p+f+g))) S w A from l.Ah F X (oz (m.2.1.trans m.2.2.1 GN) m.2.2.2 H)))
 have x:=ae (fun (c i:World) S2 (h:I L S2 c) (hf:GM c i)=>l.Qa h hf);have K:=ae (fun (c:World) S2 (h:I L S2 c)=>l.lt _ _ _ h);unfold tG at y;generalize ov L a z (1+(p+f+g))=L2 at*;unfold eB at*;have al:(1:Int)<=(a:Int):=by omega
 have an:(1:Int)<=(z:Int):=by omega
 clear P l ht X ho Xk Qz hA ha hZ hz;unfold gD at*
 go_enter func212,ntmps212
 go_upto_region 1 with fail
 obtain ⟨W1,j⟩:∃W1,(w.alloc (.cells #[(a:Int)] 3)).alloc (.cells #[(z:Int)] 3)=W1:=⟨_,rfl⟩;have J:(w.alloc (.cells #[(a:Int)] 3)).heap.size=w.heap.size+1:=bC _;have C:GM w W1:=by rw [<-j];exact ((GQ _ w).alloc _).alloc _
 have B:aJ W1 w.heap.size [(a:Int)] 3:=by rw [<-j];exact (aJ.new w [(a:Int)] 3).alloc _
 have O:aJ W1 (w.heap.size+1) [(z:Int)] 3:=by
  have h:=aJ.new (w.alloc (.cells #[(a:Int)] 3)) [(z:Int)] 3;rw [J] at h;rw [<-j];exact h
 rw [j];clear j J;have k1:=B.cell 0 rfl;have u:=ae (ag C (ag B O));have o:=ae (y.out _ C);clear C B O y;go_wp2_with fail
 refine o.out.mono ?_;rintro e c ⟨rfl,hp⟩;obtain ⟨S2,Y,R,Z⟩:=id hp;have ai:=u.out.1.size;have af:=u.out.2.1.lt;have ah:=u.out.2.2.lt;have n1:¬S w.heap.size:=fun h=>by have:=G _ h;omega
 have n2:¬S (w.heap.size+1):=fun h=>by have:=G _ h;omega
 have M:=u.out.2.1.frame R n1;have D:=u.out.2.2.frame R n2;have Q:=R.size;obtain ⟨i,E⟩:∃i,c.alloc (.cells #[(p:Int),(f:Int),(g:Int)] 31)=i:=⟨_,rfl⟩;have d:GM c i:=by rw [<-E];exact (GQ _ _).alloc _
 have N:aJ i c.heap.size [(p:Int),(f:Int),(g:Int)] 31:=by rw [<-E];exact aJ.new c _ _
 have k3:=(D.frame d id).cell 0 rfl;have s:∀k,S2 k->k<c.heap.size:=K.out _ _ Y;have HR:=ae (q.out i S2 (x.out _ _ _ Y d) c.heap.size w.heap.size (w.heap.size+1) ⟨N,M.frame d id,D.frame d id⟩ ⟨fun h=>by have:=s _ h;omega,fun h=>by rcases Z _ h with h|h;exact n1 h;omega,fun h=>by rcases Z _ h with h|h;exact n2 h;omega⟩);have HE:=ae (fun A H=>HK.out W1 c i A u.out.1 hp S2 ⟨x.out _ _ _ Y d,R,d,Z⟩ H);clear q HK x u Y R Z hp M D d N n1 n2 ai Q af ah s o G k1 K
 go_upto_region 2 with fail
 clear E;go_wp2_with fail
 refine HR.out.mono ?_;rintro e A ⟨rfl,hp⟩;have hq:=HE.out _ hp;have aj:(Instr.field 197 (.agg #[(0:Int),(0:Int)]) 0).run prog A= .ok (.int .i64 0) A:=by kernel_rfl
 clear HR HE hp;go_wp2;go_ret;exact ⟨rfl,hq⟩
end
def dD(W Pg:Nat)(mp:Nat->Bool)(a:Nat):Prop:=a<W/\mp (a/Pg)=true
def dY(m Pg W Rm Us Hg:Nat)(mp:Nat->Bool):jF:=fun L S w=>∃M,ed w m S Pg W Rm Us Hg mp M/\∀a,dD W Pg mp a->M a=L a
theorem ed.lt{S:Nat->Prop}{w:World}{m Pg W Rm Us Hg:Nat}{mp:Nat->Bool}{M:Nat->Nat}(h:ed w m S Pg W Rm Us Hg mp M):∀k,S k->k<w.heap.size:=by
 obtain ⟨p,B,A,z,ws,x,l,j,g,o,y,fr,n,f,a,c,q,r,s,t,u,v,b⟩:=h;intro k e;rcases (b k).1 e with h|(h|h|h|h)|(h|h|h)
 ·rw [h];exact f.lt
 ·rw [h];exact a.Qd.lt
 ·exact (a.rw.lt k h).2
 ·exact (a.rt.lt k h).2
 ·exact (a.rb.lt k h).2
 ·rw [h];exact c.Qd.lt
 ·rw [h];exact c.row.lt
 ·obtain ⟨i,d⟩:=bw.1 h;exact (c.Qp i k d).lt
theorem da(m Pg W Rm Us Hg:Nat)(mp:Nat->Bool):im (dY m Pg W Rm Us Hg mp):=fun L S w1 w2 T ⟨M,a,b⟩ hf c=>⟨M,a.frame hf c,b⟩
theorem cw(m Pg W Rm Us Hg:Nat)(mp:Nat->Bool):dy 112 (.pointer (some ⟨m,0,none⟩)) 223 (.pointer (some ⟨m,0,none⟩)) (dY m Pg W Rm Us Hg mp) (dD W Pg mp) where
 Yd:=fun w=>by kernel_rfl
 Ye:=enters_of func223 (by kernel_rfl) rfl
 stays:=fun L S w1 w2 T ⟨M,b,c⟩ hf j _=>⟨M,b.frame hf j,c⟩
 Xu:= .inl (da m Pg W Rm Us Hg mp)
 lt:=fun L S w ⟨M,b,_⟩=>b.lt
 load:=fun L S w a ⟨M,b,c⟩ d=>(jt b a d.1 d.2).mono (fun e w' ⟨g,f⟩=>⟨by rw [g,c a d],S,⟨M,b.Qa f,c⟩,f.mono GN,fun k i=> .inl i⟩)
theorem qG(m Pg W Rm Us Hg:Nat)(mp:Nat->Bool):ph 112 (.pointer (some ⟨m,0,none⟩)) 224 (.pointer (some ⟨m,0,none⟩)) (dY m Pg W Rm Us Hg mp) (dD W Pg mp) where
 Xv:=fun w=>by kernel_rfl
 Xw:=enters_of func224 (by kernel_rfl) rfl
 store:=fun L S w a x ⟨M,d,f⟩ c n=>(oL d a x c.1 c.2 n).mono (fun e w' ⟨g,h,i⟩=>⟨g,S,⟨ej M a x,h,fun b j=>by
  unfold ej;split
  ·rfl
  ·exact f b j⟩,i,fun k l=> .inl l⟩)
def lv(l:List Nat):List Value:=l.map fun x:Nat=>Value.int .i64 x
structure dt(w:World)(b g:Nat)(ls:List Nat):Prop where
 Qd:aJ w b [.slice (some g) ls.length ls.length] 193
 row:aJ w g (lv ls) 3
 ne:b≠g
 one:1<=ls.length
 small:ls.length<=64
theorem dt.frame{T:Nat->Prop}{w w':World}{b g:Nat}{ls:List Nat}(h:dt w b g ls)(hf:Fr T w w')(a:¬T b)(c:¬T g):dt w' b g ls:=⟨h.Qd.frame hf a,h.row.frame hf c,h.ne,h.one,h.small⟩
theorem dt.get{w:World}{b g:Nat}{ls:List Nat}(h:dt w b g ls){i a:Nat}(c:ls[i]? =some a):w.cell? ⟨g,i,none⟩=some (a:Int):=h.row.cell i (by unfold lv;rw [aR,c];rfl)
theorem oC{w:World}{b g:Nat}{ls:List Nat}(h:dt w b g ls)(x k c:Nat)(f:∀j,j<k->∃i:Nat,i<ls.length/\w.cell? ⟨x,j,none⟩=some (i:Int))(u:k<=64):
  Calls prog 122 #[b,.slice (some x) k c] w fun e w'=>e= .returned (0:Int)/\w=w':=by
 have o:=h.Qd.cell 0 rfl;have l:=ae f;have v:=h.small;clear h f
 go_enter func122,ntmps122
 go_wp2
 go_loopw [11] (fun p wr=>∃(i:Nat),p= .int .i64 i/\i<=k/\wr=w) (fun p _=>(k-intOf p).toNat)
 case atStart=>exact ⟨0,rfl,by omega,by first|trivial|rfl⟩
 case round=>
  obtain ⟨i,rfl,m,rfl⟩:=hrel;by_cases a:i<k
  ·have d:(i:Int)<(k:Int):=by omega
   obtain ⟨j,t,q⟩:=l.out i a;have r:¬(j:Int)<0:=by omega
   have s:decide ((ls.length:Int)<=(j:Int))=false:=by rw [az];omega
   go_wp2;go_roundw
   case rel=>exact ⟨i+1,by go_num,by omega,by first|trivial|rfl⟩
   case measure=>simp [intOf];omega
  ·have n:¬(i:Int)<(k:Int):=by omega
   clear m a;go_wp2;go_ret;exact ⟨rfl,rfl⟩
theorem zH(k:Nat)(i:k<=16777216)(X:Int)(b:X=(k:Int))(w:World):(Instr.makeSlice 123 (.int .i64 X) (.int .i64 X)).run prog w= .ok (.slice (some w.heap.size) k k) (w.alloc (.cells (lv (List.replicate k 0)).toArray 3)):=by
 obtain ⟨g,d,f,a,c⟩:=info_parts iP;subst b;have h:=run_makeSlice (P:=prog) w 123 3 g (.int .i64 0) underlying123 d f .i64 .i64 (k:Int) (k:Int) (by omega) (lW _) (by rw [a,dO];omega) (by rw [c];omega) (by omega);rw [a,dO,fK,show (Value.int .i64 0).cells= #[.int .i64 0] from rfl,nG] at h;rw [h];have e:(lv (List.replicate k 0)).toArray=Array.replicate k (.int .i64 0):=by unfold lv;rw [eU];simp
 rw [e]
theorem t8(n:Nat)(f:1<=n)(h:n<=64)(w:World):Calls prog 120 #[(n:Int)] w fun e w'=>∃b g,e= .returned (.tuple #[.pointer (some ⟨b,0,none⟩),(0:Int)])/\dt w' b g (List.replicate n 0)/\w.heap.size<=b/\w.heap.size<=g/\GM w w':=by
 have i:=zH n (by omega) (n:Int) rfl w;have k:¬(n:Int)<1:=by omega
 have l:¬(64:Int)<(n:Int):=by omega
 have d:Hid (∀W1 a,W1=w.alloc (.cells (lv (List.replicate n 0)).toArray 3)->a=W1.alloc (.cells #[.slice (some w.heap.size) n n] 193)->dt a (w.heap.size+1) w.heap.size (List.replicate n 0)/\w.heap.size<=w.heap.size+1/\w.heap.size<=w.heap.size/\GM w a):=by
  show∀W1 a,_
  rintro W1 a rfl rfl;have j:(w.alloc (.cells (lv (List.replicate n 0)).toArray 3)).heap.size=w.heap.size+1:=bC _;have c:=aJ.new (w.alloc (.cells (lv (List.replicate n 0)).toArray 3)) [.slice (some w.heap.size) n n] 193;rw [j] at c;refine ⟨⟨by rw [bz];exact c,(aJ.new w _ _).alloc _,by omega,by rw [bz];exact f,by rw [bz];exact h⟩,by omega,ak _,((GQ _ w).alloc _).alloc _⟩
 go_enter func120,ntmps120
 go_wp2;refine bodyPost_ret (results_tmp2 rfl _ _ _) rfl ?_;exact ⟨_,rfl,_,d.out _ _ rfl rfl⟩
theorem qk{w:World}{b g:Nat}{ls:List Nat}(h:dt w b g ls):Calls prog 187 #[b] w fun e w'=>e= .returned (.int .i64 (ls.length:Int))/\w=w':=by
 have a:=h.Qd.cell 0 rfl;clear h
 go_enter func187,ntmps187
 go_wp2;go_ret;exact ⟨rfl,rfl⟩
theorem t9{w:World}{b g:Nat}{ls:List Nat}(h:dt w b g ls)(i a:Nat)(k:ls[i]? =some a):Calls prog 51 #[b,(i:Int)] w fun e w'=>e= .returned (.tuple #[(a:Int),(0:Int)])/\GM w w':=by
 have l:=(al.1 k).1;have m:Hid (∀W1,W1=w.alloc (.cells #[(i:Int)] 3)->GM w W1/\W1.cell? b=some (.slice (some g) ls.length ls.length)/\W1.cell? ⟨g,i,none⟩=some (a:Int)/\Calls prog 122 #[b,.slice (some w.heap.size) 1 1] W1 fun e w'=>e= .returned (0:Int)/\W1=w'):=by
  show∀W1,_
  rintro W1 rfl;have hf:GM w (w.alloc (.cells #[(i:Int)] 3)):=(GQ _ w).alloc _;have f:=h.frame hf id id;refine ⟨hf,f.Qd.cell 0 rfl,f.get k,oC f w.heap.size 1 1 (fun j r=>⟨i,l,?_⟩) (by omega)⟩;have:j=0:=by omega
  subst this;exact (aJ.new w [(i:Int)] 3).cell 0 rfl
 have n:(i:Int)<(ls.length:Int):=by omega
 clear h k
 go_enter func51,ntmps51
 go_wp2_with fail
 obtain ⟨hf,p,q,d⟩:=m.out _ rfl;generalize w.alloc (.cells #[(i:Int)] 3)=W1 at*;have c:=ae d;have o:=ae hf;clear d hf m;refine c.out.mono ?_;rintro e w' ⟨rfl,rfl⟩;clear c;go_wp2;go_ret2;exact ⟨rfl,o.out⟩
theorem qj{w:World}{b g:Nat}{ls:List Nat}(h:dt w b g ls)(i a:Nat)(d:i<ls.length):Calls prog 56 #[b,(i:Int),(a:Int)] w fun e w'=>e= .returned (0:Int)/\dt w' b g (ls.set i a)/\Fr (fun k=>k=g) w w':=by
 have n:Hid (∀W1,W1=w.alloc (.cells #[(i:Int)] 3)->W1.cell? b=some (.slice (some g) ls.length ls.length)/\W1.cell? ⟨g,i,none⟩=some (.int .i64 ((ls.getD i 0:Nat):Int))/\W1.frozen? ⟨g,i,none⟩=false/\(∀m,m=W1.setCell ⟨g,i,none⟩ (.int .i64 a)->dt m b g (ls.set i a)/\Fr (fun k=>k=g) w m)/\Calls prog 122 #[b,.slice (some w.heap.size) 1 1] W1 fun e w'=>e= .returned (0:Int)/\W1=w'):=by
  show∀W1,_
  rintro W1 rfl;have hf:GM w (w.alloc (.cells #[(i:Int)] 3)):=(GQ _ w).alloc _;have c:=h.frame hf id id;refine ⟨c.Qd.cell 0 rfl,c.get (by rw [aK d,aQ,aK d];rfl),c.row.free i,?_,oC c w.heap.size 1 1 (fun j v=>⟨i,d,?_⟩) (by omega)⟩
  ·rintro m rfl;refine ⟨⟨by rw [bc];exact c.Qd.Qg _ _ c.ne,?_,c.ne,by rw [bc];exact c.one,by rw [bc];exact c.small⟩,(hf.mono (S':=fun k=>k=g) GN).setCell ⟨g,i,none⟩ (.inl rfl) _⟩;have:=c.row.set i (.int .i64 a);unfold lv at*;rw [dM];exact this
  ·have:j=0:=by omega
   subst this;exact (aJ.new w [(i:Int)] 3).cell 0 rfl
 have p:(i:Int)<(ls.length:Int):=by omega
 have u:¬(a:Int)<0:=by omega
 clear h
 go_enter func56,ntmps56
 go_wp2_with fail
 obtain ⟨r,s,t,o,l⟩:=n.out _ rfl;generalize w.alloc (.cells #[(i:Int)] 3)=W1 at*;have f:=ae l;have q:=ae o;clear l o n;refine f.out.mono ?_;rintro e w' ⟨rfl,rfl⟩;clear f;go_wp2;go_ret;exact ⟨rfl,q.out _ rfl⟩
def CS(ls:List Nat)(w:World)(e:Ending)(w':World):Prop:=∃g cap,e= .returned (.slice (some ⟨g,0,none⟩) ls.length cap)/\w.heap.size<=g/\g<w'.heap.size/\(∀(i a:Nat),ls[i]? =some a->w'.cell? ⟨g,i,none⟩=some (a:Int))/\GM w w'
theorem nz{w:World}{b g:Nat}{ls:List Nat}(h:dt w b g ls):Calls prog 69 #[b] w (CS ls w):=by
 have q:=h.Qd.cell 0 rfl;have u:=h.small;have m:=ae (Tryz.slices_Clone_int g 0 ls.length ls.length (ls.map Int.ofNat) w (by simp) (by omega) (fun j l=>by
  rw [bL] at l;rw [br];have:=h.get (aK l);rw [this,aQ,aR,aK l];rfl))
 have r:=h.one;have n:Hid (∀c w',w'.ownsRow w.heap.size 3 1 c ls.length (((ls.map Int.ofNat).take ls.length).map (Value.int .i64))->Below w.heap.size w w'->CS ls w (.returned c) w'):=by
  show∀c w',_
  intro c w' d f;rcases d.2 with ⟨_,v⟩|⟨g',cap,cur,rfl,s,t,_⟩
  ·omega
  ·refine ⟨g',cap,rfl,s,(bH.1 t).1,fun i a o=> ?_,Fr.Yr f⟩;have k:=(al.1 o).1;rw [d.cellAt i (by omega),aR,eo,aG k,aR,o];rfl
 generalize (CS ls w)=Q at*;clear h r u
 go_enter func69,ntmps69
 go_wp2_with fail
 refine m.out.mono ?_;rintro e w' ⟨c,rfl,d,_,f⟩;have p:=ae (n.out c w' d f);clear d f n m q;go_wp2;exact p.out
end Go.Proofs.YthahbijbpinneaaGreatDoor
