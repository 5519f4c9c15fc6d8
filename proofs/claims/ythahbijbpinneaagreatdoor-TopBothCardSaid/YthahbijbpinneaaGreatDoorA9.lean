import Derived.Test.YthahbijbpinneaaGreatDoorA0
import Derived.Test.YthahbijbpinneaaGreatDoorA2
import Derived.Test.YthahbijbpinneaaGreatDoorA6
import Derived.Test.YthahbijbpinneaaGreatDoorA8
set_option maxRecDepth 100000
set_option maxHeartbeats 8000000
set_option linter.all false
namespace Go.Proofs.YthahbijbpinneaaGreatDoor
open Go.RowKit Go.Proofs.Tryz
section
variable{m Pg W Fs Us Hg:Nat}{mp:Nat->Bool}{L:Nat->Nat}{S:Nat->Prop}{w w1:World}
theorem zC(h:dY m Pg W Fs Us Hg mp L S w)(a u:Nat)(s:u<=W)(f:∀q,a/Pg<=q->q<=(u-1)/Pg->a<u->mp q=true):Calls prog 144 #[m,(a:Int),(u:Int)] w fun e w'=>e= .returned (0:Int)/\∃S' d,dY m Pg W Fs Us d mp L S' w'/\Fr S w w'/\∀k,S' k->S k\/w.heap.size<=k:=by
 obtain ⟨M,g,o⟩:=h;rcases aY a u with c|c
 ·have p:Qb (fJ mp) (a/Pg) ((u-1)/Pg+1)=0:=cu (fun i j t=>by unfold fJ;rw [f i j (by omega) c];rfl);refine (nB g a u c s (by rw [p];exact g.at.2.2.2.2.1)).mono ?_;rintro e w' ⟨rfl,S',d,n,v,j,t,y,z,A⟩;have x:n=mp:=by
   funext q;rw [t];by_cases r:a/Pg<=q/\q<=(u-1)/Pg
   ·rw [f q r.1 r.2 c];rfl
   ·have:(decide (a/Pg<=q)&&decide (q<=(u-1)/Pg))=false:=by rw [bl,az,az];omega
    rw [this,ca]
  rw [p,bg,x] at j;exact ⟨rfl,S',d,⟨v,j,fun b l=>by rw [y b l.1 l.2];exact o b l⟩,z,A⟩
 ·refine (sc g a u c s).mono ?_;rintro e w' ⟨rfl,hf⟩;exact ⟨rfl,S,Hg,⟨M,g.Qa hf,o⟩,hf.mono GN,fun _ h=> .inl h⟩
def Es(EL:cF)(fl fh c5 c15 b g tb k:Nat):Prop:=EL.has k\/(fl<=k/\k<fh)\/k=c5\/k=c15\/k=b\/k=g\/k=cO\/k=tb
def yA(m Pg W Fs Us Hg:Nat)(mp:Nat->Bool)(L:Nat->Nat)(E np:Nat->Nat)(lo:Nat)(EL:cF)(fl fh p c5 c15 b g tb:Nat)(ls:List Nat)(pre:List (Nat×Nat))(S:Nat->Prop)(w:World):Prop:=
 (∀k,S k->¬Es EL fl fh c5 c15 b g tb k)/\pre=(cS E W).take pre.length/\rK EL tb W E w/\gU fl fh w p W 64 E lo/\aJ w c5 [m] 112/\aJ w c15 [p] 235/\dt w b g ls/\
  ∃Mc,dY m Pg W Fs Us Hg mp Mc S w/\Eu L (goes E lo) np (goes E lo) pre Mc
section
variable{E np:Nat->Nat}{lo fl fh p c5 c15 b g tb:Nat}{EL:cF}{ls:List Nat}{pre:List (Nat×Nat)}{T:Nat->Prop}
theorem yA.rest{R:Prop}(h:(∀k,S k->¬Es EL fl fh c5 c15 b g tb k)/\pre=(cS E W).take pre.length/\rK EL tb W E w/\gU fl fh w p W 64 E lo/\aJ w c5 [m] 112/\aJ w c15 [p] 235/\dt w b g ls/\R)(hf:Fr T w w1)(c:∀k,T k->¬Es EL fl fh c5 c15 b g tb k):
  rK EL tb W E w1/\gU fl fh w1 p W 64 E lo/\aJ w1 c5 [m] 112/\aJ w1 c15 [p] 235/\dt w1 b g ls:=by
 obtain ⟨_,_,⟨j,l,n⟩,o,q,r,s,_⟩:=h;refine ⟨⟨j.frame hf (fun k e a=>c k a (.inl e)),aS l hf (fun a=>c _ a (.inr (.inr (.inr (.inr (.inr (.inr (.inl rfl)))))))),n.frame hf (fun a=>c _ a (.inr (.inr (.inr (.inr (.inr (.inr (.inr rfl))))))))⟩,o.frame hf (fun i d=> ?_),q.frame hf (fun a=>c _ a (.inr (.inr (.inl rfl)))),r.frame hf (fun a=>c _ a (.inr (.inr (.inr (.inl rfl))))),s.frame hf (fun a=>c _ a (.inr (.inr (.inr (.inr (.inl rfl)))))) (fun a=>c _ a (.inr (.inr (.inr (.inr (.inr (.inl rfl)))))))⟩;by_cases f:fl<=i/\i<fh
 ·exact absurd (.inr (.inl f)) (c i d)
 ·omega
theorem yA.stays{B:Nat}(e:∀k,Es EL fl fh c5 c15 b g tb k->k<B):gE B (yA m Pg W Fs Us Hg mp L E np lo EL fl fh p c5 c15 b g tb ls):=by
 rintro pre S W1 x T h hf c;have f:=yA.rest h hf (fun k a j=>by have:=(c k a).1;have:=e k j;omega);obtain ⟨l,n,_,_,_,_,_,d,o,q⟩:=h;obtain ⟨r,s,t,u,v⟩:=f;exact ⟨l,n,r,s,t,u,v,d,da _ _ _ _ _ _ _ _ _ _ _ _ o hf (fun k a i=>(c k i).2 a),q⟩
theorem yA.move{P:List Nat}{G:Gr}{top s n:Nat}(h:yA m Pg W Fs Us Hg mp L E np lo EL fl fh p c5 c15 b g tb ls pre S w)(O:(cS E W)[pre.length]? =some (s,n))(hX:∀k,Es EL fl fh c5 c15 b g tb k->k<w.heap.size)
  (hG:gw G P top) (hO:∀a,G.size a≠0->jy L (dD W Pg mp) G a) (M:∀a,G.size a≠0->lo<=a) (ah:lo% Pg=0) (aj:1<=Pg) (h1:1<=lo) (h2:lo<=top) (af:top<=W) (hW:W<=524288) (Y:∀q,mp q=(decide (lo<=q*Pg)&&decide (q*Pg<top)))
  (hL:∀a,G.size a≠0->∀i,i<G.size a->L (a+i)<18446744073709551616) (H:∀a,E a≠0↔Reach G P a) (I:∀a,E a≠0->E a=G.size a/\G.size a≠0) (hU:lo+Qb (aI E) 0 W<=top) (Z:∀a,np a=(G.Qr a).length):
  Calls prog 155 #[m,p,(s:Int),(n:Int)] w fun e w'=>e= .returned (.tuple #[])/\CT (yA m Pg W Fs Us Hg mp L E np lo EL fl fh p c5 c15 b g tb ls) (pre++[(s,n)]) S w w':=by
 have hh:=h;obtain ⟨i1,i2,i3,i4,i5,i6,i7,Mc,i8,i9⟩:=h;obtain ⟨m1,u,m3⟩:=dW.1 (aD O);dsimp only at m1 u m3;obtain ⟨e1,V⟩:=I s u;obtain ⟨pp,f,g',o1,o2,o3,o4,o5⟩:=hO s V;have A:=i3.1.apart;have d:=i3.1.top;have l:∀y∈pre,y.1<s/\y.2=E y.1/\E y.1≠0:=fun y t=>by
  rw [i2] at t;have F:=dW.1 (iU t);exact ⟨kt O t,F.2.2,F.2.1⟩
 have B:∀k,s<=k->Mc k=L k:=fun k Q=>i9.still k (fun y t=>by
  obtain ⟨o,D,v⟩:=l y t;have:=A y.1 s o v u;omega)
 have X:=M s V;have K:goes E lo s<=s:=sw (fun a ha=>M a (I a ha).2) X;have ad:np s=pp:=by rw [Z,o3];simp
 have am:goes E lo s+n<=lo+Qb (aI E) 0 W:=by
  rw [m3,<-pT (ak (E s))];exact jZ (d s u)
 have al:lo<=goes E lo s:=by unfold goes;omega
 have ai:lo=lo/Pg*Pg:=by have:=aM lo Pg;rw [aN];omega
 have J:=fun z S' w' (r1:dY m Pg W Fs Us Hg mp z S' w') (R:Fr S w w') (U:∀k,S' k->S k\/w.heap.size<=k) (r4:Eu L (goes E lo) np (goes E lo) (pre++[(s,n)]) z)=>
  (let N:=yA.rest hh R (fun k Q O=>i1 k Q O)
   (⟨S',⟨fun k Q r=>by
    rcases U k Q with F|F
    ·exact i1 k F r
    ·have:=hX k r;omega,oy i2 O,N.1,N.2.1,N.2.2.1,N.2.2.2.1,N.2.2.2.2,z,r1,r4⟩,R,U⟩:CT (yA m Pg W Fs Us Hg mp L E np lo EL fl fh p c5 c15 b g tb ls) (pre++[(s,n)]) S w w'))
 refine (zl i8 i4 (fun j hj=>by
  by_cases r:fl<=j/\j<fh
  ·exact absurd (.inr (.inl r)) (i1 j hj)
  ·omega) (by omega) s n (goes E lo s) pp f g' (by omega) ⟨by rw [B s (ak _)];exact o1.1,o1.2⟩ (by omega) (by omega) rfl K (by have:=d s u;omega) hW (fun j o D=>⟨o4 j o (by omega),?_⟩) (fun j o D=> ?_) (fun i o D v=> ?_)).mono ?_
 ·rw [B j o];have:=hL s V (j-s) (by omega);rwa [show s+(j-s)=j by omega] at this
 ·refine ⟨by omega,?_⟩;rw [Y,au,aC,aC];have C:=bE j Pg;have h7:=aX Pg (bi (c:=Pg) (show lo<=j by omega));omega
 ·rw [B (s+i) (by omega)] at v ⊢;have C:L (s+i)∈G.Qr s:=by
   rw [o3];exact bu.2 ⟨i-1,bv.2 (by omega),by congr 1;omega⟩
  have h7:E (L (s+i))≠0:=(H _).2 (.step ((H s).1 u) C v);have h8:=nI (E:=E) (s:=L (s+i)) (i:=0) (by omega);have h9:=d _ h7;exact ⟨by rwa [bg] at h8,by omega⟩
 ·rintro e w' ⟨rfl,S',r1,R,U⟩;refine ⟨rfl,J _ S' w' r1 R U ?_⟩;have C:=i9.step (x:=(s,n)) (fun y t=>by
   obtain ⟨o,D,v⟩:=l y t;have:=A y.1 s o v u;show y.1+y.2<=s
   omega) (fun y t=>by
   obtain ⟨o,D,v⟩:=l y t;have:=A y.1 s o v u;show goes E lo y.1+y.2<=goes E lo s
   rw [D,<-pT (ak (E y.1))];exact jZ this) K
  dsimp only at C;rw [ad] at C;exact C
end
def tM(m Pg W Fs:Nat)(mp:Nat->Bool)(Mc:Nat->Nat)(U:Nat)(S9:Nat->Prop)(w10:World)(q:Nat)(wr:World):Prop:=
 ∃Us Hg mpq S',dY m Pg W Fs Us Hg mpq Mc S' wr/\(∀r,mpq r=(mp r&& !(decide (r<q)&&decide (U<=r*Pg))))/\Fr S9 w10 wr/\∀k,S' k->S9 k\/w10.heap.size<=k
section
variable{Mc:Nat->Nat}{U q:Nat}{S9:Nat->Prop}{w10 wr:World}
theorem tM.Fh(h:tM m Pg W Fs mp Mc U S9 w10 q wr)(hf:GM wr w1):tM m Pg W Fs mp Mc U S9 w10 q w1:=by
 obtain ⟨Us,Hg,a,S',b,c,d,e⟩:=h;exact ⟨Us,Hg,a,S',b.Qa hf,c,d.trans hf GN,e⟩
theorem tM.pg(h:tM m Pg W Fs mp Mc U S9 w10 q wr):Calls prog 148 #[m] wr fun e w'=>e= .returned (Pg:Int)/\wr=w':=by
 obtain ⟨Us,Hg,b,S',⟨M,a,_⟩,_⟩:=h;exact jo a
theorem tM.skip(h:tM m Pg W Fs mp Mc U S9 w10 q wr)(f:q*Pg<U):tM m Pg W Fs mp Mc U S9 w10 (q+1) wr:=by
 obtain ⟨Us,Hg,a,S',b,c,d⟩:=h;refine ⟨Us,Hg,a,S',b,fun r=> ?_,d⟩;rw [c];by_cases e:r=q
 ·subst e;rw [ar (show¬U<=r*Pg by omega),cV,cV]
 ·congr 3
  rw [ce];omega
theorem tM.drop(h:tM m Pg W Fs mp Mc U S9 w10 q wr)(t:U<=q*Pg)(s:mp q=true)(f:q<W/Pg):Calls prog 149 #[m,(q:Int)] wr fun e w'=>e= .returned (0:Int)/\tM m Pg W Fs mp Mc U S9 w10 (q+1) w':=by
 obtain ⟨Us,Hg,c,S',⟨M,n,o⟩,g,i,j⟩:=h;refine (mh n q f (by rw [g,s,ar (gJ q)];rfl)).mono ?_;rintro e w' ⟨rfl,S2,high2,M2,p1,p2,p3,p4⟩;have u:=i.size;refine ⟨rfl,Us-1,high2,_,S2,⟨M2,p1,fun b d=> ?_⟩,fun r=> ?_,i.trans p3 j,fun k p=> ?_⟩
 ·have a:c (b/Pg)=true:=by have:=d.2;rw [au] at this;exact this.1
  rw [p2 b d.1 a d.2];exact o b ⟨d.1,a⟩
 ·show (c r&& !(r==q))=_
  rw [g];by_cases e:r=q
  ·subst e;rw [cT,aB (bI r),aB t];simp
  ·rw [aT.2 e,eV,dZ];congr 3
   rw [ce];omega
 ·rcases p4 k p with l|l
  ·exact j k l
  ·exact .inr (by omega)
end
def Et(m b g Pg W Fs Us:Nat)(L:Nat->Nat)(S:Nat->Prop)(G:Gr)(ls:List Nat)(lo:Nat)(w:World)(e:Ending)(w':World):Prop:=
 ∃(E L':Nat->Nat) (S':Nat->Prop) (used' Hg':Nat) (mp':Nat->Bool),e= .returned (.tuple #[(((lo+Qb (aI E) 0 W:Nat):Int):Int),(0:Int)])/\dY m Pg W Fs used' Hg' mp' L' S' w'/\(∀q,mp' q=(decide (lo<=q*Pg)&&decide (q*Pg<lo+Qb (aI E) 0 W)))/\(∀a,E a≠0↔Reach G ls a)/\fQ G ls E/\
  (∀a,E a≠0->∀i,i<E a->L' (goes E lo a+i)=nN L (goes E lo) a (G.Qr a).length i)/\dt w' b g (ls.map (rY (goes E lo) id))/\et w'/\(∀k,S' k->S k\/w.heap.size<=k)/\Fr (fun k=>S k\/k=g) w w'
attribute [local go_sem] Oper.semAt_some
theorem Bk(d:Nat){b g:Nat}{ls:List Nat}{G:Gr}(h:dY m Pg W Fs Us Hg mp L S w)(y:dt w b g ls)(hT:et w)(F:¬S cO)(v:¬S b/\¬S g)(lo top Rm:Nat)(hG:gw G ls top)(hO:∀a,G.size a≠0->jy L (dD W Pg mp) G a)(N:∀a,G.size a≠0->lo<=a)(h1:1<=lo)(h2:lo<=top)(j:top<=W)(t:1<=Rm)(h5:Rm<=4096)
  (B:∀q,mp q=(decide (lo<=q*Pg)&&decide (q*Pg<top))) (ax:lo% Pg=0) (am:∀a,G.size a≠0->∀i,i<G.size a->L (a+i)<18446744073709551616) (av:g≠cO):
  CallsIn Fence.wide d prog 74 #[m,b,(lo:Int),(top:Int),(Rm:Int)] w (Et m b g Pg W Fs Us L S G ls lo w):=by
 refine callsIn_of_wp_marks func74 rfl trivial ?_ rfl;simp only [ntmps74,cU,bn,ch,Nat.reduceAdd,Nat.reduceSub,cH,cG,de,cQ,bZ,dd];obtain ⟨W1,bv⟩:∃W1,w.alloc (.cells #[m] 112)=W1:=⟨_,rfl⟩;have z:GM w W1:=by rw [<-bv];exact (GQ _ w).alloc _
 have cj:aJ W1 w.heap.size [m] 112:=by rw [<-bv];exact aJ.new w _ _
 have bz:=h.Qa z;have P:=y.frame z id id;have cf:=aS hT z id;have ct:=ae (vQ (M:=bz.choose) bz.choose_spec.1 P lo top Rm h1 h2 j t h5);have cT:=ae (sT bz P cf F lo top Rm hG hO N j t h5);have k0:=cj.cell 0 rfl;gi_wp2;refine ep (ct.out.mono ?_);rintro e w2 ⟨rfl,rfl⟩;clear ct;gi_wp2;refine ep (cT.out.mono ?_);rintro e w2 ⟨EL,E,S2,rfl,p1,p2,p3,p5,p6,p7,p8,p9⟩;clear cT;have af:=p5.small;have aG:cO<w.heap.size:=cl (hT 0 0 rfl);have aY:W1.heap.size=w.heap.size+1:=by rw [<-bv];exact bC _
 have O:¬S w.heap.size:=fun hh=>by have:=(cw m Pg W Fs Us Hg mp).lt _ _ _ h _ hh;omega
 have c2:=cj.frame p9 O;have T:=aS cf p9 F;have ca:=ae (yf (d-1) (k:=64) p5 T (by decide) (by decide) (by decide) lo (by omega));have cs:=ae c2;rw [show ((64:Nat):Int)=64 from rfl] at ca;clear k0;gi_wp2;refine ⟨trivial,(fun h=>by cases h),ca.out.mono ?_⟩;rintro e w3 ⟨p,rfl,q1,q2⟩;have b9:=ae (cs.out.frame q2 id);clear ca cs c2;obtain ⟨W4,cg⟩:∃W4,w3.alloc (.cells #[p] 235)=W4:=⟨_,rfl⟩;have c6:GM w3 W4:=by rw [<-cg];exact (GQ _ w3).alloc _
 have c3:aJ W4 w3.heap.size [p] 235:=by rw [<-cg];exact aJ.new w3 _ _
 have bo:=ae c3;have ah:=ae c6;clear c6 c3;have a0:=q2.size;obtain ⟨U,hU⟩:∃U:Nat,U=lo+Qb (aI E) 0 W:=⟨_,rfl⟩;have o:Qb (aI E) 0 W<=1048576:=eA af.2;have aR:W<=524288:=by obtain ⟨M,hh,_⟩:=p1;exact hh.at.2.2.1
 have ay:1<=Pg:=by obtain ⟨M,hh,_⟩:=p1;exact hh.at.1
 have J:∀a,E a≠0->E a=G.size a/\G.size a≠0:=fun a ha=>⟨(p7 a ha).2,by rw [<-(p7 a ha).2];exact ha⟩
 have V:U<=top:=by
  rw [hU];have e1:goes E lo W=lo+Qb (aI E) 0 W:=rfl;have e2:goes E lo W=goes E lo top:=by
   unfold goes;rw [bJ (aI E) (aF top) j,cu (a:=top) (b:=W) (fun i q1 _=>by
    rw [be];intro hl;obtain ⟨s,s1,s2⟩:=cX.1 hl;have:=J s (by omega);have:=hG.top s this.2;omega),bg]
  have e3:=sw (E:=E) (Ba:=lo) (a:=top) (fun s hs=>N s (J s hs).2) h2;omega
 have bc:=ae (fun w' (hf:GM W4 w')=>j4 (q1.Qa (ah.out.trans hf GN)) (by omega));rw [<-hU] at bc;have cL:=ae (fun w' (hf:GM W4 w')=>zC (p1.Qa (((q2.trans ah.out GN)).trans hf GN)) lo U (by omega) (fun q a1 a2 a3=>by
  rw [B,au,aC,aC];have h6:q*Pg<=U-1:=aZ (aX Pg a2) (bE _ _);have h7:lo=lo/Pg*Pg:=by have:=aM lo Pg;rw [aN];omega
  have h8:=aX Pg a1;omega))
 have HC:=ae (fun w' (hf:GM W4 w')=>ag ((b9.out.frame (ah.out.trans hf GN) id).cell 0 rfl) ((bo.out.frame hf id).cell 0 rfl));have bX:=ae (ag p1 (ag p2 (ag p3 (ag p5 (ag p6 (ag p7 (ag p8 p9)))))));have b0:=ae (ag q1 (ag q2 (ag T (ag P (ag z (ag J (ag hU V)))))));have b5:=ae (ag h (ag hG (ag hO (ag N (ag B (ag ax (ag am av)))))));have b6:=ae (ag F (ag v (ag O (ag aG (ag aY (ag a0 (ag ay (ag h1 (ag h2 j)))))))));have b7:=ae (ag af (ag aR o));have b8:=ae (ag y hT);clear p1 p2 p3 p5 p6 p7 p8 p9 q1 q2 T P z J hU V h hG hO N B ax am av F v O aG aY a0 ay h1 h2 j af aR o y hT t h5 bz cf cj bv;gi_wp2;clear cg;refine wpIn_wide.2 ?_;refine bR (fun w'=>GM W4 w') 4 ((GQ _ W4).drew) ?_;simp only [ai,an,aj,ao];refine aA m rfl (fun w' C=>by obtain ⟨k1,k2⟩:=HC.out w' C;go_simp) ?_;simp only [aa];refine aA (lo:Int) rfl (fun w' C=>by go_simp) ?_;simp only [aa];refine aA p rfl (fun w' C=>by obtain ⟨k1,k2⟩:=HC.out w' C;go_simp) ?_;simp only [aa];refine bT (.int .i64 U) 153 #[p] rfl (fun w'=>by go_simp) (fun w' C=>(bc.out w' C).mono fun e w2 h=>⟨h.1,C.trans h.2 GN⟩) ?_;simp only [aa];refine wpQuiet_nil ?_;intro w5 Q;have cE:=ae (cL.out w5 Q);have bq:=ae Q;clear cL Q bc;go_wp2_with fail
 refine cE.out.mono ?_;rintro e w6 ⟨rfl,S6,u,n1,n2,n3⟩;have HA:=ae (jv EL.m w6);have aQ:=ae (ag n1 (ag n2 n3));clear n1 n2 n3 cE;go_wp2;gi_wp2;refine ep (HA.out.mono ?_);rintro e W7 ⟨rfl,bw⟩;have Z:GM w6 W7:=by rw [bw];exact (GQ _ w6).alloc _
 have dh:aJ W7 w6.heap.size [EL.m] 132:=by rw [bw];exact aJ.new w6 _ _
 have cm:W7.heap.size=w6.heap.size+1:=by rw [bw];exact bC _
 clear bw HA;obtain ⟨np,aT⟩:∃np:Nat->Nat,∀a,np a=(G.Qr a).length:=⟨_,fun _=>rfl⟩;obtain ⟨p1,p2,p3,p5,p6,p7,p8,p9⟩:=bX.out;obtain ⟨q1,q2,T,P,z,J,hU,V⟩:=b0.out;obtain ⟨h,hG,hO,N,B,ax,am,av⟩:=b5.out;obtain ⟨F,v,O,aG,aY,a0,ay,h1,h2,j⟩:=b6.out;obtain ⟨af,aR,o⟩:=b7.out;obtain ⟨y,hT⟩:=b8.out;obtain ⟨n1,n2,n3⟩:=aQ.out;have bI:=y.Qd.lt;have bL:=y.row.lt;have bs:=(cw m Pg W Fs Us Hg mp).lt _ _ _ p1;have bu:=(cw m Pg W Fs Us u mp).lt _ _ _ n1;have bW:=bo.out.lt;have di:=bq.out.size;have dk:=n2.size;have dl:=p9.size;have bd:=p5.lt;have bf:∀k,Es EL w2.heap.size w3.heap.size w.heap.size w3.heap.size b g w6.heap.size k->k<W7.heap.size:=by
  rintro k (h|h|h|h|h|h|h|h)
  ·have:=bd k h;omega
  all_goals omega
 have c4:∀k,S6 k->¬Es EL w2.heap.size w3.heap.size w.heap.size w3.heap.size b g w6.heap.size k:=by
  intro k hk hx;have d6:=bu k hk;rcases n3 k hk with aw|aw
  ·have d5:=bs k aw;rcases hx with h|h|h|h|h|h|h|h
   ·exact p3 k aw h
   ·omega
   ·rcases p2 k aw with t|t
    ·exact O (h▸t)
    ·omega
   ·omega
   ·rcases p2 k aw with t|t
    ·exact v.1 (h▸t)
    ·omega
   ·rcases p2 k aw with t|t
    ·exact v.2 (h▸t)
    ·omega
   ·rcases p2 k aw with t|t
    ·exact F (h▸t)
    ·omega
   ·omega
  ·rcases hx with h|h|h|h|h|h|h|h
   ·have:=bd k h;omega
   all_goals omega
 have aL:Fr S2 W4 w6:=(bq.out.mono GN).trans n2 (fun k h=> .inl h);have Y:Fr S2 w2 W7:=(((q2.trans ah.out GN).mono GN).trans aL (fun k h=> .inl h)).trans Z GN;have aK:Fr S2 w3 W7:=((ah.out.mono GN).trans aL (fun k h=> .inl h)).trans Z GN;have bi:Fr S2 W4 W7:=aL.trans Z GN;have dM:∀k,w.heap.size<=k->k≠w.heap.size->S2 k->W1.heap.size<=k:=fun k h _ _=>by omega
 have I:¬S2 b/\¬S2 g/\¬S2 cO/\¬S2 w.heap.size:=by
  refine ⟨fun h=> ?_,fun h=> ?_,fun h=> ?_,fun h=> ?_⟩
  ·rcases p2 _ h with t|t
   ·exact v.1 t
   ·omega
  ·rcases p2 _ h with t|t
   ·exact v.2 t
   ·omega
  ·rcases p2 _ h with t|t
   ·exact F t
   ·omega
  ·rcases p2 _ h with t|t
   ·exact O t
   ·omega
 have ce:yA m Pg W Fs Us u mp L E np lo EL w2.heap.size w3.heap.size p w.heap.size w3.heap.size b g w6.heap.size ls [] S6 W7:=
  ⟨c4,rfl,⟨p5.frame Y (fun k hk hs=>p3 k hs hk),aS T Y I.2.2.1,dh⟩,q1.frame aK (fun i hi=> .inl (bs i hi)),b9.out.frame aK I.2.2.2,bo.out.frame bi (fun hs=>by have:=bs _ hs;omega),(P.frame p9 v.1 v.2).frame Y I.1 I.2.1,L,n1.Qa Z,Eu.none _ _ _ _⟩
 have dq:=ae hU;rw [hU] at V;have cb:=ae (fun (bP:List (Nat×Nat)) S9 s n w9 (hj:yA m Pg W Fs Us u mp L E np lo EL w2.heap.size w3.heap.size p w.heap.size w3.heap.size b g w6.heap.size ls bP S9 w9) (hx:(cS E W)[bP.length]? =some (s,n)) (hz:W7.heap.size<=w9.heap.size)=>
  yA.move hj hx (fun k hk=>by have:=bf k hk;omega) hG hO N ax ay h1 h2 j aR B am p6 J V aT)
 have cY:=ae (ag Y (ag aK (ag bi (ag bf (ag aT (ag I (ag bI (ag bL (ag cm (ag di (ag dk (ag dl bW))))))))))));have bV:=af.2;clear p1 p2 p3 p5 p6 p7 p8 p9 q1 q2 T P z J hU V h hG hO N B ax am av F v O aG aY a0 ay h1 h2 j af aR o y hT n1 n2 n3 bI bL bs bW di dk dl bd c4 aL Y aK bi dM I Z dh aT;gi_wp2;refine iO (gf:=220) (lb:= #[w6.heap.size]) rfl (enters_of func220 (by kernel_rfl) rfl) (encs:=mC) (fun _=>rfl) (jw (L:=EL) (tb:=w6.heap.size) (E:=E) bV) (yA m Pg W Fs Us u mp L E np lo EL w2.heap.size w3.heap.size p w.heap.size w3.heap.size b g w6.heap.size ls) S6 (yA.stays bf) (fun _ _ _ h=>h.2.2.1) (fun k hk=>by have:=bu k hk;omega) ce
  ?a1 ?assign ?body ?done
 case assign=>
  intro k x W K hK;unfold mC;gi_wp2;exact hK
 case body=>
  intro l bP S9 x W9 hI o hf hs;obtain ⟨s,n⟩:=x;have HM:=ae (cb.out bP S9 s n W9 hI o hf.size);have c5:=hI.2.2.2.2.1.cell 0 rfl;have dz:=hI.2.2.2.2.2.1.cell 0 rfl;clear hf hs hI o ce cb bf bu cm;gi_wp2;refine vd (HM.out.mono ?_);rintro e c ⟨rfl,y⟩;have HR:=ae y;clear y HM c5 dz;gi_wp2;exact HR.out
 case done=>
  intro D S9 W9 hI hD bB bF hf hs;clear cb ce;obtain ⟨p1,p2,p3,p5,p6,p7,p8,p9⟩:=bX.out;obtain ⟨q1,q2,T,P,z,J,hU,V⟩:=b0.out;obtain ⟨h,hG,hO,N,B,ax,am,av⟩:=b5.out;obtain ⟨F,v,O,aG,aY,a0,ay,h1,h2,j⟩:=b6.out;obtain ⟨af,aR,o⟩:=b7.out;obtain ⟨g1,g2,g3,g4,aT,g6,bI,bL,_,g7,g8,g9,dA⟩:=cY.out;obtain ⟨y,hT⟩:=b8.out;have dL:∀(fn:Fn) (first cap:Array Value) (w:World),(Instr.makeFunc fn first cap).run prog w= .ok (.func fn first cap) w:=fun _ _ _ _=>rfl
  have dT:=hf.size;obtain ⟨i1,i2,⟨i3,dm,dX⟩,i4,i5,i6,i7,Mc,i8,i9⟩:=hI;have bk:∀k,k=g->k<w2.heap.size\/w3.heap.size<=k:=fun k hk=>by omega
  have ap:∀rs:List Nat,rs.length=ls.length->rs=(ls.take rs.length).map (rY (goes E lo) id)->rs=ls.map (rY (goes E lo) id):=fun rs e1 e2=>by
   rw [e2,e1,kg]
  have cV:=ae (oB 156 #[] #[w3.heap.size] (enters_of func156 (by kernel_rfl) rfl) (fun rs w'=>rs=(ls.take rs.length).map (rY (goes E lo) id)/\Fr (fun k=>k=g) W9 w') i7 ⟨rfl,GQ _ _⟩
   (fun rs wa wb ⟨j1,j2⟩ dK=>⟨j1,j2.trans dK (fun _ h=> .inl h)⟩)
   (fun rs wa ⟨j1,j2⟩ hz=>⟨by
    have bB:=(al.1 hz).1;rw [aH,aP,ea,hz];rw [bD,<-j1];rfl,j2⟩)
   (fun rs a wa bM ⟨j1,j2⟩ ha h0=>by
    have c9:=aD ha;have dB:E a≠0:=(p6 a).2 (.root c9 h0);have c8:=nI (E:=E) (s:=a) (i:=0) (by omega);rw [bg] at c8;have dS:=p5.top a dB;refine (Dr (i4.frame j2 bk) (by omega) w3.heap.size a (i6.frame j2 (fun e=>by omega)) c8 (by omega)).mono ?_;rintro e wb ⟨rfl,c7⟩;refine ⟨goes E lo a,rfl,bM.frame c7 id id,?_,j2.trans c7 GN⟩;rw [aH,aP,ea,ha,bD,<-j1];show _=rs++[rY (goes E lo) id a]
    unfold rY;rw [aE h0];rfl))
  have ad:∀k,Es EL w2.heap.size w3.heap.size w.heap.size w3.heap.size b g w6.heap.size k->¬S9 k:=fun k hx hk=>i1 k hk hx
  have dI:=(cw m Pg W Fs Us u mp).lt _ _ _ i8;have HB:=ae (fun (c:World) (q:Nat) (wr:World) (f:Fr (fun k=>k=g) W9 c) (hu:tM m Pg W Fs mp Mc U S9 c q wr)=>
   (let bj:Fr S9 c wr:=hu.choose_spec.choose_spec.choose_spec.choose_spec.2.2.1
    ag (((i5.frame f (fun e=>by omega)).frame bj (ad _ (.inr (.inr (.inl rfl))))).cell 0 rfl) (ag (((i6.frame f (fun e=>by omega)).frame bj (ad _ (.inr (.inr (.inr (.inl rfl)))))).cell 0 rfl)
    (j4 (((i4.frame f bk)).frame bj (fun i hi=>by
     by_cases hx:w2.heap.size<=i/\i<w3.heap.size
     ·exact absurd hi (ad i (.inr (.inl hx)))
     ·omega)) (by omega)))))
  rw [<-hU] at HB;have cc:Hid (∀c,Fr (fun k=>k=g) W9 c->tM m Pg W Fs mp Mc U S9 c (lo/Pg) c):=by
   show∀c,_
   intro c f;refine ⟨Us,u,mp,S9,da _ _ _ _ _ _ _ _ _ _ _ _ i8 f (fun k hk e=>ad g (.inr (.inr (.inr (.inr (.inr (.inl rfl)))))) (e▸hk)),fun r=> ?_,GQ _ _,fun _ h=> .inl h⟩;by_cases e:r<lo/Pg
   ·have h6:mp r=false:=by
     rw [B,bl,az];left;have:=(Nat.lt_div_iff_mul_lt (show 0<Pg by omega)).1 e;have h7:r*Pg<lo:=by
      have h8:lo=lo/Pg*Pg:=by have:=aM lo Pg;rw [aN];omega
      rw [h8];exact Nat.mul_lt_mul_of_pos_right e (by omega)
     omega
    rw [h6];rfl
   ·rw [ar e];simp
  have a9:=ae (fun q (a1:lo/Pg<=q) (a2:q*Pg<top)=>(show mp q=true/\q<W/Pg from by
   have h8:lo=lo/Pg*Pg:=by have:=aM lo Pg;rw [aN];omega
   have h9:=aX Pg a1;refine ⟨by rw [B,aB (show lo<=q*Pg by omega),aB a2];rfl,?_⟩;obtain ⟨M8,hh,_⟩:=i8;have d4:=hh.at.2.2.2.1;exact (Nat.lt_div_iff_mul_lt' ⟨W/Pg,by have:=aM W Pg;omega⟩ q).2 (by rw [aN];omega)))
  have cx:=ae (fun (c:World) (q:Nat) (wr:World) (f:Fr (fun k=>k=g) W9 c) (hu:tM m Pg W Fs mp Mc U S9 c q wr)=>
   (let bj:Fr S9 c wr:=hu.choose_spec.choose_spec.choose_spec.choose_spec.2.2.1
    (bj.heap (f.heap hD (fun e=>by omega)) bF:wr.heap[D]? =some (Obj.deferred (some [])))))
  have dn:=ae ap;have a8:Hid (∀(c H:World) rs q,rs.length=ls.length->dt c b g rs->rs=(ls.take rs.length).map (rY (goes E lo) id)->Fr (fun k=>k=g) W9 c->lo/Pg<=q->top<=q*Pg->tM m Pg W Fs mp Mc U S9 c q H->Et m b g Pg W Fs Us L S G ls lo w (.returned (.tuple #[(U:Int),(0:Int)])) (H.putObj D (.deferred none))):=by
   show∀(c H:World) rs q,_
   intro c H rs q a1 a2 a3 a4 aq a5 ⟨cq,dx,dZ,S',u1,u2,u3,u4⟩;have d2:D<H.heap.size:=(bH.1 (u3.heap (a4.heap hD (fun e=>by omega)) bF)).1;have dC:¬S' D:=fun hh=>by
    rcases u4 D hh with h6|h6
    ·exact bF h6
    ·have:=(bH.1 (a4.heap hD (fun e=>by omega))).1;omega
   have bx:Fr (fun k=>k=D) H (H.putObj D (.deferred none)):=(GQ _ H).putObj _ _ (.inl rfl);have d0:=a4.size;refine ⟨E,Mc,S',cq,dx,dZ,by rw [hU],da _ _ _ _ _ _ _ _ _ _ _ _ u1 bx (fun k hk e=>dC (e▸hk)),fun r=> ?_,p6,p7,fun a ha i hi=> ?_,?_,?_,fun k hk=> ?_,?_⟩
   ·rw [u2,B,<-hU];by_cases e:r<q
    ·rw [aB e,bQ];by_cases e2:U<=r*Pg
     ·rw [aB e2,ar (show¬r*Pg<U by omega)];simp
     ·rw [ar e2,aB (show r*Pg<U by omega),aB (show r*Pg<top by omega)];simp
    ·have h6:=aX Pg (show q<=r by omega);rw [ar e,ar (show¬r*Pg<top by omega),ar (show¬r*Pg<U by omega)];simp
   ·have h6:=i9.Qt (a,E a) (by
     have h7:(a,E a)∈cS E W:=dW.2 ⟨by have:=p5.top a ha;omega,ha,rfl⟩;exact h7) i hi
    dsimp only at h6;rw [aT] at h6;exact h6
   ·rw [<-ap rs a1 a3];exact (a2.frame u3 (ad _ (.inr (.inr (.inr (.inr (.inl rfl)))))) (ad _ (.inr (.inr (.inr (.inr (.inr (.inl rfl)))))))).frame bx (fun e=>by omega) (fun e=>by omega)
   ·exact aS (aS (aS dm a4 (fun e=>av e.symm)) u3 (ad _ (.inr (.inr (.inr (.inr (.inr (.inr (.inl rfl))))))))) bx (fun e=>by unfold cO at aG;omega)
   ·rcases u4 k hk with h6|h6
    ·rcases hs k h6 with h7|h7
     ·rcases (aQ.out.2.2) k h7 with h8|h8
      ·rcases p2 k h8 with h9|h9
       ·exact .inl h9
       ·exact .inr (by omega)
      ·exact .inr (by omega)
     ·exact .inr (by omega)
    ·exact .inr (by omega)
   ·have f1:Fr S w w6:=(((z.mono GN).trans p9 (fun k h=> .inl h)).trans q2 GN).trans ((ah.out.mono (S':=S2) GN).trans ((bq.out.mono (S':=S2) GN).trans aQ.out.2.1 (fun k h=> .inl h)) (fun k h=> .inl h)) (fun k h=>by
     rcases p2 k h with h9|h9
     ·exact .inl h9
     ·exact .inr (by omega))
    have f2:Fr S w W7:=by
     have:Fr S2 w2 W7:=g1;exact (((z.mono (S':=S) GN).trans p9 (fun k h=> .inl h))).trans this (fun k h=>by
      rcases p2 k h with h9|h9
      ·exact .inl h9
      ·exact .inr (by omega))
    have f3:Fr S w W9:=f2.trans hf (fun k h=>by
     rcases aQ.out.2.2 k h with h8|h8
     ·rcases p2 k h8 with h9|h9
      ·exact .inl h9
      ·exact .inr (by omega)
     ·exact .inr (by omega))
    refine (((f3.mono (S':=fun k=>S k\/k=g) (fun k h=> .inl (.inl h))).trans a4 (fun k h=> .inl (.inr h))).trans u3 (fun k h=> ?_)).trans bx (fun k h=> .inr (by omega));rcases hs k h with h7|h7
    ·rcases aQ.out.2.2 k h7 with h8|h8
     ·rcases p2 k h8 with h9|h9
      ·exact .inl (.inl h9)
      ·exact .inr (by omega)
     ·exact .inr (by omega)
    ·exact .inr (by omega)
  have b1:(lo:Int)<=524288:=by omega
  have b2:(Pg:Int)<=524288:=by have:=i8.choose_spec.1.at.2.1;omega
  have b3:(top:Int)<=524288:=by omega
  have b4:Pg<=256:=i8.choose_spec.1.at.2.1;have eg:top<=524288:=by omega
  have bU:lo/Pg<=W:=aZ (bK _ _) (by omega);have dJ:(lo:Int).tdiv (Pg:Int)=((lo/Pg:Nat):Int):=fU _ _;have d7:¬Pg=0:=by omega
  have d3:W/Pg<=W:=bK _ _;generalize lo/Pg=A at cc a9 a8 bU dJ;clear p1 p2 p3 p5 p6 p7 p8 p9 q1 q2 T P z J hU V h hG hO N B ax am av F v O aG aY a0 ay h1 h2 j af o g1 g2 g3 g4 aT g6 bI bL g7 g8 g9 dA y hT i1 i2 i3 dm dX i4 i5 i6 i7 i8 i9 bk ap ad dI bu bf hD bB bF hf hs cm dT bV bX b0 b5 b6 b7 b8 aQ cY b9 bo ah bq HC dq;gi_wp2;refine ep (cV.out.mono ?_);rintro e c ⟨rfl,rs,dc,bM,dg,f⟩;have bO:=cc.out c f;have cM:=ae bO.pg;obtain ⟨k1,k2,_⟩:=HB.out c _ c f bO;have a6:=ae (fun q wr hu=>HB.out c q wr f hu);have cA:=ae (fun H q aq a5 hu=>a8.out c H rs q dc bM dg f aq a5 hu);have cy:=ae (fun q wr hu=>cx.out c q wr f hu);have cW:=ae bO;clear bO dc bM dg f HB a8 cx cc cV dn dL;gi_wp2;refine ep (cM.out.mono ?_);rintro e w' ⟨rfl,rfl⟩;clear cM k1 k2;gi_wp2
  gi_loopw [20] (fun x wr=>∃q:Nat,x= .int .i64 q/\A<=q/\q<=W/\Hid (tM m Pg W Fs mp Mc U S9 c q wr)) (fun x _=>(W+1-intOf x).toNat)
  case atStart=>exact ⟨A,by go_num,ak _,bU,cW⟩
  case round=>
   clear cW;obtain ⟨q,rfl,db,dO,y⟩:=hrel;obtain ⟨k1,k2,hT⟩:=a6.out q wr y.out;have cN:=ae y.out.pg;have hX:q*Pg<=134217728:=aZ (lM dO b4) (by omega);have c0:(q:Int)*(Pg:Int)=((q*Pg:Nat):Int):=by push_cast;rfl
   have C:IntKind.i64.wrap ((q:Int)*(Pg:Int))=((q*Pg:Nat):Int):=by rw [c0,IntKind.wrap_i64];omega
   have a7:=ae (fun (w1:World) (hf:GM wr w1) h hm hq=>tM.drop (q:=q) (y.out.Fh hf) h hm hq);have br:=ae (fun h=>a9.out q db h);have bp:=ae (fun h (w7:World) (hf:GM wr w7)=>ag (cA.out w7 q db h (y.out.Fh hf)) (cy.out q w7 (y.out.Fh hf)));have bb:=ae (fun h (w7:World) (hf:GM wr w7)=>(tM.skip (q:=q) y.out h).Fh hf);have HT:=ae hT;have R:=ae (fun (w1:World) (hf:GM wr w1)=>ag (ag (a6.out q w1 (y.out.Fh hf)).1 (a6.out q w1 (y.out.Fh hf)).2.1) (ag (a6.out q w1 (y.out.Fh hf)).2.2 (y.out.Fh hf).pg));have d9:(q:Int)<=524288:=by omega
   obtain ⟨X,ci⟩:∃X,X=q*Pg:=⟨_,rfl⟩;have d1:=ae ci;rw [<-ci] at C bb a7 br bp hX;clear y hT c0 ci a6 cA cy a9;gi_wp2;refine ep (cN.out.mono ?_);rintro e w' ⟨rfl,rfl⟩;clear cN;by_cases bB:X<top
   ·have c1:(X:Int)<(top:Int):=by omega
    obtain ⟨cn,cp⟩:=br.out bB;have eb:q<W:=by omega
    clear bp br;gi_wp2;refine wpIn_wide.2 ?_;refine bt (fun w'=>GM wr w') ((GQ _ wr).drew) ?_;refine aA (q:Int) rfl (fun w' C=>by go_simp) ?_;simp only [aa];refine aA m rfl (fun w' C=>by obtain ⟨⟨k1,k2⟩,k3⟩:=R.out w' C;go_simp) ?_;simp only [aa];refine bT (.int .i64 Pg) 148 #[m] rfl (fun w'=>by go_simp) (fun w' C=>((R.out w' C).2.2).mono fun e w2 h=>⟨h.1,h.2▸C⟩) ?_;simp only [aa];refine aA (X:Int) rfl (fun w' C=>by go_simp) ?_;simp only [aa];refine aA p rfl (fun w' C=>by obtain ⟨⟨k1,k2⟩,k3⟩:=R.out w' C;go_simp) ?_;simp only [aa];refine bT (.int .i64 U) 153 #[p] rfl (fun w'=>by go_simp) (fun w' C=>((R.out w' C).2.1).mono fun e w2 h=>⟨h.1,C.trans h.2 GN⟩) ?_;simp only [aa];refine aA (.bool (decide (U<=X))) rfl (fun w' C=>by go_simp) ?_;simp only [aa];refine wpQuiet_nil ?_;intro w5 Q;obtain ⟨⟨k1,k2⟩,_⟩:=R.out w5 Q;by_cases ck:U<=X
    ·have cz:=ae (a7.out w5 Q ck cn cp);rw [aB ck];clear R bb Q HT a7 cn cp;gi_wp2;refine ep (cz.out.mono ?_);rintro e w6 ⟨rfl,hu⟩;have cd:=ae hu;clear hu cz k1 k2;gi_wp2;go_roundw
     case rel=>exact ⟨q+1,by go_num,by omega,by omega,cd⟩
     case measure=>simp [intOf];omega
    ·rw [ar ck];have cd:=ae (bb.out (by omega) w5 Q);clear R bb Q HT a7 cn cp;gi_wp2;go_roundw
     case rel=>exact ⟨q+1,by go_num,by omega,by omega,cd⟩
     case measure=>simp [intOf];omega
   ·have c1:¬(X:Int)<(top:Int):=by omega
    have bS:=ae (bp.out (by omega));clear R bb a7 br bp;gi_wp2;refine ep (HT.out.mono ?_);rintro e w7 ⟨rfl,Z⟩;obtain ⟨z1,z2⟩:=bS.out w7 Z;have dr:=ae z1;have ds:=ae z2;clear z1 z2 Z bS HT k1 k2;gi_wp2;refine ⟨by simp,.inl ⟨_,_,rfl,run_takeDeferred ds.out,?_⟩⟩;refine ⟨_,results_tmp2 rfl _ _ _,?_⟩;exact dr.out
end
section
variable{m Pg W Fs Us Hg:Nat}{mp:Nat->Bool}{L:Nat->Nat}{S:Nat->Prop}{w w1:World}
theorem zD(h:dY m Pg W Fs Us Hg mp L S w)(a u:Nat)(p:u<=W)(r:Us+Qb (fJ mp) (a/Pg) ((u-1)/Pg+1)<=Fs):
  Calls prog 144 #[m,(a:Int),(u:Int)] w fun e w'=>e= .returned (0:Int)/\∃S' f d c L',dY m Pg W Fs f d c L' S' w'/\(∀q,c q=(mp q||(decide (a<u)&&decide (a/Pg<=q)&&decide (q<=(u-1)/Pg))))/\(∀b,dD W Pg mp b->L' b=L b)/\Fr S w w'/\∀k,S' k->S k\/w.heap.size<=k:=by
 obtain ⟨M,i,o⟩:=h;rcases aY a u with g|l
 ·refine (nB i a u g p r).mono ?_;rintro e w' ⟨rfl,S',d,c,n,s,t,v,x,y⟩;refine ⟨rfl,S',_,d,c,n,⟨n,s,fun _ _=>rfl⟩,fun q=> ?_,fun b j=> ?_,x,y⟩
  ·rw [t,aB g,bQ]
  ·rw [v b j.1 j.2];exact o b j
 ·refine (sc i a u l p).mono ?_;rintro e w' ⟨rfl,hf⟩;refine ⟨rfl,S,Us,Hg,mp,L,⟨M,i.Qa hf,o⟩,fun q=> ?_,fun _ _=>rfl,hf.mono GN,fun _ h=> .inl h⟩;rw [ar (show¬a<u by omega)];simp
end
def vy(m Pg W Fs:Nat)(mp:Nat->Bool)(Mc:Nat->Nat)(q0:Nat)(S9:Nat->Prop)(w10:World)(q:Nat)(wr:World):Prop:=
 ∃Us Hg mpq S',dY m Pg W Fs Us Hg mpq Mc S' wr/\(∀r,mpq r=(mp r&& !(decide (q0<=r)&&decide (r<q))))/\Fr S9 w10 wr/\∀k,S' k->S9 k\/w10.heap.size<=k
section
variable{m Pg W Fs Us Hg:Nat}{mp:Nat->Bool}{Mc:Nat->Nat}{q0 q:Nat}{S9:Nat->Prop}{w10 wr w1:World}
theorem vy.start(h:dY m Pg W Fs Us Hg mp Mc S9 w10):vy m Pg W Fs mp Mc q0 S9 w10 q0 w10:=by
 refine ⟨Us,Hg,mp,S9,h,fun r=> ?_,GQ _ _,fun _ h=> .inl h⟩;have:(decide (q0<=r)&&decide (r<q0))=false:=by rw [bl,az,az];omega
 rw [this];simp
theorem vy.Fh(h:vy m Pg W Fs mp Mc q0 S9 w10 q wr)(hf:GM wr w1):vy m Pg W Fs mp Mc q0 S9 w10 q w1:=by
 obtain ⟨Us,Hg,a,S',b,c,d,e⟩:=h;exact ⟨Us,Hg,a,S',b.Qa hf,c,d.trans hf GN,e⟩
theorem vy.pg(h:vy m Pg W Fs mp Mc q0 S9 w10 q wr):Calls prog 148 #[m] wr fun e w'=>e= .returned (Pg:Int)/\wr=w':=by
 obtain ⟨Us,Hg,b,S',⟨M,a,_⟩,_⟩:=h;exact jo a
theorem vy.drop(h:vy m Pg W Fs mp Mc q0 S9 w10 q wr)(t:mp q=true)(g:q<W/Pg)(f:q0<=q):Calls prog 149 #[m,(q:Int)] wr fun e w'=>e= .returned (0:Int)/\vy m Pg W Fs mp Mc q0 S9 w10 (q+1) w':=by
 obtain ⟨Us,Hg,c,S',⟨M,o,p⟩,i,j,l⟩:=h;refine (mh o q g (by rw [i,t,ar (gJ q)];simp)).mono ?_;rintro e w' ⟨rfl,S2,high2,M2,p1,p2,p3,p4⟩;have u:=j.size;refine ⟨rfl,Us-1,high2,_,S2,⟨M2,p1,fun b d=> ?_⟩,fun r=> ?_,j.trans p3 l,fun k s=> ?_⟩
 ·have a:c (b/Pg)=true:=by have:=d.2;rw [au] at this;exact this.1
  rw [p2 b d.1 a d.2];exact p b ⟨d.1,a⟩
 ·show (c r&& !(r==q))=_
  rw [i];by_cases e:r=q
  ·subst e;rw [cT,aB (bI r),aB f];simp
  ·rw [aT.2 e,eV,dZ];congr 3
   rw [ce];omega
 ·rcases p4 k s with n|n
  ·exact l k n
  ·exact .inr (by omega)
end
theorem xh{Pg F Tp T b n q:Nat}(hp:1<=Pg)(l:F% Pg=0)(m:T% Pg=0)(g:Pg<=T)(o:T+n<=b)(i:b<=F\/(Tp+Pg-1)/Pg*Pg<=T)(p:Tp<=q*Pg)(j:q*Pg<Tp+Pg)(r:Nat):
  (((decide (F<=r*Pg)&&decide (r*Pg<Tp))||(decide (T<T+n)&&decide (T/Pg<=r)&&decide (r<=(T+n-1)/Pg)))&& !(decide (F/Pg<=r)&&decide (r<q)))=(decide (T<=r*Pg)&&decide (r*Pg<T+n)):=by
 have c:F/Pg<=r↔F<=r*Pg:=by
  have a:F=F/Pg*Pg:=by have:=aM F Pg;rw [aN];omega
  constructor
  ·intro h;rw [a];exact aX Pg h
  ·intro h;rw [a] at h;exact jz h hp
 have d:T/Pg<=r↔T<=r*Pg:=by
  have a:T=T/Pg*Pg:=by have:=aM T Pg;rw [aN];omega
  constructor
  ·intro h;rw [a];exact aX Pg h
  ·intro h;rw [a] at h;exact jz h hp
 have e:r<=(T+n-1)/Pg↔r*Pg<=T+n-1:=dA hp;have f:r<q↔r*Pg<q*Pg:=(Nat.mul_lt_mul_right hp).symm;have k:q*Pg<=(Tp+Pg-1)/Pg*Pg:=aX Pg ((dA hp).2 (by omega));rw [bS];simp only [au,b8,eb,aC,bl,az,c,d,e,f];generalize r*Pg=x at*;generalize q*Pg=y at*;generalize (Tp+Pg-1)/Pg*Pg=C at*;omega
theorem Ai{Pg T a n:Nat}{mp:Nat->Bool}(hp:1<=Pg)(j:T% Pg=0)(b:Pg<=T)(i:a% Pg=0)(k:T+n<=a):Qb (fJ mp) (T/Pg) ((T+n-1)/Pg+1)<=(a-T)/Pg:=by
 refine aZ (dR _ _ _) ?_;have e:(T+n-1)/Pg+1<=a/Pg:=by
  have f:(T+n-1)/Pg<a/Pg:=by
   rw [bp hp];have g:a=a/Pg*Pg:=by have:=aM a Pg;rw [aN];omega
   omega
  omega
 have h:(a-T)/Pg=a/Pg-T/Pg:=by
  obtain ⟨t,d⟩:∃t,T=t*Pg:=⟨T/Pg,by have:=aM T Pg;rw [aN];omega⟩;obtain ⟨l,c⟩:∃l,a=l*Pg:=⟨a/Pg,by have:=aM a Pg;rw [aN];omega⟩;rw [d,c,<-iT,dq _ hp,dq _ hp,dq _ hp]
 omega
section
variable{A:AG}{rs:List Nat}{φ L:Nat->Nat}{lo hi:Nat}
theorem cP.w64(h:cP A rs φ L lo hi)(m:hi<=2147483648){x:Nat}(b:Reach A.gr rs x):∀k,φ x<=k->k<φ x+A.sz x->L k<18446744073709551616:=by
 intro k l e;rcases aY (φ x) k with f|f
 ·obtain ⟨i,rfl⟩:∃i,k=φ x+1+i:=⟨k-φ x-1,by omega⟩;rcases aY i (A.np x) with a|a
  ·rw [h.ptr x b i a];by_cases d:A.Qk x i=0
   ·rw [d,h.zero];omega
   ·have c:=h.Qn _ (AG.Ql b a d);omega
  ·have c:=h.val x b i a (by unfold AG.sz at e;omega);rw [c.1];exact c.2
 ·have:k=φ x:=by omega
  rw [this];obtain ⟨g,j⟩:=h.head x b;rw [g];unfold eO at j;exact Cc (by omega) (by omega) (by omega)
theorem cP.cpd2{f e:Nat}{sz i:Nat->Nat}{dom:Nat->Prop}(h:cP A rs φ L lo hi)(c:∀x,Reach A.gr rs x->sz (φ x)=A.sz x/\i (φ x)=A.np x)(m:∀k,lo<=k->k<hi->dom k)(b:∀k,f<=k->k<e->dom k)(j:1<=f)(l:e<1048576)(o:hi<1048576):
  EA L sz i f e (fun a=>∃x,Reach A.gr rs x/\φ x=a) dom:=by
 refine ⟨?_,?_,b,j,l⟩
 ·rintro a ⟨x,d,rfl⟩;exact ⟨_,_,_,h.head x d,(c x d).1,(c x d).2⟩
 ·rintro a ⟨x,d,rfl⟩;have p:=h.Qn x d;have q:1<=A.sz x:=by unfold AG.sz;omega
  refine ⟨by omega,fun k n g=> ?_⟩;rw [(c x d).1] at g;exact ⟨m k (by omega) (by omega),h.w64 (by omega) d k n g⟩
theorem uA:∀c:List Nat,(∀a∈c,∃x,Reach A.gr rs x/\φ x=a)->∃l:List Nat,c=l.map φ/\∀x∈l,Reach A.gr rs x
 |[],_=>⟨[],rfl,fun x d=>absurd d bq⟩
 |a::t,h=>by
  obtain ⟨x,d,rfl⟩:=h a (cq);obtain ⟨l,f,g⟩:=uA t (fun b i=>h b (bx _ i));refine ⟨x::l,by rw [f];rfl,fun y e=> ?_⟩;rcases bM.1 e with rfl|e
  ·exact d
  ·exact g y e
theorem cP.Yh(h:cP A rs φ L lo hi){sz:Nat->Nat}(j:∀x,Reach A.gr rs x->sz (φ x)=A.sz x){c:List Nat}(n:c.Nodup)(p:∀a∈c,∃x,Reach A.gr rs x/\φ x=a)(i:∀x,Reach A.gr rs x->φ x∈c):∃l,dE A rs l/\A.Wd l=l8 sz c:=by
 obtain ⟨l,f,g⟩:=uA c p;refine ⟨l,⟨?_,fun x=>⟨fun d=>g x d,fun d=> ?_⟩⟩,?_⟩
 ·rw [f] at n;exact List.Pairwise.of_map φ (fun a b h e=>h (congrArg φ e)) n
 ·have k:=i x d;rw [f] at k;obtain ⟨y,m,o⟩:=bu.1 k;rw [<-h.inj (g y m) d o];exact m
 ·unfold AG.Wd l8;rw [f,jl];congr 1
  exact eI (fun x d=>(j x (g x d)).symm)
end
section
variable{m Pg W Fs Us Hg:Nat}{mp:Nat->Bool}{kb wb g:Nat}{S0:Nat->Prop}{w w0 w1:World}{L sz np:Nat->Nat}{To Li:Nat}{R:Nat->Prop}{ls rs:List Nat}{cur:Nat}
def Ez(m Pg W Fs Us Hg:Nat)(mp:Nat->Bool)(kb wb:Nat)(S0:Nat->Prop)(w0:World)(L sz np:Nat->Nat)(To:Nat)(R:Nat->Prop)(ls rs:List Nat)(cur:Nat)(w:World):Prop:=
 ∃(ord:List Nat) (s:iw) (c:Nat),FC m Pg W Fs Us Hg mp kb wb S0 w0 L sz np To R ord cur s w/\cur=To+l8 sz (ord.take c)/\c<=ord.length/\rs.length=ls.length/\∀(i a:Nat),ls[i]? =some a->(a=0/\rs[i]? =some 0)\/(∃z:Nat,s.f a=some z/\rs[i]? =some z)
theorem C7.loop(h:C7 m Pg W Fs Us Hg mp kb wb g S0 w0 L sz np To R ls rs w)(d:rs.length=ls.length):∃S,Ez m Pg W Fs Us Hg mp kb wb S w L sz np To R ls rs To w/\(∀k,S k->S0 k\/w0.heap.size<=k)/\Fr (fun k=>S0 k\/k=kb\/k=wb\/k=g) w0 w:=by
 obtain ⟨b,s,e,j,l,r,n⟩:=h;obtain ⟨S,c1,c2,o⟩:=e.step;obtain ⟨S',p,f,q⟩:=e;exact ⟨S,⟨b,s,0,⟨c1,j,l⟩,by simp [l8],aF _,d,fun i a c=>n i a (by rw [d];exact (al.1 c).1) c⟩,c2,f⟩
theorem Ez.next(n:C1 L sz np To Li R)(C:EA L sz np To Li R (dD W Pg mp))(h:Ez m Pg W Fs Us Hg mp kb wb S0 w0 L sz np To R ls rs cur w):
  ∃top:Nat,aJ w kb [m,.map (some wb),(top:Int)] 230/\cur<=top/\top<=Li/\
   (cur<top->Calls prog 147 #[kb,(cur:Int)] w fun e w'=>∃d:Nat,cur<d/\e= .returned (.int .i64 (d:Int))/\Ez m Pg W Fs Us Hg mp kb wb S0 w0 L sz np To R ls rs d w')/\
   (¬cur<top->∃(b:List Nat) (s:iw),s.top=top/\FC m Pg W Fs Us Hg mp kb wb S0 w0 L sz np To R b s.top s w/\rs.length=ls.length/\∀(i a:Nat),ls[i]? =some a->(a=0/\rs[i]? =some 0)\/(∃z:Nat,s.f a=some z/\rs[i]? =some z)):=by
 obtain ⟨b,s,c,o,v,P,x,y⟩:=h;obtain ⟨⟨S,A,N,O⟩,j,r⟩:=id o;have u:=j.top;have q:=n.fit b j.nd r;have G:l8 sz b=l8 sz (b.take c)+l8 sz (b.drop c):=by rw [<-l7,dB]
 refine ⟨s.top,A.Qd,by omega,by omega,fun F=> ?_,fun E=> ?_⟩
 ·have p:c<b.length:=by
   rcases aY c b.length with k|k
   ·exact k
   ·rw [ip k] at v;omega
  have H:b[c]? =some b[c]:=aK p;refine (DT n C o H v).mono ?_;rintro e w' ⟨l,s',rfl,I,J,K,M⟩;have t:=(n.some _ (r _ (List.getElem_mem p))).2;refine ⟨cur+sz b[c],by omega,rfl,l,s',c+1,I,K,?_,x,fun i a D=> ?_⟩
  ·have:=J.length_le;omega
  ·rcases y i a D with k|⟨z,k,B⟩
   ·exact .inl k
   ·exact .inr ⟨z,M _ _ k,B⟩
 ·have:cur=s.top:=by omega
  exact ⟨b,s,rfl,by rw [<-this];exact o,x,y⟩
theorem xi{A:AG}{b:List Nat}{φ:Nat->Nat}{lo n:Nat}{k:List Nat}{s:iw}(h:cP A b φ L lo n)(e:∀x,Reach A.gr b x->sz (φ x)=A.sz x/\np (φ x)=A.np x)(C:1<=To)
  (o:kH L sz np To k s.top s) (u:∀a∈k,∃x,Reach A.gr b x/\φ x=a) (D:rs.length=(b.map φ).length) (v:∀(i a:Nat),(b.map φ)[i]? =some a->(a=0/\rs[i]? =some 0)\/(∃z:Nat,s.f a=some z/\rs[i]? =some z)):
  ∃(y:Nat->Nat) (l:List Nat),cP A b y s.M To s.top/\rs=b.map y/\dE A b l/\s.top=To+A.Wd l:=by
 have q:s.f 0=none:=by
  refine o.Fh.2 (fun E=> ?_);obtain ⟨x,c,p⟩:=u 0 E;have:=h.pos c;omega
 have d:∀x∈b,x≠0->φ x∈k:=by
  intro x t B;obtain ⟨i,n⟩:=bw.1 t;have hp:=h.pos (.root t B);rcases v i (φ x) (by rw [aR,n];rfl) with ⟨c,_⟩|⟨z,c,_⟩
  ·omega
  ·obtain ⟨j,p,_⟩:=(o.Qt _ _).1 c;exact aD p
 have r:=h.shut o e d;obtain ⟨l,F,G⟩:=h.Yh (fun x t=>(e x t).1) o.nd u r;refine ⟨fun x=>(s.f (φ x)).getD 0,l,h.copied o C q e r,?_,F,by rw [G];exact o.top⟩;refine ir (fun i=> ?_);rw [aR]
 cases n:b[i]? with
 |none=>
  have H:=jH.1 n;rw [bL] at D;exact jH.2 (by omega)
 |some x=>
  rcases v i (φ x) (by rw [aR,n];rfl) with ⟨c,p⟩|⟨z,c,p⟩
  ·rw [p];show _=some ((s.f (φ x)).getD 0)
   rw [c,q];rfl
  ·rw [p];show _=some ((s.f (φ x)).getD 0)
   rw [c];rfl
end
theorem FI(n:Nat):iC (List.replicate n false)=fun _=>false:=by
 funext k;unfold iC;rw [aQ,eD];split<;>rfl
theorem Bu(s:dV)(M:Nat->Nat):∃L:Nat->Nat,∀a,aI s.E a=true->L (s.F a)=oq s.E s.hp M s.F a:=by
 classical
 refine ⟨fun k=>if h:∃a,aI s.E a=true/\s.F a=k then oq s.E s.hp M s.F h.choose else 0,fun a d=> ?_⟩;have c:∃b,aI s.E b=true/\s.F b=s.F a:=⟨a,d,rfl⟩;show (if h:∃b,aI s.E b=true/\s.F b=s.F a then oq s.E s.hp M s.F h.choose else 0)=_
 rw [mn c];have e:s.Qe+ef s.E c.choose=s.Qe+ef s.E a:=c.choose_spec.2;rw [th c.choose_spec.1 d (by omega)]
theorem zr{s:dV}(m:fS s){M:Nat->Nat}{mp:Nat->Bool}(p:∀q,q<s.W/s.P->mp q=ky s.P (aI s.E) (fun _=>false) q)
  (g:∀a,aI s.E a=true->1<=a-dp s.E a->a-dp s.E a<=s.hp (dp s.E a)->M a≠0->aI s.E (M a)=true/\M a<s.W) (v:∀a,aI s.E a=true->M a<18446744073709551616) (u:Qb (ky s.P (aI s.E) (fun _=>false)) 0 (s.W/s.P)<=s.R):
  ∃L,mz s L M mp (fun _=>false) 0 0 s.nb (s.Qe+s.N)/\∀a,aI s.E a=true->L (s.F a)=oq s.E s.hp M s.F a:=by
 obtain ⟨L,l⟩:=Bu s M;have e:dH s.B (fun _=>false)=fun _=>false:=rfl
 have d:∀q,mA s.P s.N (fun _=>false) q=false:=fun q=>(mf m.P1).2 (fun a _=>cV _)
 have c:∀q,kQ s (s.Qe+s.N) q=false:=fun q=>(mf m.P1).2 (fun a _=>by rw [bl,az,az];omega)
 have j:Qb (fun _=>false) 0 s.nb=0:=cu (fun _ _ _=>rfl);refine ⟨L,⟨fun a _ _ h=>absurd h eW,fun a _ b _=>(l a b).symm,fun a _ b _=>g a b,fun a _ b _=>v a b,fun k n b=>absurd n (by omega),fun q t=> ?_,⟨fun k o=>absurd o (fb k),aF _,fun _=>rfl⟩,fun _ _=>rfl,⟨j.symm,aF _⟩,(by rw [j,bg]),fun _=>false,fun _ h=>absurd h eW,?_⟩,l⟩
 ·rw [p q t,e];unfold ic;rw [e,d,c];simp
 ·rw [e];unfold nP;rw [cu (f:=fun r=>mA s.P s.N (fun _=>false) r||kQ s (s.Qe+s.N) r) (fun i _ _=>by rw [d,c];rfl),bg];exact u
section
variable{A:AG}{rs:List Nat}{φ M E hp:Nat->Nat}{lo hi:Nat}
theorem cP.own(h:cP A rs φ M lo hi)(b:lX A rs φ E){a:Nat}(f:aI E a=true):∃x i,Reach A.gr rs x/\dp E a=φ x/\a=φ x+i/\i<A.sz x:=by
 have d:=fX f;obtain ⟨x,c,e⟩:=b.some (dp E a) (by omega);rw [<-e,b.size x c] at d;exact ⟨x,a-φ x,c,e.symm,by omega,by omega⟩
theorem cP.live(h:cP A rs φ M lo hi)(a:lX A rs φ E){x i:Nat}(b:Reach A.gr rs x)(hi:i<A.sz x):aI E (φ x+i)=true:=
 cX.2 ⟨φ x,by omega,by rw [a.size x b];omega⟩
theorem cP.opn_ptr(h:cP A rs φ M lo hi)(k:lX A rs φ E)(b:∀x,Reach A.gr rs x->hp (φ x)=A.np x){W:Nat}(u:hi<=W):∀a,aI E a=true->1<=a-dp E a->a-dp E a<=hp (dp E a)->M a≠0->aI E (M a)=true/\M a<W:=by
 intro a q n o f;obtain ⟨x,i,c,d,m,r⟩:=h.own k q;rw [d,b x c] at o;rw [d] at n;obtain ⟨j,rfl⟩:∃j,i=1+j:=⟨i-1,by omega⟩;have g:=h.ptr x c j (by omega);rw [ji,<-m] at g;rw [g] at f ⊢;have l:=AG.Ql c (show j<A.np x by omega) (fun e=>f (by rw [e];exact h.zero));have s:=h.Qn _ l;have t:1<=A.sz (A.Qk x j):=by unfold AG.sz;omega
 have p:=h.live k l (i:=0) (by omega);exact ⟨p,by omega⟩
theorem cP.Yi(h:cP A rs φ M lo hi)(b:lX A rs φ E)(d:hi<=2147483648):∀a,aI E a=true->M a<18446744073709551616:=by
 intro a c;obtain ⟨x,i,e,f,g,j⟩:=h.own b c;exact h.w64 d e a (by omega) (by omega)
theorem cP.opn_laid(h:cP A rs φ M lo hi)(b:lX A rs φ E)(c:iB E)(d:∀x,Reach A.gr rs x->hp (φ x)=A.np x){T:Nat}(j:1<=T){L:Nat->Nat}(g:∀a,aI E a=true->L (goes E T a)=oq E hp M (goes E T) a):
  cP A rs (rY (goes E T) φ) L T (T+Qb (aI E) 0 hi):=by
 refine h.slide b j (fun x e i hi=> ?_);have f:=g _ (h.live b e hi);have k:=b.size x e;rw [pT (by omega)] at f;rw [f];unfold oq;rw [sX c (s:=φ x) (by omega) (by omega),d x e,cM]
end
theorem Aj{f:Nat->Bool}{n:Nat}(h:n<=Qb f 0 n){i:Nat}(b:i<n):f i=true:=by
 cases hf:f i with
 |true=>rfl
 |false=>
  have c:=bJ f (aF (i+1)) (show i+1<=n from b);have a:=cr f (aF i);have d:=dR f 0 i;have e:=dR f (i+1) n;rw [hf] at a;simp at a;omega
theorem ed.off{S:Nat->Prop}{w:World}{m Pg W Rm Us Hg:Nat}{mp:Nat->Bool}{M:Nat->Nat}(h:ed w m S Pg W Rm Us Hg mp M){q:Nat}(a:W/Pg<=q):mp q=false:=by
 obtain ⟨p,z,y,x,ws,u,f,e,g,i,v,fr,n,j,k,c,l,o,r,s,d,t,b⟩:=h;rw [d];unfold eK;rw [c.off q a];rfl
theorem mz.done{s:dV}{L M:Nat->Nat}{mp:Nat->Bool}{d:Nat->Bool}{fr C top:Nat}(o:fS s)(h:mz s L M mp d fr C 0 top)(U:top<=s.Qe+s.R*s.P):
  (∀a,s.Qe<=a->a<top->M a=L a)/\∀q,q<s.W/s.P->s.Qe+s.N<=top->mp q=(decide (s.Qe<=q*s.P)&&decide (q*s.P<top)):=by
 have j:=o.P1;have H:=o.B1;have m:∀k,k<s.nb->d k=true:=fun k K=>Aj (by have:=h.left;omega) K
 have n:∀i,i<s.N->d (i/s.B)=true:=fun i J=>m _ ((bp (by omega)).2 (cz J (vV H)))
 have e:∀a,aI s.E a=true->a<s.W/\d (ef s.E a/s.B)=true:=fun a v=>
  ⟨(o.from_ a v).1,n _ (jQ v (o.from_ a v).1)⟩
 refine ⟨fun a I w=> ?_,fun q O V=> ?_⟩
 ·rcases aY a (s.Qe+s.N) with l|l
  ·obtain ⟨b,D,y,Q⟩:=wt (E:=s.E) (W:=s.W) (i:=a-s.Qe) (by have:s.N=Qb (aI s.E) 0 s.W:=rfl;omega);have u:s.F b=a:=by show s.Qe+ef s.E b=a;omega
   have:=h.Yg b D y (e b y).2;rwa [u] at this
  ·exact h.behind a l w
 ·have x:ky s.P (aI s.E) (dH s.B d) q=false:=(mf j).2 (fun a _=>by
   cases hl:aI s.E a with
   |false=>rfl
   |true=>
    show (!(d (ef s.E a/s.B)))=false
    rw [(e a hl).2];rfl)
  rw [h.Qx q O,x,ga];unfold ic;by_cases g:s.Qe/s.P<=q
  ·have S:=o.toq;have z:s.Qe/s.P*s.P<=q*s.P:=aX _ g;have T:(q-s.Qe/s.P)*s.P=q*s.P-s.Qe/s.P*s.P:=iT _ _ _;rw [aB g,aB (show s.Qe<=q*s.P by omega),bQ,bQ,bS];simp only [au,b8,aC];unfold mA kQ;rw [cB j,cB j];constructor
   ·rintro ⟨_,A⟩;have t:∃i,i/s.P=q-s.Qe/s.P/\s.Qe+i<top:=by
     rcases A with ⟨i,p,r⟩|⟨i,p,r⟩
     ·rw [au,aC] at r;exact ⟨i,p,by omega⟩
     ·rw [au,aC,aC] at r;exact ⟨i,p,r.2⟩
    obtain ⟨i,p,r⟩:=t;have f:(q-s.Qe/s.P)*s.P<=i:=by rw [<-p];exact bE _ _
    omega
   ·intro A;have t:(q-s.Qe/s.P)*s.P/s.P=q-s.Qe/s.P:=dq _ j;refine ⟨?_,?_⟩
    ·rcases aY q (s.Qe/s.P+s.R) with f|f
     ·exact f
     ·have G:=aX s.P f;rw [fM] at G;omega
    ·rcases aY ((q-s.Qe/s.P)*s.P) s.N with f|f
     ·exact .inl ⟨_,t,by
       rw [aB f,bQ];exact n _ f⟩
     ·exact .inr ⟨_,t,by rw [aB f,aB (show s.Qe+(q-s.Qe/s.P)*s.P<top by omega)];rfl⟩
  ·have z:¬s.Qe<=q*s.P:=fun h=>g (by
    have:=bi (c:=s.P) h;rwa [dq _ j] at this)
   rw [ar g,ar z];rfl
theorem se{n:Nat}(h:cJ (n:Int)=true):∃i,n=2^i:=by
 obtain ⟨i,_,b⟩:=(iD _).1 h;exact ⟨i,by
  have a:((n:Nat):Int)=((2^i:Nat):Int):=by rw [b];push_cast;rfl
  exact Int.ofNat.inj a⟩
theorem sS{a b:Nat}(d:cJ (a:Int)=true)(e:cJ (b:Int)=true)(h:a<=b):a∣b:=by
 obtain ⟨i,rfl⟩:=se d;obtain ⟨j,rfl⟩:=se e;rcases kD i j with c|c
 ·exact Nat.pow_dvd_pow 2 c
 ·have:=dI (show 0<2 by omega) c;rw [show 2^i=2^j by omega];exact Nat.dvd_refl _
section
variable{c:Cf}
theorem iz.div(a:iz c):c.Pg∣c.block\/c.block∣c.Pg:=by
 rcases kD c.Pg c.block with h|h
 ·exact .inl (sS a.Qv a.Yw h)
 ·exact .inr (sS a.Yw a.Qv h)
theorem iz.wp(a:iz c):c.Wd% c.Pg=0:=Nat.mod_eq_zero_of_dvd (sS a.Qv a.words1 a.words4)
theorem iz.Wp(a:iz c):c.W% c.Pg=0:=by
 have h:=a.wp;unfold Cf.W;split
 ·rw [bg,iK];exact h
 ·rw [bW,iK,pJ,h];rfl
theorem iz.W5(a:iz c):c.W<=524288/\c.Pg<=c.W/\c.Pg+c.Wd<=c.W:=by
 have b:=a.Xp;have d:=a.Yt;unfold Cf.W;split<;>omega
def Cf.half(c:Cf)(Ba:Nat):Prop:=Ba=c.Pg\/(c.kind≠3/\Ba=c.Pg+c.Wd)
theorem Cf.half.other{Ba:Nat}(h:c.half Ba)(a:c.kind≠3):c.half (2*c.Pg+c.Wd-Ba):=by
 rcases h with rfl|⟨_,rfl⟩
 ·exact .inr ⟨a,by omega⟩
 ·exact .inl (by omega)
theorem Cf.half.le{Ba:Nat}(h:c.half Ba):c.Pg<=Ba/\Ba<=c.Pg+c.Wd:=by
 rcases h with rfl|⟨_,rfl⟩<;>omega
theorem Cf.half.mod{Ba:Nat}(h:c.half Ba)(a:iz c):Ba% c.Pg=0:=by
 rcases h with rfl|⟨_,rfl⟩
 ·exact Nat.mod_self _
 ·rw [iK];exact a.wp
theorem Cf.half.top{Ba:Nat}(h:c.half Ba):Ba+c.Wd<=c.W:=by
 unfold Cf.W;rcases h with rfl|⟨a,rfl⟩
 ·omega
 ·rw [aE a];omega
theorem Cf.half.conf{Ba u:Nat}(h:c.half Ba)(a:iz c)(i:c.kind≠3)(o:u<=c.Wd):nh c.Pg c.W Ba (Ba+u) (2*c.Pg+c.Wd-Ba) (2*c.Pg+c.Wd-Ba+c.Wd) c.block c.stack c.Ah:=by
 have e:=h.other i;have j:=h.le;have k:=e.le;have l:=h.top;have m:=e.top;have n:=a.words2;have f:=e.mod a;have g:=a.wp;refine ⟨a.Yw,a.block2,a.Yn,a.Yx,a.Yy,a.Yo,by omega,by omega,by omega,by omega,by omega,by omega,h.mod a,f,by rw [pJ,f,g];rfl,a.Qv,?_⟩;rcases h with rfl|⟨_,rfl⟩
 ·right;have hp:=a.Qq;have b:(c.Pg+c.Wd)/c.Pg*c.Pg=c.Pg+c.Wd:=by
   have:=aM (c.Pg+c.Wd) c.Pg;rw [iK,g] at this;rw [aN];omega
  have d:(c.Pg+u+c.Pg-1)/c.Pg<=(c.Pg+c.Wd)/c.Pg:=by
   rw [<-Nat.lt_succ_iff,bp (by omega),cY,b];omega
  have:=aX c.Pg d;omega
 ·left;omega
end
structure Hp where
 b:Nat
 m:Nat
 rb:Nat
 rg:Nat
def F6(c:Cf)(m Ba top:Nat)(L:Nat->Nat)(S:Nat->Prop)(w:World):Prop:=
 ∃Us Hg mp,dY m c.Pg c.W c.Fs Us Hg mp L S w/\∀q,mp q=(decide (Ba<=q*c.Pg)&&decide (q*c.Pg<top))
def rJ(c:Cy)(s:dV)(hf hg:Nat->Nat)(Fs top:Nat)(Mv:List Bool)(left fr ah Us:Nat)(L:Nat->Nat)(S:Nat->Prop)(w:World):Prop:=
 ∃Hg Sm mp M fw n,jE c s hf hg Fs Us Hg Sm mp M Mv fw n left fr ah w/\mz s L M mp (iC Mv) fr ah left top/\(∀q,(fw q).getD 0=pM s (dH s.B (iC Mv)) q)/\n<4611686018427387904/\∀k,S k↔(Sm k\/c.has k)
theorem jU.su{c:Cy}{s:dV}{hf hg:Nat->Nat}{Fs top:Nat}{a:List Bool}{left fr b:Nat}{L:Nat->Nat}{S:Nat->Prop}{w:World}(h:jU c s hf hg Fs top a left fr b L S w):∃Us,rJ c s hf hg Fs top a left fr b Us L S w:=
 let ⟨Us,Hg,d,mp,M,e,n,h⟩:=h;⟨Us,Hg,d,mp,M,e,n,h⟩
theorem rJ.s{c:Cy}{s:dV}{hf hg:Nat->Nat}{Fs top:Nat}{a:List Bool}{left fr b Us:Nat}{L:Nat->Nat}{S:Nat->Prop}{w:World}(h:rJ c s hf hg Fs top a left fr b Us L S w):jU c s hf hg Fs top a left fr b L S w:=
 let ⟨Hg,d,mp,M,e,n,h⟩:=h;⟨Us,Hg,d,mp,M,e,n,h⟩
theorem rJ.stays{c:Cy}{s:dV}{hf hg:Nat->Nat}{Fs top:Nat}{e:List Bool}{left fr f Us:Nat}{L:Nat->Nat}{S:Nat->Prop}{w w':World}{T:Nat->Prop}(h:rJ c s hf hg Fs top e left fr f Us L S w)(a:Fr T w w')(g:∀k,S k->¬T k)(l:¬T cO):rJ c s hf hg Fs top e left fr f Us L S w':=by
 obtain ⟨Hg,i,mp,M,j,n,m,o,p,q,d⟩:=h;exact ⟨Hg,i,mp,M,j,n,m.frame a (fun k b=>g k ((d k).2 (.inr b))) (fun k b=>g k ((d k).2 (.inl b))) l,o,p,q,d⟩
def F7(c:Cf)(m Ba top:Nat)(q:Nat->Prop)(y n:Nat)(L:Nat->Nat)(S:Nat->Prop)(w:World):Prop:=
 c.kind=1/\∃cc s hf hg Mv fr ah,yD cc s hf hg c.Fs top/\(∃Us,q Us/\rJ cc s hf hg c.Fs top Mv n fr ah Us L S w)/\cc.y=y/\cc.m=m/\s.Qe=Ba/\s.P=c.Pg/\s.R=c.Wd/c.Pg/\s.W=c.W/\s.B=c.block/\s.Ah=c.Ah
def vB(c:Cf)(m Ba top:Nat)(q:Nat->Prop)(L:Nat->Nat)(S:Nat->Prop)(w:World):Option Nat->Nat->Prop
 |none,n=>n=0/\F6 c m Ba top L S w
 |some y,n=>F7 c m Ba top q y n L S w
structure kP(q:Nat->Prop)(h:Hp)(c:Cf)(A:AG)(rs:List Nat)(φ L:Nat->Nat)(Ba u ub:Nat)(cy:Option Nat)(n:Nat)(ns bs:Int)(S:Nat->Prop)(w:World):Prop where
 Qs:iz c
 Qd:my w h.b c h.m h.rb ub cy ns bs
 roots:dt w h.rb h.rg (rs.map φ)
 Yb:fx w ub h.m Ba (Ba+u) (Ba+c.Wd)
 Qp:et w
 laid:cP A rs φ L Ba (Ba+u)
 Sl:rs.length=c.Sl
 fits:u<=c.Wd
 half:c.half Ba
 mem:vB c h.m Ba (Ba+u) q L S w cy n
 d:∀k,S k->k≠h.b/\k≠h.rb/\k≠h.rg/\k≠ub/\k≠cO
 e:h.b≠h.rb/\h.b≠h.rg/\h.b≠ub/\h.rb≠ub/\h.rg≠ub/\h.b≠cO/\h.rg≠cO/\ub≠cO/\h.rb≠cO
def kT(h:Hp)(ub:Nat)(S:Nat->Prop)(k:Nat):Prop:=S k\/k=h.b\/k=h.rb\/k=h.rg\/k=ub
def C5(b:Nat)(c:Cf)(A:AG)(rs:List Nat)(u n:Nat)(T:Nat->Prop)(w:World):Prop:=
 ∃h φ L Ba ub cy ns bs S,h.b=b/\kP (fun _=>True) h c A rs φ L Ba u ub cy n ns bs S w/\(∀k,T k↔kT h ub S k)
def eX(b:Nat)(c:Cf)(A:AG)(rs:List Nat)(u n:Nat)(T:Nat->Prop)(w:World):Prop:=
 ∃h φ L Ba ub cy ns bs S,h.b=b/\kP (fun _=>True) h c A rs φ L Ba u ub cy n ns bs S w/\(∀k,T k↔kT h ub S k)/\(n=0->cy=none)
section
variable{b:Nat}{h:Hp}{c:Cf}{A:AG}{rs:List Nat}{φ L:Nat->Nat}{Ba u ub:Nat}{cy:Option Nat}{n:Nat}{ns bs:Int}{S T X q:Nat->Prop}{w w' w'':World}
theorem vB.stays(g:vB c h.m Ba (Ba+u) q L S w cy n)(hf:Fr X w w')(f:∀k,S k->¬X k)(p:¬X cO):vB c h.m Ba (Ba+u) q L S w' cy n:=by
 cases cy with
 |none=>
  obtain ⟨o,Us,Hg,mp,d,e⟩:=g;exact ⟨o,Us,Hg,mp,(da _ _ _ _ _ _ _) _ _ _ _ _ d hf f,e⟩
 |some y=>
  obtain ⟨r,l,s,a,hg,i,fr,j,d,⟨Us,v,e⟩,t⟩:=g;exact ⟨r,l,s,a,hg,i,fr,j,d,⟨Us,v,e.stays hf f p⟩,t⟩
theorem vB.lt(a:vB c h.m Ba (Ba+u) q L S w cy n):∀k,S k->k<w.heap.size:=by
 cases cy with
 |none=>
  obtain ⟨l,Us,Hg,mp,d,e⟩:=a;exact (cw _ _ _ _ _ _ _).lt _ _ _ d
 |some y=>
  obtain ⟨o,j,s,f,hg,g,fr,i,d,⟨Us,r,e⟩,p⟩:=a;exact e.s.lt
theorem kP.lt(a:kP q h c A rs φ L Ba u ub cy n ns bs S w):∀k,kT h ub S k->k<w.heap.size:=by
 intro k d;rcases d with d|rfl|rfl|rfl|rfl
 ·exact a.mem.lt k d
 ·exact aJ.lt a.Qd
 ·exact a.roots.Qd.lt
 ·exact a.roots.row.lt
 ·exact aJ.lt a.Yb
theorem kP.stays(a:kP q h c A rs φ L Ba u ub cy n ns bs S w)(hf:Fr X w w')(f:∀k,kT h ub S k->¬X k)(g:¬X cO):kP q h c A rs φ L Ba u ub cy n ns bs S w':=
 ⟨a.Qs,aJ.frame a.Qd hf (f _ (.inr (.inl rfl))),a.roots.frame hf (f _ (.inr (.inr (.inl rfl)))) (f _ (.inr (.inr (.inr (.inl rfl))))),aJ.frame a.Yb hf (f _ (.inr (.inr (.inr (.inr rfl))))),aS a.Qp hf g,a.laid,a.Sl,a.fits,a.half,a.mem.stays hf (fun k i=>f k (.inl i)) g,a.d,a.e⟩
theorem kP.Qa(a:kP q h c A rs φ L Ba u ub cy n ns bs S w)(hf:GM w w'):kP q h c A rs φ L Ba u ub cy n ns bs S w':=a.stays hf (fun _ _ h=>h) id
theorem eX.stays(f:eX b c A rs u n T w)(hf:Fr X w w')(d:∀k,T k->¬X k)(e:¬X cO):eX b c A rs u n T w':=by
 obtain ⟨h,φ,L,Ba,ub,cy,ns,bs,S,i,j,a,l⟩:=f;exact ⟨h,φ,L,Ba,ub,cy,ns,bs,S,i,j.stays hf (fun k g=>d k ((a k).2 g)) e,a,l⟩
theorem eX.Qa(a:eX b c A rs u n T w)(hf:GM w w'):eX b c A rs u n T w':=a.stays hf (fun _ _ h=>h) id
theorem eX.lt(a:eX b c A rs u n T w):∀k,T k->k<w.heap.size:=by
 obtain ⟨h,φ,L,Ba,ub,cy,ns,bs,S,g,e,f,i⟩:=a;exact fun k d=>e.lt k ((f k).1 d)
theorem eX.Qp(l:eX b c A rs u n T w):et w/\cO<w.heap.size/\¬T cO:=by
 obtain ⟨h,φ,L,Ba,ub,cy,ns,bs,S,x,f,o,y⟩:=l;obtain ⟨p,r,s,t,v,g,i,j,k⟩:=f.e;refine ⟨f.Qp,cl (f.Qp 0 0 rfl),fun m=> ?_⟩;rcases (o _).1 m with a|a|a|a|a
 ·exact (f.d _ a).2.2.2.2 rfl
 ·exact g a.symm
 ·exact k a.symm
 ·exact i a.symm
 ·exact j a.symm
theorem eX.cf(d:eX b c A rs u n T w):iz c/\rs.length=c.Sl/\u<=c.Wd:=by
 obtain ⟨h,φ,L,Ba,ub,cy,ns,bs,S,e,a,f,g⟩:=d;exact ⟨a.Qs,a.Sl,a.fits⟩
end
section
variable{P:Program}
def dU(P:Program)(ρ:Operand->Value)(o:Oper)(w:World)(post:Value->World->Prop):Prop:=
 match (execOp ρ o).run P w with
 | .ok (.value v) w'=>post v w'
 | .ok .skip w'=>post undef w'
 | .ok (.enter f args) w'=>Calls P f args w' fun e w''=>∃v,e= .returned v/\post v w''
 |_=>False
theorem dU.wp{o:Oper}{a:Act}{w:World}{b:Value->World->Prop}{Q:Exit->Act->World->Prop}(h:dU P a.eval o w b):o.wp P a w (fun c w'=>∃v,c=a.put o.dst v/\b v w') Q:=by
 unfold dU at h;unfold Oper.wp;generalize (execOp a.eval o).run P w=r at*
 cases r with
 |halt x w'=>exact h.elim
 |ok n w'=>
  cases n<;>simp only [Oper.upon] at h ⊢
  case value v=>exact ⟨v,rfl,h⟩
  case skip=>exact ⟨_,rfl,h⟩
  case enter f args=>
   refine Calls.mono h ?_;rintro e d ⟨v,rfl,hp⟩;exact ⟨v,rfl,hp⟩
theorem ba{ρ:Operand->Value}{o:Oper}{w w':World}{a:Value->World->Prop}(v:Value)(h:(execOp ρ o).run P w= .ok (.value v) w')(hp:a v w'):dU P ρ o w a:=by
 unfold dU;rw [h];exact hp
theorem ff{ρ:Operand->Value}{o:Oper}{w w':World}{a:Value->World->Prop}(h:(execOp ρ o).run P w= .ok .skip w')(hp:a undef w'):dU P ρ o w a:=by
 unfold dU;rw [h];exact hp
theorem bm{ρ:Operand->Value}{o:Oper}{w w':World}{a:Value->World->Prop}(f:FuncId)(args:Array Value)(h:(execOp ρ o).run P w= .ok (.enter f args) w')(hp:Calls P f args w' fun e b=>∃v,e= .returned v/\a v b):dU P ρ o w a:=by
 unfold dU;rw [h];exact hp
def gd:Value->Option Nat
 | .pointer (some a)=>some a.block
 | .slice (some a) _ _=>some a.block
 | .map b=>b
 |_=>none
def jY(w w':World)(v:Value):Prop:=∃g,gd v=some g/\w.heap.size<=g/\g<w'.heap.size
def df(vs:Nat->Value):Nat->List Oper->Array Value->Array Value
 |_,[],t=>t
 |k,o::l,t=>df vs (k+1) l (match o.dst with|some d=>t.setIfInBounds d (vs k)|none=>t)
theorem fO{vs:Nat->Value}{x:Nat}:∀(l:List Oper) (k:Nat) (t:Array Value),(∀o∈l,o.dst≠some x)->(df vs k l t)[x]? =t[x]?
 |[],_,_,_=>rfl
 |o::l,k,t,h=>by
  have a:=h o cq;unfold df;rw [fO l (k+1) _ (fun o' b=>h o' (bx _ b))]
  cases hd:o.dst with
  |none=>rfl
  |some d=>exact eh (fun e=>a (by rw [hd,e]))
theorem jn{vs:Nat->Value}{d:Nat}:∀(l:List Oper) (k j:Nat) (t:Array Value) (o:Oper),l[j]? =some o->o.dst=some d->(∀i o',l[i]? =some o'->o'.dst=some d->i=j)->(df vs k l t)[d]? =(t[d]?).map fun _=>vs (k+j)
 |[],_,_,_,_,h,_,_=>by cases h
 |o'::l,k,0,t,o,h,hd,hu=>by
  obtain rfl:o'=o:=bf h;unfold df;rw [fO l (k+1) _ (fun f g e=>by
   obtain ⟨i,b⟩:=bw.1 g;have:=hu (i+1) f b e;omega),hd]
  show (t.setIfInBounds d (vs k))[d]? =_
  rw [jc,aG rfl,bg];by_cases a:d<t.size
  ·rw [aG a,di a];rfl
  ·rw [aE a,iv (Nat.le_of_not_lt a)];rfl
 |o'::l,k,j+1,t,o,h,hd,hu=>by
  unfold df;rw [jn l (k+1) j _ o h hd (fun i f b e=>by have:=hu (i+1) f b e;omega),show k+1+j=k+(j+1) by omega];have c:o'.dst≠some d:=fun e=>by have:=hu 0 o' rfl e;omega
  cases hd':o'.dst with
  |none=>rfl
  |some d'=>
   show ((t.setIfInBounds d' (vs k))[d]?).map _=_
   rw [eh (fun e=>c (by rw [hd',e]))]
def eF(o:Oper)(j:Nat):Bool:=o.after.any fun e=>Region.binds .any e&&e.on==j
def A9(o:Oper):List Tmp:=o.op.operands.toList.filterMap fun| .tmp t=>some t|_=>none
def iX(l:List Oper):Bool:=
 l.all fun o=>o.guard.isNone&&(match o.op with| .select _ _=>false| .defer _=>false|_=>true)
def gN(l:List Oper):Bool:=
 (List.range l.length).all fun i=>match l[i]? with
  |none=>true
  |some o=>(o.after.all fun e=> !Region.binds .any e||decide (e.on<i))&&(List.range l.length).all fun j=>match l[j]? with
   |none=>true
   |some p=>match p.dst with
    |none=>true
    |some d=>(!(A9 o).contains d||eF o j)&&(i==j||o.dst !=some d)
structure oa(l:List Oper):Prop where
 guard:∀(i:Nat) (o:Oper),l[i]? =some o->o.guard=none
 sel:∀(i:Nat) (o:Oper),l[i]? =some o->∀cs b,o.op≠ .select cs b
 dfr:∀(i:Nat) (o:Oper),l[i]? =some o->∀c,o.op≠ .defer c
 back:∀(i:Nat) (o:Oper),l[i]? =some o->∀e∈o.after,Region.binds .any e=true->e.on<i
 reads:∀(i:Nat) (o:Oper) (j:Nat) (p:Oper) (d:Nat),l[i]? =some o->l[j]? =some p->p.dst=some d->Operand.tmp d∈o.op.operands->eF o j=true
 once:∀(i:Nat) (o:Oper) (j:Nat) (p:Oper) (d:Nat),l[i]? =some o->l[j]? =some p->p.dst=some d->o.dst=some d->i=j
theorem jr{l:List Oper}(h:iX l=true)(q:gN l=true):oa l:=by
 unfold iX at h;unfold gN at q;rw [fH] at h q;have s:∀(i:Nat) (o:Oper),l[i]? =some o->i<l.length:=fun i o a=>(al.1 a).1
 have n:∀(i:Nat) (o:Oper),l[i]? =some o->o.guard=none/\(∀cs b,o.op≠ .select cs b)/\∀c,o.op≠ .defer c:=fun i o a=>by
  have k:=h o (aD a);rw [au] at k;refine ⟨Option.isNone_iff_eq_none.1 k.1,fun cs b e=> ?_,fun c e=> ?_⟩
  ·have f:=k.2;rw [e] at f
   cases f
  ·have f:=k.2;rw [e] at f
   cases f
 have r:∀(i:Nat) (o:Oper),l[i]? =some o->(∀e∈o.after,Region.binds .any e=true->e.on<i)/\∀(j:Nat) (p:Oper) (d:Nat),l[j]? =some p->p.dst=some d->((A9 o).contains d=true->eF o j=true)/\(o.dst=some d->i=j):=fun i o a=>by
  have k:=q i (bv.2 (s i o a));simp only [a,au,fH] at k;refine ⟨fun e u t=> ?_,fun j p d hp m=> ?_⟩
  ·have f:=Array.all_eq_true_iff_forall_mem.1 k.1 e u;rw [t] at f
   simpa using f
  ·have f:=k.2 j (bv.2 (s j p hp));simp only [hp,m,au,b8] at f;refine ⟨fun w=> ?_,fun e=> ?_⟩
   ·rcases f.1 with g|g
    ·rw [w] at g;cases g
    ·exact g
   ·rcases f.2 with g|g
    ·exact dz.1 g
    ·rw [e] at g;simp at g
 refine ⟨fun i o a=>(n i o a).1,fun i o a=>(n i o a).2.1,fun i o a=>(n i o a).2.2,fun i o a=>(r i o a).1,fun i o j p d a hp m v=> ?_,fun i o j p d a hp m e=>((r i o a).2 j p d hp m).2 e⟩;refine ((r i o a).2 j p d hp m).1 ?_;rw [kS];exact List.mem_filterMap.2 ⟨.tmp d,by simpa using v,rfl⟩
def jd(m n:Nat):Array Bool:=((List.range m).map fun j=>decide (j<n)).toArray
def dF(l:List Oper)(t i:Nat):Bool:=match l[t]? with
 |some o=>eF o i
 |none=>false
def sR(l:List Oper):Nat->Nat->Nat->Bool
 |0,t,i=>dF l t i
 |f+1,t,i=>dF l t i||(List.range l.length).any fun k=>dF l t k&&sR l f k i
def xF(l:List Oper)(n:Nat):Bool:=(List.range l.length).all fun t=>decide (t<n)||(List.range n).all fun i=>sR l 3 t i
def ru(l:List Oper)(n:Nat):Prop:=∀(D:Nat->Prop) (t:Nat),n<=t->t<l.length->(∀k i,D k->dF l k i=true->D i)->(∀k,dF l t k=true->D k)->∀i,i<n->D i
def Cu(l:List Oper):Nat->List Nat->List Nat
 |0,S=>S
 |k+1,S=>Cu l k (if S.any (fun m=>dF l m k) then k::S else S)
def tZ(l:List Oper)(n:Nat):Bool:=(List.range l.length).all fun t=>decide (t<n)||(List.range n).all fun i=>(Cu l t [t]).contains i
theorem yh{l:List Oper}{D:Nat->Prop}{t:Nat}(b:∀k i,D k->dF l k i=true->D i)(c:∀k,dF l t k=true->D k):∀(k:Nat) (S:List Nat),(∀m∈S,m=t\/D m)->∀m∈Cu l k S,m=t\/D m
 |0,_,h,m,hm=>h m hm
 |k+1,S,h,m,hm=>by
  refine yh b c k _ (fun x a=> ?_) m hm;split at a
  ·rename_i e;rcases bM.1 a with rfl|a
   ·obtain ⟨y,g,d⟩:=fG.1 e;rcases h y g with rfl|f
    ·exact .inr (c _ d)
    ·exact .inr (b _ _ f d)
   ·exact h x a
  ·exact h x a
theorem pq{l:List Oper}{n:Nat}(h:tZ l n=true):ru l n:=fun D t k b d j i f=>by
 have a:=fH.1 h t (bv.2 b);rw [ar (show¬t<n by omega),ga] at a;have c:=fH.1 a i (bv.2 f);rcases yh d j t [t] (fun m g=> .inl (bP.1 g)) i (kS.1 c) with e|e
 ·omega
 ·exact e
theorem uc{l:List Oper}{D:Nat->Prop}(b:∀k i,D k->dF l k i=true->D i):∀(f t i:Nat),(∀k,dF l t k=true->D k)->sR l f t i=true->D i
 |0,t,i,ht,h=>ht i h
 |f+1,t,i,ht,h=>by
  unfold sR at h;rw [b8] at h;rcases h with h|h
  ·exact ht i h
  ·obtain ⟨k,_,a⟩:=fG.1 h;rw [au] at a;exact uc b f k i (fun m c=>b k m (ht k a.1) c) a.2
theorem tY{l:List Oper}{n:Nat}(h:xF l n=true):ru l n:=fun D t f b c e i d=>by
 have a:=fH.1 h t (bv.2 b);rw [ar (show¬t<n by omega),ga] at a;exact uc c 3 t i e (fH.1 a i (bv.2 d))
variable{R R1:World->World->Prop}{Inv:World->Prop}{Pre:Nat->World->Prop}{St:Nat->World->World->Prop}{Ps:Nat->Value->World->Prop}{nw:Nat->Bool}{n d:Nat}
structure CU(l:List Oper)(n:Nat)(a0:Act)(w0:World)(Inv:World->Prop)(Pre:Nat->World->Prop)(Ps:Nat->Value->World->Prop)(nw:Nat->Bool)(vs:Nat->Value)(listed:Array Bool)(a:Act)(w:World):Prop where
 news:∀j,nw j=true->j<n->listed.getD j true=true->jY w0 w (vs j)
 diff:∀i j,nw i=true->nw j=true->i<n->j<n->listed.getD i true=true->listed.getD j true=true->i≠j->gd (vs i)≠gd (vs j)
 size:listed.size=l.length
 tail:∀j,n<=j->j<l.length->listed.getD j true=false
 shut:∀k i,(k<l.length/\listed.getD k true=true)->dF l k i=true->(i<l.length/\listed.getD i true=true)
 defers:a.defers=a0.defers
 rel:Inv w
 grow:w0.heap.size<=w.heap.size
 pre:∀k,k<n->listed.getD k true=false->Pre k w
 posts:∀j,j<n->listed.getD j true=true->Ps j (vs j) w
 set:∀(j:Nat) (o:Oper) (d:Nat),l[j]? =some o->listed.getD j true=true->o.dst=some d->a.tmps[d]? =(a0.tmps[d]?).map fun _=>vs j
 rest:∀t:Nat,(∀(j:Nat) (o:Oper),l[j]? =some o->listed.getD j true=true->o.dst≠some t)->a.tmps[t]? =a0.tmps[t]?
def kB(P:Program)(F:(Nat->Value)->Act)(Inv:World->Prop)(Pre:Nat->World->Prop)(St:Nat->World->World->Prop)(Ps:Nat->Value->World->Prop)(nw:Nat->Bool):Nat->List Oper->Prop
 |_,[]=>True
 |k,o::l=>(∀vs w,Inv w->Pre k w->(∀j,eF o j=true->Ps j (vs j) w)->(∀i j,nw i=true->nw j=true->eF o i=true->eF o j=true->i≠j->gd (vs i)≠gd (vs j))->dU P (F vs).eval o w (fun v w'=>Ps k v w'/\St k w w'/\(nw k=true->jY w w' v)))/\kB P F Inv Pre St Ps nw (k+1) l
theorem ro{F:(Nat->Value)->Act}:∀{l:List Oper} {k:Nat} (j:Nat) (o:Oper),kB P F Inv Pre St Ps nw k l->l[j]? =some o->∀vs w,Inv w->Pre (k+j) w->(∀i,eF o i=true->Ps i (vs i) w)->(∀i j,nw i=true->nw j=true->eF o i=true->eF o j=true->i≠j->gd (vs i)≠gd (vs j))->dU P (F vs).eval o w (fun v w'=>Ps (k+j) v w'/\St (k+j) w w'/\(nw (k+j)=true->jY w w' v))
 |[],_,_,_,_,h=>by cases h
 |o'::l,k,0,o,ha,h=>by
  obtain rfl:o'=o:=bf h;exact ha.1
 |o'::l,k,j+1,o,ha,h=>by
  have:=ro (k:=k+1) j o ha.2 h;rwa [show k+1+j=k+(j+1) by omega] at this
def mx(P:Program)(wd:Nat->Bool)(F:(Nat->Value)->Act)(w0:World)(d:Nat)(R R1:World->World->Prop)(Ps:Nat->Value->World->Prop)(nw:Nat->Bool):Nat->List Oper->Prop
 |_,[]=>True
 |k,o::l=>(∀vs w,R w0 w->((k==d||wd k)=true->R1 w0 w)->(∀j,eF o j=true->Ps j (vs j) w)->(∀i j,nw i=true->nw j=true->eF o i=true->eF o j=true->i≠j->gd (vs i)≠gd (vs j))->dU P (F vs).eval o w (fun v w'=>Ps k v w'/\(bif k==d then R w w' else R1 w w')/\(nw k=true->jY w w' v)))/\mx P wd F w0 d R R1 Ps nw (k+1) l
theorem pa{a:Nat->Bool}{F:(Nat->Value)->Act}{w0:World}:∀{l:List Oper} {k:Nat},mx P a F w0 d R R1 Ps nw k l->kB P F (R w0) (fun k w=>(k==d||a k)=true->R1 w0 w) (fun k w w'=>bif k==d then R w w' else R1 w w') Ps nw k l
 |[],_,_=>trivial
 |_::_,_,h=>⟨h.1,pa h.2⟩
def yN(n:Nat)(listed:Array Bool):List Nat:=(List.range n).filter fun j=> !listed.getD j true
theorem gv{a:Array Bool}{i j:Nat}(b:i<a.size):(a.setIfInBounds i true).getD j true=(decide (i=j)||a.getD j true):=by
 by_cases e:i=j
 ·subst e;rw [aB rfl,kJ];simp [cE,b]
 ·rw [ar e,ga];exact getD_set_ne true e
theorem C9{n i:Nat}{a:Array Bool}(b:i<a.size)(h:i∈yN n a):(yN n (a.setIfInBounds i true)).length+1=(yN n a).length:=by
 have e:yN n (a.setIfInBounds i true)=(yN n a).filter (fun j=>j !=i):=by
  unfold yN;rw [List.filter_filter];congr 1
  funext j;rw [gv b];by_cases e:i=j
  ·simp [e]
  ·simp [e,Ne.symm e]
 have c:(yN n a).Nodup:=lV _ List.nodup_range;rw [e,<-c.erase_eq_filter,List.length_erase_of_mem h];have:=List.length_pos_of_mem h;omega
def tB(W1:Nat->(Act->World->Prop)->Act->World->Prop)(md:Region.Mode)(ops:Array Oper)(Q:Exit->Act->World->Prop):Nat->Array Bool->Act->World->Prop
 |0,listed,a,w=>Region.ready md ops listed=[]/\Q .normal a w
 |fuel+1,listed,a,w=>
  (Region.ready md ops listed=[]->Q .normal a w)/\
  ∀i∈Region.ready md ops listed,W1 i (tB W1 md ops Q fuel (listed.setIfInBounds i true)) a w
theorem yu{c:Array Oper}{md:Region.Mode}{Q:Exit->Act->World->Prop}:∀(f:Nat) (b:Array Bool) (a:Act) (w:World),tB (wpOp P c Q) md c Q f b a w->wpAny P md c Q f b a w
 |0,_,_,_,h=>h
 |f+1,_,_,_,h=>⟨h.1,fun i e=>wpOp_mono (fun a w h=>yu f _ a w h) (h.2 i e)⟩
theorem xv{c:Array Oper}{md:Region.Mode}{Q:Exit->Act->World->Prop}:∀(f:Nat) (b:Array Bool) (a:Act) (w:World),wpAny P md c Q f b a w->tB (wpOp P c Q) md c Q f b a w
 |0,_,_,_,h=>h
 |f+1,_,_,_,h=>⟨h.1,fun i e=>wpOp_mono (fun a w h=>xv f _ a w h) (h.2 i e)⟩
theorem zk{W1:Nat->(Act->World->Prop)->Act->World->Prop}{l:List Oper}{s:Act}{w0:World}{Q:Exit->Act->World->Prop}(C:oa l)(aq:∀i K K' a w,(∀a w,K a w->K' a w)->W1 i K a w->W1 i K' a w)(a4:∀i o a w aj,l[i]? =some o->dU P a.eval o w aj->W1 i (fun a' w'=>∃v,a'=a.put o.dst v/\aj v w') a w)(hn:n<=l.length)(bc:ru l n)
  (hz:∀k w w',St k w w'->w.heap.size<=w'.heap.size) (ay:∀k w w',Inv w->Pre k w->St k w w'->Inv w') (aH:∀j k w w',j≠k->dF l k j=false->Inv w->Pre j w->Pre k w->St k w w'->Pre j w') (bb:∀j k v w w',j≠k->Pre k w->Ps j v w->St k w w'->Ps j v w')
  (aF:kB P (fun vs=>{s with tmps:=df vs 0 (l.take n) s.tmps}) Inv Pre St Ps nw 0 (l.take n)) (av:∀vs w,Inv w->(∀j,j<n->Ps j (vs j) w)->(∀j,nw j=true->j<n->jY w0 w (vs j))->(∀i j,nw i=true->nw j=true->i<n->j<n->i≠j->gd (vs i)≠gd (vs j))->tB W1 .any l.toArray Q (l.length-n) (jd l.length n) {s with tmps:=df vs 0 (l.take n) s.tmps} w):
  ∀(f:Nat) (b:Array Bool) (vs:Nat->Value) (a:Act) (w:World),(yN n b).length=f->CU l n s w0 Inv Pre Ps nw vs b a w->tB W1 .any l.toArray Q (f+(l.length-n)) b a w:=by
 have N:∀j:Nat,l.toArray[j]? =l[j]? :=fun j=>by simp
 have U:∀(j:Nat) (o:Oper),(l.take n)[j]? =some o↔j<n/\l[j]? =some o:=fun j o=>by
  rw [eo];by_cases h:j<n
  ·rw [aG h];exact ⟨fun r=>⟨h,r⟩,fun r=>r.2⟩
  ·rw [aE h];exact ⟨fun r=>(by cases r),fun r=>absurd r.1 h⟩
 have M:∀(vs:Nat->Value) (j:Nat) (o:Oper) (d:Nat),j<n->l[j]? =some o->o.dst=some d->(df vs 0 (l.take n) s.tmps)[d]? =(s.tmps[d]?).map fun _=>vs j:=fun vs j o d q F E=>by
  rw [jn (l.take n) 0 j _ o ((U j o).2 ⟨q,F⟩) E (fun i o' H e=>C.once i o' j o d ((U i o').1 H).2 F E e),br]
 have ai:∀(vs:Nat->Value) (t:Nat),(¬∃(j:Nat) (o:Oper),j<n/\l[j]? =some o/\o.dst=some t)->(df vs 0 (l.take n) s.tmps)[t]? =s.tmps[t]? :=fun vs t h=>
  fO (l.take n) 0 _ (fun o F e=>h (let ⟨j,q⟩:=bw.1 F;⟨j,o,((U j o).1 q).1,((U j o).1 q).2,e⟩))
 have T:∀{b:Array Bool} {vs:Nat->Value} {a:Act} {w:World},CU l n s w0 Inv Pre Ps nw vs b a w->∀j,j<l.length->b.getD j true=true->j<n:=fun c j q u=>by
  rcases aY j n with h|h
  ·exact h
  ·rw [c.tail j h q] at u;cases u
 have aw:∀(b:Array Bool) (vs:Nat->Value) (a:Act) (w:World),CU l n s w0 Inv Pre Ps nw vs b a w->(∀j,j<n->b.getD j true=true)->tB W1 .any l.toArray Q (0+(l.length-n)) b a w:=by
  intro b vs a w c B;have a5:a={s with tmps:=df vs 0 (l.take n) s.tmps}:=by
   obtain ⟨t,d⟩:=a;have V:d=s.defers:=c.defers;subst V;have r:t=df vs 0 (l.take n) s.tmps:=by
    refine ni (fun x=> ?_);by_cases hx:∃(j:Nat) (o:Oper),j<n/\l[j]? =some o/\o.dst=some x
    ·obtain ⟨j,o,q,F,E⟩:=hx;rw [M vs j o x q F E];exact c.set j o x F (B j q) E
    ·rw [ai vs x hx];exact c.rest x (fun j o F u e=>hx ⟨j,o,T c j (al.1 F).1 u,F,e⟩)
   rw [r]
  have hm:b=jd l.length n:=by
   refine ni (fun j=> ?_);unfold jd;show b[j]? =(((List.range l.length).map fun j=>decide (j<n)).toArray)[j]?
   rw [show (((List.range l.length).map fun j=>decide (j<n)).toArray)[j]? =((List.range l.length).map fun j=>decide (j<n))[j]? by simp,aR];rcases aY j l.length with q|q
   ·rw [fz q];have hs:j<b.size:=by rw [c.size];exact q
    have e:b.getD j true=decide (j<n):=by
     rcases aY j n with h|h
     ·rw [B j h,aB h]
     ·rw [c.tail j h q,ar (by omega)]
    rw [cE,di hs] at e;rw [di hs];exact congrArg some e
   ·rw [iv (by rw [c.size];exact q),cL (by simpa using q)];rfl
  rw [br,hm,a5];exact av vs w c.rel (fun j q=>c.posts j q (B j q)) (fun j hn q=>c.news j hn q (B j q)) (fun i j H q I z O=>c.diff i j H q I z (B i I) (B j z) O)
 have an:∀(b:Array Bool) (vs:Nat->Value) (a:Act) (w:World) (i:Nat),CU l n s w0 Inv Pre Ps nw vs b a w->i<n->i∈Region.ready .any l.toArray b->
   W1 i (fun a' w'=>∃ap,CU l n s w0 Inv Pre Ps nw ap (b.setIfInBounds i true) a' w') a w:=by
  intro b vs a w i c S H;obtain ⟨V,o,r,h3⟩:=mem_ready.1 H;rw [N] at r;have I:i<l.length:=(al.1 r).1;have J:i<b.size:=by rw [c.size];exact I
  have A:∀j,eF o j=true->j<n/\b.getD j true=true:=fun j q=>by
   unfold eF at q;obtain ⟨e,he,G⟩:=nj.1 q;rw [au,dz] at G;obtain ⟨G,rfl⟩:=G;have h4:=C.back i o r e he G;have h5:=h3 e he G;have h6:e.on<b.size:=by rw [c.size];omega
   refine ⟨by omega,?_⟩;rw [cE,di h6] at h5 ⊢;exact h5
  have W:execOp a.eval o=execOp ({s with tmps:=df vs 0 (l.take n) s.tmps}:Act).eval o:=by
   refine execOp_congr o (C.sel i o r) (fun x hx=> ?_)
   cases x with
   |tmp t=>
    have e:a.tmps[t]? =(df vs 0 (l.take n) s.tmps)[t]? :=by
     by_cases ao:∃(j:Nat) (p:Oper),j<n/\l[j]? =some p/\p.dst=some t
     ·obtain ⟨j,p,X,hp,E⟩:=ao;rw [M vs j p t X hp E];exact c.set j p t hp (A j (C.reads i o j p t r hp E hx)).2 E
     ·rw [ai vs t ao];exact c.rest t (fun j p hp u e=>ao ⟨j,p,T c j (al.1 hp).1 u,hp,e⟩)
    simp only [Act.eval,cE,e]
   |_=>rfl
  have ad:=c.pre i S V;have hp:=ro i o aF ((U i o).2 ⟨S,r⟩) vs w c.rel (by rw [br];exact ad) (fun j q=>c.posts j (A j q).1 (A j q).2) (fun i j H q aL aM O=>c.diff i j H q (A i aL).1 (A j aM).1 (A i aL).2 (A j aM).2 O);rw [br] at hp;have a8:dU P a.eval o w (fun v w'=>Ps i v w'/\St i w w'/\(nw i=true->jY w w' v)):=by unfold dU at*;rw [W];exact hp
  refine aq _ _ _ _ _ ?_ (a4 i o a w _ r a8);rintro a' w' ⟨v,rfl,hv,af,am⟩;have a3:=ay i w w' c.rel ad af;have be:=hz _ _ _ af;have bd:=c.grow;refine ⟨fun j=>if j=i then v else vs j,?_⟩;have D:∀j,(b.setIfInBounds i true).getD j true=true->j=i\/b.getD j true=true:=fun j q=>by
   rw [gv J,b8,aC] at q;exact q.imp Eq.symm id
  refine ⟨fun j hn q u=> ?_,fun x y hx hy aP aX aN aT aQ=> ?_,by rw [Array.size_setIfInBounds];exact c.size,fun j q z=> ?_,fun k m Y hw=> ?_,?_,a3,aZ bd be,fun k Y u=> ?_,fun j q u=> ?_,fun j p d ak u E=> ?_,fun t ht=> ?_⟩
  ·by_cases e:j=i
   ·subst e;rw [aG rfl];obtain ⟨g,g1,g2,g3⟩:=am hn;exact ⟨g,g1,by omega,g3⟩
   ·rw [aE e];obtain ⟨g,g1,g2,g3⟩:=c.news j hn q ((D j u).resolve_left e);exact ⟨g,g1,g2,by omega⟩
  ·by_cases ex:x=i
   ·have ey:y≠i:=fun e=>aQ (by rw [ex,e])
    rw [aG ex,aE ey];obtain ⟨g,g1,g2,g3⟩:=c.news y hy aX ((D y aT).resolve_left ey);obtain ⟨k,k1,k2,k3⟩:=am (by rw [<-ex];exact hx);rw [g1,k1];intro e;have:=bf e;omega
   ·rw [aE ex];by_cases ey:y=i
    ·rw [aG ey];obtain ⟨g,g1,g2,g3⟩:=c.news x hx aP ((D x aN).resolve_left ex);obtain ⟨k,k1,k2,k3⟩:=am (by rw [<-ey];exact hy);rw [g1,k1];intro e;have:=bf e;omega
    ·rw [aE ey];exact c.diff x y hx hy aP aX ((D x aN).resolve_left ex) ((D y aT).resolve_left ey) aQ
  ·rw [gv J,ar (by omega),ga];exact c.tail j q z
  ·have ah:m<l.length/\b.getD m true=true:=by
    rcases D k Y.2 with e|e
    ·subst e;unfold dF at hw;rw [r] at hw;exact ⟨by have:=(A m hw).1;omega,(A m hw).2⟩
    ·exact c.shut k m ⟨Y.1,e⟩ hw
   exact ⟨ah.1,by rw [gv J,ah.2,ew]⟩
  ·rw [<-c.defers];unfold Act.put;cases o.dst<;>rfl
  ·rw [gv J,fo,az] at u;refine aH k i w w' (fun e=>u.1 e.symm) ?_ c.rel (c.pre k Y u.2) ad af
   cases hw:dF l i k with
   |false=>rfl
   |true=>
    unfold dF at hw;rw [r] at hw;have:=(A k hw).2;rw [u.2] at this
    cases this
  ·by_cases e:j=i
   ·subst e;rw [aG rfl];exact hv
   ·rw [aE e];have a9:=c.posts j q ((D j u).resolve_left e);exact bb j i _ _ _ e ad a9 af
  ·by_cases e:j=i
   ·subst e;obtain rfl:o=p:=bf (r.symm.trans ak);rw [aG rfl];have hs:(a.put o.dst v).tmps=a.tmps.setIfInBounds d v:=by unfold Act.put;rw [E]
    have ha:(a.tmps[d]?).isSome=(s.tmps[d]?).isSome:=by
     have h7:=c.rest d (fun i' o' hi' aD e=>by
      have:=C.once i' o' j o d hi' r E e;subst this;rw [V] at aD;cases aD)
     rw [h7]
    rw [hs,jc,aG rfl];by_cases L:d<a.tmps.size
    ·rw [aG L];rw [di L] at ha
     cases h8:s.tmps[d]? with
     |none=>rw [h8] at ha;cases ha
     |some x=>rfl
    ·rw [aE L];rw [iv (Nat.le_of_not_lt L)] at ha
     cases h8:s.tmps[d]? with
     |none=>rfl
     |some x=>rw [h8] at ha;cases ha
   ·rw [aE e,<-c.set j p d ak ((D j u).resolve_left e) E];unfold Act.put
    cases F:o.dst with
    |none=>rfl
    |some d'=>exact eh (fun e'=>e (C.once i o j p d r ak E (by rw [F,e'])).symm)
  ·rw [<-c.rest t (fun j p hp u=>ht j p hp (by rw [gv J,u,ew]))];have h9:=ht i o r (by rw [gv J,aB rfl,kJ]);unfold Act.put
   cases F:o.dst with
   |none=>rfl
   |some d'=>exact eh (fun e'=>h9 (by rw [F,e']))
 have Z:∀(b:Array Bool),b.size=l.length->∀j,j<n->b.getD j true=false->∃i,i<n/\i∈Region.ready .any l.toArray b:=by
  intro b L j
  induction j using Nat.strongRecOn with
  |_ j ih=>
   intro q u;have z:j<l.length:=by omega
   by_cases W:∃i,i<j/\b.getD i true=false
   ·obtain ⟨i,O,H⟩:=W;exact ih i O (by omega) H
   ·refine ⟨j,q,mem_ready.2 ⟨u,l[j],by rw [N];exact aK z,fun e he G=> ?_⟩⟩;have V:=C.back j l[j] (aK z) e he G
    cases r:b.getD e.on true with
    |false=>exact absurd ⟨e.on,V,r⟩ W
    |true=>
     have h3:e.on<b.size:=by rw [L];omega
     rw [cE,di h3] at r ⊢;exact r
 intro f
 induction f with
 |zero=>
  intro b vs a w hf c;refine aw b vs a w c (fun j q=> ?_)
  cases u:b.getD j true with
  |true=>rfl
  |false=>
   have:j∈yN n b:=ja.2 ⟨bv.2 q,by rw [u];rfl⟩;rw [List.length_eq_zero_iff.1 hf] at this
   cases this
 |succ f ih=>
  intro b vs a w hf c;obtain ⟨j,q⟩:=List.exists_mem_of_length_pos (show 0<(yN n b).length by omega);obtain ⟨a6,a7⟩:=ja.1 q;have X:=bv.1 a6;have z:b.getD j true=false:=by simpa using a7
  obtain ⟨i0,bg,ax⟩:=Z b c.size j X z;rw [show f+1+(l.length-n)=(f+(l.length-n))+1 by omega];refine ⟨fun h0=>(by rw [h0] at ax;cases ax),fun i H=> ?_⟩;have S:i<n:=by
   rcases aY i n with h|h
   ·exact h
   ·obtain ⟨V,o,r,h3⟩:=mem_ready.1 H;rw [N] at r;have I:i<l.length:=(al.1 r).1;have h7:=bc (fun m=>m<l.length/\b.getD m true=true) i h I (fun k m=>c.shut k m) (fun k Y=>by
     unfold dF at Y;rw [r] at Y;unfold eF at Y;obtain ⟨e,he,G⟩:=nj.1 Y;rw [au,dz] at G;obtain ⟨G,rfl⟩:=G;have h8:=C.back i o r e he G;have h9:=h3 e he G;have a2:e.on<b.size:=by rw [c.size];omega
     refine ⟨by omega,?_⟩;rw [cE,di a2] at h9 ⊢;exact h9) j X
    rw [z] at h7
    cases h7.2
  refine aq _ _ _ _ _ ?_ (an b vs a w i c S H);rintro a' w' ⟨ap,a1⟩;obtain ⟨V,_⟩:=mem_ready.1 H;have r:i<b.size:=by rw [c.size];omega
  have h3:i∈yN n b:=ja.2 ⟨bv.2 S,by rw [V];rfl⟩;exact ih _ ap a' w' (by have:=C9 r h3;omega) a1
theorem pu{W1:Nat->(Act->World->Prop)->Act->World->Prop}{l:List Oper}{g:Act}{w0:World}{Q:Exit->Act->World->Prop}(x:oa l)(s:∀i K A a w,(∀a w,K a w->A a w)->W1 i K a w->W1 i A a w)(u:∀i o a w f,l[i]? =some o->dU P a.eval o w f->W1 i (fun C w'=>∃v,C=a.put o.dst v/\f v w') a w)(F:n<=l.length)(z:ru l n)
  (I:∀k w w',St k w w'->w.heap.size<=w'.heap.size) (m:∀k w w',Inv w->Pre k w->St k w w'->Inv w') (q:∀j k w w',j≠k->dF l k j=false->Inv w->Pre j w->Pre k w->St k w w'->Pre j w') (y:∀j k v w w',j≠k->Pre k w->Ps j v w->St k w w'->Ps j v w')
  (p:kB P (fun vs=>{g with tmps:=df vs 0 (l.take n) g.tmps}) Inv Pre St Ps nw 0 (l.take n)) (h:∀vs w,Inv w->(∀j,j<n->Ps j (vs j) w)->(∀j,nw j=true->j<n->jY w0 w (vs j))->(∀i j,nw i=true->nw j=true->i<n->j<n->i≠j->gd (vs i)≠gd (vs j))->tB W1 .any l.toArray Q (l.length-n) (jd l.length n) {g with tmps:=df vs 0 (l.take n) g.tmps} w)
  (D:Inv w0) (r:∀k,Pre k w0):tB W1 .any l.toArray Q l.toArray.size (Array.replicate l.toArray.size false) g w0:=by
 have b:∀j,(Array.replicate l.toArray.size false).getD j true=true->¬j<l.length:=fun j c e=>by
  have E:(Array.replicate l.toArray.size false).getD j true=false:=getD_in (by simpa using e) (getD_replicate_false _ _);rw [E] at c;cases c
 have H:(yN n (Array.replicate l.toArray.size false)).length=n:=by
  unfold yN;rw [mF.2 (fun j e=> ?_),oo];have:=bv.1 e
  cases c:(Array.replicate l.toArray.size false).getD j true with
  |false=>rfl
  |true=>exact absurd (show j<l.length by omega) (b j c)
 have G:l.toArray.size=n+(l.length-n):=by simp;omega
 have:=zk (W1:=W1) x s u F z I m q y p h n (Array.replicate l.toArray.size false) (fun _=>undef) g w0 H ⟨fun j _ e c=>absurd (show j<l.length by omega) (b j c),fun i j _ _ J _ c _ _=>absurd (show i<l.length by omega) (b i c),by simp,fun j _ e=> ?_,fun k i B=>absurd B.1 (b k B.2),rfl,D,ak _,fun k _ _=>r k,fun j e c=>absurd (show j<l.length by omega) (b j c),fun j o d e c _=>absurd (al.1 e).1 (b j c),fun t _=>rfl⟩
 ·rwa [<-G] at this
 ·cases c:(Array.replicate l.toArray.size false).getD j true with
  |false=>rfl
  |true=>exact absurd e (b j c)
theorem mJ{D:Nat}{Q:Exit->Act->World->Prop}{a:Act}{w:World}{l:List Oper}(n:Nat)(Inv:World->Prop)(Pre:Nat->World->Prop)(St:Nat->World->World->Prop)(Ps:Nat->Value->World->Prop)(nw:Nat->Bool)(A:P.follows .mixedOrders=true)(z:iX l=true)(q:gN l=true)
  (B:n<=l.length) (s:ru l n) (t:Region.seqB .any l.toArray (l.length-n) n (jd l.length n)=true)
  (C:∀k w w',St k w w'->w.heap.size<=w'.heap.size) (e:∀k w w',Inv w->Pre k w->St k w w'->Inv w') (m:∀j k w w',j≠k->dF l k j=false->Inv w->Pre j w->Pre k w->St k w w'->Pre j w') (r:∀j k v w w',j≠k->Pre k w->Ps j v w->St k w w'->Ps j v w') (y:Inv w.drew) (p:∀k,Pre k w.drew)
  (h:∀F:(Nat->Value)->Act,(F=fun vs=>{a with tmps:=df vs 0 (l.take n) a.tmps})->kB P F Inv Pre St Ps nw 0 (l.take n)/\∀vs w',Inv w'->(∀j,j<n->Ps j (vs j) w')->(∀j,nw j=true->j<n->jY w.drew w' (vs j))->(∀i j,nw i=true->nw j=true->i<n->j<n->i≠j->gd (vs i)≠gd (vs j))->wpList P l.toArray Q (l.drop n) (F vs) w'):
  (Code.region D l.toArray true).wp P Q a w:=by
 obtain ⟨g,c⟩:=h _ rfl;have f:=jr z q;have b:(l.drop n).length=l.length-n:=by simp
 refine wp_region_any A (yu _ _ _ _ (pu (W1:=wpOp P l.toArray Q) f (fun i K J a w h q=>wpOp_mono h q) (fun i o a w x u hp=>by
  unfold wpOp;simp only [show l.toArray[i]? =some o by simpa using u];rw [aG (by unfold Region.wanted;rw [f.guard i o u])];exact .inl hp.wp) B s C e m r g (fun vs w' E G H I=> ?_) y p))
 refine xv _ _ _ _ ?_;rw [<-b];exact wpAny_of_seq (l.drop n) n _ _ w' (fun j=>by simp [fR]) (by rw [b];exact t) (c vs w' E G H I)
section
variable(h1r:∀w w',R1 w w'->R w w')(htr1:∀w1 w2 w3,R1 w1 w2->R1 w2 w3->R1 w1 w3)(htrA:∀w1 w2 w3,R w1 w2->R1 w2 w3->R w1 w3)(htrB:∀w1 w2 w3,R1 w1 w2->R w2 w3->R w1 w3)
include htrA htrB in
theorem FL{w0:World}{wd:Nat->Bool}:∀k w w',R w0 w->((k==d||wd k)=true->R1 w0 w)->(bif k==d then R w w' else R1 w w')->R w0 w':=fun k w w' q1 q2 q3=>by
 cases hk:k==d with
 |true=>rw [hk] at q2 q3;exact htrB _ _ _ (q2 rfl) q3
 |false=>rw [hk] at q3;exact htrA _ _ _ q1 q3
include htr1 in
theorem FH{w0:World}{l:List Oper}:∀j k w w',j≠k->dF l k j=false->R w0 w->((j==d||dF l d j)=true->R1 w0 w)->((k==d||dF l d k)=true->R1 w0 w)->(bif k==d then R w w' else R1 w w')->((j==d||dF l d j)=true->R1 w0 w'):=fun j k w w' q1 q2 _ q4 _ q6 e=>by
 cases hk:k==d with
 |true=>
  have:=dz.1 hk;subst this;rw [b8,dz,q2] at e;rcases e with e|e
  ·exact absurd e q1
  ·cases e
 |false=>rw [hk] at q6;exact htr1 _ _ _ (q4 e) q6
end
theorem GD{w0:World}{h:Nat->Bool}(a:∀j v w w',Ps j v w->R1 w w'->Ps j v w')(c:∀j v w w',j≠d->Ps j v w->R w w'->Ps j v w'):∀j k v w w',j≠k->((k==d||h k)=true->R1 w0 w)->Ps j v w->(bif k==d then R w w' else R1 w w')->Ps j v w':=fun j k v w w' g _ f b=>by
 cases hk:k==d with
 |true=>rw [hk] at b;exact c j v w w' (fun e=>g (e.trans (dz.1 hk).symm)) f b
 |false=>rw [hk] at b;exact a j v w w' f b
theorem GC(a:∀w w',R1 w w'->R w w')(b:∀w w',R w w'->w.heap.size<=w'.heap.size):∀k w w',(bif k==d then R w w' else R1 w w')->w.heap.size<=w'.heap.size:=fun k w w' q=>by
 cases hk:k==d with
 |true=>rw [hk] at q;exact b _ _ q
 |false=>rw [hk] at q;exact b _ _ (a _ _ q)
theorem mK{y:Nat}{Q:Exit->Act->World->Prop}{a:Act}{w:World}{l:List Oper}(n d:Nat)(R R1:World->World->Prop)(Ps:Nat->Value->World->Prop)(nw:Nat->Bool)(t:P.follows .mixedOrders=true)(r:iX l=true)(s:gN l=true)
  (u:n<=l.length) (m:ru l n) (o:Region.seqB .any l.toArray (l.length-n) n (jd l.length n)=true)
  (c:∀w,R1 w w) (b:∀w w',R1 w w'->R w w') (f:∀w1 w2 w3,R1 w1 w2->R1 w2 w3->R1 w1 w3) (g:∀w1 w2 w3,R w1 w2->R1 w2 w3->R w1 w3) (k:∀w1 w2 w3,R1 w1 w2->R w2 w3->R w1 w3) (e:∀j v w w',Ps j v w->R1 w w'->Ps j v w') (p:∀j v w w',j≠d->Ps j v w->R w w'->Ps j v w') (x:∀w w',R w w'->w.heap.size<=w'.heap.size)
  (h:∀F:(Nat->Value)->Act,(F=fun vs=>{a with tmps:=df vs 0 (l.take n) a.tmps})->mx P (dF l d) F w.drew d R R1 Ps nw 0 (l.take n)/\∀vs w',R w.drew w'->(∀j,j<n->Ps j (vs j) w')->(∀j,nw j=true->j<n->jY w.drew w' (vs j))->(∀i j,nw i=true->nw j=true->i<n->j<n->i≠j->gd (vs i)≠gd (vs j))->wpList P l.toArray Q (l.drop n) (F vs) w'):
  (Code.region y l.toArray true).wp P Q a w:=
 mJ n (R w.drew) _ _ Ps nw t r s u m o (GC b x) (FL g k) (FH f) (GD e p) (b _ _ (c _)) (fun _ _=>c _) (fun F q=>⟨pa (h F q).1,(h F q).2⟩)
theorem A0{l:List Oper}{n:Nat}(a:(decide (n<=l.length)&&xF l n&&Region.seqB .any l.toArray (l.length-n) n (jd l.length n))=true):n<=l.length/\ru l n/\Region.seqB .any l.toArray (l.length-n) n (jd l.length n)=true:=by
 rw [au,au,aC] at a;exact ⟨a.1.1,tY a.1.2,a.2⟩
def tE(P:Program)(F:(Nat->Value)->Act)(w0:World)(R:World->World->Prop)(Ps:Nat->Value->World->Prop)(nw:Nat->Bool):Nat->List Oper->Prop
 |_,[]=>True
 |k,o::l=>(∀vs w,R w0 w->(∀j,eF o j=true->Ps j (vs j) w)->(∀i j,nw i=true->nw j=true->eF o i=true->eF o j=true->i≠j->gd (vs i)≠gd (vs j))->dU P (F vs).eval o w (fun v w'=>Ps k v w'/\R w w'/\(nw k=true->jY w w' v)))/\tE P F w0 R Ps nw (k+1) l
theorem vh{e:Nat->Bool}{F:(Nat->Value)->Act}{w0:World}:∀{l:List Oper} {k:Nat} (d:Nat),tE P F w0 R Ps nw k l->mx P e F w0 d R R Ps nw k l
 |[],_,_,_=>trivial
 |o::l,k,d,h=>⟨fun vs w a _ b c=>by
   have:=h.1 vs w a b c
   cases (k==d)<;>exact this,vh d h.2⟩
theorem sQ{t:Nat}{Q:Exit->Act->World->Prop}{a:Act}{w:World}{l:List Oper}(n:Nat)(R:World->World->Prop)(Ps:Nat->Value->World->Prop)(nw:Nat->Bool)(q:P.follows .mixedOrders=true)(m:iX l=true)(o:gN l=true)
  (p:(decide (n<=l.length)&&xF l n&&Region.seqB .any l.toArray (l.length-n) n (jd l.length n))=true)
  (e:∀w,R w w) (b:∀w1 w2 w3,R w1 w2->R w2 w3->R w1 w3) (c:∀j v w w',Ps j v w->R w w'->Ps j v w') (s:∀w w',R w w'->w.heap.size<=w'.heap.size)
  (h:∀F:(Nat->Value)->Act,(F=fun vs=>{a with tmps:=df vs 0 (l.take n) a.tmps})->tE P F w.drew R Ps nw 0 (l.take n)/\∀vs w',R w.drew w'->(∀j,j<n->Ps j (vs j) w')->(∀j,nw j=true->j<n->jY w.drew w' (vs j))->(∀i j,nw i=true->nw j=true->i<n->j<n->i≠j->gd (vs i)≠gd (vs j))->wpList P l.toArray Q (l.drop n) (F vs) w'):
  (Code.region t l.toArray true).wp P Q a w:=
 let ⟨r,f,g⟩:=A0 p
 mK n n R R Ps nw q m o r f g e (fun _ _ h=>h) b b b c (fun j v w w' _=>c j v w w') s (fun F k=>⟨vh n (h F k).1,(h F k).2⟩)
def tU(R:World->World->Prop):List (Value->World->Prop)->Prop
 |[]=>True
 |p::l=>(∀v w w',p v w->R w w'->p v w')/\tU R l
def qz(ps:List (Value->World->Prop))(j:Nat):Value->World->Prop:=ps.getD j (fun _ _=>True)
theorem qi{R:World->World->Prop}:∀{ps:List (Value->World->Prop)} (j:Nat),tU R ps->∀v w w',qz ps j v w->R w w'->qz ps j v w'
 |[],_,_,_,_,_,_,_=>trivial
 |_::_,0,h,v,w,w',hp,hr=>h.1 v w w' hp hr
 |_::_,j+1,h,v,w,w',hp,hr=>qi (R:=R) j h.2 v w w' hp hr
def CO(vs:Nat->Value)(w:World):Nat->List (Value->World->Prop)->Prop
 |_,[]=>True
 |k,p::l=>p (vs k) w/\CO vs w (k+1) l
theorem tD{vs:Nat->Value}{w:World}:∀(ps:List (Value->World->Prop)) (k:Nat),(∀j,j<ps.length->qz ps j (vs (k+j)) w)->CO vs w k ps
 |[],_,_=>trivial
 |p::l,k,h=>⟨h 0 (ke _),tD l (k+1) (fun j a=>by
   have:=h (j+1) (Nat.succ_lt_succ a);rw [show k+(j+1)=k+1+j by omega] at this;exact this)⟩
theorem jP{s:Nat}{Q:Exit->Act->World->Prop}{a:Act}{w:World}{l:List Oper}(n:Nat)(R:World->World->Prop)(ps:List (Value->World->Prop))(nw:Nat->Bool)(p:P.follows .mixedOrders=true)(f:iX l=true)(g:gN l=true)
  (k:(decide (n<=l.length)&&xF l n&&Region.seqB .any l.toArray (l.length-n) n (jd l.length n))=true) (x:ps.length=n)
  (b:∀w,R w w) (e:∀w1 w2 w3,R w1 w2->R w2 w3->R w1 w3) (r:∀w w',R w w'->w.heap.size<=w'.heap.size) (c:tU R ps)
  (h:∀F:(Nat->Value)->Act,(F=fun vs=>{a with tmps:=df vs 0 (l.take n) a.tmps})->tE P F w.drew R (qz ps) nw 0 (l.take n)/\∀vs w',R w.drew w'->CO vs w' 0 ps->(∀i j,nw i=true->nw j=true->i<n->j<n->i≠j->gd (vs i)≠gd (vs j))->wpList P l.toArray Q (l.drop n) (F vs) w'):
  (Code.region s l.toArray true).wp P Q a w:=by
 refine sQ n R (qz ps) nw p f g k b e (fun j=>qi j c) r (fun F m=> ?_);obtain ⟨t,u⟩:=h F m;refine ⟨t,fun vs w' q hp _ o=>u vs w' q (tD ps 0 (fun j v=> ?_)) o⟩;rw [br];exact hp j (by omega)
def xE(R:World->World->Prop)(d:Nat):Nat->List (Value->World->Prop)->Prop
 |_,[]=>True
 |k,p::l=>((k==d)=true\/∀v w w',p v w->R w w'->p v w')/\xE R d (k+1) l
theorem tT{R:World->World->Prop}{d:Nat}:∀{ps:List (Value->World->Prop)} (k j:Nat),xE R d k ps->k+j≠d->∀v w w',qz ps j v w->R w w'->qz ps j v w'
 |[],_,_,_,_,_,_,_,_,_=>trivial
 |_::_,k,0,h,hd,v,w,w',hp,hr=>by
  rcases h.1 with a|a
  ·exact absurd (dz.1 a) hd
  ·exact a v w w' hp hr
 |_::_,k,j+1,h,hd,v,w,w',hp,hr=>tT (R:=R) (d:=d) (k+1) j h.2 (by omega) v w w' hp hr
end
end Go.Proofs.YthahbijbpinneaaGreatDoor
