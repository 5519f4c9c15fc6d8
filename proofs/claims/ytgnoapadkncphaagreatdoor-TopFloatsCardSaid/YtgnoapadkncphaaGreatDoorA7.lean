import Derived.Test.YtgnoapadkncphaaGreatDoorA0
import Derived.Test.YtgnoapadkncphaaGreatDoorA1
import Derived.Test.YtgnoapadkncphaaGreatDoorA3
import Derived.Test.YtgnoapadkncphaaGreatDoorA4
import Derived.Test.YtgnoapadkncphaaGreatDoorA5
import Derived.Test.YtgnoapadkncphaaGreatDoorA6
set_option maxRecDepth 100000
set_option maxHeartbeats 8000000
set_option linter.all false
namespace Go.Proofs.YtgnoapadkncphaaGreatDoor
open Go.RowKit Go.Proofs.Tryz
section
variable{m Pg W Fs Us Hg:Nat}{mp:Nat->Bool}{kb wb g:Nat}{S0:Nat->Prop}{w w1 w0:World}{s:iB}
def I2(m Pg W Fs Us Hg:Nat)(mp:Nat->Bool)(kb wb g:Nat)(S0:Nat->Prop)(w0:World)(s:iB)(w:World):Prop:=
 ∃S,CG m Pg W Fs Us Hg mp kb wb s.M s.f s.n s.top S w/\Fr (fun k=>S0 k\/k=kb\/k=wb\/k=g) w0 w/\∀k,S k->S0 k\/w0.heap.size<=k
theorem I2.step(h:I2 m Pg W Fs Us Hg mp kb wb g S0 w0 s w):∃S,nh m Pg W Fs Us Hg mp kb wb S w s w/\(∀k,S k->S0 k\/w0.heap.size<=k)/\∀s' w',nh m Pg W Fs Us Hg mp kb wb S w s' w'->I2 m Pg W Fs Us Hg mp kb wb g S0 w0 s' w':=by
 obtain ⟨S,c,a,d⟩:=h;have i:=a.size;refine ⟨S,⟨S,c,Kb _ _,fun _ h=> .inl h⟩,d,?_⟩;rintro s' w' ⟨S',e,f,j⟩;refine ⟨S',e,a.trans f (fun k b=> ?_),fun k b=> ?_⟩
 ·grind
 grind
theorem I2.row(h:I2 m Pg W Fs Us Hg mp kb wb g S0 w0 s w)(hg:g<w0.heap.size)(i:¬S0 g)(b:kb≠g)(c:wb≠g)(hf:Fr (fun k=>k=g) w w1):I2 m Pg W Fs Us Hg mp kb wb g S0 w0 s w1:=by
 obtain ⟨S,a,d,f⟩:=h;refine ⟨S,⟨a.Qd.frame hf b,cD _ _ _ _ _ _ _ _ _ _ _ _ a.mem hf (fun k j e=> ?_),a.Qs.frame hf c,a.d1,a.d2,a.d3⟩,d.trans hf (fun k b=> .inl (.inr (.inr (.inr b)))),f⟩
 grind
end
section
variable{m Pg W Fs Us Hg:Nat}{mp:Nat->Bool}{kb wb b g:Nat}{S0:Nat->Prop}{w w0:World}{L sz np:Nat->Nat}{To Li:Nat}{R:Nat->Prop}{ls:List Nat}
def Ft(m Pg W Fs Us Hg:Nat)(mp:Nat->Bool)(kb wb g:Nat)(S0:Nat->Prop)(w0:World)(L sz np:Nat->Nat)(To:Nat)(R:Nat->Prop)(ls rs:List Nat)(w:World):Prop:=
 ∃(ord:List Nat) (s:iB),I2 m Pg W Fs Us Hg mp kb wb g S0 w0 s w/\lh L sz np To ord To s/\(∀x∈ord,R x)/\rs.length<=ls.length/\∀i a,i<rs.length->ls[i]? =some a->(a=0/\rs[i]? =some 0)\/(∃z,s.f a=some z/\rs[i]? =some z)
theorem Ft.more{s s':iB}{rs:List Nat}{a x:Nat}(c:ls[rs.length]? =some a)(d:∀y q,s.f y=some q->s'.f y=some q)(h:∀i a,i<rs.length->ls[i]? =some a->(a=0/\rs[i]? =some 0)\/(∃z,s.f a=some z/\rs[i]? =some z))(e:(a=0/\x=0)\/s'.f a=some x):
  (rs++[x]).length<=ls.length/\∀i a,i<(rs++[x]).length->ls[i]? =some a->(a=0/\(rs++[x])[i]? =some 0)\/(∃z,s'.f a=some z/\(rs++[x])[i]? =some z):=by
 grind
theorem Cc(J:Fl L sz np To Li R)(I:Ie L sz np To Li R (cX W Pg mp))(H:Ft m Pg W Fs Us Hg mp kb wb g S0 w0 L sz np To R ls [] w)(M:cz w b g ls)(u:∀a∈ls,a=0\/R a)(hg:g<w0.heap.size)(Q:b<w0.heap.size)(j:¬S0 g)(l:¬S0 b)(d:kb≠g/\wb≠g/\kb≠b/\wb≠b):
  Calls prog 115 #[b,.func (.func 148) #[kb] #[]] w (G0 (Ft m Pg W Fs Us Hg mp kb wb g S0 w0 L sz np To R ls) b g ls):=by
 refine pr 148 #[kb] #[] (enters_of func148 (by kernel_rfl) rfl) _ M H ?_ ?_ ?_
 ·rintro rs w1 w2 ⟨f,s,o,k,p,x,q⟩ hf;exact ⟨f,s,o.row hg j d.1 d.2.1 hf,k,p,x,q⟩
 ·rintro rs w1 ⟨f,s,o,k,p,x,q⟩ r;obtain ⟨g1,t⟩:=Ft.more (s:=s) (s':=s) (ls:=ls) r (fun _ _ h=>h) q (.inl ⟨rfl,rfl⟩);exact ⟨f,s,o,k,p,g1,t⟩
 ·rintro rs a w1 v ⟨f,s,o,k,p,x,q⟩ r K;obtain ⟨S,c1,c2,B⟩:=o.step;have A:=k.top;refine (GJ J I ⟨c1,k,p⟩ (by omega) a (u a (ar r))).mono ?_;rintro e w2 ⟨z,n,s',rfl,⟨y,C,D⟩,N,E,F⟩;obtain ⟨g1,t⟩:=Ft.more (s:=s) (s':=s') (ls:=ls) r E q F;obtain ⟨S',O,G,P⟩:=id y;refine ⟨z,rfl,v.frame G (fun c=> ?_) (fun c=> ?_),n,s',B s' w2 y,C,D,g1,t⟩
  ·rcases c with c|c|c
   ·rcases c2 _ c with i|i
    ·first|exact l i|exact j i
    ·omega
   ·first|exact d.2.2.1 c.symm|exact d.1 c.symm
   ·first|exact d.2.2.2 c.symm|exact d.2.1 c.symm
  ·rcases c with c|c|c
   ·rcases c2 _ c with i|i
    ·first|exact l i|exact j i
    ·omega
   ·first|exact d.2.2.1 c.symm|exact d.1 c.symm
   ·first|exact d.2.2.2 c.symm|exact d.2.1 c.symm
end
theorem th{w:World}{m Pg W Rm Us Hg:Nat}{S:Nat->Prop}{mp:Nat->Bool}{M:Nat->Nat}(h:dQ w m S Pg W Rm Us Hg mp M)(a u:Nat)(j:u<=a)(k:u<=W):Calls prog 98 #[m,(a:Int),(u:Int)] w fun e w'=>e= .returned (0:Int)/\J7 w w':=by
 obtain ⟨W1,c⟩:∃W1,w.alloc (.cells #[m] 52)=W1:=⟨_,rfl⟩;have b:J7 w W1:=by rw [<-c];exact (Kb _ w).alloc _
 have d:ay W1 w.heap.size [m] 52:=by rw [<-c];exact ay.new w _ _
 have f:=ae (fL (h.Qb b));obtain ⟨p,g,C,B,A,ws,z,r,q,l,n,c2,o⟩:=(h.Qb b).Qr;have x:=d.cell 0 rfl;have i:=ae b;have s:¬(a:Int)<0:=by omega
 have t:¬(W:Int)<(u:Int):=by omega
 have v:(u:Int)<=(a:Int):=by omega
 have y:¬W<u:=by omega
 clear h b d l n o k
 go_enter func98,ntmps98
 go_wp2_with fail
 refine f.out.mono ?_;rintro e w2 ⟨rfl,rfl⟩;clear f;go_wp2;go_ret;exact ⟨rfl,i.out⟩
section
variable{m Pg W Fs Us Hg:Nat}{mp:Nat->Bool}{L:Nat->Nat}{S:Nat->Prop}{w w1:World}
theorem Br(h:dJ m Pg W Fs Us Hg mp L S w)(a u:Nat)(o:u<=W)(t:∀q,a/Pg<=q->q<=(u-1)/Pg->a<u->mp q=true):Calls prog 98 #[m,(a:Int),(u:Int)] w fun e w'=>e= .returned (0:Int)/\∃S' c,dJ m Pg W Fs Us c mp L S' w'/\Fr S w w'/\∀k,S' k->S k\/w.heap.size<=k:=by
 obtain ⟨M,f,r⟩:=h;rcases aN a u with d|d
 ·have n:Qc (fq mp) (a/Pg) ((u-1)/Pg+1)=0:=bP (fun i j v=>by grind [fq]);refine (ot f a u d o (by rw [n];exact f.at.2.2.2.2.1)).mono ?_;rintro e w' ⟨rfl,S',c,g,p,j,v,x,y,z⟩;have s:g=mp:=by
   grind
  rw [n,aP,s] at j;exact ⟨rfl,S',c,⟨p,j,fun b l=>by rw [x b l.1 l.2];grind⟩,y,z⟩
 ·refine (th f a u d o).mono ?_;rintro e w' ⟨rfl,hf⟩;exact ⟨rfl,S,Hg,⟨M,f.Qb hf,r⟩,hf.mono J8,fun _ h=> .inl h⟩
def Ht(EL:bT)(fl fh c5 c15 b g tb k:Nat):Prop:=EL.has k\/(fl<=k/\k<fh)\/k=c5\/k=c15\/k=b\/k=g\/k=ch\/k=tb
def Aw(m Pg W Fs Us Hg:Nat)(mp:Nat->Bool)(L:Nat->Nat)(E np:Nat->Nat)(lo:Nat)(EL:bT)(fl fh p c5 c15 b g tb:Nat)(ls:List Nat)(pre:List (Nat×Nat))(S:Nat->Prop)(w:World):Prop:=
 (∀k,S k->¬Ht EL fl fh c5 c15 b g tb k)/\pre=(cj E W).take pre.length/\sN EL tb W E w/\gX fl fh w p W 64 E lo/\ay w c5 [m] 52/\ay w c15 [p] 171/\cz w b g ls/\
  ∃Mc,dJ m Pg W Fs Us Hg mp Mc S w/\Hv L (goes E lo) np (goes E lo) pre Mc
section
variable{E np:Nat->Nat}{lo fl fh p c5 c15 b g tb:Nat}{EL:bT}{ls:List Nat}{pre:List (Nat×Nat)}{T:Nat->Prop}
theorem Aw.rest{R:Prop}(h:(∀k,S k->¬Ht EL fl fh c5 c15 b g tb k)/\pre=(cj E W).take pre.length/\sN EL tb W E w/\gX fl fh w p W 64 E lo/\ay w c5 [m] 52/\ay w c15 [p] 171/\cz w b g ls/\R)(hf:Fr T w w1)(c:∀k,T k->¬Ht EL fl fh c5 c15 b g tb k):
  sN EL tb W E w1/\gX fl fh w1 p W 64 E lo/\ay w1 c5 [m] 52/\ay w1 c15 [p] 171/\cz w1 b g ls:=by
 obtain ⟨_,_,⟨j,l,n⟩,o,q,r,s,_⟩:=h;refine ⟨⟨j.frame hf (fun k e a=>c k a (.inl e)),aE l hf (fun a=>c _ a (.inr (.inr (.inr (.inr (.inr (.inr (.inl rfl)))))))),n.frame hf (fun a=>c _ a (.inr (.inr (.inr (.inr (.inr (.inr (.inr rfl))))))))⟩,o.frame hf (fun i d=> ?_),q.frame hf (fun a=>c _ a (.inr (.inr (.inl rfl)))),r.frame hf (fun a=>c _ a (.inr (.inr (.inr (.inl rfl))))),s.frame hf (fun a=>c _ a (.inr (.inr (.inr (.inr (.inl rfl)))))) (fun a=>c _ a (.inr (.inr (.inr (.inr (.inr (.inl rfl)))))))⟩;by_cases f:fl<=i/\i<fh
 ·exact absurd (.inr (.inl f)) (c i d)
 ·omega
theorem Aw.stays{B:Nat}(v:∀k,Ht EL fl fh c5 c15 b g tb k->k<B):gm B (Aw m Pg W Fs Us Hg mp L E np lo EL fl fh p c5 c15 b g tb ls):=by
 rintro pre S W1 u T h hf d;have e:=Aw.rest h hf (fun k a x=>by grind);obtain ⟨i,j,_,_,_,_,_,c,l,n⟩:=h;obtain ⟨o,q,r,s,t⟩:=e;exact ⟨i,j,o,q,r,s,t,c,cD _ _ _ _ _ _ _ _ _ _ _ _ l hf (fun k a f=>(d k f).2 a),n⟩
theorem Aw.move{N:List Nat}{G:Gr}{top s n:Nat}(h:Aw m Pg W Fs Us Hg mp L E np lo EL fl fh p c5 c15 b g tb ls pre S w)(K:(cj E W)[pre.length]? =some (s,n))(hX:∀k,Ht EL fl fh c5 c15 b g tb k->k<w.heap.size)
  (hG:gd G N top) (hO:∀a,G.size a≠0->jJ L (cX W Pg mp) G a) (I:∀a,G.size a≠0->lo<=a) (ah:lo% Pg=0) (am:1<=Pg) (h1:1<=lo) (h2:lo<=top) (ad:top<=W) (hW:W<=524288) (V:∀q,mp q=(decide (lo<=q*Pg)&&decide (q*Pg<top)))
  (hL:∀a,G.size a≠0->∀i,i<G.size a->L (a+i)<18446744073709551616) (C:∀a,E a≠0↔Reach G N a) (D:∀a,E a≠0->E a=G.size a/\G.size a≠0) (hU:lo+Qc (aw E) 0 W<=top) (al:∀a,np a=(G.Qr a).length):
  Calls prog 153 #[m,p,(s:Int),(n:Int)] w fun e w'=>e= .returned (.tuple #[])/\E9 (Aw m Pg W Fs Us Hg mp L E np lo EL fl fh p c5 c15 b g tb ls) (pre++[(s,n)]) S w w':=by
 have hh:=h;obtain ⟨i1,i2,i3,i4,i5,i6,i7,Mc,i8,i9⟩:=h;obtain ⟨m1,A,m3⟩:=dG.1 (ar K);dsimp only at m1 A m3;obtain ⟨e1,P⟩:=D s A;obtain ⟨pp,f,g',o1,o2,o3,o4,o5⟩:=hO s P;have u:=i3.1.apart;have z:=i3.1.top;have d:∀y∈pre,y.1<s/\y.2=E y.1/\E y.1≠0:=fun y o=>by
  rw [i2] at o;have Z:=dG.1 (eN o);exact ⟨kM K o,Z.2.2,Z.2.1⟩
 have v:∀k,s<=k->Mc k=L k:=fun k R=>i9.still k (fun y o=>by
  obtain ⟨l,B,r⟩:=d y o;have:=u y.1 s l r A;omega)
 have U:=I s P;have H:goes E lo s<=s:=tA (fun a ha=>I a (D a ha).2) U;have an:np s=pp:=by grind
 have ap:goes E lo s+n<=lo+Qc (aw E) 0 W:=by
  rw [m3,<-qG (ag (E s))];exact ku (z s A)
 have ao:lo<=goes E lo s:=by unfold goes;omega
 have aj:lo=lo/Pg*Pg:=by grind [Nat.div_add_mod]
 have F:=fun t S' w' (X:dJ m Pg W Fs Us Hg mp t S' w') (O:Fr S w w') (Y:∀k,S' k->S k\/w.heap.size<=k) (r4:Hv L (goes E lo) np (goes E lo) (pre++[(s,n)]) t)=>
  (let J:=Aw.rest hh O (fun k R K=>i1 k R K)
   (⟨S',⟨fun k R M=>by
    grind,pk i2 K,J.1,J.2.1,J.2.2.1,J.2.2.2.1,J.2.2.2.2,t,X,r4⟩,O,Y⟩:E9 (Aw m Pg W Fs Us Hg mp L E np lo EL fl fh p c5 c15 b g tb ls) (pre++[(s,n)]) S w w'))
 refine (Bc i8 i4 (fun j hj=>by
  by_cases M:fl<=j/\j<fh
  ·exact absurd (.inr (.inl M)) (i1 j hj)
  ·omega) (by omega) s n (goes E lo s) pp f g' (by omega) ⟨by rw [v s (ag _)];exact o1.1,o1.2⟩ (by omega) (by omega) rfl H (by grind) hW (fun j l B=>⟨o4 j l (by omega),?_⟩) (fun j l B=> ?_) (fun i l B r=> ?_)).mono ?_
 ·rw [v j l];have:=hL s P (j-s) (by omega)
  grind
 ·refine ⟨by omega,?_⟩;rw [V,ak,decide_eq_true_eq,decide_eq_true_eq];have Q:=ba j Pg;have h7:=aG Pg (aS (c:=Pg) (show lo<=j by omega));omega
 ·rw [v (s+i) (by omega)] at r ⊢;have Q:L (s+i)∈G.Qr s:=by
   rw [o3];exact bw.2 ⟨i-1,bO.2 (by omega),by grind⟩
  have h7:E (L (s+i))≠0:=(C _).2 (.step ((C s).1 A) Q r);have h8:=oA (E:=E) (s:=L (s+i)) (i:=0) (by omega)
  grind
 ·rintro e w' ⟨rfl,S',X,O,Y⟩;refine ⟨rfl,F _ S' w' X O Y ?_⟩;have Q:=i9.step (x:=(s,n)) (fun y o=>by
   obtain ⟨l,B,r⟩:=d y o;have:=u y.1 s l r A;omega) (fun y o=>by
   obtain ⟨l,B,r⟩:=d y o;have:=u y.1 s l r A;show goes E lo y.1+y.2<=goes E lo s
   rw [B,<-qG (ag (E y.1))];exact ku this) H
  grind
end
def uV(m Pg W Fs:Nat)(mp:Nat->Bool)(Mc:Nat->Nat)(U:Nat)(S9:Nat->Prop)(w10:World)(q:Nat)(wr:World):Prop:=
 ∃Us Hg mpq S',dJ m Pg W Fs Us Hg mpq Mc S' wr/\(∀r,mpq r=(mp r&& !(decide (r<q)&&decide (U<=r*Pg))))/\Fr S9 w10 wr/\∀k,S' k->S9 k\/w10.heap.size<=k
section
variable{Mc:Nat->Nat}{U q:Nat}{S9:Nat->Prop}{w10 wr:World}
theorem uV.Fh(h:uV m Pg W Fs mp Mc U S9 w10 q wr)(hf:J7 wr w1):uV m Pg W Fs mp Mc U S9 w10 q w1:=by
 obtain ⟨Us,Hg,a,S',b,c,d,e⟩:=h;exact ⟨Us,Hg,a,S',b.Qb hf,c,d.trans hf J8,e⟩
theorem uV.pg(h:uV m Pg W Fs mp Mc U S9 w10 q wr):Calls prog 114 #[m] wr fun e w'=>e= .returned (Pg:Int)/\wr=w':=by
 obtain ⟨Us,Hg,b,S',⟨M,a,_⟩,_⟩:=h;exact jy a
theorem uV.skip(h:uV m Pg W Fs mp Mc U S9 w10 q wr)(e:q*Pg<U):uV m Pg W Fs mp Mc U S9 w10 (q+1) wr:=by
 obtain ⟨Us,Hg,a,S',b,c,d⟩:=h;refine ⟨Us,Hg,a,S',b,fun r=> ?_,d⟩;rw [c]
 grind
theorem uV.drop(h:uV m Pg W Fs mp Mc U S9 w10 q wr)(s:U<=q*Pg)(p:mp q=true)(d:q<W/Pg):Calls prog 117 #[m,(q:Int)] wr fun e w'=>e= .returned (0:Int)/\uV m Pg W Fs mp Mc U S9 w10 (q+1) w':=by
 obtain ⟨Us,Hg,f,S',⟨M,i,l⟩,n,g,j⟩:=h;refine (mK i q d (by grind)).mono ?_;rintro e w' ⟨rfl,S2,high2,M2,p1,p2,p3,p4⟩;have t:=g.size;refine ⟨rfl,Us-1,high2,_,S2,⟨M2,p1,fun b c=> ?_⟩,fun r=> ?_,g.trans p3 j,fun k o=> ?_⟩
 ·have a:f (b/Pg)=true:=by have:=c.2;grind
  rw [p2 b c.1 a c.2];exact l b ⟨c.1,a⟩
 ·grind
 grind
end
def Hu(m b g Pg W Fs Us:Nat)(L:Nat->Nat)(S:Nat->Prop)(G:Gr)(ls:List Nat)(lo:Nat)(w:World)(e:Ending)(w':World):Prop:=
 ∃(E L':Nat->Nat) (S':Nat->Prop) (used' Hg':Nat) (mp':Nat->Bool),e= .returned (.tuple #[(((lo+Qc (aw E) 0 W:Nat):Int):Int),(0:Int)])/\dJ m Pg W Fs used' Hg' mp' L' S' w'/\(∀q,mp' q=(decide (lo<=q*Pg)&&decide (q*Pg<lo+Qc (aw E) 0 W)))/\(∀a,E a≠0↔Reach G ls a)/\fz G ls E/\
  (∀a,E a≠0->∀i,i<E a->L' (goes E lo a+i)=oF L (goes E lo) a (G.Qr a).length i)/\cz w' b g (ls.map (te (goes E lo) id))/\ee w'/\(∀k,S' k->S k\/w.heap.size<=k)/\Fr (fun k=>S k\/k=g) w w'
attribute [local go_sem] Oper.semAt_some
theorem Dp(d:Nat){b g:Nat}{ls:List Nat}{G:Gr}(h:dJ m Pg W Fs Us Hg mp L S w)(y:cz w b g ls)(hT:ee w)(F:¬S ch)(v:¬S b/\¬S g)(lo top Rm:Nat)(hG:gd G ls top)(hO:∀a,G.size a≠0->jJ L (cX W Pg mp) G a)(N:∀a,G.size a≠0->lo<=a)(h1:1<=lo)(h2:lo<=top)(j:top<=W)(t:1<=Rm)(h5:Rm<=4096)
  (B:∀q,mp q=(decide (lo<=q*Pg)&&decide (q*Pg<top))) (aI:lo% Pg=0) (ap:∀a,G.size a≠0->∀i,i<G.size a->L (a+i)<18446744073709551616) (ax:g≠ch):
  CallsIn Fence.wide d prog 100 #[m,b,(lo:Int),(top:Int),(Rm:Int)] w (Hu m b g Pg W Fs Us L S G ls lo w):=by
 refine callsIn_of_wp_marks func100 rfl trivial ?_ rfl;simp only [ntmps100,du,bG,cB,Nat.reduceAdd,Nat.reduceSub,cK,cJ,dv,cU,dz,dH];obtain ⟨W1,bB⟩:∃W1,w.alloc (.cells #[m] 52)=W1:=⟨_,rfl⟩;have z:J7 w W1:=by rw [<-bB];exact (Kb _ w).alloc _
 have cp:ay W1 w.heap.size [m] 52:=by rw [<-bB];exact ay.new w _ _
 have bH:=h.Qb z;have P:=y.frame z id id;have cm:=aE hT z id;have cw:=ae (xN (M:=bH.choose) bH.choose_spec.1 P lo top Rm h1 h2 j t h5);have cQ:=ae (uh bH P cm F lo top Rm hG hO N j t h5);have k0:=cp.cell 0 rfl;gi_wp2;refine dZ (cw.out.mono ?_);rintro e w2 ⟨rfl,rfl⟩;clear cw;gi_wp2;refine dZ (cQ.out.mono ?_);rintro e w2 ⟨EL,E,S2,rfl,p1,p2,p3,p5,p6,p7,p8,p9⟩;clear cQ;have ah:=p5.small;have aO:ch<w.heap.size:=bu (hT 0 0 rfl);have a6:W1.heap.size=w.heap.size+1:=by rw [<-bB];exact aY _
 have O:¬S w.heap.size:=fun hh=>by have:=(bR m Pg W Fs Us Hg mp).lt _ _ _ h _ hh;omega
 have c2:=cp.frame p9 O;have T:=aE cm p9 F;have cf:=ae (Aa (d-1) (k:=64) p5 T (by decide) (by decide) (by decide) lo (by omega));have cv:=ae c2;rw [show ((64:Nat):Int)=64 from rfl] at cf;clear k0;gi_wp2;refine ⟨trivial,(fun h=>by cases h),cf.out.mono ?_⟩;rintro e w3 ⟨p,rfl,q1,q2⟩;have cd:=ae (cv.out.frame q2 id);clear cf cv c2;obtain ⟨W4,cn⟩:∃W4,w3.alloc (.cells #[p] 171)=W4:=⟨_,rfl⟩;have c6:J7 w3 W4:=by rw [<-cn];exact (Kb _ w3).alloc _
 have c3:ay W4 w3.heap.size [p] 171:=by rw [<-cn];exact ay.new w3 _ _
 have bo:=ae c3;have am:=ae c6;clear c6 c3;have a7:=q2.size;obtain ⟨U,hU⟩:∃U:Nat,U=lo+Qc (aw E) 0 W:=⟨_,rfl⟩;have o:Qc (aw E) 0 W<=1048576:=ed ah.2;have aW:W<=524288:=by obtain ⟨M,hh,_⟩:=p1;exact hh.at.2.2.1
 have aN:1<=Pg:=by obtain ⟨M,hh,_⟩:=p1;exact hh.at.1
 have J:∀a,E a≠0->E a=G.size a/\G.size a≠0:=fun a ha=>⟨(p7 a ha).2,by rw [<-(p7 a ha).2];exact ha⟩
 have V:U<=top:=by
  rw [hU];have e1:goes E lo W=lo+Qc (aw E) 0 W:=rfl;have e2:goes E lo W=goes E lo top:=by
   unfold goes;rw [bp (aw E) (ao top) j,bP (a:=top) (b:=W) (fun i q1 _=>by
    rw [bt];intro hl;obtain ⟨s,s1,s2⟩:=cE.1 hl;have:=J s (by omega);have:=hG.top s this.2;omega),aP]
  have e3:=tA (E:=E) (Ba:=lo) (a:=top) (fun s hs=>N s (J s hs).2) h2;omega
 have bi:=ae (fun w' (hf:J7 W4 w')=>kw (q1.Qb (am.out.trans hf J8)) (by omega));rw [<-hU] at bi;have cG:=ae (fun w' (hf:J7 W4 w')=>Br (p1.Qb (((q2.trans am.out J8)).trans hf J8)) lo U (by omega) (fun q a1 a2 a3=>by
  rw [B,ak,decide_eq_true_eq,decide_eq_true_eq];have h6:q*Pg<=U-1:=aH (aG Pg a2) (ba _ _);have h7:lo=lo/Pg*Pg:=by have:=az lo Pg;rw [bg];omega
  have h8:=aG Pg a1;omega))
 have HC:=ae (fun w' (hf:J7 W4 w')=>af ((cd.out.frame (am.out.trans hf J8) id).cell 0 rfl) ((bo.out.frame hf id).cell 0 rfl));have b7:=ae (af p1 (af p2 (af p3 (af p5 (af p6 (af p7 (af p8 p9)))))));have b8:=ae (af q1 (af q2 (af T (af P (af z (af J (af hU V)))))));have b9:=ae (af h (af hG (af hO (af N (af B (af aI (af ap ax)))))));have ca:=ae (af F (af v (af O (af aO (af a6 (af a7 (af aN (af h1 (af h2 j)))))))));have cb:=ae (af ah (af aW o));have cc:=ae (af y hT);clear p1 p2 p3 p5 p6 p7 p8 p9 q1 q2 T P z J hU V h hG hO N B aI ap ax F v O aO a6 a7 aN h1 h2 j ah aW o y hT t h5 bH cm cp bB;gi_wp2;clear cn;refine wpIn_wide.2 ?_;refine bz (fun w'=>J7 W4 w') 4 (by kernel_rfl) ((Kb _ W4).drew) ?_;simp only [Kc];refine ai m rfl (fun w' C=>by obtain ⟨k1,k2⟩:=HC.out w' C;go_simp) ?_;simp only [aa];refine ai (lo:Int) rfl (fun w' C=>by go_simp) ?_;simp only [aa];refine ai p rfl (fun w' C=>by obtain ⟨k1,k2⟩:=HC.out w' C;go_simp) ?_;simp only [aa];refine bf (.int .i64 U) 118 #[p] rfl (fun w'=>by go_simp) (fun w' C=>(bi.out w' C).mono fun e w2 h=>⟨h.1,C.trans h.2 J8⟩) ?_;simp only [aa];refine wpQuiet_nil ?_;intro w5 Q;have cF:=ae (cG.out w5 Q);have bs:=ae Q;clear cG Q bi;go_wp2_with fail
 refine cF.out.mono ?_;rintro e w6 ⟨rfl,S6,u,n1,n2,n3⟩;have HA:=ae (jH EL.m w6);have aT:=ae (af n1 (af n2 n3));clear n1 n2 n3 cF;go_wp2;gi_wp2;refine dZ (HA.out.mono ?_);rintro e W7 ⟨rfl,bD⟩;have Z:J7 w6 W7:=by rw [bD];exact (Kb _ w6).alloc _
 have di:ay W7 w6.heap.size [EL.m] 165:=by rw [bD];exact ay.new w6 _ _
 have cr:W7.heap.size=w6.heap.size+1:=by rw [bD];exact aY _
 clear bD HA;obtain ⟨np,a0⟩:∃np:Nat->Nat,∀a,np a=(G.Qr a).length:=⟨_,fun _=>rfl⟩;obtain ⟨p1,p2,p3,p5,p6,p7,p8,p9⟩:=b7.out;obtain ⟨q1,q2,T,P,z,J,hU,V⟩:=b8.out;obtain ⟨h,hG,hO,N,B,aI,ap,ax⟩:=b9.out;obtain ⟨F,v,O,aO,a6,a7,aN,h1,h2,j⟩:=ca.out;obtain ⟨ah,aW,o⟩:=cb.out;obtain ⟨y,hT⟩:=cc.out;obtain ⟨n1,n2,n3⟩:=aT.out;have bM:=y.Qd.lt;have bN:=y.row.lt;have bw:=(bR m Pg W Fs Us Hg mp).lt _ _ _ p1;have bx:=(bR m Pg W Fs Us u mp).lt _ _ _ n1;have b6:=bo.out.lt;have dk:=bs.out.size;have dm:=n2.size;have dn:=p9.size;have bj:=p5.lt;have bk:∀k,Ht EL w2.heap.size w3.heap.size w.heap.size w3.heap.size b g w6.heap.size k->k<W7.heap.size:=by
  rintro k (h|h|h|h|h|h|h|h)
  ·have:=bj k h;omega
  all_goals omega
 have c4:∀k,S6 k->¬Ht EL w2.heap.size w3.heap.size w.heap.size w3.heap.size b g w6.heap.size k:=by
  intro k hk hx;have ef:=bx k hk;rcases n3 k hk with aC|aC
  ·have ea:=bw k aC;rcases hx with h|h|h|h|h|h|h|h
   ·exact p3 k aC h
   ·omega
   ·rcases p2 k aC with t|t
    ·exact O (h▸t)
    ·omega
   ·omega
   ·rcases p2 k aC with t|t
    ·exact v.1 (h▸t)
    ·omega
   ·rcases p2 k aC with t|t
    ·exact v.2 (h▸t)
    ·omega
   ·rcases p2 k aC with t|t
    ·exact F (h▸t)
    ·omega
   ·omega
  ·rcases hx with h|h|h|h|h|h|h|h
   ·have:=bj k h;omega
   all_goals omega
 have aS:Fr S2 W4 w6:=(bs.out.mono J8).trans n2 (fun k h=> .inl h);have Y:Fr S2 w2 W7:=(((q2.trans am.out J8).mono J8).trans aS (fun k h=> .inl h)).trans Z J8;have aR:Fr S2 w3 W7:=((am.out.mono J8).trans aS (fun k h=> .inl h)).trans Z J8;have bl:Fr S2 W4 W7:=aS.trans Z J8;have dY:∀k,w.heap.size<=k->k≠w.heap.size->S2 k->W1.heap.size<=k:=fun k h _ _=>by omega
 have I:¬S2 b/\¬S2 g/\¬S2 ch/\¬S2 w.heap.size:=by
  refine ⟨fun h=> ?_,fun h=> ?_,fun h=> ?_,fun h=> ?_⟩
  ·rcases p2 _ h with t|t
   ·exact v.1 t
   ·omega
  ·rcases p2 _ h with t|t
   ·exact v.2 t
   ·omega
  ·rcases p2 _ h with t|t
   ·exact F t
   ·omega
  ·rcases p2 _ h with t|t
   ·exact O t
   ·omega
 have cl:Aw m Pg W Fs Us u mp L E np lo EL w2.heap.size w3.heap.size p w.heap.size w3.heap.size b g w6.heap.size ls [] S6 W7:=
  ⟨c4,rfl,⟨p5.frame Y (fun k hk hs=>p3 k hs hk),aE T Y I.2.2.1,di⟩,q1.frame aR (fun i hi=> .inl (bw i hi)),cd.out.frame aR I.2.2.2,bo.out.frame bl (fun hs=>by have:=bw _ hs;omega),(P.frame p9 v.1 v.2).frame Y I.1 I.2.1,L,n1.Qb Z,Hv.none _ _ _ _⟩
 have dw:=ae hU;rw [hU] at V;have cg:=ae (fun (bX:List (Nat×Nat)) S9 s n w9 (hj:Aw m Pg W Fs Us u mp L E np lo EL w2.heap.size w3.heap.size p w.heap.size w3.heap.size b g w6.heap.size ls bX S9 w9) (hx:(cj E W)[bX.length]? =some (s,n)) (hz:W7.heap.size<=w9.heap.size)=>
  Aw.move hj hx (fun k hk=>by have:=bk k hk;omega) hG hO N aI aN h1 h2 j aW B ap p6 J V a0)
 have cZ:=ae (af Y (af aR (af bl (af bk (af a0 (af I (af bM (af bN (af cr (af dk (af dm (af dn b6))))))))))));have b5:=ah.2;clear p1 p2 p3 p5 p6 p7 p8 p9 q1 q2 T P z J hU V h hG hO N B aI ap ax F v O aO a6 a7 aN h1 h2 j ah aW o y hT n1 n2 n3 bM bN bw b6 dk dm dn bj c4 aS Y aR bl dY I Z di a0;gi_wp2;refine iU (gf:=161) (lb:= #[w6.heap.size]) rfl (enters_of func161 (by kernel_rfl) rfl) (encs:=mX) (fun _=>rfl) (jI (L:=EL) (tb:=w6.heap.size) (E:=E) b5) (Aw m Pg W Fs Us u mp L E np lo EL w2.heap.size w3.heap.size p w.heap.size w3.heap.size b g w6.heap.size ls) S6 (Aw.stays bk) (fun _ _ _ h=>h.2.2.1) (fun k hk=>by have:=bx k hk;omega) cl
  ?a1 ?assign ?body ?done
 case assign=>
  intro k x W K hK;unfold mX;gi_wp2;exact hK
 case body=>
  intro l bX S9 x W9 hI o hf hs;obtain ⟨s,n⟩:=x;have HM:=ae (cg.out bX S9 s n W9 hI o hf.size);have c5:=hI.2.2.2.2.1.cell 0 rfl;have dI:=hI.2.2.2.2.2.1.cell 0 rfl;clear hf hs hI o cl cg bk bx cr;gi_wp2;refine wM (HM.out.mono ?_);rintro e c ⟨rfl,y⟩;have HR:=ae y;clear y HM c5 dI;gi_wp2;exact HR.out
 case done=>
  intro D S9 W9 hI hD bK bL hf hs;clear cg cl;obtain ⟨p1,p2,p3,p5,p6,p7,p8,p9⟩:=b7.out;obtain ⟨q1,q2,T,P,z,J,hU,V⟩:=b8.out;obtain ⟨h,hG,hO,N,B,aI,ap,ax⟩:=b9.out;obtain ⟨F,v,O,aO,a6,a7,aN,h1,h2,j⟩:=ca.out;obtain ⟨ah,aW,o⟩:=cb.out;obtain ⟨g1,g2,g3,g4,a0,g6,bM,bN,_,g7,g8,g9,dM⟩:=cZ.out;obtain ⟨y,hT⟩:=cc.out;have dX:∀(fn:Fn) (first cap:Array Value) (w:World),(Instr.makeFunc fn first cap).run prog w= .ok (.func fn first cap) w:=fun _ _ _ _=>rfl
  have d2:=hf.size;obtain ⟨i1,i2,⟨i3,dr,d3⟩,i4,i5,i6,i7,Mc,i8,i9⟩:=hI;have bn:∀k,k=g->k<w2.heap.size\/w3.heap.size<=k:=fun k hk=>by omega
  have av:∀rs:List Nat,rs.length=ls.length->rs=(ls.take rs.length).map (te (goes E lo) id)->rs=ls.map (te (goes E lo) id):=fun rs e1 e2=>by
   rw [e2,e1,iQ]
  have cT:=ae (pr 154 #[] #[w3.heap.size] (enters_of func154 (by kernel_rfl) rfl) (fun rs w'=>rs=(ls.take rs.length).map (te (goes E lo) id)/\Fr (fun k=>k=g) W9 w') i7 ⟨rfl,Kb _ _⟩
   (fun rs wa wb ⟨j1,j2⟩ dU=>⟨j1,j2.trans dU (fun _ h=> .inl h)⟩)
   (fun rs wa ⟨j1,j2⟩ hz=>⟨by
    have bK:=(aj.1 hz).1;rw [aU,be,bC,hz];rw [dd,<-j1];rfl,j2⟩)
   (fun rs a wa bO ⟨j1,j2⟩ ha h0=>by
    have c9:=ar ha;have dN:E a≠0:=(p6 a).2 (.root c9 h0);have c8:=oA (E:=E) (s:=a) (i:=0) (by omega);rw [aP] at c8;have d1:=p5.top a dN;refine (FK (i4.frame j2 bn) (by omega) w3.heap.size a (i6.frame j2 (fun e=>by omega)) c8 (by omega)).mono ?_;rintro e wb ⟨rfl,c7⟩;refine ⟨goes E lo a,rfl,bO.frame c7 id id,?_,j2.trans c7 J8⟩;rw [aU,be,bC,ha,dd,<-j1];show _=rs++[te (goes E lo) id a]
    unfold te;rw [if_neg h0];rfl))
  have ad:∀k,Ht EL w2.heap.size w3.heap.size w.heap.size w3.heap.size b g w6.heap.size k->¬S9 k:=fun k hx hk=>i1 k hk hx
  have dP:=(bR m Pg W Fs Us u mp).lt _ _ _ i8;have HB:=ae (fun (c:World) (q:Nat) (wr:World) (f:Fr (fun k=>k=g) W9 c) (hu:uV m Pg W Fs mp Mc U S9 c q wr)=>
   (let bm:Fr S9 c wr:=hu.choose_spec.choose_spec.choose_spec.choose_spec.2.2.1
    af (((i5.frame f (fun e=>by omega)).frame bm (ad _ (.inr (.inr (.inl rfl))))).cell 0 rfl) (af (((i6.frame f (fun e=>by omega)).frame bm (ad _ (.inr (.inr (.inr (.inl rfl)))))).cell 0 rfl)
    (kw (((i4.frame f bn)).frame bm (fun i hi=>by
     by_cases hx:w2.heap.size<=i/\i<w3.heap.size
     ·exact absurd hi (ad i (.inr (.inl hx)))
     ·omega)) (by omega)))))
  rw [<-hU] at HB;have ci:Hid (∀c,Fr (fun k=>k=g) W9 c->uV m Pg W Fs mp Mc U S9 c (lo/Pg) c):=by
   show∀c,_
   intro c f;refine ⟨Us,u,mp,S9,cD _ _ _ _ _ _ _ _ _ _ _ _ i8 f (fun k hk e=>ad g (.inr (.inr (.inr (.inr (.inr (.inl rfl)))))) (e▸hk)),fun r=> ?_,Kb _ _,fun _ h=> .inl h⟩;by_cases e:r<lo/Pg
   ·have h6:mp r=false:=by
     rw [B,Bool.and_eq_false_iff,decide_eq_false_iff_not];left;have:=(Nat.lt_div_iff_mul_lt (show 0<Pg by omega)).1 e;have h7:r*Pg<lo:=by
      have h8:lo=lo/Pg*Pg:=by have:=az lo Pg;rw [bg];omega
      rw [h8];exact Nat.mul_lt_mul_of_pos_right e (by omega)
     omega
    rw [h6];rfl
   ·rw [decide_eq_false e];simp
  have bc:=ae (fun q (a1:lo/Pg<=q) (a2:q*Pg<top)=>(show mp q=true/\q<W/Pg from by
   have h8:lo=lo/Pg*Pg:=by have:=az lo Pg;rw [bg];omega
   have h9:=aG Pg a1;refine ⟨by rw [B,decide_eq_true (show lo<=q*Pg by omega),decide_eq_true a2];rfl,?_⟩;obtain ⟨M8,hh,_⟩:=i8;have d9:=hh.at.2.2.2.1;exact (Nat.lt_div_iff_mul_lt' ⟨W/Pg,by have:=az W Pg;omega⟩ q).2 (by rw [bg];omega)))
  have cx:=ae (fun (c:World) (q:Nat) (wr:World) (f:Fr (fun k=>k=g) W9 c) (hu:uV m Pg W Fs mp Mc U S9 c q wr)=>
   (let bm:Fr S9 c wr:=hu.choose_spec.choose_spec.choose_spec.choose_spec.2.2.1
    (bm.heap (f.heap hD (fun e=>by omega)) bL:wr.heap[D]? =some (Obj.deferred (some [])))))
  have ds:=ae av;have bb:Hid (∀(c H:World) rs q,rs.length=ls.length->cz c b g rs->rs=(ls.take rs.length).map (te (goes E lo) id)->Fr (fun k=>k=g) W9 c->lo/Pg<=q->top<=q*Pg->uV m Pg W Fs mp Mc U S9 c q H->Hu m b g Pg W Fs Us L S G ls lo w (.returned (.tuple #[(U:Int),(0:Int)])) (H.putObj D (.deferred none))):=by
   show∀(c H:World) rs q,_
   intro c H rs q a1 a2 a3 a4 aq a5 ⟨cu,dF,d4,S',u1,u2,u3,u4⟩;have d7:D<H.heap.size:=(bE.1 (u3.heap (a4.heap hD (fun e=>by omega)) bL)).1;have dO:¬S' D:=fun hh=>by
    rcases u4 D hh with h6|h6
    ·exact bL h6
    ·have:=(bE.1 (a4.heap hD (fun e=>by omega))).1;omega
   have bF:Fr (fun k=>k=D) H (H.putObj D (.deferred none)):=(Kb _ H).putObj _ _ (.inl rfl);have d5:=a4.size;refine ⟨E,Mc,S',cu,dF,d4,by rw [hU],cD _ _ _ _ _ _ _ _ _ _ _ _ u1 bF (fun k hk e=>dO (e▸hk)),fun r=> ?_,p6,p7,fun a ha i hi=> ?_,?_,?_,fun k hk=> ?_,?_⟩
   ·rw [u2,B,<-hU];by_cases e:r<q
    ·rw [decide_eq_true e,cH];by_cases e2:U<=r*Pg
     ·rw [decide_eq_true e2,decide_eq_false (show¬r*Pg<U by omega)];simp
     ·rw [decide_eq_false e2,decide_eq_true (show r*Pg<U by omega),decide_eq_true (show r*Pg<top by omega)];simp
    ·have h6:=aG Pg (show q<=r by omega);rw [decide_eq_false e,decide_eq_false (show¬r*Pg<top by omega),decide_eq_false (show¬r*Pg<U by omega)];simp
   ·have h6:=i9.Qs (a,E a) (by
     have h7:(a,E a)∈cj E W:=dG.2 ⟨by have:=p5.top a ha;omega,ha,rfl⟩;exact h7) i hi
    dsimp only at h6;rwa [a0] at h6
   ·rw [<-av rs a1 a3];exact (a2.frame u3 (ad _ (.inr (.inr (.inr (.inr (.inl rfl)))))) (ad _ (.inr (.inr (.inr (.inr (.inr (.inl rfl)))))))).frame bF (fun e=>by omega) (fun e=>by omega)
   ·exact aE (aE (aE dr a4 (fun e=>ax e.symm)) u3 (ad _ (.inr (.inr (.inr (.inr (.inr (.inr (.inl rfl))))))))) bF (fun e=>by unfold ch at aO;omega)
   ·rcases u4 k hk with h6|h6
    ·rcases hs k h6 with h7|h7
     ·rcases (aT.out.2.2) k h7 with h8|h8
      ·rcases p2 k h8 with h9|h9
       ·exact .inl h9
       ·exact .inr (by omega)
      ·exact .inr (by omega)
     ·exact .inr (by omega)
    ·exact .inr (by omega)
   ·have f1:Fr S w w6:=(((z.mono J8).trans p9 (fun k h=> .inl h)).trans q2 J8).trans ((am.out.mono (S':=S2) J8).trans ((bs.out.mono (S':=S2) J8).trans aT.out.2.1 (fun k h=> .inl h)) (fun k h=> .inl h)) (fun k h=>by
     rcases p2 k h with h9|h9
     ·exact .inl h9
     ·exact .inr (by omega))
    have f2:Fr S w W7:=by
     have:Fr S2 w2 W7:=g1;exact (((z.mono (S':=S) J8).trans p9 (fun k h=> .inl h))).trans this (fun k h=>by
      rcases p2 k h with h9|h9
      ·exact .inl h9
      ·exact .inr (by omega))
    have f3:Fr S w W9:=f2.trans hf (fun k h=>by
     rcases aT.out.2.2 k h with h8|h8
     ·rcases p2 k h8 with h9|h9
      ·exact .inl h9
      ·exact .inr (by omega)
     ·exact .inr (by omega))
    refine (((f3.mono (S':=fun k=>S k\/k=g) (fun k h=> .inl (.inl h))).trans a4 (fun k h=> .inl (.inr h))).trans u3 (fun k h=> ?_)).trans bF (fun k h=> .inr (by omega));rcases hs k h with h7|h7
    ·rcases aT.out.2.2 k h7 with h8|h8
     ·rcases p2 k h8 with h9|h9
      ·exact .inl (.inl h9)
      ·exact .inr (by omega)
     ·exact .inr (by omega)
    ·exact .inr (by omega)
  have b1:(lo:Int)<=524288:=by omega
  have b2:(Pg:Int)<=524288:=by have:=i8.choose_spec.1.at.2.1;omega
  have b3:(top:Int)<=524288:=by omega
  have b4:Pg<=256:=i8.choose_spec.1.at.2.1;have ek:top<=524288:=by omega
  have b0:lo/Pg<=W:=aH (aX _ _) (by omega);have dS:(lo:Int).tdiv (Pg:Int)=((lo/Pg:Nat):Int):=fF _ _;have eg:¬Pg=0:=by omega
  have d8:W/Pg<=W:=aX _ _;generalize lo/Pg=A at ci bc bb b0 dS;clear p1 p2 p3 p5 p6 p7 p8 p9 q1 q2 T P z J hU V h hG hO N B aI ap ax F v O aO a6 a7 aN h1 h2 j ah o g1 g2 g3 g4 a0 g6 bM bN g7 g8 g9 dM y hT i1 i2 i3 dr d3 i4 i5 i6 i7 i8 i9 bn av ad dP bx bk hD bK bL hf hs cr d2 b5 b7 b8 b9 ca cb cc aT cZ cd bo am bs HC dw;gi_wp2;refine dZ (cT.out.mono ?_);rintro e c ⟨rfl,rs,dc,bO,dh,f⟩;have bS:=ci.out c f;have cM:=ae bS.pg;obtain ⟨k1,k2,_⟩:=HB.out c _ c f bS;have a8:=ae (fun q wr hu=>HB.out c q wr f hu);have cC:=ae (fun H q aq a5 hu=>bb.out c H rs q dc bO dh f aq a5 hu);have cy:=ae (fun q wr hu=>cx.out c q wr f hu);have cW:=ae bS;clear bS dc bO dh f HB bb cx ci cT ds dX;gi_wp2;refine dZ (cM.out.mono ?_);rintro e w' ⟨rfl,rfl⟩;clear cM k1 k2;gi_wp2
  gi_loopw [20] (fun x wr=>∃q:Nat,x= .int .i64 q/\A<=q/\q<=W/\Hid (uV m Pg W Fs mp Mc U S9 c q wr)) (fun x _=>(W+1-intOf x).toNat)
  case atStart=>exact ⟨A,by go_num,ag _,b0,cW⟩
  case round=>
   clear cW;obtain ⟨q,rfl,db,d0,y⟩:=hrel;obtain ⟨k1,k2,hT⟩:=a8.out q wr y.out;have cN:=ae y.out.pg;have hX:q*Pg<=134217728:=aH (mi d0 b4) (by omega);have c0:(q:Int)*(Pg:Int)=((q*Pg:Nat):Int):=by push_cast;rfl
   have C:IntKind.i64.wrap ((q:Int)*(Pg:Int))=((q*Pg:Nat):Int):=by rw [c0,IntKind.wrap_i64];omega
   have a9:=ae (fun (w1:World) (hf:J7 wr w1) h hm hq=>uV.drop (q:=q) (y.out.Fh hf) h hm hq);have bv:=ae (fun h=>bc.out q db h);have bq:=ae (fun h (w7:World) (hf:J7 wr w7)=>af (cC.out w7 q db h (y.out.Fh hf)) (cy.out q w7 (y.out.Fh hf)));have bd:=ae (fun h (w7:World) (hf:J7 wr w7)=>(uV.skip (q:=q) y.out h).Fh hf);have HT:=ae hT;have R:=ae (fun (w1:World) (hf:J7 wr w1)=>af (af (a8.out q w1 (y.out.Fh hf)).1 (a8.out q w1 (y.out.Fh hf)).2.1) (af (a8.out q w1 (y.out.Fh hf)).2.2 (y.out.Fh hf).pg));have eh:(q:Int)<=524288:=by omega
   obtain ⟨X,co⟩:∃X,X=q*Pg:=⟨_,rfl⟩;have d6:=ae co;rw [<-co] at C bd a9 bv bq hX;clear y hT c0 co a8 cC cy bc;gi_wp2;refine dZ (cN.out.mono ?_);rintro e w' ⟨rfl,rfl⟩;clear cN;by_cases bK:X<top
   ·have c1:(X:Int)<(top:Int):=by omega
    obtain ⟨cs,ct⟩:=bv.out bK;have ej:q<W:=by omega
    clear bq bv;gi_wp2;refine wpIn_wide.2 ?_;refine aV (fun w'=>J7 wr w') (by kernel_rfl) ((Kb _ wr).drew) ?_;refine ai (q:Int) rfl (fun w' C=>by go_simp) ?_;simp only [aa];refine ai m rfl (fun w' C=>by obtain ⟨⟨k1,k2⟩,k3⟩:=R.out w' C;go_simp) ?_;simp only [aa];refine bf (.int .i64 Pg) 114 #[m] rfl (fun w'=>by go_simp) (fun w' C=>((R.out w' C).2.2).mono fun e w2 h=>⟨h.1,h.2▸C⟩) ?_;simp only [aa];refine ai (X:Int) rfl (fun w' C=>by go_simp) ?_;simp only [aa];refine ai p rfl (fun w' C=>by obtain ⟨⟨k1,k2⟩,k3⟩:=R.out w' C;go_simp) ?_;simp only [aa];refine bf (.int .i64 U) 118 #[p] rfl (fun w'=>by go_simp) (fun w' C=>((R.out w' C).2.1).mono fun e w2 h=>⟨h.1,C.trans h.2 J8⟩) ?_;simp only [aa];refine ai (.bool (decide (U<=X))) rfl (fun w' C=>by go_simp) ?_;simp only [aa];refine wpQuiet_nil ?_;intro w5 Q;obtain ⟨⟨k1,k2⟩,_⟩:=R.out w5 Q;by_cases cq:U<=X
    ·have cA:=ae (a9.out w5 Q cq cs ct);rw [decide_eq_true cq];clear R bd Q HT a9 cs ct;gi_wp2;refine dZ (cA.out.mono ?_);rintro e w6 ⟨rfl,hu⟩;have ck:=ae hu;clear hu cA k1 k2;gi_wp2;go_roundw
     case rel=>exact ⟨q+1,by go_num,by omega,by omega,ck⟩
     case measure=>simp [intOf];omega
    ·rw [decide_eq_false cq];have ck:=ae (bd.out (by omega) w5 Q);clear R bd Q HT a9 cs ct;gi_wp2;go_roundw
     case rel=>exact ⟨q+1,by go_num,by omega,by omega,ck⟩
     case measure=>simp [intOf];omega
   ·have c1:¬(X:Int)<(top:Int):=by omega
    have bZ:=ae (bq.out (by omega));clear R bd a9 bv bq;gi_wp2;refine dZ (HT.out.mono ?_);rintro e w7 ⟨rfl,Z⟩;obtain ⟨z1,z2⟩:=bZ.out w7 Z;have dx:=ae z1;have dB:=ae z2;clear z1 z2 Z bZ HT k1 k2;gi_wp2;refine ⟨by simp,.inl ⟨_,_,rfl,run_takeDeferred dB.out,?_⟩⟩;refine ⟨_,results_tmp2 rfl _ _ _,?_⟩;exact dx.out
end
section
variable{m Pg W Fs Us Hg:Nat}{mp:Nat->Bool}{L:Nat->Nat}{S:Nat->Prop}{w w1:World}
theorem Bs(h:dJ m Pg W Fs Us Hg mp L S w)(a u:Nat)(o:u<=W)(r:Us+Qc (fq mp) (a/Pg) ((u-1)/Pg+1)<=Fs):
  Calls prog 98 #[m,(a:Int),(u:Int)] w fun e w'=>e= .returned (0:Int)/\∃S' f d c L',dJ m Pg W Fs f d c L' S' w'/\(∀q,c q=(mp q||(decide (a<u)&&decide (a/Pg<=q)&&decide (q<=(u-1)/Pg))))/\(∀b,cX W Pg mp b->L' b=L b)/\Fr S w w'/\∀k,S' k->S k\/w.heap.size<=k:=by
 obtain ⟨M,g,p⟩:=h;rcases aN a u with j|i
 ·refine (ot g a u j o r).mono ?_;rintro e w' ⟨rfl,S',d,c,l,s,y,t,v,x⟩;refine ⟨rfl,S',_,d,c,l,⟨l,s,fun _ _=>rfl⟩,fun q=> ?_,fun b n=> ?_,v,x⟩
  ·grind
  ·rw [t b n.1 n.2];grind
 ·refine (th g a u i o).mono ?_;rintro e w' ⟨rfl,hf⟩;refine ⟨rfl,S,Us,Hg,mp,L,⟨M,g.Qb hf,p⟩,fun q=> ?_,fun _ _=>rfl,hf.mono J8,fun _ h=> .inl h⟩
  grind
end
def xl(m Pg W Fs:Nat)(mp:Nat->Bool)(Mc:Nat->Nat)(q0:Nat)(S9:Nat->Prop)(w10:World)(q:Nat)(wr:World):Prop:=
 ∃Us Hg mpq S',dJ m Pg W Fs Us Hg mpq Mc S' wr/\(∀r,mpq r=(mp r&& !(decide (q0<=r)&&decide (r<q))))/\Fr S9 w10 wr/\∀k,S' k->S9 k\/w10.heap.size<=k
section
variable{m Pg W Fs Us Hg:Nat}{mp:Nat->Bool}{Mc:Nat->Nat}{q0 q:Nat}{S9:Nat->Prop}{w10 wr w1:World}
theorem xl.start(h:dJ m Pg W Fs Us Hg mp Mc S9 w10):xl m Pg W Fs mp Mc q0 S9 w10 q0 w10:=by
 refine ⟨Us,Hg,mp,S9,h,fun r=> ?_,Kb _ _,fun _ h=> .inl h⟩
 grind [decide_eq_false_iff_not]
theorem xl.Fh(h:xl m Pg W Fs mp Mc q0 S9 w10 q wr)(hf:J7 wr w1):xl m Pg W Fs mp Mc q0 S9 w10 q w1:=by
 obtain ⟨Us,Hg,a,S',b,c,d,e⟩:=h;exact ⟨Us,Hg,a,S',b.Qb hf,c,d.trans hf J8,e⟩
theorem xl.pg(h:xl m Pg W Fs mp Mc q0 S9 w10 q wr):Calls prog 114 #[m] wr fun e w'=>e= .returned (Pg:Int)/\wr=w':=by
 obtain ⟨Us,Hg,b,S',⟨M,a,_⟩,_⟩:=h;exact jy a
theorem xl.drop(h:xl m Pg W Fs mp Mc q0 S9 w10 q wr)(s:mp q=true)(d:q<W/Pg)(n:q0<=q):Calls prog 117 #[m,(q:Int)] wr fun e w'=>e= .returned (0:Int)/\xl m Pg W Fs mp Mc q0 S9 w10 (q+1) w':=by
 obtain ⟨Us,Hg,f,S',⟨M,i,l⟩,o,g,j⟩:=h;refine (mK i q d (by grind)).mono ?_;rintro e w' ⟨rfl,S2,high2,M2,p1,p2,p3,p4⟩;have t:=g.size;refine ⟨rfl,Us-1,high2,_,S2,⟨M2,p1,fun b c=> ?_⟩,fun r=> ?_,g.trans p3 j,fun k p=> ?_⟩
 ·have a:f (b/Pg)=true:=by have:=c.2;grind
  rw [p2 b c.1 a c.2];exact l b ⟨c.1,a⟩
 ·grind
 grind
end
theorem yZ{Pg F Tp T b n q:Nat}(hp:1<=Pg)(l:F% Pg=0)(m:T% Pg=0)(c:Pg<=T)(o:T+n<=b)(d:b<=F\/(Tp+Pg-1)/Pg*Pg<=T)(p:Tp<=q*Pg)(e:q*Pg<Tp+Pg)(r:Nat):
  (((decide (F<=r*Pg)&&decide (r*Pg<Tp))||(decide (T<T+n)&&decide (T/Pg<=r)&&decide (r<=(T+n-1)/Pg)))&& !(decide (F/Pg<=r)&&decide (r<q)))=(decide (T<=r*Pg)&&decide (r*Pg<T+n)):=by
 have f:F/Pg<=r↔F<=r*Pg:=by
  have a:F=F/Pg*Pg:=by grind [Nat.div_add_mod]
  constructor
  ·intro h;rw [a];exact aG Pg h
  ·intro h;rw [a] at h;exact jL h hp
 have g:T/Pg<=r↔T<=r*Pg:=by
  have a:T=T/Pg*Pg:=by grind [Nat.div_add_mod]
  constructor
  ·intro h;rw [a];exact aG Pg h
  ·intro h;rw [a] at h;exact jL h hp
 have i:r<=(T+n-1)/Pg↔r*Pg<=T+n-1:=cA hp;have j:r<q↔r*Pg<q*Pg:=(Nat.mul_lt_mul_right hp).symm;have k:q*Pg<=(Tp+Pg-1)/Pg*Pg:=aG Pg ((cA hp).2 (by omega))
 grind
theorem Ce{Pg T a n:Nat}{mp:Nat->Bool}(hp:1<=Pg)(i:T% Pg=0)(b:Pg<=T)(h:a% Pg=0)(j:T+n<=a):Qc (fq mp) (T/Pg) ((T+n-1)/Pg+1)<=(a-T)/Pg:=by
 refine aH (dA _ _ _) ?_;have e:(T+n-1)/Pg+1<=a/Pg:=by
  have f:(T+n-1)/Pg<a/Pg:=by
   rw [aO hp]
   grind [Nat.div_add_mod]
  omega
 have g:(a-T)/Pg=a/Pg-T/Pg:=by
  obtain ⟨t,d⟩:∃t,T=t*Pg:=⟨T/Pg,by grind [Nat.div_add_mod]⟩;obtain ⟨l,c⟩:∃l,a=l*Pg:=⟨a/Pg,by grind [Nat.div_add_mod]⟩;rw [d,c,<-jc,cM _ hp,cM _ hp,cM _ hp]
 omega
section
variable{A:AG}{rs:List Nat}{φ L:Nat->Nat}{lo hi:Nat}
theorem ce.w64(h:ce A rs φ L lo hi)(j:hi<=2147483648){x:Nat}(b:Reach A.gr rs x):∀k,φ x<=k->k<φ x+A.sz x->L k<18446744073709551616:=by
 intro k f g;rcases aN (φ x) k with d|d
 ·obtain ⟨i,rfl⟩:∃i,k=φ x+1+i:=⟨k-φ x-1,by omega⟩;rcases aN i (A.np x) with a|a
  ·rw [h.ptr x b i a];by_cases c:A.Qv x i=0
   ·rw [c,h.zero];omega
   ·have e:=h.Qm _ (AG.Ql b a c);omega
  ·have e:=h.val x b i a (by grind [AG.sz]);omega
 ·have:k=φ x:=by omega
  rw [this];obtain ⟨l,m⟩:=h.head x b
  grind [dD,Eg]
theorem ce.cpd2{f e:Nat}{sz i:Nat->Nat}{dom:Nat->Prop}(h:ce A rs φ L lo hi)(c:∀x,Reach A.gr rs x->sz (φ x)=A.sz x/\i (φ x)=A.np x)(m:∀k,lo<=k->k<hi->dom k)(b:∀k,f<=k->k<e->dom k)(j:1<=f)(l:e<1048576)(o:hi<1048576):
  Ie L sz i f e (fun a=>∃x,Reach A.gr rs x/\φ x=a) dom:=by
 refine ⟨?_,?_,b,j,l⟩
 ·rintro a ⟨x,d,rfl⟩;exact ⟨_,_,_,h.head x d,(c x d).1,(c x d).2⟩
 ·rintro a ⟨x,d,rfl⟩;have p:=h.Qm x d;have q:1<=A.sz x:=by unfold AG.sz;omega
  refine ⟨by omega,fun k n g=> ?_⟩;rw [(c x d).1] at g;exact ⟨m k (by omega) (by omega),h.w64 (by omega) d k n g⟩
theorem vS:∀c:List Nat,(∀a∈c,∃x,Reach A.gr rs x/\φ x=a)->∃l:List Nat,c=l.map φ/\∀x∈l,Reach A.gr rs x
 |[],_=>⟨[],rfl,fun x d=>absurd d bF⟩
 |a::t,h=>by
  obtain ⟨x,d,rfl⟩:=h a (cw);obtain ⟨l,f,g⟩:=vS t (fun b e=>h b (bm _ e));refine ⟨x::l,by grind,fun y i=> ?_⟩
  grind
theorem ce.Yi(h:ce A rs φ L lo hi){sz:Nat->Nat}(p:∀x,Reach A.gr rs x->sz (φ x)=A.sz x){c:List Nat}(m:c.Nodup)(o:∀a∈c,∃x,Reach A.gr rs x/\φ x=a)(f:∀x,Reach A.gr rs x->φ x∈c):∃l,dt A rs l/\A.Wd l=n7 sz c:=by
 obtain ⟨l,g,i⟩:=vS c o;refine ⟨l,⟨?_,fun x=>⟨fun d=>i x d,fun d=> ?_⟩⟩,?_⟩
 ·rw [g] at m;exact List.Pairwise.of_map φ (fun a b h e=>h (congrArg φ e)) m
 ·have j:=f x d;rw [g] at j;obtain ⟨y,k,n⟩:=bw.1 j;rw [<-h.inj (i y k) d n];exact k
 grind [AG.Wd,n7,List.map_congr_left]
end
section
variable{m Pg W Fs Us Hg:Nat}{mp:Nat->Bool}{kb wb g:Nat}{S0:Nat->Prop}{w w0 w1:World}{L sz np:Nat->Nat}{To Li:Nat}{R:Nat->Prop}{ls rs:List Nat}{cur:Nat}
def Id(m Pg W Fs Us Hg:Nat)(mp:Nat->Bool)(kb wb:Nat)(S0:Nat->Prop)(w0:World)(L sz np:Nat->Nat)(To:Nat)(R:Nat->Prop)(ls rs:List Nat)(cur:Nat)(w:World):Prop:=
 ∃(ord:List Nat) (s:iB) (c:Nat),Jb m Pg W Fs Us Hg mp kb wb S0 w0 L sz np To R ord cur s w/\cur=To+n7 sz (ord.take c)/\c<=ord.length/\rs.length=ls.length/\∀(i a:Nat),ls[i]? =some a->(a=0/\rs[i]? =some 0)\/(∃z:Nat,s.f a=some z/\rs[i]? =some z)
theorem Ft.loop(h:Ft m Pg W Fs Us Hg mp kb wb g S0 w0 L sz np To R ls rs w)(f:rs.length=ls.length):∃S,Id m Pg W Fs Us Hg mp kb wb S w L sz np To R ls rs To w/\(∀k,S k->S0 k\/w0.heap.size<=k)/\Fr (fun k=>S0 k\/k=kb\/k=wb\/k=g) w0 w:=by
 obtain ⟨b,s,c,j,l,r,n⟩:=h;obtain ⟨S,c1,c2,o⟩:=c.step;obtain ⟨S',p,d,q⟩:=c;exact ⟨S,⟨b,s,0,⟨c1,j,l⟩,by simp [n7],ao _,f,fun i a e=>n i a (by grind) e⟩,c2,d⟩
theorem Id.next(l:Fl L sz np To Li R)(v:Ie L sz np To Li R (cX W Pg mp))(h:Id m Pg W Fs Us Hg mp kb wb S0 w0 L sz np To R ls rs cur w):
  ∃top:Nat,ay w kb [m,.map (some wb),(top:Int)] 217/\cur<=top/\top<=Li/\
   (cur<top->Calls prog 149 #[kb,(cur:Int)] w fun e w'=>∃d:Nat,cur<d/\e= .returned (.int .i64 (d:Int))/\Id m Pg W Fs Us Hg mp kb wb S0 w0 L sz np To R ls rs d w')/\
   (¬cur<top->∃(b:List Nat) (s:iB),s.top=top/\Jb m Pg W Fs Us Hg mp kb wb S0 w0 L sz np To R b s.top s w/\rs.length=ls.length/\∀(i a:Nat),ls[i]? =some a->(a=0/\rs[i]? =some 0)\/(∃z:Nat,s.f a=some z/\rs[i]? =some z)):=by
 obtain ⟨b,s,c,t,E,M,F,N⟩:=h;obtain ⟨⟨S,u,G,H⟩,j,p⟩:=id t;have r:=j.top;have o:=l.fit b j.nd p;have A:n7 sz b=n7 sz (b.take c)+n7 sz (b.drop c):=by rw [<-nZ,dU]
 refine ⟨s.top,u.Qd,by omega,by omega,fun y=> ?_,fun x=> ?_⟩
 ·have n:c<b.length:=by
   grind
  have B:b[c]? =some b[c]:=aC n;refine (GI l v t B E).mono ?_;rintro e w' ⟨k,s',rfl,C,J,D,K⟩;have q:=(l.some _ (p _ (qc n))).2;refine ⟨cur+sz b[c],by omega,rfl,k,s',c+1,C,D,?_,F,fun i a I=> ?_⟩
  ·grind
  grind
 ·have:cur=s.top:=by omega
  grind
theorem y0{A:AG}{b:List Nat}{φ:Nat->Nat}{lo r:Nat}{e:List Nat}{s:iB}(h:ce A b φ L lo r)(d:∀x,Reach A.gr b x->sz (φ x)=A.sz x/\np (φ x)=A.np x)(y:1<=To)
  (k:lh L sz np To e s.top s) (t:∀a∈e,∃x,Reach A.gr b x/\φ x=a) (G:rs.length=(b.map φ).length) (C:∀(i a:Nat),(b.map φ)[i]? =some a->(a=0/\rs[i]? =some 0)\/(∃z:Nat,s.f a=some z/\rs[i]? =some z)):
  ∃(u:Nat->Nat) (l:List Nat),ce A b u s.M To s.top/\rs=b.map u/\dt A b l/\s.top=To+A.Wd l:=by
 have q:s.f 0=none:=by
  refine k.Fh.2 (fun B=> ?_);obtain ⟨x,p,F⟩:=t 0 B;have:=h.pos p;omega
 have c:∀x∈b,x≠0->φ x∈e:=by
  intro x o v;obtain ⟨i,r⟩:=bc.1 o;have hp:=h.pos (.root o v);rcases C i (φ x) (by grind) with ⟨p,_⟩|⟨z,p,_⟩
  ·omega
  ·obtain ⟨j,F,_⟩:=(k.Qs _ _).1 p
   grind
 have n:=h.shut k d c;obtain ⟨l,D,E⟩:=h.Yi (fun x o=>(d x o).1) k.nd t n;refine ⟨fun x=>(s.f (φ x)).getD 0,l,h.copied k y q d n,?_,D,by rw [E];exact k.top⟩;refine eO (fun i=> ?_)
 grind
end
theorem Jh(n:Nat):iS (List.replicate n false)=fun _=>false:=by
 grind [iS]
theorem Dz(s:dE)(M:Nat->Nat):∃L:Nat->Nat,∀a,aw s.E a=true->L (s.F a)=oY s.E s.hp M s.F a:=by
 classical
 refine ⟨fun k=>if h:∃a,aw s.E a=true/\s.F a=k then oY s.E s.hp M s.F h.choose else 0,fun a d=> ?_⟩;have c:∃b,aw s.E b=true/\s.F b=s.F a:=⟨a,d,rfl⟩;show (if h:∃b,aw s.E b=true/\s.F b=s.F a then oY s.E s.hp M s.F h.choose else 0)=_
 rw [dif_pos c];have e:s.Qe+ec s.E c.choose=s.Qe+ec s.E a:=c.choose_spec.2
 grind [ux]
theorem Bj{s:dE}(e:fD s){M:Nat->Nat}{mp:Nat->Bool}(o:∀q,q<s.W/s.P->mp q=lz s.P (aw s.E) (fun _=>false) q)
  (c:∀a,aw s.E a=true->1<=a-cO s.E a->a-cO s.E a<=s.hp (cO s.E a)->M a≠0->aw s.E (M a)=true/\M a<s.W) (l:∀a,aw s.E a=true->M a<18446744073709551616) (r:Qc (lz s.P (aw s.E) (fun _=>false)) 0 (s.W/s.P)<=s.R):
  ∃L,mW s L M mp (fun _=>false) 0 0 s.nb (s.Qe+s.N)/\∀a,aw s.E a=true->L (s.F a)=oY s.E s.hp M s.F a:=by
 obtain ⟨L,d⟩:=Dz s M;have n:df s.B (fun _=>false)=fun _=>false:=rfl
 have m:∀q,pj s.P s.N (fun _=>false) q=false:=fun q=>(mI e.P1).2 (fun a _=>Bool.and_false _)
 have i:∀q,mY s (s.Qe+s.N) q=false:=fun q=>(mI e.P1).2 (fun a _=>by grind)
 have f:Qc (fun _=>false) 0 s.nb=0:=bP (fun _ _ _=>rfl);refine ⟨L,⟨fun a _ _ h=>absurd h bD,fun a _ b _=>(d a b).symm,fun a _ b _=>c a b,fun a _ b _=>l a b,fun k g b=>absurd g (by omega),fun q p=> ?_,⟨fun k j=>absurd j (gK k),ao _,fun _=>rfl⟩,fun _ _=>rfl,⟨f.symm,ao _⟩,(by omega),fun _=>false,fun _ h=>absurd h bD,?_⟩,d⟩
 ·grind [ii]
 simp_all [oH,bP]
section
variable{A:AG}{rs:List Nat}{φ M E hp:Nat->Nat}{lo hi:Nat}
theorem ce.own(h:ce A rs φ M lo hi)(b:mz A rs φ E){a:Nat}(f:aw E a=true):∃x i,Reach A.gr rs x/\cO E a=φ x/\a=φ x+i/\i<A.sz x:=by
 have d:=fK f;obtain ⟨x,c,e⟩:=b.some (cO E a) (by omega);rw [<-e,b.size x c] at d;exact ⟨x,a-φ x,c,e.symm,by omega,by omega⟩
theorem ce.live(h:ce A rs φ M lo hi)(a:mz A rs φ E){x i:Nat}(b:Reach A.gr rs x)(hi:i<A.sz x):aw E (φ x+i)=true:=
 cE.2 ⟨φ x,by omega,by rw [a.size x b];omega⟩
theorem ce.opn_ptr(h:ce A rs φ M lo hi)(k:mz A rs φ E)(b:∀x,Reach A.gr rs x->hp (φ x)=A.np x){W:Nat}(u:hi<=W):∀a,aw E a=true->1<=a-cO E a->a-cO E a<=hp (cO E a)->M a≠0->aw E (M a)=true/\M a<W:=by
 intro a p n o f;obtain ⟨x,i,c,d,m,q⟩:=h.own k p;rw [d,b x c] at o;rw [d] at n;obtain ⟨j,rfl⟩:∃j,i=1+j:=⟨i-1,by omega⟩;have g:=h.ptr x c j (by omega);rw [js,<-m] at g;rw [g] at f ⊢;have l:=AG.Ql c (show j<A.np x by omega) (fun e=>f (by rw [e];exact h.zero));have r:=h.Qm _ l;have s:1<=A.sz (A.Qv x j):=by unfold AG.sz;omega
 have t:=h.live k l (i:=0) (by omega)
 grind
theorem ce.Yj(h:ce A rs φ M lo hi)(b:mz A rs φ E)(d:hi<=2147483648):∀a,aw E a=true->M a<18446744073709551616:=by
 intro a c;obtain ⟨x,i,e,f,g,j⟩:=h.own b c;exact h.w64 d e a (by omega) (by omega)
theorem ce.opn_laid(h:ce A rs φ M lo hi)(b:mz A rs φ E)(c:iG E)(d:∀x,Reach A.gr rs x->hp (φ x)=A.np x){T:Nat}(j:1<=T){L:Nat->Nat}(g:∀a,aw E a=true->L (goes E T a)=oY E hp M (goes E T) a):
  ce A rs (te (goes E T) φ) L T (T+Qc (aw E) 0 hi):=by
 refine h.slide b j (fun x e i hi=> ?_);have f:=g _ (h.live b e hi);have k:=b.size x e;rw [qG (by omega)] at f;rw [f];unfold oY;rw [ul c (s:=φ x) (by omega) (by omega),d x e,ef]
end
theorem Cg{f:Nat->Bool}{n:Nat}(h:n<=Qc f 0 n){i:Nat}(a:i<n):f i=true:=by
 cases hf:f i with
 |true=>rfl
 |false=>
  have b:=bp f (ao (i+1)) (show i+1<=n from a);have c:=bJ f (ao i)
  grind [dA]
theorem dQ.off{S:Nat->Prop}{w:World}{m Pg W Rm Us Hg:Nat}{mp:Nat->Bool}{M:Nat->Nat}(h:dQ w m S Pg W Rm Us Hg mp M){q:Nat}(a:W/Pg<=q):mp q=false:=by
 obtain ⟨p,z,y,x,ws,u,f,e,g,i,v,fr,n,j,k,c,l,o,r,s,d,t,b⟩:=h;rw [d];unfold ep;rw [c.off q a];rfl
theorem mW.done{s:dE}{L M:Nat->Nat}{mp:Nat->Bool}{c:Nat->Bool}{fr y top:Nat}(l:fD s)(h:mW s L M mp c fr y 0 top)(S:top<=s.Qe+s.R*s.P):
  (∀a,s.Qe<=a->a<top->M a=L a)/\∀q,q<s.W/s.P->s.Qe+s.N<=top->mp q=(decide (s.Qe<=q*s.P)&&decide (q*s.P<top)):=by
 have r:=l.P1;have A:=l.B1;have g:∀k,k<s.nb->c k=true:=fun k H=>Cg (by have:=h.left;omega) H
 have j:∀i,i<s.N->c (i/s.B)=true:=fun i G=>g _ ((aO (by omega)).2 (bn G (xU A)))
 have e:∀a,aw s.E a=true->a<s.W/\c (ec s.E a/s.B)=true:=fun a t=>
  ⟨(l.from_ a t).1,j _ (kf t (l.from_ a t).1)⟩
 refine ⟨fun a D u=> ?_,fun q I T=> ?_⟩
 ·rcases aN a (s.Qe+s.N) with f|f
  ·obtain ⟨b,z,w,J⟩:=yi (E:=s.E) (W:=s.W) (i:=a-s.Qe) (by have:s.N=Qc (aw s.E) 0 s.W:=rfl;omega);have C:s.F b=a:=by show s.Qe+ec s.E b=a;omega
   have:=h.Yh b z w (e b w).2
   grind
  ·exact h.behind a f u
 ·have v:lz s.P (aw s.E) (df s.B c) q=false:=(mI r).2 (fun a _=>by
   cases hl:aw s.E a with
   |false=>rfl
   |true=>
    show (!(c (ec s.E a/s.B)))=false
    grind)
  rw [h.Qx q I,v,gF];unfold ii;by_cases m:s.Qe/s.P<=q
  ·have K:=l.toq;have O:s.Qe/s.P*s.P<=q*s.P:=aG _ m;have Q:(q-s.Qe/s.P)*s.P=q*s.P-s.Qe/s.P*s.P:=jc _ _ _;rw [decide_eq_true m,decide_eq_true (show s.Qe<=q*s.P by omega),cH,cH,bM];simp only [ak,bL,decide_eq_true_eq];unfold pj mY;rw [bU r,bU r];constructor
   ·rintro ⟨_,x⟩;have p:∃i,i/s.P=q-s.Qe/s.P/\s.Qe+i<top:=by
     rcases x with ⟨i,n,o⟩|⟨i,n,o⟩
     ·rw [ak,decide_eq_true_eq] at o;exact ⟨i,n,by omega⟩
     ·rw [ak,decide_eq_true_eq,decide_eq_true_eq] at o;exact ⟨i,n,o.2⟩
    obtain ⟨i,n,o⟩:=p;have d:(q-s.Qe/s.P)*s.P<=i:=by rw [<-n];exact ba _ _
    omega
   ·intro x;have p:(q-s.Qe/s.P)*s.P/s.P=q-s.Qe/s.P:=cM _ r;refine ⟨?_,?_⟩
    ·rcases aN q (s.Qe/s.P+s.R) with d|d
     ·exact d
     ·have U:=aG s.P d
      grind
    ·rcases aN ((q-s.Qe/s.P)*s.P) s.N with d|d
     ·exact .inl ⟨_,p,by
       rw [decide_eq_true d,cH];exact j _ d⟩
     ·exact .inr ⟨_,p,by grind⟩
  grind [Nat.div_le_div_right,Nat.mul_div_cancel]
theorem tq{n:Nat}(h:bV (n:Int)=true):∃i,n=2^i:=by
 obtain ⟨i,_,a⟩:=(iJ _).1 h;exact ⟨i,by grind⟩
theorem ug{a b:Nat}(d:bV (a:Int)=true)(e:bV (b:Int)=true)(h:a<=b):a∣b:=by
 obtain ⟨i,rfl⟩:=tq d;obtain ⟨j,rfl⟩:=tq e;rcases kW i j with c|c
 ·grind [Nat.pow_dvd_pow]
 ·have:=bl (show 0<2 by omega) c;rw [show 2^i=2^j by omega];simp_all
section
variable{c:Cf}
theorem iC.div(a:iC c):c.Pg∣c.block\/c.block∣c.Pg:=by
 rcases kW c.Pg c.block with h|h
 ·exact .inl (ug a.Qu a.Yz h)
 ·exact .inr (ug a.Yz a.Qu h)
theorem iC.wp(a:iC c):c.Wd% c.Pg=0:=Nat.mod_eq_zero_of_dvd (ug a.Qu a.words1 a.words4)
theorem iC.Wp(a:iC c):c.W% c.Pg=0:=by
 have h:=a.wp;unfold Cf.W;split
 ·simp_all
 simp_all [Nat.add_mod]
theorem iC.W5(a:iC c):c.W<=524288/\c.Pg<=c.W/\c.Pg+c.Wd<=c.W:=by
 have b:=a.Xr;have d:=a.Yu
 grind [Cf.W]
def Cf.half(c:Cf)(Ba:Nat):Prop:=Ba=c.Pg\/(c.kind≠3/\Ba=c.Pg+c.Wd)
theorem Cf.half.other{Ba:Nat}(h:c.half Ba)(a:c.kind≠3):c.half (2*c.Pg+c.Wd-Ba):=by
 rcases h with rfl|⟨_,rfl⟩
 ·exact .inr ⟨a,by omega⟩
 ·exact .inl (by omega)
theorem Cf.half.le{Ba:Nat}(h:c.half Ba):c.Pg<=Ba/\Ba<=c.Pg+c.Wd:=by
 rcases h with rfl|⟨_,rfl⟩<;>omega
theorem Cf.half.mod{Ba:Nat}(h:c.half Ba)(a:iC c):Ba% c.Pg=0:=by
 rcases h with rfl|⟨_,rfl⟩
 ·simp_all
 ·rw [Nat.add_mod_left];exact a.wp
theorem Cf.half.top{Ba:Nat}(h:c.half Ba):Ba+c.Wd<=c.W:=by
 unfold Cf.W;rcases h with rfl|⟨a,rfl⟩
 ·omega
 grind
theorem Cf.half.conf{Ba u:Nat}(h:c.half Ba)(a:iC c)(i:c.kind≠3)(o:u<=c.Wd):nU c.Pg c.W Ba (Ba+u) (2*c.Pg+c.Wd-Ba) (2*c.Pg+c.Wd-Ba+c.Wd) c.block c.stack c.Ah:=by
 have e:=h.other i;have j:=h.le;have k:=e.le;have l:=h.top;have m:=e.top;have n:=a.words2;have f:=e.mod a;have g:=a.wp;refine ⟨a.Yz,a.block2,a.Yn,a.Za,a.Zb,a.Yo,by omega,by omega,by omega,by omega,by omega,by omega,h.mod a,f,by rw [mn,f,g];rfl,a.Qu,?_⟩;rcases h with rfl|⟨_,rfl⟩
 ·right;have hp:=a.Qp;have b:(c.Pg+c.Wd)/c.Pg*c.Pg=c.Pg+c.Wd:=by
   grind [Nat.div_add_mod]
  have d:(c.Pg+u+c.Pg-1)/c.Pg<=(c.Pg+c.Wd)/c.Pg:=by
   rw [<-Nat.lt_succ_iff,aO (by omega),dh,b];omega
  have:=aG c.Pg d;omega
 omega
end
structure Hp where
 b:Nat
 m:Nat
 rb:Nat
 rg:Nat
def Jw(c:Cf)(m Ba top:Nat)(L:Nat->Nat)(S:Nat->Prop)(w:World):Prop:=
 ∃Us Hg mp,dJ m c.Pg c.W c.Fs Us Hg mp L S w/\∀q,mp q=(decide (Ba<=q*c.Pg)&&decide (q*c.Pg<top))
def sM(c:Cy)(s:dE)(hf hg:Nat->Nat)(Fs top:Nat)(Mv:List Bool)(left fr ah Us:Nat)(L:Nat->Nat)(S:Nat->Prop)(w:World):Prop:=
 ∃Hg Sm mp M fw n,jO c s hf hg Fs Us Hg Sm mp M Mv fw n left fr ah w/\mW s L M mp (iS Mv) fr ah left top/\(∀q,(fw q).getD 0=qF s (df s.B (iS Mv)) q)/\n<4611686018427387904/\∀k,S k↔(Sm k\/c.has k)
theorem kl.su{c:Cy}{s:dE}{hf hg:Nat->Nat}{Fs top:Nat}{a:List Bool}{left fr b:Nat}{L:Nat->Nat}{S:Nat->Prop}{w:World}(h:kl c s hf hg Fs top a left fr b L S w):∃Us,sM c s hf hg Fs top a left fr b Us L S w:=
 let ⟨Us,Hg,d,mp,M,e,n,h⟩:=h;⟨Us,Hg,d,mp,M,e,n,h⟩
theorem sM.s{c:Cy}{s:dE}{hf hg:Nat->Nat}{Fs top:Nat}{a:List Bool}{left fr b Us:Nat}{L:Nat->Nat}{S:Nat->Prop}{w:World}(h:sM c s hf hg Fs top a left fr b Us L S w):kl c s hf hg Fs top a left fr b L S w:=
 let ⟨Hg,d,mp,M,e,n,h⟩:=h;⟨Us,Hg,d,mp,M,e,n,h⟩
theorem sM.stays{c:Cy}{s:dE}{hf hg:Nat->Nat}{Fs top:Nat}{e:List Bool}{left fr f Us:Nat}{L:Nat->Nat}{S:Nat->Prop}{w w':World}{T:Nat->Prop}(h:sM c s hf hg Fs top e left fr f Us L S w)(a:Fr T w w')(g:∀k,S k->¬T k)(l:¬T ch):sM c s hf hg Fs top e left fr f Us L S w':=by
 obtain ⟨Hg,i,mp,M,j,n,m,o,p,q,d⟩:=h;exact ⟨Hg,i,mp,M,j,n,m.frame a (fun k b=>g k ((d k).2 (.inr b))) (fun k b=>g k ((d k).2 (.inl b))) l,o,p,q,d⟩
def Jx(c:Cf)(m Ba top:Nat)(q:Nat->Prop)(y n:Nat)(L:Nat->Nat)(S:Nat->Prop)(w:World):Prop:=
 c.kind=1/\∃cc s hf hg Mv fr ah,AA cc s hf hg c.Fs top/\(∃Us,q Us/\sM cc s hf hg c.Fs top Mv n fr ah Us L S w)/\cc.y=y/\cc.m=m/\s.Qe=Ba/\s.P=c.Pg/\s.R=c.Wd/c.Pg/\s.W=c.W/\s.B=c.block/\s.Ah=c.Ah
def xn(c:Cf)(m Ba top:Nat)(q:Nat->Prop)(L:Nat->Nat)(S:Nat->Prop)(w:World):Option Nat->Nat->Prop
 |none,n=>n=0/\Jw c m Ba top L S w
 |some y,n=>Jx c m Ba top q y n L S w
structure lp(q:Nat->Prop)(h:Hp)(c:Cf)(A:AG)(rs:List Nat)(φ L:Nat->Nat)(Ba u ub:Nat)(cy:Option Nat)(n:Nat)(ns bs:Int)(S:Nat->Prop)(w:World):Prop where
 Qw:iC c
 Qd:nS w h.b c h.m h.rb ub cy ns bs
 roots:cz w h.rb h.rg (rs.map φ)
 Yd:eW w ub h.m Ba (Ba+u) (Ba+c.Wd)
 Qo:ee w
 laid:ce A rs φ L Ba (Ba+u)
 Sl:rs.length=c.Sl
 fits:u<=c.Wd
 half:c.half Ba
 mem:xn c h.m Ba (Ba+u) q L S w cy n
 d:∀k,S k->k≠h.b/\k≠h.rb/\k≠h.rg/\k≠ub/\k≠ch
 e:h.b≠h.rb/\h.b≠h.rg/\h.b≠ub/\h.rb≠ub/\h.rg≠ub/\h.b≠ch/\h.rg≠ch/\ub≠ch/\h.rb≠ch
def lC(h:Hp)(ub:Nat)(S:Nat->Prop)(k:Nat):Prop:=S k\/k=h.b\/k=h.rb\/k=h.rg\/k=ub
def Fp(b:Nat)(c:Cf)(A:AG)(rs:List Nat)(u n:Nat)(T:Nat->Prop)(w:World):Prop:=
 ∃h φ L Ba ub cy ns bs S,h.b=b/\lp (fun _=>True) h c A rs φ L Ba u ub cy n ns bs S w/\(∀k,T k↔lC h ub S k)
def eF(b:Nat)(c:Cf)(A:AG)(rs:List Nat)(u n:Nat)(T:Nat->Prop)(w:World):Prop:=
 ∃h φ L Ba ub cy ns bs S,h.b=b/\lp (fun _=>True) h c A rs φ L Ba u ub cy n ns bs S w/\(∀k,T k↔lC h ub S k)/\(n=0->cy=none)
section
variable{b:Nat}{h:Hp}{c:Cf}{A:AG}{rs:List Nat}{φ L:Nat->Nat}{Ba u ub:Nat}{cy:Option Nat}{n:Nat}{ns bs:Int}{S T X q:Nat->Prop}{w w' w'':World}
theorem xn.stays(g:xn c h.m Ba (Ba+u) q L S w cy n)(hf:Fr X w w')(f:∀k,S k->¬X k)(p:¬X ch):xn c h.m Ba (Ba+u) q L S w' cy n:=by
 cases cy with
 |none=>
  obtain ⟨o,Us,Hg,mp,d,e⟩:=g;exact ⟨o,Us,Hg,mp,(cD _ _ _ _ _ _ _) _ _ _ _ _ d hf f,e⟩
 |some y=>
  obtain ⟨r,l,s,a,hg,i,fr,j,d,⟨Us,v,e⟩,t⟩:=g;exact ⟨r,l,s,a,hg,i,fr,j,d,⟨Us,v,e.stays hf f p⟩,t⟩
theorem xn.lt(a:xn c h.m Ba (Ba+u) q L S w cy n):∀k,S k->k<w.heap.size:=by
 cases cy with
 |none=>
  obtain ⟨l,Us,Hg,mp,d,e⟩:=a;exact (bR _ _ _ _ _ _ _).lt _ _ _ d
 |some y=>
  obtain ⟨o,j,s,f,hg,g,fr,i,d,⟨Us,r,e⟩,p⟩:=a;exact e.s.lt
theorem lp.lt(a:lp q h c A rs φ L Ba u ub cy n ns bs S w):∀k,lC h ub S k->k<w.heap.size:=by
 intro k d;rcases d with d|rfl|rfl|rfl|rfl
 ·exact a.mem.lt k d
 ·exact ay.lt a.Qd
 ·exact a.roots.Qd.lt
 ·exact a.roots.row.lt
 ·exact ay.lt a.Yd
theorem lp.stays(a:lp q h c A rs φ L Ba u ub cy n ns bs S w)(hf:Fr X w w')(f:∀k,lC h ub S k->¬X k)(g:¬X ch):lp q h c A rs φ L Ba u ub cy n ns bs S w':=
 ⟨a.Qw,ay.frame a.Qd hf (f _ (.inr (.inl rfl))),a.roots.frame hf (f _ (.inr (.inr (.inl rfl)))) (f _ (.inr (.inr (.inr (.inl rfl))))),ay.frame a.Yd hf (f _ (.inr (.inr (.inr (.inr rfl))))),aE a.Qo hf g,a.laid,a.Sl,a.fits,a.half,a.mem.stays hf (fun k i=>f k (.inl i)) g,a.d,a.e⟩
theorem lp.Qb(a:lp q h c A rs φ L Ba u ub cy n ns bs S w)(hf:J7 w w'):lp q h c A rs φ L Ba u ub cy n ns bs S w':=a.stays hf (fun _ _ h=>h) id
theorem eF.stays(f:eF b c A rs u n T w)(hf:Fr X w w')(d:∀k,T k->¬X k)(e:¬X ch):eF b c A rs u n T w':=by
 obtain ⟨h,φ,L,Ba,ub,cy,ns,bs,S,i,j,a,l⟩:=f;exact ⟨h,φ,L,Ba,ub,cy,ns,bs,S,i,j.stays hf (fun k g=>d k ((a k).2 g)) e,a,l⟩
theorem eF.Qb(a:eF b c A rs u n T w)(hf:J7 w w'):eF b c A rs u n T w':=a.stays hf (fun _ _ h=>h) id
theorem eF.lt(a:eF b c A rs u n T w):∀k,T k->k<w.heap.size:=by
 obtain ⟨h,φ,L,Ba,ub,cy,ns,bs,S,g,e,f,i⟩:=a;exact fun k d=>e.lt k ((f k).1 d)
theorem eF.Qo(g:eF b c A rs u n T w):ee w/\ch<w.heap.size/\¬T ch:=by
 obtain ⟨h,φ,L,Ba,ub,cy,ns,bs,S,x,f,j,y⟩:=g;obtain ⟨k,l,m,o,p,r,s,t,v⟩:=f.e;refine ⟨f.Qo,bu (f.Qo 0 0 rfl),fun i=> ?_⟩;rcases (j _).1 i with a|a|a|a|a
 ·exact (f.d _ a).2.2.2.2 rfl
 ·omega
 ·omega
 ·omega
 omega
theorem eF.cf(d:eF b c A rs u n T w):iC c/\rs.length=c.Sl/\u<=c.Wd:=by
 obtain ⟨h,φ,L,Ba,ub,cy,ns,bs,S,e,a,f,g⟩:=d;exact ⟨a.Qw,a.Sl,a.fits⟩
end
section
variable{P:Program}
def ew(P:Program)(ρ:Operand->Value)(o:Oper)(w:World)(post:Value->World->Prop):Prop:=
 match (execOp ρ o).run P w with
 | .ok (.value v) w'=>post v w'
 | .ok .skip w'=>post undef w'
 | .ok (.enter f args) w'=>Calls P f args w' fun e w''=>∃v,e= .returned v/\post v w''
 |_=>False
theorem ew.wp{o:Oper}{a:Act}{w:World}{b:Value->World->Prop}{Q:Exit->Act->World->Prop}(h:ew P a.eval o w b):o.wp P a w (fun c w'=>∃v,c=a.put o.dst v/\b v w') Q:=by
 unfold ew at h;unfold Oper.wp;generalize (execOp a.eval o).run P w=r at*
 cases r with
 |halt x w'=>grind
 |ok n w'=>
  cases n<;>simp only [Oper.upon] at h ⊢
  case value v=>grind
  case skip=>grind
  case enter f args=>
   refine Calls.mono h ?_
   grind
theorem aJ{ρ:Operand->Value}{o:Oper}{w w':World}{a:Value->World->Prop}(v:Value)(h:(execOp ρ o).run P w= .ok (.value v) w')(hp:a v w'):ew P ρ o w a:=by
 grind [ew]
theorem fZ{ρ:Operand->Value}{o:Oper}{w w':World}{a:Value->World->Prop}(h:(execOp ρ o).run P w= .ok .skip w')(hp:a undef w'):ew P ρ o w a:=by
 grind [ew]
theorem bh{ρ:Operand->Value}{o:Oper}{w w':World}{a:Value->World->Prop}(f:FuncId)(args:Array Value)(h:(execOp ρ o).run P w= .ok (.enter f args) w')(hp:Calls P f args w' fun e b=>∃v,e= .returned v/\a v b):ew P ρ o w a:=by
 grind [ew]
def gv:Value->Option Nat
 | .pointer (some a)=>some a.block
 | .slice (some a) _ _=>some a.block
 | .map b=>b
 |_=>none
def pA(w w':World)(v:Value):Prop:=∃g,gv v=some g/\w.heap.size<=g/\g<w'.heap.size
def dp(vs:Nat->Value):Nat->List Oper->Array Value->Array Value
 |_,[],t=>t
 |k,o::l,t=>dp vs (k+1) l (match o.dst with|some d=>t.setIfInBounds d (vs k)|none=>t)
theorem jo{vs:Nat->Value}{x:Nat}:∀(l:List Oper) (k:Nat) (t:Array Value),(∀o∈l,o.dst≠some x)->(dp vs k l t)[x]? =t[x]?
 |[],_,_,_=>rfl
 |o::l,k,t,h=>by
  have b:=h o cw;unfold dp;rw [jo l (k+1) _ (fun o' a=>h o' (bm _ a))]
  grind
theorem mH{vs:Nat->Value}{d:Nat}:∀(l:List Oper) (k j:Nat) (t:Array Value) (o:Oper),l[j]? =some o->o.dst=some d->(∀i o',l[i]? =some o'->o'.dst=some d->i=j)->(dp vs k l t)[d]? =(t[d]?).map fun _=>vs (k+j)
 |[],_,_,_,_,h,_,_=>by cases h
 |o'::l,k,0,t,o,h,hd,hu=>by
  obtain rfl:o'=o:=bK h;unfold dp;rw [jo l (k+1) _ (fun b c e=>by
   obtain ⟨i,a⟩:=bc.1 c;have:=hu (i+1) b a e;omega),hd]
  grind
 |o'::l,k,j+1,t,o,h,hd,hu=>by
  unfold dp;rw [mH l (k+1) j _ o h hd (fun i b a e=>by have:=hu (i+1) b a e;omega),show k+1+j=k+(j+1) by omega]
  grind
def eE(o:Oper)(j:Nat):Bool:=o.after.any fun e=>Region.binds .any e&&e.on==j
def Dd(o:Oper):List Tmp:=o.op.operands.toList.filterMap fun| .tmp t=>some t|_=>none
def kc(l:List Oper):Bool:=
 l.all fun o=>o.guard.isNone&&(match o.op with| .select _ _=>false| .defer _=>false|_=>true)
def iR(l:List Oper):Bool:=
 (List.range l.length).all fun i=>match l[i]? with
  |none=>true
  |some o=>(o.after.all fun e=> !Region.binds .any e||decide (e.on<i))&&(List.range l.length).all fun j=>match l[j]? with
   |none=>true
   |some p=>match p.dst with
    |none=>true
    |some d=>(!(Dd o).contains d||eE o j)&&(i==j||o.dst !=some d)
structure qK(l:List Oper):Prop where
 guard:∀(i:Nat) (o:Oper),l[i]? =some o->o.guard=none
 sel:∀(i:Nat) (o:Oper),l[i]? =some o->∀cs b,o.op≠ .select cs b
 dfr:∀(i:Nat) (o:Oper),l[i]? =some o->∀c,o.op≠ .defer c
 back:∀(i:Nat) (o:Oper),l[i]? =some o->∀e∈o.after,Region.binds .any e=true->e.on<i
 reads:∀(i:Nat) (o:Oper) (j:Nat) (p:Oper) (d:Nat),l[i]? =some o->l[j]? =some p->p.dst=some d->Operand.tmp d∈o.op.operands->eE o j=true
 once:∀(i:Nat) (o:Oper) (j:Nat) (p:Oper) (d:Nat),l[i]? =some o->l[j]? =some p->p.dst=some d->o.dst=some d->i=j
theorem kK{l:List Oper}(h:kc l=true)(k:iR l=true):qK l:=by
 unfold kc at h;unfold iR at k;rw [fm] at h k;have q:∀(i:Nat) (o:Oper),l[i]? =some o->i<l.length:=fun i o a=>(aj.1 a).1
 have g:∀(i:Nat) (o:Oper),l[i]? =some o->o.guard=none/\(∀cs b,o.op≠ .select cs b)/\∀c,o.op≠ .defer c:=fun i o a=>by
  have m:=h o (ar a);rw [ak] at m
  grind [Option.isNone_iff_eq_none]
 have n:∀(i:Nat) (o:Oper),l[i]? =some o->(∀e∈o.after,Region.binds .any e=true->e.on<i)/\∀(j:Nat) (p:Oper) (d:Nat),l[j]? =some p->p.dst=some d->((Dd o).contains d=true->eE o j=true)/\(o.dst=some d->i=j):=fun i o a=>by
  have m:=k i (bO.2 (q i o a));simp only [a,ak,fm] at m;refine ⟨fun e s r=> ?_,fun j p d hp f=> ?_⟩
  ·grind [Array.all_eq_true_iff_forall_mem]
  grind
 refine ⟨fun i o a=>(g i o a).1,fun i o a=>(g i o a).2.1,fun i o a=>(g i o a).2.2,fun i o a=>(n i o a).1,fun i o j p d a hp f t=> ?_,fun i o j p d a hp f e=>((n i o a).2 j p d hp f).2 e⟩;refine ((n i o a).2 j p d hp f).1 ?_;rw [lr];exact List.mem_filterMap.2 ⟨.tmp d,by grind,rfl⟩
def jV(m n:Nat):Array Bool:=((List.range m).map fun j=>decide (j<n)).toArray
def dq(l:List Oper)(t i:Nat):Bool:=match l[t]? with
 |some o=>eE o i
 |none=>false
def uf(l:List Oper):Nat->Nat->Nat->Bool
 |0,t,i=>dq l t i
 |f+1,t,i=>dq l t i||(List.range l.length).any fun k=>dq l t k&&uf l f k i
def zy(l:List Oper)(n:Nat):Bool:=(List.range l.length).all fun t=>decide (t<n)||(List.range n).all fun i=>uf l 3 t i
def so(l:List Oper)(n:Nat):Prop:=∀(D:Nat->Prop) (t:Nat),n<=t->t<l.length->(∀k i,D k->dq l k i=true->D i)->(∀k,dq l t k=true->D k)->∀i,i<n->D i
def EP(l:List Oper):Nat->List Nat->List Nat
 |0,S=>S
 |k+1,S=>EP l k (if S.any (fun m=>dq l m k) then k::S else S)
def C3(l:List Oper)(n:Nat):Bool:=(List.range l.length).all fun t=>decide (t<n)||(List.range n).all fun i=>(EP l t [t]).contains i
theorem Ad{l:List Oper}{D:Nat->Prop}{t:Nat}(a:∀k i,D k->dq l k i=true->D i)(b:∀k,dq l t k=true->D k):∀(k:Nat) (S:List Nat),(∀m∈S,m=t\/D m)->∀m∈EP l k S,m=t\/D m
 |0,_,h,m,hm=>h m hm
 |k+1,S,h,m,hm=>by
  refine Ad a b k _ (fun x c=> ?_) m hm
  grind
theorem vk{l:List Oper}{n:Nat}(h:C3 l n=true):so l n:=fun D t k b d j i f=>by
 have a:=fm.1 h t (bO.2 b);rw [decide_eq_false (show¬t<n by omega),gF] at a;have c:=fm.1 a i (bO.2 f);rcases Ad d j t [t] (fun m g=> .inl (dc.1 g)) i (lr.1 c) with e|e
 ·omega
 omega
theorem vq{l:List Oper}{D:Nat->Prop}(b:∀k i,D k->dq l k i=true->D i):∀(f t i:Nat),(∀k,dq l t k=true->D k)->uf l f t i=true->D i
 |0,t,i,ht,h=>ht i h
 |f+1,t,i,ht,h=>by
  unfold uf at h;rw [bL] at h;rcases h with h|h
  ·grind
  ·obtain ⟨k,_,a⟩:=kE.1 h;rw [ak] at a;exact vq b f k i (fun m c=>b k m (ht k a.1) c) a.2
theorem vj{l:List Oper}{n:Nat}(h:zy l n=true):so l n:=fun D t f b c e i d=>by
 have a:=fm.1 h t (bO.2 b);rw [decide_eq_false (show¬t<n by omega),gF] at a;exact vq c 3 t i e (fm.1 a i (bO.2 d))
variable{R R1:World->World->Prop}{Inv:World->Prop}{Pre:Nat->World->Prop}{St:Nat->World->World->Prop}{Ps:Nat->Value->World->Prop}{nw:Nat->Bool}{n d:Nat}
structure Fb(l:List Oper)(n:Nat)(a0:Act)(w0:World)(Inv:World->Prop)(Pre:Nat->World->Prop)(Ps:Nat->Value->World->Prop)(nw:Nat->Bool)(vs:Nat->Value)(listed:Array Bool)(a:Act)(w:World):Prop where
 news:∀j,nw j=true->j<n->listed.getD j true=true->pA w0 w (vs j)
 diff:∀i j,nw i=true->nw j=true->i<n->j<n->listed.getD i true=true->listed.getD j true=true->i≠j->gv (vs i)≠gv (vs j)
 size:listed.size=l.length
 tail:∀j,n<=j->j<l.length->listed.getD j true=false
 shut:∀k i,(k<l.length/\listed.getD k true=true)->dq l k i=true->(i<l.length/\listed.getD i true=true)
 defers:a.defers=a0.defers
 rel:Inv w
 grow:w0.heap.size<=w.heap.size
 pre:∀k,k<n->listed.getD k true=false->Pre k w
 posts:∀j,j<n->listed.getD j true=true->Ps j (vs j) w
 set:∀(j:Nat) (o:Oper) (d:Nat),l[j]? =some o->listed.getD j true=true->o.dst=some d->a.tmps[d]? =(a0.tmps[d]?).map fun _=>vs j
 rest:∀t:Nat,(∀(j:Nat) (o:Oper),l[j]? =some o->listed.getD j true=true->o.dst≠some t)->a.tmps[t]? =a0.tmps[t]?
def mT(P:Program)(F:(Nat->Value)->Act)(Inv:World->Prop)(Pre:Nat->World->Prop)(St:Nat->World->World->Prop)(Ps:Nat->Value->World->Prop)(nw:Nat->Bool):Nat->List Oper->Prop
 |_,[]=>True
 |k,o::l=>(∀vs w,Inv w->Pre k w->(∀j,eE o j=true->Ps j (vs j) w)->(∀i j,nw i=true->nw j=true->eE o i=true->eE o j=true->i≠j->gv (vs i)≠gv (vs j))->ew P (F vs).eval o w (fun v w'=>Ps k v w'/\St k w w'/\(nw k=true->pA w w' v)))/\mT P F Inv Pre St Ps nw (k+1) l
theorem sf{F:(Nat->Value)->Act}:∀{l:List Oper} {k:Nat} (j:Nat) (o:Oper),mT P F Inv Pre St Ps nw k l->l[j]? =some o->∀vs w,Inv w->Pre (k+j) w->(∀i,eE o i=true->Ps i (vs i) w)->(∀i j,nw i=true->nw j=true->eE o i=true->eE o j=true->i≠j->gv (vs i)≠gv (vs j))->ew P (F vs).eval o w (fun v w'=>Ps (k+j) v w'/\St (k+j) w w'/\(nw (k+j)=true->pA w w' v))
 |[],_,_,_,_,h=>by cases h
 |o'::l,k,0,o,ha,h=>by
  obtain rfl:o'=o:=bK h;exact ha.1
 |o'::l,k,j+1,o,ha,h=>by
  have:=sf (k:=k+1) j o ha.2 h
  grind
def mU(P:Program)(wd:Nat->Bool)(F:(Nat->Value)->Act)(w0:World)(d:Nat)(R R1:World->World->Prop)(Ps:Nat->Value->World->Prop)(nw:Nat->Bool):Nat->List Oper->Prop
 |_,[]=>True
 |k,o::l=>(∀vs w,R w0 w->((k==d||wd k)=true->R1 w0 w)->(∀j,eE o j=true->Ps j (vs j) w)->(∀i j,nw i=true->nw j=true->eE o i=true->eE o j=true->i≠j->gv (vs i)≠gv (vs j))->ew P (F vs).eval o w (fun v w'=>Ps k v w'/\(bif k==d then R w w' else R1 w w')/\(nw k=true->pA w w' v)))/\mU P wd F w0 d R R1 Ps nw (k+1) l
theorem pS{a:Nat->Bool}{F:(Nat->Value)->Act}{w0:World}:∀{l:List Oper} {k:Nat},mU P a F w0 d R R1 Ps nw k l->mT P F (R w0) (fun k w=>(k==d||a k)=true->R1 w0 w) (fun k w w'=>bif k==d then R w w' else R1 w w') Ps nw k l
 |[],_,_=>trivial
 |_::_,_,h=>⟨h.1,pS h.2⟩
def AQ(n:Nat)(listed:Array Bool):List Nat:=(List.range n).filter fun j=> !listed.getD j true
theorem iW{a:Array Bool}{i j:Nat}(b:i<a.size):(a.setIfInBounds i true).getD j true=(decide (i=j)||a.getD j true):=by
 by_cases e:i=j
 ·simp_all
 simp_all
theorem Fu{n i:Nat}{a:Array Bool}(b:i<a.size)(h:i∈AQ n a):(AQ n (a.setIfInBounds i true)).length+1=(AQ n a).length:=by
 have e:AQ n (a.setIfInBounds i true)=(AQ n a).filter (fun j=>j !=i):=by
  unfold AQ;rw [List.filter_filter];congr 1
  funext j;rw [iW b]
  grind
 have c:(AQ n a).Nodup:=List.Pairwise.filter _ List.nodup_range;rw [e,<-c.erase_eq_filter,List.length_erase_of_mem h]
 grind
def uI(W1:Nat->(Act->World->Prop)->Act->World->Prop)(md:Region.Mode)(ops:Array Oper)(Q:Exit->Act->World->Prop):Nat->Array Bool->Act->World->Prop
 |0,listed,a,w=>Region.ready md ops listed=[]/\Q .normal a w
 |fuel+1,listed,a,w=>
  (Region.ready md ops listed=[]->Q .normal a w)/\
  ∀i∈Region.ready md ops listed,W1 i (uI W1 md ops Q fuel (listed.setIfInBounds i true)) a w
theorem Aq{c:Array Oper}{md:Region.Mode}{Q:Exit->Act->World->Prop}:∀(f:Nat) (b:Array Bool) (a:Act) (w:World),uI (wpOp P c Q) md c Q f b a w->wpAny P md c Q f b a w
 |0,_,_,_,h=>h
 |f+1,_,_,_,h=>⟨h.1,fun i e=>wpOp_mono (fun a w h=>Aq f _ a w h) (h.2 i e)⟩
theorem zl{c:Array Oper}{md:Region.Mode}{Q:Exit->Act->World->Prop}:∀(f:Nat) (b:Array Bool) (a:Act) (w:World),wpAny P md c Q f b a w->uI (wpOp P c Q) md c Q f b a w
 |0,_,_,_,h=>h
 |f+1,_,_,_,h=>⟨h.1,fun i e=>wpOp_mono (fun a w h=>zl f _ a w h) (h.2 i e)⟩
theorem Bb{W1:Nat->(Act->World->Prop)->Act->World->Prop}{l:List Oper}{r:Act}{w0:World}{Q:Exit->Act->World->Prop}(A:qK l)(aS:∀i K K' a w,(∀a w,K a w->K' a w)->W1 i K a w->W1 i K' a w)(aT:∀i o a w Y,l[i]? =some o->ew P a.eval o w Y->W1 i (fun a' w'=>∃v,a'=a.put o.dst v/\Y v w') a w)(hn:n<=l.length)(a1:so l n)
  (hz:∀k w w',St k w w'->w.heap.size<=w'.heap.size) (ap:∀k w w',Inv w->Pre k w->St k w w'->Inv w') (av:∀j k w w',j≠k->dq l k j=false->Inv w->Pre j w->Pre k w->St k w w'->Pre j w') (bb:∀j k v w w',j≠k->Pre k w->Ps j v w->St k w w'->Ps j v w')
  (aq:mT P (fun vs=>{r with tmps:=dp vs 0 (l.take n) r.tmps}) Inv Pre St Ps nw 0 (l.take n)) (an:∀vs w,Inv w->(∀j,j<n->Ps j (vs j) w)->(∀j,nw j=true->j<n->pA w0 w (vs j))->(∀i j,nw i=true->nw j=true->i<n->j<n->i≠j->gv (vs i)≠gv (vs j))->uI W1 .any l.toArray Q (l.length-n) (jV l.length n) {r with tmps:=dp vs 0 (l.take n) r.tmps} w):
  ∀(f:Nat) (b:Array Bool) (vs:Nat->Value) (a:Act) (w:World),(AQ n b).length=f->Fb l n r w0 Inv Pre Ps nw vs b a w->uI W1 .any l.toArray Q (f+(l.length-n)) b a w:=by
 have U:∀j:Nat,l.toArray[j]? =l[j]? :=fun j=>by simp
 have L:∀(j:Nat) (o:Oper),(l.take n)[j]? =some o↔j<n/\l[j]? =some o:=fun j o=>by
  grind
 have G:∀(vs:Nat->Value) (j:Nat) (o:Oper) (d:Nat),j<n->l[j]? =some o->o.dst=some d->(dp vs 0 (l.take n) r.tmps)[d]? =(r.tmps[d]?).map fun _=>vs j:=fun vs j o d q J E=>by
  rw [mH (l.take n) 0 j _ o ((L j o).2 ⟨q,J⟩) E (fun i o' M e=>A.once i o' j o d ((L i o').1 M).2 J E e),bq]
 have W:∀(vs:Nat->Value) (t:Nat),(¬∃(j:Nat) (o:Oper),j<n/\l[j]? =some o/\o.dst=some t)->(dp vs 0 (l.take n) r.tmps)[t]? =r.tmps[t]? :=fun vs t h=>
  jo (l.take n) 0 _ (fun o J e=>h (let ⟨j,q⟩:=bc.1 J;⟨j,o,((L j o).1 q).1,((L j o).1 q).2,e⟩))
 have I:∀{b:Array Bool} {vs:Nat->Value} {a:Act} {w:World},Fb l n r w0 Inv Pre Ps nw vs b a w->∀j,j<l.length->b.getD j true=true->j<n:=fun c j q s=>by
  rcases aN j n with h|h
  ·exact h
  ·rw [c.tail j h q] at s;cases s
 have ao:∀(b:Array Bool) (vs:Nat->Value) (a:Act) (w:World),Fb l n r w0 Inv Pre Ps nw vs b a w->(∀j,j<n->b.getD j true=true)->uI W1 .any l.toArray Q (0+(l.length-n)) b a w:=by
  intro b vs a w c z;have aU:a={r with tmps:=dp vs 0 (l.take n) r.tmps}:=by
   obtain ⟨t,d⟩:=a;have h1:d=r.defers:=c.defers;subst h1;have u:t=dp vs 0 (l.take n) r.tmps:=by
    refine nV (fun x=> ?_);by_cases X:∃(j:Nat) (o:Oper),j<n/\l[j]? =some o/\o.dst=some x
    ·obtain ⟨j,o,q,J,E⟩:=X;rw [G vs j o x q J E];exact c.set j o x J (z j q) E
    ·rw [W vs x X];exact c.rest x (fun j o J s e=>X ⟨j,o,I c j (aj.1 J).1 s,J,e⟩)
   rw [u]
  have hm:b=jV l.length n:=by
   refine nV (fun j=> ?_);unfold jV;show b[j]? =(((List.range l.length).map fun j=>decide (j<n)).toArray)[j]?
   rw [show (((List.range l.length).map fun j=>decide (j<n)).toArray)[j]? =((List.range l.length).map fun j=>decide (j<n))[j]? by simp,aR];rcases aN j l.length with q|q
   ·rw [jm q];have hs:j<b.size:=by rw [c.size];exact q
    have e:b.getD j true=decide (j<n):=by
     grind
    simp_all
   ·rw [Array.getElem?_eq_none (by rw [c.size];exact q),dw (by grind)];rfl
  rw [bq,hm,aU];exact an vs w c.rel (fun j q=>c.posts j q (z j q)) (fun j hn q=>c.news j hn q (z j q)) (fun i j M q H C Z=>c.diff i j M q H C (z i H) (z j C) Z)
 have a2:∀(b:Array Bool) (vs:Nat->Value) (a:Act) (w:World) (i:Nat),Fb l n r w0 Inv Pre Ps nw vs b a w->i<n->i∈Region.ready .any l.toArray b->
   W1 i (fun a' w'=>∃a5,Fb l n r w0 Inv Pre Ps nw a5 (b.setIfInBounds i true) a' w') a w:=by
  intro b vs a w i c ad M;obtain ⟨h1,o,u,h3⟩:=mem_ready.1 M;rw [U] at u;have H:i<l.length:=(aj.1 u).1;have N:i<b.size:=by grind
  have D:∀j,eE o j=true->j<n/\b.getD j true=true:=fun j q=>by
   unfold eE at q;obtain ⟨e,he,F⟩:=nW.1 q;rw [ak,beq_iff_eq] at F;obtain ⟨F,rfl⟩:=F;have h4:=A.back i o u e he F
   grind
  have aW:execOp a.eval o=execOp ({r with tmps:=dp vs 0 (l.take n) r.tmps}:Act).eval o:=by
   refine execOp_congr o (A.sel i o u) (fun x X=> ?_)
   cases x with
   |tmp t=>
    have e:a.tmps[t]? =(dp vs 0 (l.take n) r.tmps)[t]? :=by
     by_cases am:∃(j:Nat) (p:Oper),j<n/\l[j]? =some p/\p.dst=some t
     ·obtain ⟨j,p,O,hp,E⟩:=am;rw [G vs j p t O hp E];exact c.set j p t hp (D j (A.reads i o j p t u hp E X)).2 E
     ·rw [W vs t am];exact c.rest t (fun j p hp s e=>am ⟨j,p,I c j (aj.1 hp).1 s,hp,e⟩)
    simp_all [Act.eval]
   |_=>rfl
  have ar:=c.pre i ad h1;have hp:=sf i o aq ((L i o).2 ⟨ad,u⟩) vs w c.rel (by grind) (fun j q=>c.posts j (D j q).1 (D j q).2) (fun i j M q ax az Z=>c.diff i j M q (D i ax).1 (D j az).1 (D i ax).2 (D j az).2 Z);rw [bq] at hp;have aY:ew P a.eval o w (fun v w'=>Ps i v w'/\St i w w'/\(nw i=true->pA w w' v)):=by grind [ew]
  refine aS _ _ _ _ _ ?_ (aT i o a w _ u aY);rintro a' w' ⟨v,rfl,hv,al,ah⟩;have aP:=ap i w w' c.rel ar al;have a4:=hz _ _ _ al;have a3:=c.grow;refine ⟨fun j=>if j=i then v else vs j,?_⟩;have B:∀j,(b.setIfInBounds i true).getD j true=true->j=i\/b.getD j true=true:=fun j q=>by
   rw [iW N,bL,decide_eq_true_eq] at q
   grind
  refine ⟨fun j hn q s=> ?_,fun x y X hy aB aO aA aI aG=> ?_,by rw [Array.size_setIfInBounds];exact c.size,fun j q C=> ?_,fun k m S hw=> ?_,?_,aP,aH a3 a4,fun k S s=> ?_,fun j q s=> ?_,fun j p d ag s E=> ?_,fun t ht=> ?_⟩
  ·by_cases e:j=i
   ·subst e;rw [if_pos rfl];obtain ⟨g,g1,g2,g3⟩:=ah hn;exact ⟨g,g1,by omega,g3⟩
   ·rw [if_neg e];obtain ⟨g,g1,g2,g3⟩:=c.news j hn q ((B j s).resolve_left e);exact ⟨g,g1,g2,by omega⟩
  ·by_cases ex:x=i
   ·have ey:y≠i:=fun e=>aG (by omega)
    rw [if_pos ex,if_neg ey];obtain ⟨g,g1,g2,g3⟩:=c.news y hy aO ((B y aI).resolve_left ey);obtain ⟨k,k1,k2,k3⟩:=ah (by grind)
    grind
   ·rw [if_neg ex];by_cases ey:y=i
    ·rw [if_pos ey];obtain ⟨g,g1,g2,g3⟩:=c.news x X aB ((B x aA).resolve_left ex);obtain ⟨k,k1,k2,k3⟩:=ah (by grind)
     grind
    ·rw [if_neg ey];exact c.diff x y X hy aB aO ((B x aA).resolve_left ex) ((B y aI).resolve_left ey) aG
  ·grind
  ·have V:m<l.length/\b.getD m true=true:=by
    rcases B k S.2 with e|e
    ·grind [dq]
    ·exact c.shut k m ⟨S.1,e⟩ hw
   exact ⟨V.1,by rw [iW N,V.2,iA]⟩
  ·rw [<-c.defers];unfold Act.put;grind
  ·rw [iW N,gj,decide_eq_false_iff_not] at s;refine av k i w w' (fun e=>s.1 e.symm) ?_ c.rel (c.pre k S s.2) ar al
   grind [dq]
  ·by_cases e:j=i
   ·grind
   ·rw [if_neg e];have ba:=c.posts j q ((B j s).resolve_left e)
    grind
  ·by_cases e:j=i
   ·subst e;obtain rfl:o=p:=bK (u.symm.trans ag);rw [if_pos rfl];have hs:(a.put o.dst v).tmps=a.tmps.setIfInBounds d v:=by unfold Act.put;rw [E]
    have ha:(a.tmps[d]?).isSome=(r.tmps[d]?).isSome:=by
     have h7:=c.rest d (fun i' o' hi' a9 e=>by
      have:=A.once i' o' j o d hi' u E e
      grind)
     rw [h7]
    grind
   ·rw [if_neg e,<-c.set j p d ag ((B j s).resolve_left e) E];unfold Act.put
    cases J:o.dst with
    |none=>rfl
    |some d'=>exact iD (fun e'=>e (A.once i o j p d u ag E (by grind)).symm)
  ·rw [<-c.rest t (fun j p hp s=>ht j p hp (by rw [iW N,s,iA]))];have h9:=ht i o u (by simp_all);unfold Act.put
   grind [Array.getElem?_setIfInBounds_ne]
 have T:∀(b:Array Bool),b.size=l.length->∀j,j<n->b.getD j true=false->∃i,i<n/\i∈Region.ready .any l.toArray b:=by
  intro b bd j
  induction j using Nat.strongRecOn with
  |_ j ih=>
   intro q s;have C:j<l.length:=by omega
   by_cases aW:∃i,i<j/\b.getD i true=false
   ·grind
   ·refine ⟨j,q,mem_ready.2 ⟨s,l[j],by grind,fun e he F=> ?_⟩⟩;have h1:=A.back j l[j] (aC C) e he F
    grind
 intro f
 induction f with
 |zero=>
  intro b vs a w hf c;refine ao b vs a w c (fun j q=> ?_);simp_all [AQ]
 |succ f ih=>
  intro b vs a w hf c;obtain ⟨j,q⟩:=List.exists_mem_of_length_pos (show 0<(AQ n b).length by omega);obtain ⟨aX,a8⟩:=List.mem_filter.1 q;have O:=bO.1 aX;have C:b.getD j true=false:=by grind
  obtain ⟨i0,a6,a7⟩:=T b c.size j O C;rw [show f+1+(l.length-n)=(f+(l.length-n))+1 by omega];refine ⟨fun h0=>(by grind),fun i M=> ?_⟩;have ad:i<n:=by
   rcases aN i n with h|h
   ·exact h
   ·obtain ⟨h1,o,u,h3⟩:=mem_ready.1 M;rw [U] at u;have H:i<l.length:=(aj.1 u).1;have h7:=a1 (fun m=>m<l.length/\b.getD m true=true) i h H (fun k m=>c.shut k m) (fun k S=>by
     unfold dq at S;rw [u] at S;unfold eE at S;obtain ⟨e,he,F⟩:=nW.1 S;rw [ak,beq_iff_eq] at F;obtain ⟨F,rfl⟩:=F;have h8:=A.back i o u e he F
     grind) j O
    grind
  grind [mem_ready,AQ,Fu]
theorem qi{W1:Nat->(Act->World->Prop)->Act->World->Prop}{l:List Oper}{f:Act}{w0:World}{Q:Exit->Act->World->Prop}(x:qK l)(s:∀i K A a w,(∀a w,K a w->A a w)->W1 i K a w->W1 i A a w)(u:∀i o a w e,l[i]? =some o->ew P a.eval o w e->W1 i (fun C w'=>∃v,C=a.put o.dst v/\e v w') a w)(E:n<=l.length)(z:so l n)
  (G:∀k w w',St k w w'->w.heap.size<=w'.heap.size) (h:∀k w w',Inv w->Pre k w->St k w w'->Inv w') (q:∀j k w w',j≠k->dq l k j=false->Inv w->Pre j w->Pre k w->St k w w'->Pre j w') (y:∀j k v w w',j≠k->Pre k w->Ps j v w->St k w w'->Ps j v w')
  (p:mT P (fun vs=>{f with tmps:=dp vs 0 (l.take n) f.tmps}) Inv Pre St Ps nw 0 (l.take n)) (g:∀vs w,Inv w->(∀j,j<n->Ps j (vs j) w)->(∀j,nw j=true->j<n->pA w0 w (vs j))->(∀i j,nw i=true->nw j=true->i<n->j<n->i≠j->gv (vs i)≠gv (vs j))->uI W1 .any l.toArray Q (l.length-n) (jV l.length n) {f with tmps:=dp vs 0 (l.take n) f.tmps} w)
  (D:Inv w0) (r:∀k,Pre k w0):uI W1 .any l.toArray Q l.toArray.size (Array.replicate l.toArray.size false) f w0:=by
 have b:∀j,(Array.replicate l.toArray.size false).getD j true=true->¬j<l.length:=fun j c m=>by
  simp_all
 have F:(AQ n (Array.replicate l.toArray.size false)).length=n:=by
  grind [AQ,List.filter_eq_self]
 have I:l.toArray.size=n+(l.length-n):=by grind
 have:=Bb (W1:=W1) x s u E z G h q y p g n (Array.replicate l.toArray.size false) (fun _=>undef) f w0 F ⟨fun j _ m c=>absurd (show j<l.length by omega) (b j c),fun i j _ _ H _ c _ _=>absurd (show i<l.length by omega) (b i c),by simp,fun j _ m=> ?_,fun k i B=>absurd B.1 (b k B.2),rfl,D,ag _,fun k _ _=>r k,fun j m c=>absurd (show j<l.length by omega) (b j c),fun j o d m c _=>absurd (aj.1 m).1 (b j c),fun t _=>rfl⟩
 ·grind
 grind
theorem sD{D:Nat}{Q:Exit->Act->World->Prop}{a:Act}{w:World}{l:List Oper}(n:Nat)(Inv:World->Prop)(Pre:Nat->World->Prop)(St:Nat->World->World->Prop)(Ps:Nat->Value->World->Prop)(nw:Nat->Bool)(y:P.follows .mixedOrders=true)(x:kc l=true)(p:iR l=true)
  (z:n<=l.length) (s:so l n) (B:Region.seqB .any l.toArray (l.length-n) n (jV l.length n)=true)
  (C:∀k w w',St k w w'->w.heap.size<=w'.heap.size) (c:∀k w w',Inv w->Pre k w->St k w w'->Inv w') (g:∀j k w w',j≠k->dq l k j=false->Inv w->Pre j w->Pre k w->St k w w'->Pre j w') (r:∀j k v w w',j≠k->Pre k w->Ps j v w->St k w w'->Ps j v w') (u:Inv w.drew) (m:∀k,Pre k w.drew)
  (h:∀F:(Nat->Value)->Act,(F=fun vs=>{a with tmps:=dp vs 0 (l.take n) a.tmps})->mT P F Inv Pre St Ps nw 0 (l.take n)/\∀vs w',Inv w'->(∀j,j<n->Ps j (vs j) w')->(∀j,nw j=true->j<n->pA w.drew w' (vs j))->(∀i j,nw i=true->nw j=true->i<n->j<n->i≠j->gv (vs i)≠gv (vs j))->wpList P l.toArray Q (l.drop n) (F vs) w'):
  (Code.region D l.toArray true).wp P Q a w:=by
 obtain ⟨f,b⟩:=h _ rfl;have e:=kK x p;have q:(l.drop n).length=l.length-n:=by simp
 refine wp_region_any y (Aq _ _ _ _ (qi (W1:=wpOp P l.toArray Q) e (fun i K J a w h p=>wpOp_mono h p) (fun i o a w t A hp=>by
  unfold wpOp;simp only [show l.toArray[i]? =some o by grind];rw [if_pos (by unfold Region.wanted;rw [e.guard i o A])];exact .inl hp.wp) z s C c g r f (fun vs w' E G H I=> ?_) u m))
 refine zl _ _ _ _ ?_;rw [<-q];exact wpAny_of_seq (l.drop n) n _ _ w' (fun j=>by grind) (by grind) (b vs w' E G H I)
section
variable(h1r:∀w w',R1 w w'->R w w')(htr1:∀w1 w2 w3,R1 w1 w2->R1 w2 w3->R1 w1 w3)(htrA:∀w1 w2 w3,R w1 w2->R1 w2 w3->R w1 w3)(htrB:∀w1 w2 w3,R1 w1 w2->R w2 w3->R w1 w3)
include htrA htrB in
theorem Jj{w0:World}{wd:Nat->Bool}:∀k w w',R w0 w->((k==d||wd k)=true->R1 w0 w)->(bif k==d then R w w' else R1 w w')->R w0 w':=fun k w w' q1 q2 q3=>by
 cases hk:k==d with
 |true=>rw [hk] at q2 q3;exact htrB _ _ _ (q2 rfl) q3
 |false=>rw [hk] at q3;exact htrA _ _ _ q1 q3
include htr1 in
theorem Jf{w0:World}{l:List Oper}:∀j k w w',j≠k->dq l k j=false->R w0 w->((j==d||dq l d j)=true->R1 w0 w)->((k==d||dq l d k)=true->R1 w0 w)->(bif k==d then R w w' else R1 w w')->((j==d||dq l d j)=true->R1 w0 w'):=fun j k w w' q1 q2 _ q4 _ q6 e=>by
 cases hk:k==d with
 |true=>
  have:=beq_iff_eq.1 hk;subst this;rw [bL,beq_iff_eq,q2] at e;rcases e with e|e
  ·exact absurd e q1
  ·cases e
 |false=>rw [hk] at q6;exact htr1 _ _ _ (q4 e) q6
end
theorem JW{w0:World}{c:Nat->Bool}(a:∀j v w w',Ps j v w->R1 w w'->Ps j v w')(b:∀j v w w',j≠d->Ps j v w->R w w'->Ps j v w'):∀j k v w w',j≠k->((k==d||c k)=true->R1 w0 w)->Ps j v w->(bif k==d then R w w' else R1 w w')->Ps j v w':=fun j k v w w' e _ f g=>by
 grind
theorem JV(a:∀w w',R1 w w'->R w w')(b:∀w w',R w w'->w.heap.size<=w'.heap.size):∀k w w',(bif k==d then R w w' else R1 w w')->w.heap.size<=w'.heap.size:=fun k w w' q=>by
 grind
theorem ni{y:Nat}{Q:Exit->Act->World->Prop}{a:Act}{w:World}{l:List Oper}(n d:Nat)(R R1:World->World->Prop)(Ps:Nat->Value->World->Prop)(nw:Nat->Bool)(t:P.follows .mixedOrders=true)(r:kc l=true)(s:iR l=true)
  (u:n<=l.length) (m:so l n) (o:Region.seqB .any l.toArray (l.length-n) n (jV l.length n)=true)
  (c:∀w,R1 w w) (b:∀w w',R1 w w'->R w w') (f:∀w1 w2 w3,R1 w1 w2->R1 w2 w3->R1 w1 w3) (g:∀w1 w2 w3,R w1 w2->R1 w2 w3->R w1 w3) (k:∀w1 w2 w3,R1 w1 w2->R w2 w3->R w1 w3) (e:∀j v w w',Ps j v w->R1 w w'->Ps j v w') (p:∀j v w w',j≠d->Ps j v w->R w w'->Ps j v w') (x:∀w w',R w w'->w.heap.size<=w'.heap.size)
  (h:∀F:(Nat->Value)->Act,(F=fun vs=>{a with tmps:=dp vs 0 (l.take n) a.tmps})->mU P (dq l d) F w.drew d R R1 Ps nw 0 (l.take n)/\∀vs w',R w.drew w'->(∀j,j<n->Ps j (vs j) w')->(∀j,nw j=true->j<n->pA w.drew w' (vs j))->(∀i j,nw i=true->nw j=true->i<n->j<n->i≠j->gv (vs i)≠gv (vs j))->wpList P l.toArray Q (l.drop n) (F vs) w'):
  (Code.region y l.toArray true).wp P Q a w:=
 sD n (R w.drew) _ _ Ps nw t r s u m o (JV b x) (Jj g k) (Jf f) (JW e p) (b _ _ (c _)) (fun _ _=>c _) (fun F q=>⟨pS (h F q).1,(h F q).2⟩)
theorem C2{l:List Oper}{n:Nat}(a:(decide (n<=l.length)&&zy l n&&Region.seqB .any l.toArray (l.length-n) n (jV l.length n))=true):n<=l.length/\so l n/\Region.seqB .any l.toArray (l.length-n) n (jV l.length n)=true:=by
 simp_all [vj]
def uL(P:Program)(F:(Nat->Value)->Act)(w0:World)(R:World->World->Prop)(Ps:Nat->Value->World->Prop)(nw:Nat->Bool):Nat->List Oper->Prop
 |_,[]=>True
 |k,o::l=>(∀vs w,R w0 w->(∀j,eE o j=true->Ps j (vs j) w)->(∀i j,nw i=true->nw j=true->eE o i=true->eE o j=true->i≠j->gv (vs i)≠gv (vs j))->ew P (F vs).eval o w (fun v w'=>Ps k v w'/\R w w'/\(nw k=true->pA w w' v)))/\uL P F w0 R Ps nw (k+1) l
theorem wS{e:Nat->Bool}{F:(Nat->Value)->Act}{w0:World}:∀{l:List Oper} {k:Nat} (d:Nat),uL P F w0 R Ps nw k l->mU P e F w0 d R R Ps nw k l
 |[],_,_,_=>trivial
 |o::l,k,d,h=>⟨fun vs w a _ b c=>by
   have:=h.1 vs w a b c
   grind,wS d h.2⟩
theorem ue{t:Nat}{Q:Exit->Act->World->Prop}{a:Act}{w:World}{l:List Oper}(n:Nat)(R:World->World->Prop)(Ps:Nat->Value->World->Prop)(nw:Nat->Bool)(q:P.follows .mixedOrders=true)(m:kc l=true)(o:iR l=true)
  (p:(decide (n<=l.length)&&zy l n&&Region.seqB .any l.toArray (l.length-n) n (jV l.length n))=true)
  (e:∀w,R w w) (b:∀w1 w2 w3,R w1 w2->R w2 w3->R w1 w3) (c:∀j v w w',Ps j v w->R w w'->Ps j v w') (s:∀w w',R w w'->w.heap.size<=w'.heap.size)
  (h:∀F:(Nat->Value)->Act,(F=fun vs=>{a with tmps:=dp vs 0 (l.take n) a.tmps})->uL P F w.drew R Ps nw 0 (l.take n)/\∀vs w',R w.drew w'->(∀j,j<n->Ps j (vs j) w')->(∀j,nw j=true->j<n->pA w.drew w' (vs j))->(∀i j,nw i=true->nw j=true->i<n->j<n->i≠j->gv (vs i)≠gv (vs j))->wpList P l.toArray Q (l.drop n) (F vs) w'):
  (Code.region t l.toArray true).wp P Q a w:=
 let ⟨r,f,g⟩:=C2 p
 ni n n R R Ps nw q m o r f g e (fun _ _ h=>h) b b b c (fun j v w w' _=>c j v w w') s (fun F k=>⟨wS n (h F k).1,(h F k).2⟩)
def vf(R:World->World->Prop):List (Value->World->Prop)->Prop
 |[]=>True
 |p::l=>(∀v w w',p v w->R w w'->p v w')/\vf R l
def rq(ps:List (Value->World->Prop))(j:Nat):Value->World->Prop:=ps.getD j (fun _ _=>True)
theorem qY{R:World->World->Prop}:∀{ps:List (Value->World->Prop)} (j:Nat),vf R ps->∀v w w',rq ps j v w->R w w'->rq ps j v w'
 |[],_,_,_,_,_,_,_=>trivial
 |_::_,0,h,v,w,w',hp,hr=>h.1 v w w' hp hr
 |_::_,j+1,h,v,w,w',hp,hr=>qY (R:=R) j h.2 v w w' hp hr
def E2(vs:Nat->Value)(w:World):Nat->List (Value->World->Prop)->Prop
 |_,[]=>True
 |k,p::l=>p (vs k) w/\E2 vs w (k+1) l
theorem uK{vs:Nat->Value}{w:World}:∀(ps:List (Value->World->Prop)) (k:Nat),(∀j,j<ps.length->rq ps j (vs (k+j)) w)->E2 vs w k ps
 |[],_,_=>trivial
 |p::l,k,h=>⟨h 0 (iO _),uK l (k+1) (fun j a=>by
   have:=h (j+1) (pX a);rwa [show k+(j+1)=k+1+j by omega] at this)⟩
theorem ka{s:Nat}{Q:Exit->Act->World->Prop}{a:Act}{w:World}{l:List Oper}(n:Nat)(R:World->World->Prop)(ps:List (Value->World->Prop))(nw:Nat->Bool)(p:P.follows .mixedOrders=true)(f:kc l=true)(g:iR l=true)
  (k:(decide (n<=l.length)&&zy l n&&Region.seqB .any l.toArray (l.length-n) n (jV l.length n))=true) (x:ps.length=n)
  (b:∀w,R w w) (e:∀w1 w2 w3,R w1 w2->R w2 w3->R w1 w3) (r:∀w w',R w w'->w.heap.size<=w'.heap.size) (c:vf R ps)
  (h:∀F:(Nat->Value)->Act,(F=fun vs=>{a with tmps:=dp vs 0 (l.take n) a.tmps})->uL P F w.drew R (rq ps) nw 0 (l.take n)/\∀vs w',R w.drew w'->E2 vs w' 0 ps->(∀i j,nw i=true->nw j=true->i<n->j<n->i≠j->gv (vs i)≠gv (vs j))->wpList P l.toArray Q (l.drop n) (F vs) w'):
  (Code.region s l.toArray true).wp P Q a w:=by
 refine ue n R (rq ps) nw p f g k b e (fun j=>qY j c) r (fun F m=> ?_);obtain ⟨t,u⟩:=h F m;refine ⟨t,fun vs w' q hp _ o=>u vs w' q (uK ps 0 (fun j v=> ?_)) o⟩
 grind
def zx(R:World->World->Prop)(d:Nat):Nat->List (Value->World->Prop)->Prop
 |_,[]=>True
 |k,p::l=>((k==d)=true\/∀v w w',p v w->R w w'->p v w')/\zx R d (k+1) l
theorem ve{R:World->World->Prop}{d:Nat}:∀{ps:List (Value->World->Prop)} (k j:Nat),zx R d k ps->k+j≠d->∀v w w',rq ps j v w->R w w'->rq ps j v w'
 |[],_,_,_,_,_,_,_,_,_=>trivial
 |_::_,k,0,h,hd,v,w,w',hp,hr=>by
  rcases h.1 with a|a
  ·grind
  ·exact a v w w' hp hr
 |_::_,k,j+1,h,hd,v,w,w',hp,hr=>ve (R:=R) (d:=d) (k+1) j h.2 (by omega) v w w' hp hr
end
inductive PK where
 |c (v:Value)
 |p (f:Value->World->Prop)
 |w (v:Value) (f:World->Prop)
def PK.post:PK->Value->World->Prop
 | .c x=>fun v _=>v=x
 | .p f=>f
 | .w x f=>fun v w=>v=x/\f w
def PK.val:PK->Value->Value
 | .c x,_=>x
 | .p _,v=>v
 | .w x _,_=>x
theorem PK.Xy:∀{k:PK} {v:Value} {w:World},k.post v w->k.val v=v
 | .c _,_,_,h=>Eq.symm h
 | .p _,_,_,_=>rfl
 | .w _ _,_,_,h=>Eq.symm h.1
def lP(ps:List PK)(j:Nat):PK:=ps.getD j (.p fun _ _=>True)
def pJ(ps:List PK)(vs:Nat->Value)(j:Nat):Value:=(lP ps j).val (vs j)
def il(vs:Nat->Value):Nat->List PK->List Oper->Array Value->Array Value
 |k,q::ps,o::l,t=>il vs (k+1) ps l (match o.dst with|some d=>t.setIfInBounds d (q.val (vs k))|none=>t)
 |_,_,_,t=>t
theorem vx{a:List PK}{vs:Nat->Value}(ps:List PK):∀(l:List Oper) (k:Nat) (t:Array Value),ps.length=l.length->(∀j,ps[j]? =a[k+j]?)->il vs k ps l t=dp (pJ a vs) k l t:=by
 induction ps with
 |nil=>
  intro l k t g _
  cases l with
  |nil=>rfl
  |cons o l=>grind
 |cons q ps ih=>
  intro l k t g hp
  cases l with
  |nil=>grind
  |cons o l=>
   have e:lP a k=q:=by
    have:=hp 0;rw [aP] at this
    grind [lP]
   have b:pJ a vs k=q.val (vs k):=by unfold pJ;rw [e]
   have c:=ih l (k+1) (match o.dst with|some d=>t.setIfInBounds d (q.val (vs k))|none=>t) (by grind) (fun j=>by have:=hp (j+1);grind);rw [<-b] at c;have f:il vs k (q::ps) (o::l) t=il vs (k+1) ps l (match o.dst with|some d=>t.setIfInBounds d (q.val (vs k))|none=>t):=rfl;rw [f,<-b,c];rfl
def oh(R:World->World->Prop):List PK->Prop
 |[]=>True
 | .c _::l=>oh R l
 | .p f::l=>(∀v w w',f v w->R w w'->f v w')/\oh R l
 | .w _ f::l=>(∀w w',f w->R w w'->f w')/\oh R l
def lI(R:World->World->Prop)(d:Nat):Nat->List PK->Prop
 |_,[]=>True
 |k,.c _::l=>lI R d (k+1) l
 |k,.p f::l=>((k==d)=true\/∀v w w',f v w->R w w'->f v w')/\lI R d (k+1) l
 |k,.w _ f::l=>((k==d)=true\/∀w w',f w->R w w'->f w')/\lI R d (k+1) l
theorem mF{R:World->World->Prop}{d:Nat}:∀{ps:List PK} (k j:Nat),lI R d k ps->k+j≠d->∀v w w',(lP ps j).post v w->R w w'->(lP ps j).post v w'
 |[],_,_,_,_,_,_,_,_,_=>trivial
 | .c _::_,_,0,_,_,_,_,_,hp,_=>hp
 | .p _::_,k,0,h,hd,v,w,w',hp,hr=>(h.1.resolve_left (fun e=>hd (beq_iff_eq.1 e))) v w w' hp hr
 | .w _ _::_,k,0,h,hd,v,w,w',hp,hr=>⟨hp.1,(h.1.resolve_left (fun e=>hd (beq_iff_eq.1 e))) w w' hp.2 hr⟩
 | .c _::l,k,j+1,h,hd,v,w,w',hp,hr=>mF (R:=R) (d:=d) (ps:=l) (k+1) j h (by omega) v w w' hp hr
 | .p _::l,k,j+1,h,hd,v,w,w',hp,hr=>mF (R:=R) (d:=d) (ps:=l) (k+1) j h.2 (by omega) v w w' hp hr
 | .w _ _::l,k,j+1,h,hd,v,w,w',hp,hr=>mF (R:=R) (d:=d) (ps:=l) (k+1) j h.2 (by omega) v w w' hp hr
theorem qC{R:World->World->Prop}:∀{ps:List PK} (k:Nat),oh R ps->lI R (k+ps.length) k ps
 |[],_,_=>trivial
 | .c _::l,k,h=>by have:=qC (ps:=l) (k+1) h;rwa [show k+1+l.length=k+(l.length+1) by omega] at this
 | .w _ _::l,k,h=>⟨.inr h.1,by have:=qC (ps:=l) (k+1) h.2;grind⟩
 | .p _::l,k,h=>⟨.inr h.1,by have:=qC (ps:=l) (k+1) h.2;grind⟩
theorem og{R:World->World->Prop}:∀{ps:List PK} (j:Nat),oh R ps->∀v w w',(lP ps j).post v w->R w w'->(lP ps j).post v w'
 |[],_,_,_,_,_,_,_=>trivial
 | .c _::_,0,_,_,_,_,hp,_=>hp
 | .p _::_,0,h,v,w,w',hp,hr=>h.1 v w w' hp hr
 | .w _ _::_,0,h,v,w,w',hp,hr=>⟨hp.1,h.1 w w' hp.2 hr⟩
 | .c _::l,j+1,h,v,w,w',hp,hr=>og (R:=R) (ps:=l) j h v w w' hp hr
 | .p _::l,j+1,h,v,w,w',hp,hr=>og (R:=R) (ps:=l) j h.2 v w w' hp hr
 | .w _ _::l,j+1,h,v,w,w',hp,hr=>og (R:=R) (ps:=l) j h.2 v w w' hp hr
def zf(vs:Nat->Value)(w:World):Nat->List PK->Prop
 |_,[]=>True
 |k,.c _::l=>zf vs w (k+1) l
 |k,.p f::l=>f (vs k) w/\zf vs w (k+1) l
 |k,.w _ f::l=>f w/\zf vs w (k+1) l
theorem uM{vs:Nat->Value}{w:World}:∀(ps:List PK) (k:Nat),(∀j,j<ps.length->(lP ps j).post (vs (k+j)) w)->zf vs w k ps
 |[],_,_=>trivial
 |q::l,k,h=>by
  have a:=uM l (k+1) (fun j b=>by
   have:=h (j+1) (pX b);rwa [show k+(j+1)=k+1+j by omega] at this)
  cases q with
  |c x=>exact a
  |p f=>exact ⟨h 0 (iO _),a⟩
  |w x f=>exact ⟨(h 0 (iO _)).2,a⟩
section
variable{P:Program}{d:Nat}{R R1:World->World->Prop}{nw:Nat->Bool}{ps:List PK}
def oN(P:Program)(wd:Nat->Bool)(F:(Nat->Value)->Act)(w0:World)(d:Nat)(R R1:World->World->Prop)(ps:List PK)(nw:Nat->Bool):Nat->List Oper->Prop
 |_,[]=>True
 |k,o::l=>(∀vs w,R w0 w->((k==d||wd k)=true->R1 w0 w)->(∀j,eE o j=true->(lP ps j).post (vs j) w)->(∀i j,nw i=true->nw j=true->eE o i=true->eE o j=true->i≠j->gv (vs i)≠gv (vs j))->ew P (F vs).eval o w (fun v w'=>(lP ps k).post v w'/\(bif k==d then R w w' else R1 w w')/\(nw k=true->pA w w' v)))/\oN P wd F w0 d R R1 ps nw (k+1) l
theorem pR{u:Nat->Bool}{w0:World}{a:Act}{l:List Oper}{n:Nat}(b:qK l):∀(m:List Oper) (k:Nat),(∀j,m[j]? =(l.take n)[k+j]?)->oN P u (fun vs=>{a with tmps:=dp (pJ ps vs) 0 (l.take n) a.tmps}) w0 d R R1 ps nw k m->mU P u (fun vs=>{a with tmps:=dp vs 0 (l.take n) a.tmps}) w0 d R R1 (fun j=>(lP ps j).post) nw k m
 |[],_,_,_=>trivial
 |o::m,k,hm,h=>by
  refine ⟨fun vs w v f r y=> ?_,pR b m (k+1) (fun j=>by have:=hm (j+1);grind) h.2⟩;have hp:=h.1 vs w v f r y;have B:=(hm 0).symm;have c:∀(j:Nat) (o:Oper),(l.take n)[j]? =some o->l[j]? =some o:=fun j o h=>by
   grind
  have f:l[k]? =some o:=c _ _ B;have z:execOp (({a with tmps:=dp vs 0 (l.take n) a.tmps}:Act)).eval o=execOp (({a with tmps:=dp (pJ ps vs) 0 (l.take n) a.tmps}:Act)).eval o:=by
   refine execOp_congr o (b.sel k o f) (fun x C=> ?_)
   cases x with
   |tmp t=>
    have e:(dp vs 0 (l.take n) a.tmps)[t]? =(dp (pJ ps vs) 0 (l.take n) a.tmps)[t]? :=by
     by_cases q:∃(j:Nat) (p:Oper),(l.take n)[j]? =some p/\p.dst=some t
     ·obtain ⟨j,p,hp,g⟩:=q;have s:∀i o',(l.take n)[i]? =some o'->o'.dst=some t->i=j:=fun i o' A e=>b.once i o' j p t (c _ _ A) (c _ _ hp) g e
      rw [mH (l.take n) 0 j _ p hp g s,mH (l.take n) 0 j _ p hp g s,bq,show pJ ps vs j=vs j from PK.Xy (r j (b.reads k o j p t f (c _ _ hp) g C))]
     grind [List.mem_iff_getElem?,jo]
    simp_all [Act.eval]
   |_=>rfl
  grind [ew]
theorem cR{G:Nat}{Q:Exit->Act->World->Prop}{a:Act}{w:World}{l:List Oper}(n d:Nat)(R R1:World->World->Prop)(ps:List PK)(nw:Nat->Bool)(x:(P.follows .mixedOrders&&kc l&&iR l&&(decide (n<=l.length)&&C3 l n&&Region.seqB .any l.toArray (l.length-n) n (jV l.length n))&&(ps.length==n))=true)
  (r:∀w,R1 w w) (o:∀w w',R1 w w'->R w w') (e:∀w1 w2 w3,R1 w1 w2->R1 w2 w3->R1 w1 w3) (f:∀w1 w2 w3,R w1 w2->R1 w2 w3->R w1 w3) (g:∀w1 w2 w3,R1 w1 w2->R w2 w3->R w1 w3) (E:∀w w',R w w'->w.heap.size<=w'.heap.size) (c:oh R1 ps) (s:lI R d 0 ps)
  (h:∀F:(Nat->Value)->Act,(F=fun vs=>{a with tmps:=il vs 0 ps (l.take n) a.tmps})->oN P (dq l d) F w.drew d R R1 ps nw 0 (l.take n)/\∀vs w',R w.drew w'->zf vs w' 0 ps->(∀i j,nw i=true->nw j=true->i<n->j<n->i≠j->gv (vs i)≠gv (vs j))->wpList P l.toArray Q (l.drop n) (F vs) w'):
  (Code.region G l.toArray true).wp P Q a w:=by
 rw [ak,ak,ak,ak] at x;obtain ⟨⟨⟨⟨D,t⟩,u⟩,k⟩,y⟩:=x
 replace y:=beq_iff_eq.1 y
 rw [ak,ak,decide_eq_true_eq] at k;have b:ps.length=(l.take n).length:=by grind
 have p:∀vs,il vs 0 ps (l.take n) a.tmps=dp (pJ ps vs) 0 (l.take n) a.tmps:=fun vs=>vx ps (l.take n) 0 _ b (fun j=>by grind)
 obtain ⟨z,A⟩:=h _ rfl;simp only [p] at z A;refine ni n d R R1 (fun j=>(lP ps j).post) nw D t u k.1.1 (vk k.1.2) k.2 r o e f g (fun j=>og j c) (fun j v w w' m hp q=>mF 0 j s (by omega) v w w' hp q) E (fun F B=> ?_);subst B;refine ⟨pR (kK t u) _ 0 (fun j=>by grind) z,fun vs w' q hp _ C=> ?_⟩;have H:pJ ps vs=vs:=funext fun j=>by
  rcases aN j n with m|m
  ·exact PK.Xy (hp j m)
  ·unfold pJ lP;rw [bX,dw (by omega)];rfl
 have:=A vs w' q (uM ps 0 (fun j m=>by grind)) C
 grind
theorem eY{k:Nat}{Q:Exit->Act->World->Prop}{a:Act}{w:World}{l:List Oper}(n:Nat)(R:World->World->Prop)(ps:List PK)(nw:Nat->Bool)(f:(P.follows .mixedOrders&&kc l&&iR l&&(decide (n<=l.length)&&C3 l n&&Region.seqB .any l.toArray (l.length-n) n (jV l.length n))&&(ps.length==n))=true)
  (e:∀w,R w w) (b:∀w1 w2 w3,R w1 w2->R w2 w3->R w1 w3) (g:∀w w',R w w'->w.heap.size<=w'.heap.size) (c:oh R ps)
  (h:∀F:(Nat->Value)->Act,(F=fun vs=>{a with tmps:=il vs 0 ps (l.take n) a.tmps})->oN P (dq l n) F w.drew n R R ps nw 0 (l.take n)/\∀vs w',R w.drew w'->zf vs w' 0 ps->(∀i j,nw i=true->nw j=true->i<n->j<n->i≠j->gv (vs i)≠gv (vs j))->wpList P l.toArray Q (l.drop n) (F vs) w'):
  (Code.region k l.toArray true).wp P Q a w:=by
 have m:ps.length=n:=by
  grind
 exact cR n n R R ps nw f e (fun _ _ h=>h) b b b g c (by have:=qC (R:=R) 0 c;grind) h
theorem oV{ρ:Operand->Value}{o:Oper}{w:World}{q:Value->World->Prop}{R1:World->World->Prop}{v:Value}{A:World->World->Prop}(h:(execOp ρ o).run P w= .ok (.value v) w)(hp:q v w)(a:R1 w w):ew P ρ o w (fun v w'=>q v w'/\(bif false then A w w' else R1 w w')/\(false=true->pA w w' v)):=
 aJ v h ⟨hp,a,fun h=>nomatch h⟩
end
section
variable{b:Nat}{h:Hp}{c:Cf}{A:AG}{rs:List Nat}{φ L:Nat->Nat}{Ba u ub:Nat}{cy:Option Nat}{n:Nat}{ns bs:Int}{S T X q:Nat->Prop}{w w' w'':World}
theorem lp.ended{y:Nat}(a:lp q h c A rs φ L Ba u ub (some y) 0 ns bs S w)(hf:Fr (fun k=>k=h.b) w w'){l g:Int}(K:nS w' h.b c h.m h.rb ub none l g):∃L' S',lp (fun _=>True) h c A rs φ L' Ba u ub none 0 l g S' w'/\∀k,S' k->S k:=by
 obtain ⟨f,V,s,N,hg,R,fr,U,o,⟨Us,qu,P⟩,r1,Q,C,D,r5,E,r7,r8⟩:=a.mem;obtain ⟨Hg,F,mp,M,fw,k,p1,p2,p3,p4,r⟩:=P;obtain ⟨G,H,I,Y,Z,J,e7,e8,e9⟩:=a.e;obtain ⟨t,v⟩:=p2.done o.ok o.Yt;have hP:=o.ok.P1;rw [C] at t v;rw [D,E] at v;have p:=p1.mem;rw [Q,D,E] at p;have B:=a.half.top;have z:=a.fits;have O:=a.Qw.Qp;refine ⟨M,F,⟨a.Qw,K,a.roots.frame hf (Ne.symm G) (Ne.symm H),ay.frame a.Yd hf (Ne.symm I),aE a.Qo hf (Ne.symm J),a.laid.congr (fun k i x=>t k i x),a.Sl,a.fits,a.half,⟨rfl,Us,Hg,mp,⟨M,p.frame hf (fun k f e=>(a.d k ((r k).2 (.inl f))).1 e),fun _ _=>rfl⟩,fun k=> ?_⟩,fun k f=>a.d k ((r k).2 (.inl f)),a.e⟩,fun k f=>(r k).2 (.inl f)⟩;have j:=o.low1;rw [C] at j;rcases aN k (c.W/c.Pg) with i|i
 ·grind
 ·rw [p.off i];have x:c.W<=k*c.Pg:=by
   have h3:=aG c.Pg i;have h4:c.W/c.Pg*c.Pg=c.W:=by have:=az c.W c.Pg;rw [a.Qw.Wp] at this;grind
   omega
  grind
def Cv(h:Hp)(c:Cf)(A:AG)(rs:List Nat)(φ:Nat->Nat)(Ba u ub n:Nat)(S:Nat->Prop)(w:World)(e:Ending)(w':World):Prop:=e= .returned (.tuple #[])/\∃L' cy' ns' bs' S',lp (fun _=>True) h c A rs φ L' Ba u ub cy' n ns' bs' S' w'/\(n=0->cy'=none)/\Fr (fun k=>k=h.b) w w'/\∀k,S' k->S k
theorem zX(d:lp (fun _=>True) h c A rs φ L Ba u ub cy n ns bs S w):Calls prog 30 #[h.b] w (Cv h c A rs φ Ba u ub n S w):=by
 cases cy with
 |none=>
  have K:Hid (Cv h c A rs φ Ba u ub n S w (.returned (.tuple #[])) w):=ae ⟨rfl,L,none,ns,bs,S,d,fun _=>rfl,Kb _ _,fun _ h=>h⟩;have M:w.cell? ⟨h.b,11,none⟩=some (.pointer none):=ay.cell d.Qd 11 rfl;generalize (Cv h c A rs φ Ba u ub n S w)=Q at*;clear d
  go_enter func30,ntmps30
  go_wp2;go_end0;exact K.out
 |some y=>
  have g:=d.Qd;have M:w.cell? ⟨h.b,11,none⟩=some y:=ay.cell g 11 rfl;have ad:w.cell? ⟨h.b,12,none⟩=some (ns:Int):=ay.cell g 12 rfl;have Xc:w.cell? ⟨h.b,13,none⟩=some (bs:Int):=ay.cell g 13 rfl;have aj:=ay.free g 11;have ak:=ay.free g 12;have am:=ay.free g 13;obtain ⟨B,fr,G,Z,C⟩:∃B fr G,B.y=y/\CF w B n fr G:=by
   obtain ⟨hk,B,s,ap,hg,Mv,fr,G,P,⟨Us,qu,R⟩,r1,r2⟩:=d.mem;exact ⟨B,fr,G,r1,(kl.cells P R.s).1⟩
  have i:=ae (AZ C);have o:=ae (vm (show CF w.drew B n fr G from ay.frame C ((Kb (fun _=>False) w).drew) id));rw [Z] at i o;obtain ⟨x,I⟩:∃x,x=B.nb:=⟨_,rfl⟩;rw [<-I] at o;clear I C;have t:Hid (n≠0->Cv h c A rs φ Ba u ub n S w (.returned (.tuple #[])) w):=by
   show n≠0->_
   exact fun p=>⟨rfl,L,some y,ns,bs,S,d,fun e=>absurd e p,Kb _ _,fun _ h=>h⟩
  have r:Hid (n=0->∀w' D z,Fr (fun k=>k=h.b) w w'->nS w' h.b c h.m h.rb ub none D z->Cv h c A rs φ Ba u ub n S w (.returned (.tuple #[])) w'):=by
   show n=0->∀w' D z,_
   rintro rfl w' D z hf O;obtain ⟨L',S',P,R⟩:=d.ended hf O;exact ⟨rfl,L',none,_,_,S',P,fun _=>rfl,hf,R⟩
  have J:=ae g;generalize (Cv h c A rs φ Ba u ub n S w)=Q at*;generalize h.b=b at*;clear d g Z;by_cases p:n=0
  ·have E:=ae (r.out p);subst p;clear t r;rw [decide_eq_true rfl] at i
   go_enter func30,ntmps30
   go_wp2_with fail
   refine i.out.mono ?_;rintro e w2 ⟨rfl,rfl⟩;clear i;go_wp2;refine ka 12 (fun a b=>b=a) [fun v _=>v= .pointer (some ⟨b,0,none⟩),fun v _=>v= .pointer (some ⟨b,0,none⟩),fun v _=>v= .pointer (some ⟨b,13,none⟩),fun v _=>v= .int .i64 bs,fun v _=>v= .pointer (some ⟨b,0,none⟩),fun v _=>v= .pointer (some ⟨b,0,none⟩),fun v _=>v= .pointer (some ⟨b,11,none⟩),fun v _=>v= .pointer (some ⟨y,0,none⟩),fun v _=>v= .int .i64 x,fun v _=>v= .int .i64 (IntKind.i64.wrap (bs+(x:Int))),fun v _=>v= .pointer (some ⟨b,0,none⟩),fun v _=>v= .pointer (some ⟨b,13,none⟩)] (fun j=>false) (by kernel_rfl) (by kernel_rfl) (by kernel_rfl) (by kernel_rfl) rfl (fun _=>rfl) (fun _ _ _ V W=>W.trans V) (fun _ _ h=>by rw [h];exact ag _) ⟨fun _ _ _ h _=>h,fun _ _ _ h _=>h,fun _ _ _ h _=>h,fun _ _ _ h _=>h,fun _ _ _ h _=>h,fun _ _ _ h _=>h,fun _ _ _ h _=>h,fun _ _ _ h _=>h,fun _ _ _ h _=>h,fun _ _ _ h _=>h,fun _ _ _ h _=>h,fun _ _ _ h _=>h,trivial⟩ ?_;intro F Y;simp only [dp,al,aA,aa] at Y;subst Y;refine ⟨⟨fun vs w1 d f l=> ?_,fun vs w1 d f l=> ?_,fun vs w1 d f l=> ?_,fun vs w1 d f l=> ?_,fun vs w1 d f l=> ?_,fun vs w1 d f l=> ?_,fun vs w1 d f l=> ?_,fun vs w1 d f l=> ?_,fun vs w1 d f l=> ?_,fun vs w1 d f l=> ?_,fun vs w1 d f l=> ?_,fun vs w1 d f l=> ?_,trivial⟩,?_⟩
   ·refine aJ (.pointer (some ⟨b,0,none⟩)) ?_ ⟨rfl,rfl,fun h=>nomatch h⟩;go_simp
   ·have p:vs 0= .pointer (some ⟨b,0,none⟩):=f 0 (by kernel_rfl);refine aJ (.pointer (some ⟨b,0,none⟩)) ?_ ⟨rfl,rfl,fun h=>nomatch h⟩;go_simp
   ·have V:vs 1= .pointer (some ⟨b,0,none⟩):=f 1 (by kernel_rfl);refine aJ (.pointer (some ⟨b,13,none⟩)) ?_ ⟨rfl,rfl,fun h=>nomatch h⟩;go_simp
   ·have W:vs 2= .pointer (some ⟨b,13,none⟩):=f 2 (by kernel_rfl);refine aJ (.int .i64 bs) ?_ ⟨rfl,rfl,fun h=>nomatch h⟩;subst d;go_simp
   ·refine aJ (.pointer (some ⟨b,0,none⟩)) ?_ ⟨rfl,rfl,fun h=>nomatch h⟩;go_simp
   ·have h4:vs 4= .pointer (some ⟨b,0,none⟩):=f 4 (by kernel_rfl);refine aJ (.pointer (some ⟨b,0,none⟩)) ?_ ⟨rfl,rfl,fun h=>nomatch h⟩;go_simp
   ·have h5:vs 5= .pointer (some ⟨b,0,none⟩):=f 5 (by kernel_rfl);refine aJ (.pointer (some ⟨b,11,none⟩)) ?_ ⟨rfl,rfl,fun h=>nomatch h⟩;go_simp
   ·have h6:vs 6= .pointer (some ⟨b,11,none⟩):=f 6 (by kernel_rfl);refine aJ (.pointer (some ⟨y,0,none⟩)) ?_ ⟨rfl,rfl,fun h=>nomatch h⟩;subst d;go_simp
   ·have h7:vs 7= .pointer (some ⟨y,0,none⟩):=f 7 (by kernel_rfl);subst d;refine bh 67 #[y] (by go_simp) (o.out.mono ?_);rintro e w2 ⟨rfl,rfl⟩;exact ⟨_,rfl,rfl,rfl,fun h=>nomatch h⟩
   ·have h3:vs 3= .int .i64 bs:=f 3 (by kernel_rfl);have h8:vs 8= .int .i64 x:=f 8 (by kernel_rfl);refine aJ (.int .i64 (IntKind.i64.wrap (bs+(x:Int)))) ?_ ⟨rfl,rfl,fun h=>nomatch h⟩;go_simp
   ·have p:vs 0= .pointer (some ⟨b,0,none⟩):=f 0 (by kernel_rfl);refine aJ (.pointer (some ⟨b,0,none⟩)) ?_ ⟨rfl,rfl,fun h=>nomatch h⟩;go_simp
   ·have ao:vs 10= .pointer (some ⟨b,0,none⟩):=f 10 (by kernel_rfl);refine aJ (.pointer (some ⟨b,13,none⟩)) ?_ ⟨rfl,rfl,fun h=>nomatch h⟩;go_simp
   intro vs w1 d hp l;obtain ⟨g0,g1,g2,g3,g4,g5,g6,g7,g8,U,N,H,_⟩:=hp;simp only [U,H];subst d;clear g0 g1 g2 g3 g4 g5 g6 g7 g8 U N H l o;simp only [an,aB];go_wp2;go_end0;refine E.out _ (wrap64 (ns+1)) (wrap64 (bs+(x:Int))) ?_ ?_
   ·exact ((((Kb (fun k=>k=b) w).setCell ⟨b,13,none⟩ (.inl rfl) _).setCell ⟨b,11,none⟩ (.inl rfl) _).setCell ⟨b,12,none⟩ (.inl rfl) _).drew
   ·exact ay.frame (((J.out.set 13 _).set 11 _).set 12 _) ((Kb (fun _=>False) _).drew) id
  ·have K:=ae (t.out p);rw [decide_eq_false p] at i;clear t r p o
   go_enter func30,ntmps30
   go_wp2_with fail
   refine i.out.mono ?_;rintro e w2 ⟨rfl,rfl⟩;clear i;go_wp2;go_end0;exact K.out
def IY(b:Nat)(c:Cf)(A:AG)(rs:List Nat)(u n:Nat)(T:Nat->Prop)(w:World)(e:Ending)(w':World):Prop:=e= .returned (.tuple #[])/\∃T',eF b c A rs u n T' w'/\Fr T w w'/\∀k,T' k->T k\/w.heap.size<=k
theorem uy(j:Fp b c A rs u n T w):Calls prog 30 #[b] w (IY b c A rs u n T w):=by
 obtain ⟨h,φ,L,Ba,ub,cy,ns,bs,S,rfl,l,i⟩:=j;refine (zX l).mono ?_;rintro e w' ⟨rfl,L',d,g,a,S',m,o,p,r⟩;exact ⟨rfl,lC h ub S',⟨h,φ,L',Ba,ub,d,g,a,S',rfl,m,fun _=>dO,o⟩,p.mono (fun k f=> .inl ((i k).2 (.inr (.inl f)))),fun k f=> .inl ((i k).2 (f.imp (r k) id))⟩
end
section
variable{b:Nat}{h:Hp}{c:Cf}{A A':AG}{rs:List Nat}{φ L L':Nat->Nat}{Ba u ub:Nat}{cy:Option Nat}{n n':Nat}{ns bs:Int}{S S' T X q q':Nat->Prop}{w w' w'':World}
theorem lp.turn(a:lp q h c A rs φ L Ba u ub cy n ns bs S w)(hf:Fr S w w')(l:∀k,S' k->S k\/w.heap.size<=k)(p:xn c h.m Ba (Ba+u) q' L' S' w' cy n')(j:ce A' rs φ L' Ba (Ba+u)):lp q' h c A' rs φ L' Ba u ub cy n' ns bs S' w':=by
 have d:=a.d;have f:=a.lt;have o:ch<w.heap.size:=bu (a.Qo 0 0 rfl);refine ⟨a.Qw,ay.frame a.Qd hf (fun h=>(d _ h).1 rfl),a.roots.frame hf (fun h=>(d _ h).2.1 rfl) (fun h=>(d _ h).2.2.1 rfl),ay.frame a.Yd hf (fun h=>(d _ h).2.2.2.1 rfl),aE a.Qo hf (fun h=>(d _ h).2.2.2.2 rfl),j,a.Sl,a.fits,a.half,p,fun k i=> ?_,a.e⟩;rcases l k i with g|g
 ·grind
 ·have r:=f _ (.inr (.inl rfl));have s:=f _ (.inr (.inr (.inl rfl)));have t:=f _ (.inr (.inr (.inr (.inl rfl))));have v:=f _ (.inr (.inr (.inr (.inr rfl))));omega
theorem lC.sub{a:Hp}(d:∀k,S' k->S k\/w.heap.size<=k):∀k,lC a ub S' k->lC a ub S k\/w.heap.size<=k:=by
 rintro k (h|h|h|h|h)
 ·exact (d k h).imp .inl id
 ·exact .inl (.inr (.inl h))
 ·exact .inl (.inr (.inr (.inl h)))
 ·exact .inl (.inr (.inr (.inr (.inl h))))
 ·exact .inl (.inr (.inr (.inr (.inr h))))
def Fe(b:Nat)(c:Cf)(A:AG)(rs:List Nat)(u n:Nat)(T:Nat->Prop)(w:World)(e:Ending)(w':World):Prop:=e= .returned (.bool (decide (n≠0)))/\∃T',eF b c A rs u (n-1) T' w'/\Fr T w w'/\∀k,T' k->T k\/w.heap.size<=k
theorem rJ(hi:eF b c A rs u n T w):Calls prog 78 #[b] w (Fe b c A rs u n T w):=by
 obtain ⟨h,φ,L,Ba,ub,cy,ns,bs,S,rfl,d,p,i⟩:=hi;have t:=ae (gk d.Qd)
 cases cy with
 |none=>
  have g:n=0:=d.mem.1;have v:Hid (Fe h.b c A rs u n T w (.returned (.bool false)) w):=ae ⟨by rw [decide_eq_false (fun h=>h g)],T,⟨h,φ,L,Ba,ub,none,ns,bs,S,rfl,by rw [g] at d ⊢;exact d,p,fun _=>rfl⟩,Kb _ _,fun _ h=> .inl h⟩;have m:w.cell? ⟨h.b,11,none⟩=some (.pointer none):=ay.cell d.Qd 11 rfl;generalize (Fe h.b c A rs u n T w)=Q at*;clear d p i g
  go_enter func78,ntmps78
  go_wp2_with fail
  refine t.out.mono ?_;rintro e w1 ⟨rfl,rfl⟩;clear t;go_wp2;exact v.out
 |some y=>
  have g:n≠0:=fun h0=>by cases i h0
  have m:w.cell? ⟨h.b,11,none⟩=some y:=ay.cell d.Qd 11 rfl;obtain ⟨f,I,s,r,hg,W,fr,ah,D,⟨Us,qu,K⟩,E,M,N,O,P,R,U,V⟩:=id d.mem;have z:=ae (vg D K.s g);rw [E] at z;have v:Hid (∀e w1,Au I s r hg c.Fs (Ba+u) W n fr L S w e w1->e= .returned (.tuple #[.bool true,(0:Int)])/\∃a,Fp h.b c A rs u (n-1) a w1/\Fr T w w1/\∀k,a k->T k\/w.heap.size<=k):=by
   show∀e w1,_
   rintro e w1 ⟨rfl,C,B,S',p1,p2,p3,p4⟩;refine ⟨rfl,lC h ub S',⟨h,φ,L,Ba,ub,some y,ns,bs,S',rfl,d.turn p3 p4 ⟨f,I,s,r,hg,_,C,B,D,let ⟨us,hu⟩:=p1.su;⟨us,trivial,hu⟩,E,M,N,O,P,R,U,V⟩ d.laid,fun k=>dO⟩,p3.mono (fun k f=> .inl ((p k).2 (.inl f))),fun k f=>(lC.sub p4 k f).imp (p k).2 id⟩
  have F:=ae (fun a w1 (hj:Fp h.b c A rs u (n-1) a w1)=>uy hj);have G:Hid (∀a w1 e w2,Fr T w w1->(∀k,a k->T k\/w.heap.size<=k)->IY h.b c A rs u (n-1) a w1 e w2->e= .returned (.tuple #[])/\Fe h.b c A rs u n T w (.returned (.bool true)) w2):=by
   show∀a w1 e w2,_
   rintro a w1 e w2 g1 o ⟨rfl,Y,x,g4,g5⟩;have hz:=g1.size;exact ⟨rfl,by rw [decide_eq_true g],Y,x,g1.trans g4 o,fun k f=>by
    rcases g5 k f with h|h
    ·exact o k h
    ·exact .inr (by omega)⟩
  have Z:¬n=0:=g;clear D K E M N O P R U V d p i f qu g Z;generalize h.b=b at*;generalize (Fe b c A rs u n T w)=Q at*
  go_enter func78,ntmps78
  go_wp2_with fail
  refine t.out.mono ?_;rintro e w1 ⟨rfl,rfl⟩;clear t;go_wp2_with fail
  refine z.out.mono ?_;intro e w1 hp;obtain ⟨rfl,a,g1,o,x⟩:=v.out _ _ hp;have j:=ae (F.out a w1 g1);have l:=ae (fun e w2 hh=>G.out a w1 e w2 o x hh);clear hp g1 o x z v F G m;go_wp2_with fail
  refine j.out.mono ?_;intro e w2 hp;obtain ⟨rfl,J⟩:=l.out _ _ hp;have H:=ae J;clear hp J j l;go_wp2;exact H.out
def Fg(b:Nat)(c:Cf)(A:AG)(rs:List Nat)(u:Nat)(T:Nat->Prop)(w:World)(e:Ending)(w':World):Prop:=e= .returned (.tuple #[])/\∃T',eF b c A rs u 0 T' w'/\Fr T w w'/\∀k,T' k->T k\/w.heap.size<=k
def lv(b:Nat)(c:Cf)(A:AG)(rs:List Nat)(u n:Nat)(T:Nat->Prop)(w w':World):Prop:=∃T',eF b c A rs u n T' w'/\Fr T w w'/\∀k,T' k->T k\/w.heap.size<=k
theorem nJ(t:eF b c A rs u n T w):Calls prog 53 #[b] w (Fg b c A rs u T w):=by
 have s:=ae (show lv b c A rs u n T w w from ⟨T,t,Kb _ _,fun _ h=> .inl h⟩);have f:=ae (fun n w1 (r:lv b c A rs u n T w w1)=>(show Calls prog 78 #[b] w1 fun e w2=>e= .returned (.bool (decide (n≠0)))/\lv b c A rs u (n-1) T w w2 from by
  obtain ⟨I,D,x,y⟩:=r;refine (rJ D).mono ?_;rintro e w2 ⟨rfl,o,E,F,G⟩;have J:=x.size;exact ⟨rfl,o,E,x.trans F y,fun k C=>by
   rcases G k C with h|h
   ·exact y k h
   ·exact .inr (by omega)⟩))
 have a:Hid (∀w1,lv b c A rs u 0 T w w1->Fg b c A rs u T w (.returned (.tuple #[])) w1):=ae (fun w1 r=>⟨rfl,r⟩);clear t;generalize (Fg b c A rs u T w)=Q at*
 go_enter func53,ntmps53
 go_wp2
 go_loopw [] (fun wr=>∃n,Hid (lv b c A rs u n T w wr)) (fun wr=>jD (fun n=>lv b c A rs u n T w wr))
 case atStart=>exact ⟨n,s⟩
 case round=>
  clear s;obtain ⟨m,v⟩:=hrel;obtain ⟨l,_⟩:=fp (P:=fun n=>lv b c A rs u n T w wr) v.out;clear v;generalize i:jD (fun n=>lv b c A rs u n T w wr)=m0 at l;have z:=ae i;have g:=ae (f.out m0 wr l);have B:Hid (m0=0->lv b c A rs u 0 T w wr):=ae (fun e=>by rw [<-e];exact l);clear i l B;by_cases p:m0=0
  ·have d:=g;rw [p,decide_eq_false (fun h=>h rfl)] at d;clear f g p;go_wp2_with fail
   refine d.out.mono ?_;rintro e w2 ⟨rfl,j⟩;have H:=ae (a.out w2 j);clear j d a;go_wp2;go_end0;exact H.out
  ·rw [decide_eq_true p] at g;clear f;go_wp2_with fail
   refine g.out.mono ?_;rintro e w2 ⟨rfl,j⟩;have H:=ae j;clear j g a;go_wp2;go_roundw
   case rel=>exact ⟨m0-1,H⟩
   case measure=>exact bx (fp (P:=fun n=>lv b c A rs u n T w w2) H.out).2 (by omega)
end
end Go.Proofs.YtgnoapadkncphaaGreatDoor
