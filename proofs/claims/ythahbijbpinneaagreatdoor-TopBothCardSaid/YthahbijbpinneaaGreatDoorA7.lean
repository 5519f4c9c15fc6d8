import Derived.Test.YthahbijbpinneaaGreatDoorA0
import Derived.Test.YthahbijbpinneaaGreatDoorA2
import Derived.Test.YthahbijbpinneaaGreatDoorA4
import Derived.Test.YthahbijbpinneaaGreatDoorA6
set_option maxRecDepth 100000
set_option maxHeartbeats 8000000
set_option linter.all false
namespace Go.Proofs.YthahbijbpinneaaGreatDoor
open Go.RowKit Go.Proofs.Tryz
def Cy.has(c:Cy)(k:Nat):Prop:=k=c.y\/k=c.mv\/k=c.wb\/k=c.sb\/c.EL.has k\/(c.lo<=k/\k<c.hi)
structure GJ(c:Cy):Prop where
 y:c.y≠c.mv/\c.y≠c.wb/\c.y≠c.sb/\¬c.EL.has c.y/\¬(c.lo<=c.y/\c.y<c.hi)/\c.y≠cO
 mv:c.mv≠c.wb/\c.mv≠c.sb/\¬c.EL.has c.mv/\¬(c.lo<=c.mv/\c.mv<c.hi)/\c.mv≠cO
 wb:c.wb≠c.sb/\¬c.EL.has c.wb/\¬(c.lo<=c.wb/\c.wb<c.hi)/\c.wb≠cO
def xl(l:List Bool):List Value:=l.map fun x=>Value.bool x
structure jE(c:Cy)(s:dV)(hf hg:Nat->Nat)(Fs Us Hg:Nat)(Sm:Nat->Prop)(mp:Nat->Bool)(M:Nat->Nat)(Mv:List Bool)(fw:Nat->Option Nat)(n left fr ah:Nat)(w:World):Prop where
 Qd:AC w c left fr ah
 mem:ed w c.m Sm s.P s.W Fs Us Hg mp M
 Xe:gj c.lo c.hi w c.pl s.W c.B s.E c.Qe
 ext:eJ w c.EL s.W s.E
 Qp:et w
 mv:aJ w c.mv (xl Mv) 4
 wds:gK w c.wb n fw
 shp:∃ns f,iu w c.sb ns f/\∀a,s.E a≠0->vA (f a)=(s.hp a,hf a,hg a)
 hib:c.hi<=w.heap.size
 dm:∀k,Sm k->¬c.has k/\k≠cO
 d:GJ c
 B:c.B=s.B
 Qe:c.Qe=s.Qe
 len:Mv.length=c.nb
section
variable{c:Cy}{s:dV}{hf hg:Nat->Nat}{Fs Us Hg used' Hg':Nat}{Sm Sm':Nat->Prop}{mp mp':Nat->Bool}{M M':Nat->Nat}{Mv mvl':List Bool}{fw fw':Nat->Option Nat}{n n' left fr ah left' fr' ah':Nat}{w w':World}
theorem jE.lt(h:jE c s hf hg Fs Us Hg Sm mp M Mv fw n left fr ah w):∀k,c.has k->k<w.heap.size:=by
 intro k a;obtain ⟨d,f,b,_⟩:=h.shp;rcases a with rfl|rfl|rfl|rfl|a|a
 ·exact h.Qd.lt
 ·exact h.mv.lt
 ·exact h.wds.lt
 ·exact b.lt
 ·exact h.ext.lt k a
 ·have:=h.hib;omega
theorem jE.Xu(h:jE c s hf hg Fs Us Hg Sm mp M Mv fw n left fr ah w):cO<w.heap.size:=cl (h.Qp 0 0 rfl)
theorem jE.frame{T:Nat->Prop}(h:jE c s hf hg Fs Us Hg Sm mp M Mv fw n left fr ah w)(a:Fr T w w')(b:∀k,c.has k->¬T k)(e:∀k,Sm k->¬T k)(g:¬T cO):jE c s hf hg Fs Us Hg Sm mp M Mv fw n left fr ah w':=by
 obtain ⟨o,f,p,q⟩:=h.shp;exact ⟨h.Qd.frame a (b _ (.inl rfl)),h.mem.frame a e,h.Xe.frame a (fun i j=>by
   by_cases m:c.lo<=i/\i<c.hi
   ·exact absurd j (b i (.inr (.inr (.inr (.inr (.inr m))))))
   ·omega),h.ext.frame a (fun k l=>b k (.inr (.inr (.inr (.inr (.inl l)))))),aS h.Qp a g,h.mv.frame a (b _ (.inr (.inl rfl))),h.wds.frame a (b _ (.inr (.inr (.inl rfl)))),⟨o,f,p.frame a (b _ (.inr (.inr (.inr (.inl rfl))))),q⟩,
  by have:=h.hib;have:=a.size;omega,h.dm,h.d,h.B,h.Qe,h.len⟩
theorem jE.Fh(h:jE c s hf hg Fs Us Hg Sm mp M Mv fw n left fr ah w)(a:GM w w'):jE c s hf hg Fs Us Hg Sm mp M Mv fw n left fr ah w':=h.frame a (fun _ _ h=>h) (fun _ _ h=>h) id
theorem jE.mem_(h:jE c s hf hg Fs Us Hg Sm mp M Mv fw n left fr ah w)(q:ed w' c.m Sm' s.P s.W Fs used' Hg' mp' M')(a:Fr Sm w w')(j:∀k,Sm' k->Sm k\/w.heap.size<=k):jE c s hf hg Fs used' Hg' Sm' mp' M' Mv fw n left fr ah w':=by
 obtain ⟨u,f,v,x⟩:=h.shp;have b:∀k,c.has k->¬Sm k:=fun k g j=>(h.dm k j).1 g
 have r:¬Sm cO:=fun j=>(h.dm _ j).2 rfl
 exact ⟨h.Qd.frame a (b _ (.inl rfl)),q,h.Xe.frame a (fun i p=>by
   by_cases t:c.lo<=i/\i<c.hi
   ·exact absurd p (b i (.inr (.inr (.inr (.inr (.inr t))))))
   ·omega),h.ext.frame a (fun k g=>b k (.inr (.inr (.inr (.inr (.inl g)))))),aS h.Qp a r,h.mv.frame a (b _ (.inr (.inl rfl))),h.wds.frame a (b _ (.inr (.inr (.inl rfl)))),⟨u,f,v.frame a (b _ (.inr (.inr (.inr (.inl rfl))))),x⟩,
  by have:=h.hib;have:=a.size;omega,fun k g=>by
   rcases j k g with l|l
   ·exact h.dm k l
   ·exact ⟨fun o=>by have:=h.lt k o;omega,fun e=>by have:=h.Xu;omega⟩,h.d,h.B,h.Qe,h.len⟩
theorem jE.y_(h:jE c s hf hg Fs Us Hg Sm mp M Mv fw n left fr ah w)(p:AC w' c left' fr' ah')(a:Fr (fun k=>k=c.y) w w'):jE c s hf hg Fs Us Hg Sm mp M Mv fw n left' fr' ah' w':=by
 obtain ⟨r,f,t,u⟩:=h.shp;obtain ⟨g,j,l,m,v,o⟩:=h.d.y;exact ⟨p,h.mem.frame a (fun k b e=>(h.dm k b).1 (.inl e)),h.Xe.frame a (fun i q=>by subst q;omega),h.ext.frame a (fun k b e=>m (e▸b)),aS h.Qp a (Ne.symm o),h.mv.frame a (Ne.symm g),h.wds.frame a (Ne.symm j),⟨r,f,t.frame a (Ne.symm l),u⟩,
  by have:=h.hib;have:=a.size;omega,h.dm,h.d,h.B,h.Qe,h.len⟩
theorem jE.mv_(h:jE c s hf hg Fs Us Hg Sm mp M Mv fw n left fr ah w)(p:aJ w' c.mv (xl mvl') 4)(r:mvl'.length=c.nb)(a:Fr (fun k=>k=c.mv) w w'):jE c s hf hg Fs Us Hg Sm mp M mvl' fw n left fr ah w':=by
 obtain ⟨t,f,u,v⟩:=h.shp;obtain ⟨g,x,z,A,C,D⟩:=h.d.y;obtain ⟨j,l,m,E,o⟩:=h.d.mv;exact ⟨h.Qd.frame a g,h.mem.frame a (fun k b e=>(h.dm k b).1 (.inr (.inl e))),h.Xe.frame a (fun i q=>by subst q;omega),h.ext.frame a (fun k b e=>m (e▸b)),aS h.Qp a (Ne.symm o),p,h.wds.frame a (Ne.symm j),⟨t,f,u.frame a (Ne.symm l),v⟩,
  by have:=h.hib;have:=a.size;omega,h.dm,h.d,h.B,h.Qe,r⟩
theorem jE.wb_(h:jE c s hf hg Fs Us Hg Sm mp M Mv fw n left fr ah w)(p:gK w' c.wb n' fw')(a:Fr (fun k=>k=c.wb) w w'):jE c s hf hg Fs Us Hg Sm mp M Mv fw' n' left fr ah w':=by
 obtain ⟨r,f,t,u⟩:=h.shp;obtain ⟨v,g,x,z,A,C⟩:=h.d.y;obtain ⟨j,D,E,F,G⟩:=h.d.mv;obtain ⟨l,m,H,o⟩:=h.d.wb;exact ⟨h.Qd.frame a g,h.mem.frame a (fun k b e=>(h.dm k b).1 (.inr (.inr (.inl e)))),h.Xe.frame a (fun i q=>by subst q;omega),h.ext.frame a (fun k b e=>m (e▸b)),aS h.Qp a (Ne.symm o),h.mv.frame a j,p,⟨r,f,t.frame a (Ne.symm l),u⟩,
  by have:=h.hib;have:=a.size;omega,h.dm,h.d,h.B,h.Qe,h.len⟩
theorem ms{l:List Bool}{k:Nat}(h:k<l.length):(xl l)[k]? =some (.bool (l.getD k false)):=by
 unfold xl;rw [aR,aK h];simp [List.getD,h]
end
def pM(s:dV)(X:Nat->Bool)(q:Nat):Nat:=Qb (fun a=>aI s.E a&& !X (ef s.E a)) (q*s.P) (q*s.P+s.P)
theorem pS{s:dV}(b:1<=s.P)(X:Nat->Bool)(q:Nat):pM s X q≠0↔ky s.P (aI s.E) X q=true:=by
 unfold ky;constructor
 ·intro h
  cases hf:kW s.P (fun a=>aI s.E a&& !X (Qb (aI s.E) 0 a)) q with
  |true=>rfl
  |false=>
   refine absurd (cu (fun i d e=> ?_)) h;exact (mf b).1 hf i (lD (i:=i-q*s.P) b (by omega) (by omega))
 ·intro h;obtain ⟨a,c,g⟩:=(cB b).1 h;have d:q*s.P<=a:=by rw [<-c];exact bE a s.P
  have e:a<q*s.P+s.P:=by
   have j:=aM a s.P;have:=bO a (show 0<s.P by omega);rw [c,aN] at j;omega
  have:=oY (f:=fun a=>aI s.E a&& !X (ef s.E a)) d e g;unfold pM;omega
theorem ui{s:dV}(r:1<=s.P){X:Nat->Bool}{a:Nat}(m:aI s.E a=true)(t:X (ef s.E a)=false)(q:Nat):
  pM s X q=pM s (fun j=>X j||decide (j=ef s.E a)) q+(if q=a/s.P then 1 else 0):=by
 have d:∀i,i≠a->(aI s.E i&& !(X (ef s.E i)||decide (ef s.E i=ef s.E a)))=(aI s.E i&& !X (ef s.E i)):=fun i g=>by
  cases hl:aI s.E i with
  |false=>rfl
  |true=>
   rw [ar (fun e=>g (th hl m e)),ca]
 unfold pM;by_cases e:q=a/s.P
 ·rw [aG e];have k:q*s.P<=a:=by rw [e];exact bE a s.P
  have o:a<q*s.P+s.P:=by
   have p:=aM a s.P;have:=bO a (show 0<s.P by omega);rw [<-e,aN] at p;omega
  have l:∀f:Nat->Bool,Qb f (q*s.P) (q*s.P+s.P)=Qb f (q*s.P) a+(if f a then 1 else 0)+Qb f (a+1) (q*s.P+s.P):=fun f=>by
   rw [bJ f (show q*s.P<=a+1 by omega) (show a+1<=q*s.P+s.P by omega),cr f k]
  rw [l,l,cI (f:=fun c=>aI s.E c&& !(X (ef s.E c)||decide (ef s.E c=ef s.E a))) (a:=q*s.P) (b:=a) (fun i _ h=>d i (by omega)),cI (f:=fun c=>aI s.E c&& !(X (ef s.E c)||decide (ef s.E c=ef s.E a))) (a:=a+1) (b:=q*s.P+s.P) (fun i h _=>d i (by omega))];simp [m,t];omega
 ·rw [aE e,bg];refine cI (fun i k o=>(d i (fun n=>e ?_)).symm);subst n;exact (lD (i:=i-q*s.P) r (by omega) (by omega)).symm
structure FB(s:dV)(X tp mp:Nat->Bool)(fw:Nat->Option Nat):Prop where
 cnts:∀q,(fw q).getD 0=pM s X q
 Qx:∀q,q<s.W/s.P->mp q=(ky s.P (aI s.E) X q||tp q)
 apart:∀a,aI s.E a=true->tp (a/s.P)=false
theorem FB.step{s:dV}{X p mp b:Nat->Bool}{m:Nat->Option Nat}(c:1<=s.P)(h:FB s X p mp m){a:Nat}(f:aI s.E a=true)(n:X (ef s.E a)=false)
  (i:∀q,b q=(mp q&& !(decide (pM s X (a/s.P)=1)&&q==a/s.P))):
  FB s (fun j=>X j||decide (j=ef s.E a)) p b (iV m (a/s.P) (pM s X (a/s.P)-1)):=by
 refine ⟨fun q=> ?_,fun q t=> ?_,h.apart⟩
 ·unfold iV;have:=ui c f n q;by_cases e:q=a/s.P
  ·rw [aG e,j9];rw [aG e] at this;rw [<-e];omega
  ·rw [aE e,h.cnts];rw [aE e] at this;omega
 ·rw [i,h.Qx q t];have d:=ui c f n q;have o:=pS c X q;have k:=pS c (fun j=>X j||decide (j=ef s.E a)) q;have g:=h.apart a f;by_cases e:q=a/s.P
  ·rw [aG e] at d;subst e;rw [cT,dZ,g,ca,ca];have r:ky s.P (aI s.E) X (a/s.P)=true:=o.1 (by omega);rw [r,bQ];by_cases l:pM s X (a/s.P)=1
   ·rw [aB l,Bool.not_true];refine (be.2 (fun hf=> ?_)).symm;exact absurd (k.2 hf) (by omega)
   ·rw [ar l,eV];exact (k.1 (by omega)).symm
  ·rw [aE e,bg] at d;rw [aT.2 e,cV,eV,dZ];congr 1
   rw [bS,<-o,<-k,d]
section
variable{c:Cy}{s:dV}{hf hg:Nat->Nat}{Fs:Nat}{Sm Sm':Nat->Prop}{mp mp':Nat->Bool}{M M0:Nat->Nat}{Mv:List Bool}{fw fw':Nat->Option Nat}{n left fr ah:Nat}{w w' w0:World}{X tp:Nat->Bool}
def pL(c:Cy)(s:dV)(hf hg:Nat->Nat)(Fs:Nat)(Mv:List Bool)(n left fr ah:Nat)(M0:Nat->Nat)(tp:Nat->Bool)(Sm0:Nat->Prop)(w0:World)(X:Nat->Bool)(w:World):Prop:=
 ∃Us Hg Sm mp M fw,jE c s hf hg Fs Us Hg Sm mp M Mv fw n left fr ah w/\FB s X tp mp fw/\(∀b,b<s.W->mp (b/s.P)=true->M b=M0 b)/\Fr (fun k=>Sm0 k\/k=c.wb) w0 w/\∀k,Sm k->Sm0 k\/w0.heap.size<=k
theorem pL.Fh{a:Nat->Prop}(h:pL c s hf hg Fs Mv n left fr ah M0 tp a w0 X w)(b:GM w w'):pL c s hf hg Fs Mv n left fr ah M0 tp a w0 X w':=by
 obtain ⟨Us,Hg,Sm,mp,M,fw,d,e,f,g,i⟩:=h;exact ⟨Us,Hg,Sm,mp,M,fw,d.Fh b,e,f,g.trans b GN,i⟩
theorem pL.anchor{d:Nat->Prop}(h:pL c s hf hg Fs Mv n left fr ah M0 tp d w0 X w):∃a,pL c s hf hg Fs Mv n left fr ah M0 tp a w X w/\(∀f w',pL c s hf hg Fs Mv n left fr ah M0 tp a w f w'->pL c s hf hg Fs Mv n left fr ah M0 tp d w0 f w')/\∀k,a k->k<w.heap.size:=by
 obtain ⟨Us,Hg,Sm,mp,M,fw,j,q,r,l,m⟩:=h;have t:=l.size;refine ⟨Sm,⟨Us,Hg,Sm,mp,M,fw,j,q,r,GQ _ _,fun k e=> .inl e⟩,?_,j.mem.lt⟩;rintro f w' ⟨b,Qj,a,i,o,g,p1,p2,p3,p4,p⟩;refine ⟨b,Qj,a,i,o,g,p1,p2,p3,l.trans p4 (fun k e=> ?_),fun k e=> ?_⟩
 ·rcases e with h|h
  ·rcases m k h with h|h
   ·exact .inl (.inl h)
   ·exact .inr h
  ·exact .inl (.inr h)
 ·rcases p k e with h|h
  ·exact m k h
  ·exact .inr (by omega)
theorem pL.word{d:Nat->Prop}(o:1<=s.P)(hn:n<4611686018427387904)(h:pL c s hf hg Fs Mv n left fr ah M0 tp d w0 X w){a:Nat}(D:aI s.E a=true)(F:a<s.W)(C:s.W% s.P=0)(O:X (ef s.E a)=false):
  ∃v,1<=v/\v<=s.P/\w.cell? c.y=some c.m/\w.cell? ⟨c.y,14,none⟩=some (.map (some c.wb))/\
   (Calls prog 148 #[c.m] w fun e w'=>e= .returned (.int .i64 (s.P:Int))/\w=w')/\
   (Instr.lookup 33 (.map (some c.wb)) (.int .i64 ((a/s.P:Nat):Int)) false).run prog w= .ok (.int .i64 v) w/\
   ∃w1,(Instr.mapUpdate 33 (.map (some c.wb)) (.int .i64 ((a/s.P:Nat):Int)) (.int .i64 ((v-1:Nat):Int))).run prog w= .ok () w1/\
    w1.cell? c.y=some c.m/\w1.cell? ⟨c.y,14,none⟩=some (.map (some c.wb))/\
    (Instr.lookup 33 (.map (some c.wb)) (.int .i64 ((a/s.P:Nat):Int)) false).run prog w1= .ok (.int .i64 ((v-1:Nat):Int)) w1/\
    (v≠1->pL c s hf hg Fs Mv n left fr ah M0 tp d w0 (fun j=>X j||decide (j=ef s.E a)) w1)/\
    (v=1->Calls prog 149 #[c.m,(((a/s.P:Nat):Int):Int)] w1 fun e w2=>e= .returned (0:Int)/\pL c s hf hg Fs Mv n left fr ah M0 tp d w0 (fun j=>X j||decide (j=ef s.E a)) w2):=by
 obtain ⟨Us,Hg,Sm,mp,M,fw,f,A,V,Y,Q⟩:=h;have K:a/s.P<4611686018427387904:=by have:=bK a s.P;have:=f.mem.at.2.2.1;omega
 have G:=A.cnts (a/s.P);have p:ky s.P (aI s.E) X (a/s.P)=true:=(cB o).2 ⟨a,rfl,by rw [au,eb];exact ⟨D,O⟩⟩;have L:pM s X (a/s.P)≠0:=(pS o X _).2 p;have N:pM s X (a/s.P)<=s.P:=by unfold pM;have:=dR (fun a=>aI s.E a&& !X (ef s.E a)) (a/s.P*s.P) (a/s.P*s.P+s.P);omega
 have ad:=f.mem.at.2.1;have z:=jh F o C;have g:(fw (a/s.P)).isSome=true:=by
  cases hfw:fw (a/s.P) with
  |some x=>rfl
  |none=>rw [hfw] at G;exact absurd G.symm L
 have U:=f.wds.look (a/s.P) K;rw [G] at U;obtain ⟨w1,r1,Z,R⟩:=f.wds.put (a/s.P) (pM s X (a/s.P)-1) K (by omega) hn;rw [aG g] at Z;have l:=f.wb_ Z R;have t:=l.wds.look (a/s.P) K;have hu:(iV fw (a/s.P) (pM s X (a/s.P)-1) (a/s.P)).getD 0=pM s X (a/s.P)-1:=by unfold iV;rw [aG rfl];rfl
 rw [hu] at t;have S:Fr (fun k=>d k\/k=c.wb) w0 w1:=Y.trans R (fun k r=> .inl (.inr r));have hz:=Y.size;refine ⟨pM s X (a/s.P),by omega,N,f.Qd.cell 0 rfl,f.Qd.cell 14 rfl,jo f.mem,U,w1,r1,l.Qd.cell 0 rfl,l.Qd.cell 14 rfl,t,fun J=> ?_,fun he=> ?_⟩
 ·exact ⟨Us,Hg,Sm,mp,M,_,l,A.step o D O (fun q=>by rw [ar J];simp),V,S,Q⟩
 ·have I:mp (a/s.P)=true:=by rw [A.Qx _ z,p];rfl
  refine (mh l.mem (a/s.P) z I).mono ?_;rintro e w2 ⟨rfl,Sm',B,M',p1,p2,p3,p4⟩;refine ⟨rfl,Us-1,B,Sm',_,M',_,l.mem_ p1 p3 p4,A.step o D O (fun q=>by rw [aB he,bQ]),fun b T H=> ?_,S.trans p3 (fun k r=> ?_),fun k r=> ?_⟩
  ·have u:mp (b/s.P)=true:=by rw [au] at H;exact H.1
   rw [p2 b T u H];exact V b T u
  ·rcases Q k r with i|i
   ·exact .inl (.inl i)
   ·exact .inr i
  ·have:=R.size;rcases p4 k r with i|i
   ·exact Q k i
   ·exact .inr (by omega)
def Ct(s:dV)(X:Nat->Bool)(F k:Nat):Nat->Bool:=fun j=>X j||decide (ef s.E F<=j/\j<ef s.E F+k)
theorem Cr(X:Nat->Bool)(F:Nat):Ct s X F 0=X:=by
 funext j;unfold Ct;rw [ar (by omega),ca]
theorem Cs(X:Nat->Bool){F k:Nat}(a:ef s.E (F+k)=ef s.E F+k):(fun j=>Ct s X F k j||decide (j=ef s.E (F+k)))=Ct s X F (k+1):=by
 funext j;unfold Ct;rw [jT,a,<-Bool.decide_or];congr 1
 rw [ce];omega
theorem yX{p:Nat->Prop}(hP:1<=s.P)(hn:n<4611686018427387904)(G:s.W% s.P=0)(h:pL c s hf hg Fs Mv n left fr ah M0 tp p w0 X w)(F t k:Nat)(J:F+k<=s.W)(r:∀i,i<k->aI s.E (F+i)=true/\ef s.E (F+i)=ef s.E F+i)(hx:∀i,i<k->X (ef s.E F+i)=false):
  Calls prog 199 #[c.y,.agg #[(F:Int),(t:Int),(k:Int)]] w fun e w'=>e= .returned (.tuple #[])/\pL c s hf hg Fs Mv n left fr ah M0 tp p w0 (Ct s X F k) w':=by
 have hW:s.W<=524288:=h.choose_spec.choose_spec.choose_spec.choose_spec.choose_spec.choose_spec.1.mem.at.2.2.1;have aq:s.P<=256:=h.choose_spec.choose_spec.choose_spec.choose_spec.choose_spec.choose_spec.1.mem.at.2.1;obtain ⟨W1,f⟩:∃W1,w.alloc (.cells #[(F:Int),(t:Int),(k:Int)] 286)=W1:=⟨_,rfl⟩;have g:GM w W1:=by rw [<-f];exact (GQ _ w).alloc _
 have H:aJ W1 w.heap.size [(F:Int),(t:Int),(k:Int)] 286:=by rw [<-f];exact aJ.new w _ _
 obtain ⟨b,a1,a2,a3⟩:∃b,pL c s hf hg Fs Mv n left fr ah M0 tp b W1 X W1/\(∀A w',pL c s hf hg Fs Mv n left fr ah M0 tp b W1 A w'->pL c s hf hg Fs Mv n left fr ah M0 tp p w0 A w')/\∀k,b k->k<w.heap.size:=by
  obtain ⟨S,⟨Us,Hg,Sm,mp,M,fw,U,q2,q3,q4,q5⟩,b2,b3⟩:=h.anchor;refine ⟨S,⟨Us,Hg,Sm,mp,M,fw,U.Fh g,q2,q3,GQ _ _,fun k J=> ?_⟩,fun A w' hh=>b2 A w' ?_,b3⟩
  ·rcases q5 k J with h|h
   ·exact .inl h
   ·have:=U.mem.lt k J;omega
  ·obtain ⟨z,Qj,b,ap,M1,ak,p1,p2,p3,p4,p5⟩:=hh;have:=g.size;exact ⟨z,Qj,b,ap,M1,ak,p1,p2,p3,(g.mono GN).trans p4 (fun _ h=> .inl h),fun k J=>(p5 k J).imp id (fun h=>by omega)⟩
 have ao:W1.heap.size=w.heap.size+1:=by rw [<-f];exact bC _
 have u:¬b w.heap.size/\w.heap.size≠c.wb:=by
  obtain ⟨Us,Hg,Sm,mp,M,fw,U,_⟩:=id h;exact ⟨fun hs=>by have:=a3 _ hs;omega,fun e=>by have:=U.wds.lt;omega⟩
 have HB:=ae (fun wr (A:Nat->Bool) (l:pL c s hf hg Fs Mv n left fr ah M0 tp b W1 A wr)=>(show aJ wr w.heap.size [(F:Int),(t:Int),(k:Int)] 286 from by
  obtain ⟨_,_,_,_,_,_,_,_,_,q4,_⟩:=l;exact H.frame q4 (fun e=>by rcases e with e|e;exact u.1 e;exact u.2 e)))
 have o:=ae (fun (i:Nat) wr (B:i<k) (l:pL c s hf hg Fs Mv n left fr ah M0 tp b W1 (Ct s X F i) wr)=>pL.word hP hn l (a:=F+i) (r i B).1 (by omega) G (by unfold Ct;rw [(r i B).2,hx i B,ar (by omega)];rfl));have m:=ae (fun (i:Nat) (B:i<k)=>Cs (s:=s) X (r i B).2);have Z:=ae a2;have R:=ae a1;have hd:∀i:Nat,i<k->((F:Int)+(i:Int)).tdiv (s.P:Int)=(((F+i)/s.P:Nat):Int):=fun i _=>by rw [show (F:Int)+(i:Int)=((F+i:Nat):Int) by omega,fU]
 have Y:=ae hd;have av:¬s.P=0:=by omega
 clear h a1 a2 a3 g H r hx ao u hd G hP;rw [<-Cr (s:=s) X F] at R
 go_enter func199,ntmps199
 have k0:=(HB.out W1 _ R.out).cell 0 rfl;go_wp2;clear f
 go_loopw [4] (fun x wr=>∃i:Nat,x= .int .i64 ((F:Int)+(i:Int))/\i<=k/\Hid (pL c s hf hg Fs Mv n left fr ah M0 tp b W1 (Ct s X F i) wr)) (fun x _=>(F+k-intOf x).toNat)
 case atStart=>exact ⟨0,by simp,aF _,R⟩
 case round=>
  clear R k0;obtain ⟨i,rfl,B,l⟩:=hrel;have I:=HB.out wr _ l.out;obtain ⟨k0,_,k2,_⟩:=GT I;by_cases j:i<k
  ·obtain ⟨v,v1,v2,c0,ai,N,r,w1,hu,d0,aj,K,hA,hB⟩:=o.out i wr j l.out;have T:=ae hA;have d:=ae hB;have D:=ae N;have au:=Y.out i j;have O:=m.out i j;rw [O] at T d;have am:(v:Int)-1=((v-1:Nat):Int):=by omega
   have an:IntKind.i64.wrap ((v:Int)-1)=((v-1:Nat):Int):=by rw [IntKind.wrap_i64];omega
   clear hA hB N O l o Z Y m;have ax:(F+i)/s.P<=524288:=aZ (bK _ _) (by omega);generalize (F+i)/s.P=q at*;have aw:(q:Int)<=524288:=by omega
   have c1:(F:Int)+(i:Int)<(F:Int)+(k:Int):=by omega
   go_wp2_with fail
   refine D.out.mono ?_;rintro e w' ⟨rfl,rfl⟩;clear D;by_cases Q:v=1
   ·subst Q;have C:=ae (d.out rfl);rw [show ((1:Nat):Int)=1 from rfl] at r;rw [show ((1-1:Nat):Int)=0 from rfl] at hu K;clear am an;clear T d;go_wp2_with fail
    refine C.out.mono ?_;rintro e w2 ⟨rfl,L⟩;have af:=ae L;clear L C hu r K c0 ai d0 aj;go_wp2;go_roundw
    case rel=>exact ⟨i+1,by push_cast;rw [Int.add_assoc],by omega,af⟩
    case measure=>simp [intOf];omega
   ·have V:=ae (T.out Q);have ay:¬(((v-1:Nat):Int)=0):=by omega
    clear T d;generalize v-1=v' at*;go_wp2;go_roundw
    case rel=>exact ⟨i+1,by push_cast;rw [Int.add_assoc],by omega,V⟩
    case measure=>simp [intOf];omega
  ·have al:i=k:=by omega
   subst al;have ad:=ae (Z.out _ _ l.out);have c1:¬(F:Int)+(i:Int)<(F:Int)+(i:Int):=by omega
   clear l Z o m Y j;go_wp2;go_end0;exact ⟨rfl,ad.out⟩
end
def rE(s:dV)(M:Nat->Nat)(F t n:Nat):Nat->Nat:=fun x=>if t<=x/\x<t+n then oq s.E s.hp M s.F (F+(x-t)) else M x
theorem Cv(s:dV)(M:Nat->Nat)(F t:Nat):rE s M F t 0=M:=by
 funext x;unfold rE;rw [aE (by omega)]
theorem Cw(s:dV)(M:Nat->Nat)(F t n:Nat):ej (rE s M F t n) (t+n) (oq s.E s.hp M s.F (F+n))=rE s M F t (n+1):=by
 funext x;show (if x=t+n then oq s.E s.hp M s.F (F+n) else if t<=x/\x<t+n then oq s.E s.hp M s.F (F+(x-t)) else M x)=if t<=x/\x<t+(n+1) then oq s.E s.hp M s.F (F+(x-t)) else M x
 by_cases h:x=t+n
 ·subst h;rw [aG rfl,aG (by omega),show t+n-t=n by omega]
 ·rw [aE h];by_cases a:t<=x/\x<t+n
  ·rw [aG a,aG (by omega)]
  ·rw [aE a,aE (by omega)]
structure Ge(c:Cy)(s:dV)(hf hg:Nat->Nat)(mp:Nat->Bool)(M:Nat->Nat)(F t n:Nat):Prop where
 ap:iB s.E
 Fw:F+n<=s.W
 tw:t+n<=s.W
 live:∀i,i<n->aI s.E (F+i)=true
 off:∀i j,i<n->j<n->t+i≠F+j
 mpF:∀i,i<n->mp ((F+i)/s.P)=true
 mpt:∀i,i<n->mp ((t+i)/s.P)=true
 ptr:∀i,i<n->1<=F+i-dp s.E (F+i)->F+i-dp s.E (F+i)<=s.hp (dp s.E (F+i))->M (F+i)≠0->aI s.E (M (F+i))=true/\M (F+i)<s.W
 big:∀i,i<n->M (F+i)<18446744073709551616
 hd:∀a,s.E a≠0->eO (s.hp a) (hf a) (hg a)
 toB:c.Qe<=1048576
section
variable{c:Cy}{s:dV}{hf hg:Nat->Nat}{Fs Us Hg:Nat}{Sm:Nat->Prop}{mp:Nat->Bool}{M:Nat->Nat}{Mv:List Bool}{fw:Nat->Option Nat}{n left fr ah:Nat}{w w' w0:World}
theorem Ge.Ah{F t k i:Nat}(h:Ge c s hf hg mp M F t k){j:Nat}(b:j<k):rE s M F t i (F+j)=M (F+j)\/k<i:=by
 by_cases a:k<i
 ·exact .inr a
 ·left;unfold rE;rw [aE (fun d=>h.off (F+j-t) j (by omega) b (by omega))]
theorem EB{s:dV}{M:Nat->Nat}{a:Nat}(b:M a<18446744073709551616)(e:s.Qe<=1048576)(d:aI s.E a=true)(hp:1<=a-dp s.E a->a-dp s.E a<=s.hp (dp s.E a)->M a≠0->aI s.E (M a)=true/\M a<s.W)(i:s.W<=1048576):oq s.E s.hp M s.F a<18446744073709551616:=by
 have f:=fX d;unfold oq nN;rw [show dp s.E a+(a-dp s.E a)=a by omega];split
 ·next hc=>
  have g:=(hp hc.1 hc.2.1 hc.2.2).2;have h:=fZ (aI s.E) (M a);show s.Qe+Qb (aI s.E) 0 (M a)<_
  omega
 ·exact b
def Az(c:Cy)(s:dV)(hf hg:Nat->Nat)(Fs Us Hg:Nat)(Sm:Nat->Prop)(mp:Nat->Bool)(Mv:List Bool)(fw:Nat->Option Nat)(n left fr ah:Nat)(w0:World)(M:Nat->Nat)(q:Nat)(h3:Nat×Nat×Nat)(q0:Nat)(pc:List Value)(w:World):Prop:=
 jE c s hf hg Fs Us Hg Sm mp M Mv fw n left fr ah w/\Fr (fun k=>Sm k\/w0.heap.size<=k) w0 w/\aJ w q [((h3.1:Int):Int),((h3.2.1:Int):Int),((h3.2.2:Int):Int)] 31/\aJ w q0 pc 286
theorem Az.Fh{M:Nat->Nat}{q q0:Nat}{b:Nat×Nat×Nat}{d:List Value}(h:Az c s hf hg Fs Us Hg Sm mp Mv fw n left fr ah w0 M q b q0 d w)(a:GM w w'):Az c s hf hg Fs Us Hg Sm mp Mv fw n left fr ah w0 M q b q0 d w':=
 ⟨h.1.Fh a,h.2.1.trans a GN,h.2.2.1.frame a id,h.2.2.2.frame a id⟩
theorem uW(h:jE c s hf hg Fs Us Hg Sm mp M Mv fw n left fr ah w)(a x:Nat)(g:a<s.W)(i:mp (a/s.P)=true)(j:x<18446744073709551616):Calls prog 224 #[c.m,(a:Int),.int .u64 x] w fun e w'=>e= .returned (0:Int)/\jE c s hf hg Fs Us Hg Sm mp (ej M a x) Mv fw n left fr ah w'/\Fr Sm w w':=
 (oL h.mem a x g i j).mono (fun _ _ ⟨d,f,b⟩=>⟨d,h.mem_ f b (fun _ h=> .inl h),b⟩)
theorem yi(h:jE c s hf hg Fs Us Hg Sm mp M Mv fw n left fr ah w)(b:iB s.E)(a:Nat)(o:a<s.W)(g:aI s.E a=true):Calls prog 243 #[c.EL.m,(a:Int)] w fun e w'=>e= .returned (.tuple #[(((dp s.E a:Nat):Int):Int),(((s.E (dp s.E a):Nat):Int):Int),.bool true])/\w=w':=by
 have l:=h.mem.at.2.2.1;refine (j6 h.ext h.Qp a (by omega)).mono ?_;rintro e w' ⟨f,rfl⟩;have i:=fX g;refine ⟨?_,rfl⟩;rcases f with ⟨s',n',d,j,k,rfl⟩|⟨d,_⟩
 ·subst j;rw [sX b d k]
 ·have:=d _ i.1;omega
theorem A1(h:jE c s hf hg Fs Us Hg Sm mp M Mv fw n left fr ah w)(F t k:Nat)(l:Ge c s hf hg mp M F t k):
  Calls prog 198 #[c.y,.agg #[(F:Int),(t:Int),(k:Int)]] w fun e w'=>e= .returned (.tuple #[])/\jE c s hf hg Fs Us Hg Sm mp (rE s M F t k) Mv fw n left fr ah w'/\Fr Sm w w':=by
 have hW:=h.mem.at.2.2.1;have hP:=h.mem.at.1;have au:Hid ((prog.info? 31).map (·.size)=some 3):=by show _=_;kernel_rfl
 obtain ⟨W1,Y⟩:∃W1,w.alloc (.cells #[(F:Int),(t:Int),(k:Int)] 286)=W1:=⟨_,rfl⟩;have aL:GM w W1:=by rw [<-Y];exact (GQ _ w).alloc _
 have aG:aJ W1 w.heap.size [(F:Int),(t:Int),(k:Int)] 286:=by rw [<-Y];exact aJ.new w _ _
 have aX:W1.heap.size=w.heap.size+1:=by rw [<-Y];exact bC _
 obtain ⟨W2,ad⟩:∃W2,W1.alloc (.cells #[(0:Int),(0:Int),(0:Int)] 31)=W2:=⟨_,rfl⟩;have av:GM W1 W2:=by rw [<-ad];exact (GQ _ W1).alloc _
 have aH:aJ W2 (w.heap.size+1) [(0:Int),(0:Int),(0:Int)] 31:=by rw [<-ad,<-aX];exact aJ.new W1 _ _
 have Q:=aL.trans av GN;have h0:Az c s hf hg Fs Us Hg Sm mp Mv fw n left fr ah w (rE s M F t 0) (w.heap.size+1) (0,0,0) w.heap.size [(F:Int),(t:Int),(k:Int)] W2:=by
  rw [Cv];exact ⟨h.Fh Q,Q.mono GN,aH,aG.frame av id⟩
 have H0:=ae h0;have aB:=ae ad;have am:=h.lt;have G:=h.mem.lt;have aq:∀i,i<k->rE s M F t i (F+i)=M (F+i):=fun i o=>(l.Ah (i:=i) o).resolve_right (by omega)
 have O:=ae (fun (i:Nat) (g:Nat×Nat×Nat) wr (o:i<k) (d:Az c s hf hg Fs Us Hg Sm mp Mv fw n left fr ah w (rE s M F t i) (w.heap.size+1) g w.heap.size [(F:Int),(t:Int),(k:Int)] wr) a (H:dp s.E (F+i)=a) (P:g=(s.hp a,hf a,hg a))=>
  (show Calls prog 244 #[c.y,(((F:Int)+(i:Int)):Int),(a:Int),gD (g.1:Int) (g.2.1:Int) (g.2.2:Int)] wr (Ar wr (oq s.E s.hp M s.F (F+i))) from by
   subst H;have hl:=l.live i o;have ho:=fX hl;have hm:=aq i o;have b:=tS d.1.Qd d.1.Xe l.toB d.1.mem (F+i) (dp s.E (F+i)) (s.hp (dp s.E (F+i))) (hf (dp s.E (F+i))) (hg (dp s.E (F+i))) ho.1 (by have:=l.Fw;omega) (l.mpF i o) (l.hd _ (by omega)) (fun q1 q2 q3=>by rw [hm] at q3 ⊢;exact l.ptr i o q1 q2 q3) (by rw [hm];exact l.big i o);have hg:nN (rE s M F t i) (goes s.E c.Qe) (dp s.E (F+i)) (s.hp (dp s.E (F+i))) (F+i-dp s.E (F+i))=oq s.E s.hp M s.F (F+i):=by
    have:=jm (hp:=s.hp) (F:=s.F) hl hm;rw [<-this];unfold oq dV.F;rw [d.1.Qe]
   rw [hg] at b;rw [P,show (F:Int)+(i:Int)=((F+i:Nat):Int) by push_cast;rfl];exact b))
 have N:=ae (fun (i:Nat) (g:Nat×Nat×Nat) wr (o:i<k) (d:Az c s hf hg Fs Us Hg Sm mp Mv fw n left fr ah w (rE s M F t i) (w.heap.size+1) g w.heap.size [(F:Int),(t:Int),(k:Int)] wr)=>
  (show Calls prog 224 #[c.m,(((t:Int)+(i:Int)):Int),.int .u64 ((oq s.E s.hp M s.F (F+i):Nat):Int)] wr fun e w'=>e= .returned (0:Int)/\Az c s hf hg Fs Us Hg Sm mp Mv fw n left fr ah w (rE s M F t (i+1)) (w.heap.size+1) g w.heap.size [(F:Int),(t:Int),(k:Int)] w' from by
   rw [show (t:Int)+(i:Int)=((t+i:Nat):Int) by push_cast;rfl];refine (uW d.1 (t+i) _ (by have:=l.tw;omega) (l.mpt i o) (EB (l.big i o) (by have:=l.toB;have:=h.Qe;omega) (l.live i o) (l.ptr i o) (by omega))).mono ?_;rintro e w' ⟨rfl,q1,q2⟩;rw [Cw] at q1;exact ⟨rfl,q1,d.2.1.trans q2 (fun k hk=> .inl (.inl hk)),d.2.2.1.frame q2 (fun hs=>by have:=G _ hs;omega),d.2.2.2.frame q2 (fun hs=>by have:=G _ hs;omega)⟩))
 have T:=ae (fun (i:Nat) (g:Nat×Nat×Nat) wr (o:i<k) (d:Az c s hf hg Fs Us Hg Sm mp Mv fw n left fr ah w (rE s M F t i) (w.heap.size+1) g w.heap.size [(F:Int),(t:Int),(k:Int)] wr)=>
  (show Calls prog 243 #[c.EL.m,(((F:Int)+(i:Int)):Int)] wr fun e w'=>e= .returned (.tuple #[(((dp s.E (F+i):Nat):Int):Int),(((s.E (dp s.E (F+i)):Nat):Int):Int),.bool true])/\wr=w' from by
   rw [show (F:Int)+(i:Int)=((F+i:Nat):Int) by push_cast;rfl];exact yi d.1 l.ap (F+i) (by have:=l.Fw;omega) (l.live i o)))
 have X:=ae (fun (i:Nat) (g:Nat×Nat×Nat) wr (o:i<k) (d:Az c s hf hg Fs Us Hg Sm mp Mv fw n left fr ah w (rE s M F t i) (w.heap.size+1) g w.heap.size [(F:Int),(t:Int),(k:Int)] wr)=>
  (show (Instr.lookup 208 (.map (some c.sb)) (.int .i64 ((dp s.E (F+i):Nat):Int)) false).run prog wr= .ok (gD (s.hp (dp s.E (F+i)):Nat) (hf (dp s.E (F+i)):Nat) (hg (dp s.E (F+i)):Nat)) wr/\wr.there (w.heap.size+1) 0 3/\∀W,W=wr.setCells (w.heap.size+1) 0 [((s.hp (dp s.E (F+i)):Nat):Int),((hf (dp s.E (F+i)):Nat):Int),((hg (dp s.E (F+i)):Nat):Int)]->Az c s hf hg Fs Us Hg Sm mp Mv fw n left fr ah w (rE s M F t i) (w.heap.size+1) (s.hp (dp s.E (F+i)),hf (dp s.E (F+i)),hg (dp s.E (F+i))) w.heap.size [(F:Int),(t:Int),(k:Int)] W from by
   obtain ⟨ns,f,q1,q2⟩:=d.1.shp;have ho:=fX (l.live i o);have hl:=q1.look (dp s.E (F+i)) (by have:=l.Fw;omega);rw [q2 _ (by omega)] at hl;have C:=d.2.2.1;refine ⟨hl,fun j hj=> ?_,?_⟩
   ·match j,hj with
    |0,_=>exact ⟨by rw [C.cell 0 rfl];rfl,C.free 0⟩
    |1,_=>exact ⟨by rw [C.cell 1 rfl];rfl,C.free 1⟩
    |2,_=>exact ⟨by rw [C.cell 2 rfl];rfl,C.free 2⟩
   ·rintro W rfl;have aw:Fr (fun k=>k=w.heap.size+1) wr (wr.setCells (w.heap.size+1) 0 [((s.hp (dp s.E (F+i)):Nat):Int),((hf (dp s.E (F+i)):Nat):Int),((hg (dp s.E (F+i)):Nat):Int)]):=
     (((GQ (fun k=>k=w.heap.size+1) wr).setCell ⟨w.heap.size+1,0,none⟩ (.inl rfl) _).setCell ⟨w.heap.size+1,1,none⟩ (.inl rfl) _).setCell ⟨w.heap.size+1,2,none⟩ (.inl rfl) _
    exact ⟨d.1.frame aw (fun k hk e=>by have:=am k hk;omega) (fun k hk e=>by have:=G k hk;omega) (fun e=>by have:=h.Xu;omega),d.2.1.trans aw (fun k hk=> .inl (.inr (by omega))),((C.set 0 _).set 1 _).set 2 _,d.2.2.2.frame aw (by omega)⟩))
 have J:=ae (fun (i:Nat) (g:Nat×Nat×Nat) wr (d:Az c s hf hg Fs Us Hg Sm mp Mv fw n left fr ah w (rE s M F t i) (w.heap.size+1) g w.heap.size [(F:Int),(t:Int),(k:Int)] wr)=>ag (d.1.Qd.cell 0 rfl) (ag (d.1.Qd.cell 9 rfl) (ag (d.1.Qd.cell 15 rfl) (ag (d.2.2.2.cell 0 rfl) (ag (d.2.2.2.cell 1 rfl) (d.2.2.2.cell 2 rfl))))));have I:=ae (fun (i a sz:Nat) (g:Nat×Nat×Nat) (o:i<k) (H:dp s.E (F+i)=a) (e3:sz=s.E a) (P:g=(s.hp a,hf a,hg a)) (B:F+(i+1)<a+sz)=>
  (show dp s.E (F+(i+1))=a/\sz=s.E a/\g=(s.hp a,hf a,hg a) from by
   have ho:=fX (l.live i o);refine ⟨sX l.ap (by omega) (by omega),e3,P⟩))
 have V:=ae (fun (i:Nat) (o:i<k)=>(show dp s.E (F+i)+s.E (dp s.E (F+i))<=1048576 from by
  have ho:=fX (l.live i o);have:=h.ext.top (dp s.E (F+i)) (by omega);omega))
 have S:=ae (fun g wr (d:Az c s hf hg Fs Us Hg Sm mp Mv fw n left fr ah w (rE s M F t k) (w.heap.size+1) g w.heap.size [(F:Int),(t:Int),(k:Int)] wr)=>ag d.1 (d.2.1.mono (S':=Sm) (fun k hk=>hk)));have U:=ae (fun i=>Bx (s.hp (dp s.E (F+i)):Nat) (hf (dp s.E (F+i)):Nat) (hg (dp s.E (F+i)):Nat));have aZ:=l.Fw;have a0:=l.tw;clear ad h l h0 aG aH aL av Q aq am G hP
 go_enter func198,ntmps198
 go_upto_region 2 with fail
 rw [aB.out];clear Y aB aX;obtain ⟨k0,k1,k2,k3,k4,k5⟩:=J.out 0 (0,0,0) W2 H0.out;go_wp2;clear k0 k1 k2 k3 k4 k5
 go_loopw [4,5,12] (fun x4 x5 ay wr=>∃(i a sz:Nat) (g:Nat×Nat×Nat),x4= .int .i64 a/\x5= .int .i64 sz/\ay= .int .i64 i/\i<=k/\(F+i<a+sz->dp s.E (F+i)=a/\sz=s.E a/\g=(s.hp a,hf a,hg a))/\a+sz<=1048576/\Hid (Az c s hf hg Fs Us Hg Sm mp Mv fw n left fr ah w (rE s M F t i) (w.heap.size+1) g w.heap.size [(F:Int),(t:Int),(k:Int)] wr)) (fun _ _ ay _=>(k-intOf ay).toNat)
 case atStart=>exact ⟨0,0,0,(0,0,0),rfl,rfl,rfl,aF _,fun B=>by omega,by omega,H0⟩
 case round=>
  clear H0;obtain ⟨i,a,sz,g,rfl,rfl,rfl,o,af,aM,d⟩:=hrel;obtain ⟨k0,k1,k2,k3,k4,k5⟩:=J.out i g wr d.out;by_cases p:i<k
  ·have c1:(i:Int)<(k:Int):=by omega
   by_cases ax:F+i<a+sz
   ·obtain ⟨H,e3,P⟩:=af ax;obtain ⟨u,v,x⟩:=g;have c2:(F:Int)+(i:Int)<(a:Int)+(sz:Int):=by omega
    obtain ⟨D,aT⟩:∃D,D=wr:=⟨_,rfl⟩;rw [<-aT] at d k0 k1 k2 k3 k4 k5 ⊢;clear aT;have z:=ae (fun w' (b:GM D w')=>(let B:=d.out.Fh b;ag (B.1.Qd.cell 0 rfl) (ag (B.2.2.2.cell 0 rfl) (ag (B.2.2.2.cell 1 rfl) (B.2.2.2.cell 2 rfl)))));have K:=ae (fun w' (b:GM D w')=>(d.out.Fh b).2.2.1);have r:=ae (fun w' (b:GM D w')=>O.out i (u,v,x) w' p (d.out.Fh b) a H P);have A:=ae (fun w' (b:GM D w')=>N.out i (u,v,x) w' p (d.out.Fh b));have ar:Hid (F+(i+1)<a+sz->dp s.E (F+(i+1))=a/\sz=s.E a/\(u,v,x)=(s.hp a,hf a,hg a)):=ae (fun B=>I.out i a sz (u,v,x) p H e3 P B);obtain ⟨Z,hZ⟩:∃Z,Z=oq s.E s.hp M s.F (F+i):=⟨_,rfl⟩;rw [<-hZ] at r A;unfold Ar gD at r;clear hZ;clear d af O N T X J I V S U ax H P e3;go_wp2;refine bR (fun w'=>GM D w') 13 ((GQ _ D).drew) ?_;simp only [ai,an,aj,ao];refine aV [c.y,c.y,c.y] ?_
    iterate 3 (refine aW rfl (fun w9 h9=>by go_simp) ?_;simp only [aa])
    refine aU ?_;refine aA c.m rfl (fun w' b=>by obtain ⟨k1,k2,k3,k4⟩:=z.out w' b;go_simp) ?_;simp only [aa];refine aA (.pointer (some ⟨w.heap.size,1,none⟩)) rfl (fun w' b=>by go_simp) ?_;simp only [aa];refine aA (t:Int) rfl (fun w' b=>by obtain ⟨k1,k2,k3,k4⟩:=z.out w' b;go_simp) ?_;simp only [aa];refine aA (i:Int) rfl (fun w' b=>by go_simp) ?_;simp only [aa];refine aA (.int .i64 ((t:Int)+(i:Int))) rfl (fun w' b=>by go_simp;rw [IntKind.wrap_i64];omega) ?_;simp only [aa];refine aV [c.y,(((F:Int)+(i:Int)):Int),(a:Int)] ?_
    iterate 3 (refine aW rfl (fun w9 h9=>by go_simp) ?_;simp only [aa])
    refine aU ?_;refine aA (.agg #[(u:Int),(v:Int),(x:Int)]) rfl (fun w' b=>jf rfl (w.heap.size+1) rfl 31 _ (0,0) _ (K.out w' b) underlying31 rfl au.out) ?_;simp only [aa];refine bT (.int .u64 Z) 244 #[c.y,(((F:Int)+(i:Int)):Int),(a:Int),.agg #[(u:Int),(v:Int),(x:Int)]] rfl (fun w'=>by go_simp) (fun w' b=>(r.out w' b).mono fun e w2 h=>⟨h.1,b.trans h.2 GN⟩) ?_;simp only [aa];refine wpQuiet_nil ?_;intro w5 R;have L:=ae (A.out w5 R);clear z K r A R;go_wp2_with fail
    refine L.out.mono ?_;rintro e w6 ⟨rfl,h6⟩;have H6:=ae h6;clear h6 L;go_wp2;go_roundw
    case rel=>exact ⟨i+1,a,sz,(u,v,x),rfl,rfl,by go_num,by omega,ar.out,aM,H6⟩
    case measure=>simp [intOf];omega
   ·have c2:¬(F:Int)+(i:Int)<(a:Int)+(sz:Int):=by omega
    have ak:=ae (T.out i g wr p d.out);obtain ⟨hl,aR,aD⟩:=X.out i g wr p d.out;have az:=ae aR;have aC:=ae aD;have aN:=V.out i p;have al:=ae (U.out i);have HX:=ae (show∃a sz,dp s.E (F+i)=a/\sz=s.E a from ⟨_,_,rfl,rfl⟩);have H:dp s.E (F+i)=dp s.E (F+i):=rfl;clear d af T X J V S U ax aR aD aM H;generalize aP:dp s.E (F+i)=st' at*;generalize aQ:s.E st'=sz' at*;generalize aE:s.hp st'=u at*;generalize aK:hf st'=v at*;generalize vA:hg st'=x at*;have q:=ae (ag aP (ag aQ (ag aE (ag aK vA))));clear aP aQ aE aK vA HX;unfold gD at hl;go_wp2_with fail
    refine ak.out.mono ?_;rintro e w' ⟨rfl,rfl⟩;clear ak k1 k3 k4 k5 c2;go_wp2_with (refine wpList_store_mid rfl 31 _ _ rfl (w.heap.size+1) 0 #[(u:Int),(v:Int),(x:Int)] rfl rfl az.out au.out al.out ?_)
    have hq:=aC.out _ rfl;have H:=q.out.1;have e3:=q.out.2.1.symm;have P:(u,v,x)=(s.hp st',hf st',hg st'):=by rw [q.out.2.2.1,q.out.2.2.2.1,q.out.2.2.2.2]
    clear hl az aC al k0 k2 q;generalize wr.setCells (w.heap.size+1) 0 [(u:Int),(v:Int),(x:Int)]=D at*;have z:=ae (fun w' (b:GM D w')=>(let B:=hq.Fh b;ag (B.1.Qd.cell 0 rfl) (ag (B.2.2.2.cell 0 rfl) (ag (B.2.2.2.cell 1 rfl) (B.2.2.2.cell 2 rfl)))));have K:=ae (fun w' (b:GM D w')=>(hq.Fh b).2.2.1);have r:=ae (fun w' (b:GM D w')=>O.out i (u,v,x) w' p (hq.Fh b) st' H P);have A:=ae (fun w' (b:GM D w')=>N.out i (u,v,x) w' p (hq.Fh b));have ar:Hid (F+(i+1)<st'+sz'->dp s.E (F+(i+1))=st'/\sz'=s.E st'/\(u,v,x)=(s.hp st',hf st',hg st')):=ae (fun B=>I.out i st' sz' (u,v,x) p H e3 P B);obtain ⟨Z,hZ⟩:∃Z,Z=oq s.E s.hp M s.F (F+i):=⟨_,rfl⟩;rw [<-hZ] at r A;unfold Ar gD at r;clear hZ;clear hq O N I H P e3;go_wp2;refine bR (fun w'=>GM D w') 13 ((GQ _ D).drew) ?_;simp only [ai,an,aj,ao];refine aV [c.y,c.y,c.y] ?_
    iterate 3 (refine aW rfl (fun w9 h9=>by go_simp) ?_;simp only [aa])
    refine aU ?_;refine aA c.m rfl (fun w' b=>by obtain ⟨k1,k2,k3,k4⟩:=z.out w' b;go_simp) ?_;simp only [aa];refine aA (.pointer (some ⟨w.heap.size,1,none⟩)) rfl (fun w' b=>by go_simp) ?_;simp only [aa];refine aA (t:Int) rfl (fun w' b=>by obtain ⟨k1,k2,k3,k4⟩:=z.out w' b;go_simp) ?_;simp only [aa];refine aA (i:Int) rfl (fun w' b=>by go_simp) ?_;simp only [aa];refine aA (.int .i64 ((t:Int)+(i:Int))) rfl (fun w' b=>by go_simp;rw [IntKind.wrap_i64];omega) ?_;simp only [aa];refine aV [c.y,(((F:Int)+(i:Int)):Int),((st':Int):Int)] ?_
    iterate 3 (refine aW rfl (fun w9 h9=>by go_simp) ?_;simp only [aa])
    refine aU ?_;refine aA (.agg #[(u:Int),(v:Int),(x:Int)]) rfl (fun w' b=>jf rfl (w.heap.size+1) rfl 31 _ (0,0) _ (K.out w' b) underlying31 rfl au.out) ?_;simp only [aa];refine bT (.int .u64 Z) 244 #[c.y,(((F:Int)+(i:Int)):Int),((st':Int):Int),.agg #[(u:Int),(v:Int),(x:Int)]] rfl (fun w'=>by go_simp) (fun w' b=>(r.out w' b).mono fun e w2 h=>⟨h.1,b.trans h.2 GN⟩) ?_;simp only [aa];refine wpQuiet_nil ?_;intro w5 R;have L:=ae (A.out w5 R);clear z K r A R;go_wp2_with fail
    refine L.out.mono ?_;rintro e w6 ⟨rfl,h6⟩;have H6:=ae h6;clear h6 L;go_wp2;go_roundw
    case rel=>exact ⟨i+1,st',sz',(u,v,x),rfl,rfl,by go_num,by omega,ar.out,aN,H6⟩
    case measure=>simp [intOf];omega
  ·have aY:i=k:=by omega
   subst aY;obtain ⟨z1,z2⟩:=S.out g wr d.out;have HZ:=ae (ag z1 z2);clear d z1 z2 S O N T X J I V U p af;go_wp2;go_end0;exact ⟨rfl,HZ.out⟩
end
def Fu(s:dV)(i:Nat):Nat:=((List.range s.W).find? (fun a=>aI s.E a&&decide (ef s.E a=i))).getD 0
theorem yx{s:dV}{a:Nat}(e:aI s.E a=true)(d:a<s.W):Fu s (ef s.E a)=a:=by
 unfold Fu
 cases hf:(List.range s.W).find? (fun b=>aI s.E b&&decide (ef s.E b=ef s.E a)) with
 |none=>
  have:=nc.1 hf a (bv.2 d);rw [e] at this;simp at this
 |some b=>
  have c:=List.find?_some hf;rw [au,aC] at c;exact th c.1 e c.2
def rz(s:dV)(M:Nat->Nat)(t u:Nat):Nat->Nat:=fun x=>if t<=x/\x<u then oq s.E s.hp M s.F (Fu s (x-s.Qe)) else M x
theorem CG(s:dV)(M:Nat->Nat)(t:Nat):rz s M t t=M:=by
 funext x;unfold rz;rw [aE (by omega)]
def vf(X:Nat->Bool)(i0 i1:Nat):Nat->Bool:=fun j=>X j||decide (i0<=j/\j<i1)
theorem CM(X:Nat->Bool)(i:Nat):vf X i i=X:=by
 funext j;unfold vf;rw [ar (by omega),ca]
section
variable{s:dV}{L M M1 M3:Nat->Nat}{mp mp1 mp3:Nat->Bool}{mvd:Nat->Bool}{fr ah left top k:Nat}{fw:Nat->Option Nat}
def gI(mvd:Nat->Bool)(k:Nat):Nat->Bool:=fun j=>mvd j||decide (j=k)
theorem fS.Fa(b:fS s){a:Nat}(c:aI s.E a=true):s.Qe<=s.F a/\s.F a<s.Qe+s.N/\s.F a<s.W:=by
 have d:=jQ c (b.from_ a c).1;have e:=b.N2;have f:=b.to2;have g:s.F a=s.Qe+ef s.E a:=rfl;have h:s.N=Qb (aI s.E) 0 s.W:=rfl;omega
theorem fS.ne(b:fS s){a x:Nat}(c:aI s.E a=true)(d:s.Qe<=x)(e:x<s.Qe+s.N):a≠x:=by
 have f:=(b.from_ a c).2;have g:=b.N2;omega
theorem ye(b:1<=s.P){X:Nat->Bool}{a:Nat}(c:aI s.E a=true)(d:X (ef s.E a)=false):ky s.P (aI s.E) X (a/s.P)=true:=
 (cB b).2 ⟨a,rfl,by rw [au,eb];exact ⟨c,d⟩⟩
theorem mz.Xc(b:fS s)(h:mz s L M mp mvd fr ah left top){a:Nat}(c:aI s.E a=true)(d:mvd (ef s.E a/s.B)=false):mp (a/s.P)=true:=by
 rw [h.Qx _ (jh (b.from_ a c).1 b.P1 b.W1),ye b.P1 c d];rfl
theorem fS.pgF(a:fS s){i:Nat}(b:i<s.R*s.P):(s.Qe+i)/s.P=s.Qe/s.P+i/s.P/\i/s.P<s.R:=
 ⟨wY a.P1 i a.toq,by rw [bp (by have:=a.P1;omega)];exact b⟩
theorem qg(b:fS s){a:Nat}(d:aI s.E a=true)(h:mvd (ef s.E a/s.B)=true):ic s mvd top (s.F a/s.P)=true:=by
 have e:=jQ d (b.from_ a d).1;have c:=b.pgF (i:=ef s.E a) (by have:=b.N2;have j:s.N=Qb (aI s.E) 0 s.W:=rfl;omega);have f:s.F a=s.Qe+ef s.E a:=rfl;unfold ic;rw [f,c.1,aB (dK (s.Qe/s.P) (ef s.E a/s.P)),aB (fy c.2 (s.Qe/s.P)),cM];have g:mA s.P s.N (dH s.B mvd) (ef s.E a/s.P)=true:=(cB b.P1).2 ⟨ef s.E a,rfl,by rw [au,aC];exact ⟨e,h⟩⟩;rw [g];rfl
theorem mz.Yl(b:fS s)(h:mz s L M mp mvd fr ah left top){a:Nat}(c:aI s.E a=true)(d:mvd (ef s.E a/s.B)=true):mp (s.F a/s.P)=true:=by
 rw [h.Qx _ (jh (b.Fa c).2.2 b.P1 b.W1),qg b c d,ew]
theorem mz.Xf(a:fS s)(h:mz s L M mp mvd fr ah left top)(d:top<=s.Qe+s.R*s.P){x:Nat}(f:s.Qe+s.N<=x)(g:x<top):ic s mvd top (x/s.P)=true/\mp (x/s.P)=true:=by
 have b:=a.pgF (i:=x-s.Qe) (by omega);rw [show s.Qe+(x-s.Qe)=x by omega] at b;have e:kQ s top ((x-s.Qe)/s.P)=true:=(cB a.P1).2 ⟨x-s.Qe,rfl,by rw [au,aC,aC];omega⟩;have c:ic s mvd top (x/s.P)=true:=by
  unfold ic;rw [b.1,aB (dK (s.Qe/s.P) ((x-s.Qe)/s.P)),aB (fy b.2 (s.Qe/s.P)),cM,e];simp
 exact ⟨c,by rw [h.Qx _ (jh (by have:=a.to2;omega) a.P1 a.W1),c,ew]⟩
theorem lG(a:1<=s.B)(b:k<s.nb):k*s.B<s.N:=vU a b
theorem sF(g:fS s)(l:k<s.nb)(r:Nat):j8 s.B s.P s.N k r=true↔k*s.B/s.P<=r/\r<=(min (k*s.B+s.B) s.N-1)/s.P:=by
 have e:=g.B1;have f:=g.P1;have m:=lG e l;unfold j8;rw [cB f];constructor
 ·rintro ⟨i,b,a⟩;rw [au,aC,aC] at a;have d:k*s.B<=i:=by rw [<-a.2];exact bE i s.B
  have h:i<k*s.B+s.B:=by
   have c:=aM i s.B;have j:=bO i (show 0<s.B by omega);rw [a.2,aN] at c;omega
  rw [<-b];exact ⟨bi d,bi (by omega)⟩
 ·rintro ⟨b,a⟩;have n:=bE (min (k*s.B+s.B) s.N-1) s.P;have d:r*s.P<=min (k*s.B+s.B) s.N-1:=aZ (aX _ a) n;have h:k*s.B<r*s.P+s.P:=by
   have c:=aM (k*s.B) s.P;have j:=bO (k*s.B) (show 0<s.P by omega);have o:=aX s.P b;rw [aN] at c;omega
  refine ⟨max (k*s.B) (r*s.P),?_,?_⟩
  ·exact lD (i:=max (k*s.B) (r*s.P)-r*s.P) f (by omega) (by omega)
  ·rw [au,aC,aC];refine ⟨by omega,?_⟩;exact lD (i:=max (k*s.B) (r*s.P)-k*s.B) e (by omega) (by omega)
theorem mz.need(a:fS s)(h:mz s L M mp mvd fr ah left top)(d:k<s.nb)(n:k=fr\/ah<s.Ah){t u:Nat}(o:t=s.Qe+k*s.B)(z:u=min (s.Qe+k*s.B+s.B) (s.Qe+s.N)):
  Qb mp 0 (s.W/s.P)+Qb (fJ mp) (t/s.P) ((u-1)/s.P+1)<=s.R+(s.Ah+2)*(vW s.B s.P+3):=by
 have c:=a.B1;have l:=a.P1;have m:=lG c d;have r:=h.bound a;have v:=dR (fJ mp) (t/s.P) ((u-1)/s.P+1);have w:=a.N2;have e:=(a.pgF (i:=k*s.B) (by omega)).1;have f:=(a.pgF (i:=min (k*s.B+s.B) s.N-1) (by omega)).1;have p:t/s.P=s.Qe/s.P+k*s.B/s.P:=by rw [o];exact e
 have q:(u-1)/s.P=s.Qe/s.P+(min (k*s.B+s.B) s.N-1)/s.P:=by rw [<-f];congr 1;omega
 have g:j8 s.B s.P s.N k ((min (k*s.B+s.B) s.N-1)/s.P)=true:=(sF a d _).2 ⟨bi (by omega),ak _⟩;have x:=(rh l c a.div g).2;have j:ah<=s.Ah:=h.Ah.2;have y:vW s.B s.P*ah<=vW s.B s.P*s.Ah:=gG _ j;have b:(s.Ah+2)*(vW s.B s.P+3)=vW s.B s.P*s.Ah+2*vW s.B s.P+3*s.Ah+6:=by
  rw [fM,fL,aN s.Ah];omega
 rw [b];omega
theorem tQ(c:fS s)(m:k<s.nb){t u:Nat}(y:t=s.Qe+k*s.B)(D:u=min (s.Qe+k*s.B+s.B) (s.Qe+s.N))(q:Nat):
  ic s (gI mvd k) top q=(ic s mvd top q||(decide (t/s.P<=q)&&decide (q<=(u-1)/s.P))):=by
 have w:=c.B1;have e:=c.P1;have x:=lG w m;have C:=c.N2;have o:=(c.pgF (i:=k*s.B) (by omega)).1;have p:=c.pgF (i:=min (k*s.B+s.B) s.N-1) (by omega);have j:t/s.P=s.Qe/s.P+k*s.B/s.P:=by rw [y];exact o
 have l:(u-1)/s.P=s.Qe/s.P+(min (k*s.B+s.B) s.N-1)/s.P:=by rw [<-p.1];congr 1;omega
 have g:=sF c m (q-s.Qe/s.P);have h:mA s.P s.N (dH s.B (gI mvd k)) (q-s.Qe/s.P)=(mA s.P s.N (dH s.B mvd) (q-s.Qe/s.P)||j8 s.B s.P s.N k (q-s.Qe/s.P)):=by
  unfold mA j8;rw [bS,b8,cB e,cB e,cB e];constructor
  ·rintro ⟨i,d,a⟩;rw [au] at a;have b:(mvd (i/s.B)||decide (i/s.B=k))=true:=a.2;rw [b8] at b;rcases b with b|b
   ·exact .inl ⟨i,d,by rw [au];exact ⟨a.1,b⟩⟩
   ·exact .inr ⟨i,d,by rw [au];exact ⟨a.1,b⟩⟩
  ·rintro (⟨i,d,a⟩|⟨i,d,a⟩)
   ·rw [au] at a;refine ⟨i,d,?_⟩;rw [au];exact ⟨a.1,by show (mvd (i/s.B)||decide (i/s.B=k))=true;have b:mvd (i/s.B)=true:=a.2;rw [b];rfl⟩
   ·rw [au] at a;refine ⟨i,d,?_⟩;rw [au];exact ⟨a.1,by show (mvd (i/s.B)||decide (i/s.B=k))=true;rw [a.2,ew]⟩
 unfold ic;rw [h];by_cases n:s.Qe/s.P<=q/\q<s.Qe/s.P+s.R
 ·rw [aB n.1,aB n.2];have f:j8 s.B s.P s.N k (q-s.Qe/s.P)=(decide (t/s.P<=q)&&decide (q<=(u-1)/s.P)):=by
   rw [bS,g,au,aC,aC,j,l];constructor
   ·rintro ⟨z,A⟩;omega
   ·rintro ⟨z,A⟩;omega
  rw [f]
  cases mA s.P s.N (dH s.B mvd) (q-s.Qe/s.P)<;>cases kQ s top (q-s.Qe/s.P)<;>simp
 ·have E:=aF (k*s.B/s.P);have r:(decide (s.Qe/s.P<=q)&&decide (q<s.Qe/s.P+s.R))=false:=by
   rw [bl,az,az];omega
  have v:(decide (t/s.P<=q)&&decide (q<=(u-1)/s.P))=false:=by
   rw [bl,az,az,j,l];omega
  rw [r,v];simp
theorem mz.drn(d:fS s)(h:mz s L M mp mvd fr ah left top)(f:k<s.nb){t u:Nat}(i:t=s.Qe+k*s.B)(j:u=min (s.Qe+k*s.B+s.B) (s.Qe+s.N))(c:∀q,mp1 q=(mp q||(decide (t/s.P<=q)&&decide (q<=(u-1)/s.P))))
  (b:∀q,(fw q).getD 0=pM s (dH s.B mvd) q):FB s (dH s.B mvd) (ic s (gI mvd k) top) mp1 fw:=
 ⟨b,fun q g=>by rw [c,h.Qx q g,tQ d f i j,jT],fun a e=>yS d e⟩
theorem sE(c:1<=s.B){i:Nat}(g:i<s.N):dH s.B (gI mvd k) i=vf (dH s.B mvd) (k*s.B) (min (k*s.B+s.B) s.N) i:=by
 unfold dH gI vf;congr 1
 rw [ce];constructor
 ·intro e;have a:=bE i s.B;have b:=aM i s.B;have f:=bO i (show 0<s.B by omega);rw [e] at a;rw [e,aN] at b;omega
 ·rintro ⟨a,d⟩;exact lD (i:=i-k*s.B) c (by omega) (by omega)
theorem DN(a:fS s)(q:Nat):ky s.P (aI s.E) (vf (dH s.B mvd) (k*s.B) (min (k*s.B+s.B) s.N)) q=ky s.P (aI s.E) (dH s.B (gI mvd k)) q:=by
 unfold ky kW;congr 1
 funext i;show (aI s.E (q*s.P+i)&& !vf (dH s.B mvd) (k*s.B) (min (k*s.B+s.B) s.N) (ef s.E (q*s.P+i)))=(aI s.E (q*s.P+i)&& !dH s.B (gI mvd k) (ef s.E (q*s.P+i)))
 cases hl:aI s.E (q*s.P+i) with
 |false=>rfl
 |true=>
  have:=jQ hl (a.from_ _ hl).1;rw [sE a.B1 this]
theorem Dt(a:fS s)(q:Nat):pM s (vf (dH s.B mvd) (k*s.B) (min (k*s.B+s.B) s.N)) q=pM s (dH s.B (gI mvd k)) q:=by
 unfold pM;refine cI (fun i _ _=> ?_);show (aI s.E i&& !vf (dH s.B mvd) (k*s.B) (min (k*s.B+s.B) s.N) (ef s.E i))=(aI s.E i&& !dH s.B (gI mvd k) (ef s.E i))
 cases hl:aI s.E i with
 |false=>rfl
 |true=>
  have:=jQ hl (a.from_ _ hl).1;rw [sE a.B1 this]
theorem mz.move(m:fS s)(h:mz s L M mp mvd fr ah left top)(V:k<s.nb)(I:mvd k=false){t u:Nat}(ht:t=s.Qe+k*s.B)(hu:u=min (s.Qe+k*s.B+s.B) (s.Qe+s.N))(w:top<=s.Qe+s.R*s.P)
  (af:∀q,mp1 q=(mp q||(decide (t/s.P<=q)&&decide (q<=(u-1)/s.P)))) (D:∀b,b<s.W->mp (b/s.P)=true->M1 b=M b)
  (hd:FB s (vf (dH s.B mvd) (k*s.B) (min (k*s.B+s.B) s.N)) (ic s (gI mvd k) top) mp3 fw) (G:∀b,b<s.W->mp3 (b/s.P)=true->M3 b=rz s M1 t u b)
  {o y r:Nat} (hf:(∀j,j<o->gI mvd k j=true)/\o<=s.nb/\(o<s.nb->gI mvd k o=false)) (d:y=Qb (gI mvd k) o s.nb/\y<=s.Ah) (hl:r+1=left):
  mz s L M3 mp3 (gI mvd k) o y r top/\∀q,(fw q).getD 0=pM s (dH s.B (gI mvd k)) q:=by
 have Z:=m.B1;have S:=m.P1;have ad:=lG Z V;have v:∀q,q<s.W/s.P->mp3 q=(ky s.P (aI s.E) (dH s.B (gI mvd k)) q||ic s (gI mvd k) top q):=fun q hq=>by rw [hd.Qx q hq,DN m]
 have H:∀a,aI s.E a=true->(ef s.E a/s.B=k↔t<=s.F a/\s.F a<u):=fun a d=>by
  have l:=jQ d (m.from_ a d).1;have T:s.F a=s.Qe+ef s.E a:=rfl;have Q:s.N=Qb (aI s.E) 0 s.W:=rfl;rw [T,ht,hu];constructor
  ·intro e;have l:=bE (ef s.E a) s.B;have Q:=aM (ef s.E a) s.B;have h6:=bO (ef s.E a) (show 0<s.B by omega);rw [e] at l;rw [e,aN] at Q;omega
  ·rintro ⟨l,p⟩;exact lD (i:=ef s.E a-k*s.B) Z (by omega) (by omega)
 have A:∀x,x<s.W->mp (x/s.P)=true->¬(t<=x/\x<u)->mp3 (x/s.P)=true->M3 x=M x:=fun x hx l p T=>by
  rw [G x hx T];unfold rz;rw [aE p,D x hx l]
 have C:∀a,a<s.W->aI s.E a=true->gI mvd k (ef s.E a/s.B)=false->M3 a=M a/\mvd (ef s.E a/s.B)=false:=fun a c d n=>by
  have l:mvd (ef s.E a/s.B)=false:=by unfold gI at n;rw [fo] at n;exact n.1
  refine ⟨A a c (h.Xc m d l) (fun hh=> ?_) ?_,l⟩
  ·exact m.ne d (by omega) (by omega) rfl
  ·rw [v _ (jh c S m.W1),ye S d n];rfl
 refine ⟨⟨fun a c d n=> ?_,fun a c d n=> ?_,fun a c d n=> ?_,fun a c d n=> ?_,fun x l p=> ?_,v,hf,fun j U=> ?_,d,?_,?_⟩,fun q=>by rw [hd.cnts,Dt m]⟩
 ·have z:=m.Fa d;have J:mp3 (s.F a/s.P)=true:=by rw [v _ (jh z.2.2 S m.W1),qg m d n,ew]
  by_cases e:ef s.E a/s.B=k
  ·rw [G _ z.2.2 J];unfold rz;rw [aG ((H a d).1 e),show s.F a-s.Qe=ef s.E a from by show s.Qe+ef s.E a-s.Qe=_;omega,yx d c];have K:mvd (ef s.E a/s.B)=false:=by rw [e];exact I
   rw [jm d (D a c (h.Xc m d K))];exact h.still a c d K
  ·have l:mvd (ef s.E a/s.B)=true:=by unfold gI at n;rw [ar e,ca] at n;exact n
   rw [A _ z.2.2 (h.Yl m d l) (fun hh=>e ((H a d).2 hh)) J];exact h.Yg a c d l
 ·obtain ⟨l,p⟩:=C a c d n;rw [jm d l];exact h.still a c d p
 ·obtain ⟨l,p⟩:=C a c d n;rw [l];exact h.Qr a c d p
 ·obtain ⟨l,p⟩:=C a c d n;rw [l];exact h.small a c d p
 ·have O:x<s.W:=by have:=m.to2;omega
  rw [A x O (h.Xf m w l p).2 (by omega) ?_]
  ·exact h.behind x l p
  ·rw [v _ (jh O S m.W1),tQ m V ht hu,(h.Xf m w l p).1];simp
 ·unfold gI;rw [h.far j U,ar (by omega)];rfl
 ·have l:=h.left;have p:Qb (gI mvd k) 0 s.nb=Qb mvd 0 s.nb+1:=by
   have Y:∀f:Nat->Bool,Qb f 0 s.nb=Qb f 0 k+(if f k then 1 else 0)+Qb f (k+1) s.nb:=fun f=>by
    rw [bJ f (aF (k+1)) (show k+1<=s.nb from V),cr f (aF k)]
   rw [Y,Y mvd,cI (f:=gI mvd k) (g:=mvd) (a:=0) (b:=k) (fun i _ hi=>by unfold gI;rw [ar (by omega),ca]),cI (f:=gI mvd k) (g:=mvd) (a:=k+1) (b:=s.nb) (fun i hi _=>by unfold gI;rw [ar (by omega),ca])];have Q:gI mvd k k=true:=by unfold gI;simp
   rw [Q,I];simp;omega
  omega
 ·obtain ⟨X,x1,x2⟩:=h.Rm;exact ⟨X,fun j U=>by unfold gI;rw [x1 j U];rfl,x2⟩
end
theorem qr:∀{l:List (Nat×Nat×Nat)} {j:Nat} {x:Nat×Nat×Nat},l[j]? =some x->(ig l)[3*j]? =some (.int .i64 (x.1:Int))/\(ig l)[3*j+1]? =some (.int .i64 (x.2.1:Int))/\(ig l)[3*j+2]? =some (.int .i64 (x.2.2:Int))
 |[],j,x,h=>by simp at h
 |y::l,0,x,h=>by
  simp only [eE,aL] at h;subst h;exact ⟨rfl,rfl,rfl⟩
 |y::l,j+1,x,h=>by
  rw [fF] at h;have:=qr h;rw [show 3*(j+1)=3*j+1+1+1 by omega];exact this
def vn(w:World)(g:Nat)(l:List (Nat×Nat×Nat)):Prop:=∀j x,l[j]? =some x->w.rangeAt g (3*j) [((x.1:Int):Int),((x.2.1:Int):Int),((x.2.2:Int):Int)]
theorem vn.frame{T:Nat->Prop}{w w':World}{g:Nat}{l:List (Nat×Nat×Nat)}(h:vn w g l)(hf:Fr T w w')(d:¬T g):vn w' g l:=fun j x c i v b=>
 (World.cell?_of_block (w:=w) (w':=w') (a:=⟨g,3*j+i,none⟩) (hf.block g (cl (h j x c i v b)) d)).trans (h j x c i v b)
theorem Bn{w:World}{b g cap:Nat}{l:List (Nat×Nat×Nat)}(h:w.ownsRow b 286 3 (.slice (some g) l.length cap) l.length (ig l)):vn w g l:=by
 intro j x n i v a;have d:=h.cells (g:=g) rfl;have c:∀k,(⟨g,0,none⟩:Addr).add k=⟨g,k,none⟩:=fun k=>by unfold Addr.add;split<;>simp_all
 obtain ⟨e,f,m⟩:=qr n
 match i,a with
 |0,a=>simp at a;subst a;have:=d _ _ e;rwa [c] at this
 |1,a=>simp at a;subst a;have:=d _ _ f;rwa [c] at this
 |2,a=>simp at a;subst a;have:=d _ _ m;rwa [c] at this
theorem nA{E:Nat->Nat}{Ba W:Nat}:∀{t:Nat} {l:List (Nat×Nat×Nat)} {u:Nat},pi E Ba W t l u->t+l.length<=u
 |t,[],u,h=>by have:t=u:=h;simp;omega
 |t,x::l,u,h=>by
  obtain ⟨b,c,d,a⟩:=h;have:=nA a;rw [bn];omega
theorem zn{E:Nat->Nat}{Ba W p u j:Nat}{l:List (Nat×Nat×Nat)}(h:pi E Ba W p (l.drop j) u)(a:j<l.length):∃F n,l[j]? =some (F,p,n)/\1<=n/\rH E Ba W p F n/\pi E Ba W (p+n) (l.drop (j+1)) u:=by
 rw [ei a] at h;obtain ⟨b,c,d,e⟩:=h;refine ⟨l[j].1,l[j].2.2,?_,c,d,e⟩;rw [aK a,<-b]
section
variable{c:Cy}{s:dV}{hf hg:Nat->Nat}{Fs Us Hg:Nat}{Sm:Nat->Prop}{mp mp1:Nat->Bool}{L M M1:Nat->Nat}{Mv:List Bool}{fw:Nat->Option Nat}{n left fr ah k top:Nat}{w w' w0:World}{mvd:Nat->Bool}
theorem fS.inBlk(g:fS s)(q:k<s.nb){t u:Nat}(l:t=s.Qe+k*s.B)(m:u=min (s.Qe+k*s.B+s.B) (s.Qe+s.N)){a:Nat}(f:aI s.E a=true):ef s.E a/s.B=k↔t<=s.F a/\s.F a<u:=by
 have j:=g.B1;have b:=jQ f (g.from_ a f).1;have h:s.F a=s.Qe+ef s.E a:=rfl;have d:s.N=Qb (aI s.E) 0 s.W:=rfl;rw [h,l,m];constructor
 ·intro e;have b:=bE (ef s.E a) s.B;have d:=aM (ef s.E a) s.B;have p:=bO (ef s.E a) (show 0<s.B by omega);rw [e] at b;rw [e,aN] at d;omega
 ·rintro ⟨b,o⟩;exact lD (i:=ef s.E a-k*s.B) j (by omega) (by omega)
structure FY(s:dV)(mvd:Nat->Bool)(k t u F p n:Nat):Prop where
 t:t<=p
 u:p+n<=u
 live:∀i,i<n->aI s.E (F+i)=true/\F+i<s.W/\s.F (F+i)=p+i/\ef s.E (F+i)=ef s.E F+i/\ef s.E (F+i)/s.B=k
 at_:1<=n->ef s.E F+s.Qe=p
theorem Br(m:fS s)(l:k<s.nb){t u:Nat}(o:t=s.Qe+k*s.B)(q:u=min (s.Qe+k*s.B+s.B) (s.Qe+s.N)){F p n:Nat}(e:t<=p)(d:p+n<=u)(r:1<=n)(g:rH s.E s.Qe s.W p F n):FY s mvd k t u F p n:=by
 have b:ef s.E F+s.Qe=p:=by
  obtain ⟨_,_,a⟩:=g 0 (by omega);rw [bg,bg,uR] at a;omega
 refine ⟨e,d,fun i j=> ?_,fun _=>b⟩;obtain ⟨h,f,a⟩:=g i j;have v:s.Qe+ef s.E (F+i)=p+i:=a;exact ⟨f,h,a,by omega,(m.inBlk l o q f).2 ⟨by show t<=s.Qe+ef s.E (F+i);omega,by show s.Qe+ef s.E (F+i)<u;omega⟩⟩
theorem ER(g:fS s)(h:mz s L M mp mvd fr ah left top)(T:k<s.nb)(o:mvd k=false){t u:Nat}(U:t=s.Qe+k*s.B)(V:u=min (s.Qe+k*s.B+s.B) (s.Qe+s.N)){F p n:Nat}(hp:FY s mvd k t u F p n)(C:1<=n)
  (l:∀q,mp1 q=(mp q||(decide (t/s.P<=q)&&decide (q<=(u-1)/s.P)))) (m:∀b,b<s.W->mp (b/s.P)=true->M1 b=M b) (z:∀a,s.E a≠0->eO (s.hp a) (hf a) (hg a)) (G:c.Qe=s.Qe) (R:s.Qe<=1048576):
  Ge c s hf hg mp1 (rz s M1 t p) F p n:=by
 have H:u<=s.Qe+s.N/\s.Qe<=t:=by omega
 have Q:=g.to2;have O:=g.N2;have I:=hp.u;have D:=hp.t;have f:∀i,i<n->mvd (ef s.E (F+i)/s.B)=false:=fun i d=>by rw [(hp.live i d).2.2.2.2];exact o
 have r:∀i j,i<n->j<n->p+i≠F+j:=fun i j d A e=>g.ne (hp.live j A).1 (x:=p+i) (by omega) (by omega) e.symm
 have v:∀i,i<n->rz s M1 t p (F+i)=M (F+i):=fun i d=>by
  unfold rz;rw [aE (fun S=>g.ne (hp.live i d).1 (x:=F+i) (by omega) (by omega) rfl),m _ (hp.live i d).2.1 (h.Xc g (hp.live i d).1 (f i d))]
 refine ⟨g.apart,?_,by omega,fun i d=>(hp.live i d).1,r,fun i d=> ?_,fun i d=> ?_,fun i d J K y=> ?_,fun i d=> ?_,z,by omega⟩
 ·have:=(hp.live (n-1) (by omega)).2.1;omega
 ·rw [l,h.Xc g (hp.live i d).1 (f i d)];rfl
 ·rw [l,aB (bi (c:=s.P) (show t<=p+i by omega)),aB (bi (c:=s.P) (show p+i<=u-1 by omega))];simp
 ·rw [v i d] at y ⊢;exact h.Qr _ (hp.live i d).2.1 (hp.live i d).1 (f i d) J K y
 ·rw [v i d];exact h.small _ (hp.live i d).2.1 (hp.live i d).1 (f i d)
theorem FP(f:fS s){t u F p n:Nat}(hp:FY s mvd k t u F p n)(h:s.Qe<=t)(j:u<=s.Qe+s.N):rE s (rz s M1 t p) F p n=rz s M1 t (p+n):=by
 funext x;have g:=hp.t;have i:=hp.u;unfold rE;by_cases b:p<=x/\x<p+n
 ·rw [aG b];have a:=hp.live (x-p) (by omega);have e:rz s M1 t p (F+(x-p))=M1 (F+(x-p)):=by
   unfold rz;rw [aE (fun m=>f.ne a.1 (x:=F+(x-p)) (by omega) (by omega) rfl)]
  rw [jm a.1 e];show _=(if t<=x/\x<p+n then oq s.E s.hp M1 s.F (Fu s (x-s.Qe)) else M1 x)
  rw [aG (by omega)];have l:s.Qe+ef s.E (F+(x-p))=p+(x-p):=a.2.2.1;rw [show x-s.Qe=ef s.E (F+(x-p)) by omega,yx a.1 a.2.1]
 ·rw [aE b];show (if t<=x/\x<p then oq s.E s.hp M1 s.F (Fu s (x-s.Qe)) else M1 x)=(if t<=x/\x<p+n then oq s.E s.hp M1 s.F (Fu s (x-s.Qe)) else M1 x)
  by_cases d:t<=x/\x<p
  ·rw [aG d,aG (by omega)]
  ·rw [aE d,aE (by omega)]
theorem FT{F p n t u a:Nat}{X:Nat->Bool}(hp:FY s mvd k t u F p n)(b:1<=n)(g:a<=p-s.Qe)(f:s.Qe<=t):Ct s (vf X a (p-s.Qe)) F n=vf X a (p+n-s.Qe):=by
 funext j;have d:=hp.at_ b;have e:=hp.t;unfold Ct vf;rw [jT,<-Bool.decide_or];congr 1
 rw [ce];omega
end
structure yD(c:Cy)(s:dV)(hf hg:Nat->Nat)(Fs top:Nat):Prop where
 ok:fS s
 hd:∀a,s.E a≠0->eO (s.hp a) (hf a) (hg a)
 Ys:top<=s.Qe+s.R*s.P
 low1:s.Qe+s.N<=top
 fr1:Fs=s.R+(s.Ah+2)*(vW s.B s.P+3)
 Qe:s.Qe<=524288
 nb:c.nb=s.nb
 ah:c.Ah=s.Ah
 N:s.N<=524288
 B:s.B<=1024
 a16:s.Ah<=16
def iC(Mv:List Bool)(k:Nat):Bool:=Mv.getD k false
theorem xS{a:List Bool}{k:Nat}(b:k<a.length):iC (a.set k true)=gI (iC a) k:=by
 funext j;unfold iC gI;by_cases e:j=k
 ·subst e;rw [aB rfl,ew];simp [List.getD,b]
 ·rw [ar e,ca];simp only [List.getD,bF,aE (Ne.symm e)]
def jU(c:Cy)(s:dV)(hf hg:Nat->Nat)(Fs top:Nat)(Mv:List Bool)(left fr ah:Nat)(L:Nat->Nat)(S:Nat->Prop)(w:World):Prop:=
 ∃Us Hg Sm mp M fw n,jE c s hf hg Fs Us Hg Sm mp M Mv fw n left fr ah w/\mz s L M mp (iC Mv) fr ah left top/\(∀q,(fw q).getD 0=pM s (dH s.B (iC Mv)) q)/\n<4611686018427387904/\∀k,S k↔(Sm k\/c.has k)
def Ee(c:Cy)(s:dV)(hf hg:Nat->Nat)(Fs top:Nat)(Mv:List Bool)(left fr k:Nat)(L:Nat->Nat)(S:Nat->Prop)(w:World)(e:Ending)(w':World):Prop:=
 e= .returned (0:Int)/\∃fr' ah' S',jU c s hf hg Fs top (Mv.set k true) (left-1) fr' ah' L S' w'/\fr<=fr'/\(k=fr->fr<fr')/\Fr S w w'/\∀j,S' j->S j\/w.heap.size<=j
def rC(w:World)(y:Nat):Nat:=match w.cell? ⟨y,12,none⟩ with|some (.int _ f)=>f.toNat|_=>0
section
variable{c:Cy}{s:dV}{hf hg:Nat->Nat}{Fs Us Hg top:Nat}{Sm S:Nat->Prop}{mp mp1:Nat->Bool}{L M M1:Nat->Nat}{Mv:List Bool}{fw:Nat->Option Nat}{n left fr ah k:Nat}{w w' w0:World}{mvd:Nat->Bool}
theorem tu{mvd:Nat->Bool}{k f m:Nat}(d:f<=k)(o:k<m)(e:mvd k=false):Qb (gI mvd k) f m=Qb mvd f m+1:=by
 have h:∀g:Nat->Bool,Qb g f m=Qb g f k+(if g k then 1 else 0)+Qb g (k+1) m:=fun g=>by
  rw [bJ g (show f<=k+1 by omega) (show k+1<=m from o),cr g d]
 rw [h,h mvd,cI (f:=gI mvd k) (g:=mvd) (a:=f) (b:=k) (fun i _ l=>by unfold gI;rw [ar (by omega),ca]),cI (f:=gI mvd k) (g:=mvd) (a:=k+1) (b:=m) (fun i l _=>by unfold gI;rw [ar (by omega),ca])];have j:gI mvd k k=true:=by unfold gI;simp
 rw [j,e];simp;omega
theorem zW(h:mz s L M mp mvd fr ah left top)(v:k<s.nb)(g:mvd k=false)(x:k=fr\/ah<s.Ah){f a:Nat}(p:∀j,j<f->gI mvd k j=true)(q:fr<=f)(r:f<=s.nb)(t:f<s.nb->gI mvd k f=false)(u:a=Qb (gI mvd k) f s.nb):a<=s.Ah/\(k=fr->fr<f):=by
 obtain ⟨p1,p2,p3⟩:=h.front;obtain ⟨C,D⟩:=h.Ah;have y:fr<=k:=by
  rcases aY k fr with b|b
  ·rw [p1 k b] at g;cases g
  ·exact b
 by_cases e:k=fr
 ·have m:fr<f:=by
   rcases aY fr f with b|b
   ·exact b
   ·have l:f=fr:=by omega
    have d:=t (by omega);rw [l,<-e] at d;unfold gI at d;simp at d
  refine ⟨?_,fun _=>m⟩;have d:Qb (gI mvd k) f s.nb=Qb mvd f s.nb:=cI (fun i B _=>by unfold gI;rw [ar (by omega),ca]);have A:Qb mvd fr s.nb=Qb mvd fr f+Qb mvd f s.nb:=bJ mvd q r;omega
 ·have z:fr<k:=by omega
  have d:gI mvd k fr=false:=by
   unfold gI;rw [p3 (by omega),ar (by omega)];rfl
  have l:f=fr:=by
   rcases aY fr f with b|b
   ·rw [p fr b] at d;cases d
   ·omega
  subst l;rw [tu (by omega) v g] at u;exact ⟨by omega,fun o=>absurd o e⟩
theorem tX(D:yD c s hf hg Fs top)(h:jU c s hf hg Fs top Mv left fr ah L S w)(I:k<s.nb)(A:iC Mv k=false)(Y:k=fr\/ah<s.Ah):
  Calls prog 133 #[c.y,(k:Int)] w (Ee c s hf hg Fs top Mv left fr k L S w):=by
 obtain ⟨Us,Hg,Sm,mp,M,fw,n,d,hp,af,hn,hS⟩:=h;have K:=D.ok;have ci:=lG K.B1 I;obtain ⟨t,r⟩:∃t,t=s.Qe+k*s.B:=⟨_,rfl⟩;obtain ⟨u,C⟩:∃u,u=min (s.Qe+k*s.B+s.B) (s.Qe+s.N):=⟨_,rfl⟩;have cf:=K.B1;have ca:t<u:=by omega
 have cq:u<=s.Qe+s.N:=by omega
 have hW:=K.to2;have ao:=K.N2;have a1:=qo d.Xe (by have:=d.Qe;have:=D.Qe;omega) k (by rw [d.B];exact I);have a0:=fun w1 (hh:gj c.lo c.hi w1 c.pl s.W c.B s.E c.Qe) (hT:et w1)=>uh hh hT (by have:=d.Qe;have:=D.Qe;omega) k (by rw [d.B];exact I)
 rw [d.B,d.Qe] at a1 a0;rw [<-r,show Qb (aI s.E) 0 s.W=s.N from rfl,r,<-C,<-r] at a1 a0;have aP:Us+Qb (fJ mp) (t/s.P) ((u-1)/s.P+1)<=Fs:=by
  have h1:=hp.need K I Y r C;rw [D.fr1,d.mem.at.2.2.2.2.2.2.2.1];exact h1
 have bF:=ae a1;have bB:=ae (fun w1 (ad:GM w w1)=>nB (d.mem.Qa ad) t u ca (by omega) aP);have bD:=ae a0;have bu:=ae (fun w1 (ad:GM w w1)=>ag ((d.Fh ad).Qd.cell 0 rfl) ((d.Fh ad).Qd.cell 8 rfl));have HW:=ae d;have HP:=ae hp;have c8:=d.Qd.cell 8 rfl;have HX:=ae (ag af (ag hn (ag hS (ag D (ag Y (ag I (ag A (ag r C))))))));have cH:(k:Int)<=524288:=by have:=D.N;have h2:=dc k (show 0<s.B by omega);omega
 have cp:(u:Int)<=1048576:=by have:=D.N;have:=D.Qe;omega
 have HQ:Hid (∀(au aZ:Nat) (S':Nat->Prop) (w':World),jU c s hf hg Fs top (Mv.set k true) (left-1) au aZ L S' w'->fr<=au->(k=fr->fr<au)->Fr S w w'->(∀j,S' j->S j\/w.heap.size<=j)->Ee c s hf hg Fs top Mv left fr k L S w (.returned (0:Int)) w'):=by
  show∀(au aZ:Nat) (S':Nat->Prop) (w':World),_
  exact fun au aZ S' w' h1 h2 h3 h4 h5=>⟨rfl,au,aZ,S',h1,h2,h3,h4,h5⟩
 clear d hp af hn hS D Y I A r C a1 a0 K ci cf cq hW ao aP;generalize (Ee c s hf hg Fs top Mv left fr k L S w)=Q at*
 go_enter func133,ntmps133
 go_wp2_with fail
 refine bF.out.mono ?_;rintro e w1 ⟨rfl,ad⟩;obtain ⟨c0,_⟩:=bu.out w1 ad;have bz:=ae (bB.out w1 ad);have az:=ae ad;clear ad bB bF c8;go_wp2_with fail
 refine bz.out.mono ?_;rintro e w2 ⟨rfl,m,Qj,mp1,M1,n1,n2,n3,n4,n5⟩;have H:=(HW.out.Fh az.out).mem_ n1 n4 n5;have c8:=H.Qd.cell 8 rfl;have bC:=ae (bD.out w2 (by have h9:=H.Xe;rw [HW.out.B,HW.out.Qe] at h9;exact h9) H.Qp);have H2:=ae (ag H (ag n2 (ag n3 (ag n4 n5))));clear H n1 n2 n3 n4 n5 bz bD c0 bu;go_wp2_with fail
 refine bC.out.mono ?_;rintro e w3 ⟨v,l,rfl,aQ,aM,U⟩;obtain ⟨g,cap,rfl,ay⟩:∃g cap,v= .slice (some ⟨g,0,none⟩) l.length cap/\w2.heap.size<=g:=by
  rcases aQ.2 with ⟨h1,h2⟩|⟨g,cap,cur,h1,h2,_⟩
  ·have:l.length=0:=by have:=h2;omega
   have h3:l=[]:=bV this;subst h3;have:t=u:=aM;omega
  ·exact ⟨g,cap,h1,h2⟩
 have bs:=Bn aQ;have aG:=nA aM;obtain ⟨H,n2,n3,n4,n5⟩:=H2.out;have cb:=H.Fh U;have am:¬m g:=fun hs=>by have:=H.mem.lt g hs;omega
 have ax:g<w3.heap.size:=by
  have h0:0<l.length:=by
   by_cases h0:l.length=0
   ·have h3:l=[]:=bV h0;subst h3;have:t=u:=aM;omega
   ·omega
  have:=bs 0 l[0] (aK h0) 0 _ rfl;exact cl this
 obtain ⟨af,hn,hS,D,Y,I,A,r,C⟩:=HX.out;have K:=D.ok;have ao:=K.N2;have bd:=ae (fun (j F p n':Nat) (wr:World) (V:l[j]? =some (F,p,n')) (h1:1<=n') (hs:rH s.E s.Qe s.W p F n') (ai:t<=p) (aq:p+n'<=u) (J:jE c s hf hg Fs (Us+Qb (fJ mp) (t/s.P) ((u-1)/s.P+1)) Qj m mp1 (rz s M1 t p) Mv fw n left fr ah wr/\Fr (fun k=>m k\/w3.heap.size<=k) w3 wr)=>
  (let hb:=Br K I r C ai aq h1 hs
   (A1 J.1 F p n' (ER K HP.out I A r C hb h1 n2 n3 D.hd HW.out.Qe (by have:=D.Qe;omega))).mono (fun e w' ⟨q1,q2,q3⟩=>(⟨q1,by rw [FP K hb (by omega) (by omega)] at q2;exact q2,J.2.trans q3 (fun k I=> .inl (.inl I))⟩:e=Ending.returned (.tuple #[])/\jE c s hf hg Fs (Us+Qb (fJ mp) (t/s.P) ((u-1)/s.P+1)) Qj m mp1 (rz s M1 t (p+n')) Mv fw n left fr ah w'/\Fr (fun k=>m k\/w3.heap.size<=k) w3 w'))))
 have H3:=ae (⟨by rw [CG];exact cb,GQ _ _⟩:jE c s hf hg Fs (Us+Qb (fJ mp) (t/s.P) ((u-1)/s.P+1)) Qj m mp1 (rz s M1 t t) Mv fw n left fr ah w3/\Fr (fun k=>m k\/w3.heap.size<=k) w3 w3);have aX:=ae (fun (wr:World) (hf:Fr (fun k=>m k\/w3.heap.size<=k) w3 wr)=>bs.frame hf (fun h=>by rcases h with h|h;exact am h;omega));have bf:=ae aM;have aB:=ae (fun (j p:Nat) (hh:pi s.E s.Qe s.W p (l.drop j) u) (V:j<l.length)=>zn hh V);have cd:=ae (fun (w4 w5:World) (h4:jE c s hf hg Fs (Us+Qb (fJ mp) (t/s.P) ((u-1)/s.P+1)) Qj m mp1 (rz s M1 t t) Mv fw n left fr ah w4/\Fr (fun k=>m k\/w3.heap.size<=k) w3 w4) (hf:GM w4 w5)=>ag (h4.1.Fh hf) (h4.2.trans hf GN));have HH:=ae (ag U (ag am (ag ax ay)));have cy:Hid ((prog.info? 286).map (·.size)=some 3):=by show _=_;kernel_rfl
 have bo:l.length<=1048576:=by have:=D.N;have:=D.Qe;omega
 clear aQ aM U bs H n2 n3 n4 n5 cb am ax af hn hS D Y I A r C K bC c8 ay ao;go_wp2
 go_loopw [46] (fun x wr=>∃j p:Nat,x= .int .i64 j/\j<=l.length/\t<=p/\pi s.E s.Qe s.W p (l.drop j) u/\Hid (jE c s hf hg Fs (Us+Qb (fJ mp) (t/s.P) ((u-1)/s.P+1)) Qj m mp1 (rz s M1 t p) Mv fw n left fr ah wr/\Fr (fun k=>m k\/w3.heap.size<=k) w3 wr)) (fun x _=>(l.length-intOf x).toNat)
 case atStart=>exact ⟨0,t,rfl,aF _,ak _,by simpa using bf.out,H3⟩
 case round=>
  clear H3 cd;obtain ⟨j,p,rfl,V,ai,O,J⟩:=hrel;by_cases aH:j<l.length
  ·obtain ⟨F,n',hx,br,aR,R⟩:=aB.out j p O aH;have aq:=nA R;have HC:=ae (fun w5 (hf:GM wr w5)=>bd.out j F p n' w5 hx br aR ai (by omega) ⟨J.out.1.Fh hf,J.out.2.trans hf GN⟩);have T:=aX.out wr J.out.2 j _ hx;rw [aN] at T;have e0:=T 0 _ rfl;have e1:=T 1 _ rfl;have e2:=T 2 _ rfl;rw [bg] at e0;dsimp only at e0 e1 e2;have aC:=ae R;have c1:(j:Int)<(l.length:Int):=by omega
   clear J bd aX aB O R aR hx T;go_wp2_with fail
   refine (HC.out _ ((GQ _ wr).alloc _)).mono ?_;rintro e w6 ⟨rfl,hq⟩;have bi:=ae hq;clear hq HC e0 e1 e2;go_wp2;go_roundw
   case rel=>exact ⟨j+1,p+n',by go_num,by omega,by omega,aC.out,bi⟩
   case measure=>simp [intOf];omega
  ·have bn:j=l.length:=by omega
   subst bn;obtain ⟨w4,e4⟩:∃w4,w4=wr:=⟨_,rfl⟩;subst e4;have aq:p=u:=by
    rw [iL] at O;exact O
   subst aq;have c1:¬(l.length:Int)<(l.length:Int):=by omega
   obtain ⟨aT,ap⟩:=J.out;obtain ⟨H,n2,n3,n4,n5⟩:=H2.out;obtain ⟨U,am,ax,ay⟩:=HH.out;obtain ⟨af,hn,hS,D,Y,I,A,r,C⟩:=HX.out;have K:=D.ok;have ao:=K.N2;have a9:=aX.out w4 ap;have bZ:g≠c.wb:=fun e=>by have:=H.wds.lt;omega
   have bQ:pL c s hf hg Fs Mv n left fr ah (rz s M1 t p) (ic s (gI (iC Mv) k) top) m w4 (vf (dH s.B (iC Mv)) (k*s.B) (t-s.Qe)) w4:=by
    rw [show t-s.Qe=k*s.B by omega,CM];exact ⟨_,_,m,mp1,_,fw,aT,HP.out.drn K I r C n2 af,fun _ _ _=>rfl,GQ _ _,fun _ h=> .inl h⟩
   have be:=ae (fun (j F q n':Nat) (wq:World) (V:l[j]? =some (F,q,n')) (h1:1<=n') (hs:rH s.E s.Qe s.W q F n') (ai:t<=q) (aq:q+n'<=p) (J:pL c s hf hg Fs Mv n left fr ah (rz s M1 t p) (ic s (gI (iC Mv) k) top) m w4 (vf (dH s.B (iC Mv)) (k*s.B) (q-s.Qe)) wq)=>
    (let hb:FY s (iC Mv) k t p F q n':=Br K I r C ai aq h1 hs
     let cA:=hb.at_ h1
     (yX K.P1 hn K.W1 J F q n' (by have:=(hb.live (n'-1) (by omega)).2.1;omega) (fun i hi=>⟨(hb.live i hi).1,(hb.live i hi).2.2.2.1⟩) (fun i hi=>by
      have h6:iC Mv ((ef s.E F+i)/s.B)=false:=by rw [<-(hb.live i hi).2.2.2.1,(hb.live i hi).2.2.2.2];exact A
      unfold vf dH;rw [h6,ar (by omega)];rfl)).mono (fun e w' ⟨q1,q2⟩=>(⟨q1,by rw [FT hb h1 (by omega) (by omega)] at q2;exact q2⟩:e=Ending.returned (.tuple #[])/\pL c s hf hg Fs Mv n left fr ah (rz s M1 t p) (ic s (gI (iC Mv) k) top) m w4 (vf (dH s.B (iC Mv)) (k*s.B) (q+n'-s.Qe)) w'))))
   have aD:=ae (fun (wq:World) (X:Nat->Bool) (J:pL c s hf hg Fs Mv n left fr ah (rz s M1 t p) (ic s (gI (iC Mv) k) top) m w4 X wq)=>(show vn wq g l from by
    obtain ⟨_,_,_,_,_,_,_,_,_,q4,_⟩:=J;exact a9.frame q4 (fun h=>by rcases h with h|h;exact am h;exact bZ h)))
   have bw:=ae bQ;have HR:=ae (ag aT ap);clear aT ap H n2 n3 n4 n5 U am ax ay af hn hS D Y I A r C K ao a9 bZ bQ J O bd aX aH ai;go_wp2
   go_loopw [56] (fun x wq=>∃j q:Nat,x= .int .i64 j/\j<=l.length/\t<=q/\pi s.E s.Qe s.W q (l.drop j) p/\Hid (pL c s hf hg Fs Mv n left fr ah (rz s M1 t p) (ic s (gI (iC Mv) k) top) m w4 (vf (dH s.B (iC Mv)) (k*s.B) (q-s.Qe)) wq)) (fun x _=>(l.length-intOf x).toNat)
   case atStart=>exact ⟨0,t,rfl,aF _,ak _,by simpa using bf.out,bw⟩
   case round=>
    clear bw;obtain ⟨j,q,rfl,V,ai,O,J⟩:=hrel;by_cases aH:j<l.length
    ·obtain ⟨F,n',hx,br,aR,R⟩:=aB.out j q O aH;have aq:=nA R;have HC:=ae (fun w5 (hf:GM wr w5)=>be.out j F q n' w5 hx br aR ai (by omega) (J.out.Fh hf));have T:=aD.out wr _ J.out j _ hx;rw [aN] at T;have e0:=T 0 _ rfl;have e1:=T 1 _ rfl;have e2:=T 2 _ rfl;rw [bg] at e0;dsimp only at e0 e1 e2;have aC:=ae R;have c2:(j:Int)<(l.length:Int):=by omega
     clear J be aD aB O R aR hx T;go_wp2_with fail
     refine (HC.out _ ((GQ _ wr).alloc _)).mono ?_;rintro e w6 ⟨rfl,hq⟩;have bi:=ae hq;clear hq HC e0 e1 e2;go_wp2;go_roundw
     case rel=>exact ⟨j+1,q+n',by go_num,by omega,by omega,aC.out,bi⟩
     case measure=>simp [intOf];omega
    ·have bn:j=l.length:=by omega
     subst bn;have cn:q=p:=by
      rw [iL] at O;exact O
     subst cn;clear be aD aB O aH ai;obtain ⟨w5,e5⟩:∃w5,w5=wr:=⟨_,rfl⟩;subst e5;obtain ⟨z,o,Z,an,M3,al,aj,bl,bS,bX,b9⟩:=J.out;obtain ⟨aT,ap⟩:=HR.out;obtain ⟨H,n2,n3,n4,n5⟩:=H2.out;obtain ⟨U,am,ax,ay⟩:=HH.out;obtain ⟨af,hn,hS,D,Y,I,A,r,C⟩:=HX.out;have K:=D.ok;have ao:=K.N2;have hp:=HP.out;have a4:k<Mv.length:=by rw [aj.len,D.nb];exact I
     have aL:=xS a4;have bp:=hp.left;have bo:1<=left:=by
      have h6:=tu (f:=0) (aF k) I A;have h7:=dR (gI (iC Mv) k) 0 s.nb;omega
     have aE:=hp.front;have bU:=hp.Ah;have b0:fr<=k:=by
      rcases aY k fr with hh|hh
      ·rw [aE.1 k hh] at A;cases A
      ·exact hh
     rw [show q-s.Qe=min (k*s.B+s.B) s.N by omega] at bl;have a5:Hid (∀f a wz,jE c s hf hg Fs z o Z an M3 (Mv.set k true) al n (left-1) f a wz->Fr (fun j=>j=c.mv\/j=c.y) w5 wz->(∀j,j<f->gI (iC Mv) k j=true)->fr<=f->f<=s.nb->(f<s.nb->gI (iC Mv) k f=false)->a=Qb (gI (iC Mv) k) f s.nb->Q (.returned (0:Int)) wz):=by
      show∀f a wz,_
      intro f a wz G b2 b3 b4 b5 b6 b7;obtain ⟨e1,e2⟩:=zW hp I A Y b3 b4 b5 b6 b7;obtain ⟨g1,g2⟩:=hp.move K I A r C D.Ys n2 n3 bl (fun b hb hm=>bS b hb hm) ⟨b3,b5,b6⟩ ⟨b7,e1⟩ (show left-1+1=left by omega);rw [<-aL] at g1 g2;refine HQ.out f a (fun j=>Z j\/c.has j) wz ⟨z,o,Z,an,M3,al,n,G,g1,g2,hn,fun j=>dX⟩ b4 e2 ?_ ?_
      ·have z1:=az.out.size;have z2:=n4.size;have z3:=U.size;have a7:∀j,m j->Sm j\/w.heap.size<=j:=fun j V=>(n5 j V).imp id (fun h=>by omega)
       refine ((((((az.out.mono (S':=S) GN).trans n4 (fun j V=> .inl ((hS j).2 (.inl V)))).trans U GN).trans ap (fun j V=> ?_)).trans bX (fun j V=> ?_)).trans b2 (fun j V=> ?_))
       ·rcases V with h|h
        ·exact (a7 j h).imp (fun h=>(hS j).2 (.inl h)) id
        ·exact .inr (by omega)
       ·rcases V with h|h
        ·exact (a7 j h).imp (fun h=>(hS j).2 (.inl h)) id
        ·exact .inl ((hS j).2 (.inr (.inr (.inr (.inl h)))))
       ·rcases V with h|h
        ·exact .inl ((hS j).2 (.inr (.inr (.inl h))))
        ·exact .inl ((hS j).2 (.inr (.inl h)))
      ·intro j V;have z1:=az.out.size;have z2:=n4.size;have z3:=U.size;have z4:=ap.size;rcases V with h|h
       ·rcases b9 j h with h|h
        ·rcases n5 j h with h|h
         ·exact .inl ((hS j).2 (.inl h))
         ·exact .inr (by omega)
        ·exact .inr (by omega)
       ·exact .inl ((hS j).2 (.inr h))
     have av:∀W6,w5.setCell ⟨c.mv,k,none⟩ (.bool true)=W6->jE c s hf hg Fs z o Z an M3 (Mv.set k true) al n left fr ah W6/\Fr (fun j=>j=c.mv\/j=c.y) w5 W6:=by
      rintro W6 rfl;have f6:Fr (fun j=>j=c.mv) w5 (w5.setCell ⟨c.mv,k,none⟩ (.bool true)):=(GQ (fun j=>j=c.mv) w5).setCell ⟨c.mv,k,none⟩ (.inl rfl) _;refine ⟨aj.mv_ ?_ (by rw [bc];exact aj.len) f6,f6.mono (fun _ h=> .inl (.inl h))⟩;have:=aj.mv.set k (.bool true);unfold xl at*;rwa [dM]
     have aw:∀W6 W7 W8,jE c s hf hg Fs z o Z an M3 (Mv.set k true) al n left fr ah W6->Fr (fun j=>j=c.mv\/j=c.y) w5 W6->W6.setCell ⟨c.y,11,none⟩ (.int .i64 ((left-1:Nat):Int))=W7->W7.setCell ⟨c.y,13,none⟩ (.int .i64 ((ah+1:Nat):Int))=W8->jE c s hf hg Fs z o Z an M3 (Mv.set k true) al n (left-1) fr (ah+1) W8/\Fr (fun j=>j=c.mv\/j=c.y) w5 W8:=by
      rintro W6 W7 W8 G b2 rfl rfl;have f7:Fr (fun j=>j=c.y) W6 ((W6.setCell ⟨c.y,11,none⟩ (.int .i64 ((left-1:Nat):Int))).setCell ⟨c.y,13,none⟩ (.int .i64 ((ah+1:Nat):Int))):=((GQ (fun j=>j=c.y) W6).setCell ⟨c.y,11,none⟩ (.inl rfl) _).setCell ⟨c.y,13,none⟩ (.inl rfl) _;exact ⟨G.y_ ((G.Qd.set 11 _).set 13 _) f7,b2.trans f7 (fun _ h=> .inl (.inr h))⟩
     have bH:=ae av;have bL:=ae aw;have bP:∀W6,jE c s hf hg Fs z o Z an M3 (Mv.set k true) al n left fr ah W6->(W6.cell? ⟨c.y,11,none⟩=some (left:Int)/\W6.frozen? ⟨c.y,11,none⟩=false)/\∀W7,W6.setCell ⟨c.y,11,none⟩ (.int .i64 ((left-1:Nat):Int))=W7->W7.cell? ⟨c.y,13,none⟩=some (ah:Int)/\W7.frozen? ⟨c.y,13,none⟩=false:=by
      intro W6 G;refine ⟨⟨G.Qd.cell 11 rfl,G.Qd.free 11⟩,?_⟩;rintro W7 rfl;exact ⟨(G.Qd.set 11 _).cell 13 rfl,(G.Qd.set 11 _).free 13⟩
     have bv:=ae bP;have bj:=aj.Qd.cell 10 rfl;have d0:=aj.mv.cell k (ms a4);have d1:=aj.mv.free k;have a6:=ae (ag aE (ag bU (ag I (ag A (ag b0 (ag a4 (ag aL (ag D aj.len))))))));have cj:k<c.nb:=by rw [D.nb];exact I
     have b8:(k:Int)<(c.nb:Int):=by omega
     have ck:(left:Int)<=1048576:=by have:=D.N;have h8:=D.nb;have:s.nb<=1048576:=by {have h9:s.nb=ou s.N s.B:=rfl;unfold ou at h9;have:=bK (s.N+s.B-1) s.B;have:=D.B;omega};omega
     have cm:IntKind.i64.wrap ((left:Int)-1)=((left-1:Nat):Int):=by rw [IntKind.wrap_i64];omega
     have cg:IntKind.i64.wrap ((ah:Int)+1)=((ah+1:Nat):Int):=by have:=D.a16;rw [IntKind.wrap_i64];omega
     clear aj bl bS bX b9 aT ap H n2 n3 n4 n5 U am ax ay af hn hS D Y I A r C K ao hp a4 aL bp bo aE bU b0 av aw bP J HQ HR H2 HH HX HP bf az HW
     go_upto_region 17 with fail
     obtain ⟨W6,av⟩:∃W6,w5.setCell ⟨c.mv,k,none⟩ (.bool true)=W6:=⟨_,rfl⟩;rw [av];obtain ⟨G,b2⟩:=bH.out W6 av;have c0:=G.Qd.cell 0 rfl;obtain ⟨⟨k1,k2⟩,k3⟩:=bv.out W6 G;have K3:=ae k3;have B6:=ae (ag G b2);clear av G b2 k3 bH bv bj d0 d1 c0
     go_upto_region 18 with fail
     obtain ⟨W7,a2⟩:∃W7,W6.setCell ⟨c.y,11,none⟩ (.int .i64 ((left-1:Nat):Int))=W7:=⟨_,rfl⟩;rw [a2];obtain ⟨k3,k4⟩:=K3.out W7 a2;have bI:=ae a2;clear a2 k1 k2 K3
     go_upto_region 19 with fail
     obtain ⟨W8,aw⟩:∃W8,W7.setCell ⟨c.y,13,none⟩ (.int .i64 ((ah+1:Nat):Int))=W8:=⟨_,rfl⟩;rw [show (ah:Int)+1=((ah+1:Nat):Int) by push_cast;rfl,aw];have H8:=ae (bL.out W6 W7 W8 B6.out.1 B6.out.2 bI.out aw);clear aw bI bL B6 k3 k4
     go_loopw [] (fun wz=>∃f a:Nat,Hid ((jE c s hf hg Fs z o Z an M3 (Mv.set k true) al n (left-1) f a wz/\Fr (fun j=>j=c.mv\/j=c.y) w5 wz)/\(∀j,j<f->gI (iC Mv) k j=true)/\fr<=f/\f<=s.nb/\a=Qb (gI (iC Mv) k) f s.nb)) (fun wz=>c.nb-rC wz c.y)
     case atStart=>
      obtain ⟨x1,x2,x3,x4,x5,x6,x7,x8,x9⟩:=a6.out;refine ⟨fr,ah+1,ae ⟨H8.out,fun j V=>by unfold gI;rw [x1.1 j V];rfl,ak _,x1.2.1,?_⟩⟩;rw [tu x5 x3 x4,x2.1]
     case round=>
      clear H8;obtain ⟨f,a,J⟩:=hrel;obtain ⟨⟨G,b2⟩,b3,b4,b5,b6⟩:=J.out;obtain ⟨x1,x2,x3,x4,x5,x6,x7,x8,x9⟩:=a6.out;have ce:=G.Qd.drew.cell 12 rfl;have bj:=G.Qd.drew.cell 10 rfl;have a8:c.nb=s.nb:=x8.nb;have cx:(c.nb:Int)<=1048576:=by have:=x8.N;have:s.nb<=1048576:=by {have h9:s.nb=ou s.N s.B:=rfl;unfold ou at h9;have:=bK (s.N+s.B-1) s.B;have:=x8.B;omega};omega
      have aG:(Mv.set k true).length=c.nb:=by rw [bc];exact x9
      by_cases a3:f<s.nb
      ·have d0:=G.mv.drew.cell f (ms (by rw [aG,a8];exact a3));have bq:(Mv.set k true).getD f false=gI (iC Mv) k f:=by rw [<-x7];rfl
       rw [bq] at d0;have cE:(f:Int)<(c.nb:Int):=by omega
       cases hmk:gI (iC Mv) k f with
       |true=>
        rw [hmk] at d0;have cz:1<=a:=by
         have h6:=oY (ak f) a3 hmk;omega
        have bW:a-1=Qb (gI (iC Mv) k) (f+1) s.nb:=by
         have h6:=bJ (gI (iC Mv) k) (show f<=f+1 by omega) (show f+1<=s.nb by omega);rw [cr _ (ak f),dP,hmk] at h6;simp only [iN] at h6;omega
        have ct:(a:Int)<=1048576:=by
         have h6:=dR (gI (iC Mv) k) f s.nb;omega
        have cs:IntKind.i64.wrap ((a:Int)-1)=((a-1:Nat):Int):=by rw [IntKind.wrap_i64];omega
        have cG:IntKind.i64.wrap ((f:Int)+1)=((f+1:Nat):Int):=by rw [IntKind.wrap_i64];omega
        have bM:=G.Qd.drew.free 12;have bE:Hid (∀Wa,wr.drew.setCell ⟨c.y,12,none⟩ (.int .i64 ((f+1:Nat):Int))=Wa->(Wa.cell? ⟨c.y,13,none⟩=some (a:Int)/\Wa.frozen? ⟨c.y,13,none⟩=false)/\∀Wb,Wa.setCell ⟨c.y,13,none⟩ (.int .i64 ((a-1:Nat):Int))=Wb->rC Wb c.y=f+1/\((jE c s hf hg Fs z o Z an M3 (Mv.set k true) al n (left-1) (f+1) (a-1) Wb/\Fr (fun j=>j=c.mv\/j=c.y) w5 Wb)/\(∀j,j<f+1->gI (iC Mv) k j=true)/\fr<=f+1/\f+1<=s.nb/\a-1=Qb (gI (iC Mv) k) (f+1) s.nb)):=by
         show∀Wa,_
         rintro Wa rfl;refine ⟨⟨(G.Qd.drew.set 12 _).cell 13 rfl,(G.Qd.drew.set 12 _).free 13⟩,?_⟩;rintro Wb rfl;have f7:Fr (fun j=>j=c.y) wr.drew ((wr.drew.setCell ⟨c.y,12,none⟩ (.int .i64 ((f+1:Nat):Int))).setCell ⟨c.y,13,none⟩ (.int .i64 ((a-1:Nat):Int))):=((GQ (fun j=>j=c.y) wr.drew).setCell ⟨c.y,12,none⟩ (.inl rfl) _).setCell ⟨c.y,13,none⟩ (.inl rfl) _;have g1:=(G.Fh ((GQ _ wr).drew)).y_ ((G.Qd.drew.set 12 _).set 13 _) f7;refine ⟨?_,⟨⟨g1,(b2.drew).trans f7 (fun _ h=> .inl (.inr h))⟩,fun j V=> ?_,by omega,by omega,bW⟩⟩
         ·unfold rC;rw [g1.Qd.cell 12 rfl];rfl
         ·by_cases e:j=f
          ·rw [e];exact hmk
          ·exact b3 j (by omega)
        have ch:rC wr c.y=f:=by
         unfold rC;rw [G.Qd.cell 12 rfl];rfl
        clear x1 x2 x3 x4 x5 x6 x7 x8 x9 J G b2 b3 b4 b5 b6 bW hmk bq;go_wp2;refine bt (fun w'=>w'=wr.drew) rfl ?_;refine aV [c.y,c.y,.pointer (some ⟨c.y,12,none⟩)] ?_
        iterate 3 (refine aW rfl (fun w9 h9=>by go_simp) ?_;simp only [aa])
        refine aU ?_;refine aA (f:Int) rfl (fun w' d=>by subst d;go_simp) ?_;simp only [aa];refine aV [c.y,c.y,.pointer (some ⟨c.y,10,none⟩)] ?_
        iterate 3 (refine aW rfl (fun w9 h9=>by go_simp) ?_;simp only [aa])
        refine aU ?_;refine aA (.slice (some c.mv) c.nb c.nb) rfl (fun w' d=>by subst d;go_simp) ?_;simp only [aa];refine aV [((c.nb:Int):Int),.bool true,.bool true,c.y,c.y,.pointer (some ⟨c.y,10,none⟩)] ?_
        iterate 6 (refine aW rfl (fun w9 h9=>by go_simp) ?_;simp only [aa])
        refine aU ?_;refine cC (.slice (some c.mv) c.nb c.nb) rfl (fun w' d=>by subst d;go_simp) ?_;simp only [aa];refine aV [c.y,c.y,.pointer (some ⟨c.y,12,none⟩)] ?_
        iterate 3 (refine aW rfl (fun w9 h9=>by go_simp) ?_;simp only [aa])
        refine aU ?_;refine cC (f:Int) rfl (fun w' d=>by subst d;go_simp) ?_;simp only [aa];refine cC (.pointer (some ⟨c.mv,f,none⟩)) rfl (fun w' d=>by go_simp) ?_;simp only [aa];refine cC (.bool true) rfl (fun w' d=>by subst d;go_simp) ?_;simp only [aa];refine aA (.bool true) rfl (fun w' d=>by go_simp) ?_;simp only [aa];refine wpQuiet_nil ?_;rintro w2 rfl
        go_upto_region 21 with fail
        obtain ⟨Wa,bk⟩:∃Wa,(wr.setCell ⟨c.y,12,none⟩ (.int .i64 ((f:Int)+1))).drew=Wa:=⟨_,rfl⟩;rw [bk];obtain ⟨⟨k3,k4⟩,hz⟩:=bE.out Wa (by rw [<-bk];rfl);have HZ:=ae hz;clear hz bE bk ce bj d0 bM;go_wp2;go_roundw
        case rel=>exact ⟨f+1,a-1,ae (HZ.out _ rfl).2⟩
        case measure=>
         rw [(HZ.out _ rfl).1,ch];omega
       |false=>
        rw [hmk] at d0;have HE:=ae (a5.out f a wr.drew (G.Fh ((GQ _ wr).drew)) (b2.trans (S':=fun _=>False) ((GQ _ wr).drew) GN) b3 b4 b5 (fun _=>hmk) b6);clear x1 x2 x3 x4 x5 x6 x7 x8 x9 J G b2 b3 b4 b5 b6 hmk bq;go_wp2;refine bt (fun w'=>w'=wr.drew) rfl ?_;refine aV [c.y,c.y,.pointer (some ⟨c.y,12,none⟩)] ?_
        iterate 3 (refine aW rfl (fun w9 h9=>by go_simp) ?_;simp only [aa])
        refine aU ?_;refine aA (f:Int) rfl (fun w' d=>by subst d;go_simp) ?_;simp only [aa];refine aV [c.y,c.y,.pointer (some ⟨c.y,10,none⟩)] ?_
        iterate 3 (refine aW rfl (fun w9 h9=>by go_simp) ?_;simp only [aa])
        refine aU ?_;refine aA (.slice (some c.mv) c.nb c.nb) rfl (fun w' d=>by subst d;go_simp) ?_;simp only [aa];refine aV [((c.nb:Int):Int),.bool true,.bool true,c.y,c.y,.pointer (some ⟨c.y,10,none⟩)] ?_
        iterate 6 (refine aW rfl (fun w9 h9=>by go_simp) ?_;simp only [aa])
        refine aU ?_;refine cC (.slice (some c.mv) c.nb c.nb) rfl (fun w' d=>by subst d;go_simp) ?_;simp only [aa];refine aV [c.y,c.y,.pointer (some ⟨c.y,12,none⟩)] ?_
        iterate 3 (refine aW rfl (fun w9 h9=>by go_simp) ?_;simp only [aa])
        refine aU ?_;refine cC (f:Int) rfl (fun w' d=>by subst d;go_simp) ?_;simp only [aa];refine cC (.pointer (some ⟨c.mv,f,none⟩)) rfl (fun w' d=>by go_simp) ?_;simp only [aa];refine cC (.bool false) rfl (fun w' d=>by subst d;go_simp) ?_;simp only [aa];refine aA (.bool false) rfl (fun w' d=>by go_simp) ?_;simp only [aa];refine wpQuiet_nil ?_;rintro w2 rfl;go_wp2;exact HE.out
      ·have bx:=ae (ar (show¬f<c.nb by omega));obtain ⟨B0,bO⟩:∃B0,B0=decide (f<c.nb):=⟨_,rfl⟩;have bb:=ae bO;have HE:=ae (a5.out f a wr.drew (G.Fh ((GQ _ wr).drew)) (b2.trans (S':=fun _=>False) ((GQ _ wr).drew) GN) b3 b4 b5 (fun h=>absurd h a3) b6);clear x1 x2 x3 x4 x5 x6 x7 x8 x9 J G b2 b3 b4 b5 b6 a3 a8 aG bO c1 V bo ca cp cj b8 ck cm cg;go_wp2;refine bt (fun w'=>w'=wr.drew) rfl ?_;refine aV [c.y,c.y,.pointer (some ⟨c.y,12,none⟩)] ?_
       iterate 3 (refine aW rfl (fun w9 h9=>by go_simp) ?_;simp only [aa])
       refine aU ?_;refine aA (f:Int) rfl (fun w' d=>by subst d;go_simp) ?_;simp only [aa];refine aV [c.y,c.y,.pointer (some ⟨c.y,10,none⟩)] ?_
       iterate 3 (refine aW rfl (fun w9 h9=>by go_simp) ?_;simp only [aa])
       refine aU ?_;refine aA (.slice (some c.mv) c.nb c.nb) rfl (fun w' d=>by subst d;go_simp) ?_;simp only [aa];refine aA (.int .i64 (c.nb:Int)) rfl (fun w' d=>by go_simp) ?_;simp only [aa];refine aA (.bool B0) rfl (fun w' d=>by rw [bb.out];go_simp) ?_;simp only [aa];refine aA (.bool B0) rfl (fun w' d=>by go_simp) ?_;simp only [aa];have cc:=bb.out.trans bx.out;clear bb bx
       cases B0
       case true=>cases cc
       go_big_quiet_skip
       go_big_quiet_skip
       go_big_quiet_skip
       go_big_quiet_skip
       go_big_quiet_skip
       go_big_quiet_skip
       go_big_quiet_skip
       go_big_quiet_skip
       go_big_quiet_skip
       go_big_quiet_skip
       refine aA (.bool false) rfl (fun w' d=>by go_simp) ?_;simp only [aa];refine wpQuiet_nil ?_;rintro w2 rfl;go_wp2;exact HE.out
end
section
variable{c:Cy}{s:dV}{hf hg:Nat->Nat}{Fs top:Nat}{S:Nat->Prop}{L:Nat->Nat}{Mv:List Bool}{left fr ah k:Nat}{w w':World}
theorem jU.stays{T:Nat->Prop}(h:jU c s hf hg Fs top Mv left fr ah L S w)(a:Fr T w w')(e:∀k,S k->¬T k)(i:¬T cO):jU c s hf hg Fs top Mv left fr ah L S w':=by
 obtain ⟨Us,Hg,f,mp,M,g,n,j,l,m,o,d⟩:=h;exact ⟨Us,Hg,f,mp,M,g,n,j.frame a (fun k b=>e k ((d k).2 (.inr b))) (fun k b=>e k ((d k).2 (.inl b))) i,l,m,o,d⟩
theorem jU.Fh(h:jU c s hf hg Fs top Mv left fr ah L S w)(a:GM w w'):jU c s hf hg Fs top Mv left fr ah L S w':=h.stays a (fun _ _ h=>h) id
theorem jU.lt(h:jU c s hf hg Fs top Mv left fr ah L S w):∀k,S k->k<w.heap.size:=by
 obtain ⟨Us,Hg,e,mp,M,f,n,a,g,i,j,d⟩:=h;intro k b;rcases (d k).1 b with h|h
 ·exact a.mem.lt k h
 ·exact a.lt k h
theorem jU.Xu(h:jU c s hf hg Fs top Mv left fr ah L S w):cO<w.heap.size:=by
 obtain ⟨Us,Hg,b,mp,M,d,n,a,_⟩:=h;exact a.Xu
theorem jU.cells(b:yD c s hf hg Fs top)(h:jU c s hf hg Fs top Mv left fr ah L S w):AC w c left fr ah/\aJ w c.mv (xl Mv) 4/\Mv.length=s.nb/\gj c.lo c.hi w c.pl s.W s.B s.E s.Qe/\et w:=by
 obtain ⟨Us,Hg,d,mp,M,e,n,a,_⟩:=h;exact ⟨a.Qd,a.mv,by rw [a.len,b.nb],by have:=a.Xe;rwa [a.B,a.Qe] at this,a.Qp⟩
theorem jU.Ym(h:jU c s hf hg Fs top Mv left fr ah L S w):((∀k,k<fr->iC Mv k=true)/\fr<=s.nb/\(fr<s.nb->iC Mv fr=false))/\(ah=Qb (iC Mv) fr s.nb/\ah<=s.Ah)/\left+Qb (iC Mv) 0 s.nb=s.nb:=by
 obtain ⟨Us,Hg,b,mp,M,d,n,e,a,_⟩:=h;exact ⟨a.front,a.Ah,a.left⟩
theorem jU.open_(h:jU c s hf hg Fs top Mv left fr ah L S w)(n:left≠0):fr<s.nb/\iC Mv fr=false:=by
 obtain ⟨⟨e,j,g⟩,_,l⟩:=h.Ym;rcases aY fr s.nb with d|d
 ·exact ⟨d,g d⟩
 ·have:=oX (f:=iC Mv) (a:=0) (b:=s.nb) (fun i _ m=>e i (by omega));omega
def yy(c:Cy)(s:dV)(hf hg:Nat->Nat)(Fs top:Nat)(Mv:List Bool)(left fr:Nat)(L:Nat->Nat)(S:Nat->Prop)(w:World)(e:Ending)(w':World):Prop:=
 e= .returned (.tuple #[.bool true,(0:Int)])/\∃fr' ah' S',jU c s hf hg Fs top (Mv.set fr true) (left-1) fr' ah' L S' w'/\fr<fr'/\Fr S w w'/\∀j,S' j->S j\/w.heap.size<=j
theorem tV(i:yD c s hf hg Fs top)(h:jU c s hf hg Fs top Mv left fr ah L S w)(o:left≠0):
  Calls prog 65 #[c.y] w (yy c s hf hg Fs top Mv left fr L S w):=by
 obtain ⟨m,n⟩:=h.open_ o;obtain ⟨b,_⟩:=jU.cells i h;have j:=ae (tX i h m n (.inl rfl));have d:=b.cell 11 rfl;have f:=b.cell 12 rfl;have q:((left:Int)==0)=false:=by rw [aT];omega
 have r:¬(left:Int)=0:=by omega
 have l:Hid (∀e w',Ee c s hf hg Fs top Mv left fr fr L S w e w'->e= .returned (0:Int)/\yy c s hf hg Fs top Mv left fr L S w (.returned (.tuple #[.bool true,(0:Int)])) w'):=by
  show∀e w',_
  rintro e w' ⟨rfl,g,a,S',t,z,u,v,x⟩;exact ⟨rfl,rfl,g,a,S',t,u rfl,v,x⟩
 clear i h b m n o;generalize (yy c s hf hg Fs top Mv left fr L S w)=Q at*
 go_enter func65,ntmps65
 go_wp2_with fail
 refine j.out.mono ?_;intro e w1 hp;obtain ⟨rfl,p⟩:=l.out _ _ hp;have H:=ae p;clear hp p j l d f;go_wp2;exact H.out
theorem AW(D:yD c s hf hg Fs top)(h:jU c s hf hg Fs top Mv left fr ah L S w)(a:Nat)(h1:s.Qe<=a)(h2:a<top):
  Calls prog 320 #[c.y,(a:Int)] w fun e w'=>e= .returned (.tuple #[.int .u64 ((L a:Nat):Int),(0:Int)])/\GM w w':=by
 obtain ⟨Us,Hg,Sm,mp,M,fw,n,d,hp,_,_,_⟩:=h;have C:=D.ok;have aw:=D.Qe;have r:gj c.lo c.hi w c.pl s.W s.B s.E s.Qe:=by have:=d.Xe;rwa [d.B,d.Qe] at this
 have ao:a<s.W:=by have:=D.Ys;have:=C.to2;omega
 have R:=d.Qd.cell 0 rfl;have Z:=d.Qd.cell 8 rfl;rcases aY a (s.Qe+s.N) with x|x
 ·obtain ⟨b,G,v,b3⟩:=wt (E:=s.E) (W:=s.W) (i:=a-s.Qe) (by have:s.N=Qb (aI s.E) 0 s.W:=rfl;omega);have q:s.F b=a:=by show s.Qe+ef s.E b=a;omega
  have J:=ae (rS r d.Qp (by omega) a h1 x);have V:(a-s.Qe)/s.B<s.nb:=by
   have h3:s.nb=ou s.N s.B:=rfl;have h4:=vV (N:=s.N) (k:=s.B) C.B1;rw [h3,bp (by have:=C.B1;omega)];omega
  have Y:(a-s.Qe)/s.B<Mv.length:=by rw [d.len,D.nb];exact V
  have av:(((a-s.Qe)/s.B:Nat):Int)<(c.nb:Int):=by rw [D.nb];omega
  have l:=d.Qd.cell 10 rfl;have I:=d.mv.cell _ (ms Y)
  cases hm:iC Mv ((a-s.Qe)/s.B) with
  |true=>
   have hL:M a=L a:=by
    have:=hp.Yg b G v (by rw [b3];exact hm);rwa [q] at this
   have A:mp (a/s.P)=true:=by
    have:=hp.Yl C v (by rw [b3];exact hm);rwa [q] at this
   have o:=ae (fun w1 (hf:GM w w1)=>jt (d.mem.Qa hf) a ao A);rw [hL] at o;have t:=ae (fun w1 (hf:GM w w1)=>ag ((d.Fh hf).Qd.cell 0 rfl) (ag ((d.Fh hf).Qd.cell 10 rfl) ((d.Fh hf).mv.cell _ (ms Y))));rw [show Mv.getD ((a-s.Qe)/s.B) false=true from hm] at t;clear d hp D C r q G v b3 hL A hm I l R V;generalize (a-s.Qe)/s.B=kk at*;generalize L a=X at*
   go_enter func320,ntmps320
   go_wp2_with fail
   refine J.out.mono ?_;rintro e w1 ⟨rfl,g⟩;obtain ⟨R,l,I⟩:=t.out w1 g;have u:=ae (o.out w1 g);have K:=ae g;clear g J o t Z;go_wp2_with fail
   refine u.out.mono ?_;rintro e w2 ⟨rfl,m⟩;have H:=ae (K.out.trans m GN);clear m u R l I;go_wp2;go_ret2;exact ⟨rfl,H.out⟩
  |false=>
   have z:iC Mv (ef s.E b/s.B)=false:=by rw [b3];exact hm
   have hL:oq s.E s.hp M s.F b=L a:=by
    have:=hp.still b G v z;rwa [q] at this
   have A:=hp.Xc C v z;have ap:=fX v;have ar:=d.mem.at.2.2.1;obtain ⟨ns,f,q1,q2⟩:=d.shp;have O:=ae (fun w1 (hf:GM w w1)=>(q1.frame hf id).look (dp s.E b) (by omega));rw [q2 _ (by omega)] at O;have aj:=ae (fun w1 (hf:GM w w1) p (hh:gU c.lo c.hi w1 p s.W s.B s.E s.Qe)=>oR hh (d.Fh hf).Qp (by omega) a b ⟨G,v,q⟩);have al:=ae (fun w1 (hf:GM w w1)=>jg (r.Qa hf));have ai:=ae (fun w1 (hf:GM w w1)=>yi (d.Fh hf) C.apart b G v);have Q:=ae (fun w1 (U:GM w w1)=>tS (d.Fh U).Qd (d.Fh U).Xe (by have:=d.Qe;omega) (d.Fh U).mem b (dp s.E b) (s.hp (dp s.E b)) (hf (dp s.E b)) (hg (dp s.E b)) ap.1 G A (D.hd _ (by omega)) (hp.Qr b G v z) (hp.small b G v z));rw [show nN M (goes s.E c.Qe) (dp s.E b) (s.hp (dp s.E b)) (b-dp s.E b)=L a from by rw [<-hL,d.Qe];rfl] at Q;have t:=ae (fun w1 (hf:GM w w1)=>ag ((d.Fh hf).Qd.cell 8 rfl) (ag ((d.Fh hf).Qd.cell 9 rfl) (ag ((d.Fh hf).Qd.cell 15 rfl) (ag ((d.Fh hf).Qd.cell 10 rfl) ((d.Fh hf).mv.cell _ (ms Y))))));rw [show Mv.getD ((a-s.Qe)/s.B) false=false from hm] at t;have au:(b:Int)<=1048576:=by have:=d.mem.at.2.2.1;omega
   clear d hp D C r q G v b3 hL A hm I l R V z ap q1 q2;unfold Ar gD at*;generalize (a-s.Qe)/s.B=kk at*;generalize L a=X at*;generalize dp s.E b=st at*;generalize s.hp st=x1 at*;generalize hf st=x2 at*;generalize hg st=x3 at*
   go_enter func320,ntmps320
   go_wp2_with fail
   refine J.out.mono ?_;rintro e w1 ⟨rfl,g⟩;obtain ⟨Z,c9,T,l,I⟩:=t.out w1 g;have ak:=ae (al.out w1 g);have K:=ae g;clear g J al;go_wp2_with fail
   refine ak.out.mono ?_;rintro e w' ⟨⟨p,rfl,hp⟩,rfl⟩;have am:=ae (aj.out w1 K.out p hp);clear hp ak aj;go_wp2_with fail
   refine am.out.mono ?_;rintro e w2 ⟨rfl,m⟩;have j:=K.out.trans m GN;clear Z c9 T l I;obtain ⟨Z,c9,T,l,I⟩:=t.out w2 j;have af:=ae j;have ad:=ae (ai.out w2 j);have aq:=O.out w2 j;have an:=ae (Q.out w2 j);clear m j am t ai O Q Z l I K;go_wp2_with fail
   refine ad.out.mono ?_;rintro e w' ⟨rfl,rfl⟩;clear ad;go_wp2_with fail
   refine an.out.mono ?_;rintro e w3 ⟨rfl,j⟩;have H:=ae (af.out.trans j GN);clear j an af c9 T aq;go_wp2;go_ret2;exact ⟨rfl,H.out⟩
 ·have J:=ae (qs r (by omega) a x);have hb:=hp.Xf C D.Ys x h2;have o:=ae (fun w1 (hf:GM w w1)=>jt (d.mem.Qa hf) a ao hb.2);rw [hp.behind a x h2] at o;have t:=ae (fun w1 (hf:GM w w1)=>(d.Fh hf).Qd.cell 0 rfl);clear d hp D C r hb R;generalize L a=X at*
  go_enter func320,ntmps320
  go_wp2_with fail
  refine J.out.mono ?_;rintro e w1 ⟨rfl,g⟩;have R:=t.out w1 g;have u:=ae (o.out w1 g);have K:=ae g;clear g J o t Z;go_wp2_with fail
  refine u.out.mono ?_;rintro e w2 ⟨rfl,m⟩;have H:=ae (K.out.trans m GN);clear m u R;go_wp2;go_ret2;exact ⟨rfl,H.out⟩
end
end Go.Proofs.YthahbijbpinneaaGreatDoor
