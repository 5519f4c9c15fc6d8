import Derived.Test.YtgnoapadkncphaaGreatDoorA0
import Derived.Test.YtgnoapadkncphaaGreatDoorA2
import Derived.Test.YtgnoapadkncphaaGreatDoorA3
import Derived.Test.YtgnoapadkncphaaGreatDoorA4
import Derived.Maps.OwnSet
import Derived.Maps.OwnOps
set_option maxRecDepth 100000
set_option maxHeartbeats 8000000
set_option linter.all false
namespace Go.Proofs.YtgnoapadkncphaaGreatDoor
open Go.RowKit Go.Proofs.Tryz
structure AG where
 np:Nat->Nat
 nf:Nat->Nat
 ng:Nat->Nat
 Qv:Nat->Nat->Nat
def AG.sz(A:AG)(x:Nat):Nat:=1+(A.np x+A.nf x+A.ng x)
def AG.gr(A:AG):Gr:=⟨A.sz,fun x=>(List.range (A.np x)).map (A.Qv x)⟩
structure ce(A:AG)(rs:List Nat)(φ L:Nat->Nat)(lo hi:Nat):Prop where
 zero:φ 0=0
 one:1<=lo
 Qm:∀x,Reach A.gr rs x->lo<=φ x/\φ x+A.sz x<=hi
 apart:∀x y,Reach A.gr rs x->Reach A.gr rs y->x≠y->φ x+A.sz x<=φ y\/φ y+A.sz y<=φ x
 head:∀x,Reach A.gr rs x->lw L (φ x) (A.np x) (A.nf x) (A.ng x)
 ptr:∀x,Reach A.gr rs x->∀i,i<A.np x->L (φ x+1+i)=φ (A.Qv x i)
 val:∀x,Reach A.gr rs x->∀i,A.np x<=i->i<A.np x+A.nf x+A.ng x->L (φ x+1+i)=A.Qv x i/\A.Qv x i<18446744073709551616
section
variable{A:AG}{rs:List Nat}{φ L:Nat->Nat}{lo hi:Nat}
theorem js(φ:Nat->Nat)(y k:Nat):φ y+1+k=φ y+(1+k):=cv _ _ _
theorem ce.inj(h:ce A rs φ L lo hi){x y:Nat}(c:Reach A.gr rs x)(d:Reach A.gr rs y)(e:φ x=φ y):x=y:=by
 rcases aN 0 1 with _|_
 ·by_cases a:x=y
  ·omega
  ·have f:1<=A.sz x:=by unfold AG.sz;omega
   have g:1<=A.sz y:=by unfold AG.sz;omega
   rcases h.apart x y c d a with b|b<;>omega
 ·omega
theorem AG.Ql{x i:Nat}(b:Reach A.gr rs x)(hi:i<A.np x)(a:A.Qv x i≠0):Reach A.gr rs (A.Qv x i):=
 .step b (bw.2 ⟨i,bO.2 hi,rfl⟩) a
theorem ce.pos(h:ce A rs φ L lo hi){x:Nat}(a:Reach A.gr rs x):1<=φ x:=by have:=(h.Qm x a).1;have:=h.one;omega
structure gx(A:AG)(rs:List Nat)(φ:Nat->Nat)(G:Gr):Prop where
 size:∀x,Reach A.gr rs x->G.size (φ x)=A.sz x
 some:∀a,G.size a≠0->∃x,Reach A.gr rs x/\φ x=a
 Qr:∀x,Reach A.gr rs x->G.Qr (φ x)=(List.range (A.np x)).map (fun i=>φ (A.Qv x i))
theorem ce.conc(h:ce A rs φ L lo hi):∃G,gx A rs φ G:=by
 classical
 refine ⟨⟨fun a=>if h:∃x,Reach A.gr rs x/\φ x=a then A.sz h.choose else 0,fun a=>if h:∃x,Reach A.gr rs x/\φ x=a then (List.range (A.np h.choose)).map (fun i=>φ (A.Qv h.choose i)) else []⟩,fun x c=> ?_,fun a d=> ?_,fun x c=> ?_⟩
 ·have b:∃y,Reach A.gr rs y/\φ y=φ x:=⟨x,c,rfl⟩;show (if h:∃y,Reach A.gr rs y/\φ y=φ x then A.sz h.choose else 0)=_
  rw [dif_pos b,h.inj b.choose_spec.1 c b.choose_spec.2]
 ·grind
 ·have b:∃y,Reach A.gr rs y/\φ y=φ x:=⟨x,c,rfl⟩;show (if h:∃y,Reach A.gr rs y/\φ y=φ x then (List.range (A.np h.choose)).map (fun i=>φ (A.Qv h.choose i)) else [])=_
  rw [dif_pos b,h.inj b.choose_spec.1 c b.choose_spec.2]
variable{G:Gr}
theorem gx.reach(h:ce A rs φ L lo hi)(c:gx A rs φ G)(a:Nat):Reach G (rs.map φ) a↔∃x,Reach A.gr rs x/\φ x=a:=by
 constructor
 ·intro d
  induction d with
  |root h1 h2=>
   obtain ⟨x,b,rfl⟩:=bw.1 h1;exact ⟨x,.root b (fun e=>h2 (by rw [e];exact h.zero)),rfl⟩
  |step _ h1 h2 ih=>
   obtain ⟨x,b,rfl⟩:=ih;rw [c.Qr x b] at h1;obtain ⟨i,hi,rfl⟩:=bw.1 h1;exact ⟨_,AG.Ql b (bO.1 hi) (fun e=>h2 (by rw [e];exact h.zero)),rfl⟩
 ·rintro ⟨x,b,rfl⟩
  induction b with
  |root h1 h2=>exact .root (bw.2 ⟨_,h1,rfl⟩) (by have:=h.pos (.root h1 h2);omega)
  | @step a p h0 h1 h2 ih=>
   obtain ⟨i,hi,rfl⟩:=bw.1 h1;exact .step ih (by rw [c.Qr a h0];grind) (by have:=h.pos (.step h0 h1 h2);omega)
theorem gx.sound(h:ce A rs φ L lo hi)(c:gx A rs φ G):gd G (rs.map φ) hi:=by
 have m:∀x,Reach A.gr rs x->G.size (φ x)≠0:=fun x d=>by rw [c.size x d];unfold AG.sz;omega
 refine ⟨fun a b k f l=> ?_,fun a f=> ?_,fun a f g=> ?_,fun a f p hp g=> ?_⟩
 ·obtain ⟨x,d,rfl⟩:=c.some a f;obtain ⟨y,j,rfl⟩:=c.some b l;rw [c.size x d];rcases h.apart x y d j (fun e=>by grind) with i|i
  ·exact i
  omega
 ·obtain ⟨x,d,rfl⟩:=c.some a f;rw [c.size x d];exact (h.Qm x d).2
 ·obtain ⟨x,d,rfl⟩:=(gx.reach h c a).1 (.root f g)
  grind
 ·obtain ⟨x,d,rfl⟩:=c.some a f;obtain ⟨y,j,rfl⟩:=(gx.reach h c p).1 (.step ((gx.reach h c _).2 ⟨x,d,rfl⟩) hp g)
  grind
theorem gx.obj(h:ce A rs φ L lo hi)(c:gx A rs φ G){dom:Nat->Prop}(j:∀a,lo<=a->a<hi->dom a)(l:hi<=2147483648)(a:Nat)(g:G.size a≠0):jJ L dom G a:=by
 obtain ⟨x,b,rfl⟩:=c.some a g;have m:=h.Qm x b;refine ⟨A.np x,A.nf x,A.ng x,h.head x b,c.size x b,?_,fun k e f=>j k (by omega) (by rw [c.size x b] at f;omega),fun i hi=> ?_⟩
 ·rw [c.Qr x b];exact dP (fun i hi=>(h.ptr x b i (bO.1 hi)).symm)
 ·rw [h.ptr x b i hi];by_cases d:A.Qv x i=0
  ·rw [d,h.zero];omega
  ·have e:=h.Qm _ (AG.Ql b hi d)
   grind [AG.sz]
theorem gx.low(h:ce A rs φ L lo hi)(c:gx A rs φ G)(a:Nat)(b:G.size a≠0):lo<=a:=by
 obtain ⟨x,d,rfl⟩:=c.some a b;exact (h.Qm x d).1
structure mz(A:AG)(rs:List Nat)(φ E:Nat->Nat):Prop where
 size:∀x,Reach A.gr rs x->E (φ x)=A.sz x
 some:∀a,E a≠0->∃x,Reach A.gr rs x/\φ x=a
theorem gx.ext(h:ce A rs φ L lo hi)(b:gx A rs φ G){E:Nat->Nat}(c:∀a,E a≠0↔Reach G (rs.map φ) a)(e:fz G (rs.map φ) E):mz A rs φ E:=
 ⟨fun x d=>by rw [(e (φ x) ((c _).2 ((gx.reach h b _).2 ⟨x,d,rfl⟩))).2];exact b.size x d,fun a f=>(gx.reach h b a).1 ((c a).1 f)⟩
def te(F φ:Nat->Nat)(x:Nat):Nat:=if x=0 then 0 else F (φ x)
theorem ce.slide(h:ce A rs φ L lo hi){E L':Nat->Nat}(l:mz A rs φ E){Ba:Nat}(m:1<=Ba)(f:∀x,Reach A.gr rs x->∀i,i<A.sz x->L' (goes E Ba (φ x)+i)=oF L (goes E Ba) (φ x) (A.np x) i):
  ce A rs (te (goes E Ba) φ) L' Ba (Ba+Qc (aw E) 0 hi):=by
 have d:∀x,Reach A.gr rs x->te (goes E Ba) φ x=goes E Ba (φ x):=fun x a=>if_neg a.pos
 have hg:∀x,Reach A.gr rs x->goes E Ba (φ x)+A.sz x=goes E Ba (φ x+A.sz x):=fun x a=>by
  rw [<-l.size x a];exact (qG (ag _)).symm
 refine ⟨if_pos rfl,m,fun x a=> ?_,fun x y a j g=> ?_,fun x a=> ?_,fun x a i hi=> ?_,fun x a i b c=> ?_⟩
 ·rw [d x a];refine ⟨by unfold goes;omega,?_⟩;rw [hg x a];exact ku (h.Qm x a).2
 ·rw [d x a,d y j,hg x a,hg y j];rcases h.apart x y a j g with b|b
  ·exact .inl (ku b)
  ·exact .inr (ku b)
 ·rw [d x a];have b:=f x a 0 (by unfold AG.sz;omega);have c:=h.head x a;refine ⟨?_,c.2⟩;rw [aP] at b;rw [b];unfold oF;rw [if_neg (by omega),aP];exact c.1
 ·rw [d x a];have b:=f x a (1+i) (by unfold AG.sz;omega);have c:=h.ptr x a i hi;rw [<-cv] at b;rw [b];unfold oF;rw [<-cv,c];unfold te;by_cases k:A.Qv x i=0
  ·rw [k,h.zero,if_neg (by omega),if_pos rfl]
  ·have e:=h.pos (AG.Ql a hi k)
   grind
 ·rw [d x a];have e:=f x a (1+i) (by unfold AG.sz;omega);rw [<-cv] at e;rw [e];unfold oF;rw [if_neg (by omega),<-cv];exact h.val x a i b c
def dt(A:AG)(rs l:List Nat):Prop:=l.Nodup/\∀x,x∈l↔Reach A.gr rs x
def AG.Wd(A:AG)(l:List Nat):Nat:=(l.map A.sz).sum
theorem tl{A:AG}{φ:Nat->Nat}{N:Nat}:∀(l:List Nat) (E:Nat->Nat),l.Nodup->(∀x∈l,E (φ x)=A.sz x)->(∀a,E a≠0->∃x∈l,φ x=a)->(∀x∈l,∀y∈l,x≠y->φ x+A.sz x<=φ y\/φ y+A.sz y<=φ x)->(∀x∈l,φ x+A.sz x<=N)->
  Qc (aw E) 0 N=A.Wd l/\Qc (cV E) 0 N=l.length
 |[],E,_,_,h2,_,_=>by
  have m:∀a,E a=0:=fun a=>by
   grind
  refine ⟨bP (fun i _ _=> ?_),bP (fun i _ _=> ?_)⟩
  ·simp_all [Bool.eq_false_iff,cE]
  simp_all [Bool.eq_false_iff,eG]
 |x::t,E,hn,h1,h2,h3,h4=>by
  obtain ⟨q,h⟩:=List.nodup_cons.1 hn;have j:∀y,1<=A.sz y:=fun y=>by unfold AG.sz;omega
  have p:∀y∈t,φ y≠φ x:=fun y c e=>by
   grind
  obtain ⟨b,n⟩:∃b,b=fun a=>if a=φ x then 0 else E a:=⟨_,rfl⟩
  have u:=h1 x cw;have d:E=dR b (φ x) (A.sz x):=by
   funext a;simp_all [dR]
  have o:b (φ x)=0:=by grind
  have g:∀y∈t,b (φ y)=A.sz y:=fun y c=>by grind
  have f:∀a,b a≠0->∃y∈t,φ y=a:=fun a C=>by
   grind
  obtain ⟨B,D⟩:=tl t b h g f (fun y c z w=>h3 y (bm _ c) z (bm _ w)) (fun y c=>h4 y (bm _ c));have k:=h4 x cw;have v:=j x;rw [d];constructor
  ·rw [vR (by omega) (fun s r=> ?_) (fun s r m=> ?_) k,B]
   ·grind [AG.Wd]
   ·grind
   grind
  grind [nC]
theorem dt.Qc(h:ce A rs φ L lo hi){E:Nat->Nat}(d:mz A rs φ E){l:List Nat}(b:dt A rs l):Go.Proofs.YtgnoapadkncphaaGreatDoor.Qc (aw E) 0 hi=A.Wd l/\Go.Proofs.YtgnoapadkncphaaGreatDoor.Qc (cV E) 0 hi=l.length:=
 tl l E b.1 (fun x c=>d.size x ((b.2 x).1 c)) (fun a g=>let ⟨x,e,f⟩:=d.some a g;⟨x,(b.2 x).2 e,f⟩) (fun x c y i=>h.apart x y ((b.2 x).1 c) ((b.2 y).1 i)) (fun x c=>(h.Qm x ((b.2 x).1 c)).2)
theorem ce.less(h:ce A rs φ L lo hi){c:List Nat}(b:∀z,Reach A.gr c z->Reach A.gr rs z):ce A c φ L lo hi:=
 ⟨h.zero,h.one,fun x a=>h.Qm x (b x a),fun x y a d=>h.apart x y (b x a) (b y d),fun x a=>h.head x (b x a),fun x a=>h.ptr x (b x a),fun x a=>h.val x (b x a)⟩
theorem sW{G:Gr}{rs:List Nat}{i r z:Nat}(b:r=0\/Reach G rs r)(h:Reach G (rs.set i r) z):Reach G rs z:=by
 induction h with
 |root h1 h2=>
  rcases bS h1 with a|a
  ·exact .root a h2
  grind
 |step _ h1 h2 ih=>exact .step ih h1 h2
theorem ce.congr(h:ce A rs φ L lo hi){L':Nat->Nat}(e:∀k,lo<=k->k<hi->L' k=L k):ce A rs φ L' lo hi:=by
 have c:∀x,Reach A.gr rs x->∀i,i<A.sz x->L' (φ x+i)=L (φ x+i):=fun x a i hi=>by have:=h.Qm x a;grind
 refine ⟨h.zero,h.one,h.Qm,h.apart,fun x a=> ?_,fun x a i hi=> ?_,fun x a i b d=> ?_⟩
 ·have:=h.head x a;exact ⟨by have b:L' (φ x)=L (φ x):=c x a 0 (by unfold AG.sz;omega);rw [b];exact this.1,this.2⟩
 ·rw [js,c x a (1+i) (by unfold AG.sz;omega),<-js φ _ _];exact h.ptr x a i hi
 ·rw [js,c x a (1+i) (by unfold AG.sz;omega),<-js φ _ _];exact h.val x a i b d
theorem ce.wide(h:ce A rs φ L lo hi){hi':Nat}(b:hi<=hi'):ce A rs φ L lo hi':=⟨h.zero,h.one,fun x a=>⟨(h.Qm x a).1,by have:=(h.Qm x a).2;omega⟩,h.apart,h.head,h.ptr,h.val⟩
def AG.put(A:AG)(x i v:Nat):AG:={A with Qv:=fun y k=>if y=x/\k=i then v else A.Qv y k}
theorem AG.Xj{x i v z:Nat}(f:Reach A.gr rs x)(b:A.np x<=i\/v=0\/Reach A.gr rs v)(h:Reach (A.put x i v).gr rs z):Reach A.gr rs z:=by
 induction h with
 |root h1 h2=>exact .root h1 h2
 | @step a p _ h1 h2 ih=>
  obtain ⟨k,c,rfl⟩:=bw.1 h1;have c:=bO.1 c;by_cases e:a=x/\k=i
  ·have d:(A.put x i v).Qv a k=v:=if_pos e;rw [d] at h2 ⊢;obtain ⟨rfl,rfl⟩:=e;rcases b with b|b|b
   ·exact absurd (show k<A.np a from c) (by omega)
   ·omega
   omega
  ·have d:(A.put x i v).Qv a k=A.Qv a k:=if_neg e;rw [d] at h2 ⊢;exact AG.Ql ih c h2
theorem ce.put_ptr(h:ce A rs φ L lo hi){x i v:Nat}(p:Reach A.gr rs x)(t:i<A.np x)(q:v=0\/Reach A.gr rs v):ce (A.put x i v) rs φ (eb L (φ x+1+i) (φ v)) lo hi:=by
 have b:∀z,Reach (A.put x i v).gr rs z->Reach A.gr rs z:=fun z m=>AG.Xj p (.inr q) m
 have u:∀z,(A.put x i v).sz z=A.sz z:=fun z=>rfl
 have j:∀y k,Reach A.gr rs y->k<A.sz y->¬(y=x/\k=1+i)->eb L (φ x+1+i) (φ v) (φ y+k)=L (φ y+k):=fun y k a o c=>by
  unfold eb;refine if_neg (fun e=> ?_);by_cases l:y=x
  ·grind
  ·have:1+i<A.sz x:=by unfold AG.sz;omega
   rcases h.apart x y p a (Ne.symm l) with d|d<;>omega
 refine ⟨h.zero,h.one,fun y a=>h.Qm y (b y a),fun y z a m=>h.apart y z (b y a) (b z m),fun y a=> ?_,fun y a k o=> ?_,fun y a k d r=> ?_⟩
 ·have n:=h.head y (b y a);refine ⟨?_,n.2⟩;have s:eb L (φ x+1+i) (φ v) (φ y)=L (φ y):=j y 0 (b y a) (by unfold AG.sz;omega) (by omega);rw [s];exact n.1
 ·by_cases e:y=x/\k=i
  ·obtain ⟨rfl,rfl⟩:=e;rw [show (A.put y k v).Qv y k=v from if_pos ⟨rfl,rfl⟩];exact if_pos rfl
  ·rw [show (A.put x i v).Qv y k=A.Qv y k from if_neg e,js φ y k,j y (1+k) (b y a) (by grind [AG.sz]) (by omega),<-js φ _ _];exact h.ptr y (b y a) k o
 ·have f:A.np y<=k:=d;have g:k<A.np y+A.nf y+A.ng y:=r;have c:¬(y=x/\k=i):=fun e=>by grind
  rw [show (A.put x i v).Qv y k=A.Qv y k from if_neg c,js φ y k,j y (1+k) (b y a) (by unfold AG.sz;omega) (by omega),<-js φ _ _];exact h.val y (b y a) k f g
theorem ce.put_val(h:ce A rs φ L lo hi){x i v:Nat}(r:Reach A.gr rs x)(f:A.np x<=i)(t:i<A.np x+A.nf x+A.ng x)(s:v<18446744073709551616):ce (A.put x i v) rs φ (eb L (φ x+1+i) v) lo hi:=by
 have b:∀z,Reach (A.put x i v).gr rs z->Reach A.gr rs z:=fun z p=>AG.Xj r (.inl f) p
 have n:∀y k,Reach A.gr rs y->k<A.sz y->¬(y=x/\k=1+i)->eb L (φ x+1+i) v (φ y+k)=L (φ y+k):=fun y k a q c=>by
  unfold eb;refine if_neg (fun e=> ?_);by_cases o:y=x
  ·grind
  ·have:1+i<A.sz x:=by unfold AG.sz;omega
   rcases h.apart x y r a (Ne.symm o) with f|f<;>omega
 refine ⟨h.zero,h.one,fun y a=>h.Qm y (b y a),fun y z a p=>h.apart y z (b y a) (b z p),fun y a=> ?_,fun y a k q=> ?_,fun y a k d j=> ?_⟩
 ·have d:=h.head y (b y a);refine ⟨?_,d.2⟩;have j:eb L (φ x+1+i) v (φ y)=L (φ y):=n y 0 (b y a) (by unfold AG.sz;omega) (by omega);rw [j];exact d.1
 ·have m:k<A.np y:=q;have c:¬(y=x/\k=i):=fun e=>by grind
  rw [show (A.put x i v).Qv y k=A.Qv y k from if_neg c,js φ y k,n y (1+k) (b y a) (by unfold AG.sz;omega) (by omega),<-js φ _ _];exact h.ptr y (b y a) k m
 ·have g:A.np y<=k:=d;have l:k<A.np y+A.nf y+A.ng y:=j;by_cases e:y=x/\k=i
  ·obtain ⟨rfl,rfl⟩:=e;rw [show (A.put y k v).Qv y k=v from if_pos ⟨rfl,rfl⟩];exact ⟨if_pos rfl,s⟩
  ·rw [show (A.put x i v).Qv y k=A.Qv y k from if_neg e,js φ y k,n y (1+k) (b y a) (by unfold AG.sz;omega) (by omega),<-js φ _ _];exact h.val y (b y a) k g l
def AG.new(A:AG)(n p f g:Nat):AG:=⟨fun y=>if y=n then p else A.np y,fun y=>if y=n then f else A.nf y,fun y=>if y=n then g else A.ng y,fun y k=>if y=n then 0 else A.Qv y k⟩
theorem AG.Qq{n p f g y:Nat}(h:y≠n):(A.new n p f g).np y=A.np y/\(A.new n p f g).nf y=A.nf y/\(A.new n p f g).ng y=A.ng y/\(A.new n p f g).Qv y=A.Qv y/\(A.new n p f g).sz y=A.sz y:=by
 have a:(A.new n p f g).np y=A.np y:=if_neg h;have b:(A.new n p f g).nf y=A.nf y:=if_neg h;have c:(A.new n p f g).ng y=A.ng y:=if_neg h;exact ⟨a,b,c,funext fun k=>if_neg h,by grind [AG.sz]⟩
theorem AG.Ys(A:AG)(n p f g:Nat):(A.new n p f g).np n=p/\(A.new n p f g).nf n=f/\(A.new n p f g).ng n=g/\(∀k,(A.new n p f g).Qv n k=0)/\(A.new n p f g).sz n=1+(p+f+g):=by
 have a:(A.new n p f g).np n=p:=if_pos rfl;have b:(A.new n p f g).nf n=f:=if_pos rfl;have c:(A.new n p f g).ng n=g:=if_pos rfl;exact ⟨a,b,c,fun k=>if_pos rfl,by grind [AG.sz]⟩
theorem AG.Xq{n p f g s z:Nat}(d:¬Reach A.gr rs n)(h:Reach (A.new n p f g).gr (rs.set s n) z):z=n\/Reach A.gr rs z:=by
 induction h with
 |root h1 h2=>
  rcases bS h1 with c|c
  ·exact .inr (.root c h2)
  omega
 | @step a q _ h1 h2 b=>
  obtain ⟨k,j,rfl⟩:=bw.1 h1;rcases b with rfl|b
  ·grind [AG.Ys]
  ·have i:a≠n:=fun e=>d (e▸b)
   simp_all [AG.Qq,AG.Ql]
theorem ce.new(h:ce A rs φ L lo hi){n p f g s a hi':Nat}(E:n≠0)(F:¬Reach A.gr rs n)(N:lo<=hi)(P:hi<=a)(Q:a+(1+(p+f+g))<=hi')(O:dD p f g):
  ce (A.new n p f g) (rs.set s n) (fun y=>if y=n then a else φ y) (ow L a (lj p f g) (p+f+g)) lo hi':=by
 have d:∀z,Reach (A.new n p f g).gr (rs.set s n) z->z≠n->Reach A.gr rs z:=fun z v t=>(AG.Xq F v).resolve_left t
 have D:∀y k,Reach A.gr rs y->k<A.sz y->ow L a (lj p f g) (p+f+g) (φ y+k)=L (φ y+k):=fun y k c r=>by
  have:=(h.Qm y c).2;unfold ow
  grind
 have u:=AG.Ys A n p f g;obtain ⟨w,I,J,K,R⟩:=u;have H:=h.one;refine ⟨by rw [if_neg (Ne.symm E)];exact h.zero,h.one,fun y c=> ?_,fun y z c v i=> ?_,fun y c=> ?_,fun y c k r=> ?_,fun y c k j q=> ?_⟩
 ·by_cases e:y=n
  ·grind
  ·obtain ⟨_,_,_,_,o⟩:=AG.Qq (A:=A) (p:=p) (f:=f) (g:=g) e;rw [if_neg e,o];have:=h.Qm y (d y c e);omega
 ·by_cases e:y=n
  ·subst e;obtain ⟨_,_,_,_,o⟩:=AG.Qq (A:=A) (p:=p) (f:=f) (g:=g) (Ne.symm i);rw [if_pos rfl,if_neg (Ne.symm i),o];have:=h.Qm z (d z v (Ne.symm i));omega
  ·obtain ⟨_,_,_,_,o⟩:=AG.Qq (A:=A) (p:=p) (f:=f) (g:=g) e;rw [if_neg e,o];have j:=h.Qm y (d y c e);by_cases m:z=n
   ·grind
   ·obtain ⟨_,_,_,_,M⟩:=AG.Qq (A:=A) (p:=p) (f:=f) (g:=g) m;rw [if_neg m,M];exact h.apart y z (d y c e) (d z v m) i
 ·by_cases e:y=n
  ·subst e;rw [if_pos rfl,w,I,J];exact ⟨if_pos rfl,O⟩
  ·obtain ⟨l,x,B,_,_⟩:=AG.Qq (A:=A) (p:=p) (f:=f) (g:=g) e;rw [if_neg e,l,x,B];have j:=h.head y (d y c e);have q:ow L a (lj p f g) (p+f+g) (φ y)=L (φ y):=D y 0 (d y c e) (by unfold AG.sz;omega);exact ⟨by rw [q];exact j.1,j.2⟩
 ·by_cases e:y=n
  ·subst e;rw [if_pos rfl,K,if_neg (Ne.symm E),h.zero];rw [w] at r;unfold ow
   grind
  ·obtain ⟨l,_,_,C,_⟩:=AG.Qq (A:=A) (p:=p) (f:=f) (g:=g) e;rw [l] at r;have b:=d y c e;rw [if_neg e,C,js φ y k,D y (1+k) b (by unfold AG.sz;omega),<-js φ _ _,h.ptr y b k r];have t:A.Qv y k≠n:=fun m=>F (m▸AG.Ql b r (by omega))
   grind
 ·by_cases e:y=n
  ·subst e;rw [if_pos rfl,K];rw [w,I,J] at q;rw [w] at j;refine ⟨?_,by omega⟩;unfold ow
   grind
  ·obtain ⟨l,x,B,C,_⟩:=AG.Qq (A:=A) (p:=p) (f:=f) (g:=g) e;rw [l,x,B] at q;rw [l] at j;have b:=d y c e;rw [if_neg e,C,js φ y k,D y (1+k) b (by unfold AG.sz;omega),<-js φ _ _];exact h.val y b k j q
end
section
open Go.RowKit Go.Maps
theorem kO:Keyed prog 3:=int_keyed (q:= .i64) underlying3
def kI(q:Nat):Lit:= .int .i64 q
theorem Hh{q:Nat}(h:q<4611686018427387904):(kI q).wf=true:=WalkArith.wf_i64 (by omega)
theorem pE{q:Nat}(h:q<4611686018427387904):keyOf prog 3 (.int .i64 q)=some (kI q):=keyOf_int_mk underlying3 (Hh h)
theorem Hi{q r:Nat}(h:q≠r):kI q≠kI r:=fun e=>by unfold kI at e;grind
theorem D1{q:Nat}(h:q<4611686018427387904):WideAt.IsKeyLit (kI q):=kO.key (pE h)
section
variable{w w':World}{b n:Nat}{f:Nat->Option Nat}
def gE(w:World)(b n:Nat)(f:Nat->Option Nat):Prop:=
 ∃D:DataW Unit,w.ownsMap prog 3 (plainElem prog 3) b n D/\∀q,q<4611686018427387904->Maps.has D (kI q)=(f q).isSome/\D.atKey (kI q) (.lit (.int .i64 0))= .lit (.int .i64 (((f q).getD 0:Nat):Int))
theorem sZ{k:TypeId}{R:Value->Option (DataW Unit×List MemPlace)}{D:DataW Unit}{T:Nat->Prop}(h:w.ownsMap prog k R b n D)(hf:Fr T w w')(e:¬T b):w'.ownsMap prog k R b n D:=by
 obtain ⟨c,a,d,r⟩:=h;exact ⟨c,a,hf.heap d e,r⟩
theorem gE.frame{T:Nat->Prop}(h:gE w b n f)(hf:Fr T w w')(d:¬T b):gE w' b n f:=let ⟨D,a,c⟩:=h;⟨D,sZ a hf d,c⟩
theorem gE.lt(h:gE w b n f):b<w.heap.size:=let ⟨_,a,_⟩:=h;a.lt
theorem tu(w:World):gE (w.alloc (.map #[] 0)) w.heap.size 0 (fun _=>none):=
 ⟨.map [],World.ownsMap_made _ _ _ _,fun _ _=>⟨rfl,rfl⟩⟩
theorem uW(w:World):(zeroValue 3).run prog w= .ok (.int .i64 0) w:=by kernel_rfl
theorem gE.look(h:gE w b n f)(q:Nat)(g:q<4611686018427387904):(Instr.lookup 174 (.map (some b)) (.int .i64 q) false).run prog w= .ok (.int .i64 (((f q).getD 0:Nat):Int)) w:=by
 obtain ⟨D,d,i⟩:=h;obtain ⟨c,a,e,_⟩:=d.lookup_int kO underlying174 underlying3 (uW w) (pE g)
 grind
theorem gE.look_ok(h:gE w b n f)(q:Nat)(c:q<4611686018427387904):(Instr.lookup 174 (.map (some b)) (.int .i64 q) true).run prog w= .ok (.tuple #[((((f q).getD 0:Nat):Int):Int),.bool (f q).isSome]) w:=by
 obtain ⟨D,g,i⟩:=h;obtain ⟨v,ps,d,e⟩:=g.look_ok kO underlying174 (uW w) (plainElem_int underlying3 (by decide)) (pE c);rw [(i q c).2] at e;obtain ⟨a,rfl,j,_⟩:=plainElem_int_inv underlying3 e
 grind
def jf{α:Type}(f:Nat->Option α)(q:Nat)(x:α)(r:Nat):Option α:=if r=q then some x else f r
theorem gE.put(h:gE w b n f)(q x:Nat)(g:q<4611686018427387904)(t:x<4611686018427387904)(C:n<4611686018427387904):
  ∃w',(Instr.mapUpdate 174 (.map (some b)) (.int .i64 q) (.int .i64 x)).run prog w= .ok () w'/\gE w' b (if (f q).isSome then n else n+1) (jf f q x)/\Fr (fun k=>k=b) w w':=by
 obtain ⟨D,c,A⟩:=h;obtain ⟨w',d,u,v⟩:=c.update kO underlying174 (by unfold maxLen;omega) (pE g) (plainElem_int underlying3 (Hh t));refine ⟨w',d,⟨D.put (kI q) (.lit (kI x)),?_,fun r E=> ?_⟩,(Fr.Xd v).mono (fun k B=> .inl (by grind))⟩
 ·obtain ⟨j,a,l,m,y,i⟩:=u;refine ⟨j,a,l,m,?_,i⟩;have z:D.put (kI q) (.lit (kI x))=_:=i;have o:Maps.size (D.put (kI q) (.lit (kI x)))=j.size:=by grind [Maps.size,length_sorted]
  have p:=size_put (c.tidy kO) (k:=kI q) (.lit (kI x));have s:=c.size_le
  grind
 ·unfold jf;by_cases e:r=q
  ·subst e;rw [if_pos rfl];exact ⟨has_put_same c.isMap (D1 g) _,atKey_put_same c.isMap (D1 g) _ _⟩
  simp_all [has_put_other,Hi,atKey_put_other]
end
def JF(v:Value):Option (DataW Unit×List MemPlace):=
 match v with
 | .agg a=>
  match a.toList with
  |[(p:Int),(f:Int),(g:Int)]=>some (.agg [.lit (.int .i64 p),.lit (.int .i64 f),.lit (.int .i64 g)],[])
  |_=>none
 |_=>none
theorem Eh(p f g:Int):JF (ft p f g)=some (.agg [.lit (.int .i64 p),.lit (.int .i64 f),.lit (.int .i64 g)],[]):=rfl
theorem Gp{v:Value}{p f g:Int}{ps:List MemPlace}(h:JF v=some (.agg [.lit (.int .i64 p),.lit (.int .i64 f),.lit (.int .i64 g)],ps)):v=ft p f g:=by
 unfold JF at h;split at h
 ·rename_i a;split at h
  ·rename_i c b g' e;simp only [aT,Prod.mk.injEq,DataW.agg.injEq,jj,DataW.lit.injEq,Lit.int.injEq,true_and,and_true] at h;obtain ⟨⟨rfl,rfl,rfl⟩,_⟩:=h;unfold ft;rw [<-e]
  grind
 grind
section
variable{w w':World}{b n:Nat}{f:Nat->Option (Nat×Nat×Nat)}
def uz(o:Option (Nat×Nat×Nat)):Nat×Nat×Nat:=o.getD (0,0,0)
def iz(w:World)(b n:Nat)(f:Nat->Option (Nat×Nat×Nat)):Prop:=
 ∃D:DataW Unit,w.ownsMap prog 3 JF b n D/\∀q,q<4611686018427387904->D.atKey (kI q) (.agg [.lit (.int .i64 0),.lit (.int .i64 0),.lit (.int .i64 0)])= .agg [.lit (.int .i64 ((uz (f q)).1:Int)),.lit (.int .i64 ((uz (f q)).2.1:Int)),.lit (.int .i64 ((uz (f q)).2.2:Int))]
theorem iz.frame{T:Nat->Prop}(h:iz w b n f)(hf:Fr T w w')(d:¬T b):iz w' b n f:=let ⟨D,a,c⟩:=h;⟨D,sZ a hf d,c⟩
theorem iz.lt(h:iz w b n f):b<w.heap.size:=let ⟨_,a,_⟩:=h;a.lt
theorem BL(w:World):iz (w.alloc (.map #[] 0)) w.heap.size 0 (fun _=>none):=
 ⟨.map [],World.ownsMap_made _ _ _ _,fun _ _=>rfl⟩
theorem CI(w:World):(zeroValue 32).run prog w= .ok (ft 0 0 0) w:=by kernel_rfl
theorem iz.look(h:iz w b n f)(q:Nat)(d:q<4611686018427387904):(Instr.lookup 175 (.map (some b)) (.int .i64 q) false).run prog w= .ok (ft ((uz (f q)).1:Int) ((uz (f q)).2.1:Int) ((uz (f q)).2.2:Int)) w:=by
 obtain ⟨D,c,e⟩:=h;obtain ⟨v,ps,a,g⟩:=c.lookup kO underlying175 (CI w) (Eh 0 0 0) (pE d)
 grind [Gp]
theorem iz.put(h:iz w b n f)(q p t g:Nat)(d:q<4611686018427387904)(o:n<4611686018427387904):
  ∃w',(Instr.mapUpdate 175 (.map (some b)) (.int .i64 q) (ft p t g)).run prog w= .ok () w'/\iz w' b (n+1) (jf f q (p,t,g))/\Fr (fun k=>k=b) w w':=by
 obtain ⟨D,c,l⟩:=h;obtain ⟨w',a,i,j⟩:=c.update kO underlying175 (by unfold maxLen;omega) (pE d) (Eh p t g);refine ⟨w',a,⟨_,i,fun r s=> ?_⟩,(Fr.Xd j).mono (fun k m=> .inl (by grind))⟩;unfold jf;by_cases e:r=q
 ·subst e;rw [if_pos rfl];exact atKey_put_same c.isMap (D1 d) _ _
 simp_all [atKey_put_other,Hi]
end
end
theorem zQ{a:Nat}{c:(b:Nat)->a<=b->Prop}(Ba:c a (ag a))(succ:∀b (e:a<=b),c b e->c (b+1) (oW e)):∀b (d:a<=b),c b d:=by
 intro b d
 induction d with
 |refl=>omega
 |step h ih=>grind
theorem eu(f:Nat->Bool)(a:Nat):Qc f a a=0:=eL f (ag a)
theorem uC{f g:Nat->Bool}{a:Nat}:∀{b:Nat},a<=b->(∀i,a<=i->i<b->f i=true->g i=true)->Qc f a b<=Qc g a b:=by
 intro b c
 induction b,c using zQ with
 |Ba=>simp_all [eu]
 |succ b hb ih=>
  intro h;rw [bJ f hb,bJ g hb]
  grind
theorem uD{f g h:Nat->Bool}{a:Nat}:∀{b:Nat},a<=b->(∀i,a<=i->i<b->f i=(g i||h i))->(∀i,a<=i->i<b->g i=true->h i=false)->Qc f a b=Qc g a b+Qc h a b:=by
 intro b c
 induction b,c using zQ with
 |Ba=>grind [eu]
 |succ b hb ih=>
  intro e j;rw [bJ f hb,bJ g hb,bJ h hb,ih (fun i d k=>e i d (by omega)) (fun i d k=>j i d (by omega)),e b hb (cl b)]
  grind
theorem GQ{f:Nat->Bool}{a:Nat}:∀{b:Nat},a<=b->(∀i j,a<=i->i<j->j<b->f i=true->f j=true->False)->Qc f a b<=1:=by
 intro b c
 induction b,c using zQ with
 |Ba=>grind [eu]
 |succ b hb ih=>
  intro h;rw [bJ f hb]
  cases hf:f b with
  |false=>grind
  |true=>
   have d:Qc f a b=0:=bP (fun i e g=>by
    grind)
   grind
def ly(P:Nat)(f:Nat->Bool)(q:Nat):Bool:=(List.range P).any fun i=>f (q*P+i)
theorem bU{P:Nat}{f:Nat->Bool}{q:Nat}(d:1<=P):ly P f q=true↔∃a,a/P=q/\f a=true:=by
 unfold ly;simp only [kE,bO];constructor
 ·rintro ⟨i,b,c⟩;refine ⟨q*P+i,?_,c⟩;rw [bg,gL (by omega),fe b,aP]
 ·rintro ⟨a,rfl,h⟩;refine ⟨a% P,aI _ (by omega),?_⟩
  grind [Nat.div_add_mod]
theorem mI{P:Nat}{f:Nat->Bool}{q:Nat}(b:1<=P):ly P f q=false↔∀a,a/P=q->f a=false:=by
 rw [bt,ne_eq,bU b]
 grind
theorem Aj(P:Nat)(f:Nat->Bool)(c:1<=P):∀m,Qc f 0 (m*P)<=P*Qc (ly P f) 0 m
 |0=>by rw [d8,eu];omega
 |m+1=>by
  have e:=Aj P f c m;rw [dh,bp f (ao (m*P)) (show m*P<=m*P+P by omega),bJ (ly P f) (ao m),mj];have d:=dA f (m*P) (m*P+P)
  cases h:ly P f m with
  |true=>grind
  |false=>
   rw [bP (f:=f) (a:=m*P) (b:=m*P+P) (fun i g j=>(mI c).1 h i (by
    rw [show i=P*m+(i-m*P) by grind,gL (by omega),fe (by omega),aP]))]
   omega
theorem wI(P:Nat)(f g:Nat->Bool):∀m,(∀r,r<m->g r=true->∀i,i<P->f (r*P+i)=true)->P*Qc g 0 m<=Qc f 0 (m*P)
 |0,_=>by rw [eu];omega
 |m+1,h=>by
  have d:=wI P f g m (fun r c=>h r (by omega));rw [dh,bp f (ao (m*P)) (show m*P<=m*P+P by omega),bJ g (ao m),mj]
  cases hg:g m with
  |false=>grind
  |true=>
   rw [pO (f:=f) (a:=m*P) (b:=m*P+P) (fun i e j=>by
    have:=h m (cl m) hg (i-m*P) (by omega)
    grind)]
   grind
theorem Ak(live D:Nat->Bool):∀m,Qc (fun a=>live a&&D (Qc live 0 a)) 0 m=Qc D 0 (Qc live 0 m)
 |0=>by grind [eu]
 |m+1=>by
  rw [bJ _ (ao m),bJ live (ao m),Ak live D m]
  cases h:live m with
  |false=>simp
  |true=>
   simp_all [bJ]
def lz(P:Nat)(live X:Nat->Bool):Nat->Bool:=ly P fun a=>live a&& !X (Qc live 0 a)
def pj(P N:Nat)(X:Nat->Bool):Nat->Bool:=ly P fun i=>decide (i<N)&&X i
def oH(P Q R N:Nat)(live X A:Nat->Bool):Nat:=Qc (lz P live X) 0 Q+Qc (fun r=>pj P N X r||A r) 0 R
theorem yE{P Q R N g:Nat}{live X A:Nat->Bool}(l:1<=P)(hN:Qc live 0 (Q*P)=N)(hg:g<=N):
  oH P Q R N live (fun i=>X i||decide (i<g)) A<=oH P Q R N live X A+2:=by
 obtain ⟨e,v⟩:∃e:Nat->Bool,e=fun i=>X i||decide (i<g):=⟨_,rfl⟩
 obtain ⟨D,Y⟩:∃D:Nat->Bool,D=fun i=>decide (i<g)&& !X i:=⟨_,rfl⟩
 rw [<-v];have w:∀i,e i=(X i||decide (i<g)):=fun i=>by rw [v]
 have G:∀i,D i=(decide (i<g)&& !X i):=fun i=>by rw [Y]
 unfold oH;obtain ⟨d,M⟩:∃d:Nat->Bool,d=fun r=>pj P N e r&& !(pj P N X r||A r):=⟨_,rfl⟩
 have p:∀r,d r=(pj P N e r&& !(pj P N X r||A r)):=fun r=>by rw [M]
 have Z:∀i,X i=true->e i=true:=fun i h=>by grind
 have am:∀r,pj P N X r=true->pj P N e r=true:=fun r h=>by
  obtain ⟨a,n,u⟩:=(bU l).1 h;rw [ak] at u;exact (bU l).2 ⟨a,n,by grind⟩
 have e1:Qc (fun r=>pj P N e r||A r) 0 R=Qc (fun r=>pj P N X r||A r) 0 R+Qc d 0 R:=by
  refine uD (ao R) (fun r _ _=> ?_) (fun r _ _ h=> ?_)
  ·grind
  grind
 have ad:∀q,lz P live e q=true->lz P live X q=true:=fun q h=>by
  obtain ⟨a,n,u⟩:=(bU l).1 h;rw [ak,fU] at u;refine (bU l).2 ⟨a,n,?_⟩
  grind
 obtain ⟨k,J⟩:∃k:Nat->Bool,k=fun q=>lz P live X q&& !lz P live e q:=⟨_,rfl⟩
 have x:∀q,k q=(lz P live X q&& !lz P live e q):=fun q=>by rw [J]
 have e2:Qc (lz P live X) 0 Q=Qc (lz P live e) 0 Q+Qc k 0 Q:=by
  refine uD (ao Q) (fun q _ _=> ?_) (fun q _ _ h=> ?_)
  ·grind
  grind
 obtain ⟨o,O⟩:∃o:Nat->Bool,o=ly P (fun a=>live a&&D (Qc live 0 a)):=⟨_,rfl⟩;have e3:Qc D 0 N<=P*Qc o 0 Q:=by
  grind [Ak,Aj]
 obtain ⟨t,H⟩:∃t:Nat->Bool,t=fun q=>o q&& !k q:=⟨_,rfl⟩
 have U:Qc o 0 Q<=Qc k 0 Q+1:=by
  have n:Qc o 0 Q<=Qc (fun q=>k q||t q) 0 Q:=uC (ao Q) (fun q _ _ h=>by
   grind)
  have u:Qc (fun q=>k q||t q) 0 Q=Qc k 0 Q+Qc t 0 Q:=uD (ao Q) (fun q _ _=>rfl) (fun q _ _ h=>by grind);have F:Qc t 0 Q<=1:=by
   refine GQ (ao Q) (fun i j _ ah _ L hj=> ?_);rw [H] at L hj;have s:o i=true/\k i=false:=by grind
   have z:o j=true:=by grind
   rw [O] at s z;obtain ⟨a,C,E⟩:=(bU l).1 s.1;obtain ⟨c,c1,c2⟩:=(bU l).1 z;rw [ak,G,ak,decide_eq_true_eq] at E c2;have K:lz P live X i=true:=(bU l).2 ⟨a,C,by grind⟩;have I:=s.2;rw [x,K] at I;have y:lz P live e i=true:=by grind
   obtain ⟨b,b1,T⟩:=(bU l).1 y;rw [ak,w,fU,gj,decide_eq_false_iff_not] at T
   grind [Nat.lt_or_ge,Nat.div_le_div_right,Nat.le_of_lt,it]
  omega
 have e5:P*Qc d 0 R<=Qc D 0 N+P:=by
  obtain ⟨m,hm⟩:∃m,g/P=m:=⟨_,rfl⟩;have aj:m*P<=g:=by rw [<-hm];exact ba g P
  have B:∀r,m<r->d r=false:=fun r S=>by
   rw [p]
   cases n:pj P N e r with
   |false=>rfl
   |true=>
    obtain ⟨a,C,E⟩:=(bU l).1 n;rw [ak,w,bL,decide_eq_true_eq,decide_eq_true_eq] at E;have ag:g<=a:=by
     grind [Nat.lt_or_ge,Nat.div_le_div_right]
    have u:pj P N X r=true:=(bU l).2 ⟨a,C,by
     grind⟩
    grind
  have n:Qc d 0 R<=Qc d 0 m+1:=by
   rcases aN m R with h|h
   ·rw [bp d (ao (m+1)) (show m+1<=R from h),bP (f:=d) (a:=m+1) (b:=R) (fun i q1 _=>B i q1),bJ d (ao m)]
    grind
   ·have:=it d (a:=0) h;omega
  have u:P*Qc d 0 m<=Qc D 0 (m*P):=by
   refine wI P D d m (fun r S h i L=> ?_);have al:r*P+i<m*P:=by
    have:(r+1)*P<=m*P:=aG P S
    grind
   rw [p] at h;have F:pj P N X r=false:=by
    grind
   have W:=(mI l).1 F (r*P+i) (by rw [bg,gL (by omega),fe L,aP])
   grind
  have F:=it D (a:=0) (show m*P<=N by omega);have W:P*Qc d 0 R<=P*(Qc d 0 m+1):=cg P n
  grind
 have V:P*Qc d 0 R<=P*(Qc k 0 Q+2):=by
  have n:P*Qc o 0 Q<=P*(Qc k 0 Q+1):=cg P U
  grind
 have e7:=Nat.le_of_mul_le_mul_left V (by omega);omega
def CB(B P:Nat):Nat:=max (B/P) 1
def ll(B P N k:Nat)(r:Nat):Bool:=ly P (fun i=>decide (i<N)&&decide (i/B=k)) r
theorem Ch{f:Nat->Bool}{R u v:Nat}(h:∀r,f r=true->u<=r/\r<v):Qc f 0 R<=v-u:=by
 rcases aN u R with d|d
 ·rw [bp f (ao u) (ea d),bP (f:=f) (a:=0) (b:=u) (fun i _ c=>by grind)];rcases aN v R with c|c
  ·rcases aN v u with e|e
   ·rw [bP (f:=f) (a:=u) (b:=R) (fun i g _=>by grind)];omega
   ·rw [bp f e (ea c),bP (f:=f) (a:=v) (b:=R) (fun i g _=>by grind)]
    grind [dA]
  grind [dA]
 ·rw [bP (f:=f) (a:=0) (b:=R) (fun i _ j=>by grind)];omega
theorem sd{B P N k r:Nat}(f:1<=P)(m:1<=B)(g:P∣B\/B∣P)(h:ll B P N k r=true):k*B/P<=r/\r<k*B/P+CB B P:=by
 obtain ⟨i,b,d⟩:=(bU f).1 h;rw [ak,decide_eq_true_eq,decide_eq_true_eq] at d;have e:k*B<=i:=by rw [<-d.2];exact ba i B
 have j:i<k*B+B:=by
  have a:=az i B;have l:=aI i (show 0<B by omega)
  grind
 refine ⟨by rw [<-b];exact aS e,?_⟩;unfold CB;rcases g with ⟨c,rfl⟩|⟨c,rfl⟩
 ·rw [ig c (by omega),show k*(P*c)=P*(k*c) by grind,ig _ (by omega),<-b];have a:i<P*(k*c+c):=by grind
  have:=Nat.div_lt_of_lt_mul a;omega
 ·have a:i/(B*c)=k/c:=by grind [Nat.div_div_eq_div_mul]
  grind [Nat.div_div_eq_div_mul,Nat.mul_div_cancel]
theorem Ck{B P N k R:Nat}(b:1<=P)(a:1<=B)(c:P∣B\/B∣P):Qc (ll B P N k) 0 R<=CB B P:=by
 have:=Ch (f:=ll B P N k) (R:=R) (u:=k*B/P) (v:=k*B/P+CB B P) (fun r h=>sd b a c h);omega
theorem tH(f g:Nat->Bool):∀R,Qc (fun r=>f r||g r) 0 R<=Qc f 0 R+Qc g 0 R
 |0=>by rw [eu];omega
 |R+1=>by
  have:=tH f g R;rw [bJ _ (ao R),bJ f (ao R),bJ g (ao R)]
  grind
theorem BX{P Q R N B:Nat}{live A:Nat->Bool}{X:Nat->Bool}{mv:Nat->Bool}(b:1<=P)(o:1<=B)(p:P∣B\/B∣P)(f:Nat):∀n,f<=n->
  oH P Q R N live (fun i=>X i||(decide (f<=i/B)&&decide (i/B<n)&&mv (i/B))) A<=oH P Q R N live X A+CB B P*Qc mv f n:=by
 intro n e
 induction n,e using zQ with
 |Ba=>
  have:(fun i=>X i||(decide (f<=i/B)&&decide (i/B<f)&&mv (i/B)))=X:=by
   funext i;have:(decide (f<=i/B)&&decide (i/B<f))=false:=by
    grind
   grind
  grind
 |succ n e ih=>
  rw [bJ mv e,mj];have s:∀i,(X i||(decide (f<=i/B)&&decide (i/B<n+1)&&mv (i/B)))=((X i||(decide (f<=i/B)&&decide (i/B<n)&&mv (i/B)))||(decide (i/B=n)&&mv n)):=fun i=>by
   grind
  cases hm:mv n with
  |false=>
   grind
  |true=>
   simp only [if_true,fu];obtain ⟨Y,j⟩:∃Y:Nat->Bool,Y=(fun i=>X i||(decide (f<=i/B)&&decide (i/B<n)&&mv (i/B))):=⟨_,rfl⟩;have k:(fun i=>X i||(decide (f<=i/B)&&decide (i/B<n+1)&&mv (i/B)))=fun i=>Y i||decide (i/B=n):=by
    grind
   rw [k];rw [<-j] at ih;have l:Qc (lz P live (fun i=>Y i||decide (i/B=n))) 0 Q<=Qc (lz P live Y) 0 Q:=uC (ao Q) (fun q _ _ h=>by
    obtain ⟨a,c,d⟩:=(bU b).1 h;rw [ak,fU,gj] at d;exact (bU b).2 ⟨a,c,by grind⟩)
   have m:Qc (fun r=>pj P N (fun i=>Y i||decide (i/B=n)) r||A r) 0 R<=Qc (fun r=>(pj P N Y r||A r)||ll B P N n r) 0 R:=uC (ao R) (fun r _ _ h=>by
    rw [bL] at h;rcases h with h|h
    ·obtain ⟨a,c,d⟩:=(bU b).1 h;rw [ak,bL] at d;rcases d.2 with g|g
     ·have:pj P N Y r=true:=(bU b).2 ⟨a,c,by grind⟩
      grind
     ·have:ll B P N n r=true:=(bU b).2 ⟨a,c,by grind⟩
      grind
    grind)
   have g:Qc (fun r=>(pj P N Y r||A r)||ll B P N n r) 0 R<=Qc (fun r=>pj P N Y r||A r) 0 R+Qc (ll B P N n) 0 R:=tH _ _ R
   grind [Ck,oH]
structure Cy where
 y:Nat
 m:Nat
 from_:Nat
 top:Nat
 Qe:Nat
 Lm:Nat
 B:Nat
 stack:Nat
 Ah:Nat
 pl:Nat
 EL:bT
 mv:Nat
 nb:Nat
 wb:Nat
 sb:Nat
 lo:Nat
 hi:Nat
def Cy.cells(c:Cy)(left fr ah:Nat):List Value:=[c.m,((c.from_:Int):Int),((c.top:Int):Int),((c.Qe:Int):Int),((c.Lm:Int):Int),((c.B:Int):Int),((c.stack:Int):Int),((c.Ah:Int):Int),c.pl,c.EL.m,.slice (some c.mv) c.nb c.nb,(left:Int),(fr:Int),(ah:Int),.map (some c.wb),.map (some c.sb)]
def CF(w:World)(c:Cy)(left fr ah:Nat):Prop:=ay w c.y (c.cells left fr ah) 177
section
variable{w:World}{c:Cy}{left fr ah:Nat}
theorem AX(h:CF w c left fr ah):Calls prog 120 #[c.y] w fun e w'=>e= .returned (left:Int)/\w=w':=by
 have a:=h.cell 11 rfl;clear h
 go_enter func120,ntmps120
 go_wp2;go_ret;exact ⟨rfl,rfl⟩
theorem vm(h:CF w c left fr ah):Calls prog 67 #[c.y] w fun e w'=>e= .returned (.int .i64 (c.nb:Int))/\w=w':=by
 have a:=h.cell 10 rfl;clear h
 go_enter func67,ntmps67
 go_wp2;go_ret;exact ⟨rfl,rfl⟩
theorem AZ(h:CF w c left fr ah):Calls prog 66 #[c.y] w fun e w'=>e= .returned (.bool (decide (left=0)))/\w=w':=by
 have b:=ae (AX h);have d:((left:Int)==0)=decide (left=0):=by
  by_cases a:left=0
  ·subst a;rfl
  ·rw [decide_eq_false a,beq_eq_false_iff_ne];omega
 clear h
 go_enter func66,ntmps66
 go_wp2_with fail
 refine b.out.mono ?_;rintro e w' ⟨rfl,rfl⟩;go_wp2;go_ret;exact ⟨rfl,rfl⟩
variable{E:Nat->Nat}{W:Nat}
theorem CS(h:CF w c left fr ah)(hp:fS c.lo c.hi w c.pl W c.B E c.Qe)(g:c.Qe<=1048576):Calls prog 64 #[c.y] w fun e w'=>e= .returned (.int .i64 ((c.Qe+Qc (aw E) 0 W:Nat):Int))/\J7 w w':=by
 have b:=ae (jp hp);have d:=ae (fun p (h:gX c.lo c.hi w p W c.B E c.Qe)=>kw h g);have i:=h.cell 8 rfl;clear h hp
 go_enter func64,ntmps64
 go_wp2_with fail
 refine b.out.mono ?_;rintro e w' ⟨⟨p,rfl,f⟩,rfl⟩;have a:=ae (d.out p f);clear f d b;go_wp2_with fail
 refine a.out.mono ?_;rintro e w' ⟨rfl,hf⟩;have H:=ae hf;clear hf a;go_wp2;go_ret;exact ⟨rfl,H.out⟩
theorem zw(h:CF w c left fr ah)(hp:fS c.lo c.hi w c.pl W c.B E c.Qe)(k:c.Qe<=1048576)(a:Nat)(j:aw E a=true)(d:a<W):Calls prog 116 #[c.y,(a:Int)] w fun e w'=>e= .returned (.int .i64 ((goes E c.Qe a:Nat):Int))/\J7 w w':=by
 have f:=ae (jp hp);have g:=ae (fun p (h:gX c.lo c.hi w p W c.B E c.Qe)=>uA h k a j d);have l:=h.cell 8 rfl;clear h hp;generalize goes E c.Qe a=Y at*
 go_enter func116,ntmps116
 go_wp2_with fail
 refine f.out.mono ?_;rintro e w' ⟨⟨p,rfl,i⟩,rfl⟩;have b:=ae (g.out p i);clear i g f;go_wp2_with fail
 refine b.out.mono ?_;rintro e w' ⟨rfl,hf⟩;have H:=ae hf;clear hf b;go_wp2;go_ret;exact ⟨rfl,H.out⟩
theorem t8(p f g:Nat)(a:dD p f g)(i:Nat)(j:i<1048576)(w:World):Calls prog 244 #[ft p f g,(i:Int)] w fun e w'=>e= .returned (.bool (decide (1<=i/\i<=p)))/\J7 w w':=by
 have b:=ae (fun w1=>pG p f g ((i:Int)-1) a w1);have k:(fP p f g ((i:Int)-1)==1)=decide (1<=i/\i<=p):=by
  unfold fP;rw [fO,if_pos a];by_cases d:1<=i/\i<=p
  ·rw [if_neg (by omega),if_pos (by omega),decide_eq_true d];rfl
  ·rw [decide_eq_false d];split
   ·rfl
   ·rw [if_neg (by omega)];split<;>rfl
 have l:IntKind.i64.wrap ((i:Int)-1)=(i:Int)-1:=by rw [IntKind.wrap_i64];omega
 unfold jn ft at*;generalize fP p f g ((i:Int)-1)=K at*;generalize decide (1<=i/\i<=p)=D at*;clear a j
 go_enter func244,ntmps244
 go_wp2_with fail
 refine (b.out _).mono ?_;rintro e w1 ⟨rfl,hf⟩;have H:=ae hf;clear hf b;go_wp2;go_ret;exact ⟨by rw [<-k];rfl,((Kb _ w).alloc _).trans H.out J8⟩
end
section
variable{w:World}{c:Cy}{left fr ah:Nat}{E:Nat->Nat}{Pg W Fs Us Hg:Nat}{S:Nat->Prop}{mp:Nat->Bool}{M:Nat->Nat}
def Cq(w:World)(x:Nat)(e:Ending)(w':World):Prop:=e= .returned (.int .u64 x)/\J7 w w'
theorem vc(h:CF w c left fr ah)(hp:fS c.lo c.hi w c.pl W c.B E c.Qe)(hb:c.Qe<=1048576)(V:dQ w c.m S Pg W Fs Us Hg mp M)(a s p f g:Nat)(hs:s<=a)(ha:a<W)(Q:mp (a/Pg)=true)(ho:dD p f g)
  (z:1<=a-s->a-s<=p->M a≠0->aw E (M a)=true/\M a<W) (hM:M a<18446744073709551616):
  Calls prog 232 #[c.y,(a:Int),(s:Int),ft p f g] w (Cq w (oF M (goes E c.Qe) s p (a-s))):=by
 have ag:=V.at.2.2.1;have ad:s+(a-s)=a:=by omega
 have L:∀o,J7 w (w.alloc o):=fun o=>(Kb _ w).alloc o
 obtain ⟨W1,N⟩:∃W1,w.alloc (.cells #[(p:Int),(f:Int),(g:Int)] 32)=W1:=⟨_,rfl⟩;have q:J7 w W1:=by rw [<-N];exact L _
 have n:ay W1 w.heap.size [(p:Int),(f:Int),(g:Int)] 32:=by rw [<-N];exact ay.new w _ _
 have c0:=(h.frame q id).cell 0 rfl;have HL:=ae (jB (V.Qb q) a ha Q);have HP:=ae (fun w1=>t8 p f g ho (a-s) (by omega) w1);have HT:=ae (fun (w1:World) (hf:J7 w w1) (i:1<=a-s/\a-s<=p) (u:M a≠0)=>zw (h.frame hf id) (hp.Qb hf) hb (M a) (z i.1 i.2 u).1 (z i.1 i.2 u).2);have v:(1<=a-s/\a-s<=p)->M a≠0->M a<=1048576:=fun i u=>by have:=(z i.1 i.2 u).2;omega
 have F:goes E c.Qe (M a)<=2097152\/¬(M a<=1048576):=by
  by_cases hx:M a<=1048576
  ·left;have:=fM (aw E) (M a);unfold goes;omega
  ·exact .inr hx
 have P:oF M (goes E c.Qe) s p (a-s)=if (1<=a-s/\a-s<=p)/\M a≠0 then goes E c.Qe (M a) else M a:=by
  unfold oF;rw [ad];by_cases i:(1<=a-s/\a-s<=p)/\M a≠0
  ·rw [if_pos i,if_pos ⟨i.1.1,i.1.2,i.2⟩]
  ·rw [if_neg i,if_neg (fun h=>i ⟨⟨h.1,h.2.1⟩,h.2.2⟩)]
 have hi:(a:Int)-(s:Int)=((a-s:Nat):Int):=by omega
 rw [P];generalize goes E c.Qe (M a)=Y at*;have R:Hid (∀w',J7 W1 w'->J7 w w'):=by
  show∀w',_
  exact fun w' h=>q.trans h J8
 have G:=ae n;have T:=ae q;obtain ⟨k0,k1,k2,_⟩:=Kf n;clear h hp hb V z Q ho L n q P;unfold ft Cq at*;generalize a-s=D at*;generalize M a=X at*;obtain ⟨Z,U⟩:∃Z,Z=if (1<=D/\D<=p)/\X≠0 then Y else X:=⟨_,rfl⟩
 rw [<-U];have K:=ae U;clear U
 go_enter func232,ntmps232
 go_wp2_with fail
 refine HL.out.mono ?_;rintro e w2 ⟨rfl,r⟩;have x:=G.out.frame r id;obtain ⟨k0,k1,k2,_⟩:=Kf x;have A:=ae (R.out w2 r);have d:=ae (HP.out w2);have t:=ae (fun w3 (hf:J7 w2 w3)=>HT.out w3 (R.out w3 (r.trans hf J8)));have k:=ae (fun w3 (hf:J7 w2 w3)=>R.out w3 (r.trans hf J8));clear HL G T x R HP HT c0 r;by_cases u:X=0
 ·subst u;have l:=ae (K.out.trans (if_neg (fun h=>h.2 rfl)));clear d t k v F;go_wp2;go_ret;rw [l.out];exact ⟨rfl,A.out⟩
 ·have ak:¬((X:Nat):Int)=0:=by omega
  by_cases b:1<=D/\D<=p
  ·have aj:=v b u;have hY:Y<=2097152:=by omega
   have al:IntKind.i64.wrap ((X:Nat):Int)=((X:Nat):Int):=by rw [IntKind.wrap_i64];omega
   have am:IntKind.u64.wrap ((Y:Nat):Int)=((Y:Nat):Int):=by rw [IntKind.wrap_u64];omega
   have I:=ae (fun w3 hf=>t.out w3 hf b u);rw [decide_eq_true b] at d;have l:=ae (K.out.trans (if_pos ⟨b,u⟩));clear t A v F K;go_wp2_with fail
   refine d.out.mono ?_;rintro e w3 ⟨rfl,j⟩;have J:=ae (I.out w3 j);have H:=ae (fun w4 (hf:J7 w3 w4)=>k.out w4 (j.trans hf J8));clear j d I k k0 k1 k2;go_wp2_with fail
   refine J.out.mono ?_;rintro e w4 ⟨rfl,O⟩;have C:=ae (H.out w4 O);clear O J H;go_wp2;go_ret;rw [l.out];exact ⟨rfl,C.out⟩
  ·rw [decide_eq_false b] at d;have l:=ae (K.out.trans (if_neg (fun h=>b h.1)));clear t A v F K;go_wp2_with fail
   refine d.out.mono ?_;rintro e w3 ⟨rfl,j⟩;have C:=ae (k.out w3 j);clear j d k k0 k1 k2;go_wp2;go_ret;rw [l.out];exact ⟨rfl,C.out⟩
end
def cO(E:Nat->Nat)(a:Nat):Nat:=((List.range (a+1)).find? (fun s=>decide (a<s+E s))).getD 0
theorem fK{E:Nat->Nat}{a:Nat}(h:aw E a=true):cO E a<=a/\a<cO E a+E (cO E a):=by
 unfold cO
 cases hf:(List.range (a+1)).find? (fun s=>decide (a<s+E s)) with
 |none=>
  grind [cE]
 |some s=>
  grind
theorem ul{E:Nat->Nat}(d:iG E){a s:Nat}(b:s<=a)(c:a<s+E s):cO E a=s:=by
 have h:=fK (cE.2 ⟨s,b,c⟩);exact d.owner h.1 h.2 b c
def oY(E hp M F:Nat->Nat)(a:Nat):Nat:=oF M F (cO E a) (hp (cO E a)) (a-cO E a)
theorem jw{E hp M b F:Nat->Nat}{a:Nat}(h:aw E a=true)(e:b a=M a):oY E hp b F a=oY E hp M F a:=by
 grind [fK,oY,oF]
def ec(E:Nat->Nat)(a:Nat):Nat:=Qc (aw E) 0 a
theorem kf{E:Nat->Nat}{a W:Nat}(h:aw E a=true)(b:a<W):ec E a<Qc (aw E) 0 W:=pP (ao a) b h
theorem yi{E:Nat->Nat}{W i:Nat}(h:i<Qc (aw E) 0 W):∃a,a<W/\aw E a=true/\ec E a=i:=
 let ⟨a,_,b,c,d⟩:=uq (aw E) 0 W i h;⟨a,b,c,d⟩
theorem ux{E:Nat->Nat}{a b:Nat}(c:aw E a=true)(d:aw E b=true)(h:ec E a=ec E b):a=b:=rp (ao _) (ao _) c d h
theorem wt(E:Nat->Nat)(Ba a:Nat):goes E Ba a=Ba+ec E a:=rfl
structure dE where
 E:Nat->Nat
 hp:Nat->Nat
 Qe:Nat
 W:Nat
 P:Nat
 B:Nat
 R:Nat
 Ah:Nat
def dE.N(s:dE):Nat:=Qc (aw s.E) 0 s.W
def dE.F(s:dE):Nat->Nat:=goes s.E s.Qe
def dE.nb(s:dE):Nat:=oZ s.N s.B
def df(B:Nat)(mvd:Nat->Bool):Nat->Bool:=fun i=>mvd (i/B)
def mY(s:dE)(top:Nat)(r:Nat):Bool:=ly s.P (fun i=>decide (s.N<=i)&&decide (s.Qe+i<top)) r
def ii(s:dE)(mvd:Nat->Bool)(top q:Nat):Bool:=decide (s.Qe/s.P<=q)&&decide (q<s.Qe/s.P+s.R)&&(pj s.P s.N (df s.B mvd) (q-s.Qe/s.P)||mY s top (q-s.Qe/s.P))
structure fD(s:dE):Prop where
 apart:iG s.E
 P1:1<=s.P
 B1:1<=s.B
 div:s.P∣s.B\/s.B∣s.P
 W1:s.W% s.P=0
 W2:s.W<=524288
 to1:s.Qe% s.P=0
 to2:s.Qe+s.R*s.P<=s.W
 N2:s.N<=s.R*s.P
 from_:∀a,aw s.E a=true->a<s.W/\(a<s.Qe\/s.Qe+s.R*s.P<=a)
structure mW(s:dE)(L M:Nat->Nat)(mp:Nat->Bool)(mvd:Nat->Bool)(fr ah left top:Nat):Prop where
 Yh:∀a,a<s.W->aw s.E a=true->mvd (ec s.E a/s.B)=true->M (s.F a)=L (s.F a)
 still:∀a,a<s.W->aw s.E a=true->mvd (ec s.E a/s.B)=false->oY s.E s.hp M s.F a=L (s.F a)
 Qr:∀a,a<s.W->aw s.E a=true->mvd (ec s.E a/s.B)=false->1<=a-cO s.E a->a-cO s.E a<=s.hp (cO s.E a)->M a≠0->aw s.E (M a)=true/\M a<s.W
 small:∀a,a<s.W->aw s.E a=true->mvd (ec s.E a/s.B)=false->M a<18446744073709551616
 behind:∀k,s.Qe+s.N<=k->k<top->M k=L k
 Qx:∀q,q<s.W/s.P->mp q=(lz s.P (aw s.E) (df s.B mvd) q||ii s mvd top q)
 front:(∀k,k<fr->mvd k=true)/\fr<=s.nb/\(fr<s.nb->mvd fr=false)
 far:∀k,s.nb<=k->mvd k=false
 Ah:ah=Qc mvd fr s.nb/\ah<=s.Ah
 left:left+Qc mvd 0 s.nb=s.nb
 Rm:∃X,(∀k,X k=true->mvd k=true)/\oH s.P (s.W/s.P) s.R s.N (aw s.E) (df s.B X) (mY s top)<=s.R
section
variable{s:dE}{L M:Nat->Nat}{mp:Nat->Bool}{mvd:Nat->Bool}{fr ah left top:Nat}
theorem fD.toq(a:fD s):s.Qe=s.Qe/s.P*s.P:=by have:=az s.Qe s.P;have:=a.to1;grind
theorem fD.Wq(a:fD s):s.W=s.W/s.P*s.P:=by have:=az s.W s.P;have:=a.W1;grind
theorem lY{P q i a:Nat}(c:1<=P)(h:a=q*P+i)(b:i<P):a/P=q:=by
 rw [h,bg,gL (by omega),fe b,aP]
theorem yS{P t r:Nat}(a:1<=P)(i:Nat)(h:t=r*P):(t+i)/P=r+i/P:=by
 rw [h,bg,gL (by omega)]
theorem AT(b:fD s){a:Nat}(c:aw s.E a=true):ii s mvd top (a/s.P)=false:=by
 have e:=b.P1;have f:=b.toq;have d:=(b.from_ a c).2
 grind [ii,Nat.div_lt_iff_lt_mul,Nat.le_div_iff_mul_le]
theorem rk(c:fD s)(d:∀q,q<s.W/s.P->mp q=(lz s.P (aw s.E) (df s.B mvd) q||ii s mvd top q)):Qc mp 0 (s.W/s.P)=oH s.P (s.W/s.P) s.R s.N (aw s.E) (df s.B mvd) (mY s top):=by
 have l:=c.P1;have p:=c.toq;have x:=c.Wq;have m:s.Qe/s.P+s.R<=s.W/s.P:=by
  have k:=c.to2;rw [cA (by omega),jd,<-p];exact k
 obtain ⟨g,hg⟩:∃g:Nat->Bool,g=fun r=>pj s.P s.N (df s.B mvd) r||mY s top r:=⟨_,rfl⟩
 have h:Qc mp 0 (s.W/s.P)=Qc (lz s.P (aw s.E) (df s.B mvd)) 0 (s.W/s.P)+Qc (fun q=>decide (s.Qe/s.P<=q)&&decide (q<s.Qe/s.P+s.R)&&g (q-s.Qe/s.P)) 0 (s.W/s.P):=by
  refine uD (ao _) (fun q _ e=> ?_) (fun q _ _ hf=> ?_)
  ·rw [d q e,hg];rfl
  ·obtain ⟨a,t,f⟩:=(bU l).1 hf;rw [ak] at f;have u:=(c.from_ a f.1).2
   grind [Nat.div_lt_iff_lt_mul,Nat.le_div_iff_mul_le]
 have j:Qc (fun q=>decide (s.Qe/s.P<=q)&&decide (q<s.Qe/s.P+s.R)&&g (q-s.Qe/s.P)) 0 (s.W/s.P)=Qc g 0 s.R:=by
  rw [bp _ (ao (s.Qe/s.P)) (show s.Qe/s.P<=s.W/s.P by omega),bp _ (show s.Qe/s.P<=s.Qe/s.P+s.R by omega) m,
   bP (a:=0) (b:=s.Qe/s.P) (fun i _ o=>by grind),
   bP (a:=s.Qe/s.P+s.R) (b:=s.W/s.P) (fun i o _=>by grind),bq,aP]
  have v:∀n,n<=s.R->Qc (fun q=>decide (s.Qe/s.P<=q)&&decide (q<s.Qe/s.P+s.R)&&g (q-s.Qe/s.P)) (s.Qe/s.P) (s.Qe/s.P+n)=Qc g 0 n:=by
   intro n
   induction n with
   |zero=>intro _;rw [aP,eu,eu]
   |succ n ih=>
    intro w;rw [<-cv,bJ _ (by omega),bJ g (ao n),ih (by omega),decide_eq_true (show s.Qe/s.P<=s.Qe/s.P+n by omega),decide_eq_true (show s.Qe/s.P+n<s.Qe/s.P+s.R by omega),show s.Qe/s.P+n-s.Qe/s.P=n by omega];rfl
  grind
 rw [h,j,hg];rfl
theorem mW.Us(a:fD s)(h:mW s L M mp mvd fr ah left top):Qc mp 0 (s.W/s.P)=oH s.P (s.W/s.P) s.R s.N (aw s.E) (df s.B mvd) (mY s top):=rk a h.Qx
theorem mW.bound(c:fD s)(h:mW s L M mp mvd fr ah left top):Qc mp 0 (s.W/s.P)<=s.R+2+CB s.B s.P*ah:=by
 obtain ⟨X,w,z⟩:=h.Rm;rw [h.Us c];have d:=c.P1;have n:=c.B1;obtain ⟨t,k,u⟩:=h.front;have f:=h.far;have o:Qc (aw s.E) 0 (s.W/s.P*s.P)=s.N:=by rw [<-c.Wq];rfl
 have v:=yE (P:=s.P) (Q:=s.W/s.P) (R:=s.R) (N:=s.N) (g:=min (fr*s.B) s.N) (live:=aw s.E) (X:=df s.B X) (A:=mY s top) d o (pZ _ _);have l:=BX (P:=s.P) (Q:=s.W/s.P) (R:=s.R) (N:=s.N) (B:=s.B) (live:=aw s.E) (A:=mY s top) (X:=fun i=>df s.B X i||decide (i<min (fr*s.B) s.N)) (mv:=mvd) d n c.div fr s.nb k;have m:oH s.P (s.W/s.P) s.R s.N (aw s.E) (df s.B mvd) (mY s top)=oH s.P (s.W/s.P) s.R s.N (aw s.E) (fun i=>(df s.B X i||decide (i<min (fr*s.B) s.N))||(decide (fr<=i/s.B)&&decide (i/s.B<s.nb)&&mvd (i/s.B))) (mY s top):=by
  have j:∀i,i<s.N->df s.B mvd i=((df s.B X i||decide (i<min (fr*s.B) s.N))||(decide (fr<=i/s.B)&&decide (i/s.B<s.nb)&&mvd (i/s.B))):=by
   intro i y;unfold df
   cases hm:mvd (i/s.B) with
   |true=>
    grind [Nat.div_lt_iff_lt_mul]
   |false=>
    have C:X (i/s.B)=false:=by
     grind
    grind [Nat.div_lt_iff_lt_mul]
  unfold oH;congr 1
  ·refine bY (fun q _ p=> ?_);rw [bM];unfold lz;rw [bU d,bU d];constructor
   ·rintro ⟨a,e,b⟩;refine ⟨a,e,?_⟩;rw [ak] at b ⊢;have:=kf b.1 (c.from_ a b.1).1;exact ⟨b.1,(congrArg (fun x=> !x) (j _ this).symm).trans b.2⟩
   ·rintro ⟨a,e,b⟩;refine ⟨a,e,?_⟩;rw [ak] at b ⊢;have:=kf b.1 (c.from_ a b.1).1;exact ⟨b.1,(congrArg (fun x=> !x) (j _ this)).trans b.2⟩
  ·refine bY (fun r _ _=> ?_);congr 1
   rw [bM];unfold pj
   grind
 rw [m];rw [<-h.Ah.1] at l;omega
end
def Cy.has(c:Cy)(k:Nat):Prop:=k=c.y\/k=c.mv\/k=c.wb\/k=c.sb\/c.EL.has k\/(c.lo<=k/\k<c.hi)
structure JZ(c:Cy):Prop where
 y:c.y≠c.mv/\c.y≠c.wb/\c.y≠c.sb/\¬c.EL.has c.y/\¬(c.lo<=c.y/\c.y<c.hi)/\c.y≠ch
 mv:c.mv≠c.wb/\c.mv≠c.sb/\¬c.EL.has c.mv/\¬(c.lo<=c.mv/\c.mv<c.hi)/\c.mv≠ch
 wb:c.wb≠c.sb/\¬c.EL.has c.wb/\¬(c.lo<=c.wb/\c.wb<c.hi)/\c.wb≠ch
def Ao(l:List Bool):List Value:=l.map fun x=>Value.bool x
structure jO(c:Cy)(s:dE)(hf hg:Nat->Nat)(Fs Us Hg:Nat)(Sm:Nat->Prop)(mp:Nat->Bool)(M:Nat->Nat)(Mv:List Bool)(fw:Nat->Option Nat)(n left fr ah:Nat)(w:World):Prop where
 Qd:CF w c left fr ah
 mem:dQ w c.m Sm s.P s.W Fs Us Hg mp M
 Xh:fS c.lo c.hi w c.pl s.W c.B s.E c.Qe
 ext:eo w c.EL s.W s.E
 Qo:ee w
 mv:ay w c.mv (Ao Mv) 4
 wds:gE w c.wb n fw
 shp:∃ns f,iz w c.sb ns f/\∀a,s.E a≠0->uz (f a)=(s.hp a,hf a,hg a)
 hib:c.hi<=w.heap.size
 dm:∀k,Sm k->¬c.has k/\k≠ch
 d:JZ c
 B:c.B=s.B
 Qe:c.Qe=s.Qe
 len:Mv.length=c.nb
section
variable{c:Cy}{s:dE}{hf hg:Nat->Nat}{Fs Us Hg used' Hg':Nat}{Sm Sm':Nat->Prop}{mp mp':Nat->Bool}{M M':Nat->Nat}{Mv mvl':List Bool}{fw fw':Nat->Option Nat}{n n' left fr ah left' fr' ah':Nat}{w w':World}
theorem jO.lt(h:jO c s hf hg Fs Us Hg Sm mp M Mv fw n left fr ah w):∀k,c.has k->k<w.heap.size:=by
 intro k a;obtain ⟨ns,f,b,_⟩:=h.shp;rcases a with rfl|rfl|rfl|rfl|a|a
 ·exact h.Qd.lt
 ·exact h.mv.lt
 ·exact h.wds.lt
 ·exact b.lt
 ·exact h.ext.lt k a
 ·have:=h.hib;omega
theorem jO.Xu(h:jO c s hf hg Fs Us Hg Sm mp M Mv fw n left fr ah w):ch<w.heap.size:=bu (h.Qo 0 0 rfl)
theorem jO.frame{T:Nat->Prop}(h:jO c s hf hg Fs Us Hg Sm mp M Mv fw n left fr ah w)(a:Fr T w w')(b:∀k,c.has k->¬T k)(e:∀k,Sm k->¬T k)(g:¬T ch):jO c s hf hg Fs Us Hg Sm mp M Mv fw n left fr ah w':=by
 obtain ⟨ns,f,o,p⟩:=h.shp;exact ⟨h.Qd.frame a (b _ (.inl rfl)),h.mem.frame a e,h.Xh.frame a (fun i j=>by
   by_cases m:c.lo<=i/\i<c.hi
   ·exact absurd j (b i (.inr (.inr (.inr (.inr (.inr m))))))
   ·omega),h.ext.frame a (fun k l=>b k (.inr (.inr (.inr (.inr (.inl l)))))),aE h.Qo a g,h.mv.frame a (b _ (.inr (.inl rfl))),h.wds.frame a (b _ (.inr (.inr (.inl rfl)))),⟨ns,f,o.frame a (b _ (.inr (.inr (.inr (.inl rfl))))),p⟩,
  by have:=h.hib;have:=a.size;omega,h.dm,h.d,h.B,h.Qe,h.len⟩
theorem jO.Fh(h:jO c s hf hg Fs Us Hg Sm mp M Mv fw n left fr ah w)(a:J7 w w'):jO c s hf hg Fs Us Hg Sm mp M Mv fw n left fr ah w':=h.frame a (fun _ _ h=>h) (fun _ _ h=>h) id
theorem jO.mem_(h:jO c s hf hg Fs Us Hg Sm mp M Mv fw n left fr ah w)(q:dQ w' c.m Sm' s.P s.W Fs used' Hg' mp' M')(a:Fr Sm w w')(j:∀k,Sm' k->Sm k\/w.heap.size<=k):jO c s hf hg Fs used' Hg' Sm' mp' M' Mv fw n left fr ah w':=by
 obtain ⟨ns,f,u,v⟩:=h.shp;have b:∀k,c.has k->¬Sm k:=fun k g j=>(h.dm k j).1 g
 have r:¬Sm ch:=fun j=>(h.dm _ j).2 rfl
 exact ⟨h.Qd.frame a (b _ (.inl rfl)),q,h.Xh.frame a (fun i p=>by
   by_cases t:c.lo<=i/\i<c.hi
   ·exact absurd p (b i (.inr (.inr (.inr (.inr (.inr t))))))
   ·omega),h.ext.frame a (fun k g=>b k (.inr (.inr (.inr (.inr (.inl g)))))),aE h.Qo a r,h.mv.frame a (b _ (.inr (.inl rfl))),h.wds.frame a (b _ (.inr (.inr (.inl rfl)))),⟨ns,f,u.frame a (b _ (.inr (.inr (.inr (.inl rfl))))),v⟩,
  by have:=h.hib;have:=a.size;omega,fun k g=>by
   rcases j k g with l|l
   ·grind
   ·exact ⟨fun o=>by have:=h.lt k o;omega,fun e=>by have:=h.Xu;omega⟩,h.d,h.B,h.Qe,h.len⟩
theorem jO.y_(h:jO c s hf hg Fs Us Hg Sm mp M Mv fw n left fr ah w)(p:CF w' c left' fr' ah')(a:Fr (fun k=>k=c.y) w w'):jO c s hf hg Fs Us Hg Sm mp M Mv fw n left' fr' ah' w':=by
 obtain ⟨ns,f,q,r⟩:=h.shp;obtain ⟨g,j,l,m,t,o⟩:=h.d.y;exact ⟨p,h.mem.frame a (fun k b e=>(h.dm k b).1 (.inl e)),h.Xh.frame a (fun i u=>by omega),h.ext.frame a (fun k b e=>m (e▸b)),aE h.Qo a (Ne.symm o),h.mv.frame a (Ne.symm g),h.wds.frame a (Ne.symm j),⟨ns,f,q.frame a (Ne.symm l),r⟩,
  by have:=h.hib;have:=a.size;omega,h.dm,h.d,h.B,h.Qe,h.len⟩
theorem jO.mv_(h:jO c s hf hg Fs Us Hg Sm mp M Mv fw n left fr ah w)(p:ay w' c.mv (Ao mvl') 4)(q:mvl'.length=c.nb)(a:Fr (fun k=>k=c.mv) w w'):jO c s hf hg Fs Us Hg Sm mp M mvl' fw n left fr ah w':=by
 obtain ⟨ns,f,r,t⟩:=h.shp;obtain ⟨g,u,v,x,z,A⟩:=h.d.y;obtain ⟨j,l,m,C,o⟩:=h.d.mv;exact ⟨h.Qd.frame a g,h.mem.frame a (fun k b e=>(h.dm k b).1 (.inr (.inl e))),h.Xh.frame a (fun i D=>by omega),h.ext.frame a (fun k b e=>m (e▸b)),aE h.Qo a (Ne.symm o),p,h.wds.frame a (Ne.symm j),⟨ns,f,r.frame a (Ne.symm l),t⟩,
  by have:=h.hib;have:=a.size;omega,h.dm,h.d,h.B,h.Qe,q⟩
theorem jO.wb_(h:jO c s hf hg Fs Us Hg Sm mp M Mv fw n left fr ah w)(p:gE w' c.wb n' fw')(a:Fr (fun k=>k=c.wb) w w'):jO c s hf hg Fs Us Hg Sm mp M Mv fw' n' left fr ah w':=by
 obtain ⟨ns,f,q,r⟩:=h.shp;obtain ⟨t,g,u,v,x,z⟩:=h.d.y;obtain ⟨j,A,C,D,E⟩:=h.d.mv;obtain ⟨l,m,F,o⟩:=h.d.wb;exact ⟨h.Qd.frame a g,h.mem.frame a (fun k b e=>(h.dm k b).1 (.inr (.inr (.inl e)))),h.Xh.frame a (fun i G=>by omega),h.ext.frame a (fun k b e=>m (e▸b)),aE h.Qo a (Ne.symm o),h.mv.frame a j,p,⟨ns,f,q.frame a (Ne.symm l),r⟩,
  by have:=h.hib;have:=a.size;omega,h.dm,h.d,h.B,h.Qe,h.len⟩
theorem mR{l:List Bool}{k:Nat}(h:k<l.length):(Ao l)[k]? =some (.bool (l.getD k false)):=by
 grind [Ao]
end
def qF(s:dE)(X:Nat->Bool)(q:Nat):Nat:=Qc (fun a=>aw s.E a&& !X (ec s.E a)) (q*s.P) (q*s.P+s.P)
theorem qE{s:dE}(b:1<=s.P)(X:Nat->Bool)(q:Nat):qF s X q≠0↔lz s.P (aw s.E) X q=true:=by
 unfold lz;constructor
 ·intro h
  cases hf:ly s.P (fun a=>aw s.E a&& !X (Qc (aw s.E) 0 a)) q with
  |true=>rfl
  |false=>
   refine absurd (bP (fun i c d=> ?_)) h;exact (mI b).1 hf i (lY (i:=i-q*s.P) b (by omega) (by omega))
 ·intro h;obtain ⟨a,e,g⟩:=(bU b).1 h;have c:q*s.P<=a:=by rw [<-e];exact ba a s.P
  have d:a<q*s.P+s.P:=by
   have j:=az a s.P;have:=aI a (show 0<s.P by omega)
   grind
  have:=pP (f:=fun a=>aw s.E a&& !X (ec s.E a)) c d g;unfold qF;omega
theorem vB{s:dE}(h:1<=s.P){X:Nat->Bool}{a:Nat}(k:aw s.E a=true)(o:X (ec s.E a)=false)(q:Nat):
  qF s X q=qF s (fun j=>X j||decide (j=ec s.E a)) q+(if q=a/s.P then 1 else 0):=by
 have l:∀i,i≠a->(aw s.E i&& !(X (ec s.E i)||decide (ec s.E i=ec s.E a)))=(aw s.E i&& !X (ec s.E i)):=fun i b=>by
  cases hl:aw s.E i with
  |false=>rfl
  |true=>
   rw [decide_eq_false (fun e=>b (ux hl k e)),fN]
 unfold qF;by_cases e:q=a/s.P
 ·rw [if_pos e];have c:q*s.P<=a:=by rw [e];exact ba a s.P
  have g:a<q*s.P+s.P:=by
   have m:=az a s.P;have:=aI a (show 0<s.P by omega)
   grind
  have n:∀f:Nat->Bool,Qc f (q*s.P) (q*s.P+s.P)=Qc f (q*s.P) a+(if f a then 1 else 0)+Qc f (a+1) (q*s.P+s.P):=fun f=>by
   rw [bp f (show q*s.P<=a+1 by omega) (show a+1<=q*s.P+s.P by omega),bJ f c]
  grind [bY]
 ·rw [if_neg e,aP];refine bY (fun i c g=>(l i (fun d=>e ?_)).symm);subst d;exact (lY (i:=i-q*s.P) h (by omega) (by omega)).symm
structure Ja(s:dE)(X tp mp:Nat->Bool)(fw:Nat->Option Nat):Prop where
 cnts:∀q,(fw q).getD 0=qF s X q
 Qx:∀q,q<s.W/s.P->mp q=(lz s.P (aw s.E) X q||tp q)
 apart:∀a,aw s.E a=true->tp (a/s.P)=false
theorem Ja.step{s:dE}{X k mp b:Nat->Bool}{g:Nat->Option Nat}(c:1<=s.P)(h:Ja s X k mp g){a:Nat}(d:aw s.E a=true)(i:X (ec s.E a)=false)
  (f:∀q,b q=(mp q&& !(decide (qF s X (a/s.P)=1)&&q==a/s.P))):
  Ja s (fun j=>X j||decide (j=ec s.E a)) k b (jf g (a/s.P) (qF s X (a/s.P)-1)):=by
 refine ⟨fun q=> ?_,fun q m=> ?_,h.apart⟩
 ·unfold jf;have:=vB c d i q;by_cases e:q=a/s.P
  ·grind
  ·rw [if_neg e,h.cnts]
   grind
 ·rw [f,h.Qx q m];have n:=vB c d i q;have o:=qE c X q;have p:=qE c (fun j=>X j||decide (j=ec s.E a)) q;have l:=h.apart a d
  grind
section
variable{c:Cy}{s:dE}{hf hg:Nat->Nat}{Fs:Nat}{Sm Sm':Nat->Prop}{mp mp':Nat->Bool}{M M0:Nat->Nat}{Mv:List Bool}{fw fw':Nat->Option Nat}{n left fr ah:Nat}{w w' w0:World}{X tp:Nat->Bool}
def qx(c:Cy)(s:dE)(hf hg:Nat->Nat)(Fs:Nat)(Mv:List Bool)(n left fr ah:Nat)(M0:Nat->Nat)(tp:Nat->Bool)(Sm0:Nat->Prop)(w0:World)(X:Nat->Bool)(w:World):Prop:=
 ∃Us Hg Sm mp M fw,jO c s hf hg Fs Us Hg Sm mp M Mv fw n left fr ah w/\Ja s X tp mp fw/\(∀b,b<s.W->mp (b/s.P)=true->M b=M0 b)/\Fr (fun k=>Sm0 k\/k=c.wb) w0 w/\∀k,Sm k->Sm0 k\/w0.heap.size<=k
theorem qx.Fh{a:Nat->Prop}(h:qx c s hf hg Fs Mv n left fr ah M0 tp a w0 X w)(b:J7 w w'):qx c s hf hg Fs Mv n left fr ah M0 tp a w0 X w':=by
 obtain ⟨Us,Hg,Sm,mp,M,fw,d,e,f,g,i⟩:=h;exact ⟨Us,Hg,Sm,mp,M,fw,d.Fh b,e,f,g.trans b J8,i⟩
theorem qx.anchor{d:Nat->Prop}(h:qx c s hf hg Fs Mv n left fr ah M0 tp d w0 X w):∃a,qx c s hf hg Fs Mv n left fr ah M0 tp a w X w/\(∀e w',qx c s hf hg Fs Mv n left fr ah M0 tp a w e w'->qx c s hf hg Fs Mv n left fr ah M0 tp d w0 e w')/\∀k,a k->k<w.heap.size:=by
 obtain ⟨Us,Hg,Sm,mp,M,fw,j,o,p,l,t⟩:=h;have q:=l.size;refine ⟨Sm,⟨Us,Hg,Sm,mp,M,fw,j,o,p,Kb _ _,fun k g=> .inl g⟩,?_,j.mem.lt⟩;rintro e w' ⟨b,Qi,a,i,m,f,p1,p2,p3,p4,r⟩;refine ⟨b,Qi,a,i,m,f,p1,p2,p3,l.trans p4 (fun k g=> ?_),fun k g=> ?_⟩
 ·grind
 grind
theorem qx.word{d:Nat->Prop}(l:1<=s.P)(S:n<4611686018427387904)(h:qx c s hf hg Fs Mv n left fr ah M0 tp d w0 X w){a:Nat}(A:aw s.E a=true)(B:a<s.W)(z:s.W% s.P=0)(H:X (ec s.E a)=false):
  ∃v,1<=v/\v<=s.P/\w.cell? c.y=some c.m/\w.cell? ⟨c.y,14,none⟩=some (.map (some c.wb))/\
   (Calls prog 114 #[c.m] w fun e w'=>e= .returned (.int .i64 (s.P:Int))/\w=w')/\
   (Instr.lookup 174 (.map (some c.wb)) (.int .i64 ((a/s.P:Nat):Int)) false).run prog w= .ok (.int .i64 v) w/\
   ∃w1,(Instr.mapUpdate 174 (.map (some c.wb)) (.int .i64 ((a/s.P:Nat):Int)) (.int .i64 ((v-1:Nat):Int))).run prog w= .ok () w1/\
    w1.cell? c.y=some c.m/\w1.cell? ⟨c.y,14,none⟩=some (.map (some c.wb))/\
    (Instr.lookup 174 (.map (some c.wb)) (.int .i64 ((a/s.P:Nat):Int)) false).run prog w1= .ok (.int .i64 ((v-1:Nat):Int)) w1/\
    (v≠1->qx c s hf hg Fs Mv n left fr ah M0 tp d w0 (fun j=>X j||decide (j=ec s.E a)) w1)/\
    (v=1->Calls prog 117 #[c.m,(((a/s.P:Nat):Int):Int)] w1 fun e w2=>e= .returned (0:Int)/\qx c s hf hg Fs Mv n left fr ah M0 tp d w0 (fun j=>X j||decide (j=ec s.E a)) w2):=by
 obtain ⟨Us,Hg,Sm,mp,M,fw,f,t,Y,L,Z⟩:=h;have F:a/s.P<4611686018427387904:=by have:=aX a s.P;have:=f.mem.at.2.2.1;omega
 have R:=t.cnts (a/s.P);have o:lz s.P (aw s.E) X (a/s.P)=true:=(bU l).2 ⟨a,rfl,by rw [ak,fU];exact ⟨A,H⟩⟩;have V:qF s X (a/s.P)≠0:=(qE l X _).2 o;have G:qF s X (a/s.P)<=s.P:=by grind [qF,dA]
 have Q:=f.mem.at.2.1;have r:=jq B l z;have g:(fw (a/s.P)).isSome=true:=by
  cases hfw:fw (a/s.P) with
  |some x=>rfl
  |none=>grind
 have K:=f.wds.look (a/s.P) F;rw [R] at K;obtain ⟨w1,r1,N,I⟩:=f.wds.put (a/s.P) (qF s X (a/s.P)-1) F (by omega) S;rw [if_pos g] at N;have i:=f.wb_ N I;have p:=i.wds.look (a/s.P) F;have U:(jf fw (a/s.P) (qF s X (a/s.P)-1) (a/s.P)).getD 0=qF s X (a/s.P)-1:=by unfold jf;grind
 rw [U] at p;have J:Fr (fun k=>d k\/k=c.wb) w0 w1:=L.trans I (fun k C=> .inl (.inr C));have hz:=L.size;refine ⟨qF s X (a/s.P),by omega,G,f.Qd.cell 0 rfl,f.Qd.cell 14 rfl,jy f.mem,K,w1,r1,i.Qd.cell 0 rfl,i.Qd.cell 14 rfl,p,fun T=> ?_,fun he=> ?_⟩
 ·exact ⟨Us,Hg,Sm,mp,M,_,i,t.step l A H (fun q=>by grind),Y,J,Z⟩
 ·have D:mp (a/s.P)=true:=by rw [t.Qx _ r,o];rfl
  refine (mK i.mem (a/s.P) r D).mono ?_;rintro e w2 ⟨rfl,Sm',u,O,p1,p2,p3,p4⟩;refine ⟨rfl,Us-1,u,Sm',_,O,_,i.mem_ p1 p3 p4,t.step l A H (fun q=>by grind),fun b hb hm=> ?_,J.trans p3 (fun k C=> ?_),fun k C=> ?_⟩
  ·grind
  ·grind
  ·have:=I.size
   grind
def EM(s:dE)(X:Nat->Bool)(F k:Nat):Nat->Bool:=fun j=>X j||decide (ec s.E F<=j/\j<ec s.E F+k)
theorem EJ(X:Nat->Bool)(F:Nat):EM s X F 0=X:=by
 funext j;simp_all [EM,decide_eq_false]
theorem EK(X:Nat->Bool){F k:Nat}(a:ec s.E (F+k)=ec s.E F+k):(fun j=>EM s X F k j||decide (j=ec s.E (F+k)))=EM s X F (k+1):=by
 funext j;unfold EM
 grind
theorem AY{p:Nat->Prop}(hP:1<=s.P)(hn:n<4611686018427387904)(G:s.W% s.P=0)(h:qx c s hf hg Fs Mv n left fr ah M0 tp p w0 X w)(F t k:Nat)(J:F+k<=s.W)(r:∀i,i<k->aw s.E (F+i)=true/\ec s.E (F+i)=ec s.E F+i)(hx:∀i,i<k->X (ec s.E F+i)=false):
  Calls prog 208 #[c.y,.agg #[(F:Int),(t:Int),(k:Int)]] w fun e w'=>e= .returned (.tuple #[])/\qx c s hf hg Fs Mv n left fr ah M0 tp p w0 (EM s X F k) w':=by
 have hW:s.W<=524288:=h.choose_spec.choose_spec.choose_spec.choose_spec.choose_spec.choose_spec.1.mem.at.2.2.1;have av:s.P<=256:=h.choose_spec.choose_spec.choose_spec.choose_spec.choose_spec.choose_spec.1.mem.at.2.1;obtain ⟨W1,f⟩:∃W1,w.alloc (.cells #[(F:Int),(t:Int),(k:Int)] 273)=W1:=⟨_,rfl⟩;have g:J7 w W1:=by rw [<-f];exact (Kb _ w).alloc _
 have H:ay W1 w.heap.size [(F:Int),(t:Int),(k:Int)] 273:=by rw [<-f];exact ay.new w _ _
 obtain ⟨b,a1,a2,a3⟩:∃b,qx c s hf hg Fs Mv n left fr ah M0 tp b W1 X W1/\(∀A w',qx c s hf hg Fs Mv n left fr ah M0 tp b W1 A w'->qx c s hf hg Fs Mv n left fr ah M0 tp p w0 A w')/\∀k,b k->k<w.heap.size:=by
  obtain ⟨S,⟨Us,Hg,Sm,mp,M,fw,U,q2,q3,q4,q5⟩,b2,b3⟩:=h.anchor;refine ⟨S,⟨Us,Hg,Sm,mp,M,fw,U.Fh g,q2,q3,Kb _ _,fun k J=> ?_⟩,fun A w' hh=>b2 A w' ?_,b3⟩
  ·rcases q5 k J with h|h
   ·exact .inl h
   ·have:=U.mem.lt k J;omega
  ·obtain ⟨z,Qi,b,ar,M1,al,p1,p2,p3,p4,p5⟩:=hh;have:=g.size;exact ⟨z,Qi,b,ar,M1,al,p1,p2,p3,(g.mono J8).trans p4 (fun _ h=> .inl h),fun k J=>(p5 k J).imp id (fun h=>by omega)⟩
 have aq:W1.heap.size=w.heap.size+1:=by rw [<-f];exact aY _
 have u:¬b w.heap.size/\w.heap.size≠c.wb:=by
  obtain ⟨Us,Hg,Sm,mp,M,fw,U,_⟩:=id h;exact ⟨fun hs=>by have:=a3 _ hs;omega,fun e=>by have:=U.wds.lt;omega⟩
 have HB:=ae (fun wr (A:Nat->Bool) (l:qx c s hf hg Fs Mv n left fr ah M0 tp b W1 A wr)=>(show ay wr w.heap.size [(F:Int),(t:Int),(k:Int)] 273 from by
  obtain ⟨_,_,_,_,_,_,_,_,_,q4,_⟩:=l;exact H.frame q4 (fun e=>by rcases e with e|e;exact u.1 e;exact u.2 e)))
 have o:=ae (fun (i:Nat) wr (B:i<k) (l:qx c s hf hg Fs Mv n left fr ah M0 tp b W1 (EM s X F i) wr)=>qx.word hP hn l (a:=F+i) (r i B).1 (by omega) G (by unfold EM;rw [(r i B).2,hx i B,decide_eq_false (by omega)];rfl));have m:=ae (fun (i:Nat) (B:i<k)=>EK (s:=s) X (r i B).2);have Z:=ae a2;have R:=ae a1;have hd:∀i:Nat,i<k->((F:Int)+(i:Int)).tdiv (s.P:Int)=(((F+i)/s.P:Nat):Int):=fun i _=>by rw [show (F:Int)+(i:Int)=((F+i:Nat):Int) by omega,fF]
 have Y:=ae hd;have az:¬s.P=0:=by omega
 clear h a1 a2 a3 g H r hx aq u hd G hP;rw [<-EJ (s:=s) X F] at R
 go_enter func208,ntmps208
 have k0:=(HB.out W1 _ R.out).cell 0 rfl;go_wp2;clear f
 go_loopw [4] (fun x wr=>∃i:Nat,x= .int .i64 ((F:Int)+(i:Int))/\i<=k/\Hid (qx c s hf hg Fs Mv n left fr ah M0 tp b W1 (EM s X F i) wr)) (fun x _=>(F+k-intOf x).toNat)
 case atStart=>exact ⟨0,by simp,ao _,R⟩
 case round=>
  clear R k0;obtain ⟨i,rfl,B,l⟩:=hrel;have I:=HB.out wr _ l.out;obtain ⟨k0,_,k2,_⟩:=Kf I;by_cases j:i<k
  ·obtain ⟨v,v1,v2,c0,aj,N,r,w1,hu,d0,ak,K,hA,hB⟩:=o.out i wr j l.out;have T:=ae hA;have d:=ae hB;have D:=ae N;have ax:=Y.out i j;have O:=m.out i j;rw [O] at T d;have an:(v:Int)-1=((v-1:Nat):Int):=by omega
   have ap:IntKind.i64.wrap ((v:Int)-1)=((v-1:Nat):Int):=by rw [IntKind.wrap_i64];omega
   clear hA hB N O l o Z Y m;have aB:(F+i)/s.P<=524288:=aH (aX _ _) (by omega);generalize (F+i)/s.P=q at*;have aA:(q:Int)<=524288:=by omega
   have c1:(F:Int)+(i:Int)<(F:Int)+(k:Int):=by omega
   go_wp2_with fail
   refine D.out.mono ?_;rintro e w' ⟨rfl,rfl⟩;clear D;by_cases Q:v=1
   ·subst Q;have C:=ae (d.out rfl);rw [show ((1:Nat):Int)=1 from rfl] at r;rw [show ((1-1:Nat):Int)=0 from rfl] at hu K;clear an ap;clear T d;go_wp2_with fail
    refine C.out.mono ?_;rintro e w2 ⟨rfl,L⟩;have ag:=ae L;clear L C hu r K c0 aj d0 ak;go_wp2;go_roundw
    case rel=>exact ⟨i+1,by push_cast;rw [Int.add_assoc],by omega,ag⟩
    case measure=>simp [intOf];omega
   ·have V:=ae (T.out Q);have aC:¬(((v-1:Nat):Int)=0):=by omega
    clear T d;generalize v-1=v' at*;go_wp2;go_roundw
    case rel=>exact ⟨i+1,by push_cast;rw [Int.add_assoc],by omega,V⟩
    case measure=>simp [intOf];omega
  ·have am:i=k:=by omega
   subst am;have ad:=ae (Z.out _ _ l.out);have c1:¬(F:Int)+(i:Int)<(F:Int)+(i:Int):=by omega
   clear l Z o m Y j;go_wp2;go_end0;exact ⟨rfl,ad.out⟩
end
def sH(s:dE)(M:Nat->Nat)(F t n:Nat):Nat->Nat:=fun x=>if t<=x/\x<t+n then oY s.E s.hp M s.F (F+(x-t)) else M x
theorem EQ(s:dE)(M:Nat->Nat)(F t:Nat):sH s M F t 0=M:=by
 funext x;unfold sH;grind
theorem ER(s:dE)(M:Nat->Nat)(F t n:Nat):eb (sH s M F t n) (t+n) (oY s.E s.hp M s.F (F+n))=sH s M F t (n+1):=by
 funext x;show (if x=t+n then oY s.E s.hp M s.F (F+n) else if t<=x/\x<t+n then oY s.E s.hp M s.F (F+(x-t)) else M x)=if t<=x/\x<t+(n+1) then oY s.E s.hp M s.F (F+(x-t)) else M x
 grind
structure JI(c:Cy)(s:dE)(hf hg:Nat->Nat)(mp:Nat->Bool)(M:Nat->Nat)(F t n:Nat):Prop where
 ap:iG s.E
 Fw:F+n<=s.W
 tw:t+n<=s.W
 live:∀i,i<n->aw s.E (F+i)=true
 off:∀i j,i<n->j<n->t+i≠F+j
 mpF:∀i,i<n->mp ((F+i)/s.P)=true
 mpt:∀i,i<n->mp ((t+i)/s.P)=true
 ptr:∀i,i<n->1<=F+i-cO s.E (F+i)->F+i-cO s.E (F+i)<=s.hp (cO s.E (F+i))->M (F+i)≠0->aw s.E (M (F+i))=true/\M (F+i)<s.W
 big:∀i,i<n->M (F+i)<18446744073709551616
 hd:∀a,s.E a≠0->dD (s.hp a) (hf a) (hg a)
 toB:c.Qe<=1048576
section
variable{c:Cy}{s:dE}{hf hg:Nat->Nat}{Fs Us Hg:Nat}{Sm:Nat->Prop}{mp:Nat->Bool}{M:Nat->Nat}{Mv:List Bool}{fw:Nat->Option Nat}{n left fr ah:Nat}{w w' w0:World}
theorem JI.Ah{F t k i:Nat}(h:JI c s hf hg mp M F t k){j:Nat}(a:j<k):sH s M F t i (F+j)=M (F+j)\/k<i:=by
 by_cases d:k<i
 ·omega
 ·left;unfold sH;rw [if_neg (fun b=>h.off (F+j-t) j (by omega) a (by omega))]
theorem If{s:dE}{M:Nat->Nat}{a:Nat}(i:M a<18446744073709551616)(d:s.Qe<=1048576)(b:aw s.E a=true)(hp:1<=a-cO s.E a->a-cO s.E a<=s.hp (cO s.E a)->M a≠0->aw s.E (M a)=true/\M a<s.W)(h:s.W<=1048576):oY s.E s.hp M s.F a<18446744073709551616:=by
 have e:=fK b;unfold oY oF;rw [show cO s.E a+(a-cO s.E a)=a by omega];split
 ·next hc=>
  have f:=(hp hc.1 hc.2.1 hc.2.2).2;have g:=fM (aw s.E) (M a);show s.Qe+Qc (aw s.E) 0 (M a)<_
  omega
 omega
def Cx(c:Cy)(s:dE)(hf hg:Nat->Nat)(Fs Us Hg:Nat)(Sm:Nat->Prop)(mp:Nat->Bool)(Mv:List Bool)(fw:Nat->Option Nat)(n left fr ah:Nat)(w0:World)(M:Nat->Nat)(q:Nat)(h3:Nat×Nat×Nat)(q0:Nat)(pc:List Value)(w:World):Prop:=
 jO c s hf hg Fs Us Hg Sm mp M Mv fw n left fr ah w/\Fr (fun k=>Sm k\/w0.heap.size<=k) w0 w/\ay w q [((h3.1:Int):Int),((h3.2.1:Int):Int),((h3.2.2:Int):Int)] 32/\ay w q0 pc 273
theorem Cx.Fh{M:Nat->Nat}{q q0:Nat}{b:Nat×Nat×Nat}{d:List Value}(h:Cx c s hf hg Fs Us Hg Sm mp Mv fw n left fr ah w0 M q b q0 d w)(a:J7 w w'):Cx c s hf hg Fs Us Hg Sm mp Mv fw n left fr ah w0 M q b q0 d w':=
 ⟨h.1.Fh a,h.2.1.trans a J8,h.2.2.1.frame a id,h.2.2.2.frame a id⟩
theorem wD(h:jO c s hf hg Fs Us Hg Sm mp M Mv fw n left fr ah w)(a x:Nat)(g:a<s.W)(i:mp (a/s.P)=true)(j:x<18446744073709551616):Calls prog 188 #[c.m,(a:Int),.int .u64 x] w fun e w'=>e= .returned (0:Int)/\jO c s hf hg Fs Us Hg Sm mp (eb M a x) Mv fw n left fr ah w'/\Fr Sm w w':=
 (pC h.mem a x g i j).mono (fun _ _ ⟨d,f,b⟩=>⟨d,h.mem_ f b (fun _ h=> .inl h),b⟩)
theorem Ae(h:jO c s hf hg Fs Us Hg Sm mp M Mv fw n left fr ah w)(b:iG s.E)(a:Nat)(j:a<s.W)(f:aw s.E a=true):Calls prog 214 #[c.EL.m,(a:Int)] w fun e w'=>e= .returned (.tuple #[(((cO s.E a:Nat):Int):Int),(((s.E (cO s.E a):Nat):Int):Int),.bool true])/\w=w':=by
 have i:=h.mem.at.2.2.1;refine (ky h.ext h.Qo a (by omega)).mono ?_;rintro e w' ⟨d,rfl⟩;have k:=fK f;refine ⟨?_,rfl⟩;rcases d with ⟨s',l,g,o,p,rfl⟩|⟨g,_⟩
 ·grind [ul]
 grind
theorem C5(h:jO c s hf hg Fs Us Hg Sm mp M Mv fw n left fr ah w)(F t k:Nat)(l:JI c s hf hg mp M F t k):
  Calls prog 207 #[c.y,.agg #[(F:Int),(t:Int),(k:Int)]] w fun e w'=>e= .returned (.tuple #[])/\jO c s hf hg Fs Us Hg Sm mp (sH s M F t k) Mv fw n left fr ah w'/\Fr Sm w w':=by
 have hW:=h.mem.at.2.2.1;have hP:=h.mem.at.1;have av:Hid ((prog.info? 32).map (·.size)=some 3):=by show _=_;kernel_rfl
 obtain ⟨W1,Y⟩:∃W1,w.alloc (.cells #[(F:Int),(t:Int),(k:Int)] 273)=W1:=⟨_,rfl⟩;have aU:J7 w W1:=by rw [<-Y];exact (Kb _ w).alloc _
 have aR:ay W1 w.heap.size [(F:Int),(t:Int),(k:Int)] 273:=by rw [<-Y];exact ay.new w _ _
 have a5:W1.heap.size=w.heap.size+1:=by rw [<-Y];exact aY _
 obtain ⟨W2,ad⟩:∃W2,W1.alloc (.cells #[(0:Int),(0:Int),(0:Int)] 32)=W2:=⟨_,rfl⟩;have ax:J7 W1 W2:=by rw [<-ad];exact (Kb _ W1).alloc _
 have aS:ay W2 (w.heap.size+1) [(0:Int),(0:Int),(0:Int)] 32:=by rw [<-ad,<-a5];exact ay.new W1 _ _
 have Q:=aU.trans ax J8;have h0:Cx c s hf hg Fs Us Hg Sm mp Mv fw n left fr ah w (sH s M F t 0) (w.heap.size+1) (0,0,0) w.heap.size [(F:Int),(t:Int),(k:Int)] W2:=by
  rw [EQ];exact ⟨h.Fh Q,Q.mono J8,aS,aR.frame ax id⟩
 have H0:=ae h0;have aI:=ae ad;have am:=h.lt;have G:=h.mem.lt;have aq:∀i,i<k->sH s M F t i (F+i)=M (F+i):=fun i o=>(l.Ah (i:=i) o).resolve_right (by omega)
 have O:=ae (fun (i:Nat) (g:Nat×Nat×Nat) wr (o:i<k) (d:Cx c s hf hg Fs Us Hg Sm mp Mv fw n left fr ah w (sH s M F t i) (w.heap.size+1) g w.heap.size [(F:Int),(t:Int),(k:Int)] wr) a (H:cO s.E (F+i)=a) (P:g=(s.hp a,hf a,hg a))=>
  (show Calls prog 232 #[c.y,(((F:Int)+(i:Int)):Int),(a:Int),ft (g.1:Int) (g.2.1:Int) (g.2.2:Int)] wr (Cq wr (oY s.E s.hp M s.F (F+i))) from by
   subst H;have hl:=l.live i o;have ho:=fK hl;have hm:=aq i o;have b:=vc d.1.Qd d.1.Xh l.toB d.1.mem (F+i) (cO s.E (F+i)) (s.hp (cO s.E (F+i))) (hf (cO s.E (F+i))) (hg (cO s.E (F+i))) ho.1 (by have:=l.Fw;omega) (l.mpF i o) (l.hd _ (by omega)) (fun q1 q2 q3=>by rw [hm] at q3 ⊢;exact l.ptr i o q1 q2 q3) (by rw [hm];exact l.big i o);have hg:oF (sH s M F t i) (goes s.E c.Qe) (cO s.E (F+i)) (s.hp (cO s.E (F+i))) (F+i-cO s.E (F+i))=oY s.E s.hp M s.F (F+i):=by
    have:=jw (hp:=s.hp) (F:=s.F) hl hm;rw [<-this];unfold oY dE.F;rw [d.1.Qe]
   rw [hg] at b;rw [P,show (F:Int)+(i:Int)=((F+i:Nat):Int) by push_cast;rfl];exact b))
 have N:=ae (fun (i:Nat) (g:Nat×Nat×Nat) wr (o:i<k) (d:Cx c s hf hg Fs Us Hg Sm mp Mv fw n left fr ah w (sH s M F t i) (w.heap.size+1) g w.heap.size [(F:Int),(t:Int),(k:Int)] wr)=>
  (show Calls prog 188 #[c.m,(((t:Int)+(i:Int)):Int),.int .u64 ((oY s.E s.hp M s.F (F+i):Nat):Int)] wr fun e w'=>e= .returned (0:Int)/\Cx c s hf hg Fs Us Hg Sm mp Mv fw n left fr ah w (sH s M F t (i+1)) (w.heap.size+1) g w.heap.size [(F:Int),(t:Int),(k:Int)] w' from by
   rw [show (t:Int)+(i:Int)=((t+i:Nat):Int) by push_cast;rfl];refine (wD d.1 (t+i) _ (by have:=l.tw;omega) (l.mpt i o) (If (l.big i o) (by have:=l.toB;have:=h.Qe;omega) (l.live i o) (l.ptr i o) (by omega))).mono ?_;rintro e w' ⟨rfl,q1,q2⟩;rw [ER] at q1;exact ⟨rfl,q1,d.2.1.trans q2 (fun k hk=> .inl (.inl hk)),d.2.2.1.frame q2 (fun hs=>by have:=G _ hs;omega),d.2.2.2.frame q2 (fun hs=>by have:=G _ hs;omega)⟩))
 have T:=ae (fun (i:Nat) (g:Nat×Nat×Nat) wr (o:i<k) (d:Cx c s hf hg Fs Us Hg Sm mp Mv fw n left fr ah w (sH s M F t i) (w.heap.size+1) g w.heap.size [(F:Int),(t:Int),(k:Int)] wr)=>
  (show Calls prog 214 #[c.EL.m,(((F:Int)+(i:Int)):Int)] wr fun e w'=>e= .returned (.tuple #[(((cO s.E (F+i):Nat):Int):Int),(((s.E (cO s.E (F+i)):Nat):Int):Int),.bool true])/\wr=w' from by
   rw [show (F:Int)+(i:Int)=((F+i:Nat):Int) by push_cast;rfl];exact Ae d.1 l.ap (F+i) (by have:=l.Fw;omega) (l.live i o)))
 have X:=ae (fun (i:Nat) (g:Nat×Nat×Nat) wr (o:i<k) (d:Cx c s hf hg Fs Us Hg Sm mp Mv fw n left fr ah w (sH s M F t i) (w.heap.size+1) g w.heap.size [(F:Int),(t:Int),(k:Int)] wr)=>
  (show (Instr.lookup 175 (.map (some c.sb)) (.int .i64 ((cO s.E (F+i):Nat):Int)) false).run prog wr= .ok (ft (s.hp (cO s.E (F+i)):Nat) (hf (cO s.E (F+i)):Nat) (hg (cO s.E (F+i)):Nat)) wr/\wr.there (w.heap.size+1) 0 3/\∀W,W=wr.setCells (w.heap.size+1) 0 [((s.hp (cO s.E (F+i)):Nat):Int),((hf (cO s.E (F+i)):Nat):Int),((hg (cO s.E (F+i)):Nat):Int)]->Cx c s hf hg Fs Us Hg Sm mp Mv fw n left fr ah w (sH s M F t i) (w.heap.size+1) (s.hp (cO s.E (F+i)),hf (cO s.E (F+i)),hg (cO s.E (F+i))) w.heap.size [(F:Int),(t:Int),(k:Int)] W from by
   obtain ⟨ns,f,q1,q2⟩:=d.1.shp;have ho:=fK (l.live i o);have hl:=q1.look (cO s.E (F+i)) (by have:=l.Fw;omega);rw [q2 _ (by omega)] at hl;have C:=d.2.2.1;refine ⟨hl,fun j hj=> ?_,?_⟩
   ·match j,hj with
    |0,_=>exact ⟨by rw [C.cell 0 rfl];rfl,C.free 0⟩
    |1,_=>exact ⟨by rw [C.cell 1 rfl];rfl,C.free 1⟩
    |2,_=>exact ⟨by rw [C.cell 2 rfl];rfl,C.free 2⟩
   ·rintro W rfl;have az:Fr (fun k=>k=w.heap.size+1) wr (wr.setCells (w.heap.size+1) 0 [((s.hp (cO s.E (F+i)):Nat):Int),((hf (cO s.E (F+i)):Nat):Int),((hg (cO s.E (F+i)):Nat):Int)]):=
     (((Kb (fun k=>k=w.heap.size+1) wr).setCell ⟨w.heap.size+1,0,none⟩ (.inl rfl) _).setCell ⟨w.heap.size+1,1,none⟩ (.inl rfl) _).setCell ⟨w.heap.size+1,2,none⟩ (.inl rfl) _
    exact ⟨d.1.frame az (fun k hk e=>by have:=am k hk;omega) (fun k hk e=>by have:=G k hk;omega) (fun e=>by have:=h.Xu;omega),d.2.1.trans az (fun k hk=> .inl (.inr (by omega))),((C.set 0 _).set 1 _).set 2 _,d.2.2.2.frame az (by omega)⟩))
 have J:=ae (fun (i:Nat) (g:Nat×Nat×Nat) wr (d:Cx c s hf hg Fs Us Hg Sm mp Mv fw n left fr ah w (sH s M F t i) (w.heap.size+1) g w.heap.size [(F:Int),(t:Int),(k:Int)] wr)=>af (d.1.Qd.cell 0 rfl) (af (d.1.Qd.cell 9 rfl) (af (d.1.Qd.cell 15 rfl) (af (d.2.2.2.cell 0 rfl) (af (d.2.2.2.cell 1 rfl) (d.2.2.2.cell 2 rfl))))));have I:=ae (fun (i a sz:Nat) (g:Nat×Nat×Nat) (o:i<k) (H:cO s.E (F+i)=a) (e3:sz=s.E a) (P:g=(s.hp a,hf a,hg a)) (B:F+(i+1)<a+sz)=>
  (show cO s.E (F+(i+1))=a/\sz=s.E a/\g=(s.hp a,hf a,hg a) from by
   have ho:=fK (l.live i o);refine ⟨ul l.ap (by omega) (by omega),e3,P⟩))
 have V:=ae (fun (i:Nat) (o:i<k)=>(show cO s.E (F+i)+s.E (cO s.E (F+i))<=1048576 from by
  have ho:=fK (l.live i o);have:=h.ext.top (cO s.E (F+i)) (by omega);omega))
 have S:=ae (fun g wr (d:Cx c s hf hg Fs Us Hg Sm mp Mv fw n left fr ah w (sH s M F t k) (w.heap.size+1) g w.heap.size [(F:Int),(t:Int),(k:Int)] wr)=>af d.1 (d.2.1.mono (S':=Sm) (fun k hk=>hk)));have U:=ae (fun i=>DC (s.hp (cO s.E (F+i)):Nat) (hf (cO s.E (F+i)):Nat) (hg (cO s.E (F+i)):Nat));have a7:=l.Fw;have a8:=l.tw;clear ad h l h0 aR aS aU ax Q aq am G hP
 go_enter func207,ntmps207
 go_upto_region 2 with fail
 rw [aI.out];clear Y aI a5;obtain ⟨k0,k1,k2,k3,k4,k5⟩:=J.out 0 (0,0,0) W2 H0.out;go_wp2;clear k0 k1 k2 k3 k4 k5
 go_loopw [4,5,12] (fun x4 x5 aG wr=>∃(i a sz:Nat) (g:Nat×Nat×Nat),x4= .int .i64 a/\x5= .int .i64 sz/\aG= .int .i64 i/\i<=k/\(F+i<a+sz->cO s.E (F+i)=a/\sz=s.E a/\g=(s.hp a,hf a,hg a))/\a+sz<=1048576/\Hid (Cx c s hf hg Fs Us Hg Sm mp Mv fw n left fr ah w (sH s M F t i) (w.heap.size+1) g w.heap.size [(F:Int),(t:Int),(k:Int)] wr)) (fun _ _ aG _=>(k-intOf aG).toNat)
 case atStart=>exact ⟨0,0,0,(0,0,0),rfl,rfl,rfl,ao _,fun B=>by omega,by omega,H0⟩
 case round=>
  clear H0;obtain ⟨i,a,sz,g,rfl,rfl,rfl,o,ag,aW,d⟩:=hrel;obtain ⟨k0,k1,k2,k3,k4,k5⟩:=J.out i g wr d.out;by_cases p:i<k
  ·have c1:(i:Int)<(k:Int):=by omega
   by_cases aC:F+i<a+sz
   ·obtain ⟨H,e3,P⟩:=ag aC;obtain ⟨u,v,x⟩:=g;have c2:(F:Int)+(i:Int)<(a:Int)+(sz:Int):=by omega
    obtain ⟨D,a4⟩:∃D,D=wr:=⟨_,rfl⟩;rw [<-a4] at d k0 k1 k2 k3 k4 k5 ⊢;clear a4;have z:=ae (fun w' (b:J7 D w')=>(let B:=d.out.Fh b;af (B.1.Qd.cell 0 rfl) (af (B.2.2.2.cell 0 rfl) (af (B.2.2.2.cell 1 rfl) (B.2.2.2.cell 2 rfl)))));have K:=ae (fun w' (b:J7 D w')=>(d.out.Fh b).2.2.1);have r:=ae (fun w' (b:J7 D w')=>O.out i (u,v,x) w' p (d.out.Fh b) a H P);have A:=ae (fun w' (b:J7 D w')=>N.out i (u,v,x) w' p (d.out.Fh b));have ar:Hid (F+(i+1)<a+sz->cO s.E (F+(i+1))=a/\sz=s.E a/\(u,v,x)=(s.hp a,hf a,hg a)):=ae (fun B=>I.out i a sz (u,v,x) p H e3 P B);obtain ⟨Z,hZ⟩:∃Z,Z=oY s.E s.hp M s.F (F+i):=⟨_,rfl⟩;rw [<-hZ] at r A;unfold Cq ft at r;clear hZ;clear d ag O N T X J I V S U aC H P e3;go_wp2;refine bz (fun w'=>J7 D w') 13 (by kernel_rfl) ((Kb _ D).drew) ?_;simp only [Kc];refine aL [c.y,c.y,c.y] ?_
    iterate 3 (refine aM rfl (fun w9 h9=>by go_simp) ?_;simp only [aa])
    refine aK ?_;refine ai c.m rfl (fun w' b=>by obtain ⟨k1,k2,k3,k4⟩:=z.out w' b;go_simp) ?_;simp only [aa];refine ai (.pointer (some ⟨w.heap.size,1,none⟩)) rfl (fun w' b=>by go_simp) ?_;simp only [aa];refine ai (t:Int) rfl (fun w' b=>by obtain ⟨k1,k2,k3,k4⟩:=z.out w' b;go_simp) ?_;simp only [aa];refine ai (i:Int) rfl (fun w' b=>by go_simp) ?_;simp only [aa];refine ai (.int .i64 ((t:Int)+(i:Int))) rfl (fun w' b=>by go_simp;rw [IntKind.wrap_i64];omega) ?_;simp only [aa];refine aL [c.y,(((F:Int)+(i:Int)):Int),(a:Int)] ?_
    iterate 3 (refine aM rfl (fun w9 h9=>by go_simp) ?_;simp only [aa])
    refine aK ?_;refine ai (.agg #[(u:Int),(v:Int),(x:Int)]) rfl (fun w' b=>eX rfl (w.heap.size+1) rfl 32 _ (0,0) _ (K.out w' b) underlying32 rfl av.out) ?_;simp only [aa];refine bf (.int .u64 Z) 232 #[c.y,(((F:Int)+(i:Int)):Int),(a:Int),.agg #[(u:Int),(v:Int),(x:Int)]] rfl (fun w'=>by go_simp) (fun w' b=>(r.out w' b).mono fun e w2 h=>⟨h.1,b.trans h.2 J8⟩) ?_;simp only [aa];refine wpQuiet_nil ?_;intro w5 R;have L:=ae (A.out w5 R);clear z K r A R;go_wp2_with fail
    refine L.out.mono ?_;rintro e w6 ⟨rfl,h6⟩;have H6:=ae h6;clear h6 L;go_wp2;go_roundw
    case rel=>exact ⟨i+1,a,sz,(u,v,x),rfl,rfl,by go_num,by omega,ar.out,aW,H6⟩
    case measure=>simp [intOf];omega
   ·have c2:¬(F:Int)+(i:Int)<(a:Int)+(sz:Int):=by omega
    have aj:=ae (T.out i g wr p d.out);obtain ⟨hl,a2,aO⟩:=X.out i g wr p d.out;have aH:=ae a2;have aN:=ae aO;have aX:=V.out i p;have ak:=ae (U.out i);have HX:=ae (show∃a sz,cO s.E (F+i)=a/\sz=s.E a from ⟨_,_,rfl,rfl⟩);have H:cO s.E (F+i)=cO s.E (F+i):=rfl;clear d ag T X J V S U aC a2 aO aW H;generalize a0:cO s.E (F+i)=st' at*;generalize a1:s.E st'=sz' at*;generalize aP:s.hp st'=u at*;generalize aT:hf st'=v at*;generalize uz:hg st'=x at*;have q:=ae (af a0 (af a1 (af aP (af aT uz))));clear a0 a1 aP aT uz HX;unfold ft at hl;go_wp2_with fail
    refine aj.out.mono ?_;rintro e w' ⟨rfl,rfl⟩;clear aj k1 k3 k4 k5 c2;go_wp2_with (refine wpList_store_mid rfl 32 _ _ rfl (w.heap.size+1) 0 #[(u:Int),(v:Int),(x:Int)] rfl rfl aH.out av.out ak.out ?_)
    have hq:=aN.out _ rfl;have H:=q.out.1;have e3:=q.out.2.1.symm;have P:(u,v,x)=(s.hp st',hf st',hg st'):=by rw [q.out.2.2.1,q.out.2.2.2.1,q.out.2.2.2.2]
    clear hl aH aN ak k0 k2 q;generalize wr.setCells (w.heap.size+1) 0 [(u:Int),(v:Int),(x:Int)]=D at*;have z:=ae (fun w' (b:J7 D w')=>(let B:=hq.Fh b;af (B.1.Qd.cell 0 rfl) (af (B.2.2.2.cell 0 rfl) (af (B.2.2.2.cell 1 rfl) (B.2.2.2.cell 2 rfl)))));have K:=ae (fun w' (b:J7 D w')=>(hq.Fh b).2.2.1);have r:=ae (fun w' (b:J7 D w')=>O.out i (u,v,x) w' p (hq.Fh b) st' H P);have A:=ae (fun w' (b:J7 D w')=>N.out i (u,v,x) w' p (hq.Fh b));have ar:Hid (F+(i+1)<st'+sz'->cO s.E (F+(i+1))=st'/\sz'=s.E st'/\(u,v,x)=(s.hp st',hf st',hg st')):=ae (fun B=>I.out i st' sz' (u,v,x) p H e3 P B);obtain ⟨Z,hZ⟩:∃Z,Z=oY s.E s.hp M s.F (F+i):=⟨_,rfl⟩;rw [<-hZ] at r A;unfold Cq ft at r;clear hZ;clear hq O N I H P e3;go_wp2;refine bz (fun w'=>J7 D w') 13 (by kernel_rfl) ((Kb _ D).drew) ?_;simp only [Kc];refine aL [c.y,c.y,c.y] ?_
    iterate 3 (refine aM rfl (fun w9 h9=>by go_simp) ?_;simp only [aa])
    refine aK ?_;refine ai c.m rfl (fun w' b=>by obtain ⟨k1,k2,k3,k4⟩:=z.out w' b;go_simp) ?_;simp only [aa];refine ai (.pointer (some ⟨w.heap.size,1,none⟩)) rfl (fun w' b=>by go_simp) ?_;simp only [aa];refine ai (t:Int) rfl (fun w' b=>by obtain ⟨k1,k2,k3,k4⟩:=z.out w' b;go_simp) ?_;simp only [aa];refine ai (i:Int) rfl (fun w' b=>by go_simp) ?_;simp only [aa];refine ai (.int .i64 ((t:Int)+(i:Int))) rfl (fun w' b=>by go_simp;rw [IntKind.wrap_i64];omega) ?_;simp only [aa];refine aL [c.y,(((F:Int)+(i:Int)):Int),((st':Int):Int)] ?_
    iterate 3 (refine aM rfl (fun w9 h9=>by go_simp) ?_;simp only [aa])
    refine aK ?_;refine ai (.agg #[(u:Int),(v:Int),(x:Int)]) rfl (fun w' b=>eX rfl (w.heap.size+1) rfl 32 _ (0,0) _ (K.out w' b) underlying32 rfl av.out) ?_;simp only [aa];refine bf (.int .u64 Z) 232 #[c.y,(((F:Int)+(i:Int)):Int),((st':Int):Int),.agg #[(u:Int),(v:Int),(x:Int)]] rfl (fun w'=>by go_simp) (fun w' b=>(r.out w' b).mono fun e w2 h=>⟨h.1,b.trans h.2 J8⟩) ?_;simp only [aa];refine wpQuiet_nil ?_;intro w5 R;have L:=ae (A.out w5 R);clear z K r A R;go_wp2_with fail
    refine L.out.mono ?_;rintro e w6 ⟨rfl,h6⟩;have H6:=ae h6;clear h6 L;go_wp2;go_roundw
    case rel=>exact ⟨i+1,st',sz',(u,v,x),rfl,rfl,by go_num,by omega,ar.out,aX,H6⟩
    case measure=>simp [intOf];omega
  ·have a6:i=k:=by omega
   subst a6;obtain ⟨z1,z2⟩:=S.out g wr d.out;have HZ:=ae (af z1 z2);clear d z1 z2 S O N T X J I V U p ag;go_wp2;go_end0;exact ⟨rfl,HZ.out⟩
end
def I4(s:dE)(i:Nat):Nat:=((List.range s.W).find? (fun a=>aw s.E a&&decide (ec s.E a=i))).getD 0
theorem At{s:dE}{a:Nat}(e:aw s.E a=true)(d:a<s.W):I4 s (ec s.E a)=a:=by
 unfold I4
 cases hf:(List.range s.W).find? (fun b=>aw s.E b&&decide (ec s.E b=ec s.E a)) with
 |none=>
  grind
 |some b=>
  have c:=List.find?_some hf;rw [ak,decide_eq_true_eq] at c
  grind [ux]
def sx(s:dE)(M:Nat->Nat)(t u:Nat):Nat->Nat:=fun x=>if t<=x/\x<u then oY s.E s.hp M s.F (I4 s (x-s.Qe)) else M x
theorem EZ(s:dE)(M:Nat->Nat)(t:Nat):sx s M t t=M:=by
 funext x;unfold sx;grind
def wO(X:Nat->Bool)(i0 i1:Nat):Nat->Bool:=fun j=>X j||decide (i0<=j/\j<i1)
theorem E1(X:Nat->Bool)(i:Nat):wO X i i=X:=by
 funext j;simp_all [wO,decide_eq_false]
section
variable{s:dE}{L M M1 M3:Nat->Nat}{mp mp1 mp3:Nat->Bool}{mvd:Nat->Bool}{fr ah left top k:Nat}{fw:Nat->Option Nat}
def gS(mvd:Nat->Bool)(k:Nat):Nat->Bool:=fun j=>mvd j||decide (j=k)
theorem fD.Fa(b:fD s){a:Nat}(c:aw s.E a=true):s.Qe<=s.F a/\s.F a<s.Qe+s.N/\s.F a<s.W:=by
 have d:=kf c (b.from_ a c).1;have e:=b.N2;have f:=b.to2;have g:s.F a=s.Qe+ec s.E a:=rfl;have h:s.N=Qc (aw s.E) 0 s.W:=rfl;omega
theorem fD.ne(b:fD s){a x:Nat}(c:aw s.E a=true)(d:s.Qe<=x)(e:x<s.Qe+s.N):a≠x:=by
 have f:=(b.from_ a c).2;have g:=b.N2;omega
theorem zZ(b:1<=s.P){X:Nat->Bool}{a:Nat}(c:aw s.E a=true)(d:X (ec s.E a)=false):lz s.P (aw s.E) X (a/s.P)=true:=
 (bU b).2 ⟨a,rfl,by rw [ak,fU];exact ⟨c,d⟩⟩
theorem mW.Xe(b:fD s)(h:mW s L M mp mvd fr ah left top){a:Nat}(c:aw s.E a=true)(d:mvd (ec s.E a/s.B)=false):mp (a/s.P)=true:=by
 rw [h.Qx _ (jq (b.from_ a c).1 b.P1 b.W1),zZ b.P1 c d];rfl
theorem fD.pgF(a:fD s){i:Nat}(b:i<s.R*s.P):(s.Qe+i)/s.P=s.Qe/s.P+i/s.P/\i/s.P<s.R:=
 ⟨yS a.P1 i a.toq,by rw [aO (by grind)];exact b⟩
theorem qU(b:fD s){a:Nat}(d:aw s.E a=true)(g:mvd (ec s.E a/s.B)=true):ii s mvd top (s.F a/s.P)=true:=by
 have e:=kf d (b.from_ a d).1;have c:=b.pgF (i:=ec s.E a) (by have:=b.N2;have j:s.N=Qc (aw s.E) 0 s.W:=rfl;omega);have f:s.F a=s.Qe+ec s.E a:=rfl;unfold ii;rw [f,c.1,decide_eq_true (dX (s.Qe/s.P) (ec s.E a/s.P)),decide_eq_true (jk c.2 (s.Qe/s.P)),ef];have h:pj s.P s.N (df s.B mvd) (ec s.E a/s.P)=true:=(bU b.P1).2 ⟨ec s.E a,rfl,by rw [ak,decide_eq_true_eq];exact ⟨e,g⟩⟩
 grind
theorem mW.Yl(b:fD s)(h:mW s L M mp mvd fr ah left top){a:Nat}(c:aw s.E a=true)(d:mvd (ec s.E a/s.B)=true):mp (s.F a/s.P)=true:=by
 rw [h.Qx _ (jq (b.Fa c).2.2 b.P1 b.W1),qU b c d,iA]
theorem mW.Xi(a:fD s)(h:mW s L M mp mvd fr ah left top)(c:top<=s.Qe+s.R*s.P){x:Nat}(e:s.Qe+s.N<=x)(f:x<top):ii s mvd top (x/s.P)=true/\mp (x/s.P)=true:=by
 have d:=a.pgF (i:=x-s.Qe) (by omega);rw [show s.Qe+(x-s.Qe)=x by omega] at d;have g:mY s top ((x-s.Qe)/s.P)=true:=(bU a.P1).2 ⟨x-s.Qe,rfl,by rw [ak,decide_eq_true_eq,decide_eq_true_eq];omega⟩;have b:ii s mvd top (x/s.P)=true:=by
  simp_all [ii]
 exact ⟨b,by rw [h.Qx _ (jq (by have:=a.to2;omega) a.P1 a.W1),b,iA]⟩
theorem l7(a:1<=s.B)(b:k<s.nb):k*s.B<s.N:=xT a b
theorem tK(f:fD s)(l:k<s.nb)(r:Nat):ll s.B s.P s.N k r=true↔k*s.B/s.P<=r/\r<=(min (k*s.B+s.B) s.N-1)/s.P:=by
 have d:=f.B1;have e:=f.P1;have m:=l7 d l;unfold ll;rw [bU e];constructor
 ·rintro ⟨i,b,a⟩;rw [ak,decide_eq_true_eq,decide_eq_true_eq] at a;have c:k*s.B<=i:=by rw [<-a.2];exact ba i s.B
  have g:i<k*s.B+s.B:=by
   have h:=az i s.B;have j:=aI i (show 0<s.B by omega)
   grind [Nat.mul_comm]
  rw [<-b];exact ⟨aS c,aS (by omega)⟩
 ·rintro ⟨b,a⟩;have n:=ba (min (k*s.B+s.B) s.N-1) s.P;have c:r*s.P<=min (k*s.B+s.B) s.N-1:=aH (aG _ a) n;have g:k*s.B<r*s.P+s.P:=by
   have h:=az (k*s.B) s.P;have j:=aI (k*s.B) (show 0<s.P by omega);have o:=aG s.P b
   grind
  refine ⟨max (k*s.B) (r*s.P),?_,?_⟩
  ·exact lY (i:=max (k*s.B) (r*s.P)-r*s.P) e (by omega) (by omega)
  ·rw [ak,decide_eq_true_eq,decide_eq_true_eq];refine ⟨by omega,?_⟩;exact lY (i:=max (k*s.B) (r*s.P)-k*s.B) d (by omega) (by omega)
theorem mW.need(a:fD s)(h:mW s L M mp mvd fr ah left top)(c:k<s.nb)(j:k=fr\/ah<s.Ah){t u:Nat}(x:t=s.Qe+k*s.B)(y:u=min (s.Qe+k*s.B+s.B) (s.Qe+s.N)):
  Qc mp 0 (s.W/s.P)+Qc (fq mp) (t/s.P) ((u-1)/s.P+1)<=s.R+(s.Ah+2)*(CB s.B s.P+3):=by
 have b:=a.B1;have f:=a.P1;have g:=l7 b c;have n:=h.bound a;have o:=dA (fq mp) (t/s.P) ((u-1)/s.P+1);have p:=a.N2;have q:=(a.pgF (i:=k*s.B) (by omega)).1;have r:=(a.pgF (i:=min (k*s.B+s.B) s.N-1) (by omega)).1;have l:t/s.P=s.Qe/s.P+k*s.B/s.P:=by grind
 have m:(u-1)/s.P=s.Qe/s.P+(min (k*s.B+s.B) s.N-1)/s.P:=by grind
 have d:ll s.B s.P s.N k ((min (k*s.B+s.B) s.N-1)/s.P)=true:=(tK a c _).2 ⟨aS (by omega),ag _⟩;have v:=(sd f b a.div d).2;have e:ah<=s.Ah:=h.Ah.2;have w:CB s.B s.P*ah<=CB s.B s.P*s.Ah:=cg _ e
 grind
theorem uZ(b:fD s)(f:k<s.nb){t u:Nat}(v:t=s.Qe+k*s.B)(w:u=min (s.Qe+k*s.B+s.B) (s.Qe+s.N))(q:Nat):
  ii s (gS mvd k) top q=(ii s mvd top q||(decide (t/s.P<=q)&&decide (q<=(u-1)/s.P))):=by
 have g:=b.B1;have e:=b.P1;have j:=l7 g f;have o:=b.N2;have p:=(b.pgF (i:=k*s.B) (by omega)).1;have r:=b.pgF (i:=min (k*s.B+s.B) s.N-1) (by omega);have m:t/s.P=s.Qe/s.P+k*s.B/s.P:=by grind
 have n:(u-1)/s.P=s.Qe/s.P+(min (k*s.B+s.B) s.N-1)/s.P:=by grind
 have h:=tK b f (q-s.Qe/s.P);have l:pj s.P s.N (df s.B (gS mvd k)) (q-s.Qe/s.P)=(pj s.P s.N (df s.B mvd) (q-s.Qe/s.P)||ll s.B s.P s.N k (q-s.Qe/s.P)):=by
  unfold pj ll;rw [bM,bL,bU e,bU e,bU e];constructor
  ·rintro ⟨i,c,a⟩;rw [ak] at a;have d:(mvd (i/s.B)||decide (i/s.B=k))=true:=a.2;rw [bL] at d;rcases d with d|d
   ·exact .inl ⟨i,c,by rw [ak];exact ⟨a.1,d⟩⟩
   ·exact .inr ⟨i,c,by grind⟩
  ·rintro (⟨i,c,a⟩|⟨i,c,a⟩)
   ·rw [ak] at a;refine ⟨i,c,?_⟩;rw [ak];exact ⟨a.1,by show (mvd (i/s.B)||decide (i/s.B=k))=true;have d:mvd (i/s.B)=true:=a.2;grind⟩
   ·rw [ak] at a;refine ⟨i,c,?_⟩;rw [ak];exact ⟨a.1,by show (mvd (i/s.B)||decide (i/s.B=k))=true;grind⟩
 unfold ii
 grind
theorem mW.drn(d:fD s)(h:mW s L M mp mvd fr ah left top)(f:k<s.nb){t u:Nat}(i:t=s.Qe+k*s.B)(j:u=min (s.Qe+k*s.B+s.B) (s.Qe+s.N))(c:∀q,mp1 q=(mp q||(decide (t/s.P<=q)&&decide (q<=(u-1)/s.P))))
  (b:∀q,(fw q).getD 0=qF s (df s.B mvd) q):Ja s (df s.B mvd) (ii s (gS mvd k) top) mp1 fw:=
 ⟨b,fun q g=>by rw [c,h.Qx q g,uZ d f i j,Bool.or_assoc],fun a e=>AT d e⟩
theorem tJ(b:1<=s.B){i:Nat}(g:i<s.N):df s.B (gS mvd k) i=wO (df s.B mvd) (k*s.B) (min (k*s.B+s.B) s.N) i:=by
 unfold df gS wO;congr 1
 rw [decide_eq_decide];constructor
 ·intro e;have a:=ba i s.B;have d:=az i s.B;have f:=aI i (show 0<s.B by omega)
  grind
 ·rintro ⟨a,c⟩;exact lY (i:=i-k*s.B) b (by omega) (by omega)
theorem Gs(a:fD s)(q:Nat):lz s.P (aw s.E) (wO (df s.B mvd) (k*s.B) (min (k*s.B+s.B) s.N)) q=lz s.P (aw s.E) (df s.B (gS mvd k)) q:=by
 unfold lz ly;congr 1
 funext i;show (aw s.E (q*s.P+i)&& !wO (df s.B mvd) (k*s.B) (min (k*s.B+s.B) s.N) (ec s.E (q*s.P+i)))=(aw s.E (q*s.P+i)&& !df s.B (gS mvd k) (ec s.E (q*s.P+i)))
 cases hl:aw s.E (q*s.P+i) with
 |false=>rfl
 |true=>
  have:=kf hl (a.from_ _ hl).1;rw [tJ a.B1 this]
theorem FM(a:fD s)(q:Nat):qF s (wO (df s.B mvd) (k*s.B) (min (k*s.B+s.B) s.N)) q=qF s (df s.B (gS mvd k)) q:=by
 unfold qF;refine bY (fun i _ _=> ?_);show (aw s.E i&& !wO (df s.B mvd) (k*s.B) (min (k*s.B+s.B) s.N) (ec s.E i))=(aw s.E i&& !df s.B (gS mvd k) (ec s.E i))
 cases hl:aw s.E i with
 |false=>rfl
 |true=>
  have:=kf hl (a.from_ _ hl).1;rw [tJ a.B1 this]
theorem mW.move(m:fD s)(h:mW s L M mp mvd fr ah left top)(Q:k<s.nb)(ag:mvd k=false){t u:Nat}(Z:t=s.Qe+k*s.B)(hu:u=min (s.Qe+k*s.B+s.B) (s.Qe+s.N))(w:top<=s.Qe+s.R*s.P)
  (aj:∀q,mp1 q=(mp q||(decide (t/s.P<=q)&&decide (q<=(u-1)/s.P)))) (K:∀b,b<s.W->mp (b/s.P)=true->M1 b=M b)
  (V:Ja s (wO (df s.B mvd) (k*s.B) (min (k*s.B+s.B) s.N)) (ii s (gS mvd k) top) mp3 fw) (O:∀b,b<s.W->mp3 (b/s.P)=true->M3 b=sx s M1 t u b)
  {n y p:Nat} (hf:(∀j,j<n->gS mvd k j=true)/\n<=s.nb/\(n<s.nb->gS mvd k n=false)) (d:y=Qc (gS mvd k) n s.nb/\y<=s.Ah) (hl:p+1=left):
  mW s L M3 mp3 (gS mvd k) n y p top/\∀q,(fw q).getD 0=qF s (df s.B (gS mvd k)) q:=by
 have U:=m.B1;have J:=m.P1;have ad:=l7 U Q;have v:∀q,q<s.W/s.P->mp3 q=(lz s.P (aw s.E) (df s.B (gS mvd k)) q||ii s (gS mvd k) top q):=fun q hq=>by rw [V.Qx q hq,Gs m]
 have D:∀a,aw s.E a=true->(ec s.E a/s.B=k↔t<=s.F a/\s.F a<u):=fun a d=>by
  have l:=kf d (m.from_ a d).1;have S:s.F a=s.Qe+ec s.E a:=rfl;have h5:s.N=Qc (aw s.E) 0 s.W:=rfl;rw [S,Z,hu];constructor
  ·intro e;have l:=ba (ec s.E a) s.B;have h5:=az (ec s.E a) s.B;have h6:=aI (ec s.E a) (show 0<s.B by omega)
   grind
  ·rintro ⟨l,o⟩;exact lY (i:=ec s.E a-k*s.B) U (by omega) (by omega)
 have A:∀x,x<s.W->mp (x/s.P)=true->¬(t<=x/\x<u)->mp3 (x/s.P)=true->M3 x=M x:=fun x hx l o S=>by
  simp_all [sx,if_neg]
 have C:∀a,a<s.W->aw s.E a=true->gS mvd k (ec s.E a/s.B)=false->M3 a=M a/\mvd (ec s.E a/s.B)=false:=fun a c d r=>by
  have l:mvd (ec s.E a/s.B)=false:=by grind [gS]
  refine ⟨A a c (h.Xe m d l) (fun Y=> ?_) ?_,l⟩
  ·exact m.ne d (by omega) (by omega) rfl
  ·rw [v _ (jq c J m.W1),zZ J d r];rfl
 refine ⟨⟨fun a c d r=> ?_,fun a c d r=> ?_,fun a c d r=> ?_,fun a c d r=> ?_,fun x l o=> ?_,v,hf,fun j hj=> ?_,d,?_,?_⟩,fun q=>by rw [V.cnts,FM m]⟩
 ·have z:=m.Fa d;have G:mp3 (s.F a/s.P)=true:=by rw [v _ (jq z.2.2 J m.W1),qU m d r,iA]
  by_cases e:ec s.E a/s.B=k
  ·rw [O _ z.2.2 G];unfold sx;rw [if_pos ((D a d).1 e),show s.F a-s.Qe=ec s.E a from by show s.Qe+ec s.E a-s.Qe=_;omega,At d c];have H:mvd (ec s.E a/s.B)=false:=by grind
   rw [jw d (K a c (h.Xe m d H))];exact h.still a c d H
  ·have l:mvd (ec s.E a/s.B)=true:=by simp_all [gS]
   rw [A _ z.2.2 (h.Yl m d l) (fun Y=>e ((D a d).2 Y)) G];exact h.Yh a c d l
 ·obtain ⟨l,o⟩:=C a c d r;rw [jw d l];exact h.still a c d o
 ·obtain ⟨l,o⟩:=C a c d r;rw [l];exact h.Qr a c d o
 ·obtain ⟨l,o⟩:=C a c d r;rw [l];exact h.small a c d o
 ·have I:x<s.W:=by have:=m.to2;omega
  rw [A x I (h.Xi m w l o).2 (by omega) ?_]
  ·exact h.behind x l o
  ·rw [v _ (jq I J m.W1),uZ m Q Z hu,(h.Xi m w l o).1];simp
 ·unfold gS;rw [h.far j hj,decide_eq_false (by omega)];rfl
 ·have l:=h.left;have o:Qc (gS mvd k) 0 s.nb=Qc mvd 0 s.nb+1:=by
   have T:∀f:Nat->Bool,Qc f 0 s.nb=Qc f 0 k+(if f k then 1 else 0)+Qc f (k+1) s.nb:=fun f=>by
    rw [bp f (ao (k+1)) (show k+1<=s.nb from Q),bJ f (ao k)]
   rw [T,T mvd,bY (f:=gS mvd k) (g:=mvd) (a:=0) (b:=k) (fun i _ hi=>by unfold gS;rw [decide_eq_false (by omega),fN]),bY (f:=gS mvd k) (g:=mvd) (a:=k+1) (b:=s.nb) (fun i hi _=>by unfold gS;rw [decide_eq_false (by omega),fN])]
   grind [gS]
  omega
 ·obtain ⟨X,x1,x2⟩:=h.Rm
  grind [gS]
end
theorem ri:∀{l:List (Nat×Nat×Nat)} {j:Nat} {x:Nat×Nat×Nat},l[j]? =some x->(io l)[3*j]? =some (.int .i64 (x.1:Int))/\(io l)[3*j+1]? =some (.int .i64 (x.2.1:Int))/\(io l)[3*j+2]? =some (.int .i64 (x.2.2:Int))
 |[],j,x,h=>by grind
 |y::l,0,x,h=>by
  simp only [eh,aT] at h;subst h;exact ⟨rfl,rfl,rfl⟩
 |y::l,j+1,x,h=>by
  rw [fg] at h;have:=ri h;rw [show 3*(j+1)=3*j+1+1+1 by omega];exact this
def wZ(w:World)(g:Nat)(l:List (Nat×Nat×Nat)):Prop:=∀j x,l[j]? =some x->w.rangeAt g (3*j) [((x.1:Int):Int),((x.2.1:Int):Int),((x.2.2:Int):Int)]
theorem wZ.frame{T:Nat->Prop}{w w':World}{g:Nat}{l:List (Nat×Nat×Nat)}(h:wZ w g l)(hf:Fr T w w')(d:¬T g):wZ w' g l:=fun j x c i v b=>
 (World.cell?_of_block (w:=w) (w':=w') (a:=⟨g,3*j+i,none⟩) (hf.block g (bu (h j x c i v b)) d)).trans (h j x c i v b)
theorem Ds{w:World}{b g cap:Nat}{l:List (Nat×Nat×Nat)}(h:w.ownsRow b 273 3 (.slice (some g) l.length cap) l.length (io l)):wZ w g l:=by
 intro j x a i v n;have m:=h.cells (g:=g) rfl;have f:∀k,(⟨g,0,none⟩:Addr).add k=⟨g,k,none⟩:=fun k=>by grind [Addr.add]
 obtain ⟨c,d,e⟩:=ri a
 grind
theorem oo{E:Nat->Nat}{Ba W:Nat}:∀{t:Nat} {l:List (Nat×Nat×Nat)} {u:Nat},pU E Ba W t l u->t+l.length<=u
 |t,[],u,h=>by have:t=u:=h;grind
 |t,x::l,u,h=>by
  obtain ⟨b,c,d,a⟩:=h;have:=oo a
  grind
theorem Be{E:Nat->Nat}{Ba W p u j:Nat}{l:List (Nat×Nat×Nat)}(h:pU E Ba W p (l.drop j) u)(a:j<l.length):∃F n,l[j]? =some (F,p,n)/\1<=n/\sK E Ba W p F n/\pU E Ba W (p+n) (l.drop (j+1)) u:=by
 rw [dn a] at h;obtain ⟨b,c,d,e⟩:=h
 grind
section
variable{c:Cy}{s:dE}{hf hg:Nat->Nat}{Fs Us Hg:Nat}{Sm:Nat->Prop}{mp mp1:Nat->Bool}{L M M1:Nat->Nat}{Mv:List Bool}{fw:Nat->Option Nat}{n left fr ah k top:Nat}{w w' w0:World}{mvd:Nat->Bool}
theorem fD.inBlk(f:fD s)(q:k<s.nb){t u:Nat}(l:t=s.Qe+k*s.B)(m:u=min (s.Qe+k*s.B+s.B) (s.Qe+s.N)){a:Nat}(d:aw s.E a=true):ec s.E a/s.B=k↔t<=s.F a/\s.F a<u:=by
 have j:=f.B1;have b:=kf d (f.from_ a d).1;have g:s.F a=s.Qe+ec s.E a:=rfl;have h:s.N=Qc (aw s.E) 0 s.W:=rfl;rw [g,l,m];constructor
 ·intro e;have b:=ba (ec s.E a) s.B;have h:=az (ec s.E a) s.B;have p:=aI (ec s.E a) (show 0<s.B by omega)
  grind
 ·rintro ⟨b,o⟩;exact lY (i:=ec s.E a-k*s.B) j (by omega) (by omega)
structure Js(s:dE)(mvd:Nat->Bool)(k t u F p n:Nat):Prop where
 t:t<=p
 u:p+n<=u
 live:∀i,i<n->aw s.E (F+i)=true/\F+i<s.W/\s.F (F+i)=p+i/\ec s.E (F+i)=ec s.E F+i/\ec s.E (F+i)/s.B=k
 at_:1<=n->ec s.E F+s.Qe=p
theorem Dw(m:fD s)(l:k<s.nb){t u:Nat}(o:t=s.Qe+k*s.B)(q:u=min (s.Qe+k*s.B+s.B) (s.Qe+s.N)){F p n:Nat}(e:t<=p)(d:p+n<=u)(r:1<=n)(g:sK s.E s.Qe s.W p F n):Js s mvd k t u F p n:=by
 have b:ec s.E F+s.Qe=p:=by
  obtain ⟨_,_,a⟩:=g 0 (by omega);rw [aP,aP,wt] at a;omega
 refine ⟨e,d,fun i j=> ?_,fun _=>b⟩;obtain ⟨h,f,a⟩:=g i j;have v:s.Qe+ec s.E (F+i)=p+i:=a;exact ⟨f,h,a,by omega,(m.inBlk l o q f).2 ⟨by show t<=s.Qe+ec s.E (F+i);omega,by show s.Qe+ec s.E (F+i)<u;omega⟩⟩
theorem Io(g:fD s)(h:mW s L M mp mvd fr ah left top)(T:k<s.nb)(A:mvd k=false){t u:Nat}(U:t=s.Qe+k*s.B)(V:u=min (s.Qe+k*s.B+s.B) (s.Qe+s.N)){F p n:Nat}(hp:Js s mvd k t u F p n)(C:1<=n)
  (m:∀q,mp1 q=(mp q||(decide (t/s.P<=q)&&decide (q<=(u-1)/s.P)))) (l:∀b,b<s.W->mp (b/s.P)=true->M1 b=M b) (y:∀a,s.E a≠0->dD (s.hp a) (hf a) (hg a)) (G:c.Qe=s.Qe) (R:s.Qe<=1048576):
  JI c s hf hg mp1 (sx s M1 t p) F p n:=by
 have H:u<=s.Qe+s.N/\s.Qe<=t:=by omega
 have Q:=g.to2;have O:=g.N2;have I:=hp.u;have D:=hp.t;have f:∀i,i<n->mvd (ec s.E (F+i)/s.B)=false:=fun i d=>by rw [(hp.live i d).2.2.2.2];omega
 have o:∀i j,i<n->j<n->p+i≠F+j:=fun i j d z e=>g.ne (hp.live j z).1 (x:=p+i) (by omega) (by omega) e.symm
 have r:∀i,i<n->sx s M1 t p (F+i)=M (F+i):=fun i d=>by
  unfold sx;rw [if_neg (fun S=>g.ne (hp.live i d).1 (x:=F+i) (by omega) (by omega) rfl),l _ (hp.live i d).2.1 (h.Xe g (hp.live i d).1 (f i d))]
 refine ⟨g.apart,?_,by omega,fun i d=>(hp.live i d).1,o,fun i d=> ?_,fun i d=> ?_,fun i d J K v=> ?_,fun i d=> ?_,y,by omega⟩
 ·have:=(hp.live (n-1) (by omega)).2.1;omega
 ·rw [m,h.Xe g (hp.live i d).1 (f i d)];rfl
 ·grind [Nat.div_le_div_right]
 ·rw [r i d] at v ⊢;exact h.Qr _ (hp.live i d).2.1 (hp.live i d).1 (f i d) J K v
 ·rw [r i d];exact h.small _ (hp.live i d).2.1 (hp.live i d).1 (f i d)
theorem Jo(e:fD s){t u F p n:Nat}(hp:Js s mvd k t u F p n)(g:s.Qe<=t)(i:u<=s.Qe+s.N):sH s (sx s M1 t p) F p n=sx s M1 t (p+n):=by
 funext x;have f:=hp.t;have h:=hp.u;unfold sH;by_cases b:p<=x/\x<p+n
 ·rw [if_pos b];have a:=hp.live (x-p) (by omega);have d:sx s M1 t p (F+(x-p))=M1 (F+(x-p)):=by
   unfold sx;rw [if_neg (fun l=>e.ne a.1 (x:=F+(x-p)) (by omega) (by omega) rfl)]
  rw [jw a.1 d];show _=(if t<=x/\x<p+n then oY s.E s.hp M1 s.F (I4 s (x-s.Qe)) else M1 x)
  rw [if_pos (by omega)];have j:s.Qe+ec s.E (F+(x-p))=p+(x-p):=a.2.2.1
  grind [At]
 ·rw [if_neg b];show (if t<=x/\x<p then oY s.E s.hp M1 s.F (I4 s (x-s.Qe)) else M1 x)=(if t<=x/\x<p+n then oY s.E s.hp M1 s.F (I4 s (x-s.Qe)) else M1 x)
  grind
theorem Jq{F p n t u a:Nat}{X:Nat->Bool}(hp:Js s mvd k t u F p n)(b:1<=n)(g:a<=p-s.Qe)(f:s.Qe<=t):EM s (wO X a (p-s.Qe)) F n=wO X a (p+n-s.Qe):=by
 funext j;have d:=hp.at_ b;have e:=hp.t;unfold EM wO
 grind
end
end Go.Proofs.YtgnoapadkncphaaGreatDoor
