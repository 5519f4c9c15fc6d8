import Derived.Test.YthahbijbpinneaaGreatDoorA1
import Derived.Test.YthahbijbpinneaaGreatDoorA5
import Derived.Test.YthahbijbpinneaaGreatDoorA6
import Derived.Test.YthahbijbpinneaaGreatDoorA8
import Derived.Test.YthahbijbpinneaaGreatDoorA9
import Derived.Deep.RegionHeld3
import Derived.OrdersIn
import Derived.TacticsIn
set_option maxRecDepth 100000
set_option maxHeartbeats 8000000
set_option linter.all false
namespace Go.Proofs.YthahbijbpinneaaGreatDoor
open Go.RowKit Go.Proofs.Tryz
inductive PK where
 |c (v:Value)
 |p (f:Value->World->Prop)
 |w (v:Value) (f:World->Prop)
def PK.post:PK->Value->World->Prop
 | .c x=>fun v _=>v=x
 | .p f=>f
 | .w x f=>fun v w=>v=x/\f w
def PK.val:PK->Value->Value
 | .c x,_=>x
 | .p _,v=>v
 | .w x _,_=>x
theorem PK.Xg:∀{k:PK} {v:Value} {w:World},k.post v w->k.val v=v
 | .c _,_,_,h=>Eq.symm h
 | .p _,_,_,_=>rfl
 | .w _ _,_,_,h=>Eq.symm h.1
def ij(ps:List PK)(j:Nat):PK:=ps.getD j (.p fun _ _=>True)
def j5(ps:List PK)(vs:Nat->Value)(j:Nat):Value:=(ij ps j).val (vs j)
def fp(vs:Nat->Value):Nat->List PK->List Oper->Array Value->Array Value
 |k,q::ps,o::l,t=>fp vs (k+1) ps l (match o.dst with|some d=>t.setIfInBounds d (q.val (vs k))|none=>t)
 |_,_,_,t=>t
theorem qn{a:List PK}{vs:Nat->Value}(ps:List PK):∀(l:List Oper) (k:Nat) (t:Array Value),ps.length=l.length->(∀j,ps[j]? =a[k+j]?)->fp vs k ps l t=df (j5 a vs) k l t:=by
 induction ps with
 |nil=>
  intro l k t b _
  cases l with
  |nil=>rfl
  |cons o l=>simp at b
 |cons q ps ih=>
  intro l k t b hp
  cases l with
  |nil=>simp at b
  |cons o l=>
   have f:ij a k=q:=by
    have:=hp 0;rw [bg] at this;unfold ij;rw [aQ,<-this];rfl
   have c:j5 a vs k=q.val (vs k):=by unfold j5;rw [f]
   have e:=ih l (k+1) (match o.dst with|some d=>t.setIfInBounds d (q.val (vs k))|none=>t) (by simpa using b) (fun j=>by have:=hp (j+1);rw [show k+(j+1)=k+1+j by omega] at this;exact this);rw [<-c] at e;have g:fp vs k (q::ps) (o::l) t=fp vs (k+1) ps l (match o.dst with|some d=>t.setIfInBounds d (q.val (vs k))|none=>t):=rfl;rw [g,<-c,e];rfl
def ny(R:World->World->Prop):List PK->Prop
 |[]=>True
 | .c _::l=>ny R l
 | .p f::l=>(∀v w w',f v w->R w w'->f v w')/\ny R l
 | .w _ f::l=>(∀w w',f w->R w w'->f w')/\ny R l
def lg(R:World->World->Prop)(d:Nat):Nat->List PK->Prop
 |_,[]=>True
 |k,.c _::l=>lg R d (k+1) l
 |k,.p f::l=>((k==d)=true\/∀v w w',f v w->R w w'->f v w')/\lg R d (k+1) l
 |k,.w _ f::l=>((k==d)=true\/∀w w',f w->R w w'->f w')/\lg R d (k+1) l
theorem mc{R:World->World->Prop}{d:Nat}:∀{ps:List PK} (k j:Nat),lg R d k ps->k+j≠d->∀v w w',(ij ps j).post v w->R w w'->(ij ps j).post v w'
 |[],_,_,_,_,_,_,_,_,_=>trivial
 | .c _::_,_,0,_,_,_,_,_,hp,_=>hp
 | .p _::_,k,0,h,hd,v,w,w',hp,hr=>(h.1.resolve_left (fun e=>hd (dz.1 e))) v w w' hp hr
 | .w _ _::_,k,0,h,hd,v,w,w',hp,hr=>⟨hp.1,(h.1.resolve_left (fun e=>hd (dz.1 e))) w w' hp.2 hr⟩
 | .c _::l,k,j+1,h,hd,v,w,w',hp,hr=>mc (R:=R) (d:=d) (ps:=l) (k+1) j h (by omega) v w w' hp hr
 | .p _::l,k,j+1,h,hd,v,w,w',hp,hr=>mc (R:=R) (d:=d) (ps:=l) (k+1) j h.2 (by omega) v w w' hp hr
 | .w _ _::l,k,j+1,h,hd,v,w,w',hp,hr=>mc (R:=R) (d:=d) (ps:=l) (k+1) j h.2 (by omega) v w w' hp hr
theorem pP{R:World->World->Prop}:∀{ps:List PK} (k:Nat),ny R ps->lg R (k+ps.length) k ps
 |[],_,_=>trivial
 | .c _::l,k,h=>by have:=pP (ps:=l) (k+1) h;rwa [show k+1+l.length=k+(l.length+1) by omega] at this
 | .w _ _::l,k,h=>⟨.inr h.1,by have:=pP (ps:=l) (k+1) h.2;rwa [show k+1+l.length=k+(l.length+1) by omega] at this⟩
 | .p _::l,k,h=>⟨.inr h.1,by have:=pP (ps:=l) (k+1) h.2;rwa [show k+1+l.length=k+(l.length+1) by omega] at this⟩
theorem nx{R:World->World->Prop}:∀{ps:List PK} (j:Nat),ny R ps->∀v w w',(ij ps j).post v w->R w w'->(ij ps j).post v w'
 |[],_,_,_,_,_,_,_=>trivial
 | .c _::_,0,_,_,_,_,hp,_=>hp
 | .p _::_,0,h,v,w,w',hp,hr=>h.1 v w w' hp hr
 | .w _ _::_,0,h,v,w,w',hp,hr=>⟨hp.1,h.1 w w' hp.2 hr⟩
 | .c _::l,j+1,h,v,w,w',hp,hr=>nx (R:=R) (ps:=l) j h v w w' hp hr
 | .p _::l,j+1,h,v,w,w',hp,hr=>nx (R:=R) (ps:=l) j h.2 v w w' hp hr
 | .w _ _::l,j+1,h,v,w,w',hp,hr=>nx (R:=R) (ps:=l) j h.2 v w w' hp hr
def rG(vs:Nat->Value)(w:World):Nat->List PK->Prop
 |_,[]=>True
 |k,.c _::l=>rG vs w (k+1) l
 |k,.p f::l=>f (vs k) w/\rG vs w (k+1) l
 |k,.w _ f::l=>f w/\rG vs w (k+1) l
theorem pW{vs:Nat->Value}{w:World}:∀(ps:List PK) (k:Nat),(∀j,j<ps.length->(ij ps j).post (vs (k+j)) w)->rG vs w k ps
 |[],_,_=>trivial
 |q::l,k,h=>by
  have a:=pW l (k+1) (fun j b=>by
   have:=h (j+1) (Nat.succ_lt_succ b);rw [show k+(j+1)=k+1+j by omega] at this;exact this)
  cases q with
  |c x=>exact a
  |p f=>exact ⟨h 0 (ke _),a⟩
  |w x f=>exact ⟨(h 0 (ke _)).2,a⟩
section
variable{P:Program}{d:Nat}{R R1:World->World->Prop}{nw:Nat->Bool}{ps:List PK}
def nY(P:Program)(wd:Nat->Bool)(F:(Nat->Value)->Act)(w0:World)(d:Nat)(R R1:World->World->Prop)(ps:List PK)(nw:Nat->Bool):Nat->List Oper->Prop
 |_,[]=>True
 |k,o::l=>(∀vs w,R w0 w->((k==d||wd k)=true->R1 w0 w)->(∀j,eF o j=true->(ij ps j).post (vs j) w)->(∀i j,nw i=true->nw j=true->eF o i=true->eF o j=true->i≠j->gd (vs i)≠gd (vs j))->dU P (F vs).eval o w (fun v w'=>(ij ps k).post v w'/\(bif k==d then R w w' else R1 w w')/\(nw k=true->jY w w' v)))/\nY P wd F w0 d R R1 ps nw (k+1) l
theorem o0{z:Nat->Bool}{w0:World}{a:Act}{l:List Oper}{n:Nat}(b:oa l):∀(m:List Oper) (k:Nat),(∀j,m[j]? =(l.take n)[k+j]?)->nY P z (fun vs=>{a with tmps:=df (j5 ps vs) 0 (l.take n) a.tmps}) w0 d R R1 ps nw k m->mx P z (fun vs=>{a with tmps:=df vs 0 (l.take n) a.tmps}) w0 d R R1 (fun j=>(ij ps j).post) nw k m
 |[],_,_,_=>trivial
 |o::m,k,hm,h=>by
  refine ⟨fun vs w A g u B=> ?_,o0 b m (k+1) (fun j=>by have:=hm (j+1);rw [show k+(j+1)=k+1+j by omega] at this;exact this) h.2⟩;have hp:=h.1 vs w A g u B;have s:=(hm 0).symm;have c:∀(j:Nat) (o:Oper),(l.take n)[j]? =some o->l[j]? =some o:=fun j o h=>by
   rw [eo] at h;split at h
   ·exact h
   ·cases h
  have g:l[k]? =some o:=c _ _ s;have r:execOp (({a with tmps:=df vs 0 (l.take n) a.tmps}:Act)).eval o=execOp (({a with tmps:=df (j5 ps vs) 0 (l.take n) a.tmps}:Act)).eval o:=by
   refine execOp_congr o (b.sel k o g) (fun x E=> ?_)
   cases x with
   |tmp t=>
    have e:(df vs 0 (l.take n) a.tmps)[t]? =(df (j5 ps vs) 0 (l.take n) a.tmps)[t]? :=by
     by_cases f:∃(j:Nat) (p:Oper),(l.take n)[j]? =some p/\p.dst=some t
     ·obtain ⟨j,p,hp,q⟩:=f;have v:∀i o',(l.take n)[i]? =some o'->o'.dst=some t->i=j:=fun i o' C e=>b.once i o' j p t (c _ _ C) (c _ _ hp) q e
      rw [jn (l.take n) 0 j _ p hp q v,jn (l.take n) 0 j _ p hp q v,br,show j5 ps vs j=vs j from PK.Xg (u j (b.reads k o j p t g (c _ _ hp) q E))]
     ·have y:∀o∈l.take n,o.dst≠some t:=fun o s e=>f (let ⟨j,D⟩:=bw.1 s;⟨j,o,D,e⟩)
      rw [fO _ _ _ y,fO _ _ _ y]
    simp only [Act.eval,cE,e]
   |_=>rfl
  unfold dU at*;rw [r];exact hp
theorem dw{G:Nat}{Q:Exit->Act->World->Prop}{a:Act}{w:World}{l:List Oper}(n d:Nat)(R R1:World->World->Prop)(ps:List PK)(nw:Nat->Bool)
  (r:∀w,R1 w w) (o:∀w w',R1 w w'->R w w') (e:∀w1 w2 w3,R1 w1 w2->R1 w2 w3->R1 w1 w3) (f:∀w1 w2 w3,R w1 w2->R1 w2 w3->R w1 w3) (g:∀w1 w2 w3,R1 w1 w2->R w2 w3->R w1 w3) (E:∀w w',R w w'->w.heap.size<=w'.heap.size) (c:ny R1 ps) (s:lg R d 0 ps)
  (h:∀F:(Nat->Value)->Act,(F=fun vs=>{a with tmps:=fp vs 0 ps (l.take n) a.tmps})->nY P (dF l d) F w.drew d R R1 ps nw 0 (l.take n)/\∀vs w',R w.drew w'->rG vs w' 0 ps->(∀i j,nw i=true->nw j=true->i<n->j<n->i≠j->gd (vs i)≠gd (vs j))->wpList P l.toArray Q (l.drop n) (F vs) w') (D:P.follows .mixedOrders=true:=by kernel_rfl) (t:iX l=true:=by kernel_rfl) (u:gN l=true:=by kernel_rfl) (k:(decide (n<=l.length)&&tZ l n&&Region.seqB .any l.toArray (l.length-n) n (jd l.length n))=true:=by kernel_rfl) (C:ps.length=n:=by rfl):
  (Code.region G l.toArray true).wp P Q a w:=by
 rw [au,au,aC] at k;have b:ps.length=(l.take n).length:=by rw [C,cg];omega
 have p:∀vs,fp vs 0 ps (l.take n) a.tmps=df (j5 ps vs) 0 (l.take n) a.tmps:=fun vs=>qn ps (l.take n) 0 _ b (fun j=>by rw [br])
 obtain ⟨x,y⟩:=h _ rfl;simp only [p] at x y;refine mK n d R R1 (fun j=>(ij ps j).post) nw D t u k.1.1 (pq k.1.2) k.2 r o e f g (fun j=>nx j c) (fun j v w w' m hp q=>mc 0 j s (by omega) v w w' hp q) E (fun F z=> ?_);subst z;refine ⟨o0 (jr t u) _ 0 (fun j=>by rw [br]) x,fun vs w' q hp _ A=> ?_⟩;have B:j5 ps vs=vs:=funext fun j=>by
  rcases aY j n with m|m
  ·exact PK.Xg (hp j m)
  ·unfold j5 ij;rw [aQ,cL (by omega)];rfl
 have:=y vs w' q (pW ps 0 (fun j m=>by rw [br];exact hp j (by omega))) A;rwa [B] at this
theorem cZ{q:Nat}{Q:Exit->Act->World->Prop}{a:Act}{w:World}{l:List Oper}(n:Nat)(R:World->World->Prop)(ps:List PK)(nw:Nat->Bool)
  (e:∀w,R w w) (b:∀w1 w2 w3,R w1 w2->R w2 w3->R w1 w3) (p:∀w w',R w w'->w.heap.size<=w'.heap.size) (c:ny R ps)
  (h:∀F:(Nat->Value)->Act,(F=fun vs=>{a with tmps:=fp vs 0 ps (l.take n) a.tmps})->nY P (dF l n) F w.drew n R R ps nw 0 (l.take n)/\∀vs w',R w.drew w'->rG vs w' 0 ps->(∀i j,nw i=true->nw j=true->i<n->j<n->i≠j->gd (vs i)≠gd (vs j))->wpList P l.toArray Q (l.drop n) (F vs) w') (o:P.follows .mixedOrders=true:=by kernel_rfl) (g:iX l=true:=by kernel_rfl) (k:gN l=true:=by kernel_rfl) (m:(decide (n<=l.length)&&tZ l n&&Region.seqB .any l.toArray (l.length-n) n (jd l.length n))=true:=by kernel_rfl) (f:ps.length=n:=by rfl):
  (Code.region q l.toArray true).wp P Q a w:=
 dw n n R R ps nw e (fun _ _ h=>h) b b b p c (by have:=pP (R:=R) 0 c;rwa [br,f] at this) h o g k m f
theorem oV{ρ:Operand->Value}{o:Oper}{w:World}{q:Value->World->Prop}{R1:World->World->Prop}{v:Value}{A:World->World->Prop}(h:(execOp ρ o).run P w= .ok (.value v) w)(hp:q v w)(a:R1 w w):dU P ρ o w (fun v w'=>q v w'/\(bif false then A w w' else R1 w w')/\(false=true->jY w w' v)):=
 ba v h ⟨hp,a,fun h=>nomatch h⟩
end
section
variable{b:Nat}{h:Hp}{c:Cf}{A:AG}{rs:List Nat}{φ L:Nat->Nat}{Ba u ub:Nat}{cy:Option Nat}{n:Nat}{ns bs:Int}{S T X q:Nat->Prop}{w w' w'':World}
theorem kP.ended{y:Nat}(a:kP q h c A rs φ L Ba u ub (some y) 0 ns bs S w)(hf:Fr (fun k=>k=h.b) w w'){l j:Int}(K:my w' h.b c h.m h.rb ub none l j):∃L' S',kP (fun _=>True) h c A rs φ L' Ba u ub none 0 l j S' w'/\∀k,S' k->S k:=by
 obtain ⟨i,V,s,N,hg,R,fr,U,o,⟨Us,qu,P⟩,r1,Q,C,D,r5,E,r7,r8⟩:=a.mem;obtain ⟨Hg,F,mp,M,fw,k,p1,p2,p3,p4,t⟩:=P;obtain ⟨G,H,I,Y,Z,J,e7,e8,e9⟩:=a.e;obtain ⟨v,p⟩:=p2.done o.ok o.Ys;have hP:=o.ok.P1;rw [C] at v p;rw [D,E] at p;have r:=p1.mem;rw [Q,D,E] at r;have B:=a.half.top;have z:=a.fits;have O:=a.Qs.Qq;refine ⟨M,F,⟨a.Qs,K,a.roots.frame hf (Ne.symm G) (Ne.symm H),aJ.frame a.Yb hf (Ne.symm I),aS a.Qp hf (Ne.symm J),a.laid.congr (fun k g x=>v k g x),a.Sl,a.fits,a.half,⟨rfl,Us,Hg,mp,⟨M,r.frame hf (fun k i e=>(a.d k ((t k).2 (.inl i))).1 e),fun _ _=>rfl⟩,fun k=> ?_⟩,fun k i=>a.d k ((t k).2 (.inl i)),a.e⟩,fun k i=>(t k).2 (.inl i)⟩;have f:=o.low1;rw [C] at f;rcases aY k (c.W/c.Pg) with g|g
 ·exact p k g f
 ·rw [r.off g];have x:c.W<=k*c.Pg:=by
   have h3:=aX c.Pg g;have h4:c.W/c.Pg*c.Pg=c.W:=by have:=aM c.W c.Pg;rw [a.Qs.Wp] at this;rw [aN];omega
   omega
  rw [ar (show¬k*c.Pg<Ba+u by omega),cV]
def Ax(h:Hp)(c:Cf)(A:AG)(rs:List Nat)(φ:Nat->Nat)(Ba u ub n:Nat)(S:Nat->Prop)(w:World)(e:Ending)(w':World):Prop:=e= .returned (.tuple #[])/\∃L' cy' ns' bs' S',kP (fun _=>True) h c A rs φ L' Ba u ub cy' n ns' bs' S' w'/\(n=0->cy'=none)/\Fr (fun k=>k=h.b) w w'/\∀k,S' k->S k
theorem yc(d:kP (fun _=>True) h c A rs φ L Ba u ub cy n ns bs S w):Calls prog 63 #[h.b] w (Ax h c A rs φ Ba u ub n S w):=by
 cases cy with
 |none=>
  have K:Hid (Ax h c A rs φ Ba u ub n S w (.returned (.tuple #[])) w):=ae ⟨rfl,L,none,ns,bs,S,d,fun _=>rfl,GQ _ _,fun _ h=>h⟩;have M:w.cell? ⟨h.b,11,none⟩=some (.pointer none):=aJ.cell d.Qd 11 rfl;generalize (Ax h c A rs φ Ba u ub n S w)=Q at*;clear d
  go_enter func63,ntmps63
  go_wp2;go_end0;exact K.out
 |some y=>
  have g:=d.Qd;have M:w.cell? ⟨h.b,11,none⟩=some y:=aJ.cell g 11 rfl;have ad:w.cell? ⟨h.b,12,none⟩=some (ns:Int):=aJ.cell g 12 rfl;have Xd:w.cell? ⟨h.b,13,none⟩=some (bs:Int):=aJ.cell g 13 rfl;have af:=aJ.free g 11;have al:=aJ.free g 12;have am:=aJ.free g 13;obtain ⟨B,fr,G,Z,C⟩:∃B fr G,B.y=y/\AC w B n fr G:=by
   obtain ⟨hk,B,s,aq,hg,Mv,fr,G,P,⟨Us,qu,R⟩,r1,r2⟩:=d.mem;exact ⟨B,fr,G,r1,(jU.cells P R.s).1⟩
  have i:=ae (yY C);have o:=ae (t7 (show AC w.drew B n fr G from aJ.frame C ((GQ (fun _=>False) w).drew) id));rw [Z] at i o;obtain ⟨x,I⟩:∃x,x=B.nb:=⟨_,rfl⟩;rw [<-I] at o;clear I C;have t:Hid (n≠0->Ax h c A rs φ Ba u ub n S w (.returned (.tuple #[])) w):=by
   show n≠0->_
   exact fun p=>⟨rfl,L,some y,ns,bs,S,d,fun e=>absurd e p,GQ _ _,fun _ h=>h⟩
  have r:Hid (n=0->∀w' D z,Fr (fun k=>k=h.b) w w'->my w' h.b c h.m h.rb ub none D z->Ax h c A rs φ Ba u ub n S w (.returned (.tuple #[])) w'):=by
   show n=0->∀w' D z,_
   rintro rfl w' D z hf O;obtain ⟨L',S',P,R⟩:=d.ended hf O;exact ⟨rfl,L',none,_,_,S',P,fun _=>rfl,hf,R⟩
  have J:=ae g;generalize (Ax h c A rs φ Ba u ub n S w)=Q at*;generalize h.b=b at*;clear d g Z;by_cases p:n=0
  ·have E:=ae (r.out p);subst p;clear t r;rw [aB rfl] at i
   go_enter func63,ntmps63
   go_wp2_with fail
   refine i.out.mono ?_;rintro e w2 ⟨rfl,rfl⟩;clear i;go_wp2;refine jP 12 (fun a b=>b=a) [fun v _=>v= .pointer (some ⟨b,0,none⟩),fun v _=>v= .pointer (some ⟨b,0,none⟩),fun v _=>v= .pointer (some ⟨b,13,none⟩),fun v _=>v= .int .i64 bs,fun v _=>v= .pointer (some ⟨b,0,none⟩),fun v _=>v= .pointer (some ⟨b,0,none⟩),fun v _=>v= .pointer (some ⟨b,11,none⟩),fun v _=>v= .pointer (some ⟨y,0,none⟩),fun v _=>v= .int .i64 x,fun v _=>v= .int .i64 (IntKind.i64.wrap (bs+(x:Int))),fun v _=>v= .pointer (some ⟨b,0,none⟩),fun v _=>v= .pointer (some ⟨b,13,none⟩)] (fun j=>false) (by kernel_rfl) (by kernel_rfl) (by kernel_rfl) (by kernel_rfl) rfl (fun _=>rfl) (fun _ _ _ V W=>W.trans V) (fun _ _ h=>by rw [h];exact ak _) ⟨fun _ _ _ h _=>h,fun _ _ _ h _=>h,fun _ _ _ h _=>h,fun _ _ _ h _=>h,fun _ _ _ h _=>h,fun _ _ _ h _=>h,fun _ _ _ h _=>h,fun _ _ _ h _=>h,fun _ _ _ h _=>h,fun _ _ _ h _=>h,fun _ _ _ h _=>h,fun _ _ _ h _=>h,trivial⟩ ?_;intro F Y;simp only [df,ai,an,aa] at Y;subst Y;refine ⟨⟨fun vs w1 d f l=> ?_,fun vs w1 d f l=> ?_,fun vs w1 d f l=> ?_,fun vs w1 d f l=> ?_,fun vs w1 d f l=> ?_,fun vs w1 d f l=> ?_,fun vs w1 d f l=> ?_,fun vs w1 d f l=> ?_,fun vs w1 d f l=> ?_,fun vs w1 d f l=> ?_,fun vs w1 d f l=> ?_,fun vs w1 d f l=> ?_,trivial⟩,?_⟩
   ·refine ba (.pointer (some ⟨b,0,none⟩)) ?_ ⟨rfl,rfl,fun h=>nomatch h⟩;go_simp
   ·have p:vs 0= .pointer (some ⟨b,0,none⟩):=f 0 (by kernel_rfl);refine ba (.pointer (some ⟨b,0,none⟩)) ?_ ⟨rfl,rfl,fun h=>nomatch h⟩;go_simp
   ·have V:vs 1= .pointer (some ⟨b,0,none⟩):=f 1 (by kernel_rfl);refine ba (.pointer (some ⟨b,13,none⟩)) ?_ ⟨rfl,rfl,fun h=>nomatch h⟩;go_simp
   ·have W:vs 2= .pointer (some ⟨b,13,none⟩):=f 2 (by kernel_rfl);refine ba (.int .i64 bs) ?_ ⟨rfl,rfl,fun h=>nomatch h⟩;subst d;go_simp
   ·refine ba (.pointer (some ⟨b,0,none⟩)) ?_ ⟨rfl,rfl,fun h=>nomatch h⟩;go_simp
   ·have h4:vs 4= .pointer (some ⟨b,0,none⟩):=f 4 (by kernel_rfl);refine ba (.pointer (some ⟨b,0,none⟩)) ?_ ⟨rfl,rfl,fun h=>nomatch h⟩;go_simp
   ·have h5:vs 5= .pointer (some ⟨b,0,none⟩):=f 5 (by kernel_rfl);refine ba (.pointer (some ⟨b,11,none⟩)) ?_ ⟨rfl,rfl,fun h=>nomatch h⟩;go_simp
   ·have h6:vs 6= .pointer (some ⟨b,11,none⟩):=f 6 (by kernel_rfl);refine ba (.pointer (some ⟨y,0,none⟩)) ?_ ⟨rfl,rfl,fun h=>nomatch h⟩;subst d;go_simp
   ·have h7:vs 7= .pointer (some ⟨y,0,none⟩):=f 7 (by kernel_rfl);subst d;refine bm 81 #[y] (by go_simp) (o.out.mono ?_);rintro e w2 ⟨rfl,rfl⟩;exact ⟨_,rfl,rfl,rfl,fun h=>nomatch h⟩
   ·have h3:vs 3= .int .i64 bs:=f 3 (by kernel_rfl);have h8:vs 8= .int .i64 x:=f 8 (by kernel_rfl);refine ba (.int .i64 (IntKind.i64.wrap (bs+(x:Int)))) ?_ ⟨rfl,rfl,fun h=>nomatch h⟩;go_simp
   ·have p:vs 0= .pointer (some ⟨b,0,none⟩):=f 0 (by kernel_rfl);refine ba (.pointer (some ⟨b,0,none⟩)) ?_ ⟨rfl,rfl,fun h=>nomatch h⟩;go_simp
   ·have ap:vs 10= .pointer (some ⟨b,0,none⟩):=f 10 (by kernel_rfl);refine ba (.pointer (some ⟨b,13,none⟩)) ?_ ⟨rfl,rfl,fun h=>nomatch h⟩;go_simp
   intro vs w1 d hp l;obtain ⟨g0,g1,g2,g3,g4,g5,g6,g7,g8,U,N,H,_⟩:=hp;simp only [U,H];subst d;clear g0 g1 g2 g3 g4 g5 g6 g7 g8 U N H l o;simp only [aj,ao];go_wp2;go_end0;refine E.out _ (wrap64 (ns+1)) (wrap64 (bs+(x:Int))) ?_ ?_
   ·exact ((((GQ (fun k=>k=b) w).setCell ⟨b,13,none⟩ (.inl rfl) _).setCell ⟨b,11,none⟩ (.inl rfl) _).setCell ⟨b,12,none⟩ (.inl rfl) _).drew
   ·exact aJ.frame (((J.out.set 13 _).set 11 _).set 12 _) ((GQ (fun _=>False) _).drew) id
  ·have K:=ae (t.out p);rw [ar p] at i;clear t r p o
   go_enter func63,ntmps63
   go_wp2_with fail
   refine i.out.mono ?_;rintro e w2 ⟨rfl,rfl⟩;clear i;go_wp2;go_end0;exact K.out
def Fo(b:Nat)(c:Cf)(A:AG)(rs:List Nat)(u n:Nat)(T:Nat->Prop)(w:World)(e:Ending)(w':World):Prop:=e= .returned (.tuple #[])/\∃T',eX b c A rs u n T' w'/\Fr T w w'/\∀k,T' k->T k\/w.heap.size<=k
theorem tj(j:C5 b c A rs u n T w):Calls prog 63 #[b] w (Fo b c A rs u n T w):=by
 obtain ⟨h,φ,L,Ba,ub,cy,ns,bs,S,rfl,l,i⟩:=j;refine (yc l).mono ?_;rintro e w' ⟨rfl,L',d,g,a,S',m,o,p,r⟩;exact ⟨rfl,kT h ub S',⟨h,φ,L',Ba,ub,d,g,a,S',rfl,m,fun _=>dX,o⟩,p.mono (fun k f=> .inl ((i k).2 (.inr (.inl f)))),fun k f=> .inl ((i k).2 (f.imp (r k) id))⟩
end
section
variable{b:Nat}{h:Hp}{c:Cf}{A A':AG}{rs:List Nat}{φ L L':Nat->Nat}{Ba u ub:Nat}{cy:Option Nat}{n n':Nat}{ns bs:Int}{S S' T X q q':Nat->Prop}{w w' w'':World}
theorem kP.Yu(a:kP q h c A rs φ L Ba u ub cy n ns bs S w)(hf:Fr S w w')(l:∀k,S' k->S k\/w.heap.size<=k)(p:vB c h.m Ba (Ba+u) q' L' S' w' cy n')(j:cP A' rs φ L' Ba (Ba+u)):kP q' h c A' rs φ L' Ba u ub cy n' ns bs S' w':=by
 have d:=a.d;have f:=a.lt;have o:cO<w.heap.size:=cl (a.Qp 0 0 rfl);refine ⟨a.Qs,aJ.frame a.Qd hf (fun h=>(d _ h).1 rfl),a.roots.frame hf (fun h=>(d _ h).2.1 rfl) (fun h=>(d _ h).2.2.1 rfl),aJ.frame a.Yb hf (fun h=>(d _ h).2.2.2.1 rfl),aS a.Qp hf (fun h=>(d _ h).2.2.2.2 rfl),j,a.Sl,a.fits,a.half,p,fun k i=> ?_,a.e⟩;rcases l k i with g|g
 ·exact d k g
 ·have r:=f _ (.inr (.inl rfl));have s:=f _ (.inr (.inr (.inl rfl)));have t:=f _ (.inr (.inr (.inr (.inl rfl))));have v:=f _ (.inr (.inr (.inr (.inr rfl))));omega
theorem kT.sub{a:Hp}(d:∀k,S' k->S k\/w.heap.size<=k):∀k,kT a ub S' k->kT a ub S k\/w.heap.size<=k:=by
 rintro k (h|h|h|h|h)
 ·exact (d k h).imp .inl id
 ·exact .inl (.inr (.inl h))
 ·exact .inl (.inr (.inr (.inl h)))
 ·exact .inl (.inr (.inr (.inr (.inl h))))
 ·exact .inl (.inr (.inr (.inr (.inr h))))
def CW(b:Nat)(c:Cf)(A:AG)(rs:List Nat)(u n:Nat)(T:Nat->Prop)(w:World)(e:Ending)(w':World):Prop:=e= .returned (.bool (decide (n≠0)))/\∃T',eX b c A rs u (n-1) T' w'/\Fr T w w'/\∀k,T' k->T k\/w.heap.size<=k
theorem qO(hi:eX b c A rs u n T w):Calls prog 17 #[b] w (CW b c A rs u n T w):=by
 obtain ⟨h,φ,L,Ba,ub,cy,ns,bs,S,rfl,d,p,i⟩:=hi;have t:=ae (gy d.Qd)
 cases cy with
 |none=>
  have g:n=0:=d.mem.1;have v:Hid (CW h.b c A rs u n T w (.returned (.bool false)) w):=ae ⟨by rw [ar (fun h=>h g)],T,⟨h,φ,L,Ba,ub,none,ns,bs,S,rfl,by rw [g] at d ⊢;exact d,p,fun _=>rfl⟩,GQ _ _,fun _ h=> .inl h⟩;have m:w.cell? ⟨h.b,11,none⟩=some (.pointer none):=aJ.cell d.Qd 11 rfl;generalize (CW h.b c A rs u n T w)=Q at*;clear d p i g
  go_enter func17,ntmps17
  go_wp2_with fail
  refine t.out.mono ?_;rintro e w1 ⟨rfl,rfl⟩;clear t;go_wp2;exact v.out
 |some y=>
  have g:n≠0:=fun h0=>by cases i h0
  have m:w.cell? ⟨h.b,11,none⟩=some y:=aJ.cell d.Qd 11 rfl;obtain ⟨f,I,s,r,hg,W,fr,ah,D,⟨Us,qu,K⟩,E,M,N,O,P,R,U,V⟩:=id d.mem;have z:=ae (tV D K.s g);rw [E] at z;have v:Hid (∀e w1,yy I s r hg c.Fs (Ba+u) W n fr L S w e w1->e= .returned (.tuple #[.bool true,(0:Int)])/\∃a,C5 h.b c A rs u (n-1) a w1/\Fr T w w1/\∀k,a k->T k\/w.heap.size<=k):=by
   show∀e w1,_
   rintro e w1 ⟨rfl,C,B,S',p1,p2,p3,p4⟩;refine ⟨rfl,kT h ub S',⟨h,φ,L,Ba,ub,some y,ns,bs,S',rfl,d.Yu p3 p4 ⟨f,I,s,r,hg,_,C,B,D,let ⟨us,hu⟩:=p1.su;⟨us,trivial,hu⟩,E,M,N,O,P,R,U,V⟩ d.laid,fun k=>dX⟩,p3.mono (fun k f=> .inl ((p k).2 (.inl f))),fun k f=>(kT.sub p4 k f).imp (p k).2 id⟩
  have F:=ae (fun a w1 (hj:C5 h.b c A rs u (n-1) a w1)=>tj hj);have G:Hid (∀a w1 e w2,Fr T w w1->(∀k,a k->T k\/w.heap.size<=k)->Fo h.b c A rs u (n-1) a w1 e w2->e= .returned (.tuple #[])/\CW h.b c A rs u n T w (.returned (.bool true)) w2):=by
   show∀a w1 e w2,_
   rintro a w1 e w2 g1 o ⟨rfl,Y,x,g4,g5⟩;have hz:=g1.size;exact ⟨rfl,by rw [aB g],Y,x,g1.trans g4 o,fun k f=>by
    rcases g5 k f with h|h
    ·exact o k h
    ·exact .inr (by omega)⟩
  have Z:¬n=0:=g;clear D K E M N O P R U V d p i f qu g Z;generalize h.b=b at*;generalize (CW b c A rs u n T w)=Q at*
  go_enter func17,ntmps17
  go_wp2_with fail
  refine t.out.mono ?_;rintro e w1 ⟨rfl,rfl⟩;clear t;go_wp2_with fail
  refine z.out.mono ?_;intro e w1 hp;obtain ⟨rfl,a,g1,o,x⟩:=v.out _ _ hp;have j:=ae (F.out a w1 g1);have l:=ae (fun e w2 hh=>G.out a w1 e w2 o x hh);clear hp g1 o x z v F G m;go_wp2_with fail
  refine j.out.mono ?_;intro e w2 hp;obtain ⟨rfl,J⟩:=l.out _ _ hp;have H:=ae J;clear hp J j l;go_wp2;exact H.out
def CY(b:Nat)(c:Cf)(A:AG)(rs:List Nat)(u:Nat)(T:Nat->Prop)(w:World)(e:Ending)(w':World):Prop:=e= .returned (.tuple #[])/\∃T',eX b c A rs u 0 T' w'/\Fr T w w'/\∀k,T' k->T k\/w.heap.size<=k
def ko(b:Nat)(c:Cf)(A:AG)(rs:List Nat)(u n:Nat)(T:Nat->Prop)(w w':World):Prop:=∃T',eX b c A rs u n T' w'/\Fr T w w'/\∀k,T' k->T k\/w.heap.size<=k
theorem ko.step(g:ko b c A rs u n T w w')(i:∀d,eX b c A rs u n d w'->∃a,eX b c A' rs u n' a w''/\Fr d w' w''/\∀k,a k->d k\/w'.heap.size<=k):ko b c A' rs u n' T w w'':=by
 obtain ⟨d,l,e,f⟩:=g;obtain ⟨a,m,o,p⟩:=i d l;have r:=e.size;exact ⟨a,m,e.trans o f,fun k j=>by
  rcases p k j with h|h
  ·exact f k h
  ·exact .inr (by omega)⟩
theorem mV(t:eX b c A rs u n T w):Calls prog 70 #[b] w (CY b c A rs u T w):=by
 have s:=ae (show ko b c A rs u n T w w from ⟨T,t,GQ _ _,fun _ h=> .inl h⟩);have f:=ae (fun n w1 (r:ko b c A rs u n T w w1)=>(show Calls prog 17 #[b] w1 fun e w2=>e= .returned (.bool (decide (n≠0)))/\ko b c A rs u (n-1) T w w2 from by
  obtain ⟨I,D,x,y⟩:=r;refine (qO D).mono ?_;rintro e w2 ⟨rfl,o,E,F,G⟩;have J:=x.size;exact ⟨rfl,o,E,x.trans F y,fun k C=>by
   rcases G k C with h|h
   ·exact y k h
   ·exact .inr (by omega)⟩))
 have a:Hid (∀w1,ko b c A rs u 0 T w w1->CY b c A rs u T w (.returned (.tuple #[])) w1):=ae (fun w1 r=>⟨rfl,r⟩);clear t;generalize (CY b c A rs u T w)=Q at*
 go_enter func70,ntmps70
 go_wp2
 go_loopw [] (fun wr=>∃n,Hid (ko b c A rs u n T w wr)) (fun wr=>gu (fun n=>ko b c A rs u n T w wr))
 case atStart=>exact ⟨n,s⟩
 case round=>
  clear s;obtain ⟨m,v⟩:=hrel;obtain ⟨l,_⟩:=dG (P:=fun n=>ko b c A rs u n T w wr) v.out;clear v;generalize i:gu (fun n=>ko b c A rs u n T w wr)=m0 at l;have z:=ae i;have g:=ae (f.out m0 wr l);have B:Hid (m0=0->ko b c A rs u 0 T w wr):=ae (fun e=>by rw [<-e];exact l);clear i l B;by_cases p:m0=0
  ·have d:=g;rw [p,ar (fun h=>h rfl)] at d;clear f g p;go_wp2_with fail
   refine d.out.mono ?_;rintro e w2 ⟨rfl,j⟩;have H:=ae (a.out w2 j);clear j d a;go_wp2;go_end0;exact H.out
  ·rw [aB p] at g;clear f;go_wp2_with fail
   refine g.out.mono ?_;rintro e w2 ⟨rfl,j⟩;have H:=ae j;clear j g a;go_wp2;go_roundw
   case rel=>exact ⟨m0-1,H⟩
   case measure=>exact bU (dG (P:=fun n=>ko b c A rs u n T w w2) H.out).2 (by omega)
end
theorem lj{P:Program}{fn:Func}{p q:Tmp}{c d:TypeId}{v u:Value}(h:fn.results= #[.cell p c,.cell q d])(tmps:Array Value)(w:World)(a b:Addr)(hp:tmps.getD p undef= .pointer (some a))(i:tmps.getD q undef= .pointer (some b))(f:(loadVar c a).run P w= .ok v w)(g:(loadVar d b).run P w= .ok u w):
  (results fn tmps).run P w= .ok (.tuple #[v,u]) w:=by
 have e:(results fn tmps).run P w=((asAddr (tmps.getD p undef)).run P w).andThen fun a w1=>((loadVar c a).run P w1).andThen fun v w2=>((asAddr (tmps.getD q undef)).run P w2).andThen fun b w3=>((loadVar d b).run P w3).andThen fun u w4=> .ok (.tuple #[v,u]) w4:=by
  simp only [results,h];simp [Sem.run_bind,Result.andThen]
 rw [e,hp,i];simp [asAddr,Result.andThen,f,g]
theorem BQ{w:World}{a:Addr}{x:Int}(h:w.cell? a=some (x:Int)):(loadVar 3 a).run prog w= .ok (.int .i64 x) w:=by
 go_simp
theorem qJ{w:World}{a:Addr}{x:Int}(h:w.cell? a=some (x:Int)):(loadVar 28 a).run prog w= .ok (.int .i64 x) w:=by
 go_simp
theorem mM{P:Program}{c:Code}{Q:Exit->Act->World->Prop}{a:Act}{w:World}(h:c.wp P (fun e a w=>match e with| .normal=>Q .normal a w|_=>False) a w):c.wp P Q a w:=
 wp_mono h (fun e a w h=>by cases e<;>first|exact h|exact h.elim)
section
variable{m b g Pg W Fs Us Hg:Nat}{S:Nat->Prop}{mp:Nat->Bool}{L:Nat->Nat}{ls:List Nat}{G:Gr}{w:World}
def Ga(m Pg W Fs Us Hg:Nat)(mp:Nat->Bool)(L:Nat->Nat)(S:Nat->Prop)(G:Gr)(ls:List Nat)(w:World)(e:Ending)(w':World):Prop:=
 ∃(E:Nat->Nat) (S':Nat->Prop),e= .returned (.tuple #[(((Qb (aI E) 0 W:Nat):Int):Int),(0:Int)])/\dY m Pg W Fs Us Hg mp L S' w'/\(∀k,S' k->S k\/w.heap.size<=k)/\(∀a,E a≠0↔Reach G ls a)/\fQ G ls E/\Fr S w w'
def Gy(m Pg W Fs Us Hg:Nat)(mp:Nat->Bool)(L:Nat->Nat)(S:Nat->Prop)(EL:cF)(G:Gr)(ls:List Nat)(wx w3:World)(st:je):Prop:=
 ∃S',dY m Pg W Fs Us Hg mp L S' w3/\(∀k,S' k->S k\/wx.heap.size<=k)/\eJ w3 EL W st.E/\fQ G ls st.E/\st.nw=Qb (aI st.E) 0 W/\(∀a,st.E a≠0↔Reach G ls a)/\Fr (fun k=>S k\/EL.has k) wx w3
theorem BI{EL:cF}{w2:World}{Rm Tp:Nat}(I:dY m Pg W Fs Us Hg mp L S w)(D:et w)(u:¬S cO)(C:gw G ls Tp)(Q:∀a,G.size a≠0->jy L (dD W Pg mp) G a)(f:Tp<=W)(O:1<=Rm)(P:Rm<=4096)(hf:GM w w2)(H:eJ w2 EL W (fun _=>0))(K:∀k,EL.has k->w.heap.size<k)(V:ls.length<=64)
  (l:Nat) (T:l<w2.heap.size):
  ∀(d:World) (_:GM w2 d) (n B:Nat) (_:w2.heap.size<=n) (_:n<d.heap.size) (_:∀(i a:Nat),ls[i]? =some a->d.cell? ⟨n,i,none⟩=some (a:Int)),Calls prog 68 #[.iface 112 (.pointer (some ⟨m,0,none⟩)),.slice (some n) ls.length B,EL.m,(Rm:Int)] d fun e w3=>
   ∃(o:je) (x y:Int),e= .returned (.tuple #[.agg #[((o.no:Int):Int),((o.nw:Int):Int),(x:Int),(y:Int)],(0:Int)])/\(∀q cs t,w2.heap.size<=q->aJ d q cs t->aJ w3 q cs t)/\(∀v,¬S l->¬EL.has l->d.cell? ⟨l,5,none⟩=some v->w3.cell? ⟨l,5,none⟩=some v)/\Gy m Pg W Fs Us Hg mp L S EL G ls d w3 o:=by
 intro d M n B r1 r2 r3;have c:=cw m Pg W Fs Us Hg mp;have j:=c.lt _ _ _ I;have r:=hf.trans M GN;have hz:=hf.size;have X:cO<w.heap.size:=cl (D 0 0 rfl);have p:=H.lt;refine (mU (w:=d) (Rm:=Rm) c (c.Qa I r) C f Q O P (H.frame M (fun _ _ h=>h)) (aS D r id) (fun k J=>⟨fun h=>by have:=j k J;have:=K k h;omega,fun e=>u (e▸J)⟩) (fun h=>by have N:=K _ h;omega) n B ⟨r2,fun h=>by have:=j _ h;omega,fun h=>by have:=p _ h;omega⟩ r3 (by omega)).mono ?_;rintro e w3 ⟨o,x,y,S',rfl,q1,q2,q3,z,q5,A⟩;refine ⟨o,x,y,rfl,fun q cs t hq R=>R.frame A (fun h=> ?_),fun v Y Z F=> ?_,S',q1,q2,q3,z.marked,?_,q5,A⟩
 ·rcases h with h|h
  ·have:=j q h;omega
  ·have:=p q h;omega
 ·exact (World.cell?_of_block (w:=d) (w':=w3) (a:=⟨l,5,none⟩) (A.block _ (cl F) (fun h=>h.elim Y Z))).trans F
 ·rw [z.nw,bJ (aI o.E) (aF Tp) f,cu (a:=Tp) (b:=W) (fun i N _=>by
   rw [be];intro U;obtain ⟨s,s1,s2⟩:=cX.1 U;have h6:=(z.marked s (by omega)).2;have:=C.top s (by omega);omega),bg]
def Gh(m Pg W Fs Us Hg:Nat)(mp:Nat->Bool)(L:Nat->Nat)(S:Nat->Prop)(EL:cF)(G:Gr)(ls:List Nat)(w2:World)(sb:Nat)(st:je)(wx:World):Prop:=
 w2.heap.size<=sb/\(∃nr nv:Int,aJ wx sb [((st.no:Int):Int),((st.nw:Int):Int),(nr:Int),(nv:Int)] 136)/\∃S',dY m Pg W Fs Us Hg mp L S' wx/\(∀k,S' k->S k\/w2.heap.size<=k)/\eJ wx EL W st.E/\fQ G ls st.E/\st.nw=Qb (aI st.E) 0 W/\(∀a,st.E a≠0↔Reach G ls a)/\Fr (fun k=>S k\/EL.has k) w2 wx
theorem yk{EL:cF}{w2 i w4:World}{a:je}{c d:Int}(h:Gy m Pg W Fs Us Hg mp L S EL G ls i w4 a)(e:GM w2 i):Gh m Pg W Fs Us Hg mp L S EL G ls w2 w4.heap.size a (w4.alloc (.cells #[((a.no:Int):Int),((a.nw:Int):Int),(c:Int),(d:Int)] 136)):=by
 obtain ⟨S',n,o,p,q,r,s,f⟩:=h;have t:=e.size;have l:=f.size;have hf:GM w4 (w4.alloc (.cells #[((a.no:Int):Int),((a.nw:Int):Int),(c:Int),(d:Int)] 136)):=(GQ _ w4).alloc _;exact ⟨by omega,⟨c,d,aJ.new w4 _ _⟩,S',(cw m Pg W Fs Us Hg mp).Qa n hf,fun k j=>(o k j).imp id (fun h=>by omega),p.frame hf (fun _ _ h=>h),q,r,s,((e.mono GN).trans f (fun k h=> .inl h)).trans hf GN⟩
theorem pU{EL:cF}{w2 l w4:World}{a:je}{i j:Int}{sb:Nat}(h:Gy m Pg W Fs Us Hg mp L S EL G ls l w4 a)(n:GM w2 l)(f:∀k,S k->k<w2.heap.size)(d:∀k,EL.has k->k<w2.heap.size)(q:w2.heap.size<=sb)(z:sb<l.heap.size)(r:aJ w4 sb [(0:Int),(0:Int),(0:Int),(0:Int)] 136):
  Gh m Pg W Fs Us Hg mp L S EL G ls w2 sb a ((((w4.setCell sb (.int .i64 (a.no:Int))).setCell ⟨sb,1,none⟩ (.int .i64 (a.nw:Int))).setCell ⟨sb,2,none⟩ (.int .i64 i)).setCell ⟨sb,3,none⟩ (.int .i64 j)):=by
 obtain ⟨S',t,o,u,v,x,y,p⟩:=h;have A:=n.size;have s:=p.size;have hf:Fr (fun k=>k=sb) w4 ((((w4.setCell sb (.int .i64 (a.no:Int))).setCell ⟨sb,1,none⟩ (.int .i64 (a.nw:Int))).setCell ⟨sb,2,none⟩ (.int .i64 i)).setCell ⟨sb,3,none⟩ (.int .i64 j)):=
  ((((GQ (fun k=>k=sb) w4).setCell sb (.inl rfl) _).setCell ⟨sb,1,none⟩ (.inl rfl) _).setCell ⟨sb,2,none⟩ (.inl rfl) _).setCell ⟨sb,3,none⟩ (.inl rfl) _
 refine ⟨q,⟨i,j,(((r.set 0 _).set 1 _).set 2 _).set 3 _⟩,S',(da m Pg W Fs Us Hg mp) _ _ _ _ _ t hf (fun k c e=> ?_),fun k c=>(o k c).imp id (fun h=>by omega),u.frame hf (fun k c e=>by have:=d k c;omega),v,x,y,((n.mono GN).trans p (fun k h=> .inl h)).trans hf (fun k h=> .inr (by omega))⟩;subst e;rcases o k c with h|h
 ·have:=f k h;omega
 ·omega
def C6(EL:cF)(tb W cb:Nat)(cs:List Value)(E:Nat->Nat)(_:List (Nat×Nat))(S:Nat->Prop)(w:World):Prop:=rK EL tb W E w/\aJ w cb cs 143/\∀k,¬S k
theorem C6.stays{EL:cF}{tb d B:Nat}{cs:List Value}{E:Nat->Nat}(e:∀k,EL.has k->k<B)(q:tb<B)(r:d<B)(s:cO<B):gE B (C6 EL tb W d cs E):=by
 rintro h S W1 p T ⟨⟨i,j,l⟩,n,o⟩ hf c;exact ⟨⟨i.frame hf (fun k f a=>by have:=e k f;have:=(c k a).1;omega),aS j hf (fun a=>by have t:=(c cO a).1;omega),l.frame hf (fun a=>by have:=(c _ a).1;omega)⟩,n.frame hf (fun a=>by have:=(c _ a).1;omega),o⟩
attribute [local go_sem] Oper.semAt_some
theorem Ae(d:Nat)(hi:dY m Pg W Fs Us Hg mp L S w)(hr:dt w b g ls)(hT:et w)(bi:¬S cO)(F Tp T r B Rm O:Nat)(hc:nh Pg W F Tp T r B Rm O)(hG:gw G ls Tp)(hO:∀a,G.size a≠0->jy L (dD W Pg mp) G a)(bs:∀a,G.size a≠0->F<=a)(bU:1<=ls.length)(au:Tp-F<=r-T):
  CallsIn Fence.wide d prog 143 #[m,b,gY F Tp T r B Rm O] w (Ga m Pg W Fs Us Hg mp L S G ls w):=by
 refine callsIn_of_wp_marks func143 rfl trivial ?_ rfl;simp only [ntmps143,cU,bn,ch,Nat.reduceAdd,Nat.reduceSub,cH,cG,de,cQ,bZ,dd];have bI:Hid (∀F Tp T r B q O:Nat,gY F Tp T r B q O= .agg #[(F:Int),(Tp:Int),(T:Int),(r:Int),(B:Int),(q:Int),(O:Int)]):=by
  show∀F Tp T r B q O:Nat,_
  intros;rfl
 have al:=cw m Pg W Fs Us Hg mp;obtain ⟨e1,e2,e3,e4,e5,e6,e7,e8,bS⟩:=hi.choose_spec.1.at;clear e1 e2 e4 e5 e6 e7 e8;have bv:=al.lt _ _ _ hi;have bu:=hr.small;obtain ⟨W1,A⟩:∃W1,((w.alloc (.cells #[(F:Int),(Tp:Int),(T:Int),(r:Int),(B:Int),(Rm:Int),(O:Int)] 143)).alloc (.cells #[(0:Int)] 3)).alloc (.cells #[(0:Int)] 28)=W1:=⟨_,rfl⟩;have aj:GM w W1:=by rw [<-A];exact (((GQ _ w).alloc _).alloc _).alloc _
 have z:Hid (W1.heap.size=w.heap.size+3):=by
  show _=_
  rw [<-A,World.size_alloc,World.size_alloc,World.size_alloc]
 have v:aJ W1 w.heap.size [(F:Int),(Tp:Int),(T:Int),(r:Int),(B:Int),(Rm:Int),(O:Int)] 143:=by rw [<-A];exact ((aJ.new w _ _).alloc _).alloc _
 have ar:aJ W1 (w.heap.size+1) [(0:Int)] 3/\aJ W1 (w.heap.size+1+1) [(0:Int)] 28:=by
  rw [<-A];refine ⟨?_,?_⟩
  ·have:=(aJ.new (w.alloc (.cells #[(F:Int),(Tp:Int),(T:Int),(r:Int),(B:Int),(Rm:Int),(O:Int)] 143)) [(0:Int)] 3).alloc (.cells #[(0:Int)] 28);rwa [World.size_alloc] at this
  ·have:=aJ.new ((w.alloc (.cells #[(F:Int),(Tp:Int),(T:Int),(r:Int),(B:Int),(Rm:Int),(O:Int)] 143)).alloc (.cells #[(0:Int)] 3)) [(0:Int)] 28;rwa [World.size_alloc,World.size_alloc] at this
 have R:=ae ar;clear ar;have aM:=hr.frame aj id id;have aY:=ae (qk aM);have ax:=ae (rQ (hi.choose_spec.1.Qa aj) hc);unfold gY at ax;unfold gY;have b8:¬(ls.length:Int)=0:=by omega
 have Z:=ae aj;have bc:=ae aM;have bd:=ae (aS hT aj id);have bE:=ae v;have j:=ae (ag hi (ag hr (ag hT (ag bi (ag hc (ag hG (ag hO (ag bs (ag au (ag al (ag bv bu)))))))))));have b0:W<=1048576:=by omega
 obtain ⟨k0,k1,k2,k3,k4,k5,k6,_⟩:=GU v;clear hi hr hT bi hc hG hO bs bU au al bv bu aj v aM bI e3;gi_wp2;clear A;refine ep (aY.out.mono ?_);rintro e w' ⟨rfl,rfl⟩;clear aY;gi_wp2;refine ep (ax.out.mono ?_);rintro e w1 ⟨rfl,aH⟩;clear ax k0 k1 k2 k3 k4 k5 k6;have y:=ae aH;have bf:=ae (gS (j.out.1.choose_spec.1.Qa (Z.out.trans aH GN)));clear aH;gi_wp2;refine ep (bf.out.mono ?_);rintro e w' ⟨rfl,rfl⟩;have bb:=ae (nR W bS b0 w1);clear bf;gi_wp2;refine ep (bb.out.mono ?_);rintro e w2 ⟨EL,rfl,he,hn,hf⟩;clear bb;have Y:=ae (ag he (ag hn hf));have c:=y.out.trans hf GN;have aR:=ae (bE.out.frame c id);have U:=ae (fun w' (hf:GM w2 w')=>(aR.out.frame hf id).cell 5 rfl);have aQ:=ae (fun w' (hf:GM w2 w')=>nz ((bc.out.frame c id id).frame hf id id));have ay:=ae (BI (EL:=EL) (w2:=w2) (Rm:=Rm) (G:=G) (ls:=ls) (Tp:=Tp) j.out.1 j.out.2.2.1 j.out.2.2.2.1 j.out.2.2.2.2.2.1 j.out.2.2.2.2.2.2.1 j.out.2.2.2.2.1.F3 j.out.2.2.2.2.1.s1 j.out.2.2.2.2.1.s2 ((Z.out).trans c GN) he (fun k p=>by have P:=hn k p;have h2:W1.heap.size=w.heap.size+3:=z.out;have h3:=y.out.size;omega) (j.out.2.2.2.2.2.2.2.2.2.2.2) w.heap.size (by have P:W1.heap.size=w.heap.size+3:=z.out;have h2:=c.size;omega));have V:=ae ((GQ (fun _=>False) w2).drew);have X:=ae (fun o=>((GQ (fun _=>False) w2).alloc o).drew);have u:=ae (show (∀k,S k->k<w2.heap.size)/\(∀k,EL.has k->k<w2.heap.size)/\w2.heap.size≥w.heap.size+3 from ⟨fun k p=>by have P:k<w.heap.size:=j.out.2.2.2.2.2.2.2.2.2.2.1 k p;have h2:=Z.out.size;have h3:=c.size;omega,fun k p=>he.lt k p,by have h2:W1.heap.size=w.heap.size+3:=z.out;have h3:=c.size;omega⟩);have a0:Hid (w2.heap.size≠w.heap.size):=ae (by have P:=cl (U.out w2 (GQ _ _));exact fP P);have N:=ae (show¬S w.heap.size/\¬EL.has w.heap.size from ag (fun h=>by have P:w.heap.size<w.heap.size:=j.out.2.2.2.2.2.2.2.2.2.2.1 _ h;omega) (fun h=>by have P:=hn _ h;have h2:W1.heap.size=w.heap.size+3:=z.out;have h3:=y.out.size;omega));clear he hn hf c;gi_wp2;refine wpIn_wide.2 ?_
 go_cut [11,12] from 15 to 69 (fun b2 b3 wx=>∃(sb:Nat) (q:je),b2= .pointer (some ⟨sb,0,none⟩)/\b3= .int .i64 0/\Hid (Gh m Pg W Fs Us Hg mp L S EL G ls w2 sb q wx))
 case first=>
  refine mM ?_
  go_region_held3 (fun w'=>w'.cell? ⟨w.heap.size,5,none⟩=some (.int .i64 Rm)) (with_reducible first
   |assumption
   |exact U.out _ V.out
   |exact U.out _ (X.out _)
   |(refine (World.cell?_alloc_lt _ _ _ (World.block_lt_of_cell? _ _ (by assumption))).trans (by assumption))
   |((iterate 4 (refine (World.cell?_setCell_far _ _ _ _ (by first|exact fP (World.block_lt_of_cell? _ _ C)|exact gA (World.block_lt_of_cell? _ _ C)|exact fP (World.block_lt_of_cell? _ _ ai)|exact gA (World.block_lt_of_cell? _ _ ai)|exact a0.out)).trans ?_));assumption)) (first
   |(go_at_call 69;refine (aQ.out _ (by with_reducible first|exact V.out|exact X.out _)).mono ?_;rintro e w3 ⟨rb,rc,rfl,r1,r2,r3,ap⟩;(have J:GM w2 w3:=by with_reducible first|exact V.out.trans ap GN|exact (X.out _).trans ap GN);(have bD:w2.heap.size<=rb:=by with_reducible first|exact aZ V.out.size r1|exact aZ (X.out _).size r1);have C:=U.out w3 J;(try (have bl:aJ w3 w2.heap.size [(0:Int),(0:Int),(0:Int),(0:Int)] 136:=aJ.frame (by with_reducible exact aJ.drew (aJ.new w2 _ _)) ap id));clear ap r1)
   |(go_at_call 68;with_reducible refine (ay.out w3 J rb rc bD r2 r3).mono ?_;rintro e w4 ⟨q,nr,nv,rfl,aL,af,aq⟩;have ai:=af _ N.out.1 N.out.2 C;(try (have f:=aL _ _ _ (ak _) bl;obtain ⟨k0,k1,k2,k3,_⟩:=GR f;have l0:=f.free 0;have l1:=f.free 1;have l2:=f.free 2;have l3:=f.free 3));clear af)
   |(go_at_call 68;refine (ay.out (w3.alloc _) (J.alloc _) rb rc bD (by rw [World.size_alloc];omega) (fun i a ha=>(World.cell?_alloc_lt _ _ _ (World.block_lt_of_cell? _ _ (r3 i a ha))).trans (r3 i a ha))).mono ?_;rintro e w4 ⟨q,nr,nv,rfl,aL,af,aq⟩;have ai:=af _ N.out.1 N.out.2 ((World.cell?_alloc_lt _ _ _ (World.block_lt_of_cell? _ _ C)).trans C);have f:=aL _ _ _ J.size (aJ.new w3 [(0:Int),(0:Int),(0:Int),(0:Int)] 136);obtain ⟨k0,k1,k2,k3,_⟩:=GR f;have l0:=f.free 0;have l1:=f.free 1;have l2:=f.free 2;have l3:=f.free 3;clear af))
  ·go_wp2;go_meet
   case rel=>exact ⟨_,q,rfl,rfl,ae (yk aq J)⟩
  ·go_wp2;go_meet
   case rel=>exact ⟨_,q,rfl,rfl,ae (pU aq (J.alloc _) u.out.1 u.out.2.1 J.size (by rw [World.size_alloc];omega) f)⟩
  ·go_wp2;go_meet
   case rel=>exact ⟨_,q,rfl,rfl,ae (pU aq J u.out.1 u.out.2.1 (ak _) bl.lt f)⟩
 case rest=>
  clear U aQ ay V X a0;obtain ⟨sb,q,rfl,rfl,hm⟩:=hcut;obtain ⟨z1,⟨nr,nv,zb⟩,S',z2,z3,z4,z5,z6,z7,Q⟩:=hm.out;have aT:=ae (aR.out.frame Q (fun h=>h.elim N.out.1 N.out.2));have HA:=ae (jv EL.m wc);gi_wp2;refine ep (HA.out.mono ?_);rintro e W7 ⟨rfl,an⟩;have H:GM wc W7:=by rw [an];exact (GQ _ wc).alloc _
  have bx:aJ W7 wc.heap.size [EL.m] 132:=by rw [an];exact aJ.new wc _ _
  have aN:W7.heap.size=wc.heap.size+1:=by rw [an];exact bC _
  clear an HA;obtain ⟨a1,a2,a3,a4,a5,a6,a7,a8,a9,bK,bL,bM⟩:=j.out;obtain ⟨e1,e2,e3⟩:=Y.out;have c:=y.out.trans e3 GN;have bX:cO<w.heap.size:=cl (a3 0 0 rfl);have bj:et W7:=aS (aS (aS bd.out c id) Q (fun h=>h.elim a4 (fun h=>by have h5:=e2 cO h;have h6:=y.out.size;have h7:W1.heap.size=w.heap.size+3:=z.out;omega))) H id;have aG:C6 EL wc.heap.size W w.heap.size [(F:Int),(Tp:Int),(T:Int),(r:Int),(B:Int),(Rm:Int),(O:Int)] q.E [] (fun _=>False) W7:=
   ⟨⟨z4.frame H (fun _ _ h=>h),bj,bx⟩,aT.out.frame H id,fun _ h=>h⟩
  have bz:=Q.size;have M:gE W7.heap.size (C6 EL wc.heap.size W w.heap.size [(F:Int),(Tp:Int),(T:Int),(r:Int),(B:Int),(Rm:Int),(O:Int)] q.E):=
   C6.stays (fun k p=>by have:=u.out.2.1 k p;omega) (by omega) (by have:=u.out.2.2;omega) (by have:=u.out.2.2;omega)
  have aC:=ae (fun (s n:Nat) (aP:List (Nat×Nat)) (hx:(cS q.E W)[aP.length]? =some (s,n))=>(show F<=s/\s+n<=Tp/\Tp<=524288 from by
   obtain ⟨m1,m2,m3⟩:=dW.1 (aD hx);dsimp only at m1 m2 m3;have P:=z5 s m2;have h2:G.size s≠0:=by rw [<-P.2];exact m2
   exact ⟨a8 s h2,by rw [m3,P.2];exact a6.top s h2,by have:=a5.F3;have:=a1.choose_spec.1.at.2.2.1;omega⟩))
  have bw:=z4.small.2;have aE:=ae zb;have aB:=ae (ag z1 (ag z2 (ag z3 (ag z5 (ag z6 (ag z7 (ag Q (ag H (ag aN c)))))))));have ad:=ae (show q.nw<=r-T/\T<=r/\r<=524288 from by
   have P:=a5.T2;have h2:=a5.T3;have h3:=a1.choose_spec.1.at.2.2.1;refine ⟨?_,by omega,by omega⟩;have h4:Qb (aI q.E) 0 W<=Tp-F:=by
    rw [bJ (aI q.E) (aF F) (aZ a5.F2 a5.F3),bJ (aI q.E) a5.F2 a5.F3,cu (a:=0) (b:=F) (fun i _ hi=>by
     rw [be];intro hl;obtain ⟨s,s1,s2⟩:=cX.1 hl;have h6:=z5 s (by omega);have:=a8 s (by omega);omega),cu (a:=Tp) (b:=W) (fun i hi _=>by
     rw [be];intro hl;obtain ⟨s,s1,s2⟩:=cX.1 hl;have h6:=z5 s (by omega);have:=a6.top s (by omega);omega),br,bg]
    exact dR _ _ _
   omega)
  clear a1 a2 a3 a4 a5 a6 a7 a8 a9 bK bL bM e1 e2 e3 bX bj bz z1 z2 z3 z4 z5 z6 z7 Q zb hm bx c;gi_wp2;refine iO (gf:=220) (lb:= #[wc.heap.size]) rfl (enters_of func220 (by kernel_rfl) rfl) (encs:=mC) (fun _=>rfl) (jw (L:=EL) (tb:=wc.heap.size) (E:=q.E) bw) (C6 EL wc.heap.size W w.heap.size [(F:Int),(Tp:Int),(T:Int),(r:Int),(B:Int),(Rm:Int),(O:Int)] q.E) (fun _=>False) M (fun _ _ _ h=>h.1) GN aG
   ?a1 ?assign ?body ?done
  case assign=>
   intro k x W K hK;unfold mC;gi_wp2;exact hK
  case body=>
   intro l aP S9 x W9 hI av hf hs;obtain ⟨s,n⟩:=x;obtain ⟨o1,o2,o3⟩:=aC.out s n aP av;have k0:=hI.2.1.cell 0 rfl;have k1:=hI.2.1.cell 1 rfl;have d1:decide ((s:Int)<(F:Int))=false:=by rw [az];omega
   have d2:decide ((Tp:Int)<(s:Int)+(n:Int))=false:=by rw [az];omega
   have b1:IntKind.i64.wrap ((s:Int)+(n:Int))=(s:Int)+(n:Int):=by rw [IntKind.wrap_i64];omega
   have HI:=ae hI;clear hI av hf hs aG M aC aB aE ad j Y;gi_wp2;exact ⟨S9,HI.out,GQ _ _,fun _ h=> .inl h⟩
  case done=>
   intro D S9 W9 hI hD bP bQ bo bV;obtain ⟨z1,z2,z3,z5,z6,z7,Q,H,aN,c⟩:=aB.out;obtain ⟨n1,n2,n3⟩:=ad.out;have t:=H.trans bo GN;have bB:=aE.out.frame t id;have bW:=u.out;have I:¬(S (w.heap.size+1)\/EL.has (w.heap.size+1))/\¬(S (w.heap.size+1+1)\/EL.has (w.heap.size+1+1)):=by
    have P:=j.out.2.2.2.2.2.2.2.2.2.2.1;have h2:=Y.out.2.1;have h3:=y.out.size;have h4:W1.heap.size=w.heap.size+3:=z.out;refine ⟨fun h=> ?_,fun h=> ?_⟩
    ·rcases h with h|h
     ·have:=P _ h;omega
     ·have:=h2 _ h;omega
    ·rcases h with h|h
     ·have:=P _ h;omega
     ·have:=h2 _ h;omega
   have b6:=((R.out.1.frame c id).frame Q I.1).frame t id;have b7:=((R.out.2.frame c id).frame Q I.2).frame t id;have k2:=hI.2.1.cell 2 rfl;have k3:=hI.2.1.cell 3 rfl;have s1:=bB.cell 1 rfl;have c6:=b6.cell 0 rfl;have c7:=b7.cell 0 rfl;have f6:=b6.free 0;have f7:=b7.free 0;have aw:w.heap.size+1≠sb/\w.heap.size+1+1≠sb/\w.heap.size+1≠w.heap.size+1+1:=by omega
   have b1:IntKind.i64.wrap ((r:Int)-(T:Int))=(r:Int)-(T:Int):=by rw [IntKind.wrap_i64];omega
   have d1:decide ((r:Int)-(T:Int)<(q.nw:Int))=false:=by rw [az];omega
   have aX:Hid (∀w',Fr (fun k=>k=w.heap.size+1\/k=w.heap.size+1+1\/k=D) W9 w'->Ga m Pg W Fs Us Hg mp L S G ls w (.returned (.tuple #[((q.nw:Int):Int),(0:Int)])) w'):=by
    show∀w',_
    intro w' bq;have ca:=Q.size;have b4:=c.size;have h4:W1.heap.size=w.heap.size+3:=z.out;have bk:Fr S w w':=by
     have q1:Fr S w w2:=(Z.out.mono GN).trans c GN;have q2:Fr S w wc:=q1.trans Q (fun k p=>by
      rcases p with p|p
      ·exact .inl p
      ·have:=Y.out.2.1 k p;have:=y.out.size;exact .inr (by omega))
     have q3:Fr S w W9:=q2.trans t GN;exact q3.trans bq (fun k p=>by rcases p with rfl|rfl|rfl<;>exact .inr (by omega))
    refine ⟨q.E,S',by rw [z6],(da m Pg W Fs Us Hg mp) _ _ _ _ _ ((cw m Pg W Fs Us Hg mp).Qa z2 t) bq (fun k p h=> ?_),fun k p=>(z3 k p).imp id (fun h=>by omega),z7,z5,bk⟩;have b5:=(cw m Pg W Fs Us Hg mp).lt _ _ _ z2 k p;have b9:=H.size;rcases h with rfl|rfl|rfl
    ·rcases z3 _ p with h|h
     ·exact I.1 (.inl h)
     ·omega
    ·rcases z3 _ p with h|h
     ·exact I.2 (.inl h)
     ·omega
    ·omega
   have HD:=ae hD;have am:=ae (show D≠w.heap.size+1/\D≠w.heap.size+1+1 from by have:=Q.size;omega);have bF:=ae b6;have bH:=ae b7;clear hI hD bP bQ bo bV z1 z2 z3 z5 z6 z7 Q H aN c n1 n2 n3 t bB bW I b6 b7 aG M aC aB aE ad j Y aT R Z y bc bd u z;gi_wp2;obtain ⟨Wf,ao⟩:∃Wf,(W9.setCell ⟨w.heap.size+1,0,none⟩ (.int .i64 (q.nw:Int))).setCell ⟨w.heap.size+1+1,0,none⟩ (.int .i64 0)=Wf:=⟨_,rfl⟩;rw [ao];have bp:Fr (fun k=>k=w.heap.size+1\/k=w.heap.size+1+1) W9 Wf:=by
    rw [<-ao];exact ((GQ _ W9).setCell ⟨w.heap.size+1,0,none⟩ (.inl (.inl rfl)) _).setCell ⟨w.heap.size+1+1,0,none⟩ (.inl (.inr rfl)) _
   have h6:aJ Wf (w.heap.size+1) [((q.nw:Int):Int)] 3:=by
    rw [<-ao];exact (bF.out.set 0 _).Qg _ _ aw.2.2
   have h7:aJ Wf (w.heap.size+1+1) [(0:Int)] 28:=by
    rw [<-ao];exact (bH.out.Qg _ _ (Ne.symm aw.2.2)).set 0 _
   have bO:Wf.heap[D]? =some (.deferred (some [])):=bp.heap HD.out (fun h=>h.elim am.out.1 am.out.2);have aK:Fr (fun k=>k=D) Wf (Wf.putObj D (.deferred none)):=(GQ _ Wf).putObj _ _ (.inl rfl);refine ⟨by simp,.inl ⟨_,_,rfl,run_takeDeferred bO,?_⟩⟩;refine ⟨_,lj rfl _ _ ⟨w.heap.size+1,0,none⟩ ⟨w.heap.size+1+1,0,none⟩ rfl rfl (BQ ((h6.frame aK (Ne.symm am.out.1)).cell 0 rfl)) (qJ ((h7.frame aK (Ne.symm am.out.2)).cell 0 rfl)),?_⟩;exact aX.out _ ((bp.mono (fun k p=> .inl (p.elim .inl (fun h=> .inr (.inl h))))).trans aK (fun k p=> .inl (.inr (.inr p))))
end
theorem BS{w:World}{a:Addr}{x:Option Addr}(h:w.cell? a=some (.pointer x)):(loadVar 132 a).run prog w= .ok (.pointer x) w:=by
 go_simp
section
variable{m b g Pg W Fs Us Hg:Nat}{S:Nat->Prop}{mp:Nat->Bool}{L:Nat->Nat}{ls:List Nat}{G:Gr}{w:World}
attribute [local go_sem] Oper.semAt_some
theorem tW(d:Nat)(hi:dY m Pg W Fs Us Hg mp L S w)(hr:dt w b g ls)(hT:et w)(aY:¬S cO)(F Tp T O B Rm P:Nat)(hc:nh Pg W F Tp T O B Rm P)(hG:gw G ls Tp)(hO:∀a,G.size a≠0->jy L (dD W Pg mp) G a)(bf:∀a,G.size a≠0->F<=a):
  CallsIn Fence.wide d prog 189 #[m,b,gY F Tp T O B Rm P] w (Gd m Pg W Fs Us Hg mp L S G ls w):=by
 refine callsIn_of_wp_marks func189 rfl trivial ?_ rfl;simp only [ntmps189,cU,bn,ch,Nat.reduceAdd,Nat.reduceSub,cH,cG,de,cQ,bZ,dd];have bu:Hid (∀F Tp T O B J P:Nat,gY F Tp T O B J P= .agg #[(F:Int),(Tp:Int),(T:Int),(O:Int),(B:Int),(J:Int),(P:Int)]):=by
  show∀F Tp T O B J P:Nat,_
  intros;rfl
 have ai:=cw m Pg W Fs Us Hg mp;obtain ⟨e1,e2,e3,e4,e5,e6,e7,e8,bE⟩:=hi.choose_spec.1.at;clear e1 e2 e4 e5 e6 e7 e8;have bj:=ai.lt _ _ _ hi;have bi:=hr.small;obtain ⟨W1,z⟩:∃W1,((w.alloc (.cells #[(F:Int),(Tp:Int),(T:Int),(O:Int),(B:Int),(Rm:Int),(P:Int)] 143)).alloc (.cells #[.pointer none] 132)).alloc (.cells #[(0:Int)] 28)=W1:=⟨_,rfl⟩;have af:GM w W1:=by rw [<-z];exact (((GQ _ w).alloc _).alloc _).alloc _
 have y:Hid (W1.heap.size=w.heap.size+3):=by
  show _=_
  rw [<-z,World.size_alloc,World.size_alloc,World.size_alloc]
 have t:aJ W1 w.heap.size [(F:Int),(Tp:Int),(T:Int),(O:Int),(B:Int),(Rm:Int),(P:Int)] 143:=by rw [<-z];exact ((aJ.new w _ _).alloc _).alloc _
 have aq:aJ W1 (w.heap.size+1) [.pointer none] 132/\aJ W1 (w.heap.size+1+1) [(0:Int)] 28:=by
  rw [<-z];refine ⟨?_,?_⟩
  ·have:=(aJ.new (w.alloc (.cells #[(F:Int),(Tp:Int),(T:Int),(O:Int),(B:Int),(Rm:Int),(P:Int)] 143)) [.pointer none] 132).alloc (.cells #[(0:Int)] 28);rwa [World.size_alloc] at this
  ·have:=aJ.new ((w.alloc (.cells #[(F:Int),(Tp:Int),(T:Int),(O:Int),(B:Int),(Rm:Int),(P:Int)] 143)).alloc (.cells #[.pointer none] 132)) [(0:Int)] 28;rwa [World.size_alloc,World.size_alloc] at this
 have U:=ae aq;clear aq;have bg:=hr.frame af id id;have aX:=ae (gS (hi.choose_spec.1.Qa af));unfold gY;have al:=ae af;have aR:=ae bg;have aT:=ae (aS hT af id);have bq:=ae t;have j:=ae (ag hi (ag hr (ag hT (ag aY (ag hc (ag hG (ag hO (ag bf (ag hc (ag ai (ag bj bi)))))))))));have bK:W<=1048576:=by omega
 obtain ⟨k0,k1,k2,k3,k4,k5,k6,_⟩:=GU t;clear hi hr hT aY hc hG hO bf ai bj bi af t bg bu e3 k0 k1 k2 k3 k4 k5 k6;gi_wp2;clear z;refine ep (aX.out.mono ?_);rintro e w' ⟨rfl,rfl⟩;have aQ:=ae (nR W bE bK W1);have v:=ae (GQ (fun _=>False) W1);clear aX;gi_wp2;refine ep (aQ.out.mono ?_);rintro e w2 ⟨EL,rfl,he,hn,hf⟩;clear aQ;have u:=ae (ag he (ag hn hf));have c:=v.out.trans hf GN;have aL:=ae (bq.out.frame c id);have V:=ae (fun w' (hf:GM w2 w')=>(aL.out.frame hf id).cell 5 rfl);have aK:=ae (fun w' (hf:GM w2 w')=>nz ((aR.out.frame c id id).frame hf id id));have av:=ae (BI (EL:=EL) (w2:=w2) (Rm:=Rm) (G:=G) (ls:=ls) (Tp:=Tp) j.out.1 j.out.2.2.1 j.out.2.2.2.1 j.out.2.2.2.2.2.1 j.out.2.2.2.2.2.2.1 j.out.2.2.2.2.1.F3 j.out.2.2.2.2.1.s1 j.out.2.2.2.2.1.s2 ((al.out).trans c GN) he (fun k p=>by have Q:=hn k p;have h2:W1.heap.size=w.heap.size+3:=y.out;have h3:=v.out.size;omega) (j.out.2.2.2.2.2.2.2.2.2.2.2) w.heap.size (by have Q:W1.heap.size=w.heap.size+3:=y.out;have h2:=c.size;omega));have X:=ae ((GQ (fun _=>False) w2).drew);have Y:=ae (fun o=>((GQ (fun _=>False) w2).alloc o).drew);have q:=ae (show (∀k,S k->k<w2.heap.size)/\(∀k,EL.has k->k<w2.heap.size)/\w2.heap.size≥w.heap.size+3 from ⟨fun k p=>by have Q:k<w.heap.size:=j.out.2.2.2.2.2.2.2.2.2.2.1 k p;have h2:=al.out.size;have h3:=c.size;omega,fun k p=>he.lt k p,by have h2:W1.heap.size=w.heap.size+3:=y.out;have h3:=c.size;omega⟩);have aP:Hid (w2.heap.size≠w.heap.size):=ae (by have Q:=cl (V.out w2 (GQ _ _));exact fP Q);have N:=ae (show¬S w.heap.size/\¬EL.has w.heap.size from ag (fun h=>by have Q:w.heap.size<w.heap.size:=j.out.2.2.2.2.2.2.2.2.2.2.1 _ h;omega) (fun h=>by have Q:=hn _ h;have h2:W1.heap.size=w.heap.size+3:=y.out;have h3:=v.out.size;omega));clear he hn hf c;gi_wp2;refine wpIn_wide.2 ?_
 go_cut [10,11] from 14 to 50 (fun bM bO wx=>∃(sb:Nat) (J:je),bM= .pointer (some ⟨sb,0,none⟩)/\bO= .int .i64 0/\Hid (Gh m Pg W Fs Us Hg mp L S EL G ls w2 sb J wx))
 case first=>
  refine mM ?_
  go_region_held3 (fun w'=>w'.cell? ⟨w.heap.size,5,none⟩=some (.int .i64 Rm)) (with_reducible first
   |assumption
   |exact V.out _ X.out
   |exact V.out _ (Y.out _)
   |(refine (World.cell?_alloc_lt _ _ _ (World.block_lt_of_cell? _ _ (by assumption))).trans (by assumption))
   |((iterate 4 (refine (World.cell?_setCell_far _ _ _ _ (by first|exact fP (World.block_lt_of_cell? _ _ A)|exact gA (World.block_lt_of_cell? _ _ A)|exact fP (World.block_lt_of_cell? _ _ ad)|exact gA (World.block_lt_of_cell? _ _ ad)|exact aP.out)).trans ?_));assumption)) (first
   |(go_at_call 69;refine (aK.out _ (by with_reducible first|exact X.out|exact Y.out _)).mono ?_;rintro e w3 ⟨rb,rc,rfl,r1,r2,r3,ao⟩;(have I:GM w2 w3:=by with_reducible first|exact X.out.trans ao GN|exact (Y.out _).trans ao GN);(have bp:w2.heap.size<=rb:=by with_reducible first|exact aZ X.out.size r1|exact aZ (Y.out _).size r1);have A:=V.out w3 I;(try (have bc:aJ w3 w2.heap.size [(0:Int),(0:Int),(0:Int),(0:Int)] 136:=aJ.frame (by with_reducible exact aJ.drew (aJ.new w2 _ _)) ao id));clear ao r1)
   |(go_at_call 68;with_reducible refine (av.out w3 I rb rc bp r2 r3).mono ?_;rintro e w4 ⟨J,nr,nv,rfl,aF,Z,ap⟩;have ad:=Z _ N.out.1 N.out.2 A;(try (have f:=aF _ _ _ (ak _) bc;obtain ⟨k0,k1,k2,k3,_⟩:=GR f;have l0:=f.free 0;have l1:=f.free 1;have l2:=f.free 2;have l3:=f.free 3));clear Z)
   |(go_at_call 68;refine (av.out (w3.alloc _) (I.alloc _) rb rc bp (by rw [World.size_alloc];omega) (fun i a ha=>(World.cell?_alloc_lt _ _ _ (World.block_lt_of_cell? _ _ (r3 i a ha))).trans (r3 i a ha))).mono ?_;rintro e w4 ⟨J,nr,nv,rfl,aF,Z,ap⟩;have ad:=Z _ N.out.1 N.out.2 ((World.cell?_alloc_lt _ _ _ (World.block_lt_of_cell? _ _ A)).trans A);have f:=aF _ _ _ I.size (aJ.new w3 [(0:Int),(0:Int),(0:Int),(0:Int)] 136);obtain ⟨k0,k1,k2,k3,_⟩:=GR f;have l0:=f.free 0;have l1:=f.free 1;have l2:=f.free 2;have l3:=f.free 3;clear Z))
  ·go_wp2;go_meet
   case rel=>exact ⟨_,J,rfl,rfl,ae (yk ap I)⟩
  ·go_wp2;go_meet
   case rel=>exact ⟨_,J,rfl,rfl,ae (pU ap (I.alloc _) q.out.1 q.out.2.1 I.size (by rw [World.size_alloc];omega) f)⟩
  ·go_wp2;go_meet
   case rel=>exact ⟨_,J,rfl,rfl,ae (pU ap I q.out.1 q.out.2.1 (ak _) bc.lt f)⟩
 case rest=>
  clear V aK av X Y aP;obtain ⟨sb,J,rfl,rfl,hm⟩:=hcut;obtain ⟨z1,⟨nr,nv,zb⟩,S',z2,z3,z4,z5,z6,z7,R⟩:=hm.out;have aM:=ae (aL.out.frame R (fun h=>h.elim N.out.1 N.out.2));have HA:=ae (jv EL.m wc);gi_wp2;refine ep (HA.out.mono ?_);rintro e W7 ⟨rfl,am⟩;have C:GM wc W7:=by rw [am];exact (GQ _ wc).alloc _
  have bl:aJ W7 wc.heap.size [EL.m] 132:=by rw [am];exact aJ.new wc _ _
  have aG:W7.heap.size=wc.heap.size+1:=by rw [am];exact bC _
  clear am HA;obtain ⟨a1,a2,a3,a4,a5,a6,a7,a8,a9,bv,bw,bx⟩:=j.out;obtain ⟨e1,e2,e3⟩:=u.out;have c:=v.out.trans e3 GN;have bI:cO<w.heap.size:=cl (a3 0 0 rfl);have a0:et W7:=aS (aS (aS aT.out c id) R (fun h=>h.elim a4 (fun h=>by have h5:=e2 cO h;have h6:=v.out.size;have h7:W1.heap.size=w.heap.size+3:=y.out;omega))) C id;have aB:C6 EL wc.heap.size W w.heap.size [(F:Int),(Tp:Int),(T:Int),(O:Int),(B:Int),(Rm:Int),(P:Int)] J.E [] (fun _=>False) W7:=
   ⟨⟨z4.frame C (fun _ _ h=>h),a0,bl⟩,aM.out.frame C id,fun _ h=>h⟩
  have bo:=R.size;have M:gE W7.heap.size (C6 EL wc.heap.size W w.heap.size [(F:Int),(Tp:Int),(T:Int),(O:Int),(B:Int),(Rm:Int),(P:Int)] J.E):=
   C6.stays (fun k p=>by have:=q.out.2.1 k p;omega) (by omega) (by have:=q.out.2.2;omega) (by have:=q.out.2.2;omega)
  have ax:=ae (fun (s n:Nat) (aH:List (Nat×Nat)) (hx:(cS J.E W)[aH.length]? =some (s,n))=>(show F<=s/\s+n<=Tp/\Tp<=524288 from by
   obtain ⟨m1,m2,m3⟩:=dW.1 (aD hx);dsimp only at m1 m2 m3;have Q:=z5 s m2;have h2:G.size s≠0:=by rw [<-Q.2];exact m2
   exact ⟨a8 s h2,by rw [m3,Q.2];exact a6.top s h2,by have:=a5.F3;have:=a1.choose_spec.1.at.2.2.1;omega⟩))
  have bk:=z4.small.2;have ay:=ae zb;have aw:=ae (ag z1 (ag z2 (ag z3 (ag z5 (ag z6 (ag z7 (ag R (ag C (ag aG c)))))))));clear a1 a2 a3 a4 a5 a6 a7 a8 a9 bv bw bx e1 e2 e3 bI a0 bo z1 z2 z3 z4 z5 z6 z7 R zb hm bl c;gi_wp2;refine iO (gf:=220) (lb:= #[wc.heap.size]) rfl (enters_of func220 (by kernel_rfl) rfl) (encs:=mC) (fun _=>rfl) (jw (L:=EL) (tb:=wc.heap.size) (E:=J.E) bk) (C6 EL wc.heap.size W w.heap.size [(F:Int),(Tp:Int),(T:Int),(O:Int),(B:Int),(Rm:Int),(P:Int)] J.E) (fun _=>False) M (fun _ _ _ h=>h.1) GN aB
   ?a1 ?assign ?body ?done
  case assign=>
   intro k x W K hK;unfold mC;gi_wp2;exact hK
  case body=>
   intro l aH S9 x W9 hI ar hf hs;obtain ⟨s,n⟩:=x;obtain ⟨o1,o2,o3⟩:=ax.out s n aH ar;have k0:=hI.2.1.cell 0 rfl;have k1:=hI.2.1.cell 1 rfl;have d1:decide ((s:Int)<(F:Int))=false:=by rw [az];omega
   have d2:decide ((Tp:Int)<(s:Int)+(n:Int))=false:=by rw [az];omega
   have bU:IntKind.i64.wrap ((s:Int)+(n:Int))=(s:Int)+(n:Int):=by rw [IntKind.wrap_i64];omega
   have HI:=ae hI;clear hI ar hf hs aB M ax aw ay j u;gi_wp2;exact ⟨S9,HI.out,GQ _ _,fun _ h=> .inl h⟩
  case done=>
   intro D S9 W9 hI hD bB bD bd bF;obtain ⟨z1,z2,z3,z5,z6,z7,R,C,aG,c⟩:=aw.out;have r:=C.trans bd GN;have bL:=ay.out.frame r id;have bH:=q.out;have H:¬(S (w.heap.size+1)\/EL.has (w.heap.size+1))/\¬(S (w.heap.size+1+1)\/EL.has (w.heap.size+1+1)):=by
    have Q:=j.out.2.2.2.2.2.2.2.2.2.2.1;have h2:=u.out.2.1;have h3:=v.out.size;have h4:W1.heap.size=w.heap.size+3:=y.out;refine ⟨fun h=> ?_,fun h=> ?_⟩
    ·rcases h with h|h
     ·have:=Q _ h;omega
     ·have:=h2 _ h;omega
    ·rcases h with h|h
     ·have:=Q _ h;omega
     ·have:=h2 _ h;omega
   have b6:=((U.out.1.frame c id).frame R H.1).frame r id;have b7:=((U.out.2.frame c id).frame R H.2).frame r id;have c6:=b6.cell 0 rfl;have c7:=b7.cell 0 rfl;have f6:=b6.free 0;have f7:=b7.free 0;have au:w.heap.size+1≠sb/\w.heap.size+1+1≠sb/\w.heap.size+1≠w.heap.size+1+1:=by omega
   have aN:Hid (∀w',Fr (fun k=>k=w.heap.size+1\/k=w.heap.size+1+1\/k=D) W9 w'->Gd m Pg W Fs Us Hg mp L S G ls w (.returned (.tuple #[EL.m,(0:Int)])) w'):=by
    show∀w',_
    intro w' aE;have bW:=R.size;have bQ:=c.size;have h4:W1.heap.size=w.heap.size+3:=y.out;have bb:Fr S w w':=by
     have q1:Fr S w w2:=(al.out.mono GN).trans c GN;have q2:Fr S w wc:=q1.trans R (fun k p=>by
      rcases p with p|p
      ·exact .inl p
      ·have:=u.out.2.1 k p;have:=v.out.size;exact .inr (by omega))
     have q3:Fr S w W9:=q2.trans r GN;exact q3.trans aE (fun k p=>by rcases p with rfl|rfl|rfl<;>exact .inr (by omega))
    have bP:GM wc W9:=r;refine ⟨EL,J.E,S',rfl,(da m Pg W Fs Us Hg mp) _ _ _ _ _ ((cw m Pg W Fs Us Hg mp).Qa z2 r) aE (fun k p h=> ?_),fun k p=>(z3 k p).imp id (fun h=>by omega),fun k p h=> ?_,hI.1.1.frame aE (fun k p h=> ?_),z7,z5,fun k p=>by have:=u.out.2.1 k p;omega,bb⟩
    rotate_left
    ·rcases z3 k p with h5|h5
     ·have h6:k<w.heap.size:=j.out.2.2.2.2.2.2.2.2.2.2.1 k h5;have:=u.out.2.1 k h;omega
     ·have:=q.out.2.1 k h;omega
    ·have h5:=u.out.2.1 k p;have h6:=q.out.2.1 k p;rcases h with rfl|rfl|rfl<;>omega
    have bS:=(cw m Pg W Fs Us Hg mp).lt _ _ _ z2 k p;have bV:=C.size;rcases h with rfl|rfl|rfl
    ·rcases z3 _ p with h|h
     ·exact H.1 (.inl h)
     ·omega
    ·rcases z3 _ p with h|h
     ·exact H.2 (.inl h)
     ·omega
    ·omega
   have HD:=ae hD;have aj:=ae (show D≠w.heap.size+1/\D≠w.heap.size+1+1 from by have:=R.size;omega);have br:=ae b6;have bs:=ae b7;clear hI hD bB bD bd bF z1 z2 z3 z5 z6 z7 R C aG c r bL bH H b6 b7 aB M ax aw ay j u aM U al v aR aT q y;gi_wp2;obtain ⟨Wf,an⟩:∃Wf,(W9.setCell ⟨w.heap.size+1,0,none⟩ (.pointer (some ⟨EL.m,0,none⟩))).setCell ⟨w.heap.size+1+1,0,none⟩ (.int .i64 0)=Wf:=⟨_,rfl⟩;rw [an];have be:Fr (fun k=>k=w.heap.size+1\/k=w.heap.size+1+1) W9 Wf:=by
    rw [<-an];exact ((GQ _ W9).setCell ⟨w.heap.size+1,0,none⟩ (.inl (.inl rfl)) _).setCell ⟨w.heap.size+1+1,0,none⟩ (.inl (.inr rfl)) _
   have h6:aJ Wf (w.heap.size+1) [EL.m] 132:=by
    rw [<-an];exact (br.out.set 0 _).Qg _ _ au.2.2
   have h7:aJ Wf (w.heap.size+1+1) [(0:Int)] 28:=by
    rw [<-an];exact (bs.out.Qg _ _ (Ne.symm au.2.2)).set 0 _
   have bz:Wf.heap[D]? =some (.deferred (some [])):=be.heap HD.out (fun h=>h.elim aj.out.1 aj.out.2);have aC:Fr (fun k=>k=D) Wf (Wf.putObj D (.deferred none)):=(GQ _ Wf).putObj _ _ (.inl rfl);refine ⟨by simp,.inl ⟨_,_,rfl,run_takeDeferred bz,?_⟩⟩;refine ⟨_,lj rfl _ _ ⟨w.heap.size+1,0,none⟩ ⟨w.heap.size+1+1,0,none⟩ rfl rfl (BS ((h6.frame aC (Ne.symm aj.out.1)).cell 0 rfl)) (qJ ((h7.frame aC (Ne.symm aj.out.2)).cell 0 rfl)),?_⟩;exact aN.out _ ((be.mono (fun k p=> .inl (p.elim .inl (fun h=> .inr (.inl h))))).trans aC (fun k p=> .inl (.inr (.inr p))))
end
def mS(E:Nat->Nat)(P t q:Nat):Nat:=Qb (fun a=>aI E a&&decide (a/P=q)) 0 t
section
variable{E:Nat->Nat}{P W t u a q:Nat}
theorem Bo:mS E P 0 q=0:=dP _ _
theorem Bp(b:aI E a=true):mS E P (a+1) q=mS E P a q+(if q=a/P then 1 else 0):=by
 unfold mS;rw [cr _ (aF a),b,bQ];by_cases e:a/P=q
 ·subst e;simp
 ·rw [ar e,aE eW,aE (Ne.symm e)]
theorem Bq(h:t<=u)(e:∀i,t<=i->i<u->aI E i=false):mS E P u q=mS E P t q:=by
 unfold mS;rw [bJ _ (aF t) h,cu (a:=t) (b:=u) (fun i c d=>by rw [e i c d];rfl),bg]
theorem EQ:mS E P t q<=t:=by
 have:=dR (fun a=>aI E a&&decide (a/P=q)) 0 t;unfold mS;omega
theorem tg(d:1<=P){i:Nat}:i/P=q↔q*P<=i/\i<q*P+P:=by
 constructor
 ·rintro rfl;have b:=aM i P;have c:=bO i (show 0<P by omega);rw [aN] at b;omega
 ·rintro ⟨b,c⟩;exact lD (i:=i-q*P) d (by omega) (by omega)
theorem xM{s:dV}(d:1<=s.P)(c:∀a,aI s.E a=true->a<s.W)(q:Nat):mS s.E s.P s.W q=pM s (fun _=>false) q:=by
 unfold mS pM;have f:∀N,s.W<=N->q*s.P+s.P<=N->Qb (fun a=>aI s.E a&&decide (a/s.P=q)) 0 N=Qb (fun a=>aI s.E a&& !false) (q*s.P) (q*s.P+s.P):=fun N _ j=>by
  rw [bJ _ (aF (q*s.P)) (show q*s.P<=N by omega),bJ _ (show q*s.P<=q*s.P+s.P by omega) j,
   cu (a:=0) (b:=q*s.P) (fun i _ h=>by rw [ar (fun e=>by have:=(tg d).1 e;omega),cV]),
   cu (a:=q*s.P+s.P) (b:=N) (fun i h _=>by rw [ar (fun e=>by have:=(tg d).1 e;omega),cV]),br,bg]
  exact cI (fun i k l=>by rw [aB ((tg d).2 ⟨k,l⟩)];rfl)
 have g:∀N,s.W<=N->Qb (fun a=>aI s.E a&&decide (a/s.P=q)) 0 N=Qb (fun a=>aI s.E a&&decide (a/s.P=q)) 0 s.W:=fun N h=>by
  rw [bJ _ (aF s.W) h,cu (a:=s.W) (b:=N) (fun i n _=>by
   have:aI s.E i=false:=by
    rw [be];intro m;have:=c i m;omega
   rw [this];rfl),bg]
 rw [<-g (s.W+(q*s.P+s.P)) (by omega)];exact f _ (by omega) (by omega)
theorem s8{k j:Nat}{x y:Nat×Nat}(b:(cS E W)[k]? =some x)(c:(cS E W)[j]? =some y)(h:j<k):y.1<x.1:=
 kt b (bw.2 ⟨j,by rw [eo,aG h];exact c⟩)
def BD(E:Nat->Nat)(W k:Nat):Nat:=match (cS E W)[k]? with|some x=>x.1|none=>W
theorem BC{k:Nat}{x:Nat×Nat}(b:(cS E W)[k]? =some x):BD E W k=x.1:=by unfold BD;rw [b]
theorem Dz:BD E W (cS E W).length=W:=by unfold BD;rw [cL (ak _)]
theorem xQ(w:iB E)(l:∀s,E s≠0->s+E s<=W){k m:Nat}(p:∀j x,j<k->(cS E W)[j]? =some x->x.1+x.2<=m):∀i,m<=i->i<BD E W k->aI E i=false:=by
 intro i v h;rw [be];intro o;obtain ⟨s,y,z⟩:=cX.1 o;have g:E s≠0:=by omega
 have r:=l s g;obtain ⟨j,c⟩:=bw.1 (dW.2 ⟨show s<W by omega,g,rfl⟩:(s,E s)∈cS E W);rcases aY j k with b|b
 ·have:=p j _ b c;dsimp only at this;omega
 ·have e:k<(cS E W).length:=bU b (al.1 c).1;have d:=aK e;rw [BC d] at h;rcases aY k j with f|n
  ·have:=s8 c d f;dsimp only at this;omega
  ·obtain rfl:j=k:=by omega
   rw [d] at c;have:=congrArg Prod.fst (bf c);dsimp only at this;omega
theorem Bz(e:iB E){k:Nat}{x:Nat×Nat}(c:(cS E W)[k]? =some x):∀j y,j<k+1->(cS E W)[j]? =some y->y.1+y.2<=x.1+x.2:=by
 intro j y i b;rcases aY j k with h|h
 ·have d:=s8 c b h;obtain ⟨_,g,m⟩:=dW.1 (aD b);obtain ⟨_,f,l⟩:=dW.1 (aD c);have:=e y.1 x.1 d g f;omega
 ·obtain rfl:j=k:=by omega
  rw [c] at b;rw [bf b];exact ak _
end
section
variable{A:AG}{rs:List Nat}{φ L:Nat->Nat}{lo hi:Nat}
theorem cP.heads(h:cP A rs φ L lo hi):∃hp hf hg:Nat->Nat,∀x,Reach A.gr rs x->hp (φ x)=A.np x/\hf (φ x)=A.nf x/\hg (φ x)=A.ng x:=by
 classical
 refine ⟨fun a=>if h:∃x,Reach A.gr rs x/\φ x=a then A.np h.choose else 0,fun a=>if h:∃x,Reach A.gr rs x/\φ x=a then A.nf h.choose else 0,fun a=>if h:∃x,Reach A.gr rs x/\φ x=a then A.ng h.choose else 0,fun x c=> ?_⟩;have b:∃y,Reach A.gr rs y/\φ y=φ x:=⟨x,c,rfl⟩;have e:b.choose=x:=h.inj b.choose_spec.1 c b.choose_spec.2;refine ⟨?_,?_,?_⟩
 ·show (if h:∃y,Reach A.gr rs y/\φ y=φ x then A.np h.choose else 0)=_
  rw [mn b,e]
 ·show (if h:∃y,Reach A.gr rs y/\φ y=φ x then A.nf h.choose else 0)=_
  rw [mn b,e]
 ·show (if h:∃y,Reach A.gr rs y/\φ y=φ x then A.ng h.choose else 0)=_
  rw [mn b,e]
theorem cP.Xy(h:cP A rs φ L lo hi){L':Nat->Nat}(c:∀x,Reach A.gr rs x->∀i,i<A.sz x->L' (φ x+i)=L (φ x+i)):cP A rs φ L' lo hi:=by
 refine ⟨h.zero,h.one,h.Qn,h.apart,fun x a=> ?_,fun x a i hi=> ?_,fun x a i b d=> ?_⟩
 ·have:=h.head x a;exact ⟨by have b:L' (φ x)=L (φ x):=c x a 0 (by unfold AG.sz;omega);rw [b];exact this.1,this.2⟩
 ·rw [ji,c x a (1+i) (by unfold AG.sz;omega),<-ji φ _ _];exact h.ptr x a i hi
 ·rw [ji,c x a (1+i) (by unfold AG.sz;omega),<-ji φ _ _];exact h.val x a i b d
theorem kz{f:Nat->Bool}{M a R:Nat}(h:∀i,i<M->f i=true->a<=i/\i<a+R):Qb f 0 M<=R:=by
 have d:∀b c,c<=M->(c<=a\/a+R<=b)->Qb f b c=0:=fun b c k l=>cu (fun i e g=>by
  cases hf:f i with
  |false=>rfl
  |true=>have:=h i (by omega) hf;omega)
 rcases aY a M with e|e
 ·rcases aY (a+R) M with g|g
  ·have j:=dR f a (a+R);rw [bJ f (aF a) (show a<=M by omega),bJ f (show a<=a+R by omega) (show a+R<=M by omega),d 0 a (by omega) (.inl (ak _)),d (a+R) M (ak _) (.inr (ak _))];omega
  ·have j:=dR f a M;rw [bJ f (aF a) (show a<=M by omega),d 0 a (by omega) (.inl (ak _))];omega
 ·rw [d 0 M (ak _) (.inl e)];exact aF _
theorem cP.Xh(h:cP A rs φ L lo hi){E:Nat->Nat}(c:lX A rs φ E){W:Nat}(i:∀a,E a≠0->a<W):∃l,dE A rs l:=by
 have k:((cS E W).map Prod.fst).Nodup:=by
  unfold cS;rw [jl];have e:(Prod.fst∘fun s=>(s,E s))=id:=rfl;rw [e,List.map_id];exact (px _ _ _).imp (fun h=>gA h)
 have m:∀a∈(cS E W).map Prod.fst,∃x,Reach A.gr rs x/\φ x=a:=fun a j=>by
  obtain ⟨x,b,rfl⟩:=bu.1 j;exact c.some _ (dW.1 b).2.1
 have d:∀x,Reach A.gr rs x->φ x∈(cS E W).map Prod.fst:=fun x b=>by
  have f:E (φ x)≠0:=by rw [c.size x b];unfold AG.sz;omega
  exact bu.2 ⟨(φ x,E (φ x)),dW.2 ⟨i _ f,f,rfl⟩,rfl⟩
 obtain ⟨l,g,_⟩:=h.Yh (sz:=E) (fun x b=>c.size x b) k m d;exact ⟨l,g⟩
end
section
variable{P:Program}
theorem yv{F:Fence}{m:Nat}{c:Array Oper}{md:Region.Mode}{Q:Exit->Act->World->Prop}:∀(f:Nat) (b:Array Bool) (a:Act) (w:World),tB (wpOpIn F m P c Q) md c Q f b a w->wpAnyIn F m P md c Q f b a w
 |0,_,_,_,h=>h
 |f+1,_,_,_,h=>⟨h.1,fun i d=>wpOpIn_mono (fun a w h=>yv f _ a w h) (h.2 i d)⟩
theorem dU.wpR{o:Oper}{a:Act}{w:World}{b:Value->World->Prop}{Q:Exit->Act->World->Prop}{k m:Nat}(i:∀c,o.op≠ .defer c)(h:dU P a.eval o w b):o.wpIn (Fence.wide.inRound k) m P a w (fun g w'=>∃v,g=a.put o.dst v/\b v w') Q:=by
 refine ⟨fun _ _=>trivial,?_⟩;rw [show (Fence.wide.inRound k).round=some k from rfl,Oper.semAt_some k a.eval o i];unfold dU at h;generalize (execOp a.eval o).run P w=r at*
 cases r with
 |halt x w'=>exact h.elim
 |ok n w'=>
  cases n<;>simp only [Oper.uponIn] at h ⊢
  case value v=>exact ⟨v,rfl,h⟩
  case skip=>exact ⟨_,rfl,h⟩
  case enter f args=>
   refine ⟨(fun h=>by cases h),(vd (d:=m) (Calls.mono h ?_)).2.2⟩;rintro e j ⟨v,rfl,hp⟩;exact ⟨v,rfl,hp⟩
theorem rA{N k m:Nat}{Q:Exit->Act->World->Prop}{a:Act}{w:World}{l:List Oper}(n d:Nat)(R b:World->World->Prop)(ps:List (Value->World->Prop))(nw:Nat->Bool)(I:P.follows .mixedOrders=true)(B:iX l=true)(f:gN l=true)
  (C:(decide (n=l.length)&&Region.seqB .any l.toArray 0 n (jd l.length n))=true) (U:ps.length=n)
  (q:∀w,b w w) (e:∀w w',b w w'->R w w') (s:∀w1 w2 w3,b w1 w2->b w2 w3->b w1 w3) (u:∀w1 w2 w3,R w1 w2->b w2 w3->R w1 w3) (x:∀w1 w2 w3,b w1 w2->R w2 w3->R w1 w3) (M:∀w w',R w w'->w.heap.size<=w'.heap.size) (r:tU b ps) (A:xE R d 0 ps)
  (h:∀F:(Nat->Value)->Act,(F=fun vs=>{a with tmps:=df vs 0 (l.take n) a.tmps})->mx P (dF l d) F w.drew d R b (qz ps) nw 0 (l.take n)/\∀vs w',R w.drew w'->CO vs w' 0 ps->(∀i j,nw i=true->nw j=true->i<n->j<n->i≠j->gd (vs i)≠gd (vs j))->Q .normal (F vs) w'):
  (Code.region N l.toArray true).wpIn (Fence.wide.inRound k) m P Q a w:=by
 obtain ⟨p,g⟩:=h _ rfl;rw [au,aC] at C;obtain ⟨J,z⟩:=C;subst J;refine wpIn_region_any I ?_;have c:=jr B f;refine yv _ _ _ _ (pu (W1:=wpOpIn (Fence.wide.inRound k) m P l.toArray Q) c (fun i K T a w h f=>wpOpIn_mono h f) (fun i o a w E y hp=>by
  unfold wpOpIn;simp only [show l.toArray[i]? =some o by simpa using y];rw [aG (by unfold Region.wanted;rw [c.guard i o y])];exact hp.wpR (c.dfr i o y)) (ak _) (fun D t B f=>absurd f (by omega)) (GC e M) (FL u x) (FH s) (GD (fun j=>qi j r) (fun j v w w' H hp L=>tT 0 j A (by omega) v w w' hp L)) (pa p) (fun vs w' O G _ S=> ?_) (e _ _ (q _)) (fun _ _=>q _))
 rw [jj];refine ⟨by simpa [Region.seqB] using z,G|>fun _=>g vs w' O (tD ps 0 (fun j H=> ?_)) S⟩;rw [br];exact G j (by omega)
end
structure Fz where
 c3:Nat
 c5:Nat
 Xd:Nat
 tb:Nat
 b:Nat
 g:Nat
def Cy.conf(c:Cy):List Value:=[((c.from_:Int):Int),((c.top:Int):Int),((c.Qe:Int):Int),((c.Lm:Int):Int),((c.B:Int):Int),((c.stack:Int):Int),((c.Ah:Int):Int)]
structure Ev(c:Cy)(x:Fz)(W:Nat)(E:Nat->Nat)(ls:List Nat)(w:World):Prop where
 all:rK c.EL x.tb W E w
 b3:aJ w x.c3 [c.m] 112
 b5:aJ w x.c5 c.conf 143
 b13:aJ w x.Xd [c.y] 115
 y:AC w c c.nb 0 0
 mv:aJ w c.mv (xl (List.replicate c.nb false)) 4
 Xe:gj c.lo c.hi w c.pl W c.B E c.Qe
 roots:dt w x.b x.g ls
def yB(c:Cy)(x:Fz)(k:Nat):Prop:=c.EL.has k\/k=x.tb\/k=x.c3\/k=x.c5\/k=x.Xd\/k=c.y\/k=c.mv\/(c.lo<=k/\k<c.hi)\/k=x.b\/k=x.g\/k=cO
section
variable{c:Cy}{x:Fz}{W:Nat}{E:Nat->Nat}{ls:List Nat}{w w':World}{T:Nat->Prop}
theorem Ev.frame(h:Ev c x W E ls w)(hf:Fr T w w')(b:∀k,T k->¬yB c x k):Ev c x W E ls w':=by
 have n:∀k,yB c x k->¬T k:=fun k a e=>b k e a
 obtain ⟨g,j,l⟩:=h.all;exact ⟨⟨g.frame hf (fun k a=>n k (.inl a)),aS j hf (n _ (.inr (.inr (.inr (.inr (.inr (.inr (.inr (.inr (.inr (.inr rfl))))))))))),l.frame hf (n _ (.inr (.inl rfl)))⟩,
  h.b3.frame hf (n _ (.inr (.inr (.inl rfl)))),h.b5.frame hf (n _ (.inr (.inr (.inr (.inl rfl))))),h.b13.frame hf (n _ (.inr (.inr (.inr (.inr (.inl rfl)))))),aJ.frame h.y hf (n _ (.inr (.inr (.inr (.inr (.inr (.inl rfl))))))),h.mv.frame hf (n _ (.inr (.inr (.inr (.inr (.inr (.inr (.inl rfl)))))))),
  h.Xe.frame hf (fun i d=>by
   by_cases f:c.lo<=i/\i<c.hi
   ·exact absurd d (n i (.inr (.inr (.inr (.inr (.inr (.inr (.inr (.inl f)))))))))
   ·omega),
  h.roots.frame hf (n _ (.inr (.inr (.inr (.inr (.inr (.inr (.inr (.inr (.inl rfl)))))))))) (n _ (.inr (.inr (.inr (.inr (.inr (.inr (.inr (.inr (.inr (.inl rfl)))))))))))⟩
end
def sK(m Pg W Fs Us Hg:Nat)(mp:Nat->Bool)(L:Nat->Nat)(E hp hf hg:Nat->Nat)(c:Cy)(t:Nat)(pre:List (Nat×Nat))(S:Nat->Prop)(w:World):Prop:=
 ∃Sm fw n ns f,(∀k,S k↔(Sm k\/k=c.wb\/k=c.sb))/\¬Sm c.wb/\¬Sm c.sb/\c.wb≠c.sb/\dY m Pg W Fs Us Hg mp L Sm w/\gK w c.wb n fw/\(∀q,(fw q).getD 0=mS E Pg t q)/\n<=t/\iu w c.sb ns f/\ns<=pre.length/\∀x∈pre,vA (f x.1)=(hp x.1,hf x.1,hg x.1)
section
variable{m Pg W Fs Us Hg:Nat}{mp:Nat->Bool}{L E hp hf hg:Nat->Nat}{c:Cy}{x:Fz}{t:Nat}{pre:List (Nat×Nat)}{ls:List Nat}{S T:Nat->Prop}{w w':World}
theorem sK.frame(h:sK m Pg W Fs Us Hg mp L E hp hf hg c t pre S w)(d:Fr T w w')(b:∀k,S k->¬T k):sK m Pg W Fs Us Hg mp L E hp hf hg c t pre S w':=by
 obtain ⟨i,j,n,o,f,a,p,q,r,s,u,v,y,z,e,g⟩:=h;exact ⟨i,j,n,o,f,a,p,q,r,(da m Pg W Fs Us Hg mp) _ _ _ _ _ s d (fun k l=>b k ((a k).2 (.inl l))),u.frame d (b _ ((a _).2 (.inr (.inl rfl)))),v,y,z.frame d (b _ ((a _).2 (.inr (.inr rfl)))),e,g⟩
theorem sK.lt(h:sK m Pg W Fs Us Hg mp L E hp hf hg c t pre S w):∀k,S k->k<w.heap.size:=by
 obtain ⟨l,o,n,p,f,b,q,r,s,g,i,u,v,j,d,e⟩:=h;intro k a;rcases (b k).1 a with h|h|h
 ·exact (cw m Pg W Fs Us Hg mp).lt _ _ _ g k h
 ·rw [h];exact i.lt
 ·rw [h];exact j.lt
def Fi(m Pg W Fs Us Hg:Nat)(mp:Nat->Bool)(L E hp hf hg:Nat->Nat)(c:Cy)(x:Fz)(ls:List Nat)(pre:List (Nat×Nat))(S:Nat->Prop)(w:World):Prop:=
 (∀k,S k->¬yB c x k)/\Ev c x W E ls w/\sK m Pg W Fs Us Hg mp L E hp hf hg c (BD E W pre.length) pre S w
theorem Fi.stays{B:Nat}(e:∀k,yB c x k->k<B):gE B (Fi m Pg W Fs Us Hg mp L E hp hf hg c x ls):=by
 rintro pre S W1 l T ⟨h,i,j⟩ d b;exact ⟨h,i.frame d (fun k a f=>by have:=(b k a).1;have:=e k f;omega),j.frame d (fun k a g=>(b k g).2 a)⟩
theorem sK.head{e d:Nat->Prop}{g:Nat->Option Nat}{j l s n:Nat}{f:Nat->Option (Nat×Nat×Nat)}(p:¬e c.wb)(D:¬e c.sb)(r:c.wb≠c.sb)(u:gK w c.wb j g)(F:∀q,(g q).getD 0=mS E Pg s q)(G:j<=s)(C:l<=pre.length)(o:∀x∈pre,vA (f x.1)=(hp x.1,hf x.1,hg x.1))(a:∀x∈pre,x.1<s)
  (b:∀k,d k->e k\/w.heap.size<=k) (i:Fr (fun k=>e k\/k=c.sb) w w') (z:dY m Pg W Fs Us Hg mp L d w') (v:iu w' c.sb (l+1) (iV f s (hp s,hf s,hg s))) (y:c.sb<w.heap.size):
  sK m Pg W Fs Us Hg mp L E hp hf hg c s (pre++[(s,n)]) (fun k=>d k\/k=c.wb\/k=c.sb) w':=by
 have A:=u.lt;refine ⟨d,g,j,l+1,_,fun k=>dX,fun h=>(b _ h).elim p (fun h=>by omega),fun h=>(b _ h).elim D (fun h=>by omega),r,z,u.frame i (fun h=>h.elim p r),F,G,v,by rw [aH,aP];omega,fun x B=> ?_⟩;rcases bB.1 B with h|h
 ·have:=a x h;unfold iV;rw [aE (by omega)];exact o x h
 ·rw [bP.1 h];unfold iV;rw [aG rfl];rfl
theorem sK.word{a:Nat}(h:sK m Pg W Fs Us Hg mp L E hp hf hg c a pre S w)(s:aI E a=true)(I:a<1048576)(v:1<=Pg):∃V:Nat,V<=a/\(Instr.lookup 33 (.map (some c.wb)) (.int .i64 ((a/Pg:Nat):Int)) false).run prog w= .ok (.int .i64 V) w/\
  ∃w',(Instr.mapUpdate 33 (.map (some c.wb)) (.int .i64 ((a/Pg:Nat):Int)) (.int .i64 ((V+1:Nat):Int))).run prog w= .ok () w'/\sK m Pg W Fs Us Hg mp L E hp hf hg c (a+1) pre S w'/\Fr (fun k=>k=c.wb) w w':=by
 obtain ⟨r,H,n,z,f,A,j,B,l,C,o,p,J,D,b,d⟩:=h;have i:a/Pg<4611686018427387904:=by have:=bK a Pg;omega
 have y:=EQ (E:=E) (P:=Pg) (t:=a) (q:=a/Pg);refine ⟨mS E Pg a (a/Pg),y,?_,?_⟩
 ·have:=o.look (a/Pg) i;rwa [p] at this
 ·obtain ⟨w',F,G,g⟩:=o.put (a/Pg) (mS E Pg a (a/Pg)+1) i (by omega) (by omega);refine ⟨w',F,⟨r,_,_,z,f,A,j,B,l,(da m Pg W Fs Us Hg mp) _ _ _ _ _ C g (fun k u e=>j (e▸u)),G,fun q=> ?_,?_,D.frame g (Ne.symm l),b,d⟩,g⟩
  ·rw [Bp s];unfold iV;by_cases e:q=a/Pg
   ·rw [aG e,aG e,e];rfl
   ·rw [aE e,aE e,p,bg]
  ·split<;>omega
theorem sK.skip{a:Nat}(h:sK m Pg W Fs Us Hg mp L E hp hf hg c t pre S w)(g:t<=a)(e:∀i,t<=i->i<a->aI E i=false):sK m Pg W Fs Us Hg mp L E hp hf hg c a pre S w:=by
 obtain ⟨b,d,n,j,f,k,l,o,p,r,s,u,y,v⟩:=h;exact ⟨b,d,n,j,f,k,l,o,p,r,s,fun q=>by rw [Bq g e];exact u q,by omega,v⟩
end
def pY(m Pg W Fs:Nat)(mp:Nat->Bool)(Mc:Nat->Nat)(dr:Nat->Bool)(q0:Nat)(S9:Nat->Prop)(w10:World)(q:Nat)(wr:World):Prop:=
 ∃Us Hg mpq S',dY m Pg W Fs Us Hg mpq Mc S' wr/\(∀r,mpq r=(mp r&& !(decide (q0<=r)&&decide (r<q)&&dr r)))/\Fr S9 w10 wr/\∀k,S' k->S9 k\/w10.heap.size<=k
section
variable{m Pg W Fs Us Hg:Nat}{mp:Nat->Bool}{Mc:Nat->Nat}{dr:Nat->Bool}{q0 q:Nat}{S9:Nat->Prop}{w10 wr w1:World}
theorem pY.start(h:dY m Pg W Fs Us Hg mp Mc S9 w10):pY m Pg W Fs mp Mc dr q0 S9 w10 q0 w10:=by
 refine ⟨Us,Hg,mp,S9,h,fun r=> ?_,GQ _ _,fun _ h=> .inl h⟩;have:(decide (q0<=r)&&decide (r<q0))=false:=by rw [bl,az,az];omega
 rw [this];simp
theorem pY.Fh(h:pY m Pg W Fs mp Mc dr q0 S9 w10 q wr)(hf:GM wr w1):pY m Pg W Fs mp Mc dr q0 S9 w10 q w1:=by
 obtain ⟨Us,Hg,a,S',b,c,d,e⟩:=h;exact ⟨Us,Hg,a,S',b.Qa hf,c,d.trans hf GN,e⟩
theorem pY.pg(h:pY m Pg W Fs mp Mc dr q0 S9 w10 q wr):Calls prog 148 #[m] wr fun e w'=>e= .returned (Pg:Int)/\wr=w':=by
 obtain ⟨Us,Hg,b,S',⟨M,a,_⟩,_⟩:=h;exact jo a
theorem pY.skip(h:pY m Pg W Fs mp Mc dr q0 S9 w10 q wr)(f:dr q=false):pY m Pg W Fs mp Mc dr q0 S9 w10 (q+1) wr:=by
 obtain ⟨Us,Hg,a,S',b,c,d⟩:=h;refine ⟨Us,Hg,a,S',b,fun r=> ?_,d⟩;rw [c];by_cases e:r=q
 ·subst e;rw [f,cV,cV]
 ·congr 4
  rw [ce];omega
theorem pY.drop(h:pY m Pg W Fs mp Mc dr q0 S9 w10 q wr)(s:dr q=true)(u:mp q=true)(g:q<W/Pg)(f:q0<=q):Calls prog 149 #[m,(q:Int)] wr fun e w'=>e= .returned (0:Int)/\pY m Pg W Fs mp Mc dr q0 S9 w10 (q+1) w':=by
 obtain ⟨Us,Hg,c,S',⟨M,o,p⟩,i,j,l⟩:=h;refine (mh o q g (by rw [i,u,ar (gJ q)];simp)).mono ?_;rintro e w' ⟨rfl,S2,high2,M2,p1,p2,p3,p4⟩;have v:=j.size;refine ⟨rfl,Us-1,high2,_,S2,⟨M2,p1,fun b d=> ?_⟩,fun r=> ?_,j.trans p3 l,fun k t=> ?_⟩
 ·have a:c (b/Pg)=true:=by have:=d.2;rw [au] at this;exact this.1
  rw [p2 b d.1 a d.2];exact p b ⟨d.1,a⟩
 ·show (c r&& !(r==q))=_
  rw [i];by_cases e:r=q
  ·subst e;rw [cT,aB (bI r),aB f,s];simp
  ·rw [aT.2 e,eV,dZ];congr 4
   rw [ce];omega
 ·rcases p4 k t with n|n
  ·exact l k n
  ·exact .inr (by omega)
end
def rv(m b g Pg W Fs:Nat)(A:AG)(rs:List Nat)(T Li B ah:Nat)(S:Nat->Prop)(w:World)(e:Ending)(w':World):Prop:=
 ∃(c:Cy) (s:dV) (hf hg φ' L':Nat->Nat) (S':Nat->Prop) (l:List Nat),e= .returned (.tuple #[c.y,(0:Int)])/\c.m=m/\s.Qe=T/\s.P=Pg/\s.W=W/\s.R=(Li-T)/Pg/\s.B=B/\s.Ah=ah/\yD c s hf hg Fs (T+A.Wd l)/\jU c s hf hg Fs (T+A.Wd l) (List.replicate s.nb false) s.nb 0 0 L' S' w'/\dE A rs l/\cP A rs φ' L' T (T+A.Wd l)/\T+A.Wd l<=Li/\dt w' b g (rs.map φ')/\et w'/\(∀k,S' k->S k\/w.heap.size<=k)/\Fr (fun k=>S k\/k=g) w w'/\w.heap.size<w'.heap.size/\Qb (aI s.E) 0 s.W=A.Wd l
section
variable{m b g Pg W Fs Us Hg:Nat}{S Sm:Nat->Prop}{mp mpq:Nat->Bool}{L M:Nat->Nat}{w wz:World}{A:AG}{rs:List Nat}{φ E hp hf hg:Nat->Nat}{F Tp T Li B Rm ah:Nat}
theorem zq(o:nh Pg W F Tp T Li B Rm ah)(n:1<=Pg)(am:W% Pg=0)(al:W<=524288)(J:Pg∣B\/B∣Pg)(z:cP A rs φ L F Tp)(j:lX A rs φ E)(I:iB E)(K:∀x,Reach A.gr rs x->hp (φ x)=A.np x/\hf (φ x)=A.nf x/\hg (φ x)=A.ng x)(ay:Tp-F<=Li-T)(aq:∀q,mp q=(decide (F<=q*Pg)&&decide (q*Pg<Tp)))
  (ao:Fs=(Li-T)/Pg+(ah+2)*(vW B Pg+3)) {q:Nat} (aP:Tp<=q*Pg) (Q:∀r,mpq r=(mp r&& !(decide (F/Pg<=r)&&decide (r<q)&&decide (mS E Pg W r=0)))) (hM:∀a,dD W Pg mpq a->M a=L a):
  ∃(L':Nat->Nat) (l:List Nat),mz ⟨E,hp,T,W,Pg,B,(Li-T)/Pg,ah⟩ L' M mpq (fun _=>false) 0 0 (ou (Qb (aI E) 0 W) B) (T+A.Wd l)/\dE A rs l/\Qb (aI E) 0 W=A.Wd l/\T+A.Wd l<=Li/\cP A rs (rY (goes E T) φ) L' T (T+A.Wd l)/\fS ⟨E,hp,T,W,Pg,B,(Li-T)/Pg,ah⟩/\(∀a,E a≠0->eO (hp a) (hf a) (hg a)):=by
 have aC:=o.F1;have Z:=o.F2;have H:=o.F3;have aH:=o.T1;have aK:=o.T2;have aL:=o.T3;have ak:=o.T4;have aE:=o.L4;have aD:=o.F4;have ad:F=F/Pg*Pg:=by have:=aM F Pg;rw [aN];omega
 have ai:(Li-T)/Pg*Pg=Li-T:=by
  have k:(Li-T)% Pg=0:=by
   obtain ⟨a,f⟩:∃a,T=a*Pg:=⟨T/Pg,by have:=aM T Pg;rw [aN];omega⟩;obtain ⟨c,an⟩:∃c,Li=c*Pg:=⟨Li/Pg,by have:=aM Li Pg;rw [aN];omega⟩;rw [f,an,<-iT];exact Nat.mul_mod_left _ _
  have:=aM (Li-T) Pg;rw [aN];omega
 obtain ⟨R,hR⟩:∃R,R=(Li-T)/Pg:=⟨_,rfl⟩;rw [<-hR] at ai ao ⊢;have Y:∀a,E a≠0->∃x,Reach A.gr rs x/\φ x=a/\E a=A.sz x/\F<=a/\a+E a<=Tp:=fun a f=>by
  obtain ⟨x,p,e⟩:=j.some a f;have k:=j.size x p;have u:=z.Qn x p;rw [e] at k u;exact ⟨x,p,e,k,u.1,by omega⟩
 have d:∀a,aI E a=true->F<=a/\a<Tp:=fun a f=>by
  obtain ⟨s,s1,s2⟩:=cX.1 f;obtain ⟨x,p,e,k,u,t⟩:=Y s (by omega);omega
 have aG:Qb (aI E) 0 W=Qb (aI E) 0 Tp:=by
  rw [bJ (aI E) (aF Tp) H,cu (a:=Tp) (b:=W) (fun i hi _=>by
   cases h:aI E i with
   |false=>rfl
   |true=>have:=d i h;omega),bg]
 obtain ⟨l,P⟩:=z.Xh j (W:=W) (fun a f=>by obtain ⟨x,_,_,k,u,t⟩:=Y a f;omega);have aw:=(dE.Qb z j P).1;have ax:A.Wd l<=Li-T:=by
  have k:Qb (aI E) 0 Tp<=Tp-F:=by
   rw [bJ (aI E) (aF F) Z,cu (a:=0) (b:=F) (fun i _ hi=>by
    cases h:aI E i with
    |false=>rfl
    |true=>have:=d i h;omega),br]
   exact dR _ _ _
  omega
 have ho:fS ⟨E,hp,T,W,Pg,B,R,ah⟩:=by
  refine ⟨I,n,o.B1,J,am,al,ak,?_,?_,fun a f=> ?_⟩
  ·show T+R*Pg<=W
   omega
  ·show Qb (aI E) 0 W<=R*Pg
   omega
  ·obtain ⟨k,u⟩:=d a f;refine ⟨by show a<W;omega,?_⟩;show a<T\/T+R*Pg<=a
   rcases o.ap with t|t
   ·right;omega
   ·left;have v:=aM (Tp+Pg-1) Pg;have V:=bO (Tp+Pg-1) (show 0<Pg by omega);rw [aN] at v;omega
 have U:∀r,r<W/Pg->mpq r=ky Pg (aI E) (fun _=>false) r:=fun r hr=>by
  have k:=pS (s:=⟨E,hp,T,W,Pg,B,R,ah⟩) n (fun _=>false) r;have u:=xM (s:=⟨E,hp,T,W,Pg,B,R,ah⟩) n (fun a f=>by have:=d a f;show a<W;omega) r;rw [<-u] at k;have G:mS E Pg W r≠0↔ky Pg (aI E) (fun _=>false) r=true:=k;rw [Q,aq]
  cases hf:ky Pg (aI E) (fun _=>false) r with
  |true=>
   have t:=G.2 hf;unfold ky at hf;obtain ⟨a,C,D⟩:=(cB n).1 hf;rw [au] at D;obtain ⟨v,V⟩:=d a D.1;have X:F/Pg<=r:=by rw [<-C];exact bi v
   have h7:=aX Pg X;have h8:r*Pg<=a:=by rw [<-C];exact bE _ _
   rw [aB (show F<=r*Pg by omega),aB (show r*Pg<Tp by omega),ar t];simp
  |false=>
   have t:mS E Pg W r=0:=by
    by_cases v:mS E Pg W r=0
    ·exact v
    ·rw [G.1 v] at hf;cases hf
   rw [t];by_cases V:F<=r*Pg/\r*Pg<Tp
   ·have X:F/Pg<=r:=by
     have:=bi (c:=Pg) V.1;rwa [dq _ (by omega)] at this
    have h7:r<q:=by
     rcases aY r q with h|h
     ·exact h
     ·have:=aX Pg h;omega
    rw [aB X,aB h7];simp
   ·have:(decide (F<=r*Pg)&&decide (r*Pg<Tp))=false:=by rw [bl,az,az];omega
    rw [this];rfl
 have aj:∀a,aI E a=true->M a=L a:=fun a f=>by
  obtain ⟨k,u⟩:=d a f;have t:a/Pg<W/Pg:=by
   rw [bp (by omega)];have:W=W/Pg*Pg:=by have:=aM W Pg;rw [aN];omega
   omega
  refine hM a ⟨by omega,?_⟩;rw [U _ t];exact (cB n).2 ⟨a,rfl,by rw [f];rfl⟩
 have y:cP A rs φ M F Tp:=z.Xy (fun x p i hi=>aj _ (z.live j p hi));have O:∀x,Reach A.gr rs x->hp (φ x)=A.np x:=fun x p=>(K x p).1
 have av:=zr ho (M:=M) (mp:=mpq) U (y.opn_ptr j O (show Tp<=W from H)) (y.Yi j (by omega)) (kz (a:=F/Pg) (fun r hr hf=>by
  obtain ⟨a,C,D⟩:=(cB n).1 hf;rw [au] at D;obtain ⟨v,V⟩:=d a D.1;refine ⟨by rw [<-C];exact bi v,?_⟩;rw [<-C];show a/Pg<F/Pg+R
  rw [bp (by omega),fM,<-ad];omega))
 obtain ⟨L',hP,af⟩:=av;have hN:(⟨E,hp,T,W,Pg,B,R,ah⟩:dV).N=A.Wd l:=by
  show Qb (aI E) 0 W=_
  omega
 refine ⟨L',l,?_,P,by omega,by omega,?_,ho,fun a f=> ?_⟩
 ·have:=hP;rw [hN] at this;exact this
 ·have:=y.opn_laid j I O (T:=T) (by omega) (L:=L') (fun a f=>af a f);rw [aw] at this;exact this
 ·obtain ⟨x,p,e,_⟩:=Y a f;have k:=K x p;rw [e] at k;rw [k.1,k.2.1,k.2.2];exact (z.head x p).2
end
section
variable{P:Program}
theorem ur(ps:List PK):qz (ps.map PK.post)=fun j=>(ij ps j).post:=funext fun j=>by
 unfold qz ij;rw [aQ,aQ,aR]
 cases ps[j]? <;>rfl
theorem ma{R:World->World->Prop}:∀{ps:List PK},ny R ps->tU R (ps.map PK.post)
 |[],_=>trivial
 | .c _::l,h=>⟨fun _ _ _ h _=>h,ma (ps:=l) h⟩
 | .p _::l,h=>⟨h.1,ma (ps:=l) h.2⟩
 | .w _ _::l,h=>⟨fun _ w w' hp a=>⟨hp.1,h.1 w w' hp.2 a⟩,ma (ps:=l) h.2⟩
theorem kp{R:World->World->Prop}{d:Nat}:∀{ps:List PK} (k:Nat),lg R d k ps->xE R d k (ps.map PK.post)
 |[],_,_=>trivial
 | .c _::l,k,h=>⟨.inr (fun _ _ _ h _=>h),kp (ps:=l) (k+1) h⟩
 | .p _::l,k,h=>⟨h.1,kp (ps:=l) (k+1) h.2⟩
 | .w _ _::l,k,h=>⟨h.1.imp id (fun h _ w w' hp a=>⟨hp.1,h w w' hp.2 a⟩),kp (ps:=l) (k+1) h.2⟩
theorem yw{vs:Nat->Value}{w:World}:∀(ps:List (Value->World->Prop)) (k:Nat),CO vs w k ps->∀j,j<ps.length->qz ps j (vs (k+j)) w
 |_::_,_,h,0,_=>h.1
 |_::l,k,h,j+1,hj=>by
  have:=yw l (k+1) h.2 j (Nat.lt_of_succ_lt_succ hj);rw [show k+(j+1)=k+1+j by omega];exact this
theorem lk{K k m:Nat}{Q:Exit->Act->World->Prop}{a:Act}{w:World}{l:List Oper}(n d:Nat)(R b:World->World->Prop)(ps:List PK)(nw:Nat->Bool)
  (t:∀w,b w w) (r:∀w w',b w w'->R w w') (g:∀w1 w2 w3,b w1 w2->b w2 w3->b w1 w3) (o:∀w1 w2 w3,R w1 w2->b w2 w3->R w1 w3) (p:∀w1 w2 w3,b w1 w2->R w2 w3->R w1 w3) (J:∀w w',R w w'->w.heap.size<=w'.heap.size) (f:ny b ps) (u:lg R d 0 ps)
  (h:∀F:(Nat->Value)->Act,(F=fun vs=>{a with tmps:=fp vs 0 ps (l.take n) a.tmps})->nY P (dF l d) F w.drew d R b ps nw 0 (l.take n)/\∀vs w',R w.drew w'->rG vs w' 0 ps->(∀i j,nw i=true->nw j=true->i<n->j<n->i≠j->gd (vs i)≠gd (vs j))->Q .normal (F vs) w') (H:P.follows .mixedOrders=true:=by kernel_rfl) (v:iX l=true:=by kernel_rfl) (x:gN l=true:=by kernel_rfl) (y:(decide (n=l.length)&&Region.seqB .any l.toArray 0 n (jd l.length n))=true:=by kernel_rfl) (z:ps.length=n:=by rfl):
  (Code.region K l.toArray true).wpIn (Fence.wide.inRound k) m P Q a w:=by
 have C:=y;rw [au,aC] at C;have c:ps.length=(l.take n).length:=by rw [z,cg];omega
 have s:∀vs,fp vs 0 ps (l.take n) a.tmps=df (j5 ps vs) 0 (l.take n) a.tmps:=fun vs=>qn ps (l.take n) 0 _ c (fun j=>by rw [br])
 obtain ⟨A,B⟩:=h _ rfl;simp only [s] at A B;refine rA n d R b (ps.map PK.post) nw H v x y (by rw [bL];exact z) t r g o p J (ma f) (kp 0 u) (fun F D=> ?_);subst D;rw [ur];refine ⟨o0 (jr v x) _ 0 (fun j=>by rw [br]) A,fun vs w' I hp E=> ?_⟩;have e:∀j,j<n->(ij ps j).post (vs j) w':=fun j q=>by
  have:=yw _ _ hp j (by rw [bL];omega);rw [ur,br] at this;exact this
 have G:j5 ps vs=vs:=funext fun j=>by
  rcases aY j n with q|q
  ·exact PK.Xg (e j q)
  ·unfold j5 ij;rw [aQ,cL (by omega)];rfl
 have:=B vs w' I (pW ps 0 (fun j q=>by rw [br];exact e j (by omega))) E;rwa [G] at this
end
end Go.Proofs.YthahbijbpinneaaGreatDoor
