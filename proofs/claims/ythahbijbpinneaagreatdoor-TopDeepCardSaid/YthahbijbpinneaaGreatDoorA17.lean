import Derived.Test.YthahbijbpinneaaGreatDoorA10
import Derived.Test.YthahbijbpinneaaGreatDoorA16
import Derived.Deep.RegionHeld3
set_option maxRecDepth 100000
set_option maxHeartbeats 8000000
set_option linter.all false
namespace Go.Proofs.YthahbijbpinneaaGreatDoor
open Go.RowKit
inductive PK where
 |c (v:Value)
 |p (f:Value->World->Prop)
 |w (v:Value) (f:World->Prop)
def PK.post:PK->Value->World->Prop
 | .c x=>fun v _=>v=x
 | .p f=>f
 | .w x f=>fun v w=>v=x∧f w
def PK.val:PK->Value->Value
 | .c x,_=>x
 | .p _,v=>v
 | .w x _,_=>x
theorem PK.val_post:∀{k:PK} {v:Value} {w:World},k.post v w->k.val v=v
 | .c _,_,_,h=>Eq.symm h
 | .p _,_,_,_=>rfl
 | .w _ _,_,_,h=>Eq.symm h.1
def fE (ps:List PK) (j:Nat):PK:=ps.getD j (.p fun _ _=>True)
def iK (ps:List PK) (vs:Nat->Value) (j:Nat):Value:=(fE ps j).val (vs j)
def cU (vs:Nat->Value):Nat->List PK->List Oper->Array Value->Array Value
 |k,q::ps,o::l,t=>cU vs (k+1) ps l (match o.dst with|some d=>t.setIfInBounds d (q.val (vs k))|none=>t)
 |_,_,_,t=>t
theorem oy {a:List PK} {vs:Nat->Value} (ps:List PK):∀(l:List Oper) (k:Nat) (t:Array Value),ps.length=l.length->(∀j,ps[j]? =a[k+j]?)->cU vs k ps l t=bg (iK a vs) k l t:=by
 induction ps with
 |nil=>
  intro l k t b _
  cases l with
  |nil=>rfl
  |cons o l=>simp at b
 |cons q ps ih=>
  intro l k t b hp
  cases l with
  |nil=>simp at b
  |cons o l=>
   have f:fE a k=q:=by
    have:=hp 0;rw [Nat.add_zero] at this;unfold fE;rw [List.getD_eq_getElem?_getD,<-this];rfl
   have c:iK a vs k=q.val (vs k):=by unfold iK;rw [f]
   have e:=ih l (k+1) (match o.dst with|some d=>t.setIfInBounds d (q.val (vs k))|none=>t) (by simpa using b) (fun j=>by have:=hp (j+1);rw [show k+(j+1)=k+1+j by omega] at this;exact this);rw [<-c] at e;have g:cU vs k (q::ps) (o::l) t=cU vs (k+1) ps l (match o.dst with|some d=>t.setIfInBounds d (q.val (vs k))|none=>t):=rfl;rw [g,<-c,e];rfl
def ip (R:World->World->Prop):List PK->Prop
 |[]=>True
 | .c _::l=>ip R l
 | .p f::l=>(∀v w w',f v w->R w w'->f v w')∧ip R l
 | .w _ f::l=>(∀w w',f w->R w w'->f w')∧ip R l
def fM (R:World->World->Prop) (d:Nat):Nat->List PK->Prop
 |_,[]=>True
 |k,.c _::l=>fM R d (k+1) l
 |k,.p f::l=>((k==d)=true∨∀v w w',f v w->R w w'->f v w')∧fM R d (k+1) l
 |k,.w _ f::l=>((k==d)=true∨∀w w',f w->R w w'->f w')∧fM R d (k+1) l
theorem ga {R:World->World->Prop} {d:Nat}:∀{ps:List PK} (k j:Nat),fM R d k ps->k+j≠d->∀v w w',(fE ps j).post v w->R w w'->(fE ps j).post v w'
 |[],_,_,_,_,_,_,_,_,_=>trivial
 | .c _::_,_,0,_,_,_,_,_,hp,_=>hp
 | .p _::_,k,0,h,hd,v,w,w',hp,hr=>(h.1.resolve_left (fun e=>hd (beq_iff_eq.1 e))) v w w' hp hr
 | .w _ _::_,k,0,h,hd,v,w,w',hp,hr=>⟨hp.1,(h.1.resolve_left (fun e=>hd (beq_iff_eq.1 e))) w w' hp.2 hr⟩
 | .c _::l,k,j+1,h,hd,v,w,w',hp,hr=>ga (R:=R) (d:=d) (ps:=l) (k+1) j h (by omega) v w w' hp hr
 | .p _::l,k,j+1,h,hd,v,w,w',hp,hr=>ga (R:=R) (d:=d) (ps:=l) (k+1) j h.2 (by omega) v w w' hp hr
 | .w _ _::l,k,j+1,h,hd,v,w,w',hp,hr=>ga (R:=R) (d:=d) (ps:=l) (k+1) j h.2 (by omega) v w w' hp hr
theorem jv {R:World->World->Prop}:∀{ps:List PK} (k:Nat),ip R ps->fM R (k+ps.length) k ps
 |[],_,_=>trivial
 | .c _::l,k,h=>by have:=jv (ps:=l) (k+1) h;rwa [show k+1+l.length=k+(l.length+1) by omega] at this
 | .w _ _::l,k,h=>⟨.inr h.1,by have:=jv (ps:=l) (k+1) h.2;rwa [show k+1+l.length=k+(l.length+1) by omega] at this⟩
 | .p _::l,k,h=>⟨.inr h.1,by have:=jv (ps:=l) (k+1) h.2;rwa [show k+1+l.length=k+(l.length+1) by omega] at this⟩
theorem iq {R:World->World->Prop}:∀{ps:List PK} (j:Nat),ip R ps->∀v w w',(fE ps j).post v w->R w w'->(fE ps j).post v w'
 |[],_,_,_,_,_,_,_=>trivial
 | .c _::_,0,_,_,_,_,hp,_=>hp
 | .p _::_,0,h,v,w,w',hp,hr=>h.1 v w w' hp hr
 | .w _ _::_,0,h,v,w,w',hp,hr=>⟨hp.1,h.1 w w' hp.2 hr⟩
 | .c _::l,j+1,h,v,w,w',hp,hr=>iq (R:=R) (ps:=l) j h v w w' hp hr
 | .p _::l,j+1,h,v,w,w',hp,hr=>iq (R:=R) (ps:=l) j h.2 v w w' hp hr
 | .w _ _::l,j+1,h,v,w,w',hp,hr=>iq (R:=R) (ps:=l) j h.2 v w w' hp hr
def pa (vs:Nat->Value) (w:World):Nat->List PK->Prop
 |_,[]=>True
 |k,.c _::l=>pa vs w (k+1) l
 |k,.p f::l=>f (vs k) w∧pa vs w (k+1) l
 |k,.w _ f::l=>f w∧pa vs w (k+1) l
theorem mb {vs:Nat->Value} {w:World}:∀(ps:List PK) (k:Nat),(∀j,j<ps.length->(fE ps j).post (vs (k+j)) w)->pa vs w k ps
 |[],_,_=>trivial
 |q::l,k,h=>by
  have a:=mb l (k+1) (fun j b=>by
   have:=h (j+1) (Nat.succ_lt_succ b);rw [show k+(j+1)=k+1+j by omega] at this;exact this)
  cases q with
  |c x=>exact a
  |p f=>exact ⟨h 0 (Nat.zero_lt_succ _),a⟩
  |w x f=>exact ⟨(h 0 (Nat.zero_lt_succ _)).2,a⟩
section
variable {P:Program} {d:Nat} {R R1:World->World->Prop} {nw:Nat->Bool} {ps:List PK}
def gK (P:Program) (wd:Nat->Bool) (F:(Nat->Value)->Act) (w0:World) (d:Nat) (R R1:World->World->Prop) (ps:List PK) (nw:Nat->Bool):Nat->List Oper->Prop
 |_,[]=>True
 |k,o::l=>(∀vs w,R w0 w->((k==d||wd k)=true->R1 w0 w)->(∀j,ce o j=true->(fE ps j).post (vs j) w)->(∀i j,nw i=true->nw j=true->ce o i=true->ce o j=true->i≠j->cX (vs i)≠cX (vs j))->bO P (F vs).eval o w (fun v w'=>(fE ps k).post v w'∧(bif k==d then R w w' else R1 w w')∧(nw k=true->kR w w' v)))∧gK P wd F w0 d R R1 ps nw (k+1) l
theorem iC {z:Nat->Bool} {w0:World} {a:Act} {l:List Oper} {n:Nat} (b:lX l):∀(m:List Oper) (k:Nat),(∀j,m[j]? =(l.take n)[k+j]?)->gK P z (fun vs=>{a with tmps:=bg (iK ps vs) 0 (l.take n) a.tmps}) w0 d R R1 ps nw k m->d9 P z (fun vs=>{a with tmps:=bg vs 0 (l.take n) a.tmps}) w0 d R R1 (fun j=>(fE ps j).post) nw k m
 |[],_,_,_=>trivial
 |o::m,k,hm,h=>by
  refine ⟨fun vs w A g u B=> ?_,iC b m (k+1) (fun j=>by have:=hm (j+1);rw [show k+(j+1)=k+1+j by omega] at this;exact this) h.2⟩;have hp:=h.1 vs w A g u B;have s:=(hm 0).symm;have c:∀(j:Nat) (o:Oper),(l.take n)[j]? =some o->l[j]? =some o:=fun j o h=>by
   rw [List.getElem?_take] at h;split at h
   ·exact h
   ·cases h
  have g:l[k]? =some o:=c _ _ s;have r:execOp (({a with tmps:=bg vs 0 (l.take n) a.tmps}:Act)).eval o=execOp (({a with tmps:=bg (iK ps vs) 0 (l.take n) a.tmps}:Act)).eval o:=by
   refine execOp_congr o (b.sel k o g) (fun x E=> ?_)
   cases x with
   |tmp t=>
    have e:(bg vs 0 (l.take n) a.tmps)[t]? =(bg (iK ps vs) 0 (l.take n) a.tmps)[t]? :=by
     by_cases f:∃(j:Nat) (p:Oper),(l.take n)[j]? =some p∧p.dst=some t
     ·obtain ⟨j,p,hp,q⟩:=f;have v:∀i o',(l.take n)[i]? =some o'->o'.dst=some t->i=j:=fun i o' C e=>b.once i o' j p t (c _ _ C) (c _ _ hp) q e
      rw [fZ (l.take n) 0 j _ p hp q v,fZ (l.take n) 0 j _ p hp q v,Nat.zero_add,show iK ps vs j=vs j from PK.val_post (u j (b.reads k o j p t g (c _ _ hp) q E))]
     ·have y:∀o∈l.take n,o.dst≠some t:=fun o s e=>f (let ⟨j,D⟩:=List.mem_iff_getElem?.1 s;⟨j,o,D,e⟩)
      rw [de _ _ _ y,de _ _ _ y]
    simp only [Act.eval,Array.getD_eq_getD_getElem?,e]
   |_=>rfl
  unfold bO at*;rw [r];exact hp
theorem aS {G:Nat} {Q:Exit->Act->World->Prop} {a:Act} {w:World} {l:List Oper} (n d:Nat) (R R1:World->World->Prop) (ps:List PK) (nw:Nat->Bool) (D:P.follows .mixedOrders=true) (t:ek l=true) (u:dq l=true)
  (k:(decide (n<=l.length)&&vY l n&&Region.seqB .any l.toArray (l.length-n) n (eA l.length n))=true) (C:ps.length=n)
  (r:∀w,R1 w w) (o:∀w w',R1 w w'->R w w') (e:∀w1 w2 w3,R1 w1 w2->R1 w2 w3->R1 w1 w3) (f:∀w1 w2 w3,R w1 w2->R1 w2 w3->R w1 w3) (g:∀w1 w2 w3,R1 w1 w2->R w2 w3->R w1 w3) (E:∀w w',R w w'->w.heap.size<=w'.heap.size) (c:ip R1 ps) (s:fM R d 0 ps)
  (h:∀F:(Nat->Value)->Act,(F=fun vs=>{a with tmps:=cU vs 0 ps (l.take n) a.tmps})->gK P (bC l d) F w.drew d R R1 ps nw 0 (l.take n)∧∀vs w',R w.drew w'->pa vs w' 0 ps->(∀i j,nw i=true->nw j=true->i<n->j<n->i≠j->cX (vs i)≠cX (vs j))->wpList P l.toArray Q (l.drop n) (F vs) w'):
  (Code.region G l.toArray true).wp P Q a w:=by
 rw [Bool.and_eq_true,Bool.and_eq_true,decide_eq_true_eq] at k;have b:ps.length=(l.take n).length:=by rw [C,List.length_take];omega
 have p:∀vs,cU vs 0 ps (l.take n) a.tmps=bg (iK ps vs) 0 (l.take n) a.tmps:=fun vs=>oy ps (l.take n) 0 _ b (fun j=>by rw [Nat.zero_add])
 obtain ⟨x,y⟩:=h _ rfl;simp only [p] at x y;refine el n d R R1 (fun j=>(fE ps j).post) nw D t u k.1.1 (oE k.1.2) k.2 r o e f g (fun j=>iq j c) (fun j v w w' m hp q=>ga 0 j s (by omega) v w w' hp q) E (fun F z=> ?_);subst z;refine ⟨iC (eR t u) _ 0 (fun j=>by rw [Nat.zero_add]) x,fun vs w' q hp _ A=> ?_⟩;have B:iK ps vs=vs:=funext fun j=>by
  rcases Nat.lt_or_ge j n with m|m
  ·exact PK.val_post (hp j m)
  ·unfold iK fE;rw [List.getD_eq_getElem?_getD,List.getElem?_eq_none (by omega)];rfl
 have:=y vs w' q (mb ps 0 (fun j m=>by rw [Nat.zero_add];exact hp j (by omega))) A;rwa [B] at this
theorem bU {q:Nat} {Q:Exit->Act->World->Prop} {a:Act} {w:World} {l:List Oper} (n:Nat) (R:World->World->Prop) (ps:List PK) (nw:Nat->Bool) (o:P.follows .mixedOrders=true) (g:ek l=true) (k:dq l=true)
  (m:(decide (n<=l.length)&&vY l n&&Region.seqB .any l.toArray (l.length-n) n (eA l.length n))=true) (f:ps.length=n)
  (e:∀w,R w w) (b:∀w1 w2 w3,R w1 w2->R w2 w3->R w1 w3) (p:∀w w',R w w'->w.heap.size<=w'.heap.size) (c:ip R ps)
  (h:∀F:(Nat->Value)->Act,(F=fun vs=>{a with tmps:=cU vs 0 ps (l.take n) a.tmps})->gK P (bC l n) F w.drew n R R ps nw 0 (l.take n)∧∀vs w',R w.drew w'->pa vs w' 0 ps->(∀i j,nw i=true->nw j=true->i<n->j<n->i≠j->cX (vs i)≠cX (vs j))->wpList P l.toArray Q (l.drop n) (F vs) w'):
  (Code.region q l.toArray true).wp P Q a w:=
 aS n n R R ps nw o g k m f e (fun _ _ h=>h) b b b p c (by have:=jv (R:=R) 0 c;rwa [Nat.zero_add,f] at this) h
theorem oV {ρ:Operand->Value} {o:Oper} {w:World} {q:Value->World->Prop} {R1:World->World->Prop} {v:Value} {A:World->World->Prop} (h:(execOp ρ o).run P w= .ok (.value v) w) (hp:q v w) (a:R1 w w):bO P ρ o w (fun v w'=>q v w'∧(bif false then A w w' else R1 w w')∧(false=true->kR w w' v)):=
 ao v h ⟨hp,a,fun h=>nomatch h⟩
end
section
variable {b:Nat} {h:Hp} {c:Cf} {A:AG} {rs:List Nat} {φ L:Nat->Nat} {Ba u ub:Nat} {cy:Option Nat} {n:Nat} {ns bs:Int} {S T X q:Nat->Prop} {w w' w'':World}
theorem eT.ended {y:Nat} (a:eT q h c A rs φ L Ba u ub (some y) 0 ns bs S w) (hf:Fr (fun k=>k=h.b) w w') {l j:Int} (K:gq w' h.b c h.m h.rb ub none l j):∃L' S',eT (fun _=>True) h c A rs φ L' Ba u ub none 0 l j S' w'∧∀k,S' k->S k:=by
 obtain ⟨i,Z,s,N,hg,V,fr,Y,o,⟨Us,qu,R⟩,r1,U,C,D,r5,E,r7,r8⟩:=a.mem;obtain ⟨Hg,F,mp,M,fw,k,P,Q,p3,p4,t⟩:=R;obtain ⟨G,H,I,e4,e5,J,e7,e8,e9⟩:=a.e;obtain ⟨v,p⟩:=Q.done o.ok o.top1;have hP:=o.ok.P1;rw [C] at v p;rw [D,E] at p;have r:=P.mem;rw [U,D,E] at r;have B:=a.half.top;have z:=a.fits;have O:=a.cok.page2;refine ⟨M,F,⟨a.cok,K,a.roots.frame hf (Ne.symm G) (Ne.symm H),aj.frame a.reg hf (Ne.symm I),ak a.tab hf (Ne.symm J),a.laid.congr (fun k g x=>v k g x),a.Sl,a.fits,a.half,⟨rfl,Us,Hg,mp,⟨M,r.frame hf (fun k i e=>(a.d k ((t k).2 (.inl i))).1 e),fun _ _=>rfl⟩,fun k=> ?_⟩,fun k i=>a.d k ((t k).2 (.inl i)),a.e⟩,fun k i=>(t k).2 (.inl i)⟩;have f:=o.low1;rw [C] at f;rcases Nat.lt_or_ge k (c.W/c.Pg) with g|g
 ·exact p k g f
 ·rw [r.off g];have x:c.W<=k*c.Pg:=by
   have h3:=Nat.mul_le_mul_right c.Pg g;have h4:c.W/c.Pg*c.Pg=c.W:=by have:=Nat.div_add_mod c.W c.Pg;rw [a.cok.Wp] at this;rw [Nat.mul_comm];omega
   omega
  rw [decide_eq_false (show¬k*c.Pg<Ba+u by omega),Bool.and_false]
def rP (h:Hp) (c:Cf) (A:AG) (rs:List Nat) (φ:Nat->Nat) (Ba u ub n:Nat) (S:Nat->Prop) (w:World) (e:Ending) (w':World):Prop:=e= .returned (.tuple #[])∧∃L' cy' ns' bs' S',eT (fun _=>True) h c A rs φ L' Ba u ub cy' n ns' bs' S' w'∧(n=0->cy'=none)∧Fr (fun k=>k=h.b) w w'∧∀k,S' k->S k
theorem rn (d:eT (fun _=>True) h c A rs φ L Ba u ub cy n ns bs S w):Calls Tryz.prog 63 #[h.b] w (rP h c A rs φ Ba u ub n S w):=by
 cases cy with
 |none=>
  have K:Hid (rP h c A rs φ Ba u ub n S w (.returned (.tuple #[])) w):=ae ⟨rfl,L,none,ns,bs,S,d,fun _=>rfl,Fr.refl _ _,fun _ h=>h⟩;have M:w.cell? ⟨h.b,11,none⟩=some (.pointer none):=aj.cell d.blk 11 rfl;generalize (rP h c A rs φ Ba u ub n S w)=Q at*;clear d
  go_enter Tryz.func63,Tryz.ntmps63
  go_wp2;go_end0;exact K.out
 |some y=>
  have g:=d.blk;have M:w.cell? ⟨h.b,11,none⟩=some (.pointer (some ⟨y,0,none⟩)):=aj.cell g 11 rfl;have ad:w.cell? ⟨h.b,12,none⟩=some (.int .i64 ns):=aj.cell g 12 rfl;have am:w.cell? ⟨h.b,13,none⟩=some (.int .i64 bs):=aj.cell g 13 rfl;have ap:=aj.free g 11;have aq:=aj.free g 12;have av:=aj.free g 13;obtain ⟨B,fr,G,Z,C⟩:∃B fr G,B.y=y∧tU w B n fr G:=by
   obtain ⟨hk,B,s,a0,hg,Mv,fr,G,P,⟨Us,qu,R⟩,r1,r2⟩:=d.mem;exact ⟨B,fr,G,r1,(eo.cells P R.s).1⟩
  have i:=ae (tE C);have o:=ae (oD (show tU w.drew B n fr G from aj.frame C ((Fr.refl (fun _=>False) w).drew) (fun h=>h)));rw [Z] at i o;obtain ⟨x,I⟩:∃x,x=B.nb:=⟨_,rfl⟩;rw [<-I] at o;clear I C;have t:Hid (n≠0->rP h c A rs φ Ba u ub n S w (.returned (.tuple #[])) w):=by
   show n≠0->_
   exact fun p=>⟨rfl,L,some y,ns,bs,S,d,fun e=>absurd e p,Fr.refl _ _,fun _ h=>h⟩
  have r:Hid (n=0->∀w' D z,Fr (fun k=>k=h.b) w w'->gq w' h.b c h.m h.rb ub none D z->rP h c A rs φ Ba u ub n S w (.returned (.tuple #[])) w'):=by
   show n=0->∀w' D z,_
   rintro rfl w' D z hf O;obtain ⟨L',S',P,R⟩:=d.ended hf O;exact ⟨rfl,L',none,_,_,S',P,fun _=>rfl,hf,R⟩
  have J:=ae g;generalize (rP h c A rs φ Ba u ub n S w)=Q at*;generalize h.b=b at*;clear d g Z;by_cases p:n=0
  ·have E:=ae (r.out p);subst p;clear t r;rw [decide_eq_true rfl] at i
   go_enter Tryz.func63,Tryz.ntmps63
   go_wp2_with fail
   refine (i.out).mono ?_;rintro e w2 ⟨rfl,rfl⟩;clear i;go_wp2;refine en 12 (fun a b=>b=a) [fun v _=>v= .pointer (some ⟨b,0,none⟩),fun v _=>v= .pointer (some ⟨b,0,none⟩),fun v _=>v= .pointer (some ⟨b,13,none⟩),fun v _=>v= .int .i64 bs,fun v _=>v= .pointer (some ⟨b,0,none⟩),fun v _=>v= .pointer (some ⟨b,0,none⟩),fun v _=>v= .pointer (some ⟨b,11,none⟩),fun v _=>v= .pointer (some ⟨y,0,none⟩),fun v _=>v= .int .i64 x,fun v _=>v= .int .i64 (IntKind.i64.wrap (bs+(x:Int))),fun v _=>v= .pointer (some ⟨b,0,none⟩),fun v _=>v= .pointer (some ⟨b,13,none⟩)] (fun j=>false) (by kernel_rfl) (by kernel_rfl) (by kernel_rfl) (by kernel_rfl) rfl (fun _=>rfl) (fun _ _ _ V W=>W.trans V) (fun _ _ h=>by rw [h];exact Nat.le_refl _) ⟨fun _ _ _ h _=>h,fun _ _ _ h _=>h,fun _ _ _ h _=>h,fun _ _ _ h _=>h,fun _ _ _ h _=>h,fun _ _ _ h _=>h,fun _ _ _ h _=>h,fun _ _ _ h _=>h,fun _ _ _ h _=>h,fun _ _ _ h _=>h,fun _ _ _ h _=>h,fun _ _ _ h _=>h,trivial⟩ ?_;intro F Y;simp only [bg,List.take_succ_cons,List.take_zero,aa,ab,ac] at Y;subst Y;refine ⟨⟨fun vs w1 d f l=> ?_,fun vs w1 d f l=> ?_,fun vs w1 d f l=> ?_,fun vs w1 d f l=> ?_,fun vs w1 d f l=> ?_,fun vs w1 d f l=> ?_,fun vs w1 d f l=> ?_,fun vs w1 d f l=> ?_,fun vs w1 d f l=> ?_,fun vs w1 d f l=> ?_,fun vs w1 d f l=> ?_,fun vs w1 d f l=> ?_,trivial⟩,?_⟩
   ·refine ao (.pointer (some ⟨b,0,none⟩)) ?_ ⟨rfl,rfl,fun h=>nomatch h⟩;go_simp
   ·have p:vs 0= .pointer (some ⟨b,0,none⟩):=f 0 (by kernel_rfl);refine ao (.pointer (some ⟨b,0,none⟩)) ?_ ⟨rfl,rfl,fun h=>nomatch h⟩;go_simp
   ·have V:vs 1= .pointer (some ⟨b,0,none⟩):=f 1 (by kernel_rfl);refine ao (.pointer (some ⟨b,13,none⟩)) ?_ ⟨rfl,rfl,fun h=>nomatch h⟩;go_simp
   ·have W:vs 2= .pointer (some ⟨b,13,none⟩):=f 2 (by kernel_rfl);refine ao (.int .i64 bs) ?_ ⟨rfl,rfl,fun h=>nomatch h⟩;subst d;go_simp
   ·refine ao (.pointer (some ⟨b,0,none⟩)) ?_ ⟨rfl,rfl,fun h=>nomatch h⟩;go_simp
   ·have h4:vs 4= .pointer (some ⟨b,0,none⟩):=f 4 (by kernel_rfl);refine ao (.pointer (some ⟨b,0,none⟩)) ?_ ⟨rfl,rfl,fun h=>nomatch h⟩;go_simp
   ·have h5:vs 5= .pointer (some ⟨b,0,none⟩):=f 5 (by kernel_rfl);refine ao (.pointer (some ⟨b,11,none⟩)) ?_ ⟨rfl,rfl,fun h=>nomatch h⟩;go_simp
   ·have h6:vs 6= .pointer (some ⟨b,11,none⟩):=f 6 (by kernel_rfl);refine ao (.pointer (some ⟨y,0,none⟩)) ?_ ⟨rfl,rfl,fun h=>nomatch h⟩;subst d;go_simp
   ·have h7:vs 7= .pointer (some ⟨y,0,none⟩):=f 7 (by kernel_rfl);subst d;refine ar 81 #[y] (by go_simp) ((o.out).mono ?_);rintro e w2 ⟨rfl,rfl⟩;exact ⟨_,rfl,rfl,rfl,fun h=>nomatch h⟩
   ·have h3:vs 3= .int .i64 bs:=f 3 (by kernel_rfl);have h8:vs 8= .int .i64 x:=f 8 (by kernel_rfl);refine ao (.int .i64 (IntKind.i64.wrap (bs+(x:Int)))) ?_ ⟨rfl,rfl,fun h=>nomatch h⟩;go_simp
   ·have p:vs 0= .pointer (some ⟨b,0,none⟩):=f 0 (by kernel_rfl);refine ao (.pointer (some ⟨b,0,none⟩)) ?_ ⟨rfl,rfl,fun h=>nomatch h⟩;go_simp
   ·have ax:vs 10= .pointer (some ⟨b,0,none⟩):=f 10 (by kernel_rfl);refine ao (.pointer (some ⟨b,13,none⟩)) ?_ ⟨rfl,rfl,fun h=>nomatch h⟩;go_simp
   intro vs w1 d hp l;obtain ⟨g0,g1,g2,g3,g4,g5,g6,g7,g8,U,N,H,_⟩:=hp;simp only [U,H];subst d;clear g0 g1 g2 g3 g4 g5 g6 g7 g8 U N H l o;simp only [List.drop_succ_cons,List.drop_zero];go_wp2;go_end0;refine E.out _ (wrap64 (ns+1)) (wrap64 (bs+(x:Int))) ?_ ?_
   ·exact ((((Fr.refl (fun k=>k=b) w).setCell ⟨b,13,none⟩ (.inl rfl) _).setCell ⟨b,11,none⟩ (.inl rfl) _).setCell ⟨b,12,none⟩ (.inl rfl) _).drew
   ·exact aj.frame (((J.out.set 13 _).set 11 _).set 12 _) ((Fr.refl (fun _=>False) _).drew) (fun h=>h)
  ·have K:=ae (t.out p);rw [decide_eq_false p] at i;clear t r p o
   go_enter Tryz.func63,Tryz.ntmps63
   go_wp2_with fail
   refine (i.out).mono ?_;rintro e w2 ⟨rfl,rfl⟩;clear i;go_wp2;go_end0;exact K.out
def yA (b:Nat) (c:Cf) (A:AG) (rs:List Nat) (u n:Nat) (T:Nat->Prop) (w:World) (e:Ending) (w':World):Prop:=e= .returned (.tuple #[])∧∃T',bM b c A rs u n T' w'∧Fr T w w'∧∀k,T' k->T k∨w.heap.size<=k
theorem mn (j:wE b c A rs u n T w):Calls Tryz.prog 63 #[b] w (yA b c A rs u n T w):=by
 obtain ⟨h,φ,L,Ba,ub,cy,ns,bs,S,rfl,l,i⟩:=j;refine (rn l).mono ?_;rintro e w' ⟨rfl,L',d,g,a,S',m,o,p,r⟩;exact ⟨rfl,eZ h ub S',⟨h,φ,L',Ba,ub,d,g,a,S',rfl,m,fun _=>Iff.rfl,o⟩,p.mono (fun k f=> .inl ((i k).2 (.inr (.inl f)))),fun k f=> .inl ((i k).2 (f.imp (r k) id))⟩
end
section
variable {b:Nat} {h:Hp} {c:Cf} {A A':AG} {rs:List Nat} {φ L L':Nat->Nat} {Ba u ub:Nat} {cy:Option Nat} {n n':Nat} {ns bs:Int} {S S' T X q q':Nat->Prop} {w w' w'':World}
theorem eT.turn (a:eT q h c A rs φ L Ba u ub cy n ns bs S w) (hf:Fr S w w') (l:∀k,S' k->S k∨w.heap.size<=k) (p:oS c h.m Ba (Ba+u) q' L' S' w' cy n') (j:aO A' rs φ L' Ba (Ba+u)):eT q' h c A' rs φ L' Ba u ub cy n' ns bs S' w':=by
 have d:=a.d;have f:=a.lt;have o:aN<w.heap.size:=aD (a.tab 0 0 rfl);refine ⟨a.cok,aj.frame a.blk hf (fun h=>(d _ h).1 rfl),a.roots.frame hf (fun h=>(d _ h).2.1 rfl) (fun h=>(d _ h).2.2.1 rfl),aj.frame a.reg hf (fun h=>(d _ h).2.2.2.1 rfl),ak a.tab hf (fun h=>(d _ h).2.2.2.2 rfl),j,a.Sl,a.fits,a.half,p,fun k i=> ?_,a.e⟩;rcases l k i with g|g
 ·exact d k g
 ·have r:=f _ (.inr (.inl rfl));have s:=f _ (.inr (.inr (.inl rfl)));have t:=f _ (.inr (.inr (.inr (.inl rfl))));have v:=f _ (.inr (.inr (.inr (.inr rfl))));omega
theorem eZ.sub {a:Hp} (d:∀k,S' k->S k∨w.heap.size<=k):∀k,eZ a ub S' k->eZ a ub S k∨w.heap.size<=k:=by
 rintro k (h|h|h|h|h)
 ·exact (d k h).imp .inl id
 ·exact .inl (.inr (.inl h))
 ·exact .inl (.inr (.inr (.inl h)))
 ·exact .inl (.inr (.inr (.inr (.inl h))))
 ·exact .inl (.inr (.inr (.inr (.inr h))))
def uc (b:Nat) (c:Cf) (A:AG) (rs:List Nat) (u n:Nat) (T:Nat->Prop) (w:World) (e:Ending) (w':World):Prop:=e= .returned (.bool (decide (n≠0)))∧∃T',bM b c A rs u (n-1) T' w'∧Fr T w w'∧∀k,T' k->T k∨w.heap.size<=k
theorem jU (hi:bM b c A rs u n T w):Calls Tryz.prog 17 #[b] w (uc b c A rs u n T w):=by
 obtain ⟨h,φ,L,Ba,ub,cy,ns,bs,S,rfl,d,p,i⟩:=hi;have t:=ae (cC d.blk)
 cases cy with
 |none=>
  have g:n=0:=d.mem.1;have v:Hid (uc h.b c A rs u n T w (.returned (.bool false)) w):=ae ⟨by rw [decide_eq_false (fun h=>h g)],T,⟨h,φ,L,Ba,ub,none,ns,bs,S,rfl,by rw [g] at d ⊢;exact d,p,fun _=>rfl⟩,Fr.refl _ _,fun _ h=> .inl h⟩;have m:w.cell? ⟨h.b,11,none⟩=some (.pointer none):=aj.cell d.blk 11 rfl;generalize (uc h.b c A rs u n T w)=Q at*;clear d p i g
  go_enter Tryz.func17,Tryz.ntmps17
  go_wp2_with fail
  refine (t.out).mono ?_;rintro e w1 ⟨rfl,rfl⟩;clear t;go_wp2;exact v.out
 |some y=>
  have g:n≠0:=fun h0=>by cases i h0
  have m:w.cell? ⟨h.b,11,none⟩=some (.pointer (some ⟨y,0,none⟩)):=aj.cell d.blk 11 rfl;obtain ⟨f,J,s,r,hg,Mv,fr,ah,E,⟨Us,qu,O⟩,F,P,R,U,V,W,Y,Z⟩:=id d.mem;have z:=ae (oK E O.s g);rw [F] at z;have v:Hid (∀e w1,qN J s r hg c.Fs (Ba+u) Mv n fr L S w e w1->e= .returned (.tuple #[.bool true,.int .i64 0])∧∃a,wE h.b c A rs u (n-1) a w1∧Fr T w w1∧∀k,a k->T k∨w.heap.size<=k):=by
   show∀e w1,_
   rintro e w1 ⟨rfl,C,B,S',p1,p2,M,N⟩;refine ⟨rfl,eZ h ub S',⟨h,φ,L,Ba,ub,some y,ns,bs,S',rfl,d.turn M N ⟨f,J,s,r,hg,_,C,B,E,let ⟨us,hu⟩:=p1.su;⟨us,trivial,hu⟩,F,P,R,U,V,W,Y,Z⟩ d.laid,fun k=>Iff.rfl⟩,M.mono (fun k f=> .inl ((p k).2 (.inl f))),fun k f=>(eZ.sub N k f).imp (p k).2 id⟩
  have G:=ae (fun a w1 (hj:wE h.b c A rs u (n-1) a w1)=>mn hj);have I:Hid (∀a w1 e w2,Fr T w w1->(∀k,a k->T k∨w.heap.size<=k)->yA h.b c A rs u (n-1) a w1 e w2->e= .returned (.tuple #[])∧uc h.b c A rs u n T w (.returned (.bool true)) w2):=by
   show∀a w1 e w2,_
   rintro a w1 e w2 g1 o ⟨rfl,T2,x,g4,g5⟩;have hz:=g1.size;exact ⟨rfl,by rw [decide_eq_true g],T2,x,g1.trans g4 o,fun k f=>by
    rcases g5 k f with h|h
    ·exact o k h
    ·exact .inr (by omega)⟩
  have D:¬n=0:=g;clear E O F P R U V W Y Z d p i f qu g D;generalize h.b=b at*;generalize (uc b c A rs u n T w)=Q at*
  go_enter Tryz.func17,Tryz.ntmps17
  go_wp2_with fail
  refine (t.out).mono ?_;rintro e w1 ⟨rfl,rfl⟩;clear t;go_wp2_with fail
  refine (z.out).mono ?_;intro e w1 hp;obtain ⟨rfl,a,g1,o,x⟩:=v.out _ _ hp;have j:=ae (G.out a w1 g1);have l:=ae (fun e w2 hh=>I.out a w1 e w2 o x hh);clear hp g1 o x z v G I m;go_wp2_with fail
  refine (j.out).mono ?_;intro e w2 hp;obtain ⟨rfl,K⟩:=l.out _ _ hp;have H:=ae K;clear hp K j l;go_wp2;exact H.out
def t9 (b:Nat) (c:Cf) (A:AG) (rs:List Nat) (u:Nat) (T:Nat->Prop) (w:World) (e:Ending) (w':World):Prop:=e= .returned (.tuple #[])∧∃T',bM b c A rs u 0 T' w'∧Fr T w w'∧∀k,T' k->T k∨w.heap.size<=k
def eE (b:Nat) (c:Cf) (A:AG) (rs:List Nat) (u n:Nat) (T:Nat->Prop) (w w':World):Prop:=∃T',bM b c A rs u n T' w'∧Fr T w w'∧∀k,T' k->T k∨w.heap.size<=k
theorem eE.step (g:eE b c A rs u n T w w') (i:∀d,bM b c A rs u n d w'->∃a,bM b c A' rs u n' a w''∧Fr d w' w''∧∀k,a k->d k∨w'.heap.size<=k):eE b c A' rs u n' T w w'':=by
 obtain ⟨d,l,e,f⟩:=g;obtain ⟨a,m,o,p⟩:=i d l;have r:=e.size;exact ⟨a,m,e.trans o f,fun k j=>by
  rcases p k j with h|h
  ·exact f k h
  ·exact .inr (by omega)⟩
theorem gy (t:bM b c A rs u n T w):Calls Tryz.prog 70 #[b] w (t9 b c A rs u T w):=by
 have s:=ae (show eE b c A rs u n T w w from ⟨T,t,Fr.refl _ _,fun _ h=> .inl h⟩);have f:=ae (fun n w1 (r:eE b c A rs u n T w w1)=>(show Calls Tryz.prog 17 #[b] w1 fun e w2=>e= .returned (.bool (decide (n≠0)))∧eE b c A rs u (n-1) T w w2 from by
  obtain ⟨I,D,x,y⟩:=r;refine (jU D).mono ?_;rintro e w2 ⟨rfl,o,E,F,G⟩;have J:=x.size;exact ⟨rfl,o,E,x.trans F y,fun k C=>by
   rcases G k C with h|h
   ·exact y k h
   ·exact .inr (by omega)⟩))
 have a:Hid (∀w1,eE b c A rs u 0 T w w1->t9 b c A rs u T w (.returned (.tuple #[])) w1):=ae (fun w1 r=>⟨rfl,r⟩);clear t;generalize (t9 b c A rs u T w)=Q at*
 go_enter Tryz.func70,Tryz.ntmps70
 go_wp2
 go_loopw [] (fun wr=>∃n,Hid (eE b c A rs u n T w wr)) (fun wr=>dR (fun n=>eE b c A rs u n T w wr))
 case atStart=>exact ⟨n,s⟩
 case round=>
  clear s;obtain ⟨m,v⟩:=hrel;obtain ⟨l,_⟩:=bY (P:=fun n=>eE b c A rs u n T w wr) v.out;clear v;generalize i:dR (fun n=>eE b c A rs u n T w wr)=m0 at l;have z:=ae i;have g:=ae (f.out m0 wr l);have B:Hid (m0=0->eE b c A rs u 0 T w wr):=ae (fun e=>by rw [<-e];exact l);clear i l B;by_cases p:m0=0
  ·have d:=g;rw [p,decide_eq_false (fun h=>h rfl)] at d;clear f g p;go_wp2_with fail
   refine (d.out).mono ?_;rintro e w2 ⟨rfl,j⟩;have H:=ae (a.out w2 j);clear j d a;go_wp2;go_end0;exact H.out
  ·rw [decide_eq_true p] at g;clear f;go_wp2_with fail
   refine (g.out).mono ?_;rintro e w2 ⟨rfl,j⟩;have H:=ae j;clear j g a;go_wp2;go_roundw
   case rel=>exact ⟨m0-1,H⟩
   case measure=>exact Nat.lt_of_le_of_lt (bY (P:=fun n=>eE b c A rs u n T w w2) H.out).2 (by omega)
end
theorem fJ {P:Program} {fn:Func} {p q:Tmp} {c d:TypeId} {v u:Value} (h:fn.results= #[.cell p c,.cell q d]) (tmps:Array Value) (w:World) (a b:Addr) (hp:tmps.getD p undef= .pointer (some a)) (i:tmps.getD q undef= .pointer (some b)) (f:(loadVar c a).run P w= .ok v w) (g:(loadVar d b).run P w= .ok u w):
  (results fn tmps).run P w= .ok (.tuple #[v,u]) w:=by
 have e:(results fn tmps).run P w=((asAddr (tmps.getD p undef)).run P w).andThen fun a w1=>((loadVar c a).run P w1).andThen fun v w2=>((asAddr (tmps.getD q undef)).run P w2).andThen fun b w3=>((loadVar d b).run P w3).andThen fun u w4=> .ok (.tuple #[v,u]) w4:=by
  simp only [results,h];simp [Sem.run_bind,Result.andThen]
 rw [e,hp,i];simp [asAddr,Result.andThen,f,g]
theorem vd {w:World} {a:Addr} {x:Int} (h:w.cell? a=some (.int .i64 x)):(loadVar 3 a).run Tryz.prog w= .ok (.int .i64 x) w:=by
 go_simp
theorem jX {w:World} {a:Addr} {x:Int} (h:w.cell? a=some (.int .i64 x)):(loadVar 28 a).run Tryz.prog w= .ok (.int .i64 x) w:=by
 go_simp
theorem gv {P:Program} {c:Code} {Q:Exit->Act->World->Prop} {a:Act} {w:World} (h:c.wp P (fun e a w=>match e with| .normal=>Q .normal a w|_=>False) a w):c.wp P Q a w:=
 wp_mono h (fun e a w h=>by cases e<;>first|exact h|exact h.elim)
section
variable {m b g Pg W Fs Us Hg:Nat} {S:Nat->Prop} {mp:Nat->Bool} {L:Nat->Nat} {ls:List Nat} {G:Gr} {w:World}
def zv (m Pg W Fs Us Hg:Nat) (mp:Nat->Bool) (L:Nat->Nat) (S:Nat->Prop) (G:Gr) (ls:List Nat) (w:World) (e:Ending) (w':World):Prop:=
 ∃(E:Nat->Nat) (S':Nat->Prop),e= .returned (.tuple #[.int .i64 ((cnt (ai E) 0 W:Nat):Int),.int .i64 0])∧bm m Pg W Fs Us Hg mp L S' w'∧(∀k,S' k->S k∨w.heap.size<=k)∧(∀a,E a≠0↔Reach G ls a)∧ca G ls E∧Fr S w w'
def Ae (m Pg W Fs Us Hg:Nat) (mp:Nat->Bool) (L:Nat->Nat) (S:Nat->Prop) (EL:aI) (G:Gr) (ls:List Nat) (wx w3:World) (st:dC):Prop:=
 ∃S',bm m Pg W Fs Us Hg mp L S' w3∧(∀k,S' k->S k∨wx.heap.size<=k)∧bD w3 EL W st.E∧ca G ls st.E∧st.nw=cnt (ai st.E) 0 W∧(∀a,st.E a≠0↔Reach G ls a)∧Fr (fun k=>S k∨EL.has k) wx w3
theorem vi {EL:aI} {w2:World} {Rm Tp:Nat} (I:bm m Pg W Fs Us Hg mp L S w) (D:bv w) (u:¬S aN) (C:cu G ls Tp) (Q:∀a,G.size a≠0->dL L (aY W Pg mp) G a) (f:Tp<=W) (O:1<=Rm) (P:Rm<=4096) (hf:Fr (fun _=>False) w w2) (H:bD w2 EL W (fun _=>0)) (K:∀k,EL.has k->w.heap.size<k) (V:ls.length<=64)
  (l:Nat) (T:l<w2.heap.size):
  ∀(d:World) (_:Fr (fun _=>False) w2 d) (n B:Nat) (_:w2.heap.size<=n) (_:n<d.heap.size) (_:∀(i a:Nat),ls[i]? =some a->d.cell? ⟨n,i,none⟩=some (.int .i64 a)),Calls Tryz.prog 68 #[.iface 112 (.pointer (some ⟨m,0,none⟩)),.slice (some ⟨n,0,none⟩) ls.length B,.pointer (some ⟨EL.m,0,none⟩),.int .i64 Rm] d fun e w3=>
   ∃(o:dC) (x y:Int),e= .returned (.tuple #[.agg #[.int .i64 (o.no:Int),.int .i64 (o.nw:Int),.int .i64 x,.int .i64 y],.int .i64 0])∧(∀q cs t,w2.heap.size<=q->aj d q cs t->aj w3 q cs t)∧(∀v,¬S l->¬EL.has l->d.cell? ⟨l,5,none⟩=some v->w3.cell? ⟨l,5,none⟩=some v)∧Ae m Pg W Fs Us Hg mp L S EL G ls d w3 o:=by
 intro d M n B r1 r2 r3;have c:=aF m Pg W Fs Us Hg mp;have j:=c.lt _ _ _ I;have r:=hf.trans M (fun _ h=>h.elim);have hz:=hf.size;have X:aN<w.heap.size:=aD (D 0 0 rfl);have p:=H.lt;refine (gz (w:=d) (Rm:=Rm) c (c.keep I r) C f Q O P (H.frame M (fun _ _ h=>h)) (ak D r (fun h=>h)) (fun k J=>⟨fun h=>by have:=j k J;have:=K k h;omega,fun e=>u (e▸J)⟩) (fun h=>by have N:=K _ h;omega) n B ⟨r2,fun h=>by have:=j _ h;omega,fun h=>by have:=p _ h;omega⟩ r3 (by omega)).mono ?_;rintro e w3 ⟨o,x,y,S',rfl,q1,q2,q3,z,q5,A⟩;refine ⟨o,x,y,rfl,fun q cs t hq R=>R.frame A (fun h=> ?_),fun v Y Z F=> ?_,S',q1,q2,q3,z.marked,?_,q5,A⟩
 ·rcases h with h|h
  ·have:=j q h;omega
  ·have:=p q h;omega
 ·exact (World.cell?_of_block (w:=d) (w':=w3) (a:=⟨l,5,none⟩) (A.block _ (aD F) (fun h=>h.elim Y Z))).trans F
 ·rw [z.nw,ay (ai o.E) (Nat.zero_le Tp) f,aE (a:=Tp) (b:=W) (fun i N _=>by
   rw [Bool.eq_false_iff];intro U;obtain ⟨s,s1,s2⟩:=aQ.1 U;have h6:=(z.marked s (by omega)).2;have:=C.top s (by omega);omega),Nat.add_zero]
def zU (m Pg W Fs Us Hg:Nat) (mp:Nat->Bool) (L:Nat->Nat) (S:Nat->Prop) (EL:aI) (G:Gr) (ls:List Nat) (w2:World) (sb:Nat) (st:dC) (wx:World):Prop:=
 w2.heap.size<=sb∧(∃nr nv:Int,aj wx sb [.int .i64 (st.no:Int),.int .i64 (st.nw:Int),.int .i64 nr,.int .i64 nv] 136)∧∃S',bm m Pg W Fs Us Hg mp L S' wx∧(∀k,S' k->S k∨w2.heap.size<=k)∧bD wx EL W st.E∧ca G ls st.E∧st.nw=cnt (ai st.E) 0 W∧(∀a,st.E a≠0↔Reach G ls a)∧Fr (fun k=>S k∨EL.has k) w2 wx
theorem ra {EL:aI} {w2 i w4:World} {a:dC} {c d:Int} (h:Ae m Pg W Fs Us Hg mp L S EL G ls i w4 a) (e:Fr (fun _=>False) w2 i):zU m Pg W Fs Us Hg mp L S EL G ls w2 w4.heap.size a (w4.alloc (.cells #[.int .i64 (a.no:Int),.int .i64 (a.nw:Int),.int .i64 c,.int .i64 d] 136)):=by
 obtain ⟨S',n,o,p,q,r,s,f⟩:=h;have t:=e.size;have l:=f.size;have hf:Fr (fun _=>False) w4 (w4.alloc (.cells #[.int .i64 (a.no:Int),.int .i64 (a.nw:Int),.int .i64 c,.int .i64 d] 136)):=(Fr.refl _ w4).alloc _;exact ⟨by omega,⟨c,d,aj.new w4 _ _⟩,S',(aF m Pg W Fs Us Hg mp).keep n hf,fun k j=>(o k j).imp id (fun h=>by omega),p.frame hf (fun _ _ h=>h),q,r,s,((e.mono (fun _ h=>h.elim)).trans f (fun k h=> .inl h)).trans hf (fun _ h=>h.elim)⟩
theorem jq {EL:aI} {w2 l w4:World} {a:dC} {i j:Int} {sb:Nat} (h:Ae m Pg W Fs Us Hg mp L S EL G ls l w4 a) (n:Fr (fun _=>False) w2 l) (f:∀k,S k->k<w2.heap.size) (d:∀k,EL.has k->k<w2.heap.size) (q:w2.heap.size<=sb) (z:sb<l.heap.size) (r:aj w4 sb [.int .i64 0,.int .i64 0,.int .i64 0,.int .i64 0] 136):
  zU m Pg W Fs Us Hg mp L S EL G ls w2 sb a ((((w4.setCell ⟨sb,0,none⟩ (.int .i64 (a.no:Int))).setCell ⟨sb,1,none⟩ (.int .i64 (a.nw:Int))).setCell ⟨sb,2,none⟩ (.int .i64 i)).setCell ⟨sb,3,none⟩ (.int .i64 j)):=by
 obtain ⟨S',t,o,u,v,x,y,p⟩:=h;have A:=n.size;have s:=p.size;have hf:Fr (fun k=>k=sb) w4 ((((w4.setCell ⟨sb,0,none⟩ (.int .i64 (a.no:Int))).setCell ⟨sb,1,none⟩ (.int .i64 (a.nw:Int))).setCell ⟨sb,2,none⟩ (.int .i64 i)).setCell ⟨sb,3,none⟩ (.int .i64 j)):=
  ((((Fr.refl (fun k=>k=sb) w4).setCell ⟨sb,0,none⟩ (.inl rfl) _).setCell ⟨sb,1,none⟩ (.inl rfl) _).setCell ⟨sb,2,none⟩ (.inl rfl) _).setCell ⟨sb,3,none⟩ (.inl rfl) _
 refine ⟨q,⟨i,j,(((r.set 0 _).set 1 _).set 2 _).set 3 _⟩,S',(aR m Pg W Fs Us Hg mp) _ _ _ _ _ t hf (fun k c e=> ?_),fun k c=>(o k c).imp id (fun h=>by omega),u.frame hf (fun k c e=>by have:=d k c;omega),v,x,y,((n.mono (fun _ h=>h.elim)).trans p (fun k h=> .inl h)).trans hf (fun k h=> .inr (by omega))⟩;subst e;rcases o k c with h|h
 ·have:=f k h;omega
 ·omega
def wD (EL:aI) (tb W cb:Nat) (cs:List Value) (E:Nat->Nat) (_:List (Nat×Nat)) (S:Nat->Prop) (w:World):Prop:=kH EL tb W E w∧aj w cb cs 143∧∀k,¬S k
theorem wD.stays {EL:aI} {tb d B:Nat} {cs:List Value} {E:Nat->Nat} (e:∀k,EL.has k->k<B) (q:tb<B) (r:d<B) (s:aN<B):cE B (wD EL tb W d cs E):=by
 rintro h S W1 p T ⟨⟨i,j,l⟩,n,o⟩ hf c;exact ⟨⟨i.frame hf (fun k f a=>by have:=e k f;have:=(c k a).1;omega),ak j hf (fun a=>by have t:=(c aN a).1;omega),l.frame hf (fun a=>by have:=(c _ a).1;omega)⟩,n.frame hf (fun a=>by have:=(c _ a).1;omega),o⟩
attribute [local go_sem] Oper.semAt_some
theorem sh (d:Nat) (hi:bm m Pg W Fs Us Hg mp L S w) (hr:aV w b g ls) (hT:bv w) (c5:¬S aN) (F Tp T r B Rm O:Nat) (hc:gw Pg W F Tp T r B Rm O) (hG:cu G ls Tp) (hO:∀a,G.size a≠0->dL L (aY W Pg mp) G a) (dx:∀a,G.size a≠0->F<=a) (fh:1<=ls.length) (bo:Tp-F<=r-T):
  CallsIn Fence.wide d Tryz.prog 143 #[m,.pointer (some ⟨b,0,none⟩),cP F Tp T r B Rm O] w (zv m Pg W Fs Us Hg mp L S G ls w):=by
 refine callsIn_of_wp_marks Tryz.func143 rfl trivial ?_ rfl;simp only [Tryz.ntmps143,List.size_toArray,List.length_cons,List.length_nil,Nat.reduceAdd,Nat.reduceSub,Array.replicate_succ,Array.replicate_zero,List.push_toArray,List.append_toArray,List.nil_append,List.cons_append];have eq:Hid (∀F Tp T r B q O:Nat,cP F Tp T r B q O= .agg #[.int .i64 F,.int .i64 Tp,.int .i64 T,.int .i64 r,.int .i64 B,.int .i64 q,.int .i64 O]):=by
  show∀F Tp T r B q O:Nat,_
  intros;rfl
 have av:=aF m Pg W Fs Us Hg mp;obtain ⟨e1,e2,e3,e4,e5,e6,e7,e8,fa⟩:=hi.choose_spec.1.at;clear e1 e2 e4 e5 e6 e7 e8;have d3:=av.lt _ _ _ hi;have d0:=hr.small;obtain ⟨W1,A⟩:∃W1,((w.alloc (.cells #[.int .i64 F,.int .i64 Tp,.int .i64 T,.int .i64 r,.int .i64 B,.int .i64 Rm,.int .i64 O] 143)).alloc (.cells #[.int .i64 0] 3)).alloc (.cells #[.int .i64 0] 28)=W1:=⟨_,rfl⟩;have aq:Fr (fun _=>False) w W1:=by rw [<-A];exact (((Fr.refl _ w).alloc _).alloc _).alloc _
 have z:Hid (W1.heap.size=w.heap.size+3):=by
  show _=_
  rw [<-A,World.size_alloc,World.size_alloc,World.size_alloc]
 have v:aj W1 w.heap.size [.int .i64 F,.int .i64 Tp,.int .i64 T,.int .i64 r,.int .i64 B,.int .i64 Rm,.int .i64 O] 143:=by rw [<-A];exact ((aj.new w _ _).alloc _).alloc _
 have bk:aj W1 (w.heap.size+1) [.int .i64 0] 3∧aj W1 (w.heap.size+1+1) [.int .i64 0] 28:=by
  rw [<-A];refine ⟨?_,?_⟩
  ·have:=(aj.new (w.alloc (.cells #[.int .i64 F,.int .i64 Tp,.int .i64 T,.int .i64 r,.int .i64 B,.int .i64 Rm,.int .i64 O] 143)) [.int .i64 0] 3).alloc (.cells #[.int .i64 0] 28);rwa [World.size_alloc] at this
  ·have:=aj.new ((w.alloc (.cells #[.int .i64 F,.int .i64 Tp,.int .i64 T,.int .i64 r,.int .i64 B,.int .i64 Rm,.int .i64 O] 143)).alloc (.cells #[.int .i64 0] 3)) [.int .i64 0] 28;rwa [World.size_alloc,World.size_alloc] at this
 have R:=ae bk;clear bk;have cf:=hr.frame aq (fun h=>h) (fun h=>h);have cy:=ae (ks cf);have b1:=ae (lM (hi.choose_spec.1.keep aq) hc);unfold cP at b1;unfold cP;have fB:¬(ls.length:Int)=0:=by omega
 have Z:=ae aq;have c2:=ae cf;have c3:=ae (ak hT aq (fun h=>h));have ei:=ae v;have j:=ae (af hi (af hr (af hT (af c5 (af hc (af hG (af hO (af dx (af bo (af av (af d3 d0)))))))))));have fl:W<=1048576:=by omega
 have k0:=v.cell 0 rfl;have k1:=v.cell 1 rfl;have k2:=v.cell 2 rfl;have k3:=v.cell 3 rfl;have k4:=v.cell 4 rfl;have k5:=v.cell 5 rfl;have k6:=v.cell 6 rfl;clear hi hr hT c5 hc hG hO dx fh bo av d3 d0 aq v cf eq e3;gi_wp2;clear A;refine bx ((cy.out).mono ?_);rintro e w' ⟨rfl,rfl⟩;clear cy;gi_wp2;refine bx ((b1.out).mono ?_);rintro e w1 ⟨rfl,cb⟩;clear b1 k0 k1 k2 k3 k4 k5 k6;have y:=ae cb;have c4:=ae (cL (j.out.1.choose_spec.1.keep (Z.out.trans cb (fun _ h=>h.elim))));clear cb;gi_wp2;refine bx ((c4.out).mono ?_);rintro e w' ⟨rfl,rfl⟩;have c1:=ae (gR W fa fl w1);clear c4;gi_wp2;refine bx ((c1.out).mono ?_);rintro e w2 ⟨EL,rfl,he,hn,hf⟩;clear c1;have Y:=ae (af he (af hn hf));have c:=y.out.trans hf (fun _ h=>h.elim);have cs:=ae (ei.out.frame c (fun h=>h));have U:=ae (fun w' (hf:Fr (fun _=>False) w2 w')=>(cs.out.frame hf (fun h=>h)).cell 5 rfl);have cp:=ae (fun w' (hf:Fr (fun _=>False) w2 w')=>io ((c2.out.frame c (fun h=>h) (fun h=>h)).frame hf (fun h=>h) (fun h=>h)));have b2:=ae (vi (EL:=EL) (w2:=w2) (Rm:=Rm) (G:=G) (ls:=ls) (Tp:=Tp) j.out.1 j.out.2.2.1 j.out.2.2.2.1 j.out.2.2.2.2.2.1 j.out.2.2.2.2.2.2.1 j.out.2.2.2.2.1.F3 j.out.2.2.2.2.1.s1 j.out.2.2.2.2.1.s2 ((Z.out).trans c (fun _ h=>h.elim)) he (fun k p=>by have P:=hn k p;have h2:W1.heap.size=w.heap.size+3:=z.out;have h3:=y.out.size;omega) (j.out.2.2.2.2.2.2.2.2.2.2.2) w.heap.size (by have P:W1.heap.size=w.heap.size+3:=z.out;have h2:=c.size;omega));have V:=ae ((Fr.refl (fun _=>False) w2).drew);have X:=ae (fun o=>((Fr.refl (fun _=>False) w2).alloc o).drew);have u:=ae (show (∀k,S k->k<w2.heap.size)∧(∀k,EL.has k->k<w2.heap.size)∧w2.heap.size≥w.heap.size+3 from ⟨fun k p=>by have P:k<w.heap.size:=j.out.2.2.2.2.2.2.2.2.2.2.1 k p;have h2:=Z.out.size;have h3:=c.size;omega,fun k p=>he.lt k p,by have h2:W1.heap.size=w.heap.size+3:=z.out;have h3:=c.size;omega⟩);have c0:Hid (w2.heap.size≠w.heap.size):=ae (by have P:=aD (U.out w2 (Fr.refl _ _));exact Nat.ne_of_gt P);have N:=ae (show¬S w.heap.size∧¬EL.has w.heap.size from af (fun h=>by have P:w.heap.size<w.heap.size:=j.out.2.2.2.2.2.2.2.2.2.2.1 _ h;omega) (fun h=>by have P:=hn _ h;have h2:W1.heap.size=w.heap.size+3:=z.out;have h3:=y.out.size;omega));clear he hn hf c;gi_wp2;refine wpIn_wide.2 ?_
 go_cut [11,12] from 15 to 69 (fun fs fv wx=>∃(sb:Nat) (q:dC),fs= .pointer (some ⟨sb,0,none⟩)∧fv= .int .i64 0∧Hid (zU m Pg W Fs Us Hg mp L S EL G ls w2 sb q wx))
 case first=>
  refine gv ?_
  go_region_held3 (fun w'=>w'.cell? ⟨w.heap.size,5,none⟩=some (.int .i64 Rm)) (with_reducible first
   |assumption
   |exact U.out _ V.out
   |exact U.out _ (X.out _)
   |(refine (World.cell?_alloc_lt _ _ _ (World.block_lt_of_cell? _ _ (by assumption))).trans (by assumption))
   |((iterate 4 (refine (World.cell?_setCell_far _ _ _ _ (by first|exact Nat.ne_of_gt (World.block_lt_of_cell? _ _ C)|exact Nat.ne_of_lt (World.block_lt_of_cell? _ _ C)|exact Nat.ne_of_gt (World.block_lt_of_cell? _ _ ap)|exact Nat.ne_of_lt (World.block_lt_of_cell? _ _ ap)|exact c0.out)).trans ?_));assumption)) (first
   |(go_at_call 69;refine (cp.out _ (by with_reducible first|exact V.out|exact X.out _)).mono ?_;rintro e w3 ⟨rb,rc,rfl,r1,r2,r3,bd⟩;(have J:Fr (fun _=>False) w2 w3:=by with_reducible first|exact V.out.trans bd (fun _ h=>h.elim)|exact (X.out _).trans bd (fun _ h=>h.elim));(have eg:w2.heap.size<=rb:=by with_reducible first|exact Nat.le_trans V.out.size r1|exact Nat.le_trans (X.out _).size r1);have C:=U.out w3 J;(try (have dk:aj w3 w2.heap.size [.int .i64 0,.int .i64 0,.int .i64 0,.int .i64 0] 136:=aj.frame (by with_reducible exact aj.drew (aj.new w2 _ _)) bd (fun h=>h)));clear bd r1)
   |(go_at_call 68;with_reducible refine (b2.out w3 J rb rc eg r2 r3).mono ?_;rintro e w4 ⟨q,nr,nv,rfl,cd,am,bj⟩;have ap:=am _ N.out.1 N.out.2 C;(try (have f:=cd _ _ _ (Nat.le_refl _) dk;have k0:=f.cell 0 rfl;have k1:=f.cell 1 rfl;have k2:=f.cell 2 rfl;have k3:=f.cell 3 rfl;have l0:=f.free 0;have l1:=f.free 1;have l2:=f.free 2;have l3:=f.free 3));clear am)
   |(go_at_call 68;refine (b2.out (w3.alloc _) (J.alloc _) rb rc eg (by rw [World.size_alloc];omega) (fun i a ha=>(World.cell?_alloc_lt _ _ _ (World.block_lt_of_cell? _ _ (r3 i a ha))).trans (r3 i a ha))).mono ?_;rintro e w4 ⟨q,nr,nv,rfl,cd,am,bj⟩;have ap:=am _ N.out.1 N.out.2 ((World.cell?_alloc_lt _ _ _ (World.block_lt_of_cell? _ _ C)).trans C);have f:=cd _ _ _ J.size (aj.new w3 [.int .i64 0,.int .i64 0,.int .i64 0,.int .i64 0] 136);have k0:=f.cell 0 rfl;have k1:=f.cell 1 rfl;have k2:=f.cell 2 rfl;have k3:=f.cell 3 rfl;have l0:=f.free 0;have l1:=f.free 1;have l2:=f.free 2;have l3:=f.free 3;clear am))
  ·go_wp2;go_meet
   case rel=>exact ⟨_,q,rfl,rfl,ae (ra bj J)⟩
  ·go_wp2;go_meet
   case rel=>exact ⟨_,q,rfl,rfl,ae (jq bj (J.alloc _) u.out.1 u.out.2.1 J.size (by rw [World.size_alloc];omega) f)⟩
  ·go_wp2;go_meet
   case rel=>exact ⟨_,q,rfl,rfl,ae (jq bj J u.out.1 u.out.2.1 (Nat.le_refl _) dk.lt f)⟩
 case rest=>
  clear U cp b2 V X c0;obtain ⟨sb,q,rfl,rfl,hm⟩:=hcut;obtain ⟨z1,⟨nr,nv,zb⟩,S',z2,z3,z4,z5,z6,z7,Q⟩:=hm.out;have ct:=ae (cs.out.frame Q (fun h=>h.elim N.out.1 N.out.2));have HA:=ae (dN EL.m wc);gi_wp2;refine bx ((HA.out).mono ?_);rintro e W7 ⟨rfl,a0⟩;have H:Fr (fun _=>False) wc W7:=by rw [a0];exact (Fr.refl _ wc).alloc _
  have d5:aj W7 wc.heap.size [.pointer (some ⟨EL.m,0,none⟩)] 132:=by rw [a0];exact aj.new wc _ _
  have ck:W7.heap.size=wc.heap.size+1:=by rw [a0];exact Array.size_push _
  clear a0 HA;obtain ⟨a1,a2,a3,a4,a5,a6,a7,a8,a9,es,ev,ex⟩:=j.out;obtain ⟨e1,e2,e3⟩:=Y.out;have c:=y.out.trans e3 (fun _ h=>h.elim);have fk:aN<w.heap.size:=aD (a3 0 0 rfl);have c8:bv W7:=ak (ak (ak c3.out c (fun h=>h)) Q (fun h=>h.elim a4 (fun h=>by have h5:=e2 aN h;have h6:=y.out.size;have h7:W1.heap.size=w.heap.size+3:=z.out;omega))) H (fun h=>h);have b9:wD EL wc.heap.size W w.heap.size [.int .i64 F,.int .i64 Tp,.int .i64 T,.int .i64 r,.int .i64 B,.int .i64 Rm,.int .i64 O] q.E [] (fun _=>False) W7:=
   ⟨⟨z4.frame H (fun _ _ h=>h),c8,d5⟩,ct.out.frame H (fun h=>h),fun _ h=>h⟩
  have d6:=Q.size;have M:cE W7.heap.size (wD EL wc.heap.size W w.heap.size [.int .i64 F,.int .i64 Tp,.int .i64 T,.int .i64 r,.int .i64 B,.int .i64 Rm,.int .i64 O] q.E):=
   wD.stays (fun k p=>by have:=u.out.2.1 k p;omega) (by omega) (by have:=u.out.2.2;omega) (by have:=u.out.2.2;omega)
  have b4:=ae (fun (s n:Nat) (cn:List (Nat×Nat)) (hx:(aP q.E W)[cn.length]? =some (s,n))=>(show F<=s∧s+n<=Tp∧Tp<=524288 from by
   obtain ⟨m1,m2,m3⟩:=bi.1 (List.mem_of_getElem? hx);dsimp only at m1 m2 m3;have P:=z5 s m2;have h2:G.size s≠0:=by rw [<-P.2];exact m2
   exact ⟨a8 s h2,by rw [m3,P.2];exact a6.top s h2,by have:=a5.F3;have:=a1.choose_spec.1.at.2.2.1;omega⟩))
  have d4:=z4.small.2;have b5:=ae zb;have b3:=ae (af z1 (af z2 (af z3 (af z5 (af z6 (af z7 (af Q (af H (af ck c)))))))));have ad:=ae (show q.nw<=r-T∧T<=r∧r<=524288 from by
   have P:=a5.T2;have h2:=a5.T3;have h3:=a1.choose_spec.1.at.2.2.1;refine ⟨?_,by omega,by omega⟩;have h4:cnt (ai q.E) 0 W<=Tp-F:=by
    rw [ay (ai q.E) (Nat.zero_le F) (Nat.le_trans a5.F2 a5.F3),ay (ai q.E) a5.F2 a5.F3,aE (a:=0) (b:=F) (fun i _ hi=>by
     rw [Bool.eq_false_iff];intro hl;obtain ⟨s,s1,s2⟩:=aQ.1 hl;have h6:=z5 s (by omega);have:=a8 s (by omega);omega),aE (a:=Tp) (b:=W) (fun i hi _=>by
     rw [Bool.eq_false_iff];intro hl;obtain ⟨s,s1,s2⟩:=aQ.1 hl;have h6:=z5 s (by omega);have:=a6.top s (by omega);omega),Nat.zero_add,Nat.add_zero]
    exact be _ _ _
   omega)
  clear a1 a2 a3 a4 a5 a6 a7 a8 a9 es ev ex e1 e2 e3 fk c8 d6 z1 z2 z3 z4 z5 z6 z7 Q zb hm d5 c;gi_wp2;refine dv (gf:=220) (lb:= #[wc.heap.size]) rfl (enters_of Tryz.func220 (by kernel_rfl) rfl) (encs:=gm) (fun _=>rfl) (dM (L:=EL) (tb:=wc.heap.size) (E:=q.E) d4) (wD EL wc.heap.size W w.heap.size [.int .i64 F,.int .i64 Tp,.int .i64 T,.int .i64 r,.int .i64 B,.int .i64 Rm,.int .i64 O] q.E) (fun _=>False) M (fun _ _ _ h=>h.1) (fun _ h=>h.elim) b9
   ?a1 ?assign ?body ?done
  case assign=>
   intro k x W K hK;unfold gm;gi_wp2;exact hK
  case body=>
   intro l cn S9 x W9 hI bs hf hs;obtain ⟨s,n⟩:=x;obtain ⟨o1,o2,o3⟩:=b4.out s n cn bs;have k0:=hI.2.1.cell 0 rfl;have k1:=hI.2.1.cell 1 rfl;have d1:decide ((s:Int)<(F:Int))=false:=by rw [decide_eq_false_iff_not];omega
   have d2:decide ((Tp:Int)<(s:Int)+(n:Int))=false:=by rw [decide_eq_false_iff_not];omega
   have fr:IntKind.i64.wrap ((s:Int)+(n:Int))=(s:Int)+(n:Int):=by rw [IntKind.wrap_i64];omega
   have HI:=ae hI;clear hI bs hf hs b9 M b4 b3 b5 ad j Y;gi_wp2;exact ⟨S9,HI.out,Fr.refl _ _,fun _ h=> .inl h⟩
  case done=>
   intro D S9 W9 hI hD e0 e9 dm fi;obtain ⟨z1,z2,z3,z5,z6,z7,Q,H,ck,c⟩:=b3.out;obtain ⟨n1,n2,n3⟩:=ad.out;have t:=H.trans dm (fun _ h=>h.elim);have d7:=b5.out.frame t (fun h=>h);have fj:=u.out;have I:¬(S (w.heap.size+1)∨EL.has (w.heap.size+1))∧¬(S (w.heap.size+1+1)∨EL.has (w.heap.size+1+1)):=by
    have P:=j.out.2.2.2.2.2.2.2.2.2.2.1;have h2:=Y.out.2.1;have h3:=y.out.size;have h4:W1.heap.size=w.heap.size+3:=z.out;refine ⟨fun h=> ?_,fun h=> ?_⟩
    ·rcases h with h|h
     ·have:=P _ h;omega
     ·have:=h2 _ h;omega
    ·rcases h with h|h
     ·have:=P _ h;omega
     ·have:=h2 _ h;omega
   have b6:=((R.out.1.frame c (fun h=>h)).frame Q I.1).frame t (fun h=>h);have b7:=((R.out.2.frame c (fun h=>h)).frame Q I.2).frame t (fun h=>h);have k2:=hI.2.1.cell 2 rfl;have k3:=hI.2.1.cell 3 rfl;have s1:=d7.cell 1 rfl;have c6:=b6.cell 0 rfl;have c7:=b7.cell 0 rfl;have f6:=b6.free 0;have f7:=b7.free 0;have b0:w.heap.size+1≠sb∧w.heap.size+1+1≠sb∧w.heap.size+1≠w.heap.size+1+1:=by omega
   have fr:IntKind.i64.wrap ((r:Int)-(T:Int))=(r:Int)-(T:Int):=by rw [IntKind.wrap_i64];omega
   have d1:decide ((r:Int)-(T:Int)<(q.nw:Int))=false:=by rw [decide_eq_false_iff_not];omega
   have cx:Hid (∀w',Fr (fun k=>k=w.heap.size+1∨k=w.heap.size+1+1∨k=D) W9 w'->zv m Pg W Fs Us Hg mp L S G ls w (.returned (.tuple #[.int .i64 (q.nw:Int),.int .i64 0])) w'):=by
    show∀w',_
    intro w' ds;have f1:=Q.size;have fw:=c.size;have h4:W1.heap.size=w.heap.size+3:=z.out;have c9:Fr S w w':=by
     have q1:Fr S w w2:=(Z.out.mono (fun _ h=>h.elim)).trans c (fun _ h=>h.elim);have q2:Fr S w wc:=q1.trans Q (fun k p=>by
      rcases p with p|p
      ·exact .inl p
      ·have:=Y.out.2.1 k p;have:=y.out.size;exact .inr (by omega))
     have q3:Fr S w W9:=q2.trans t (fun _ h=>h.elim);exact q3.trans ds (fun k p=>by rcases p with rfl|rfl|rfl<;>exact .inr (by omega))
    refine ⟨q.E,S',by rw [z6],(aR m Pg W Fs Us Hg mp) _ _ _ _ _ ((aF m Pg W Fs Us Hg mp).keep z2 t) ds (fun k p h=> ?_),fun k p=>(z3 k p).imp id (fun h=>by omega),z7,z5,c9⟩;have fA:=(aF m Pg W Fs Us Hg mp).lt _ _ _ z2 k p;have f0:=H.size;rcases h with rfl|rfl|rfl
    ·rcases z3 _ p with h|h
     ·exact I.1 (.inl h)
     ·omega
    ·rcases z3 _ p with h|h
     ·exact I.2 (.inl h)
     ·omega
    ·omega
   have HD:=ae hD;have ax:=ae (show D≠w.heap.size+1∧D≠w.heap.size+1+1 from by have:=Q.size;omega);have ej:=ae b6;have em:=ae b7;clear hI hD e0 e9 dm fi z1 z2 z3 z5 z6 z7 Q H ck c n1 n2 n3 t d7 fj I b6 b7 b9 M b4 b3 b5 ad j Y ct R Z y c2 c3 u z;gi_wp2;obtain ⟨Wf,bb⟩:∃Wf,(W9.setCell ⟨w.heap.size+1,0,none⟩ (.int .i64 (q.nw:Int))).setCell ⟨w.heap.size+1+1,0,none⟩ (.int .i64 0)=Wf:=⟨_,rfl⟩;rw [bb];have dr:Fr (fun k=>k=w.heap.size+1∨k=w.heap.size+1+1) W9 Wf:=by
    rw [<-bb];exact ((Fr.refl _ W9).setCell ⟨w.heap.size+1,0,none⟩ (.inl (.inl rfl)) _).setCell ⟨w.heap.size+1+1,0,none⟩ (.inl (.inr rfl)) _
   have h6:aj Wf (w.heap.size+1) [.int .i64 (q.nw:Int)] 3:=by
    rw [<-bb];exact (ej.out.set 0 _).setOther _ _ b0.2.2
   have h7:aj Wf (w.heap.size+1+1) [.int .i64 0] 28:=by
    rw [<-bb];exact (em.out.setOther _ _ (Ne.symm b0.2.2)).set 0 _
   have ey:Wf.heap[D]? =some (.deferred (some [])):=dr.heap HD.out (fun h=>h.elim ax.out.1 ax.out.2);have cc:Fr (fun k=>k=D) Wf (Wf.putObj D (.deferred none)):=(Fr.refl _ Wf).putObj _ _ (.inl rfl);refine ⟨by simp,.inl ⟨_,_,rfl,run_takeDeferred ey,?_⟩⟩;refine ⟨_,fJ rfl _ _ ⟨w.heap.size+1,0,none⟩ ⟨w.heap.size+1+1,0,none⟩ rfl rfl (vd ((h6.frame cc (Ne.symm ax.out.1)).cell 0 rfl)) (jX ((h7.frame cc (Ne.symm ax.out.2)).cell 0 rfl)),?_⟩;exact cx.out _ ((dr.mono (fun k p=> .inl (p.elim .inl (fun h=> .inr (.inl h))))).trans cc (fun k p=> .inl (.inr (.inr p))))
end
end Go.Proofs.YthahbijbpinneaaGreatDoor
