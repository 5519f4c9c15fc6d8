import Derived.Test.YthahbijbpinneaaGreatDoorA1
import Derived.Test.YthahbijbpinneaaGreatDoorA4
import Derived.Test.YthahbijbpinneaaGreatDoorA8
import Derived.Test.YthahbijbpinneaaGreatDoorA10
import Derived.Maps.OwnSet
import Derived.Maps.OwnOps
set_option maxRecDepth 100000
set_option maxHeartbeats 8000000
set_option linter.all false
namespace Go.Proofs.YthahbijbpinneaaGreatDoor
open Go.RowKit
structure AG where
 np:Nat->Nat
 nf:Nat->Nat
 ng:Nat->Nat
 fld:Nat->Nat->Nat
def AG.sz (A:AG) (x:Nat):Nat:=1+(A.np x+A.nf x+A.ng x)
def AG.gr (A:AG):Gr:=⟨A.sz,fun x=>(List.range (A.np x)).map (A.fld x)⟩
structure aO (A:AG) (rs:List Nat) (φ L:Nat->Nat) (lo hi:Nat):Prop where
 zero:φ 0=0
 one:1<=lo
 lies:∀x,Reach A.gr rs x->lo<=φ x∧φ x+A.sz x<=hi
 apart:∀x y,Reach A.gr rs x->Reach A.gr rs y->x≠y->φ x+A.sz x<=φ y∨φ y+A.sz y<=φ x
 head:∀x,Reach A.gr rs x->dw L (φ x) (A.np x) (A.nf x) (A.ng x)
 ptr:∀x,Reach A.gr rs x->∀i,i<A.np x->L (φ x+1+i)=φ (A.fld x i)
 val:∀x,Reach A.gr rs x->∀i,A.np x<=i->i<A.np x+A.nf x+A.ng x->L (φ x+1+i)=A.fld x i∧A.fld x i<18446744073709551616
section
variable {A:AG} {rs:List Nat} {φ L:Nat->Nat} {lo hi:Nat}
theorem dF (φ:Nat->Nat) (y k:Nat):φ y+1+k=φ y+(1+k):=Nat.add_assoc _ _ _
theorem aO.inj (h:aO A rs φ L lo hi) {x y:Nat} (c:Reach A.gr rs x) (d:Reach A.gr rs y) (e:φ x=φ y):x=y:=by
 rcases Nat.lt_or_ge 0 1 with _|_
 ·by_cases a:x=y
  ·exact a
  ·have f:1<=A.sz x:=by unfold AG.sz;omega
   have g:1<=A.sz y:=by unfold AG.sz;omega
   rcases h.apart x y c d a with b|b<;>omega
 ·omega
theorem AG.ptr_reach {x i:Nat} (b:Reach A.gr rs x) (hi:i<A.np x) (a:A.fld x i≠0):Reach A.gr rs (A.fld x i):=
 .step b (List.mem_map.2 ⟨i,List.mem_range.2 hi,rfl⟩) a
theorem aO.pos (h:aO A rs φ L lo hi) {x:Nat} (a:Reach A.gr rs x):1<=φ x:=by have:=(h.lies x a).1;have:=h.one;omega
structure cG (A:AG) (rs:List Nat) (φ:Nat->Nat) (G:Gr):Prop where
 size:∀x,Reach A.gr rs x->G.size (φ x)=A.sz x
 some:∀a,G.size a≠0->∃x,Reach A.gr rs x∧φ x=a
 ptrs:∀x,Reach A.gr rs x->G.ptrs (φ x)=(List.range (A.np x)).map (fun i=>φ (A.fld x i))
theorem aO.conc (h:aO A rs φ L lo hi):∃G,cG A rs φ G:=by
 classical
 refine ⟨⟨fun a=>if h:∃x,Reach A.gr rs x∧φ x=a then A.sz h.choose else 0,fun a=>if h:∃x,Reach A.gr rs x∧φ x=a then (List.range (A.np h.choose)).map (fun i=>φ (A.fld h.choose i)) else []⟩,fun x c=> ?_,fun a d=> ?_,fun x c=> ?_⟩
 ·have b:∃y,Reach A.gr rs y∧φ y=φ x:=⟨x,c,rfl⟩;show (if h:∃y,Reach A.gr rs y∧φ y=φ x then A.sz h.choose else 0)=_
  rw [dif_pos b,h.inj b.choose_spec.1 c b.choose_spec.2]
 ·by_cases b:∃y,Reach A.gr rs y∧φ y=a
  ·exact b
  ·exact absurd (dif_neg b) d
 ·have b:∃y,Reach A.gr rs y∧φ y=φ x:=⟨x,c,rfl⟩;show (if h:∃y,Reach A.gr rs y∧φ y=φ x then (List.range (A.np h.choose)).map (fun i=>φ (A.fld h.choose i)) else [])=_
  rw [dif_pos b,h.inj b.choose_spec.1 c b.choose_spec.2]
variable {G:Gr}
theorem cG.reach (h:aO A rs φ L lo hi) (c:cG A rs φ G) (a:Nat):Reach G (rs.map φ) a↔∃x,Reach A.gr rs x∧φ x=a:=by
 constructor
 ·intro d
  induction d with
  |root h1 h2=>
   obtain ⟨x,b,rfl⟩:=List.mem_map.1 h1;exact ⟨x,.root b (fun e=>h2 (by rw [e];exact h.zero)),rfl⟩
  |step _ h1 h2 ih=>
   obtain ⟨x,b,rfl⟩:=ih;rw [c.ptrs x b] at h1;obtain ⟨i,hi,rfl⟩:=List.mem_map.1 h1;exact ⟨_,AG.ptr_reach b (List.mem_range.1 hi) (fun e=>h2 (by rw [e];exact h.zero)),rfl⟩
 ·rintro ⟨x,b,rfl⟩
  induction b with
  |root h1 h2=>exact .root (List.mem_map.2 ⟨_,h1,rfl⟩) (by have:=h.pos (.root h1 h2);omega)
  | @step a p h0 h1 h2 ih=>
   obtain ⟨i,hi,rfl⟩:=List.mem_map.1 h1;exact .step ih (by rw [c.ptrs a h0];exact List.mem_map.2 ⟨i,hi,rfl⟩) (by have:=h.pos (.step h0 h1 h2);omega)
theorem cG.sound (h:aO A rs φ L lo hi) (d:cG A rs φ G):cu G (rs.map φ) hi:=by
 have k:∀x,Reach A.gr rs x->G.size (φ x)≠0:=fun x c=>by rw [d.size x c];unfold AG.sz;omega
 refine ⟨fun a b l f m=> ?_,fun a f=> ?_,fun a f g=> ?_,fun a f p hp g=> ?_⟩
 ·obtain ⟨x,c,rfl⟩:=d.some a f;obtain ⟨y,i,rfl⟩:=d.some b m;rw [d.size x c];rcases h.apart x y c i (fun e=>by subst e;omega) with j|j
  ·exact j
  ·have:1<=A.sz y:=by unfold AG.sz;omega
   omega
 ·obtain ⟨x,c,rfl⟩:=d.some a f;rw [d.size x c];exact (h.lies x c).2
 ·obtain ⟨x,c,rfl⟩:=(cG.reach h d a).1 (.root f g);exact k x c
 ·obtain ⟨x,c,rfl⟩:=d.some a f;obtain ⟨y,i,rfl⟩:=(cG.reach h d p).1 (.step ((cG.reach h d _).2 ⟨x,c,rfl⟩) hp g);exact k y i
theorem cG.obj (h:aO A rs φ L lo hi) (c:cG A rs φ G) {dom:Nat->Prop} (j:∀a,lo<=a->a<hi->dom a) (l:hi<=2147483648) (a:Nat) (g:G.size a≠0):dL L dom G a:=by
 obtain ⟨x,b,rfl⟩:=c.some a g;have m:=h.lies x b;refine ⟨A.np x,A.nf x,A.ng x,h.head x b,c.size x b,?_,fun k e f=>j k (by omega) (by rw [c.size x b] at f;omega),fun i hi=> ?_⟩
 ·rw [c.ptrs x b];exact List.map_congr_left (fun i hi=>(h.ptr x b i (List.mem_range.1 hi)).symm)
 ·rw [h.ptr x b i hi];by_cases d:A.fld x i=0
  ·rw [d,h.zero];omega
  ·have e:=h.lies _ (AG.ptr_reach b hi d);have:1<=A.sz (A.fld x i):=by unfold AG.sz;omega
   omega
theorem cG.low (h:aO A rs φ L lo hi) (c:cG A rs φ G) (a:Nat) (b:G.size a≠0):lo<=a:=by
 obtain ⟨x,d,rfl⟩:=c.some a b;exact (h.lies x d).1
structure fe (A:AG) (rs:List Nat) (φ E:Nat->Nat):Prop where
 size:∀x,Reach A.gr rs x->E (φ x)=A.sz x
 some:∀a,E a≠0->∃x,Reach A.gr rs x∧φ x=a
theorem cG.ext (h:aO A rs φ L lo hi) (b:cG A rs φ G) {E:Nat->Nat} (c:∀a,E a≠0↔Reach G (rs.map φ) a) (e:ca G (rs.map φ) E):fe A rs φ E:=
 ⟨fun x d=>by rw [(e (φ x) ((c _).2 ((cG.reach h b _).2 ⟨x,d,rfl⟩))).2];exact b.size x d,fun a f=>(cG.reach h b a).1 ((c a).1 f)⟩
def lD (F φ:Nat->Nat) (x:Nat):Nat:=if x=0 then 0 else F (φ x)
theorem aO.slide (h:aO A rs φ L lo hi) {E L':Nat->Nat} (l:fe A rs φ E) {Ba:Nat} (m:1<=Ba) (g:∀x,Reach A.gr rs x->∀i,i<A.sz x->L' (goes E Ba (φ x)+i)=gV L (goes E Ba) (φ x) (A.np x) i):
  aO A rs (lD (goes E Ba) φ) L' Ba (Ba+cnt (ai E) 0 hi):=by
 have d:∀x,Reach A.gr rs x->lD (goes E Ba) φ x=goes E Ba (φ x):=fun x a=>if_neg a.pos
 have hg:∀x,Reach A.gr rs x->goes E Ba (φ x)+A.sz x=goes E Ba (φ x+A.sz x):=fun x a=>by
  rw [<-l.size x a];exact (js (Nat.le_refl _)).symm
 refine ⟨if_pos rfl,m,fun x a=> ?_,fun x y a k j=> ?_,fun x a=> ?_,fun x a i hi=> ?_,fun x a i b c=> ?_⟩
 ·rw [d x a];refine ⟨by unfold goes;omega,?_⟩;rw [hg x a];exact ez (h.lies x a).2
 ·rw [d x a,d y k,hg x a,hg y k];rcases h.apart x y a k j with b|b
  ·exact .inl (ez b)
  ·exact .inr (ez b)
 ·rw [d x a];have b:=g x a 0 (by unfold AG.sz;omega);have c:=h.head x a;refine ⟨?_,c.2⟩;rw [Nat.add_zero] at b;rw [b];unfold gV;rw [if_neg (by omega),Nat.add_zero];exact c.1
 ·rw [d x a];have b:=g x a (1+i) (by unfold AG.sz;omega);have c:=h.ptr x a i hi;rw [<-Nat.add_assoc] at b;rw [b];unfold gV;rw [<-Nat.add_assoc,c];unfold lD;by_cases e:A.fld x i=0
  ·rw [e,h.zero,if_neg (by omega),if_pos rfl]
  ·have f:=h.pos (AG.ptr_reach a hi e);rw [if_pos (by omega),if_neg e]
 ·rw [d x a];have f:=g x a (1+i) (by unfold AG.sz;omega);rw [<-Nat.add_assoc] at f;rw [f];unfold gV;rw [if_neg (by omega),<-Nat.add_assoc];exact h.val x a i b c
def aJ (A:AG) (rs l:List Nat):Prop:=l.Nodup∧∀x,x∈l↔Reach A.gr rs x
def AG.Wd (A:AG) (l:List Nat):Nat:=(l.map A.sz).sum
theorem lw {A:AG} {φ:Nat->Nat} {N:Nat}:∀(l:List Nat) (E:Nat->Nat),l.Nodup->(∀x∈l,E (φ x)=A.sz x)->(∀a,E a≠0->∃x∈l,φ x=a)->(∀x∈l,∀y∈l,x≠y->φ x+A.sz x<=φ y∨φ y+A.sz y<=φ x)->(∀x∈l,φ x+A.sz x<=N)->
  cnt (ai E) 0 N=A.Wd l∧cnt (aU E) 0 N=l.length
 |[],E,_,_,h2,_,_=>by
  have g:∀a,E a=0:=fun a=>by
   by_cases h:E a=0
   ·exact h
   ·obtain ⟨x,H,_⟩:=h2 a h;exact absurd H List.not_mem_nil
  refine ⟨aE (fun i _ _=> ?_),aE (fun i _ _=> ?_)⟩
  ·rw [Bool.eq_false_iff];intro h;obtain ⟨s,C,B⟩:=aQ.1 h;rw [g] at B;omega
  ·rw [Bool.eq_false_iff];intro h;exact bJ.1 h (g i)
 |x::t,E,hn,h1,h2,h3,h4=>by
  obtain ⟨k,u⟩:=List.nodup_cons.1 hn;have c:∀y,1<=A.sz y:=fun y=>by unfold AG.sz;omega
  have r:∀y∈t,φ y≠φ x:=fun y b e=>by
   have D:x≠y:=fun e=>k (e▸b)
   have:=c x;have:=c y;rcases h3 x (List.mem_cons_self) y (List.mem_cons_of_mem _ b) D with m|m<;>omega
  obtain ⟨f,d⟩:∃f,f=fun a=>if a=φ x then 0 else E a:=⟨_,rfl⟩
  have v:=h1 x List.mem_cons_self;have p:E=br f (φ x) (A.sz x):=by
   funext a;unfold br;split
   ·next e=>rw [e];exact v
   ·next e=>rw [d];exact (if_neg e).symm
  have o:f (φ x)=0:=by rw [d];exact if_pos rfl
  have n:∀y∈t,f (φ y)=A.sz y:=fun y b=>by rw [d];show (if _ then _ else _)=_;rw [if_neg (r y b)];exact h1 y (List.mem_cons_of_mem _ b)
  have j:∀a,f a≠0->∃y∈t,φ y=a:=fun a q=>by
   rw [d] at q;have e:a≠φ x:=fun e=>q (if_pos e)
   obtain ⟨y,b,rfl⟩:=h2 a (fun g=>q (by show (if _ then _ else _)=_;rw [if_neg e];exact g));rcases List.mem_cons.1 b with rfl|b
   ·exact absurd rfl e
   ·exact ⟨y,b,rfl⟩
  obtain ⟨C,B⟩:=lw t f u n j (fun y b z J=>h3 y (List.mem_cons_of_mem _ b) z (List.mem_cons_of_mem _ J)) (fun y b=>h4 y (List.mem_cons_of_mem _ b));have w:=h4 x List.mem_cons_self;have I:=c x;rw [p];constructor
  ·rw [od (by omega) (fun s F=> ?_) (fun s F g=> ?_) w,C]
   ·unfold AG.Wd;rw [List.map_cons,List.sum_cons];omega
   ·by_cases g:f s=0
    ·omega
    ·obtain ⟨y,b,rfl⟩:=j s g;rw [n y b];have:=c y;rcases h3 x List.mem_cons_self y (List.mem_cons_of_mem _ b) (fun e=>k (e▸b)) with m|m<;>omega
   ·obtain ⟨y,b,rfl⟩:=j s g;have:=c y;rcases h3 x List.mem_cons_self y (List.mem_cons_of_mem _ b) (fun e=>k (e▸b)) with m|m<;>omega
  ·rw [gD (by omega) o (by omega),B,List.length_cons]
theorem aJ.cnt (h:aO A rs φ L lo hi) {E:Nat->Nat} (d:fe A rs φ E) {l:List Nat} (b:aJ A rs l):Go.Proofs.YthahbijbpinneaaGreatDoor.cnt (ai E) 0 hi=A.Wd l∧Go.Proofs.YthahbijbpinneaaGreatDoor.cnt (aU E) 0 hi=l.length:=
 lw l E b.1 (fun x c=>d.size x ((b.2 x).1 c)) (fun a g=>let ⟨x,e,f⟩:=d.some a g;⟨x,(b.2 x).2 e,f⟩) (fun x c y i=>h.apart x y ((b.2 x).1 c) ((b.2 y).1 i)) (fun x c=>(h.lies x ((b.2 x).1 c)).2)
theorem aO.less (h:aO A rs φ L lo hi) {c:List Nat} (b:∀z,Reach A.gr c z->Reach A.gr rs z):aO A c φ L lo hi:=
 ⟨h.zero,h.one,fun x a=>h.lies x (b x a),fun x y a d=>h.apart x y (b x a) (b y d),fun x a=>h.head x (b x a),fun x a=>h.ptr x (b x a),fun x a=>h.val x (b x a)⟩
theorem tu {G:Gr} {rs:List Nat} {i r z:Nat} (a:r=0∨Reach G rs r) (h:Reach G (rs.set i r) z):Reach G rs z:=by
 induction h with
 |root h1 h2=>
  rcases List.mem_or_eq_of_mem_set h1 with b|b
  ·exact .root b h2
  ·subst b;rcases a with a|a
   ·exact absurd a h2
   ·exact a
 |step _ h1 h2 ih=>exact .step ih h1 h2
theorem aO.congr (h:aO A rs φ L lo hi) {L':Nat->Nat} (e:∀k,lo<=k->k<hi->L' k=L k):aO A rs φ L' lo hi:=by
 have c:∀x,Reach A.gr rs x->∀i,i<A.sz x->L' (φ x+i)=L (φ x+i):=fun x a i hi=>by have:=h.lies x a;exact e _ (by omega) (by omega)
 refine ⟨h.zero,h.one,h.lies,h.apart,fun x a=> ?_,fun x a i hi=> ?_,fun x a i b d=> ?_⟩
 ·have:=h.head x a;exact ⟨by have b:L' (φ x)=L (φ x):=c x a 0 (by unfold AG.sz;omega);rw [b];exact this.1,this.2⟩
 ·rw [dF,c x a (1+i) (by unfold AG.sz;omega),<-dF φ _ _];exact h.ptr x a i hi
 ·rw [dF,c x a (1+i) (by unfold AG.sz;omega),<-dF φ _ _];exact h.val x a i b d
theorem aO.wide (h:aO A rs φ L lo hi) {hi':Nat} (b:hi<=hi'):aO A rs φ L lo hi':=⟨h.zero,h.one,fun x a=>⟨(h.lies x a).1,by have:=(h.lies x a).2;omega⟩,h.apart,h.head,h.ptr,h.val⟩
def AG.put (A:AG) (x i v:Nat):AG:={A with fld:=fun y k=>if y=x∧k=i then v else A.fld y k}
theorem AG.put_reach {x i v z:Nat} (f:Reach A.gr rs x) (b:A.np x<=i∨v=0∨Reach A.gr rs v) (h:Reach (A.put x i v).gr rs z):Reach A.gr rs z:=by
 induction h with
 |root h1 h2=>exact .root h1 h2
 | @step a p _ h1 h2 ih=>
  obtain ⟨k,c,rfl⟩:=List.mem_map.1 h1;have c:=List.mem_range.1 c;by_cases e:a=x∧k=i
  ·have d:(A.put x i v).fld a k=v:=if_pos e;rw [d] at h2 ⊢;obtain ⟨rfl,rfl⟩:=e;rcases b with b|b|b
   ·exact absurd (show k<A.np a from c) (by omega)
   ·exact absurd b h2
   ·exact b
  ·have d:(A.put x i v).fld a k=A.fld a k:=if_neg e;rw [d] at h2 ⊢;exact AG.ptr_reach ih c h2
theorem aO.put_ptr (h:aO A rs φ L lo hi) {x i v:Nat} (p:Reach A.gr rs x) (t:i<A.np x) (q:v=0∨Reach A.gr rs v):aO (A.put x i v) rs φ (bw L (φ x+1+i) (φ v)) lo hi:=by
 have b:∀z,Reach (A.put x i v).gr rs z->Reach A.gr rs z:=fun z n=>AG.put_reach p (.inr q) n
 have u:∀z,(A.put x i v).sz z=A.sz z:=fun z=>rfl
 have m:∀y k,Reach A.gr rs y->k<A.sz y->¬(y=x∧k=1+i)->bw L (φ x+1+i) (φ v) (φ y+k)=L (φ y+k):=fun y k a l c=>by
  unfold bw;refine if_neg (fun e=> ?_);by_cases d:y=x
  ·subst d;exact c ⟨rfl,by omega⟩
  ·have:1+i<A.sz x:=by unfold AG.sz;omega
   rcases h.apart x y p a (Ne.symm d) with f|f<;>omega
 refine ⟨h.zero,h.one,fun y a=>h.lies y (b y a),fun y z a n=>h.apart y z (b y a) (b z n),fun y a=> ?_,fun y a k l=> ?_,fun y a k f r=> ?_⟩
 ·have o:=h.head y (b y a);refine ⟨?_,o.2⟩;have s:bw L (φ x+1+i) (φ v) (φ y)=L (φ y):=m y 0 (b y a) (by unfold AG.sz;omega) (by omega);rw [s];exact o.1
 ·by_cases e:y=x∧k=i
  ·obtain ⟨rfl,rfl⟩:=e;rw [show (A.put y k v).fld y k=v from if_pos ⟨rfl,rfl⟩];exact if_pos rfl
  ·rw [show (A.put x i v).fld y k=A.fld y k from if_neg e,dF φ y k,m y (1+k) (b y a) (by have:k<A.np y:=l;unfold AG.sz;omega) (by omega),<-dF φ _ _];exact h.ptr y (b y a) k l
 ·have g:A.np y<=k:=f;have j:k<A.np y+A.nf y+A.ng y:=r;have c:¬(y=x∧k=i):=fun e=>by obtain ⟨rfl,rfl⟩:=e;omega
  rw [show (A.put x i v).fld y k=A.fld y k from if_neg c,dF φ y k,m y (1+k) (b y a) (by unfold AG.sz;omega) (by omega),<-dF φ _ _];exact h.val y (b y a) k g j
theorem aO.put_val (h:aO A rs φ L lo hi) {x i v:Nat} (r:Reach A.gr rs x) (g:A.np x<=i) (t:i<A.np x+A.nf x+A.ng x) (s:v<18446744073709551616):aO (A.put x i v) rs φ (bw L (φ x+1+i) v) lo hi:=by
 have b:∀z,Reach (A.put x i v).gr rs z->Reach A.gr rs z:=fun z p=>AG.put_reach r (.inl g) p
 have o:∀y k,Reach A.gr rs y->k<A.sz y->¬(y=x∧k=1+i)->bw L (φ x+1+i) v (φ y+k)=L (φ y+k):=fun y k a q c=>by
  unfold bw;refine if_neg (fun e=> ?_);by_cases d:y=x
  ·subst d;exact c ⟨rfl,by omega⟩
  ·have:1+i<A.sz x:=by unfold AG.sz;omega
   rcases h.apart x y r a (Ne.symm d) with g|g<;>omega
 refine ⟨h.zero,h.one,fun y a=>h.lies y (b y a),fun y z a p=>h.apart y z (b y a) (b z p),fun y a=> ?_,fun y a k q=> ?_,fun y a k f l=> ?_⟩
 ·have f:=h.head y (b y a);refine ⟨?_,f.2⟩;have l:bw L (φ x+1+i) v (φ y)=L (φ y):=o y 0 (b y a) (by unfold AG.sz;omega) (by omega);rw [l];exact f.1
 ·have n:k<A.np y:=q;have c:¬(y=x∧k=i):=fun e=>by obtain ⟨rfl,rfl⟩:=e;omega
  rw [show (A.put x i v).fld y k=A.fld y k from if_neg c,dF φ y k,o y (1+k) (b y a) (by unfold AG.sz;omega) (by omega),<-dF φ _ _];exact h.ptr y (b y a) k n
 ·have j:A.np y<=k:=f;have m:k<A.np y+A.nf y+A.ng y:=l;by_cases e:y=x∧k=i
  ·obtain ⟨rfl,rfl⟩:=e;rw [show (A.put y k v).fld y k=v from if_pos ⟨rfl,rfl⟩];exact ⟨if_pos rfl,s⟩
  ·rw [show (A.put x i v).fld y k=A.fld y k from if_neg e,dF φ y k,o y (1+k) (b y a) (by unfold AG.sz;omega) (by omega),<-dF φ _ _];exact h.val y (b y a) k j m
def AG.new (A:AG) (n p f g:Nat):AG:=⟨fun y=>if y=n then p else A.np y,fun y=>if y=n then f else A.nf y,fun y=>if y=n then g else A.ng y,fun y k=>if y=n then 0 else A.fld y k⟩
theorem AG.new_other {n p f g y:Nat} (h:y≠n):(A.new n p f g).np y=A.np y∧(A.new n p f g).nf y=A.nf y∧(A.new n p f g).ng y=A.ng y∧(A.new n p f g).fld y=A.fld y∧(A.new n p f g).sz y=A.sz y:=by
 have a:(A.new n p f g).np y=A.np y:=if_neg h;have b:(A.new n p f g).nf y=A.nf y:=if_neg h;have c:(A.new n p f g).ng y=A.ng y:=if_neg h;exact ⟨a,b,c,funext fun k=>if_neg h,by unfold AG.sz;rw [a,b,c]⟩
theorem AG.new_self (A:AG) (n p f g:Nat):(A.new n p f g).np n=p∧(A.new n p f g).nf n=f∧(A.new n p f g).ng n=g∧(∀k,(A.new n p f g).fld n k=0)∧(A.new n p f g).sz n=1+(p+f+g):=by
 have a:(A.new n p f g).np n=p:=if_pos rfl;have b:(A.new n p f g).nf n=f:=if_pos rfl;have c:(A.new n p f g).ng n=g:=if_pos rfl;exact ⟨a,b,c,fun k=>if_pos rfl,by unfold AG.sz;rw [a,b,c]⟩
theorem AG.new_reach {n p f g s z:Nat} (m:¬Reach A.gr rs n) (h:Reach (A.new n p f g).gr (rs.set s n) z):z=n∨Reach A.gr rs z:=by
 induction h with
 |root h1 h2=>
  rcases List.mem_or_eq_of_mem_set h1 with c|c
  ·exact .inr (.root c h2)
  ·exact .inl c
 | @step a q _ h1 h2 b=>
  obtain ⟨k,l,rfl⟩:=List.mem_map.1 h1;rcases b with rfl|b
  ·exact absurd ((AG.new_self A a p f g).2.2.2.1 k) h2
  ·have d:a≠n:=fun e=>m (e▸b)
   obtain ⟨i,_,_,j,_⟩:=AG.new_other (A:=A) (p:=p) (f:=f) (g:=g) d;rw [j] at h2 ⊢;exact .inr (AG.ptr_reach b (by have:=List.mem_range.1 l;rwa [i] at this) h2)
theorem aO.new (h:aO A rs φ L lo hi) {n p f g s a hi':Nat} (D:n≠0) (F:¬Reach A.gr rs n) (N:lo<=hi) (Q:hi<=a) (R:a+(1+(p+f+g))<=hi') (O:bl p f g):
  aO (A.new n p f g) (rs.set s n) (fun y=>if y=n then a else φ y) (ii L a (eW p f g) (p+f+g)) lo hi':=by
 have d:∀z,Reach (A.new n p f g).gr (rs.set s n) z->z≠n->Reach A.gr rs z:=fun z v m=>(AG.new_reach F v).resolve_left m
 have E:∀y k,Reach A.gr rs y->k<A.sz y->ii L a (eW p f g) (p+f+g) (φ y+k)=L (φ y+k):=fun y k c t=>by
  have:=(h.lies y c).2;unfold ii;rw [if_neg (by omega),if_neg (by omega)]
 have u:=AG.new_self A n p f g;obtain ⟨w,I,J,K,P⟩:=u;have H:=h.one;refine ⟨by rw [if_neg (Ne.symm D)];exact h.zero,h.one,fun y c=> ?_,fun y z c v i=> ?_,fun y c=> ?_,fun y c k t=> ?_,fun y c k l r=> ?_⟩
 ·by_cases e:y=n
  ·subst e;rw [if_pos rfl,P];omega
  ·obtain ⟨_,_,_,_,q⟩:=AG.new_other (A:=A) (p:=p) (f:=f) (g:=g) e;rw [if_neg e,q];have:=h.lies y (d y c e);omega
 ·by_cases e:y=n
  ·subst e;obtain ⟨_,_,_,_,q⟩:=AG.new_other (A:=A) (p:=p) (f:=f) (g:=g) (Ne.symm i);rw [if_pos rfl,if_neg (Ne.symm i),q];have:=h.lies z (d z v (Ne.symm i));right;omega
  ·obtain ⟨_,_,_,_,q⟩:=AG.new_other (A:=A) (p:=p) (f:=f) (g:=g) e;rw [if_neg e,q];have l:=h.lies y (d y c e);by_cases j:z=n
   ·rw [if_pos j];left;omega
   ·obtain ⟨_,_,_,_,M⟩:=AG.new_other (A:=A) (p:=p) (f:=f) (g:=g) j;rw [if_neg j,M];exact h.apart y z (d y c e) (d z v j) i
 ·by_cases e:y=n
  ·subst e;rw [if_pos rfl,w,I,J];exact ⟨if_pos rfl,O⟩
  ·obtain ⟨o,x,B,_,_⟩:=AG.new_other (A:=A) (p:=p) (f:=f) (g:=g) e;rw [if_neg e,o,x,B];have l:=h.head y (d y c e);have r:ii L a (eW p f g) (p+f+g) (φ y)=L (φ y):=E y 0 (d y c e) (by unfold AG.sz;omega);exact ⟨by rw [r];exact l.1,l.2⟩
 ·by_cases e:y=n
  ·subst e;rw [if_pos rfl,K,if_neg (Ne.symm D),h.zero];rw [w] at t;unfold ii;rw [if_neg (by omega),if_pos (by omega)]
  ·obtain ⟨o,_,_,C,_⟩:=AG.new_other (A:=A) (p:=p) (f:=f) (g:=g) e;rw [o] at t;have b:=d y c e;rw [if_neg e,C,dF φ y k,E y (1+k) b (by unfold AG.sz;omega),<-dF φ _ _,h.ptr y b k t];have m:A.fld y k≠n:=fun j=>F (j▸AG.ptr_reach b t (by rw [j];exact D))
   rw [if_neg m]
 ·by_cases e:y=n
  ·subst e;rw [if_pos rfl,K];rw [w,I,J] at r;rw [w] at l;refine ⟨?_,by omega⟩;unfold ii;rw [if_neg (by omega),if_pos (by omega)]
  ·obtain ⟨o,x,B,C,_⟩:=AG.new_other (A:=A) (p:=p) (f:=f) (g:=g) e;rw [o,x,B] at r;rw [o] at l;have b:=d y c e;rw [if_neg e,C,dF φ y k,E y (1+k) b (by unfold AG.sz;omega),<-dF φ _ _];exact h.val y b k l r
end
section
open Go.RowKit Go.Maps
theorem eO:Keyed Tryz.prog 3:=int_keyed (q:= .i64) Tryz.underlying3
def kI (q:Nat):Lit:= .int .i64 q
theorem yv {q:Nat} (h:q<4611686018427387904):(kI q).wf=true:=WalkArith.wf_i64 (by omega)
theorem iP {q:Nat} (h:q<4611686018427387904):keyOf Tryz.prog 3 (.int .i64 q)=some (kI q):=keyOf_int_mk Tryz.underlying3 (yv h)
theorem u7 {q r:Nat} (h:q≠r):kI q≠kI r:=fun e=>by unfold kI at e;simp only [Lit.int.injEq,true_and] at e;omega
theorem u5 {q:Nat} (h:q<4611686018427387904):WideAt.IsKeyLit (kI q):=eO.key (iP h)
section
variable {w w':World} {b n:Nat} {f:Nat->Option Nat}
def cI (w:World) (b n:Nat) (f:Nat->Option Nat):Prop:=
 ∃D:DataW Unit,w.ownsMap Tryz.prog 3 (plainElem Tryz.prog 3) b n D∧∀q,q<4611686018427387904->Maps.has D (kI q)=(f q).isSome∧D.atKey (kI q) (.lit (.int .i64 0))= .lit (.int .i64 (((f q).getD 0:Nat):Int))
theorem lI {k:TypeId} {R:Value->Option (DataW Unit×List MemPlace)} {D:DataW Unit} {T:Nat->Prop} (h:w.ownsMap Tryz.prog k R b n D) (hf:Fr T w w') (e:¬T b):w'.ownsMap Tryz.prog k R b n D:=by
 obtain ⟨c,a,d,r⟩:=h;exact ⟨c,a,hf.heap d e,r⟩
theorem cI.frame {T:Nat->Prop} (h:cI w b n f) (hf:Fr T w w') (d:¬T b):cI w' b n f:=let ⟨D,a,c⟩:=h;⟨D,lI a hf d,c⟩
theorem cI.lt (h:cI w b n f):b<w.heap.size:=let ⟨_,a,_⟩:=h;a.lt
theorem lq (w:World):cI (w.alloc (.map #[] 0)) w.heap.size 0 (fun _=>none):=
 ⟨.map [],World.ownsMap_made _ _ _ _,fun _ _=>⟨rfl,rfl⟩⟩
theorem oR (w:World):(zeroValue 3).run Tryz.prog w= .ok (.int .i64 0) w:=by kernel_rfl
theorem cI.look (h:cI w b n f) (q:Nat) (e:q<4611686018427387904):(Instr.lookup 33 (.map (some b)) (.int .i64 q) false).run Tryz.prog w= .ok (.int .i64 (((f q).getD 0:Nat):Int)) w:=by
 obtain ⟨D,g,i⟩:=h;obtain ⟨c,d,a,_⟩:=g.lookup_int eO Tryz.underlying33 Tryz.underlying3 (oR w) (iP e);rw [(i q e).2] at a;simp only [DataW.lit.injEq,Lit.int.injEq,true_and] at a;rw [d,a]
theorem cI.look_ok (h:cI w b n f) (q:Nat) (d:q<4611686018427387904):(Instr.lookup 33 (.map (some b)) (.int .i64 q) true).run Tryz.prog w= .ok (.tuple #[.int .i64 (((f q).getD 0:Nat):Int),.bool (f q).isSome]) w:=by
 obtain ⟨D,j,e⟩:=h;obtain ⟨v,ps,c,i⟩:=j.look_ok eO Tryz.underlying33 (oR w) (plainElem_int Tryz.underlying3 (by decide)) (iP d);rw [(e q d).2] at i;obtain ⟨a,rfl,g,_⟩:=plainElem_int_inv Tryz.underlying3 i;simp only [Prod.mk.injEq,DataW.lit.injEq,Lit.int.injEq,true_and] at g;rw [c,(e q d).1,g.1]
def dB {α:Type} (f:Nat->Option α) (q:Nat) (x:α) (r:Nat):Option α:=if r=q then some x else f r
theorem cI.put (h:cI w b n f) (q x:Nat) (i:q<4611686018427387904) (B:x<4611686018427387904) (G:n<4611686018427387904):
  ∃w',(Instr.mapUpdate 33 (.map (some b)) (.int .i64 q) (.int .i64 x)).run Tryz.prog w= .ok () w'∧cI w' b (if (f q).isSome then n else n+1) (dB f q x)∧Fr (fun k=>k=b) w w':=by
 obtain ⟨D,c,o⟩:=h;obtain ⟨w',d,C,E⟩:=c.update eO Tryz.underlying33 (by unfold maxLen;omega) (iP i) (plainElem_int Tryz.underlying3 (yv B));refine ⟨w',d,⟨D.put (kI q) (.lit (kI x)),?_,fun r y=> ?_⟩,(Fr.of_grown E).mono (fun k v=> .inl (by simpa using v.symm))⟩
 ·obtain ⟨m,a,p,s,F,l⟩:=C;refine ⟨m,a,p,s,?_,l⟩;have t:D.put (kI q) (.lit (kI x))=_:=l;have z:Maps.size (D.put (kI q) (.lit (kI x)))=m.size:=by rw [t];simp [Maps.size,length_sorted]
  have g:=size_put (c.tidy eO) (k:=kI q) (.lit (kI x));have A:=c.size_le;have j:=(o q i).1;rw [j] at g;split<;>rename_i u<;>simp only [u,if_true,if_false,Bool.false_eq_true] at g<;>omega
 ·unfold dB;by_cases e:r=q
  ·subst e;rw [if_pos rfl];exact ⟨has_put_same c.isMap (u5 i) _,atKey_put_same c.isMap (u5 i) _ _⟩
  ·rw [if_neg e,has_put_other (u7 e),atKey_put_other (u7 e)];exact o r y
end
def Ab (v:Value):Option (DataW Unit×List MemPlace):=
 match v with
 | .agg a=>
  match a.toList with
  |[.int .i64 p,.int .i64 f,.int .i64 g]=>some (.agg [.lit (.int .i64 p),.lit (.int .i64 f),.lit (.int .i64 g)],[])
  |_=>none
 |_=>none
theorem uR (p f g:Int):Ab (bN p f g)=some (.agg [.lit (.int .i64 p),.lit (.int .i64 f),.lit (.int .i64 g)],[]):=rfl
theorem xr {v:Value} {p f g:Int} {ps:List MemPlace} (h:Ab v=some (.agg [.lit (.int .i64 p),.lit (.int .i64 f),.lit (.int .i64 g)],ps)):v=bN p f g:=by
 unfold Ab at h;split at h
 ·rename_i a;split at h
  ·rename_i c b g' e;simp only [Option.some.injEq,Prod.mk.injEq,DataW.agg.injEq,List.cons.injEq,DataW.lit.injEq,Lit.int.injEq,true_and,and_true] at h;obtain ⟨⟨rfl,rfl,rfl⟩,_⟩:=h;unfold bN;rw [<-e]
  ·cases h
 ·cases h
section
variable {w w':World} {b n:Nat} {f:Nat->Option (Nat×Nat×Nat)}
def oT (o:Option (Nat×Nat×Nat)):Nat×Nat×Nat:=o.getD (0,0,0)
def cV (w:World) (b n:Nat) (f:Nat->Option (Nat×Nat×Nat)):Prop:=
 ∃D:DataW Unit,w.ownsMap Tryz.prog 3 Ab b n D∧∀q,q<4611686018427387904->D.atKey (kI q) (.agg [.lit (.int .i64 0),.lit (.int .i64 0),.lit (.int .i64 0)])= .agg [.lit (.int .i64 ((oT (f q)).1:Int)),.lit (.int .i64 ((oT (f q)).2.1:Int)),.lit (.int .i64 ((oT (f q)).2.2:Int))]
theorem cV.frame {T:Nat->Prop} (h:cV w b n f) (hf:Fr T w w') (d:¬T b):cV w' b n f:=let ⟨D,a,c⟩:=h;⟨D,lI a hf d,c⟩
theorem cV.lt (h:cV w b n f):b<w.heap.size:=let ⟨_,a,_⟩:=h;a.lt
theorem sE (w:World):cV (w.alloc (.map #[] 0)) w.heap.size 0 (fun _=>none):=
 ⟨.map [],World.ownsMap_made _ _ _ _,fun _ _=>rfl⟩
theorem wB (w:World):(zeroValue 31).run Tryz.prog w= .ok (bN 0 0 0) w:=by kernel_rfl
theorem cV.look (h:cV w b n f) (q:Nat) (c:q<4611686018427387904):(Instr.lookup 208 (.map (some b)) (.int .i64 q) false).run Tryz.prog w= .ok (bN ((oT (f q)).1:Int) ((oT (f q)).2.1:Int) ((oT (f q)).2.2:Int)) w:=by
 obtain ⟨D,e,g⟩:=h;obtain ⟨v,ps,a,d⟩:=e.lookup eO Tryz.underlying208 (wB w) (uR 0 0 0) (iP c);rw [g q c] at d;rw [a,xr d]
theorem cV.put (h:cV w b n f) (q p t g:Nat) (d:q<4611686018427387904) (s:n<4611686018427387904):
  ∃w',(Instr.mapUpdate 208 (.map (some b)) (.int .i64 q) (bN p t g)).run Tryz.prog w= .ok () w'∧cV w' b (n+1) (dB f q (p,t,g))∧Fr (fun k=>k=b) w w':=by
 obtain ⟨D,c,i⟩:=h;obtain ⟨w',a,m,o⟩:=c.update eO Tryz.underlying208 (by unfold maxLen;omega) (iP d) (uR p t g);refine ⟨w',a,⟨_,m,fun r l=> ?_⟩,(Fr.of_grown o).mono (fun k j=> .inl (by simpa using j.symm))⟩;unfold dB;by_cases e:r=q
 ·subst e;rw [if_pos rfl];exact atKey_put_same c.isMap (u5 d) _ _
 ·rw [if_neg e,atKey_put_other (u7 e)];exact i r l
end
end
theorem ru {a:Nat} {c:(b:Nat)->a<=b->Prop} (Ba:c a (Nat.le_refl a)) (succ:∀b (e:a<=b),c b e->c (b+1) (Nat.le_succ_of_le e)):∀b (d:a<=b),c b d:=by
 intro b d
 induction d with
 |refl=>exact Ba
 |step h ih=>exact succ _ h ih
theorem bc (f:Nat->Bool) (a:Nat):cnt f a a=0:=bG f (Nat.le_refl a)
theorem ml {f g:Nat->Bool} {a:Nat}:∀{b:Nat},a<=b->(∀i,a<=i->i<b->f i=true->g i=true)->cnt f a b<=cnt g a b:=by
 intro b c
 induction b,c using ru with
 |Ba=>intro _;rw [bc,bc];exact Nat.le_refl _
 |succ b hb ih=>
  intro h;rw [aC f hb,aC g hb];have d:=ih (fun i d e=>h i d (by omega));have e:=h b hb (Nat.lt_succ_self b)
  cases hf:f b with
  |false=>simp only [Bool.false_eq_true,if_false];omega
  |true=>rw [e hf];simp only [if_true];omega
theorem mj {f g h:Nat->Bool} {a:Nat}:∀{b:Nat},a<=b->(∀i,a<=i->i<b->f i=(g i||h i))->(∀i,a<=i->i<b->g i=true->h i=false)->cnt f a b=cnt g a b+cnt h a b:=by
 intro b c
 induction b,c using ru with
 |Ba=>intro _ _;rw [bc,bc,bc]
 |succ b hb ih=>
  intro e j;rw [aC f hb,aC g hb,aC h hb,ih (fun i d l=>e i d (by omega)) (fun i d l=>j i d (by omega)),e b hb (Nat.lt_succ_self b)];have k:=j b hb (Nat.lt_succ_self b)
  cases hg:g b with
  |false=>
   cases hh:h b<;>simp
   omega
  |true=>
   rw [k hg];simp;omega
theorem xd {f:Nat->Bool} {a:Nat}:∀{b:Nat},a<=b->(∀i j,a<=i->i<j->j<b->f i=true->f j=true->False)->cnt f a b<=1:=by
 intro b c
 induction b,c using ru with
 |Ba=>intro _;rw [bc];omega
 |succ b hb ih=>
  intro h;rw [aC f hb]
  cases hf:f b with
  |false=>simp only [Bool.false_eq_true,if_false];exact ih (fun i j d e l=>h i j d e (by omega))
  |true=>
   have g:cnt f a b=0:=aE (fun i d e=>by
    rw [Bool.eq_false_iff];exact fun k=>h i b d e (Nat.lt_succ_self b) k hf)
   rw [g];simp
def fd (P:Nat) (f:Nat->Bool) (q:Nat):Bool:=(List.range P).any fun i=>f (q*P+i)
theorem aH {P:Nat} {f:Nat->Bool} {q:Nat} (d:1<=P):fd P f q=true↔∃a,a/P=q∧f a=true:=by
 unfold fd;simp only [List.any_eq_true,List.mem_range];constructor
 ·rintro ⟨i,b,c⟩;refine ⟨q*P+i,?_,c⟩;rw [Nat.mul_comm,Nat.mul_add_div (by omega),Nat.div_eq_of_lt b,Nat.add_zero]
 ·rintro ⟨a,rfl,h⟩;refine ⟨a% P,Nat.mod_lt _ (by omega),?_⟩;rw [Nat.mul_comm,Nat.div_add_mod];exact h
theorem fY {P:Nat} {f:Nat->Bool} {q:Nat} (c:1<=P):fd P f q=false↔∀a,a/P=q->f a=false:=by
 rw [Bool.eq_false_iff,ne_eq,aH c];constructor
 ·intro h a b;rw [Bool.eq_false_iff];exact fun hf=>h ⟨a,b,hf⟩
 ·rintro h ⟨a,b,hf⟩;rw [h a b] at hf;cases hf
theorem qY (P:Nat) (f:Nat->Bool) (c:1<=P):∀m,cnt f 0 (m*P)<=P*cnt (fd P f) 0 m
 |0=>by rw [Nat.zero_mul,bc];omega
 |m+1=>by
  have e:=qY P f c m;rw [Nat.succ_mul,ay f (Nat.zero_le (m*P)) (show m*P<=m*P+P by omega),aC (fd P f) (Nat.zero_le m),Nat.mul_add];have d:=be f (m*P) (m*P+P)
  cases h:fd P f m with
  |true=>simp only [if_true];omega
  |false=>
   rw [aE (f:=f) (a:=m*P) (b:=m*P+P) (fun i g j=>(fY c).1 h i (by
    rw [show i=P*m+(i-m*P) by rw [Nat.mul_comm];omega,Nat.mul_add_div (by omega),Nat.div_eq_of_lt (by omega),Nat.add_zero]))]
   simp only [Bool.false_eq_true,if_false];omega
theorem nB (P:Nat) (f g:Nat->Bool):∀m,(∀r,r<m->g r=true->∀i,i<P->f (r*P+i)=true)->P*cnt g 0 m<=cnt f 0 (m*P)
 |0,_=>by rw [bc];omega
 |m+1,h=>by
  have d:=nB P f g m (fun r c=>h r (by omega));rw [Nat.succ_mul,ay f (Nat.zero_le (m*P)) (show m*P<=m*P+P by omega),aC g (Nat.zero_le m),Nat.mul_add]
  cases hg:g m with
  |false=>simp only [Bool.false_eq_true,if_false];omega
  |true=>
   rw [iF (f:=f) (a:=m*P) (b:=m*P+P) (fun i e j=>by
    have:=h m (Nat.lt_succ_self m) hg (i-m*P) (by omega);rwa [show m*P+(i-m*P)=i by omega] at this)]
   simp only [if_true];omega
theorem qX (live D:Nat->Bool):∀m,cnt (fun a=>live a&&D (cnt live 0 a)) 0 m=cnt D 0 (cnt live 0 m)
 |0=>by rw [bc,bc,bc]
 |m+1=>by
  rw [aC _ (Nat.zero_le m),aC live (Nat.zero_le m),qX live D m]
  cases h:live m with
  |false=>simp
  |true=>
   simp only [Bool.true_and,if_true];rw [aC D (Nat.zero_le _)]
def eM (P:Nat) (live X:Nat->Bool):Nat->Bool:=fd P fun a=>live a&& !X (cnt live 0 a)
def gp (P N:Nat) (X:Nat->Bool):Nat->Bool:=fd P fun i=>decide (i<N)&&X i
def gT (P Q R N:Nat) (live X A:Nat->Bool):Nat:=cnt (eM P live X) 0 Q+cnt (fun r=>gp P N X r||A r) 0 R
theorem pI {P Q R N g:Nat} {live X A:Nat->Bool} (p:1<=P) (hN:cnt live 0 (Q*P)=N) (hg:g<=N):
  gT P Q R N live (fun i=>X i||decide (i<g)) A<=gT P Q R N live X A+2:=by
 obtain ⟨d,C⟩:∃d:Nat->Bool,d=fun i=>X i||decide (i<g):=⟨_,rfl⟩
 obtain ⟨D,hD⟩:∃D:Nat->Bool,D=fun i=>decide (i<g)&& !X i:=⟨_,rfl⟩
 rw [<-C];have v:∀i,d i=(X i||decide (i<g)):=fun i=>by rw [C]
 have B:∀i,D i=(decide (i<g)&& !X i):=fun i=>by rw [hD]
 unfold gT;obtain ⟨k,V⟩:∃k:Nat->Bool,k=fun r=>gp P N d r&& !(gp P N X r||A r):=⟨_,rfl⟩
 have l:∀r,k r=(gp P N d r&& !(gp P N X r||A r)):=fun r=>by rw [V]
 have E:∀i,X i=true->d i=true:=fun i h=>by rw [v,h];rfl
 have W:∀r,gp P N X r=true->gp P N d r=true:=fun r h=>by
  obtain ⟨a,o,n⟩:=(aH p).1 h;rw [Bool.and_eq_true] at n;exact (aH p).2 ⟨a,o,by rw [Bool.and_eq_true];exact ⟨n.1,E a n.2⟩⟩
 have e1:cnt (fun r=>gp P N d r||A r) 0 R=cnt (fun r=>gp P N X r||A r) 0 R+cnt k 0 R:=by
  refine mj (Nat.zero_le R) (fun r _ _=> ?_) (fun r _ _ h=> ?_)
  ·rw [l];have:=W r
   cases o:gp P N X r<;>cases n:gp P N d r<;>cases z:A r<;>simp_all
  ·rw [l,h];simp
 have T:∀q,eM P live d q=true->eM P live X q=true:=fun q h=>by
  obtain ⟨a,o,n⟩:=(aH p).1 h;rw [Bool.and_eq_true,Bool.not_eq_true'] at n;refine (aH p).2 ⟨a,o,?_⟩;rw [Bool.and_eq_true,Bool.not_eq_true'];refine ⟨n.1,?_⟩;rw [Bool.eq_false_iff];exact fun z=>by have:=E _ z;rw [n.2] at this;cases this
 obtain ⟨e,S⟩:∃e:Nat->Bool,e=fun q=>eM P live X q&& !eM P live d q:=⟨_,rfl⟩
 have t:∀q,e q=(eM P live X q&& !eM P live d q):=fun q=>by rw [S]
 have e2:cnt (eM P live X) 0 Q=cnt (eM P live d) 0 Q+cnt e 0 Q:=by
  refine mj (Nat.zero_le Q) (fun q _ _=> ?_) (fun q _ _ h=> ?_)
  ·rw [t];have:=T q
   cases o:eM P live X q<;>cases n:eM P live d q<;>simp_all
  ·rw [t,h];simp
 obtain ⟨s,J⟩:∃s:Nat->Bool,s=fd P (fun a=>live a&&D (cnt live 0 a)):=⟨_,rfl⟩;have e3:cnt D 0 N<=P*cnt s 0 Q:=by
  rw [<-hN,<-qX live D,J];exact qY P _ p Q
 obtain ⟨y,w⟩:∃y:Nat->Bool,y=fun q=>s q&& !e q:=⟨_,rfl⟩
 have e4:cnt s 0 Q<=cnt e 0 Q+1:=by
  have o:cnt s 0 Q<=cnt (fun q=>e q||y q) 0 Q:=ml (Nat.zero_le Q) (fun q _ _ h=>by
   rw [w];show (e q||(s q&& !e q))=true
   rw [h]
   cases e q<;>rfl)
  have n:cnt (fun q=>e q||y q) 0 Q=cnt e 0 Q+cnt y 0 Q:=mj (Nat.zero_le Q) (fun q _ _=>rfl) (fun q _ _ h=>by rw [w];show (s q&& !e q)=false;rw [h];simp);have z:cnt y 0 Q<=1:=by
   refine xd (Nat.zero_le Q) (fun i j _ ah _ L Y=> ?_);rw [w] at L Y;have x:s i=true∧e i=false:=by simpa using L
   have H:s j=true:=by
    have:s j=true∧e j=false:=by simpa using Y
    exact this.1
   rw [J] at x H;obtain ⟨a,M,u⟩:=(aH p).1 x.1;obtain ⟨c,c1,c2⟩:=(aH p).1 H;rw [Bool.and_eq_true,B,Bool.and_eq_true,decide_eq_true_eq] at u c2;have U:eM P live X i=true:=(aH p).2 ⟨a,M,by rw [Bool.and_eq_true];exact ⟨u.1,u.2.2⟩⟩;have F:=x.2;rw [t,U] at F;have G:eM P live d i=true:=by simpa using F
   obtain ⟨b,b1,b2⟩:=(aH p).1 G;rw [Bool.and_eq_true,v,Bool.not_eq_true',Bool.or_eq_false_iff,decide_eq_false_iff_not] at b2;have O:b<=c:=by
    rcases Nat.lt_or_ge c b with h|h
    ·have:=Nat.div_le_div_right (c:=P) (Nat.le_of_lt h);omega
    ·exact h
   have:=cZ live (a:=0) O;omega
  omega
 have e5:P*cnt k 0 R<=cnt D 0 N+P:=by
  obtain ⟨m,hm⟩:∃m,g/P=m:=⟨_,rfl⟩;have am:m*P<=g:=by rw [<-hm];exact Nat.div_mul_le_self g P
  have I:∀r,m<r->k r=false:=fun r Z=>by
   rw [l]
   cases o:gp P N d r with
   |false=>rfl
   |true=>
    obtain ⟨a,M,u⟩:=(aH p).1 o;rw [Bool.and_eq_true,v,Bool.or_eq_true,decide_eq_true_eq,decide_eq_true_eq] at u;have ad:g<=a:=by
     rcases Nat.lt_or_ge a g with h|h
     ·have:=Nat.div_le_div_right (c:=P) (Nat.le_of_lt h);omega
     ·exact h
    have n:gp P N X r=true:=(aH p).2 ⟨a,M,by
     rw [Bool.and_eq_true,decide_eq_true_eq];exact ⟨u.1,by rcases u.2 with h|h;exact h;omega⟩⟩
    rw [n];simp
  have o:cnt k 0 R<=cnt k 0 m+1:=by
   rcases Nat.lt_or_ge m R with h|h
   ·rw [ay k (Nat.zero_le (m+1)) (show m+1<=R from h),aE (f:=k) (a:=m+1) (b:=R) (fun i q1 _=>I i q1),aC k (Nat.zero_le m)];split<;>omega
   ·have:=cZ k (a:=0) h;omega
  have n:P*cnt k 0 m<=cnt D 0 (m*P):=by
   refine nB P D k m (fun r Z h i L=> ?_);have ap:r*P+i<m*P:=by
    have:(r+1)*P<=m*P:=Nat.mul_le_mul_right P Z;rw [Nat.succ_mul] at this;omega
   rw [l] at h;have z:gp P N X r=false:=by
    have:gp P N d r=true∧(gp P N X r=false∧A r=false):=by simpa using h
    exact this.2.1
   have K:=(fY p).1 z (r*P+i) (by rw [Nat.mul_comm,Nat.mul_add_div (by omega),Nat.div_eq_of_lt L,Nat.add_zero]);rw [show decide (r*P+i<N)=true from decide_eq_true (by omega),Bool.true_and] at K;rw [B,K,decide_eq_true (by omega:r*P+i<g)];rfl
  have z:=cZ D (a:=0) (show m*P<=N by omega);have K:P*cnt k 0 R<=P*(cnt k 0 m+1):=Nat.mul_le_mul_left P o;rw [Nat.mul_add] at K;omega
 have e6:P*cnt k 0 R<=P*(cnt e 0 Q+2):=by
  have o:P*cnt s 0 Q<=P*(cnt e 0 Q+1):=Nat.mul_le_mul_left P e4;rw [Nat.mul_add] at o ⊢;omega
 have e7:=Nat.le_of_mul_le_mul_left e6 (by omega);omega
def qk (B P:Nat):Nat:=max (B/P) 1
def er (B P N k:Nat) (r:Nat):Bool:=fd P (fun i=>decide (i<N)&&decide (i/B=k)) r
theorem sa {f:Nat->Bool} {R u v:Nat} (h:∀r,f r=true->u<=r∧r<v):cnt f 0 R<=v-u:=by
 rcases Nat.lt_or_ge u R with d|d
 ·rw [ay f (Nat.zero_le u) (Nat.le_of_lt d),aE (f:=f) (a:=0) (b:=u) (fun i _ c=>by rw [Bool.eq_false_iff];exact fun hf=>by have:=(h i hf).1;omega)];rcases Nat.lt_or_ge v R with c|c
  ·rcases Nat.lt_or_ge v u with e|e
   ·rw [aE (f:=f) (a:=u) (b:=R) (fun i g _=>by rw [Bool.eq_false_iff];exact fun hf=>by have:=h i hf;omega)];omega
   ·rw [ay f e (Nat.le_of_lt c),aE (f:=f) (a:=v) (b:=R) (fun i g _=>by rw [Bool.eq_false_iff];exact fun hf=>by have:=h i hf;omega)];have:=be f u v;omega
  ·have:=be f u R;omega
 ·rw [aE (f:=f) (a:=0) (b:=R) (fun i _ j=>by rw [Bool.eq_false_iff];exact fun hf=>by have:=h i hf;omega)];omega
theorem jG {B P N k r:Nat} (j:1<=P) (m:1<=B) (l:P∣B∨B∣P) (h:er B P N k r=true):k*B/P<=r∧r<k*B/P+qk B P:=by
 obtain ⟨i,d,b⟩:=(aH j).1 h;rw [Bool.and_eq_true,decide_eq_true_eq,decide_eq_true_eq] at b;have g:k*B<=i:=by rw [<-b.2];exact Nat.div_mul_le_self i B
 have e:i<k*B+B:=by
  have a:=Nat.div_add_mod i B;have f:=Nat.mod_lt i (show 0<B by omega);rw [b.2,Nat.mul_comm] at a;omega
 refine ⟨by rw [<-d];exact Nat.div_le_div_right g,?_⟩;unfold qk;rcases l with ⟨c,rfl⟩|⟨c,rfl⟩
 ·rw [Nat.mul_div_cancel_left c (by omega),show k*(P*c)=P*(k*c) by rw [Nat.mul_left_comm],Nat.mul_div_cancel_left _ (by omega),<-d];have a:i<P*(k*c+c):=by rw [Nat.mul_add];rw [show k*(P*c)=P*(k*c) by rw [Nat.mul_left_comm]] at e;exact e
  have:=Nat.div_lt_of_lt_mul a;omega
 ·have a:i/(B*c)=k/c:=by rw [<-Nat.div_div_eq_div_mul,b.2]
  have f:k*B/(B*c)=k/c:=by rw [<-Nat.div_div_eq_div_mul,Nat.mul_div_cancel _ (by omega)]
  rw [f,<-a,d];omega
theorem rX {B P N k R:Nat} (b:1<=P) (a:1<=B) (c:P∣B∨B∣P):cnt (er B P N k) 0 R<=qk B P:=by
 have:=sa (f:=er B P N k) (R:=R) (u:=k*B/P) (v:=k*B/P+qk B P) (fun r h=>jG b a c h);omega
theorem ld (f g:Nat->Bool):∀R,cnt (fun r=>f r||g r) 0 R<=cnt f 0 R+cnt g 0 R
 |0=>by rw [bc];omega
 |R+1=>by
  have:=ld f g R;rw [aC _ (Nat.zero_le R),aC f (Nat.zero_le R),aC g (Nat.zero_le R)]
  cases f R<;>cases g R<;>simp<;>omega
theorem sw {P Q R N B:Nat} {live A:Nat->Bool} {X:Nat->Bool} {mv:Nat->Bool} (c:1<=P) (p:1<=B) (t:P∣B∨B∣P) (f:Nat):∀n,f<=n->
  gT P Q R N live (fun i=>X i||(decide (f<=i/B)&&decide (i/B<n)&&mv (i/B))) A<=gT P Q R N live X A+qk B P*cnt mv f n:=by
 intro n j
 induction n,j using ru with
 |Ba=>
  have:(fun i=>X i||(decide (f<=i/B)&&decide (i/B<f)&&mv (i/B)))=X:=by
   funext i;have:(decide (f<=i/B)&&decide (i/B<f))=false:=by
    rw [Bool.and_eq_false_iff,decide_eq_false_iff_not,decide_eq_false_iff_not];omega
   rw [this,Bool.false_and,Bool.or_false]
  rw [this];omega
 |succ n j ih=>
  rw [aC mv j,Nat.mul_add];have o:∀i,(X i||(decide (f<=i/B)&&decide (i/B<n+1)&&mv (i/B)))=((X i||(decide (f<=i/B)&&decide (i/B<n)&&mv (i/B)))||(decide (i/B=n)&&mv n)):=fun i=>by
   by_cases e:i/B=n
   ·rw [e];simp [j]
   ·have l:decide (i/B<n+1)=decide (i/B<n):=by rw [decide_eq_decide];omega
    rw [l,decide_eq_false e,Bool.false_and,Bool.or_false]
  cases hm:mv n with
  |false=>
   have:(fun i=>X i||(decide (f<=i/B)&&decide (i/B<n+1)&&mv (i/B)))=(fun i=>X i||(decide (f<=i/B)&&decide (i/B<n)&&mv (i/B))):=by
    funext i;rw [o,hm,Bool.and_false,Bool.or_false]
   rw [this];simp only [Bool.false_eq_true,if_false,Nat.mul_zero,Nat.add_zero];exact ih
  |true=>
   simp only [if_true,Nat.mul_one];obtain ⟨Y,m⟩:∃Y:Nat->Bool,Y=(fun i=>X i||(decide (f<=i/B)&&decide (i/B<n)&&mv (i/B))):=⟨_,rfl⟩;have s:(fun i=>X i||(decide (f<=i/B)&&decide (i/B<n+1)&&mv (i/B)))=fun i=>Y i||decide (i/B=n):=by
    funext i;rw [o,hm,Bool.and_true,m]
   rw [s];rw [<-m] at ih;have l:cnt (eM P live (fun i=>Y i||decide (i/B=n))) 0 Q<=cnt (eM P live Y) 0 Q:=ml (Nat.zero_le Q) (fun q _ _ h=>by
    obtain ⟨a,d,b⟩:=(aH c).1 h;rw [Bool.and_eq_true,Bool.not_eq_true',Bool.or_eq_false_iff] at b;exact (aH c).2 ⟨a,d,by rw [Bool.and_eq_true,Bool.not_eq_true'];exact ⟨b.1,b.2.1⟩⟩)
   have u:cnt (fun r=>gp P N (fun i=>Y i||decide (i/B=n)) r||A r) 0 R<=cnt (fun r=>(gp P N Y r||A r)||er B P N n r) 0 R:=ml (Nat.zero_le R) (fun r _ _ h=>by
    rw [Bool.or_eq_true] at h;rcases h with h|h
    ·obtain ⟨a,d,b⟩:=(aH c).1 h;rw [Bool.and_eq_true,Bool.or_eq_true] at b;rcases b.2 with g|g
     ·have:gp P N Y r=true:=(aH c).2 ⟨a,d,by rw [Bool.and_eq_true];exact ⟨b.1,g⟩⟩;rw [this];rfl
     ·have:er B P N n r=true:=(aH c).2 ⟨a,d,by rw [Bool.and_eq_true];exact ⟨b.1,g⟩⟩;rw [this,Bool.or_true]
    ·rw [h,Bool.or_true,Bool.true_or])
   have g:cnt (fun r=>(gp P N Y r||A r)||er B P N n r) 0 R<=cnt (fun r=>gp P N Y r||A r) 0 R+cnt (er B P N n) 0 R:=ld _ _ R;have v:=rX (N:=N) (k:=n) (R:=R) c p t;unfold gT at ih ⊢;omega
structure Cy where
 y:Nat
 m:Nat
 from_:Nat
 top:Nat
 to_:Nat
 Lm:Nat
 B:Nat
 stack:Nat
 Ah:Nat
 pl:Nat
 EL:aI
 mv:Nat
 nb:Nat
 wb:Nat
 sb:Nat
 lo:Nat
 hi:Nat
def Cy.cells (c:Cy) (left fr ah:Nat):List Value:=[.pointer (some ⟨c.m,0,none⟩),.int .i64 (c.from_:Int),.int .i64 (c.top:Int),.int .i64 (c.to_:Int),.int .i64 (c.Lm:Int),.int .i64 (c.B:Int),.int .i64 (c.stack:Int),.int .i64 (c.Ah:Int),.pointer (some ⟨c.pl,0,none⟩),.pointer (some ⟨c.EL.m,0,none⟩),.slice (some ⟨c.mv,0,none⟩) c.nb c.nb,.int .i64 left,.int .i64 fr,.int .i64 ah,.map (some c.wb),.map (some c.sb)]
def tU (w:World) (c:Cy) (left fr ah:Nat):Prop:=aj w c.y (c.cells left fr ah) 210
section
variable {w:World} {c:Cy} {left fr ah:Nat}
theorem tG (h:tU w c left fr ah):Calls Tryz.prog 80 #[c.y] w fun e w'=>e= .returned (.int .i64 left)∧w=w':=by
 have a:=h.cell 11 rfl;clear h
 go_enter Tryz.func80,Tryz.ntmps80
 go_wp2;go_ret;exact ⟨rfl,rfl⟩
theorem oD (h:tU w c left fr ah):Calls Tryz.prog 81 #[c.y] w fun e w'=>e= .returned (.int .i64 (c.nb:Int))∧w=w':=by
 have a:=h.cell 10 rfl;clear h
 go_enter Tryz.func81,Tryz.ntmps81
 go_wp2;go_ret;exact ⟨rfl,rfl⟩
theorem tE (h:tU w c left fr ah):Calls Tryz.prog 132 #[c.y] w fun e w'=>e= .returned (.bool (decide (left=0)))∧w=w':=by
 have b:=ae (tG h);have d:((left:Int)==0)=decide (left=0):=by
  by_cases a:left=0
  ·subst a;rfl
  ·rw [decide_eq_false a,beq_eq_false_iff_ne];omega
 clear h
 go_enter Tryz.func132,Tryz.ntmps132
 go_wp2_with fail
 refine (b.out).mono ?_;rintro e w' ⟨rfl,rfl⟩;go_wp2;go_ret;exact ⟨rfl,rfl⟩
variable {E:Nat->Nat} {W:Nat}
theorem wo (h:tU w c left fr ah) (hp:cl c.lo c.hi w c.pl W c.B E c.to_) (g:c.to_<=1048576):Calls Tryz.prog 130 #[c.y] w fun e w'=>e= .returned (.int .i64 ((c.to_+cnt (ai E) 0 W:Nat):Int))∧Fr (fun _=>False) w w':=by
 have b:=ae (dH hp);have d:=ae (fun p (h:cJ c.lo c.hi w p W c.B E c.to_)=>ew h g);have i:=h.cell 8 rfl;clear h hp
 go_enter Tryz.func130,Tryz.ntmps130
 go_wp2_with fail
 refine (b.out).mono ?_;rintro e w' ⟨⟨p,rfl,f⟩,rfl⟩;have a:=ae (d.out p f);clear f d b;go_wp2_with fail
 refine (a.out).mono ?_;rintro e w' ⟨rfl,hf⟩;have H:=ae hf;clear hf a;go_wp2;go_ret;exact ⟨rfl,H.out⟩
theorem rG (h:tU w c left fr ah) (hp:cl c.lo c.hi w c.pl W c.B E c.to_) (k:c.to_<=1048576) (a:Nat) (j:ai E a=true) (d:a<W):Calls Tryz.prog 194 #[c.y,.int .i64 a] w fun e w'=>e= .returned (.int .i64 ((goes E c.to_ a:Nat):Int))∧Fr (fun _=>False) w w':=by
 have f:=ae (dH hp);have g:=ae (fun p (h:cJ c.lo c.hi w p W c.B E c.to_)=>mm h k a j d);have l:=h.cell 8 rfl;clear h hp;generalize goes E c.to_ a=Y at*
 go_enter Tryz.func194,Tryz.ntmps194
 go_wp2_with fail
 refine (f.out).mono ?_;rintro e w' ⟨⟨p,rfl,i⟩,rfl⟩;have b:=ae (g.out p i);clear i g f;go_wp2_with fail
 refine (b.out).mono ?_;rintro e w' ⟨rfl,hf⟩;have H:=ae hf;clear hf b;go_wp2;go_ret;exact ⟨rfl,H.out⟩
theorem mL (p f g:Nat) (a:bl p f g) (i:Nat) (j:i<1048576) (w:World):Calls Tryz.prog 273 #[bN p f g,.int .i64 i] w fun e w'=>e= .returned (.bool (decide (1<=i∧i<=p)))∧Fr (fun _=>False) w w':=by
 have b:=ae (fun w1=>iN p f g ((i:Int)-1) a w1);have k:(bK p f g ((i:Int)-1)==1)=decide (1<=i∧i<=p):=by
  unfold bK;rw [co,if_pos a];by_cases d:1<=i∧i<=p
  ·rw [if_neg (by omega),if_pos (by omega),decide_eq_true d];rfl
  ·rw [decide_eq_false d];split
   ·rfl
   ·rw [if_neg (by omega)];split<;>rfl
 have l:IntKind.i64.wrap ((i:Int)-1)=(i:Int)-1:=by rw [IntKind.wrap_i64];omega
 unfold d8 bN at*;generalize bK p f g ((i:Int)-1)=K at*;generalize decide (1<=i∧i<=p)=D at*;clear a j
 go_enter Tryz.func273,Tryz.ntmps273
 go_wp2_with fail
 refine (b.out _).mono ?_;rintro e w1 ⟨rfl,hf⟩;have H:=ae hf;clear hf b;go_wp2;go_ret;exact ⟨by rw [<-k];rfl,((Fr.refl _ w).alloc _).trans H.out (fun _ h=>h.elim)⟩
end
section
variable {w:World} {c:Cy} {left fr ah:Nat} {E:Nat->Nat} {Pg W Fs Us Hg:Nat} {S:Nat->Prop} {mp:Nat->Bool} {M:Nat->Nat}
def rT (w:World) (x:Nat) (e:Ending) (w':World):Prop:=e= .returned (.int .u64 x)∧Fr (fun _=>False) w w'
theorem oM (h:tU w c left fr ah) (hp:cl c.lo c.hi w c.pl W c.B E c.to_) (hb:c.to_<=1048576) (V:bn w c.m S Pg W Fs Us Hg mp M) (a s p f g:Nat) (hs:s<=a) (ha:a<W) (Q:mp (a/Pg)=true) (ho:bl p f g)
  (z:1<=a-s->a-s<=p->M a≠0->ai E (M a)=true∧M a<W) (hM:M a<18446744073709551616):
  Calls Tryz.prog 244 #[c.y,.int .i64 a,.int .i64 s,bN p f g] w (rT w (gV M (goes E c.to_) s p (a-s))):=by
 have am:=V.at.2.2.1;have ad:s+(a-s)=a:=by omega
 have L:∀o,Fr (fun _=>False) w (w.alloc o):=fun o=>(Fr.refl _ w).alloc o
 obtain ⟨W1,N⟩:∃W1,w.alloc (.cells #[.int .i64 p,.int .i64 f,.int .i64 g] 31)=W1:=⟨_,rfl⟩;have q:Fr (fun _=>False) w W1:=by rw [<-N];exact L _
 have n:aj W1 w.heap.size [.int .i64 p,.int .i64 f,.int .i64 g] 31:=by rw [<-N];exact aj.new w _ _
 have c0:=(h.frame q (fun h=>h)).cell 0 rfl;have HL:=ae (dS (V.keep q) a ha Q);have HP:=ae (fun w1=>mL p f g ho (a-s) (by omega) w1);have HT:=ae (fun (w1:World) (hf:Fr (fun _=>False) w w1) (i:1<=a-s∧a-s<=p) (u:M a≠0)=>rG (h.frame hf (fun h=>h)) (hp.keep hf) hb (M a) (z i.1 i.2 u).1 (z i.1 i.2 u).2);have v:(1<=a-s∧a-s<=p)->M a≠0->M a<=1048576:=fun i u=>by have:=(z i.1 i.2 u).2;omega
 have F:goes E c.to_ (M a)<=2097152∨¬(M a<=1048576):=by
  by_cases hx:M a<=1048576
  ·left;have:=ch (ai E) (M a);unfold goes;omega
  ·exact .inr hx
 have P:gV M (goes E c.to_) s p (a-s)=if (1<=a-s∧a-s<=p)∧M a≠0 then goes E c.to_ (M a) else M a:=by
  unfold gV;rw [ad];by_cases i:(1<=a-s∧a-s<=p)∧M a≠0
  ·rw [if_pos i,if_pos ⟨i.1.1,i.1.2,i.2⟩]
  ·rw [if_neg i,if_neg (fun h=>i ⟨⟨h.1,h.2.1⟩,h.2.2⟩)]
 have hi:(a:Int)-(s:Int)=((a-s:Nat):Int):=by omega
 rw [P];generalize goes E c.to_ (M a)=Y at*;have R:Hid (∀w',Fr (fun _=>False) W1 w'->Fr (fun _=>False) w w'):=by
  show∀w',_
  exact fun w' h=>q.trans h (fun _ h=>h.elim)
 have G:=ae n;have T:=ae q;have k0:=n.cell 0 rfl;have k1:=n.cell 1 rfl;have k2:=n.cell 2 rfl;clear h hp hb V z Q ho L n q P;unfold bN rT at*;generalize a-s=D at*;generalize M a=X at*;obtain ⟨Z,U⟩:∃Z,Z=if (1<=D∧D<=p)∧X≠0 then Y else X:=⟨_,rfl⟩
 rw [<-U];have K:=ae U;clear U
 go_enter Tryz.func244,Tryz.ntmps244
 go_wp2_with fail
 refine (HL.out).mono ?_;rintro e w2 ⟨rfl,r⟩;have x:=G.out.frame r (fun h=>h);have k0:=x.cell 0 rfl;have k1:=x.cell 1 rfl;have k2:=x.cell 2 rfl;have A:=ae (R.out w2 r);have d:=ae (HP.out w2);have t:=ae (fun w3 (hf:Fr (fun _=>False) w2 w3)=>HT.out w3 (R.out w3 (r.trans hf (fun _ h=>h.elim))));have k:=ae (fun w3 (hf:Fr (fun _=>False) w2 w3)=>R.out w3 (r.trans hf (fun _ h=>h.elim)));clear HL G T x R HP HT c0 r;by_cases u:X=0
 ·subst u;have l:=ae (K.out.trans (if_neg (fun h=>h.2 rfl)));clear d t k v F;go_wp2;go_ret;rw [l.out];exact ⟨rfl,A.out⟩
 ·have aq:¬((X:Nat):Int)=0:=by omega
  by_cases b:1<=D∧D<=p
  ·have ap:=v b u;have hY:Y<=2097152:=by omega
   have av:IntKind.i64.wrap ((X:Nat):Int)=((X:Nat):Int):=by rw [IntKind.wrap_i64];omega
   have ax:IntKind.u64.wrap ((Y:Nat):Int)=((Y:Nat):Int):=by rw [IntKind.wrap_u64];omega
   have I:=ae (fun w3 hf=>t.out w3 hf b u);rw [decide_eq_true b] at d;have l:=ae (K.out.trans (if_pos ⟨b,u⟩));clear t A v F K;go_wp2_with fail
   refine (d.out).mono ?_;rintro e w3 ⟨rfl,j⟩;have J:=ae (I.out w3 j);have H:=ae (fun w4 (hf:Fr (fun _=>False) w3 w4)=>k.out w4 (j.trans hf (fun _ h=>h.elim)));clear j d I k k0 k1 k2;go_wp2_with fail
   refine (J.out).mono ?_;rintro e w4 ⟨rfl,O⟩;have C:=ae (H.out w4 O);clear O J H;go_wp2;go_ret;rw [l.out];exact ⟨rfl,C.out⟩
  ·rw [decide_eq_false b] at d;have l:=ae (K.out.trans (if_neg (fun h=>b h.1)));clear t A v F K;go_wp2_with fail
   refine (d.out).mono ?_;rintro e w3 ⟨rfl,j⟩;have C:=ae (k.out w3 j);clear j d k k0 k1 k2;go_wp2;go_ret;rw [l.out];exact ⟨rfl,C.out⟩
end
def aT (E:Nat->Nat) (a:Nat):Nat:=((List.range (a+1)).find? (fun s=>decide (a<s+E s))).getD 0
theorem ci {E:Nat->Nat} {a:Nat} (h:ai E a=true):aT E a<=a∧a<aT E a+E (aT E a):=by
 unfold aT
 cases hf:(List.range (a+1)).find? (fun s=>decide (a<s+E s)) with
 |none=>
  obtain ⟨s,b,c⟩:=aQ.1 h;have:=List.find?_eq_none.1 hf s (List.mem_range.2 (by omega));simp at this;omega
 |some s=>
  have b:=List.find?_some hf;have c:=List.mem_range.1 (List.mem_of_find?_eq_some hf);simp only [decide_eq_true_eq] at b;simp only [Option.getD_some];omega
theorem mD {E:Nat->Nat} (d:di E) {a s:Nat} (b:s<=a) (c:a<s+E s):aT E a=s:=by
 have h:=ci (aQ.2 ⟨s,b,c⟩);exact d.owner h.1 h.2 b c
def wrd (E hp M F:Nat->Nat) (a:Nat):Nat:=gV M F (aT E a) (hp (aT E a)) (a-aT E a)
theorem dK {E hp M b F:Nat->Nat} {a:Nat} (h:ai E a=true) (e:b a=M a):wrd E hp b F a=wrd E hp M F a:=by
 have:=ci h;unfold wrd gV;rw [show aT E a+(a-aT E a)=a by omega,e]
def bt (E:Nat->Nat) (a:Nat):Nat:=cnt (ai E) 0 a
theorem eh {E:Nat->Nat} {a W:Nat} (h:ai E a=true) (b:a<W):bt E a<cnt (ai E) 0 W:=iE (Nat.zero_le a) b h
theorem pY {E:Nat->Nat} {W i:Nat} (h:i<cnt (ai E) 0 W):∃a,a<W∧ai E a=true∧bt E a=i:=
 let ⟨a,_,b,c,d⟩:=mz (ai E) 0 W i h;⟨a,b,c,d⟩
theorem mq {E:Nat->Nat} {a b:Nat} (c:ai E a=true) (d:ai E b=true) (h:bt E a=bt E b):a=b:=ke (Nat.zero_le _) (Nat.zero_le _) c d h
theorem nM (E:Nat->Nat) (Ba a:Nat):goes E Ba a=Ba+bt E a:=rfl
structure bh where
 E:Nat->Nat
 hp:Nat->Nat
 to_:Nat
 W:Nat
 P:Nat
 B:Nat
 R:Nat
 Ah:Nat
def bh.N (s:bh):Nat:=cnt (ai s.E) 0 s.W
def bh.F (s:bh):Nat->Nat:=goes s.E s.to_
def bh.nb (s:bh):Nat:=iv s.N s.B
def aZ (B:Nat) (mvd:Nat->Bool):Nat->Bool:=fun i=>mvd (i/B)
def fc (s:bh) (top:Nat) (r:Nat):Bool:=fd s.P (fun i=>decide (s.N<=i)&&decide (s.to_+i<top)) r
def df (s:bh) (mvd:Nat->Bool) (top q:Nat):Bool:=decide (s.to_/s.P<=q)&&decide (q<s.to_/s.P+s.R)&&(gp s.P s.N (aZ s.B mvd) (q-s.to_/s.P)||fc s top (q-s.to_/s.P))
structure b8 (s:bh):Prop where
 apart:di s.E
 P1:1<=s.P
 B1:1<=s.B
 div:s.P∣s.B∨s.B∣s.P
 W1:s.W% s.P=0
 W2:s.W<=524288
 to1:s.to_% s.P=0
 to2:s.to_+s.R*s.P<=s.W
 N2:s.N<=s.R*s.P
 from_:∀a,ai s.E a=true->a<s.W∧(a<s.to_∨s.to_+s.R*s.P<=a)
structure fQ (s:bh) (L M:Nat->Nat) (mp:Nat->Bool) (mvd:Nat->Bool) (fr ah left top:Nat):Prop where
 moved:∀a,a<s.W->ai s.E a=true->mvd (bt s.E a/s.B)=true->M (s.F a)=L (s.F a)
 still:∀a,a<s.W->ai s.E a=true->mvd (bt s.E a/s.B)=false->wrd s.E s.hp M s.F a=L (s.F a)
 ptrs:∀a,a<s.W->ai s.E a=true->mvd (bt s.E a/s.B)=false->1<=a-aT s.E a->a-aT s.E a<=s.hp (aT s.E a)->M a≠0->ai s.E (M a)=true∧M a<s.W
 small:∀a,a<s.W->ai s.E a=true->mvd (bt s.E a/s.B)=false->M a<18446744073709551616
 behind:∀k,s.to_+s.N<=k->k<top->M k=L k
 pages:∀q,q<s.W/s.P->mp q=(eM s.P (ai s.E) (aZ s.B mvd) q||df s mvd top q)
 front:(∀k,k<fr->mvd k=true)∧fr<=s.nb∧(fr<s.nb->mvd fr=false)
 far:∀k,s.nb<=k->mvd k=false
 Ah:ah=cnt mvd fr s.nb∧ah<=s.Ah
 left:left+cnt mvd 0 s.nb=s.nb
 Rm:∃X,(∀k,X k=true->mvd k=true)∧gT s.P (s.W/s.P) s.R s.N (ai s.E) (aZ s.B X) (fc s top)<=s.R
section
variable {s:bh} {L M:Nat->Nat} {mp:Nat->Bool} {mvd:Nat->Bool} {fr ah left top:Nat}
theorem b8.toq (a:b8 s):s.to_=s.to_/s.P*s.P:=by have:=Nat.div_add_mod s.to_ s.P;have:=a.to1;rw [Nat.mul_comm];omega
theorem b8.Wq (a:b8 s):s.W=s.W/s.P*s.P:=by have:=Nat.div_add_mod s.W s.P;have:=a.W1;rw [Nat.mul_comm];omega
theorem ft {P q i a:Nat} (c:1<=P) (h:a=q*P+i) (b:i<P):a/P=q:=by
 rw [h,Nat.mul_comm,Nat.mul_add_div (by omega),Nat.div_eq_of_lt b,Nat.add_zero]
theorem px {P t r:Nat} (a:1<=P) (i:Nat) (h:t=r*P):(t+i)/P=r+i/P:=by
 rw [h,Nat.mul_comm,Nat.mul_add_div (by omega)]
theorem tJ (c:b8 s) {a:Nat} (e:ai s.E a=true):df s mvd top (a/s.P)=false:=by
 have f:=c.P1;have d:=c.toq;have b:=(c.from_ a e).2;unfold df;rw [Bool.and_eq_false_iff,Bool.and_eq_false_iff,decide_eq_false_iff_not,decide_eq_false_iff_not];left;rcases b with b|b
 ·left;have:a/s.P<s.to_/s.P:=by rw [Nat.div_lt_iff_lt_mul (by omega),<-d];exact b
  omega
 ·right;have:s.to_/s.P+s.R<=a/s.P:=by rw [Nat.le_div_iff_mul_le (by omega),Nat.add_mul,<-d];exact b
  omega
theorem ki (d:b8 s) (e:∀q,q<s.W/s.P->mp q=(eM s.P (ai s.E) (aZ s.B mvd) q||df s mvd top q)):cnt mp 0 (s.W/s.P)=gT s.P (s.W/s.P) s.R s.N (ai s.E) (aZ s.B mvd) (fc s top):=by
 have t:=d.P1;have f:=d.toq;have x:=d.Wq;have u:s.to_/s.P+s.R<=s.W/s.P:=by
  have o:=d.to2;rw [Nat.le_div_iff_mul_le (by omega),Nat.add_mul,<-f];exact o
 obtain ⟨g,hg⟩:∃g:Nat->Bool,g=fun r=>gp s.P s.N (aZ s.B mvd) r||fc s top r:=⟨_,rfl⟩
 have l:cnt mp 0 (s.W/s.P)=cnt (eM s.P (ai s.E) (aZ s.B mvd)) 0 (s.W/s.P)+cnt (fun q=>decide (s.to_/s.P<=q)&&decide (q<s.to_/s.P+s.R)&&g (q-s.to_/s.P)) 0 (s.W/s.P):=by
  refine mj (Nat.zero_le _) (fun q _ h=> ?_) (fun q _ _ hf=> ?_)
  ·rw [e q h,hg];rfl
  ·obtain ⟨a,k,j⟩:=(aH t).1 hf;rw [Bool.and_eq_true] at j;have c:=(d.from_ a j.1).2;rw [Bool.and_eq_false_iff,Bool.and_eq_false_iff,decide_eq_false_iff_not,decide_eq_false_iff_not];left;rw [<-k];rcases c with c|c
   ·left;have:a/s.P<s.to_/s.P:=by rw [Nat.div_lt_iff_lt_mul (by omega),<-f];exact c
    omega
   ·right;have:s.to_/s.P+s.R<=a/s.P:=by rw [Nat.le_div_iff_mul_le (by omega),Nat.add_mul,<-f];exact c
    omega
 have m:cnt (fun q=>decide (s.to_/s.P<=q)&&decide (q<s.to_/s.P+s.R)&&g (q-s.to_/s.P)) 0 (s.W/s.P)=cnt g 0 s.R:=by
  rw [ay _ (Nat.zero_le (s.to_/s.P)) (show s.to_/s.P<=s.W/s.P by omega),ay _ (show s.to_/s.P<=s.to_/s.P+s.R by omega) u,
   aE (a:=0) (b:=s.to_/s.P) (fun i _ v=>by rw [Bool.and_eq_false_iff,Bool.and_eq_false_iff,decide_eq_false_iff_not];left;left;omega),
   aE (a:=s.to_/s.P+s.R) (b:=s.W/s.P) (fun i v _=>by rw [Bool.and_eq_false_iff,Bool.and_eq_false_iff,decide_eq_false_iff_not,decide_eq_false_iff_not];left;right;omega),Nat.zero_add,Nat.add_zero]
  have p:∀n,n<=s.R->cnt (fun q=>decide (s.to_/s.P<=q)&&decide (q<s.to_/s.P+s.R)&&g (q-s.to_/s.P)) (s.to_/s.P) (s.to_/s.P+n)=cnt g 0 n:=by
   intro n
   induction n with
   |zero=>intro _;rw [Nat.add_zero,bc,bc]
   |succ n ih=>
    intro w;rw [<-Nat.add_assoc,aC _ (by omega),aC g (Nat.zero_le n),ih (by omega),decide_eq_true (show s.to_/s.P<=s.to_/s.P+n by omega),decide_eq_true (show s.to_/s.P+n<s.to_/s.P+s.R by omega),show s.to_/s.P+n-s.to_/s.P=n by omega];rfl
  exact p s.R (Nat.le_refl _)
 rw [l,m,hg];rfl
theorem fQ.Us (a:b8 s) (h:fQ s L M mp mvd fr ah left top):cnt mp 0 (s.W/s.P)=gT s.P (s.W/s.P) s.R s.N (ai s.E) (aZ s.B mvd) (fc s top):=ki a h.pages
theorem fQ.bound (d:b8 s) (h:fQ s L M mp mvd fr ah left top):cnt mp 0 (s.W/s.P)<=s.R+2+qk s.B s.P*ah:=by
 obtain ⟨X,v,F⟩:=h.Rm;rw [h.Us d];have e:=d.P1;have t:=d.B1;obtain ⟨m,n,z⟩:=h.front;have f:=h.far;have u:cnt (ai s.E) 0 (s.W/s.P*s.P)=s.N:=by rw [<-d.Wq];rfl
 have C:=pI (P:=s.P) (Q:=s.W/s.P) (R:=s.R) (N:=s.N) (g:=min (fr*s.B) s.N) (live:=ai s.E) (X:=aZ s.B X) (A:=fc s top) e u (Nat.min_le_right _ _);have o:=sw (P:=s.P) (Q:=s.W/s.P) (R:=s.R) (N:=s.N) (B:=s.B) (live:=ai s.E) (A:=fc s top) (X:=fun i=>aZ s.B X i||decide (i<min (fr*s.B) s.N)) (mv:=mvd) e t d.div fr s.nb n;have p:gT s.P (s.W/s.P) s.R s.N (ai s.E) (aZ s.B mvd) (fc s top)=gT s.P (s.W/s.P) s.R s.N (ai s.E) (fun i=>(aZ s.B X i||decide (i<min (fr*s.B) s.N))||(decide (fr<=i/s.B)&&decide (i/s.B<s.nb)&&mvd (i/s.B))) (fc s top):=by
  have k:∀i,i<s.N->aZ s.B mvd i=((aZ s.B X i||decide (i<min (fr*s.B) s.N))||(decide (fr<=i/s.B)&&decide (i/s.B<s.nb)&&mvd (i/s.B))):=by
   intro i D;unfold aZ
   cases hm:mvd (i/s.B) with
   |true=>
    by_cases j:fr<=i/s.B
    ·have l:i/s.B<s.nb:=by
      by_cases h:i/s.B<s.nb
      ·exact h
      ·rw [f _ (by omega)] at hm;cases hm
     rw [decide_eq_true j,decide_eq_true l];simp
    ·have:i<fr*s.B:=by
      have:=(Nat.div_lt_iff_lt_mul (show 0<s.B by omega)).1 (show i/s.B<fr by omega);exact this
     rw [decide_eq_true (show i<min (fr*s.B) s.N by omega)];simp
   |false=>
    have y:X (i/s.B)=false:=by
     rw [Bool.eq_false_iff];exact fun h=>by rw [v _ h] at hm;cases hm
    have j:¬i<fr*s.B:=fun h=>by
     have:=(Nat.div_lt_iff_lt_mul (show 0<s.B by omega)).2 h;rw [m _ this] at hm;cases hm
    rw [y,decide_eq_false (show¬i<min (fr*s.B) s.N by omega)];simp
  unfold gT;congr 1
  ·refine aK (fun q _ w=> ?_);rw [Bool.eq_iff_iff];unfold eM;rw [aH e,aH e];constructor
   ·rintro ⟨a,c,b⟩;refine ⟨a,c,?_⟩;rw [Bool.and_eq_true] at b ⊢;have:=eh b.1 (d.from_ a b.1).1;exact ⟨b.1,(congrArg (fun x=> !x) (k _ this).symm).trans b.2⟩
   ·rintro ⟨a,c,b⟩;refine ⟨a,c,?_⟩;rw [Bool.and_eq_true] at b ⊢;have:=eh b.1 (d.from_ a b.1).1;exact ⟨b.1,(congrArg (fun x=> !x) (k _ this)).trans b.2⟩
  ·refine aK (fun r _ _=> ?_);congr 1
   rw [Bool.eq_iff_iff];unfold gp;rw [aH e,aH e];constructor
   ·rintro ⟨a,c,b⟩;refine ⟨a,c,?_⟩;rw [Bool.and_eq_true,decide_eq_true_eq] at b ⊢;exact ⟨b.1,(k _ b.1).symm.trans b.2⟩
   ·rintro ⟨a,c,b⟩;refine ⟨a,c,?_⟩;rw [Bool.and_eq_true,decide_eq_true_eq] at b ⊢;exact ⟨b.1,(k _ b.1).trans b.2⟩
 rw [p];rw [<-h.Ah.1] at o;omega
end
end Go.Proofs.YthahbijbpinneaaGreatDoor
