import Derived.Test.YthahbijbpinneaaGreatDoorA4
import Derived.Test.YthahbijbpinneaaGreatDoorA7
import Derived.Test.YthahbijbpinneaaGreatDoorA8
import Derived.Test.YthahbijbpinneaaGreatDoorA10
import Derived.Test.YthahbijbpinneaaGreatDoorA11
import Derived.Test.YthahbijbpinneaaGreatDoorA14
set_option maxRecDepth 100000
set_option maxHeartbeats 8000000
set_option linter.all false
namespace Go.Proofs.YthahbijbpinneaaGreatDoor
open Go.RowKit
theorem lP {sz:Nat->Nat} {l:List Nat} {j a x:Nat} (h:l[j]? =some x) (b:j<a):gg sz (l.take j)+sz x<=gg sz (l.take a):=by
 have c:(l.take a)[j]? =some x:=by rw [List.getElem?_take_of_lt b];exact h
 have d:=oQ (sz:=sz) c;rwa [List.take_take,Nat.min_eq_left (Nat.le_of_lt b)] at d
section
variable {L sz np:Nat->Nat} {To cur:Nat} {ord:List Nat} {s:dg}
theorem eG.apart (h:eG L sz np To ord cur s) {x y z a q:Nat} (d:s.f x=some z) (e:s.f y=some a) (l:z<=q) (m:q<z+sz x) (n:a<=q) (o:q<a+sz y):x=y∧z=a:=by
 obtain ⟨j,g1,i⟩:=(h.went x z).1 d;obtain ⟨g,c,k⟩:=(h.went y a).1 e;rcases Nat.lt_trichotomy j g with b|b|b
 ·have:=lP (sz:=sz) g1 b;omega
 ·subst b;rw [g1] at c;exact ⟨Option.some.inj c,by omega⟩
 ·have:=lP (sz:=sz) c b;omega
theorem eG.skip (h:eG L sz np To ord cur s) {a:Nat} (l:cur<=a) (k:∀x z i,s.f x=some z->i<sz x->cur<=z+i->z+i<a->i=0∨np x<i):eG L sz np To ord a s:=by
 refine ⟨h.nd,h.went,h.num,h.top,h.still,fun x z i c d b=>h.old x z i c d ?_,fun x z i c d b j g=> ?_⟩
 ·rcases b with b|b
  ·exact .inl (by omega)
  ·exact .inr b
 ·rcases Nat.lt_or_ge (z+i) cur with e|e
  ·exact h.new x z i c e b j g
  ·have:=k x z i c g e d;omega
theorem eG.put (h:eG L sz np To ord cur s) {y a i v:Nat} (e:s.f y=some a) (u:cur=a+1+i) (w:i<np y) (r:np y<sz y) (t:(L (y+1+i)=0∧v=0)∨s.f (L (y+1+i))=some v):eG L sz np To ord (cur+1) ⟨bw s.M cur v,s.f,s.n,s.top⟩:=by
 have hf:=h.fits e;refine ⟨h.nd,h.went,h.num,h.top,fun k l=> ?_,fun x z j c g b=> ?_,fun x z j c g b m o=> ?_⟩
 ·show bw s.M cur v k=_
  unfold bw;change k<To∨s.top<=k at l;rw [if_neg (by omega)];exact h.still k l
 ·show bw s.M cur v (z+j)=_
  unfold bw;by_cases d:z+j=cur
  ·obtain ⟨rfl,rfl⟩:=h.apart (q:=cur) c e (by omega) (by omega) (by omega) (by omega);omega
  ·rw [if_neg d];refine h.old x z j c g ?_;rcases b with b|b
   ·exact .inl (by omega)
   ·exact .inr b
 ·show (_∧bw s.M cur v (z+j)=0)∨s.f _=some (bw s.M cur v (z+j))
  unfold bw;by_cases d:z+j=cur
  ·obtain ⟨rfl,rfl⟩:=h.apart (q:=cur) c e (by omega) (by omega) (by omega) (by omega);rw [if_pos d];have p:x+j=x+1+i:=by omega
   rw [p];exact t
  ·rw [if_neg d];exact h.new x z j c (by omega) b m o
theorem eG.turn1 (h:eG L sz np To ord cur s) {y a i:Nat} (g:s.f y=some a) (j:cur=a+1+i) (m:i<np y) (d:np y<sz y)
  (c:L (y+1+i)≠0->s.f (L (y+1+i))=none->∀k,L (y+1+i)<=k->k<L (y+1+i)+sz (L (y+1+i))->k<To∨s.top<=k):
  ∃b,eG L sz np To b (cur+1) (s.turn1 sz a i)∧(b=ord∨(L (y+1+i)≠0∧L (y+1+i)∉ord∧b=ord++[L (y+1+i)]))∧(∀x z,s.f x=some z->(s.turn1 sz a i).f x=some z):=by
 have hf:=h.fits g;have r:s.M (a+1+i)=L (y+1+i):=by
  have:=h.old y a (1+i) g (by omega) (.inl (by omega));rwa [<-Nat.add_assoc,<-Nat.add_assoc] at this
 unfold dg.turn1;rw [r];generalize l:L (y+1+i)=X at*;rw [<-j];by_cases e:X=0
 ·have n:s.take sz X=(s,0):=by unfold dg.take;rw [if_pos e]
  rw [n];exact ⟨ord,h.put g j m d (.inl ⟨by rw [l];exact e,rfl⟩),.inl rfl,fun _ _ h=>h⟩
 ·cases hfx:s.f X with
  |some z=>
   have n:s.take sz X=(s,z):=by unfold dg.take;rw [if_neg e,hfx]
   rw [n];exact ⟨ord,h.put g j m d (.inr (by rw [l];exact hfx)),.inl rfl,fun _ _ h=>h⟩
  |none=>
   obtain ⟨g1,p,t,q,o⟩:=h.goes e hfx (by omega) (c e hfx);refine ⟨_,g1.put (o y a g) j m d (.inr ?_),.inr ⟨e,h.Fh.1 hfx,rfl⟩,o⟩;rw [l,p];exact q
end
structure tY (L:Nat->Nat) (sz np:Nat->Nat) (To Li:Nat) (R:Nat->Prop):Prop where
 some:∀x,R x->x≠0∧np x<sz x
 out:∀x,R x->∀k,x<=k->k<x+sz x->k<To∨Li<=k
 next:∀x,R x->∀i,i<np x->L (x+1+i)=0∨R (L (x+1+i))
 fit:∀l:List Nat,l.Nodup->(∀x∈l,R x)->To+gg sz l<=Li
section
variable {L sz np:Nat->Nat} {To Li cur:Nat} {R:Nat->Prop} {ord:List Nat} {s:dg}
theorem eG.turnN (e:tY L sz np To Li R) (h:eG L sz np To ord cur s) (A:∀x∈ord,R x) {y a:Nat} (r:s.f y=some a) (M:cur=a) (c:R y):∀i,i<=np y->
  ∃b,eG L sz np To b (a+1+i) (dg.turnN sz a s i)∧(∀x∈b,R x)∧ord<+:b∧(∀x z,s.f x=some z->(dg.turnN sz a s i).f x=some z):=by
 intro i
 induction i with
 |zero=>
  intro _;have o:=(e.some y c).2;refine ⟨ord,h.skip (by omega) (fun x z j w I J K=> ?_),A,List.prefix_refl _,fun _ _ h=>h⟩;obtain ⟨rfl,rfl⟩:=h.apart (q:=z+j) w r (by omega) (by omega) (by omega) (by omega);exact .inl (by omega)
 |succ i ih=>
  intro N;obtain ⟨D,g1,l,m,n⟩:=ih (by omega);have o:=(e.some y c).2;have g:=e.next y c i (by omega);have O:=e.fit D g1.nd l;have p:=g1.top;obtain ⟨E,F,t,G⟩:=g1.turn1 (n y a r) rfl (by omega) o (fun v _ k B C=>by
   have:=e.out _ (g.resolve_left v) k B C;omega)
  refine ⟨E,F,?_,?_,fun x z d=>G x z (n x z d)⟩
  ·rcases t with rfl|⟨u,H,rfl⟩
   ·exact l
   ·intro x d;rcases List.mem_append.1 d with d|d
    ·exact l x d
    ·rw [List.mem_singleton.1 d];exact g.resolve_left u
  ·rcases t with rfl|⟨u,H,rfl⟩
   ·exact m
   ·exact m.trans (List.prefix_append _ _)
theorem eG.turned (k:tY L sz np To Li R) (h:eG L sz np To ord cur s) (m:∀x∈ord,R x) {c y:Nat} (e:ord[c]? =some y) (l:cur=To+gg sz (ord.take c)):
  ∃a,eG L sz np To a (cur+sz y) (dg.turnN sz cur s (np y))∧(∀x∈a,R x)∧ord<+:a∧cur+sz y=To+gg sz (a.take (c+1))∧(∀x z,s.f x=some z->(dg.turnN sz cur s (np y)).f x=some z):=by
 have b:=m y (List.mem_of_getElem? e);have d:=(h.went y cur).2 ⟨c,e,l⟩;have v:=(k.some y b).2;obtain ⟨A,g1,n,g,i⟩:=h.turnN k m d rfl b (np y) (Nat.le_refl _);obtain ⟨w,rfl⟩:=id g;have p:=(List.getElem?_eq_some_iff.1 e).1;refine ⟨_,g1.skip (by omega) (fun x z j o r t u=> ?_),n,g,?_,i⟩
 ·obtain ⟨rfl,rfl⟩:=g1.apart (q:=z+j) o (i _ _ d) (by omega) (by omega) (by omega) (by omega);exact .inr (by omega)
 ·rw [List.take_append_of_le_length (by omega),List.take_add_one,e,l];show _=To+gg sz (ord.take c++[y])
  rw [gh,jw];omega
end
structure yh (L:Nat->Nat) (sz np:Nat->Nat) (To Li:Nat) (R:Nat->Prop) (dom:Nat->Prop):Prop where
 hd:∀x,R x->∃p t g,dw L x p t g∧sz x=1+(p+t+g)∧np x=p
 lies:∀x,R x->x<1048576∧∀k,x<=k->k<x+sz x->dom k∧L k<18446744073709551616
 Rm:∀k,To<=k->k<Li->dom k
 low:1<=To
 Hg:Li<1048576
section
variable {L sz np:Nat->Nat} {To Li cur:Nat} {R dom:Nat->Prop} {ord:List Nat} {s:dg}
theorem ky {sz:Nat->Nat}:∀l:List Nat,(∀x∈l,1<=sz x)->l.length<=gg sz l
 |[],_=>Nat.zero_le _
 |x::l,h=>by
  have c:=ky l (fun y b=>h y (List.mem_cons_of_mem _ b));have d:=h x (List.mem_cons_self);have a:gg sz (x::l)=sz x+gg sz l:=by simp [gg]
  rw [a,List.length_cons];omega
theorem eG.ok (l:tY L sz np To Li R) (i:yh L sz np To Li R dom) (h:eG L sz np To ord cur s) (v:∀x∈ord,R x) (x:Nat) (F:x=0∨R x):s.Ok dom sz x:=by
 intro A;have c:=F.resolve_left A;obtain ⟨G,z⟩:=i.lies x c;refine ⟨G,fun hf=> ?_⟩;obtain ⟨p,t,g,q,B,H⟩:=i.hd x c;have o:=h.Fh.1 hf;have m:=l.fit (ord++[x]) (by
  rw [List.nodup_append];refine ⟨h.nd,by simp,?_⟩;intro a C b D;rw [List.mem_singleton.1 D];rintro rfl;exact o C) (fun y d=>by
  rcases List.mem_append.1 d with d|d
  ·exact v y d
  ·rw [List.mem_singleton.1 d];exact c)
 rw [gh,jw] at m;have w:=h.top;have u:=i.low;have n:=i.Hg;have r:=ky (sz:=sz) ord (fun y d=>by have:=(l.some y (v y d)).2;omega);have j:∀k,x<=k->k<x+sz x->s.M k=L k:=fun k e f=>h.still k (by have:=l.out x c k e f;omega)
 have E:=(l.some x c).2;refine ⟨p,t,g,⟨by rw [j x (Nat.le_refl _) (by omega)];exact q.1,q.2⟩,B,fun k e f=>⟨(z k e f).1,by rw [j k e f];exact (z k e f).2⟩,by omega,by omega,fun k e f=>i.Rm k (by omega) (by omega),by rw [h.num];omega⟩
theorem eG.taken (j:tY L sz np To Li R) (h:eG L sz np To ord cur s) (g:∀x∈ord,R x) (d:cur<=s.top) (x:Nat) (q:x=0∨R x):
  ∃a,eG L sz np To a cur (s.take sz x).1∧(∀y∈a,R y)∧ord<+:a∧(∀y z,s.f y=some z->(s.take sz x).1.f y=some z)∧((x=0∧(s.take sz x).2=0)∨(s.take sz x).1.f x=some (s.take sz x).2):=by
 by_cases b:x=0
 ·have i:s.take sz x=(s,0):=by unfold dg.take;rw [if_pos b]
  rw [i];exact ⟨ord,h,g,List.prefix_refl _,fun _ _ h=>h,.inl ⟨b,rfl⟩⟩
 ·have c:=q.resolve_left b
  cases hfx:s.f x with
  |some z=>
   have i:s.take sz x=(s,z):=by unfold dg.take;rw [if_neg b,hfx]
   rw [i];exact ⟨ord,h,g,List.prefix_refl _,fun _ _ h=>h,.inr hfx⟩
  |none=>
   have p:=j.fit ord h.nd g;have l:=h.top;obtain ⟨g1,m,u,n,o⟩:=h.goes b hfx d (fun k r t=>by have:=j.out x c k r t;omega);refine ⟨_,g1,fun y e=> ?_,List.prefix_append _ _,o,.inr (by rw [m];exact n)⟩;rcases List.mem_append.1 e with e|e
   ·exact g y e
   ·rw [List.mem_singleton.1 e];exact c
theorem eG.ok1 (c:tY L sz np To Li R) (d:yh L sz np To Li R dom) (h:eG L sz np To ord cur s) (m:∀x∈ord,R x) {y a i p t g:Nat} (j:s.f y=some a) (J:cur=a+1+i) (K:i<p) (k:R y) (e:dw L y p t g) (D:sz y=1+(p+t+g)) (C:np y=p):dg.Ok1 dom sz a p t g s i:=by
 have hf:=h.fits j;have A:=c.fit ord h.nd m;have r:=h.top;have l:=d.Hg;have n:s.M (a+1+i)=L (y+1+i):=by
  have:=h.old y a (1+i) j (by omega) (.inl (by omega));rwa [<-Nat.add_assoc,<-Nat.add_assoc] at this
 have b:=c.next y k i (by omega);have B:L (y+1+i)<1048576:=by
  rcases b with o|o
  ·omega
  ·exact (d.lies _ o).1
 obtain ⟨E,g1,u,F,v,w⟩:=h.taken c m (by omega) _ b;refine ⟨by rw [n];exact h.ok c d m _ b,⟨?_,e.2⟩,⟨?_,e.2⟩,by omega,?_,d.Rm _ (by omega) (by omega)⟩
 ·have:=h.old y a 0 j (by omega) (.inr (.inl rfl));rw [Nat.add_zero,Nat.add_zero] at this;rw [this];exact e.1
 ·rw [n];have z:(s.take sz (L (y+1+i))).1.M a=L y:=g1.old y a 0 (v y a j) (by omega) (.inr (.inl rfl));rw [z];exact e.1
 ·rw [n];rcases w with ⟨_,q⟩|q
  ·omega
  ·have G:=g1.fits q;have H:=c.fit E g1.nd u;have I:=g1.top;omega
end
section
variable {m Pg W Fs Us Hg:Nat} {mp:Nat->Bool} {kb wb:Nat} {S0:Nat->Prop} {w w0:World} {L sz np:Nat->Nat} {To Li cur:Nat} {R:Nat->Prop} {ord:List Nat} {s:dg}
def zk (m Pg W Fs Us Hg:Nat) (mp:Nat->Bool) (kb wb:Nat) (S0:Nat->Prop) (w0:World) (L sz np:Nat->Nat) (To:Nat) (R:Nat->Prop) (ord:List Nat) (cur:Nat) (s:dg) (w:World):Prop:=
 gk m Pg W Fs Us Hg mp kb wb S0 w0 s w∧eG L sz np To ord cur s∧∀x∈ord,R x
theorem xk (g:tY L sz np To Li R) (p:yh L sz np To Li R (aY W Pg mp)) (h:zk m Pg W Fs Us Hg mp kb wb S0 w0 L sz np To R ord cur s w) (b:cur<=s.top) (x:Nat) (i:x=0∨R x):
  Calls Tryz.prog 146 #[kb,.int .i64 x] w fun e w'=>∃(z:Nat) (a:List Nat) (s':dg),e= .returned (.int .i64 z)∧zk m Pg W Fs Us Hg mp kb wb S0 w0 L sz np To R a cur s' w'∧ord<+:a∧(∀y q,s.f y=some q->s'.f y=some q)∧((x=0∧z=0)∨s'.f x=some z):=by
 obtain ⟨o,c,d⟩:=h;obtain ⟨r,g1,j,k,l,n⟩:=c.taken g d b x i;refine (nF o x (c.ok g p d x i)).mono ?_;rintro e w' ⟨rfl,q⟩;exact ⟨_,r,_,rfl,⟨q,g1,j⟩,k,l,n⟩
theorem xl (n:tY L sz np To Li R) (k:yh L sz np To Li R (aY W Pg mp)) (h:zk m Pg W Fs Us Hg mp kb wb S0 w0 L sz np To R ord cur s w) {c y:Nat} (u:ord[c]? =some y) (B:cur=To+gg sz (ord.take c)):
  Calls Tryz.prog 147 #[kb,.int .i64 cur] w fun e w'=>∃(a:List Nat) (s':dg),e= .returned (.int .i64 ((cur+sz y:Nat):Int))∧zk m Pg W Fs Us Hg mp kb wb S0 w0 L sz np To R a (cur+sz y) s' w'∧ord<+:a∧cur+sz y=To+gg sz (a.take (c+1))∧∀x q,s.f x=some q->s'.f x=some q:=by
 obtain ⟨H,d,l⟩:=h;have j:=l y (List.mem_of_getElem? u);have b:=(d.went y cur).2 ⟨c,u,B⟩;obtain ⟨p,t,g,o,v,z⟩:=k.hd y j;obtain ⟨N,g1,E,F,G,A⟩:=d.turned n l u B;have hf:=d.fits b;have J:=n.fit ord d.nd l;have D:=d.top;have r:=k.Hg;have C:=k.low;have I:s.M cur=L y:=d.old y cur 0 b (by omega) (.inr (.inl rfl));rw [z] at g1 A;refine (uy (sz:=sz) H cur p t g (by omega) (by omega) (k.Rm cur (by omega) (by omega)) ⟨by rw [I];exact o.1,o.2⟩ (fun i K=> ?_)).mono ?_
 ·obtain ⟨S,O,P,T,Q⟩:=d.turnN n l b rfl j i (by omega);exact O.ok1 n k P (Q y cur b) rfl K j o v z
 ·rintro e w' ⟨rfl,q⟩;rw [<-v];exact ⟨N,_,rfl,⟨q,g1,E⟩,F,G,A⟩
end
theorem aO.copied {A:AG} {rs:List Nat} {φ L:Nat->Nat} {lo u t:Nat} {sz G:Nat->Nat} {p:List Nat} {s:dg} (h:aO A rs φ L lo u) (k:eG L sz G t p s.top s) (J:1<=t) (m:s.f 0=none) (c:∀x,Reach A.gr rs x->sz (φ x)=A.sz x∧G (φ x)=A.np x) (B:∀x,Reach A.gr rs x->φ x∈p):
  aO A rs (fun x=>(s.f (φ x)).getD 0) s.M t s.top:=by
 have d:∀x,Reach A.gr rs x->s.f (φ x)=some ((s.f (φ x)).getD 0):=by
  intro x b;obtain ⟨j,K⟩:=List.mem_iff_getElem?.1 (B x b);have N:=(k.went (φ x) _).2 ⟨j,K,rfl⟩;rw [N];rfl
 have g:∀x,1<=A.sz x:=fun x=>by unfold AG.sz;omega
 refine ⟨?_,J,fun x b=> ?_,fun x y b D C=> ?_,fun x b=>⟨?_,(h.head x b).2⟩,fun x b i u=> ?_,fun x b i v w=> ?_⟩
 ·show (s.f (φ 0)).getD 0=0
  rw [h.zero,m];rfl
 ·have:=k.fits (d x b);rw [(c x b).1] at this;exact this
 ·have g1:=d x b;have r:=d y D;generalize (s.f (φ x)).getD 0=z at*;generalize (s.f (φ y)).getD 0=a at*;have P:=(c x b).1;have Q:=(c y D).1;have O:=g x;have R:=g y;have o:φ x≠φ y:=fun e=>C (h.inj b D e)
  show z+A.sz x<=a∨a+A.sz y<=z
  rcases Nat.lt_or_ge a (z+A.sz x) with H|H
  ·rcases Nat.lt_or_ge z (a+A.sz y) with I|I
   ·rcases Nat.le_total z a with F|F
    ·exact absurd (k.apart (q:=a) g1 r F (by omega) (Nat.le_refl _) (by omega)).1 o
    ·exact absurd (k.apart (q:=z) g1 r (Nat.le_refl _) (by omega) F (by omega)).1 o
   ·exact .inr I
  ·exact .inl H
 ·have O:=g x;have l:s.M ((s.f (φ x)).getD 0)=L (φ x):=k.old (φ x) _ 0 (d x b) (by rw [(c x b).1];omega) (.inr (.inl rfl));show s.M ((s.f (φ x)).getD 0)=_
  rw [l];exact (h.head x b).1
 ·have E:1+i<A.sz x:=by unfold AG.sz;omega
  have n:=k.fits (d x b);rw [(c x b).1] at n;have l:=k.new (φ x) _ (1+i) (d x b) (by omega) (by omega) (by rw [(c x b).2];omega) (by rw [(c x b).1];exact E);rw [<-dF φ,h.ptr x b i u] at l;show s.M ((s.f (φ x)).getD 0+1+i)=(s.f (φ (A.fld x i))).getD 0
  rw [Nat.add_assoc];rcases l with ⟨g1,r⟩|g1
  ·rw [g1,m,r];rfl
  ·rw [g1];rfl
 ·have E:1+i<A.sz x:=by unfold AG.sz;omega
  have l:=k.old (φ x) _ (1+i) (d x b) (by rw [(c x b).1];exact E) (.inr (.inr (by rw [(c x b).2];omega)));rw [<-dF φ] at l;show s.M ((s.f (φ x)).getD 0+1+i)=_∧_
  rw [Nat.add_assoc,l];exact h.val x b i v w
theorem aO.shut {A:AG} {rs:List Nat} {φ L:Nat->Nat} {lo g o:Nat} {sz n:Nat->Nat} {d:List Nat} {s:dg} (h:aO A rs φ L lo g) (f:eG L sz n o d s.top s) (c:∀x,Reach A.gr rs x->sz (φ x)=A.sz x∧n (φ x)=A.np x) (b:∀x∈rs,x≠0->φ x∈d):∀x,Reach A.gr rs x->φ x∈d:=by
 intro x t
 induction t with
 |root h1 h2=>exact b _ h1 h2
 | @step a p h0 h1 h2 ih=>
  obtain ⟨i,g,rfl⟩:=List.mem_map.1 h1;have k:=List.mem_range.1 g;obtain ⟨j,q⟩:=List.mem_iff_getElem?.1 ih;have l:=(f.went (φ a) _).2 ⟨j,q,rfl⟩;have u:1+i<A.sz a:=by unfold AG.sz;omega
  have e:=f.fits l;rw [(c a h0).1] at e;have m:=f.new (φ a) _ (1+i) l (by omega) (by omega) (by rw [(c a h0).2];omega) (by rw [(c a h0).1];exact u);rw [<-dF φ,h.ptr a h0 i k] at m;have v:=h.pos (.step h0 h1 h2);rcases m with ⟨g1,_⟩|g1
  ·omega
  ·obtain ⟨w,r,_⟩:=(f.went _ _).1 g1;exact List.mem_of_getElem? r
theorem aO.cpr {A:AG} {rs:List Nat} {φ L:Nat->Nat} {lo d g f:Nat} {sz n:Nat->Nat} (h:aO A rs φ L lo d) (c:∀x,Reach A.gr rs x->sz (φ x)=A.sz x∧n (φ x)=A.np x) (m:d<=g∨f<=lo) (e:∀l:List Nat,l.Nodup->(∀a∈l,∃x,Reach A.gr rs x∧φ x=a)->g+gg sz l<=f):
  tY L sz n g f (fun a=>∃x,Reach A.gr rs x∧φ x=a):=by
 refine ⟨?_,?_,?_,e⟩
 ·rintro a ⟨x,b,rfl⟩;have o:=h.pos b;rw [(c x b).1,(c x b).2];exact ⟨by omega,by unfold AG.sz;omega⟩
 ·rintro a ⟨x,b,rfl⟩ k q p;rw [(c x b).1] at p;have o:=h.lies x b;omega
 ·rintro a ⟨x,b,rfl⟩ i d;rw [(c x b).2] at d;rw [h.ptr x b i d];by_cases j:A.fld x i=0
  ·rw [j];exact .inl h.zero
  ·exact .inr ⟨_,AG.ptr_reach b d j,rfl⟩
theorem eG.none (L sz b:Nat->Nat) (a:Nat):eG L sz b a [] a ⟨L,fun _=>Option.none,0,a⟩:=by
 refine ⟨List.nodup_nil,fun x z=> ?_,rfl,rfl,fun _ _=>rfl,fun x z i h=> ?_,fun x z i h=> ?_⟩
 ·constructor
  ·intro h;exact absurd h (by simp)
  ·rintro ⟨j,h,_⟩;exact absurd h (by simp)
 ·exact absurd h (by simp)
 ·exact absurd h (by simp)
theorem rI (sz:Nat->Nat) (N:Nat):∀(l:List Nat) (f:Nat->Bool),l.Nodup->(∀a∈l,a+sz a<=N∧∀k,a<=k->k<a+sz a->f k=true)->(∀a∈l,∀b∈l,a≠b->a+sz a<=b∨b+sz b<=a)->gg sz l<=cnt f 0 N
 |[],_,_,_,_=>Nat.zero_le _
 |x::l,f,hn,h1,h2=>by
  obtain ⟨v,u⟩:=List.nodup_cons.1 hn;obtain ⟨y,q⟩:=h1 x (List.mem_cons_self);have w:=rI sz N l (fun k=>f k&& !(decide (x<=k)&&decide (k<x+sz x))) u (fun a d=>by
   obtain ⟨r,s⟩:=h1 a (List.mem_cons_of_mem _ d);refine ⟨r,fun k o p=> ?_⟩;have I:=h2 a (List.mem_cons_of_mem _ d) x (List.mem_cons_self) (fun e=>v (e▸d));have n:(decide (x<=k)&&decide (k<x+sz x))=false:=by rw [Bool.and_eq_false_iff,decide_eq_false_iff_not,decide_eq_false_iff_not];omega
   show (f k&& !(decide (x<=k)&&decide (k<x+sz x)))=true
   rw [s k o p,n];rfl) (fun a d b t=>h2 a (List.mem_cons_of_mem _ d) b (List.mem_cons_of_mem _ t))
  have z:=ay f (a:=0) (m:=x) (b:=N) (by omega) (by omega);have A:=ay f (a:=x) (m:=x+sz x) (b:=N) (by omega) (by omega);have B:cnt f x (x+sz x)=sz x:=by rw [iF q];omega
  generalize hg:(fun k=>f k&& !(decide (x<=k)&&decide (k<x+sz x)))=g at w;have j:∀k,g k=(f k&& !(decide (x<=k)&&decide (k<x+sz x))):=fun k=>by rw [<-hg]
  have c:∀k,k<x∨x+sz x<=k->g k=f k:=fun k J=>by
   have n:(decide (x<=k)&&decide (k<x+sz x))=false:=by rw [Bool.and_eq_false_iff,decide_eq_false_iff_not,decide_eq_false_iff_not];omega
   rw [j,n];simp
  have C:=ay g (a:=0) (m:=x) (b:=N) (by omega) (by omega);have D:=ay g (a:=x) (m:=x+sz x) (b:=N) (by omega) (by omega);have E:cnt g 0 x=cnt f 0 x:=aK (fun i _ h=>c i (.inl h));have F:cnt g (x+sz x) N=cnt f (x+sz x) N:=aK (fun i h _=>c i (.inr h));have H:cnt g x (x+sz x)=0:=aE (fun k o p=>by rw [j,decide_eq_true o,decide_eq_true p];simp);have G:gg sz (x::l)=sz x+gg sz l:=by simp [gg]
  omega
section
variable {m Pg W Fs Us Hg:Nat} {mp:Nat->Bool} {kb wb g:Nat} {S0:Nat->Prop} {w w1 w0:World} {s:dg}
def yx (m Pg W Fs Us Hg:Nat) (mp:Nat->Bool) (kb wb g:Nat) (S0:Nat->Prop) (w0:World) (s:dg) (w:World):Prop:=
 ∃S,tT m Pg W Fs Us Hg mp kb wb s.M s.f s.n s.top S w∧Fr (fun k=>S0 k∨k=kb∨k=wb∨k=g) w0 w∧∀k,S k->S0 k∨w0.heap.size<=k
theorem yx.step (h:yx m Pg W Fs Us Hg mp kb wb g S0 w0 s w):∃S,gk m Pg W Fs Us Hg mp kb wb S w s w∧(∀k,S k->S0 k∨w0.heap.size<=k)∧∀s' w',gk m Pg W Fs Us Hg mp kb wb S w s' w'->yx m Pg W Fs Us Hg mp kb wb g S0 w0 s' w':=by
 obtain ⟨S,d,c,b⟩:=h;have j:=c.size;refine ⟨S,⟨S,d,Fr.refl _ _,fun _ h=> .inl h⟩,b,?_⟩;rintro s' w' ⟨S',e,f,i⟩;refine ⟨S',e,c.trans f (fun k a=> ?_),fun k a=> ?_⟩
 ·rcases a with h|h|h
  ·exact (b k h).imp .inl id
  ·exact .inl (.inr (.inl h))
  ·exact .inl (.inr (.inr (.inl h)))
 ·rcases i k a with h|h
  ·exact b k h
  ·exact .inr (by omega)
theorem yx.row (h:yx m Pg W Fs Us Hg mp kb wb g S0 w0 s w) (hg:g<w0.heap.size) (d:¬S0 g) (b:kb≠g) (i:wb≠g) (hf:Fr (fun k=>k=g) w w1):yx m Pg W Fs Us Hg mp kb wb g S0 w0 s w1:=by
 obtain ⟨S,a,j,c⟩:=h;refine ⟨S,⟨a.blk.frame hf b,aR _ _ _ _ _ _ _ _ _ _ _ _ a.mem hf (fun k f e=> ?_),a.went.frame hf i,a.d1,a.d2,a.d3⟩,j.trans hf (fun k b=> .inl (.inr (.inr (.inr b)))),c⟩;rcases c k f with h|h
 ·exact d (e▸h)
 ·omega
end
section
variable {m Pg W Fs Us Hg:Nat} {mp:Nat->Bool} {kb wb b g:Nat} {S0:Nat->Prop} {w w0:World} {L sz np:Nat->Nat} {To Li:Nat} {R:Nat->Prop} {ls:List Nat}
def wC (m Pg W Fs Us Hg:Nat) (mp:Nat->Bool) (kb wb g:Nat) (S0:Nat->Prop) (w0:World) (L sz np:Nat->Nat) (To:Nat) (R:Nat->Prop) (ls rs:List Nat) (w:World):Prop:=
 ∃(ord:List Nat) (s:dg),yx m Pg W Fs Us Hg mp kb wb g S0 w0 s w∧eG L sz np To ord To s∧(∀x∈ord,R x)∧rs.length<=ls.length∧∀i a,i<rs.length->ls[i]? =some a->(a=0∧rs[i]? =some 0)∨(∃z,s.f a=some z∧rs[i]? =some z)
theorem wC.more {s s':dg} {rs:List Nat} {a x:Nat} (k:ls[rs.length]? =some a) (n:∀y q,s.f y=some q->s'.f y=some q) (h:∀i a,i<rs.length->ls[i]? =some a->(a=0∧rs[i]? =some 0)∨(∃z,s.f a=some z∧rs[i]? =some z)) (o:(a=0∧x=0)∨s'.f a=some x):
  (rs++[x]).length<=ls.length∧∀i a,i<(rs++[x]).length->ls[i]? =some a->(a=0∧(rs++[x])[i]? =some 0)∨(∃z,s'.f a=some z∧(rs++[x])[i]? =some z):=by
 have r:=(List.getElem?_eq_some_iff.1 k).1;rw [List.length_append,List.length_singleton];refine ⟨by omega,fun i c p j=> ?_⟩;rcases Nat.lt_or_ge i rs.length with e|e
 ·rw [List.getElem?_append_left e];rcases h i c e j with d|⟨z,d,l⟩
  ·exact .inl d
  ·exact .inr ⟨z,n _ _ d,l⟩
 ·have:i=rs.length:=by omega
  subst this;rw [k] at j
  cases j
  rw [List.getElem?_append_right (Nat.le_refl _),Nat.sub_self];rcases o with ⟨d,rfl⟩|d
  ·exact .inl ⟨d,rfl⟩
  ·exact .inr ⟨x,d,rfl⟩
theorem sf (J:tY L sz np To Li R) (I:yh L sz np To Li R (aY W Pg mp)) (H:wC m Pg W Fs Us Hg mp kb wb g S0 w0 L sz np To R ls [] w) (M:aV w b g ls) (u:∀a∈ls,a=0∨R a) (hg:g<w0.heap.size) (Q:b<w0.heap.size) (j:¬S0 g) (l:¬S0 b) (d:kb≠g∧wb≠g∧kb≠b∧wb≠b):
  Calls Tryz.prog 145 #[b,.func (.func 146) #[.pointer (some ⟨kb,0,none⟩)] #[]] w (wX (wC m Pg W Fs Us Hg mp kb wb g S0 w0 L sz np To R ls) b g ls):=by
 refine iV 146 #[kb] #[] (enters_of Tryz.func146 (by kernel_rfl) rfl) _ M H ?_ ?_ ?_
 ·rintro rs w1 w2 ⟨f,s,o,k,p,x,q⟩ hf;exact ⟨f,s,o.row hg j d.1 d.2.1 hf,k,p,x,q⟩
 ·rintro rs w1 ⟨f,s,o,k,p,x,q⟩ r;obtain ⟨g1,t⟩:=wC.more (s:=s) (s':=s) (ls:=ls) r (fun _ _ h=>h) q (.inl ⟨rfl,rfl⟩);exact ⟨f,s,o,k,p,g1,t⟩
 ·rintro rs a w1 v ⟨f,s,o,k,p,x,q⟩ r K;obtain ⟨S,c1,c2,B⟩:=o.step;have A:=k.top;refine (xk J I ⟨c1,k,p⟩ (by omega) a (u a (List.mem_of_getElem? r))).mono ?_;rintro e w2 ⟨z,n,s',rfl,⟨y,C,D⟩,N,E,F⟩;obtain ⟨g1,t⟩:=wC.more (s:=s) (s':=s') (ls:=ls) r E q F;obtain ⟨S',O,G,P⟩:=id y;refine ⟨z,rfl,v.frame G (fun c=> ?_) (fun c=> ?_),n,s',B s' w2 y,C,D,g1,t⟩
  ·rcases c with c|c|c
   ·rcases c2 _ c with i|i
    ·first|exact l i|exact j i
    ·omega
   ·first|exact d.2.2.1 c.symm|exact d.1 c.symm
   ·first|exact d.2.2.2 c.symm|exact d.2.1 c.symm
  ·rcases c with c|c|c
   ·rcases c2 _ c with i|i
    ·first|exact l i|exact j i
    ·omega
   ·first|exact d.2.2.1 c.symm|exact d.1 c.symm
   ·first|exact d.2.2.2 c.symm|exact d.2.1 c.symm
end
theorem lx {w:World} {m Pg W Rm Us Hg:Nat} {S:Nat->Prop} {mp:Nat->Bool} {M:Nat->Nat} (h:bn w m S Pg W Rm Us Hg mp M) (a u:Nat) (j:u<=a) (k:u<=W):Calls Tryz.prog 144 #[m,.int .i64 a,.int .i64 u] w fun e w'=>e= .returned (.int .i64 0)∧Fr (fun _=>False) w w':=by
 obtain ⟨W1,c⟩:∃W1,w.alloc (.cells #[m] 112)=W1:=⟨_,rfl⟩;have b:Fr (fun _=>False) w W1:=by rw [<-c];exact (Fr.refl _ w).alloc _
 have d:aj W1 w.heap.size [.pointer (some ⟨m,0,none⟩)] 112:=by rw [<-c];exact aj.new w _ _
 have f:=ae (bT (h.keep b));obtain ⟨p,g,C,B,A,ws,z,r,q,l,n,c2,o⟩:=(h.keep b).ptrs;have x:=d.cell 0 rfl;have i:=ae b;have s:¬(a:Int)<0:=by omega
 have t:¬(W:Int)<(u:Int):=by omega
 have v:(u:Int)<=(a:Int):=by omega
 have y:¬W<u:=by omega
 clear h b d l n o k
 go_enter Tryz.func144,Tryz.ntmps144
 go_wp2_with fail
 refine (f.out).mono ?_;rintro e w2 ⟨rfl,rfl⟩;clear f;go_wp2;go_ret;exact ⟨rfl,i.out⟩
section
variable {m Pg W Fs Us Hg:Nat} {mp:Nat->Bool} {L:Nat->Nat} {S:Nat->Prop} {w w1:World}
theorem sU (h:bm m Pg W Fs Us Hg mp L S w) (a u:Nat) (s:u<=W) (f:∀q,a/Pg<=q->q<=(u-1)/Pg->a<u->mp q=true):Calls Tryz.prog 144 #[m,.int .i64 a,.int .i64 u] w fun e w'=>e= .returned (.int .i64 0)∧∃S' d,bm m Pg W Fs Us d mp L S' w'∧Fr S w w'∧∀k,S' k->S k∨w.heap.size<=k:=by
 obtain ⟨M,g,o⟩:=h;rcases Nat.lt_or_ge a u with c|c
 ·have p:cnt (bX mp) (a/Pg) ((u-1)/Pg+1)=0:=aE (fun i j t=>by unfold bX;rw [f i j (by omega) c];rfl);refine (ik g a u c s (by rw [p];exact g.at.2.2.2.2.1)).mono ?_;rintro e w' ⟨rfl,S',d,n,v,j,t,y,z,A⟩;have x:n=mp:=by
   funext q;rw [t];by_cases r:a/Pg<=q∧q<=(u-1)/Pg
   ·rw [f q r.1 r.2 c];rfl
   ·have:(decide (a/Pg<=q)&&decide (q<=(u-1)/Pg))=false:=by rw [Bool.and_eq_false_iff,decide_eq_false_iff_not,decide_eq_false_iff_not];omega
    rw [this,Bool.or_false]
  rw [p,Nat.add_zero,x] at j;exact ⟨rfl,S',d,⟨v,j,fun b l=>by rw [y b l.1 l.2];exact o b l⟩,z,A⟩
 ·refine (lx g a u c s).mono ?_;rintro e w' ⟨rfl,hf⟩;exact ⟨rfl,S,Hg,⟨M,g.keep hf,o⟩,hf.mono (fun _ h=>h.elim),fun _ h=> .inl h⟩
def yp (EL:aI) (fl fh c5 c15 b g tb k:Nat):Prop:=EL.has k∨(fl<=k∧k<fh)∨k=c5∨k=c15∨k=b∨k=g∨k=aN∨k=tb
def qL (m Pg W Fs Us Hg:Nat) (mp:Nat->Bool) (L:Nat->Nat) (E np:Nat->Nat) (lo:Nat) (EL:aI) (fl fh p c5 c15 b g tb:Nat) (ls:List Nat) (pre:List (Nat×Nat)) (S:Nat->Prop) (w:World):Prop:=
 (∀k,S k->¬yp EL fl fh c5 c15 b g tb k)∧pre=(aP E W).take pre.length∧kH EL tb W E w∧cJ fl fh w p W 64 E lo∧aj w c5 [.pointer (some ⟨m,0,none⟩)] 112∧aj w c15 [.pointer (some ⟨p,0,none⟩)] 235∧aV w b g ls∧
  ∃Mc,bm m Pg W Fs Us Hg mp Mc S w∧yn L (goes E lo) np (goes E lo) pre Mc
section
variable {E np:Nat->Nat} {lo fl fh p c5 c15 b g tb:Nat} {EL:aI} {ls:List Nat} {pre:List (Nat×Nat)} {T:Nat->Prop}
theorem qL.rest {R:Prop} (h:(∀k,S k->¬yp EL fl fh c5 c15 b g tb k)∧pre=(aP E W).take pre.length∧kH EL tb W E w∧cJ fl fh w p W 64 E lo∧aj w c5 [.pointer (some ⟨m,0,none⟩)] 112∧aj w c15 [.pointer (some ⟨p,0,none⟩)] 235∧aV w b g ls∧R) (hf:Fr T w w1) (c:∀k,T k->¬yp EL fl fh c5 c15 b g tb k):
  kH EL tb W E w1∧cJ fl fh w1 p W 64 E lo∧aj w1 c5 [.pointer (some ⟨m,0,none⟩)] 112∧aj w1 c15 [.pointer (some ⟨p,0,none⟩)] 235∧aV w1 b g ls:=by
 obtain ⟨_,_,⟨j,l,n⟩,o,q,r,s,_⟩:=h;refine ⟨⟨j.frame hf (fun k e a=>c k a (.inl e)),ak l hf (fun a=>c _ a (.inr (.inr (.inr (.inr (.inr (.inr (.inl rfl)))))))),n.frame hf (fun a=>c _ a (.inr (.inr (.inr (.inr (.inr (.inr (.inr rfl))))))))⟩,o.frame hf (fun i d=> ?_),q.frame hf (fun a=>c _ a (.inr (.inr (.inl rfl)))),r.frame hf (fun a=>c _ a (.inr (.inr (.inr (.inl rfl))))),s.frame hf (fun a=>c _ a (.inr (.inr (.inr (.inr (.inl rfl)))))) (fun a=>c _ a (.inr (.inr (.inr (.inr (.inr (.inl rfl)))))))⟩;by_cases f:fl<=i∧i<fh
 ·exact absurd (.inr (.inl f)) (c i d)
 ·omega
theorem qL.stays {B:Nat} (e:∀k,yp EL fl fh c5 c15 b g tb k->k<B):cE B (qL m Pg W Fs Us Hg mp L E np lo EL fl fh p c5 c15 b g tb ls):=by
 rintro pre S W1 x T h hf c;have f:=qL.rest h hf (fun k a j=>by have:=(c k a).1;have:=e k j;omega);obtain ⟨l,n,_,_,_,_,_,d,o,q⟩:=h;obtain ⟨r,s,t,u,v⟩:=f;exact ⟨l,n,r,s,t,u,v,d,aR _ _ _ _ _ _ _ _ _ _ _ _ o hf (fun k a i=>(c k i).2 a),q⟩
theorem qL.move {P:List Nat} {G:Gr} {top s n:Nat} (h:qL m Pg W Fs Us Hg mp L E np lo EL fl fh p c5 c15 b g tb ls pre S w) (O:(aP E W)[pre.length]? =some (s,n)) (hX:∀k,yp EL fl fh c5 c15 b g tb k->k<w.heap.size)
  (hG:cu G P top) (hO:∀a,G.size a≠0->dL L (aY W Pg mp) G a) (M:∀a,G.size a≠0->lo<=a) (am:lo% Pg=0) (aq:1<=Pg) (h1:1<=lo) (h2:lo<=top) (ah:top<=W) (hW:W<=524288) (Y:∀q,mp q=(decide (lo<=q*Pg)&&decide (q*Pg<top)))
  (hL:∀a,G.size a≠0->∀i,i<G.size a->L (a+i)<18446744073709551616) (H:∀a,E a≠0↔Reach G P a) (I:∀a,E a≠0->E a=G.size a∧G.size a≠0) (hU:lo+cnt (ai E) 0 W<=top) (Z:∀a,np a=(G.ptrs a).length):
  Calls Tryz.prog 155 #[m,.pointer (some ⟨p,0,none⟩),.int .i64 s,.int .i64 n] w fun e w'=>e= .returned (.tuple #[])∧uh (qL m Pg W Fs Us Hg mp L E np lo EL fl fh p c5 c15 b g tb ls) (pre++[(s,n)]) S w w':=by
 have hh:=h;obtain ⟨i1,i2,i3,i4,i5,i6,i7,Mc,i8,i9⟩:=h;obtain ⟨m1,u,m3⟩:=bi.1 (List.mem_of_getElem? O);dsimp only at m1 u m3;obtain ⟨e1,V⟩:=I s u;obtain ⟨pp,f,g',o1,o2,o3,o4,o5⟩:=hO s V;have A:=i3.1.apart;have d:=i3.1.top;have l:∀y∈pre,y.1<s∧y.2=E y.1∧E y.1≠0:=fun y t=>by
  rw [i2] at t;have F:=bi.1 (List.mem_of_mem_take t);exact ⟨eP O t,F.2.2,F.2.1⟩
 have B:∀k,s<=k->Mc k=L k:=fun k Q=>i9.still k (fun y t=>by
  obtain ⟨o,D,v⟩:=l y t;have:=A y.1 s o v u;omega)
 have X:=M s V;have K:goes E lo s<=s:=lj (fun a ha=>M a (I a ha).2) X;have ad:np s=pp:=by rw [Z,o3];simp
 have ax:goes E lo s+n<=lo+cnt (ai E) 0 W:=by
  rw [m3,<-js (Nat.le_refl (E s))];exact ez (d s u)
 have av:lo<=goes E lo s:=by unfold goes;omega
 have ap:lo=lo/Pg*Pg:=by have:=Nat.div_add_mod lo Pg;rw [Nat.mul_comm];omega
 have J:=fun z S' w' (r1:bm m Pg W Fs Us Hg mp z S' w') (R:Fr S w w') (U:∀k,S' k->S k∨w.heap.size<=k) (r4:yn L (goes E lo) np (goes E lo) (pre++[(s,n)]) z)=>
  (let N:=qL.rest hh R (fun k Q O=>i1 k Q O)
   (⟨S',⟨fun k Q r=>by
    rcases U k Q with F|F
    ·exact i1 k F r
    ·have:=hX k r;omega,iY i2 O,N.1,N.2.1,N.2.2.1,N.2.2.2.1,N.2.2.2.2,z,r1,r4⟩,R,U⟩:uh (qL m Pg W Fs Us Hg mp L E np lo EL fl fh p c5 c15 b g tb ls) (pre++[(s,n)]) S w w'))
 refine (tj i8 i4 (fun j hj=>by
  by_cases r:fl<=j∧j<fh
  ·exact absurd (.inr (.inl r)) (i1 j hj)
  ·omega) (by omega) s n (goes E lo s) pp f g' (by omega) ⟨by rw [B s (Nat.le_refl _)];exact o1.1,o1.2⟩ (by omega) (by omega) rfl K (by have:=d s u;omega) hW (fun j o D=>⟨o4 j o (by omega),?_⟩) (fun j o D=> ?_) (fun i o D v=> ?_)).mono ?_
 ·rw [B j o];have:=hL s V (j-s) (by omega);rwa [show s+(j-s)=j by omega] at this
 ·refine ⟨by omega,?_⟩;rw [Y,Bool.and_eq_true,decide_eq_true_eq,decide_eq_true_eq];have C:=Nat.div_mul_le_self j Pg;have h7:=Nat.mul_le_mul_right Pg (Nat.div_le_div_right (c:=Pg) (show lo<=j by omega));omega
 ·rw [B (s+i) (by omega)] at v ⊢;have C:L (s+i)∈G.ptrs s:=by
   rw [o3];exact List.mem_map.2 ⟨i-1,List.mem_range.2 (by omega),by congr 1;omega⟩
  have h7:E (L (s+i))≠0:=(H _).2 (.step ((H s).1 u) C v);have h8:=ic (E:=E) (s:=L (s+i)) (i:=0) (by omega);have h9:=d _ h7;exact ⟨by rwa [Nat.add_zero] at h8,by omega⟩
 ·rintro e w' ⟨rfl,S',r1,R,U⟩;refine ⟨rfl,J _ S' w' r1 R U ?_⟩;have C:=i9.step (x:=(s,n)) (fun y t=>by
   obtain ⟨o,D,v⟩:=l y t;have:=A y.1 s o v u;show y.1+y.2<=s
   omega) (fun y t=>by
   obtain ⟨o,D,v⟩:=l y t;have:=A y.1 s o v u;show goes E lo y.1+y.2<=goes E lo s
   rw [D,<-js (Nat.le_refl (E y.1))];exact ez this) K
  dsimp only at C;rw [ad] at C;exact C
end
def mO (m Pg W Fs:Nat) (mp:Nat->Bool) (Mc:Nat->Nat) (U:Nat) (S9:Nat->Prop) (w10:World) (q:Nat) (wr:World):Prop:=
 ∃Us Hg mpq S',bm m Pg W Fs Us Hg mpq Mc S' wr∧(∀r,mpq r=(mp r&& !(decide (r<q)&&decide (U<=r*Pg))))∧Fr S9 w10 wr∧∀k,S' k->S9 k∨w10.heap.size<=k
section
variable {Mc:Nat->Nat} {U q:Nat} {S9:Nat->Prop} {w10 wr:World}
theorem mO.Fh (h:mO m Pg W Fs mp Mc U S9 w10 q wr) (hf:Fr (fun _=>False) wr w1):mO m Pg W Fs mp Mc U S9 w10 q w1:=by
 obtain ⟨Us,Hg,a,S',b,c,d,e⟩:=h;exact ⟨Us,Hg,a,S',b.keep hf,c,d.trans hf (fun _ h=>h.elim),e⟩
theorem mO.pg (h:mO m Pg W Fs mp Mc U S9 w10 q wr):Calls Tryz.prog 148 #[m] wr fun e w'=>e= .returned (.int .i64 Pg)∧wr=w':=by
 obtain ⟨Us,Hg,b,S',⟨M,a,_⟩,_⟩:=h;exact dJ a
theorem mO.skip (h:mO m Pg W Fs mp Mc U S9 w10 q wr) (f:q*Pg<U):mO m Pg W Fs mp Mc U S9 w10 (q+1) wr:=by
 obtain ⟨Us,Hg,a,S',b,c,d⟩:=h;refine ⟨Us,Hg,a,S',b,fun r=> ?_,d⟩;rw [c];by_cases e:r=q
 ·subst e;rw [decide_eq_false (show¬U<=r*Pg by omega),Bool.and_false,Bool.and_false]
 ·congr 3
  rw [decide_eq_decide];omega
theorem mO.drop (h:mO m Pg W Fs mp Mc U S9 w10 q wr) (t:U<=q*Pg) (s:mp q=true) (f:q<W/Pg):Calls Tryz.prog 149 #[m,.int .i64 q] wr fun e w'=>e= .returned (.int .i64 0)∧mO m Pg W Fs mp Mc U S9 w10 (q+1) w':=by
 obtain ⟨Us,Hg,c,S',⟨M,n,o⟩,g,i,j⟩:=h;refine (fW n q f (by rw [g,s,decide_eq_false (Nat.lt_irrefl q)];rfl)).mono ?_;rintro e w' ⟨rfl,S2,high2,M2,u,v,x,y⟩;have z:=i.size;refine ⟨rfl,Us-1,high2,_,S2,⟨M2,u,fun b d=> ?_⟩,fun r=> ?_,i.trans x j,fun k p=> ?_⟩
 ·have a:c (b/Pg)=true:=by have:=d.2;rw [Bool.and_eq_true] at this;exact this.1
  rw [v b d.1 a d.2];exact o b ⟨d.1,a⟩
 ·show (c r&& !(r==q))=_
  rw [g];by_cases e:r=q
  ·subst e;rw [beq_self_eq_true,decide_eq_true (Nat.lt_succ_self r),decide_eq_true t];simp
  ·rw [beq_eq_false_iff_ne.2 e,Bool.not_false,Bool.and_true];congr 3
   rw [decide_eq_decide];omega
 ·rcases y k p with l|l
  ·exact j k l
  ·exact .inr (by omega)
end
def yo (m b g Pg W Fs Us:Nat) (L:Nat->Nat) (S:Nat->Prop) (G:Gr) (ls:List Nat) (lo:Nat) (w:World) (e:Ending) (w':World):Prop:=
 ∃(E L':Nat->Nat) (S':Nat->Prop) (used' Hg':Nat) (mp':Nat->Bool),e= .returned (.tuple #[.int .i64 ((lo+cnt (ai E) 0 W:Nat):Int),.int .i64 0])∧bm m Pg W Fs used' Hg' mp' L' S' w'∧(∀q,mp' q=(decide (lo<=q*Pg)&&decide (q*Pg<lo+cnt (ai E) 0 W)))∧(∀a,E a≠0↔Reach G ls a)∧ca G ls E∧
  (∀a,E a≠0->∀i,i<E a->L' (goes E lo a+i)=gV L (goes E lo) a (G.ptrs a).length i)∧aV w' b g (ls.map (lD (goes E lo) id))∧bv w'∧(∀k,S' k->S k∨w.heap.size<=k)∧Fr (fun k=>S k∨k=g) w w'
attribute [local go_sem] Oper.semAt_some
theorem vK (d:Nat) {b g:Nat} {ls:List Nat} {G:Gr} (h:bm m Pg W Fs Us Hg mp L S w) (y:aV w b g ls) (hT:bv w) (F:¬S aN) (v:¬S b∧¬S g) (lo top Rm:Nat) (hG:cu G ls top) (hO:∀a,G.size a≠0->dL L (aY W Pg mp) G a) (N:∀a,G.size a≠0->lo<=a) (h1:1<=lo) (h2:lo<=top) (j:top<=W) (t:1<=Rm) (h5:Rm<=4096)
  (B:∀q,mp q=(decide (lo<=q*Pg)&&decide (q*Pg<top))) (a7:lo% Pg=0) (av:∀a,G.size a≠0->∀i,i<G.size a->L (a+i)<18446744073709551616) (a0:g≠aN):
  CallsIn Fence.wide d Tryz.prog 74 #[m,.pointer (some ⟨b,0,none⟩),.int .i64 lo,.int .i64 top,.int .i64 Rm] w (yo m b g Pg W Fs Us L S G ls lo w):=by
 refine callsIn_of_wp_marks Tryz.func74 rfl trivial ?_ rfl;simp only [Tryz.ntmps74,List.size_toArray,List.length_cons,List.length_nil,Nat.reduceAdd,Nat.reduceSub,Array.replicate_succ,Array.replicate_zero,List.push_toArray,List.append_toArray,List.nil_append,List.cons_append];obtain ⟨W1,c3⟩:∃W1,w.alloc (.cells #[m] 112)=W1:=⟨_,rfl⟩;have z:Fr (fun _=>False) w W1:=by rw [<-c3];exact (Fr.refl _ w).alloc _
 have e5:aj W1 w.heap.size [.pointer (some ⟨m,0,none⟩)] 112:=by rw [<-c3];exact aj.new w _ _
 have c7:=h.keep z;have P:=y.frame z (fun h=>h) (fun h=>h);have ey:=ak hT z (fun h=>h);have fi:=ae (qp (M:=c7.choose) c7.choose_spec.1 P lo top Rm h1 h2 j t h5);have fB:=ae (mH c7 P ey F lo top Rm hG hO N j t h5);have k0:=e5.cell 0 rfl;gi_wp2;refine bx ((fi.out).mono ?_);rintro e w2 ⟨rfl,rfl⟩;clear fi;gi_wp2;refine bx ((fB.out).mono ?_);rintro e w2 ⟨EL,E,S2,rfl,p1,R,p3,p5,p6,p7,p8,p9⟩;clear fB;have am:=p5.small;have a9:aN<w.heap.size:=aD (hT 0 0 rfl);have bs:W1.heap.size=w.heap.size+1:=by rw [<-c3];exact Array.size_push _
 have O:¬S w.heap.size:=fun hh=>by have:=(aF m Pg W Fs Us Hg mp).lt _ _ _ h _ hh;omega
 have f7:=e5.frame p9 O;have V:=ak ey p9 F;have em:=ae (ri (d-1) (k:=64) p5 V (by decide) (by decide) (by decide) lo (by omega));have fh:=ae f7;rw [show ((64:Nat):Int)=64 from rfl] at em;clear k0;gi_wp2;refine ⟨trivial,(fun h=>by cases h),(em.out).mono ?_⟩;rintro e w3 ⟨p,rfl,q1,q2⟩;have ej:=ae (fh.out.frame q2 (fun h=>h));clear em fh f7;obtain ⟨W4,e0⟩:∃W4,w3.alloc (.cells #[p] 235)=W4:=⟨_,rfl⟩;have gb:Fr (fun _=>False) w3 W4:=by rw [<-e0];exact (Fr.refl _ w3).alloc _
 have f8:aj W4 w3.heap.size [.pointer (some ⟨p,0,none⟩)] 235:=by rw [<-e0];exact aj.new w3 _ _
 have cs:=ae f8;have ap:=ae gb;clear gb f8;have b0:=q2.size;obtain ⟨U,hU⟩:∃U:Nat,U=lo+cnt (ai E) 0 W:=⟨_,rfl⟩;have o:cnt (ai E) 0 W<=1048576:=bA am.2;have bk:W<=524288:=by obtain ⟨M,hh,_⟩:=p1;exact hh.at.2.2.1
 have a8:1<=Pg:=by obtain ⟨M,hh,_⟩:=p1;exact hh.at.1
 have J:∀a,E a≠0->E a=G.size a∧G.size a≠0:=fun a ha=>⟨(p7 a ha).2,by rw [<-(p7 a ha).2];exact ha⟩
 have Y:U<=top:=by
  rw [hU];have e1:goes E lo W=lo+cnt (ai E) 0 W:=rfl;have e2:goes E lo W=goes E lo top:=by
   unfold goes;rw [ay (ai E) (Nat.zero_le top) j,aE (a:=top) (b:=W) (fun i q1 _=>by
    rw [Bool.eq_false_iff];intro hl;obtain ⟨s,s1,s2⟩:=aQ.1 hl;have:=J s (by omega);have:=hG.top s this.2;omega),Nat.add_zero]
  have e3:=lj (E:=E) (Ba:=lo) (a:=top) (fun s hs=>N s (J s hs).2) h2;omega
 have cc:=ae (fun w' (hf:Fr (fun _=>False) W4 w')=>ew (q1.keep (ap.out.trans hf (fun _ h=>h.elim))) (by omega));rw [<-hU] at cc;have fv:=ae (fun w' (hf:Fr (fun _=>False) W4 w')=>sU (p1.keep (((q2.trans ap.out (fun _ h=>h.elim))).trans hf (fun _ h=>h.elim))) lo U (by omega) (fun q a1 a2 a3=>by
  rw [B,Bool.and_eq_true,decide_eq_true_eq,decide_eq_true_eq];have h6:q*Pg<=U-1:=Nat.le_trans (Nat.mul_le_mul_right Pg a2) (Nat.div_mul_le_self _ _);have h7:lo=lo/Pg*Pg:=by have:=Nat.div_add_mod lo Pg;rw [Nat.mul_comm];omega
  have h8:=Nat.mul_le_mul_right Pg a1;omega))
 have HC:=ae (fun w' (hf:Fr (fun _=>False) W4 w')=>af ((ej.out.frame (ap.out.trans hf (fun _ h=>h.elim)) (fun h=>h)).cell 0 rfl) ((cs.out.frame hf (fun h=>h)).cell 0 rfl));have d4:=ae (af p1 (af R (af p3 (af p5 (af p6 (af p7 (af p8 p9)))))));have d5:=ae (af q1 (af q2 (af V (af P (af z (af J (af hU Y)))))));have d6:=ae (af h (af hG (af hO (af N (af B (af a7 (af av a0)))))));have d7:=ae (af F (af v (af O (af a9 (af bs (af b0 (af a8 (af h1 (af h2 j)))))))));have eg:=ae (af am (af bk o));have ei:=ae (af y hT);clear p1 R p3 p5 p6 p7 p8 p9 q1 q2 V P z J hU Y h hG hO N B a7 av a0 F v O a9 bs b0 a8 h1 h2 j am bk o y hT t h5 c7 ey e5 c3;gi_wp2;clear e0;refine wpIn_wide.2 ?_;refine aA (fun w'=>Fr (fun _=>False) W4 w') 4 (by kernel_rfl) (by kernel_rfl) ((Fr.refl _ W4).drew) ?_;simp only [List.take_succ_cons,List.take_zero,List.drop_succ_cons,List.drop_zero];refine ag (.pointer (some ⟨m,0,none⟩)) rfl (fun w' C=>by obtain ⟨k1,k2⟩:=HC.out w' C;go_simp) ?_;simp only [Act.put,aa,ab,ac];refine ag (.int .i64 lo) rfl (fun w' C=>by go_simp) ?_;simp only [Act.put,aa,ab,ac];refine ag (.pointer (some ⟨p,0,none⟩)) rfl (fun w' C=>by obtain ⟨k1,k2⟩:=HC.out w' C;go_simp) ?_;simp only [Act.put,aa,ab,ac];refine az (.int .i64 U) 153 #[p] rfl (fun w'=>by go_simp) (fun w' C=>(cc.out w' C).mono fun e w2 h=>⟨h.1,C.trans h.2 (fun _ h=>h.elim)⟩) ?_;simp only [Act.put,aa,ab,ac];refine wpQuiet_nil ?_;intro w5 Q;have fs:=ae (fv.out w5 Q);have cx:=ae Q;clear fv Q cc;go_wp2_with fail
 refine (fs.out).mono ?_;rintro e w6 ⟨rfl,S6,u,n1,n2,n3⟩;have HA:=ae (dN EL.m w6);have bj:=ae (af n1 (af n2 n3));clear n1 n2 n3 fs;go_wp2;gi_wp2;refine bx ((HA.out).mono ?_);rintro e W7 ⟨rfl,c4⟩;have ad:Fr (fun _=>False) w6 W7:=by rw [c4];exact (Fr.refl _ w6).alloc _
 have g5:aj W7 w6.heap.size [.pointer (some ⟨EL.m,0,none⟩)] 132:=by rw [c4];exact aj.new w6 _ _
 have e7:W7.heap.size=w6.heap.size+1:=by rw [c4];exact Array.size_push _
 clear c4 HA;obtain ⟨np,bo⟩:∃np:Nat->Nat,∀a,np a=(G.ptrs a).length:=⟨_,fun _=>rfl⟩;obtain ⟨p1,R,p3,p5,p6,p7,p8,p9⟩:=d4.out;obtain ⟨q1,q2,V,P,z,J,hU,Y⟩:=d5.out;obtain ⟨h,hG,hO,N,B,a7,av,a0⟩:=d6.out;obtain ⟨F,v,O,a9,bs,b0,a8,h1,h2,j⟩:=d7.out;obtain ⟨am,bk,o⟩:=eg.out;obtain ⟨y,hT⟩:=ei.out;obtain ⟨n1,n2,n3⟩:=bj.out;have dk:=y.blk.lt;have dm:=y.row.lt;have c0:=(aF m Pg W Fs Us Hg mp).lt _ _ _ p1;have c2:=(aF m Pg W Fs Us u mp).lt _ _ _ n1;have d3:=cs.out.lt;have hb:=cx.out.size;have hc:=n2.size;have hd:=p9.size;have cd:=p5.lt;have cf:∀k,yp EL w2.heap.size w3.heap.size w.heap.size w3.heap.size b g w6.heap.size k->k<W7.heap.size:=by
  rintro k (h|h|h|h|h|h|h|h)
  ·have:=cd k h;omega
  all_goals omega
 have f9:∀k,S6 k->¬yp EL w2.heap.size w3.heap.size w.heap.size w3.heap.size b g w6.heap.size k:=by
  intro k hk hx;have h3:=c2 k hk;rcases n3 k hk with a6|a6
  ·have hZ:=c0 k a6;rcases hx with h|h|h|h|h|h|h|h
   ·exact p3 k a6 h
   ·omega
   ·rcases R k a6 with t|t
    ·exact O (h▸t)
    ·omega
   ·omega
   ·rcases R k a6 with t|t
    ·exact v.1 (h▸t)
    ·omega
   ·rcases R k a6 with t|t
    ·exact v.2 (h▸t)
    ·omega
   ·rcases R k a6 with t|t
    ·exact F (h▸t)
    ·omega
   ·omega
  ·rcases hx with h|h|h|h|h|h|h|h
   ·have:=cd k h;omega
   all_goals omega
 have bd:Fr S2 W4 w6:=(cx.out.mono (fun _ h=>h.elim)).trans n2 (fun k h=> .inl h);have Z:Fr S2 w2 W7:=(((q2.trans ap.out (fun _ h=>h.elim)).mono (fun _ h=>h.elim)).trans bd (fun k h=> .inl h)).trans ad (fun _ h=>h.elim);have bb:Fr S2 w3 W7:=((ap.out.mono (fun _ h=>h.elim)).trans bd (fun k h=> .inl h)).trans ad (fun _ h=>h.elim);have ck:Fr S2 W4 W7:=bd.trans ad (fun _ h=>h.elim);have hJ:∀k,w.heap.size<=k->k≠w.heap.size->S2 k->W1.heap.size<=k:=fun k h _ _=>by omega
 have I:¬S2 b∧¬S2 g∧¬S2 aN∧¬S2 w.heap.size:=by
  refine ⟨fun h=> ?_,fun h=> ?_,fun h=> ?_,fun h=> ?_⟩
  ·rcases R _ h with t|t
   ·exact v.1 t
   ·omega
  ·rcases R _ h with t|t
   ·exact v.2 t
   ·omega
  ·rcases R _ h with t|t
   ·exact F t
   ·omega
  ·rcases R _ h with t|t
   ·exact O t
   ·omega
 have ex:qL m Pg W Fs Us u mp L E np lo EL w2.heap.size w3.heap.size p w.heap.size w3.heap.size b g w6.heap.size ls [] S6 W7:=
  ⟨f9,rfl,⟨p5.frame Z (fun k hk hs=>p3 k hs hk),ak V Z I.2.2.1,g5⟩,q1.frame bb (fun i hi=> .inl (c0 i hi)),ej.out.frame bb I.2.2.2,cs.out.frame ck (fun hs=>by have:=c0 _ hs;omega),(P.frame p9 v.1 v.2).frame Z I.1 I.2.1,L,n1.keep ad,yn.none _ _ _ _⟩
 have hn:=ae hU;rw [hU] at Y;have eq:=ae (fun (dx:List (Nat×Nat)) S9 s n w9 (hj:qL m Pg W Fs Us u mp L E np lo EL w2.heap.size w3.heap.size p w.heap.size w3.heap.size b g w6.heap.size ls dx S9 w9) (hx:(aP E W)[dx.length]? =some (s,n)) (hz:W7.heap.size<=w9.heap.size)=>
  qL.move hj hx (fun k hk=>by have:=cf k hk;omega) hG hO N a7 a8 h1 h2 j bk B av p6 J Y bo)
 have f5:=ae (af Z (af bb (af ck (af cf (af bo (af I (af dk (af dm (af e7 (af hb (af hc (af hd d3))))))))))));have d2:=am.2;clear p1 R p3 p5 p6 p7 p8 p9 q1 q2 V P z J hU Y h hG hO N B a7 av a0 F v O a9 bs b0 a8 h1 h2 j am bk o y hT n1 n2 n3 dk dm c0 d3 hb hc hd cd f9 bd Z bb ck hJ I ad g5 bo;gi_wp2;refine dv (gf:=220) (lb:= #[w6.heap.size]) rfl (enters_of Tryz.func220 (by kernel_rfl) rfl) (encs:=gm) (fun _=>rfl) (dM (L:=EL) (tb:=w6.heap.size) (E:=E) d2) (qL m Pg W Fs Us u mp L E np lo EL w2.heap.size w3.heap.size p w.heap.size w3.heap.size b g w6.heap.size ls) S6 (qL.stays cf) (fun _ _ _ h=>h.2.2.1) (fun k hk=>by have:=c2 k hk;omega) ex
  ?a1 ?assign ?body ?done
 case assign=>
  intro k x W K hK;unfold gm;gi_wp2;exact hK
 case body=>
  intro l dx S9 x W9 hI o hf hs;obtain ⟨s,n⟩:=x;have HM:=ae (eq.out dx S9 s n W9 hI o hf.size);have c5:=hI.2.2.2.2.1.cell 0 rfl;have hv:=hI.2.2.2.2.2.1.cell 0 rfl;clear hf hs hI o ex eq cf c2 e7;gi_wp2;refine ny ((HM.out).mono ?_);rintro e c ⟨rfl,y⟩;have HR:=ae y;clear y HM c5 hv;gi_wp2;exact HR.out
 case done=>
  intro D S9 W9 hI hD c8 c9 hf hs;clear eq ex;obtain ⟨p1,R,p3,p5,p6,p7,p8,p9⟩:=d4.out;obtain ⟨q1,q2,V,P,z,J,hU,Y⟩:=d5.out;obtain ⟨h,hG,hO,N,B,a7,av,a0⟩:=d6.out;obtain ⟨F,v,O,a9,bs,b0,a8,h1,h2,j⟩:=d7.out;obtain ⟨am,bk,o⟩:=eg.out;obtain ⟨g1,g2,g3,g4,bo,g6,dk,dm,_,g7,g8,g9,hy⟩:=f5.out;obtain ⟨y,hT⟩:=ei.out;have hH:∀(fn:Fn) (first cap:Array Value) (w:World),(Instr.makeFunc fn first cap).run Tryz.prog w= .ok (.func fn first cap) w:=fun _ _ _ _=>rfl
  have hN:=hf.size;obtain ⟨i1,i2,⟨i3,he,hP⟩,i4,i5,i6,i7,Mc,i8,i9⟩:=hI;have cp:∀k,k=g->k<w2.heap.size∨w3.heap.size<=k:=fun k hk=>by omega
  have ax:∀rs:List Nat,rs.length=ls.length->rs=(ls.take rs.length).map (lD (goes E lo) id)->rs=ls.map (lD (goes E lo) id):=fun rs e1 e2=>by
   rw [e2,e1,List.take_length]
  have f0:=ae (iV 156 #[] #[w3.heap.size] (enters_of Tryz.func156 (by kernel_rfl) rfl) (fun rs w'=>rs=(ls.take rs.length).map (lD (goes E lo) id)∧Fr (fun k=>k=g) W9 w') i7 ⟨rfl,Fr.refl _ _⟩
   (fun rs wa wb ⟨j1,j2⟩ hF=>⟨j1,j2.trans hF (fun _ h=> .inl h)⟩)
   (fun rs wa ⟨j1,j2⟩ hz=>⟨by
    have c8:=(List.getElem?_eq_some_iff.1 hz).1;rw [List.length_append,List.length_singleton,List.take_add_one,hz];rw [List.map_append,<-j1];rfl,j2⟩)
   (fun rs a wa dr ⟨j1,j2⟩ ha h0=>by
    have gs:=List.mem_of_getElem? ha;have hA:E a≠0:=(p6 a).2 (.root gs h0);have gr:=ic (E:=E) (s:=a) (i:=0) (by omega);rw [Nat.add_zero] at gr;have hM:=p5.top a hA;refine (xS (i4.frame j2 cp) (by omega) w3.heap.size a (i6.frame j2 (fun e=>by omega)) gr (by omega)).mono ?_;rintro e wb ⟨rfl,ge⟩;refine ⟨goes E lo a,rfl,dr.frame ge (fun h=>h) (fun h=>h),?_,j2.trans ge (fun _ h=>h.elim)⟩;rw [List.length_append,List.length_singleton,List.take_add_one,ha,List.map_append,<-j1];show _=rs++[lD (goes E lo) id a]
    unfold lD;rw [if_neg h0];rfl))
  have ah:∀k,yp EL w2.heap.size w3.heap.size w.heap.size w3.heap.size b g w6.heap.size k->¬S9 k:=fun k hx hk=>i1 k hk hx
  have hC:=(aF m Pg W Fs Us u mp).lt _ _ _ i8;have HB:=ae (fun (c:World) (q:Nat) (wr:World) (f:Fr (fun k=>k=g) W9 c) (hu:mO m Pg W Fs mp Mc U S9 c q wr)=>
   (let cn:Fr S9 c wr:=hu.choose_spec.choose_spec.choose_spec.choose_spec.2.2.1
    af (((i5.frame f (fun e=>by omega)).frame cn (ah _ (.inr (.inr (.inl rfl))))).cell 0 rfl) (af (((i6.frame f (fun e=>by omega)).frame cn (ah _ (.inr (.inr (.inr (.inl rfl)))))).cell 0 rfl)
    (ew (((i4.frame f cp)).frame cn (fun i hi=>by
     by_cases hx:w2.heap.size<=i∧i<w3.heap.size
     ·exact absurd hi (ah i (.inr (.inl hx)))
     ·omega)) (by omega)))))
  rw [<-hU] at HB;have es:Hid (∀c,Fr (fun k=>k=g) W9 c->mO m Pg W Fs mp Mc U S9 c (lo/Pg) c):=by
   show∀c,_
   intro c f;refine ⟨Us,u,mp,S9,aR _ _ _ _ _ _ _ _ _ _ _ _ i8 f (fun k hk e=>ah g (.inr (.inr (.inr (.inr (.inr (.inl rfl)))))) (e▸hk)),fun r=> ?_,Fr.refl _ _,fun _ h=> .inl h⟩;by_cases e:r<lo/Pg
   ·have h6:mp r=false:=by
     rw [B,Bool.and_eq_false_iff,decide_eq_false_iff_not];left;have:=(Nat.lt_div_iff_mul_lt (show 0<Pg by omega)).1 e;have h7:r*Pg<lo:=by
      have h8:lo=lo/Pg*Pg:=by have:=Nat.div_add_mod lo Pg;rw [Nat.mul_comm];omega
      rw [h8];exact Nat.mul_lt_mul_of_pos_right e (by omega)
     omega
    rw [h6];rfl
   ·rw [decide_eq_false e];simp
  have b9:=ae (fun q (a1:lo/Pg<=q) (a2:q*Pg<top)=>(show mp q=true∧q<W/Pg from by
   have h8:lo=lo/Pg*Pg:=by have:=Nat.div_add_mod lo Pg;rw [Nat.mul_comm];omega
   have h9:=Nat.mul_le_mul_right Pg a1;refine ⟨by rw [B,decide_eq_true (show lo<=q*Pg by omega),decide_eq_true a2];rfl,?_⟩;obtain ⟨M8,hh,_⟩:=i8;have hY:=hh.at.2.2.2.1;exact (Nat.lt_div_iff_mul_lt' ⟨W/Pg,by have:=Nat.div_add_mod W Pg;omega⟩ q).2 (by rw [Nat.mul_comm];omega)))
  have fj:=ae (fun (c:World) (q:Nat) (wr:World) (f:Fr (fun k=>k=g) W9 c) (hu:mO m Pg W Fs mp Mc U S9 c q wr)=>
   (let cn:Fr S9 c wr:=hu.choose_spec.choose_spec.choose_spec.choose_spec.2.2.1
    (cn.heap (f.heap hD (fun e=>by omega)) c9:wr.heap[D]? =some (Obj.deferred (some [])))))
  have hg:=ae ax;have b7:Hid (∀(c H:World) rs q,rs.length=ls.length->aV c b g rs->rs=(ls.take rs.length).map (lD (goes E lo) id)->Fr (fun k=>k=g) W9 c->lo/Pg<=q->top<=q*Pg->mO m Pg W Fs mp Mc U S9 c q H->yo m b g Pg W Fs Us L S G ls lo w (.returned (.tuple #[.int .i64 U,.int .i64 0])) (H.putObj D (.deferred none))):=by
   show∀(c H:World) rs q,_
   intro c H rs q a1 a2 a3 a4 aq a5 ⟨fa,ht,hQ,S',u1,u2,u3,u4⟩;have hV:D<H.heap.size:=(Array.getElem?_eq_some_iff.1 (u3.heap (a4.heap hD (fun e=>by omega)) c9)).1;have hB:¬S' D:=fun hh=>by
    rcases u4 D hh with h6|h6
    ·exact c9 h6
    ·have:=(Array.getElem?_eq_some_iff.1 (a4.heap hD (fun e=>by omega))).1;omega
   have c6:Fr (fun k=>k=D) H (H.putObj D (.deferred none)):=(Fr.refl _ H).putObj _ _ (.inl rfl);have hR:=a4.size;refine ⟨E,Mc,S',fa,ht,hQ,by rw [hU],aR _ _ _ _ _ _ _ _ _ _ _ _ u1 c6 (fun k hk e=>hB (e▸hk)),fun r=> ?_,p6,p7,fun a ha i hi=> ?_,?_,?_,fun k hk=> ?_,?_⟩
   ·rw [u2,B,<-hU];by_cases e:r<q
    ·rw [decide_eq_true e,Bool.true_and];by_cases e2:U<=r*Pg
     ·rw [decide_eq_true e2,decide_eq_false (show¬r*Pg<U by omega)];simp
     ·rw [decide_eq_false e2,decide_eq_true (show r*Pg<U by omega),decide_eq_true (show r*Pg<top by omega)];simp
    ·have h6:=Nat.mul_le_mul_right Pg (show q<=r by omega);rw [decide_eq_false e,decide_eq_false (show¬r*Pg<top by omega),decide_eq_false (show¬r*Pg<U by omega)];simp
   ·have h6:=i9.went (a,E a) (by
     have h7:(a,E a)∈aP E W:=bi.2 ⟨by have:=p5.top a ha;omega,ha,rfl⟩;exact h7) i hi
    dsimp only at h6;rw [bo] at h6;exact h6
   ·rw [<-ax rs a1 a3];exact (a2.frame u3 (ah _ (.inr (.inr (.inr (.inr (.inl rfl)))))) (ah _ (.inr (.inr (.inr (.inr (.inr (.inl rfl)))))))).frame c6 (fun e=>by omega) (fun e=>by omega)
   ·exact ak (ak (ak he a4 (fun e=>a0 e.symm)) u3 (ah _ (.inr (.inr (.inr (.inr (.inr (.inr (.inl rfl))))))))) c6 (fun e=>by unfold aN at a9;omega)
   ·rcases u4 k hk with h6|h6
    ·rcases hs k h6 with h7|h7
     ·rcases (bj.out.2.2) k h7 with h8|h8
      ·rcases R k h8 with h9|h9
       ·exact .inl h9
       ·exact .inr (by omega)
      ·exact .inr (by omega)
     ·exact .inr (by omega)
    ·exact .inr (by omega)
   ·have f1:Fr S w w6:=(((z.mono (fun _ h=>h.elim)).trans p9 (fun k h=> .inl h)).trans q2 (fun _ h=>h.elim)).trans ((ap.out.mono (S':=S2) (fun _ h=>h.elim)).trans ((cx.out.mono (S':=S2) (fun _ h=>h.elim)).trans bj.out.2.1 (fun k h=> .inl h)) (fun k h=> .inl h)) (fun k h=>by
     rcases R k h with h9|h9
     ·exact .inl h9
     ·exact .inr (by omega))
    have f2:Fr S w W7:=by
     have:Fr S2 w2 W7:=g1;exact (((z.mono (S':=S) (fun _ h=>h.elim)).trans p9 (fun k h=> .inl h))).trans this (fun k h=>by
      rcases R k h with h9|h9
      ·exact .inl h9
      ·exact .inr (by omega))
    have f3:Fr S w W9:=f2.trans hf (fun k h=>by
     rcases bj.out.2.2 k h with h8|h8
     ·rcases R k h8 with h9|h9
      ·exact .inl h9
      ·exact .inr (by omega)
     ·exact .inr (by omega))
    refine (((f3.mono (S':=fun k=>S k∨k=g) (fun k h=> .inl (.inl h))).trans a4 (fun k h=> .inl (.inr h))).trans u3 (fun k h=> ?_)).trans c6 (fun k h=> .inr (by omega));rcases hs k h with h7|h7
    ·rcases bj.out.2.2 k h7 with h8|h8
     ·rcases R k h8 with h9|h9
      ·exact .inl (.inl h9)
      ·exact .inr (by omega)
     ·exact .inr (by omega)
    ·exact .inr (by omega)
  have b1:(lo:Int)<=524288:=by omega
  have b2:(Pg:Int)<=524288:=by have:=i8.choose_spec.1.at.2.1;omega
  have b3:(top:Int)<=524288:=by omega
  have b4:Pg<=256:=i8.choose_spec.1.at.2.1;have j3:top<=524288:=by omega
  have d1:lo/Pg<=W:=Nat.le_trans (Nat.div_le_self _ _) (by omega);have hE:(lo:Int).tdiv (Pg:Int)=((lo/Pg:Nat):Int):=bV _ _;have ih:¬Pg=0:=by omega
  have hW:W/Pg<=W:=Nat.div_le_self _ _;generalize lo/Pg=A at es b9 b7 d1 hE;clear p1 R p3 p5 p6 p7 p8 p9 q1 q2 V P z J hU Y h hG hO N B a7 av a0 F v O a9 bs b0 a8 h1 h2 j am o g1 g2 g3 g4 bo g6 dk dm g7 g8 g9 hy y hT i1 i2 i3 he hP i4 i5 i6 i7 i8 i9 cp ax ah hC c2 cf hD c8 c9 hf hs e7 hN d2 d4 d5 d6 d7 eg ei bj f5 ej cs ap cx HC hn;gi_wp2;refine bx ((f0.out).mono ?_);rintro e c ⟨rfl,rs,gM,dr,g0,f⟩;have ds:=es.out c f;have fw:=ae ds.pg;obtain ⟨k1,k2,_⟩:=HB.out c _ c f ds;have b5:=ae (fun q wr hu=>HB.out c q wr f hu);have fr:=ae (fun H q aq a5 hu=>b7.out c H rs q gM dr g0 f aq a5 hu);have fk:=ae (fun q wr hu=>fj.out c q wr f hu);have f4:=ae ds;clear ds gM dr g0 f HB b7 fj es f0 hg hH;gi_wp2;refine bx ((fw.out).mono ?_);rintro e w' ⟨rfl,rfl⟩;clear fw k1 k2;gi_wp2
  gi_loopw [20] (fun x wr=>∃q:Nat,x= .int .i64 q∧A<=q∧q<=W∧Hid (mO m Pg W Fs mp Mc U S9 c q wr)) (fun x _=>(W+1-intOf x).toNat)
  case atStart=>exact ⟨A,by go_num,Nat.le_refl _,d1,f4⟩
  case round=>
   clear f4;obtain ⟨q,rfl,gt,hL,y⟩:=hrel;obtain ⟨k1,k2,hT⟩:=b5.out q wr y.out;have fA:=ae y.out.pg;have hX:q*Pg<=134217728:=Nat.le_trans (Nat.mul_le_mul hL b4) (by omega);have f6:(q:Int)*(Pg:Int)=((q*Pg:Nat):Int):=by push_cast;rfl
   have C:IntKind.i64.wrap ((q:Int)*(Pg:Int))=((q*Pg:Nat):Int):=by rw [f6,IntKind.wrap_i64];omega
   have b6:=ae (fun (w1:World) (hf:Fr (fun _=>False) wr w1) h hm hq=>mO.drop (q:=q) (y.out.Fh hf) h hm hq);have cy:=ae (fun h=>b9.out q gt h);have ct:=ae (fun h (w7:World) (hf:Fr (fun _=>False) wr w7)=>af (fr.out w7 q gt h (y.out.Fh hf)) (fk.out q w7 (y.out.Fh hf)));have cb:=ae (fun h (w7:World) (hf:Fr (fun _=>False) wr w7)=>(mO.skip (q:=q) y.out h).Fh hf);have HT:=ae hT;have T:=ae (fun (w1:World) (hf:Fr (fun _=>False) wr w1)=>af (af (b5.out q w1 (y.out.Fh hf)).1 (b5.out q w1 (y.out.Fh hf)).2.1) (af (b5.out q w1 (y.out.Fh hf)).2.2 (y.out.Fh hf).pg));have i0:(q:Int)<=524288:=by omega
   obtain ⟨X,e4⟩:∃X,X=q*Pg:=⟨_,rfl⟩;have hS:=ae e4;rw [<-e4] at C cb b6 cy ct hX;clear y hT f6 e4 b5 fr fk b9;gi_wp2;refine bx ((fA.out).mono ?_);rintro e w' ⟨rfl,rfl⟩;clear fA;by_cases c8:X<top
   ·have c1:(X:Int)<(top:Int):=by omega
    obtain ⟨e8,e9⟩:=cy.out c8;have j0:q<W:=by omega
    clear ct cy;gi_wp2;refine wpIn_wide.2 ?_;refine au (fun w'=>Fr (fun _=>False) wr w') (by kernel_rfl) (by kernel_rfl) ((Fr.refl _ wr).drew) ?_;refine ag (.int .i64 q) rfl (fun w' C=>by go_simp) ?_;simp only [Act.put,aa,ab,ac];refine ag (.pointer (some ⟨m,0,none⟩)) rfl (fun w' C=>by obtain ⟨⟨k1,k2⟩,k3⟩:=T.out w' C;go_simp) ?_;simp only [Act.put,aa,ab,ac];refine az (.int .i64 Pg) 148 #[.pointer (some ⟨m,0,none⟩)] rfl (fun w'=>by go_simp) (fun w' C=>((T.out w' C).2.2).mono fun e w2 h=>⟨h.1,h.2▸C⟩) ?_;simp only [Act.put,aa,ab,ac];refine ag (.int .i64 X) rfl (fun w' C=>by go_simp) ?_;simp only [Act.put,aa,ab,ac];refine ag (.pointer (some ⟨p,0,none⟩)) rfl (fun w' C=>by obtain ⟨⟨k1,k2⟩,k3⟩:=T.out w' C;go_simp) ?_;simp only [Act.put,aa,ab,ac];refine az (.int .i64 U) 153 #[.pointer (some ⟨p,0,none⟩)] rfl (fun w'=>by go_simp) (fun w' C=>((T.out w' C).2.1).mono fun e w2 h=>⟨h.1,C.trans h.2 (fun _ h=>h.elim)⟩) ?_;simp only [Act.put,aa,ab,ac];refine ag (.bool (decide (U<=X))) rfl (fun w' C=>by go_simp) ?_;simp only [Act.put,aa,ab,ac];refine wpQuiet_nil ?_;intro w5 Q;obtain ⟨⟨k1,k2⟩,_⟩:=T.out w5 Q;by_cases e6:U<=X
    ·have fl:=ae (b6.out w5 Q e6 e8 e9);rw [decide_eq_true e6];clear T cb Q HT b6 e8 e9;gi_wp2;refine bx ((fl.out).mono ?_);rintro e w6 ⟨rfl,hu⟩;have ev:=ae hu;clear hu fl k1 k2;gi_wp2;go_roundw
     case rel=>exact ⟨q+1,by go_num,by omega,by omega,ev⟩
     case measure=>simp [intOf];omega
    ·rw [decide_eq_false e6];have ev:=ae (cb.out (by omega) w5 Q);clear T cb Q HT b6 e8 e9;gi_wp2;go_roundw
     case rel=>exact ⟨q+1,by go_num,by omega,by omega,ev⟩
     case measure=>simp [intOf];omega
   ·have c1:¬(X:Int)<(top:Int):=by omega
    have d0:=ae (ct.out (by omega));clear T cb b6 cy ct;gi_wp2;refine bx ((HT.out).mono ?_);rintro e w7 ⟨rfl,ad⟩;obtain ⟨z1,z2⟩:=d0.out w7 ad;have ho:=ae z1;have hp:=ae z2;clear z1 z2 ad d0 HT k1 k2;gi_wp2;refine ⟨by simp,.inl ⟨_,_,rfl,run_takeDeferred hp.out,?_⟩⟩;refine ⟨_,results_tmp2 rfl _ _ _,?_⟩;exact ho.out
end
end Go.Proofs.YthahbijbpinneaaGreatDoor
