import Derived.Test.YthahbijbpinneaaGreatDoorA0
import Derived.Test.YthahbijbpinneaaGreatDoorA13
import Derived.Test.YthahbijbpinneaaGreatDoorA14
import Derived.Test.YthahbijbpinneaaGreatDoorA15
set_option maxRecDepth 100000
set_option maxHeartbeats 8000000
set_option linter.all false
namespace Go.Proofs.YthahbijbpinneaaGreatDoor
open Go.RowKit
section
variable {m Pg W Fs Us Hg:Nat} {mp:Nat->Bool} {L:Nat->Nat} {S:Nat->Prop} {w w1:World}
theorem sT (h:bm m Pg W Fs Us Hg mp L S w) (a u:Nat) (p:u<=W) (r:Us+cnt (bX mp) (a/Pg) ((u-1)/Pg+1)<=Fs):
  Calls Tryz.prog 144 #[m,.int .i64 a,.int .i64 u] w fun e w'=>e= .returned (.int .i64 0)∧∃S' f d c L',bm m Pg W Fs f d c L' S' w'∧(∀q,c q=(mp q||(decide (a<u)&&decide (a/Pg<=q)&&decide (q<=(u-1)/Pg))))∧(∀b,aY W Pg mp b->L' b=L b)∧Fr S w w'∧∀k,S' k->S k∨w.heap.size<=k:=by
 obtain ⟨M,i,o⟩:=h;rcases Nat.lt_or_ge a u with g|l
 ·refine (ik i a u g p r).mono ?_;rintro e w' ⟨rfl,S',d,c,n,s,t,v,x,y⟩;refine ⟨rfl,S',_,d,c,n,⟨n,s,fun _ _=>rfl⟩,fun q=> ?_,fun b j=> ?_,x,y⟩
  ·rw [t,decide_eq_true g,Bool.true_and]
  ·rw [v b j.1 j.2];exact o b j
 ·refine (lx i a u l p).mono ?_;rintro e w' ⟨rfl,hf⟩;refine ⟨rfl,S,Us,Hg,mp,L,⟨M,i.keep hf,o⟩,fun q=> ?_,fun _ _=>rfl,hf.mono (fun _ h=>h.elim),fun _ h=> .inl h⟩;rw [decide_eq_false (show¬a<u by omega)];simp
end
def mQ (m Pg W Fs:Nat) (mp:Nat->Bool) (Mc:Nat->Nat) (q0:Nat) (S9:Nat->Prop) (w10:World) (q:Nat) (wr:World):Prop:=
 ∃Us Hg mpq S',bm m Pg W Fs Us Hg mpq Mc S' wr∧(∀r,mpq r=(mp r&& !(decide (q0<=r)&&decide (r<q))))∧Fr S9 w10 wr∧∀k,S' k->S9 k∨w10.heap.size<=k
section
variable {m Pg W Fs Us Hg:Nat} {mp:Nat->Bool} {Mc:Nat->Nat} {q0 q:Nat} {S9:Nat->Prop} {w10 wr w1:World}
theorem mQ.start (h:bm m Pg W Fs Us Hg mp Mc S9 w10):mQ m Pg W Fs mp Mc q0 S9 w10 q0 w10:=by
 refine ⟨Us,Hg,mp,S9,h,fun r=> ?_,Fr.refl _ _,fun _ h=> .inl h⟩;have:(decide (q0<=r)&&decide (r<q0))=false:=by rw [Bool.and_eq_false_iff,decide_eq_false_iff_not,decide_eq_false_iff_not];omega
 rw [this];simp
theorem mQ.Fh (h:mQ m Pg W Fs mp Mc q0 S9 w10 q wr) (hf:Fr (fun _=>False) wr w1):mQ m Pg W Fs mp Mc q0 S9 w10 q w1:=by
 obtain ⟨Us,Hg,a,S',b,c,d,e⟩:=h;exact ⟨Us,Hg,a,S',b.keep hf,c,d.trans hf (fun _ h=>h.elim),e⟩
theorem mQ.pg (h:mQ m Pg W Fs mp Mc q0 S9 w10 q wr):Calls Tryz.prog 148 #[m] wr fun e w'=>e= .returned (.int .i64 Pg)∧wr=w':=by
 obtain ⟨Us,Hg,b,S',⟨M,a,_⟩,_⟩:=h;exact dJ a
theorem mQ.drop (h:mQ m Pg W Fs mp Mc q0 S9 w10 q wr) (t:mp q=true) (g:q<W/Pg) (f:q0<=q):Calls Tryz.prog 149 #[m,.int .i64 q] wr fun e w'=>e= .returned (.int .i64 0)∧mQ m Pg W Fs mp Mc q0 S9 w10 (q+1) w':=by
 obtain ⟨Us,Hg,c,S',⟨M,o,p⟩,i,j,l⟩:=h;refine (fW o q g (by rw [i,t,decide_eq_false (Nat.lt_irrefl q)];simp)).mono ?_;rintro e w' ⟨rfl,S2,high2,M2,u,v,w,x⟩;have y:=j.size;refine ⟨rfl,Us-1,high2,_,S2,⟨M2,u,fun b d=> ?_⟩,fun r=> ?_,j.trans w l,fun k s=> ?_⟩
 ·have a:c (b/Pg)=true:=by have:=d.2;rw [Bool.and_eq_true] at this;exact this.1
  rw [v b d.1 a d.2];exact p b ⟨d.1,a⟩
 ·show (c r&& !(r==q))=_
  rw [i];by_cases e:r=q
  ·subst e;rw [beq_self_eq_true,decide_eq_true (Nat.lt_succ_self r),decide_eq_true f];simp
  ·rw [beq_eq_false_iff_ne.2 e,Bool.not_false,Bool.and_true];congr 3
   rw [decide_eq_decide];omega
 ·rcases x k s with n|n
  ·exact l k n
  ·exact .inr (by omega)
end
theorem pn {Pg F Tp T b n q:Nat} (hp:1<=Pg) (l:F% Pg=0) (m:T% Pg=0) (g:Pg<=T) (o:T+n<=b) (i:b<=F∨(Tp+Pg-1)/Pg*Pg<=T) (p:Tp<=q*Pg) (j:q*Pg<Tp+Pg) (r:Nat):
  (((decide (F<=r*Pg)&&decide (r*Pg<Tp))||(decide (T<T+n)&&decide (T/Pg<=r)&&decide (r<=(T+n-1)/Pg)))&& !(decide (F/Pg<=r)&&decide (r<q)))=(decide (T<=r*Pg)&&decide (r*Pg<T+n)):=by
 have c:F/Pg<=r↔F<=r*Pg:=by
  have a:F=F/Pg*Pg:=by have:=Nat.div_add_mod F Pg;rw [Nat.mul_comm];omega
  constructor
  ·intro h;rw [a];exact Nat.mul_le_mul_right Pg h
  ·intro h;rw [a] at h;exact Nat.le_of_mul_le_mul_right h hp
 have d:T/Pg<=r↔T<=r*Pg:=by
  have a:T=T/Pg*Pg:=by have:=Nat.div_add_mod T Pg;rw [Nat.mul_comm];omega
  constructor
  ·intro h;rw [a];exact Nat.mul_le_mul_right Pg h
  ·intro h;rw [a] at h;exact Nat.le_of_mul_le_mul_right h hp
 have e:r<=(T+n-1)/Pg↔r*Pg<=T+n-1:=Nat.le_div_iff_mul_le hp;have f:r<q↔r*Pg<q*Pg:=(Nat.mul_lt_mul_right hp).symm;have k:q*Pg<=(Tp+Pg-1)/Pg*Pg:=Nat.mul_le_mul_right Pg ((Nat.le_div_iff_mul_le hp).2 (by omega));rw [Bool.eq_iff_iff];simp only [Bool.and_eq_true,Bool.or_eq_true,Bool.not_eq_true',decide_eq_true_eq,Bool.and_eq_false_iff,decide_eq_false_iff_not,c,d,e,f];generalize r*Pg=x at*;generalize q*Pg=y at*;generalize (Tp+Pg-1)/Pg*Pg=C at*;omega
theorem sd {Pg T a n:Nat} {mp:Nat->Bool} (hp:1<=Pg) (j:T% Pg=0) (b:Pg<=T) (i:a% Pg=0) (k:T+n<=a):cnt (bX mp) (T/Pg) ((T+n-1)/Pg+1)<=(a-T)/Pg:=by
 refine Nat.le_trans (be _ _ _) ?_;have e:(T+n-1)/Pg+1<=a/Pg:=by
  have f:(T+n-1)/Pg<a/Pg:=by
   rw [Nat.div_lt_iff_lt_mul hp];have g:a=a/Pg*Pg:=by have:=Nat.div_add_mod a Pg;rw [Nat.mul_comm];omega
   omega
  omega
 have h:(a-T)/Pg=a/Pg-T/Pg:=by
  obtain ⟨t,d⟩:∃t,T=t*Pg:=⟨T/Pg,by have:=Nat.div_add_mod T Pg;rw [Nat.mul_comm];omega⟩;obtain ⟨l,c⟩:∃l,a=l*Pg:=⟨a/Pg,by have:=Nat.div_add_mod a Pg;rw [Nat.mul_comm];omega⟩;rw [d,c,<-Nat.sub_mul,Nat.mul_div_cancel _ hp,Nat.mul_div_cancel _ hp,Nat.mul_div_cancel _ hp]
 omega
section
variable {A:AG} {rs:List Nat} {φ L:Nat->Nat} {lo hi:Nat}
theorem aO.w64 (h:aO A rs φ L lo hi) (m:hi<=2147483648) {x:Nat} (b:Reach A.gr rs x):∀k,φ x<=k->k<φ x+A.sz x->L k<18446744073709551616:=by
 intro k l e;rcases Nat.lt_or_ge (φ x) k with f|f
 ·obtain ⟨i,rfl⟩:∃i,k=φ x+1+i:=⟨k-φ x-1,by omega⟩;rcases Nat.lt_or_ge i (A.np x) with a|a
  ·rw [h.ptr x b i a];by_cases d:A.fld x i=0
   ·rw [d,h.zero];omega
   ·have c:=h.lies _ (AG.ptr_reach b a d);omega
  ·have c:=h.val x b i a (by unfold AG.sz at e;omega);rw [c.1];exact c.2
 ·have:k=φ x:=by omega
  rw [this];obtain ⟨g,j⟩:=h.head x b;rw [g];unfold bl at j;exact uS (by omega) (by omega) (by omega)
theorem aO.cpd2 {f e:Nat} {sz i:Nat->Nat} {dom:Nat->Prop} (h:aO A rs φ L lo hi) (c:∀x,Reach A.gr rs x->sz (φ x)=A.sz x∧i (φ x)=A.np x) (m:∀k,lo<=k->k<hi->dom k) (b:∀k,f<=k->k<e->dom k) (j:1<=f) (l:e<1048576) (o:hi<1048576):
  yh L sz i f e (fun a=>∃x,Reach A.gr rs x∧φ x=a) dom:=by
 refine ⟨?_,?_,b,j,l⟩
 ·rintro a ⟨x,d,rfl⟩;exact ⟨_,_,_,h.head x d,(c x d).1,(c x d).2⟩
 ·rintro a ⟨x,d,rfl⟩;have p:=h.lies x d;have q:1<=A.sz x:=by unfold AG.sz;omega
  refine ⟨by omega,fun k n g=> ?_⟩;rw [(c x d).1] at g;exact ⟨m k (by omega) (by omega),h.w64 (by omega) d k n g⟩
theorem oc:∀c:List Nat,(∀a∈c,∃x,Reach A.gr rs x∧φ x=a)->∃l:List Nat,c=l.map φ∧∀x∈l,Reach A.gr rs x
 |[],_=>⟨[],rfl,fun x d=>absurd d List.not_mem_nil⟩
 |a::t,h=>by
  obtain ⟨x,d,rfl⟩:=h a (List.mem_cons_self);obtain ⟨l,f,g⟩:=oc t (fun b i=>h b (List.mem_cons_of_mem _ i));refine ⟨x::l,by rw [f];rfl,fun y e=> ?_⟩;rcases List.mem_cons.1 e with rfl|e
  ·exact d
  ·exact g y e
theorem aO.lives_ord (h:aO A rs φ L lo hi) {sz:Nat->Nat} (j:∀x,Reach A.gr rs x->sz (φ x)=A.sz x) {c:List Nat} (n:c.Nodup) (p:∀a∈c,∃x,Reach A.gr rs x∧φ x=a) (i:∀x,Reach A.gr rs x->φ x∈c):∃l,aJ A rs l∧A.Wd l=gg sz c:=by
 obtain ⟨l,f,g⟩:=oc c p;refine ⟨l,⟨?_,fun x=>⟨fun d=>g x d,fun d=> ?_⟩⟩,?_⟩
 ·rw [f] at n;exact List.Pairwise.of_map φ (fun a b h e=>h (congrArg φ e)) n
 ·have k:=i x d;rw [f] at k;obtain ⟨y,m,o⟩:=List.mem_map.1 k;rw [<-h.inj (g y m) d o];exact m
 ·unfold AG.Wd gg;rw [f,List.map_map];congr 1
  exact List.map_congr_left (fun x d=>(j x (g x d)).symm)
end
section
variable {m Pg W Fs Us Hg:Nat} {mp:Nat->Bool} {kb wb g:Nat} {S0:Nat->Prop} {w w0 w1:World} {L sz np:Nat->Nat} {To Li:Nat} {R:Nat->Prop} {ls rs:List Nat} {cur:Nat}
def yi (m Pg W Fs Us Hg:Nat) (mp:Nat->Bool) (kb wb:Nat) (S0:Nat->Prop) (w0:World) (L sz np:Nat->Nat) (To:Nat) (R:Nat->Prop) (ls rs:List Nat) (cur:Nat) (w:World):Prop:=
 ∃(ord:List Nat) (s:dg) (c:Nat),zk m Pg W Fs Us Hg mp kb wb S0 w0 L sz np To R ord cur s w∧cur=To+gg sz (ord.take c)∧c<=ord.length∧rs.length=ls.length∧∀(i a:Nat),ls[i]? =some a->(a=0∧rs[i]? =some 0)∨(∃z:Nat,s.f a=some z∧rs[i]? =some z)
theorem wC.loop (h:wC m Pg W Fs Us Hg mp kb wb g S0 w0 L sz np To R ls rs w) (d:rs.length=ls.length):∃S,yi m Pg W Fs Us Hg mp kb wb S w L sz np To R ls rs To w∧(∀k,S k->S0 k∨w0.heap.size<=k)∧Fr (fun k=>S0 k∨k=kb∨k=wb∨k=g) w0 w:=by
 obtain ⟨b,s,e,j,l,r,n⟩:=h;obtain ⟨S,c1,c2,o⟩:=e.step;obtain ⟨S',p,f,q⟩:=e;exact ⟨S,⟨b,s,0,⟨c1,j,l⟩,by simp [gg],Nat.zero_le _,d,fun i a c=>n i a (by rw [d];exact (List.getElem?_eq_some_iff.1 c).1) c⟩,c2,f⟩
theorem yi.next (n:tY L sz np To Li R) (C:yh L sz np To Li R (aY W Pg mp)) (h:yi m Pg W Fs Us Hg mp kb wb S0 w0 L sz np To R ls rs cur w):
  ∃top:Nat,aj w kb [.pointer (some ⟨m,0,none⟩),.map (some wb),.int .i64 top] 230∧cur<=top∧top<=Li∧
   (cur<top->Calls Tryz.prog 147 #[kb,.int .i64 cur] w fun e w'=>∃d:Nat,cur<d∧e= .returned (.int .i64 (d:Int))∧yi m Pg W Fs Us Hg mp kb wb S0 w0 L sz np To R ls rs d w')∧
   (¬cur<top->∃(b:List Nat) (s:dg),s.top=top∧zk m Pg W Fs Us Hg mp kb wb S0 w0 L sz np To R b s.top s w∧rs.length=ls.length∧∀(i a:Nat),ls[i]? =some a->(a=0∧rs[i]? =some 0)∨(∃z:Nat,s.f a=some z∧rs[i]? =some z)):=by
 obtain ⟨b,s,c,o,v,P,x,y⟩:=h;obtain ⟨⟨S,A,N,O⟩,j,r⟩:=id o;have u:=j.top;have q:=n.fit b j.nd r;have G:gg sz b=gg sz (b.take c)+gg sz (b.drop c):=by rw [<-gh,List.take_append_drop]
 refine ⟨s.top,A.blk,by omega,by omega,fun F=> ?_,fun E=> ?_⟩
 ·have p:c<b.length:=by
   rcases Nat.lt_or_ge c b.length with k|k
   ·exact k
   ·rw [List.take_of_length_le k] at v;omega
  have H:b[c]? =some b[c]:=List.getElem?_eq_getElem p;refine (xl n C o H v).mono ?_;rintro e w' ⟨l,s',rfl,I,J,K,M⟩;have t:=(n.some _ (r _ (List.getElem_mem p))).2;refine ⟨cur+sz b[c],by omega,rfl,l,s',c+1,I,K,?_,x,fun i a D=> ?_⟩
  ·have:=J.length_le;omega
  ·rcases y i a D with k|⟨z,k,B⟩
   ·exact .inl k
   ·exact .inr ⟨z,M _ _ k,B⟩
 ·have:cur=s.top:=by omega
  exact ⟨b,s,rfl,by rw [<-this];exact o,x,y⟩
theorem pm {A:AG} {b:List Nat} {φ:Nat->Nat} {lo n:Nat} {k:List Nat} {s:dg} (h:aO A b φ L lo n) (e:∀x,Reach A.gr b x->sz (φ x)=A.sz x∧np (φ x)=A.np x) (C:1<=To)
  (o:eG L sz np To k s.top s) (u:∀a∈k,∃x,Reach A.gr b x∧φ x=a) (D:rs.length=(b.map φ).length) (v:∀(i a:Nat),(b.map φ)[i]? =some a->(a=0∧rs[i]? =some 0)∨(∃z:Nat,s.f a=some z∧rs[i]? =some z)):
  ∃(y:Nat->Nat) (l:List Nat),aO A b y s.M To s.top∧rs=b.map y∧aJ A b l∧s.top=To+A.Wd l:=by
 have q:s.f 0=none:=by
  refine o.Fh.2 (fun E=> ?_);obtain ⟨x,c,p⟩:=u 0 E;have:=h.pos c;omega
 have d:∀x∈b,x≠0->φ x∈k:=by
  intro x t B;obtain ⟨i,n⟩:=List.mem_iff_getElem?.1 t;have hp:=h.pos (.root t B);rcases v i (φ x) (by rw [List.getElem?_map,n];rfl) with ⟨c,_⟩|⟨z,c,_⟩
  ·omega
  ·obtain ⟨j,p,_⟩:=(o.went _ _).1 c;exact List.mem_of_getElem? p
 have r:=h.shut o e d;obtain ⟨l,F,G⟩:=h.lives_ord (fun x t=>(e x t).1) o.nd u r;refine ⟨fun x=>(s.f (φ x)).getD 0,l,h.copied o C q e r,?_,F,by rw [G];exact o.top⟩;refine List.ext_getElem? (fun i=> ?_);rw [List.getElem?_map]
 cases n:b[i]? with
 |none=>
  have H:=List.getElem?_eq_none_iff.1 n;rw [List.length_map] at D;exact List.getElem?_eq_none_iff.2 (by omega)
 |some x=>
  rcases v i (φ x) (by rw [List.getElem?_map,n];rfl) with ⟨c,p⟩|⟨z,c,p⟩
  ·rw [p];show _=some ((s.f (φ x)).getD 0)
   rw [c,q];rfl
  ·rw [p];show _=some ((s.f (φ x)).getD 0)
   rw [c];rfl
end
theorem zQ (n:Nat):dp (List.replicate n false)=fun _=>false:=by
 funext k;unfold dp;rw [List.getD_eq_getElem?_getD,List.getElem?_replicate];split<;>rfl
theorem vz (s:bh) (M:Nat->Nat):∃L:Nat->Nat,∀a,ai s.E a=true->L (s.F a)=wrd s.E s.hp M s.F a:=by
 classical
 refine ⟨fun k=>if h:∃a,ai s.E a=true∧s.F a=k then wrd s.E s.hp M s.F h.choose else 0,fun a d=> ?_⟩;have c:∃b,ai s.E b=true∧s.F b=s.F a:=⟨a,d,rfl⟩;show (if h:∃b,ai s.E b=true∧s.F b=s.F a then wrd s.E s.hp M s.F h.choose else 0)=_
 rw [dif_pos c];have e:s.to_+bt s.E c.choose=s.to_+bt s.E a:=c.choose_spec.2;rw [mq c.choose_spec.1 d (by omega)]
theorem ta {s:bh} (m:b8 s) {M:Nat->Nat} {mp:Nat->Bool} (p:∀q,q<s.W/s.P->mp q=eM s.P (ai s.E) (fun _=>false) q)
  (g:∀a,ai s.E a=true->1<=a-aT s.E a->a-aT s.E a<=s.hp (aT s.E a)->M a≠0->ai s.E (M a)=true∧M a<s.W) (v:∀a,ai s.E a=true->M a<18446744073709551616) (u:cnt (eM s.P (ai s.E) (fun _=>false)) 0 (s.W/s.P)<=s.R):
  ∃L,fQ s L M mp (fun _=>false) 0 0 s.nb (s.to_+s.N)∧∀a,ai s.E a=true->L (s.F a)=wrd s.E s.hp M s.F a:=by
 obtain ⟨L,l⟩:=vz s M;have e:aZ s.B (fun _=>false)=fun _=>false:=rfl
 have d:∀q,gp s.P s.N (fun _=>false) q=false:=fun q=>(fY m.P1).2 (fun a _=>Bool.and_false _)
 have c:∀q,fc s (s.to_+s.N) q=false:=fun q=>(fY m.P1).2 (fun a _=>by rw [Bool.and_eq_false_iff,decide_eq_false_iff_not,decide_eq_false_iff_not];omega)
 have j:cnt (fun _=>false) 0 s.nb=0:=aE (fun _ _ _=>rfl);refine ⟨L,⟨fun a _ _ h=>absurd h Bool.false_ne_true,fun a _ b _=>(l a b).symm,fun a _ b _=>g a b,fun a _ b _=>v a b,fun k n b=>absurd n (by omega),fun q t=> ?_,⟨fun k o=>absurd o (Nat.not_lt_zero k),Nat.zero_le _,fun _=>rfl⟩,fun _ _=>rfl,⟨j.symm,Nat.zero_le _⟩,(by rw [j,Nat.add_zero]),fun _=>false,fun _ h=>absurd h Bool.false_ne_true,?_⟩,l⟩
 ·rw [p q t,e];unfold df;rw [e,d,c];simp
 ·rw [e];unfold gT;rw [aE (f:=fun r=>gp s.P s.N (fun _=>false) r||fc s (s.to_+s.N) r) (fun i _ _=>by rw [d,c];rfl),Nat.add_zero];exact u
section
variable {A:AG} {rs:List Nat} {φ M E hp:Nat->Nat} {lo hi:Nat}
theorem aO.own (h:aO A rs φ M lo hi) (b:fe A rs φ E) {a:Nat} (f:ai E a=true):∃x i,Reach A.gr rs x∧aT E a=φ x∧a=φ x+i∧i<A.sz x:=by
 have d:=ci f;obtain ⟨x,c,e⟩:=b.some (aT E a) (by omega);rw [<-e,b.size x c] at d;exact ⟨x,a-φ x,c,e.symm,by omega,by omega⟩
theorem aO.live (h:aO A rs φ M lo hi) (a:fe A rs φ E) {x i:Nat} (b:Reach A.gr rs x) (hi:i<A.sz x):ai E (φ x+i)=true:=
 aQ.2 ⟨φ x,by omega,by rw [a.size x b];omega⟩
theorem aO.opn_ptr (h:aO A rs φ M lo hi) (k:fe A rs φ E) (b:∀x,Reach A.gr rs x->hp (φ x)=A.np x) {W:Nat} (u:hi<=W):∀a,ai E a=true->1<=a-aT E a->a-aT E a<=hp (aT E a)->M a≠0->ai E (M a)=true∧M a<W:=by
 intro a q n o f;obtain ⟨x,i,c,d,m,r⟩:=h.own k q;rw [d,b x c] at o;rw [d] at n;obtain ⟨j,rfl⟩:∃j,i=1+j:=⟨i-1,by omega⟩;have g:=h.ptr x c j (by omega);rw [dF,<-m] at g;rw [g] at f ⊢;have l:=AG.ptr_reach c (show j<A.np x by omega) (fun e=>f (by rw [e];exact h.zero));have s:=h.lies _ l;have t:1<=A.sz (A.fld x j):=by unfold AG.sz;omega
 have p:=h.live k l (i:=0) (by omega);exact ⟨p,by omega⟩
theorem aO.opn_small (h:aO A rs φ M lo hi) (b:fe A rs φ E) (d:hi<=2147483648):∀a,ai E a=true->M a<18446744073709551616:=by
 intro a c;obtain ⟨x,i,e,f,g,j⟩:=h.own b c;exact h.w64 d e a (by omega) (by omega)
theorem aO.opn_laid (h:aO A rs φ M lo hi) (b:fe A rs φ E) (c:di E) (d:∀x,Reach A.gr rs x->hp (φ x)=A.np x) {T:Nat} (j:1<=T) {L:Nat->Nat} (g:∀a,ai E a=true->L (goes E T a)=wrd E hp M (goes E T) a):
  aO A rs (lD (goes E T) φ) L T (T+cnt (ai E) 0 hi):=by
 refine h.slide b j (fun x e i hi=> ?_);have f:=g _ (h.live b e hi);have k:=b.size x e;rw [js (by omega)] at f;rw [f];unfold wrd;rw [mD c (s:=φ x) (by omega) (by omega),d x e,Nat.add_sub_cancel_left]
end
theorem sc {f:Nat->Bool} {n:Nat} (h:n<=cnt f 0 n) {i:Nat} (b:i<n):f i=true:=by
 cases hf:f i with
 |true=>rfl
 |false=>
  have c:=ay f (Nat.zero_le (i+1)) (show i+1<=n from b);have a:=aC f (Nat.zero_le i);have d:=be f 0 i;have e:=be f (i+1) n;rw [hf] at a;simp at a;omega
theorem bn.off {S:Nat->Prop} {w:World} {m Pg W Rm Us Hg:Nat} {mp:Nat->Bool} {M:Nat->Nat} (h:bn w m S Pg W Rm Us Hg mp M) {q:Nat} (a:W/Pg<=q):mp q=false:=by
 obtain ⟨p,z,y,x,ws,u,f,e,g,i,v,fr,n,j,k,c,l,o,r,s,d,t,b⟩:=h;rw [d];unfold bF;rw [c.off q a];rfl
theorem fQ.done {s:bh} {L M:Nat->Nat} {mp:Nat->Bool} {d:Nat->Bool} {fr C top:Nat} (o:b8 s) (h:fQ s L M mp d fr C 0 top) (U:top<=s.to_+s.R*s.P):
  (∀a,s.to_<=a->a<top->M a=L a)∧∀q,q<s.W/s.P->s.to_+s.N<=top->mp q=(decide (s.to_<=q*s.P)&&decide (q*s.P<top)):=by
 have j:=o.P1;have H:=o.B1;have m:∀k,k<s.nb->d k=true:=fun k K=>sc (by have:=h.left;omega) K
 have n:∀i,i<s.N->d (i/s.B)=true:=fun i J=>m _ ((Nat.div_lt_iff_lt_mul (by omega)).2 (Nat.lt_of_lt_of_le J (ql H)))
 have e:∀a,ai s.E a=true->a<s.W∧d (bt s.E a/s.B)=true:=fun a v=>
  ⟨(o.from_ a v).1,n _ (eh v (o.from_ a v).1)⟩
 refine ⟨fun a I w=> ?_,fun q O V=> ?_⟩
 ·rcases Nat.lt_or_ge a (s.to_+s.N) with l|l
  ·obtain ⟨b,D,y,Q⟩:=pY (E:=s.E) (W:=s.W) (i:=a-s.to_) (by have:s.N=cnt (ai s.E) 0 s.W:=rfl;omega);have u:s.F b=a:=by show s.to_+bt s.E b=a;omega
   have:=h.moved b D y (e b y).2;rwa [u] at this
  ·exact h.behind a l w
 ·have x:eM s.P (ai s.E) (aZ s.B d) q=false:=(fY j).2 (fun a _=>by
   cases hl:ai s.E a with
   |false=>rfl
   |true=>
    show (!(d (bt s.E a/s.B)))=false
    rw [(e a hl).2];rfl)
  rw [h.pages q O,x,Bool.false_or];unfold df;by_cases g:s.to_/s.P<=q
  ·have S:=o.toq;have z:s.to_/s.P*s.P<=q*s.P:=Nat.mul_le_mul_right _ g;have T:(q-s.to_/s.P)*s.P=q*s.P-s.to_/s.P*s.P:=Nat.sub_mul _ _ _;rw [decide_eq_true g,decide_eq_true (show s.to_<=q*s.P by omega),Bool.true_and,Bool.true_and,Bool.eq_iff_iff];simp only [Bool.and_eq_true,Bool.or_eq_true,decide_eq_true_eq];unfold gp fc;rw [aH j,aH j];constructor
   ·rintro ⟨_,A⟩;have t:∃i,i/s.P=q-s.to_/s.P∧s.to_+i<top:=by
     rcases A with ⟨i,p,r⟩|⟨i,p,r⟩
     ·rw [Bool.and_eq_true,decide_eq_true_eq] at r;exact ⟨i,p,by omega⟩
     ·rw [Bool.and_eq_true,decide_eq_true_eq,decide_eq_true_eq] at r;exact ⟨i,p,r.2⟩
    obtain ⟨i,p,r⟩:=t;have f:(q-s.to_/s.P)*s.P<=i:=by rw [<-p];exact Nat.div_mul_le_self _ _
    omega
   ·intro A;have t:(q-s.to_/s.P)*s.P/s.P=q-s.to_/s.P:=Nat.mul_div_cancel _ j;refine ⟨?_,?_⟩
    ·rcases Nat.lt_or_ge q (s.to_/s.P+s.R) with f|f
     ·exact f
     ·have G:=Nat.mul_le_mul_right s.P f;rw [Nat.add_mul] at G;omega
    ·rcases Nat.lt_or_ge ((q-s.to_/s.P)*s.P) s.N with f|f
     ·exact .inl ⟨_,t,by
       rw [decide_eq_true f,Bool.true_and];exact n _ f⟩
     ·exact .inr ⟨_,t,by rw [decide_eq_true f,decide_eq_true (show s.to_+(q-s.to_/s.P)*s.P<top by omega)];rfl⟩
  ·have z:¬s.to_<=q*s.P:=fun h=>g (by
    have:=Nat.div_le_div_right (c:=s.P) h;rwa [Nat.mul_div_cancel _ j] at this)
   rw [decide_eq_false g,decide_eq_false z];rfl
theorem lu {n:Nat} (h:aL (n:Int)=true):∃i,n=2^i:=by
 obtain ⟨i,_,b⟩:=(dn _).1 h;exact ⟨i,by
  have a:((n:Nat):Int)=((2^i:Nat):Int):=by rw [b];push_cast;rfl
  exact Int.ofNat.inj a⟩
theorem mI {a b:Nat} (d:aL (a:Int)=true) (e:aL (b:Int)=true) (h:a<=b):a∣b:=by
 obtain ⟨i,rfl⟩:=lu d;obtain ⟨j,rfl⟩:=lu e;rcases Nat.le_total i j with c|c
 ·exact Nat.pow_dvd_pow 2 c
 ·have:=Nat.pow_le_pow_right (show 0<2 by omega) c;rw [show 2^i=2^j by omega];exact Nat.dvd_refl _
section
variable {c:Cf}
theorem cT.div (a:cT c):c.Pg∣c.block∨c.block∣c.Pg:=by
 rcases Nat.le_total c.Pg c.block with h|h
 ·exact .inl (mI a.page1 a.block1 h)
 ·exact .inr (mI a.block1 a.page1 h)
theorem cT.wp (a:cT c):c.Wd% c.Pg=0:=Nat.mod_eq_zero_of_dvd (mI a.page1 a.words1 a.words4)
theorem cT.Wp (a:cT c):c.W% c.Pg=0:=by
 have h:=a.wp;unfold Cf.W;split
 ·rw [Nat.add_zero,Nat.add_mod_left];exact h
 ·rw [Nat.add_assoc,Nat.add_mod_left,Nat.add_mod,h];rfl
theorem cT.W5 (a:cT c):c.W<=524288∧c.Pg<=c.W∧c.Pg+c.Wd<=c.W:=by
 have b:=a.words3;have d:=a.page3;unfold Cf.W;split<;>omega
def Cf.half (c:Cf) (Ba:Nat):Prop:=Ba=c.Pg∨(c.kind≠3∧Ba=c.Pg+c.Wd)
theorem Cf.half.other {Ba:Nat} (h:c.half Ba) (a:c.kind≠3):c.half (2*c.Pg+c.Wd-Ba):=by
 rcases h with rfl|⟨_,rfl⟩
 ·exact .inr ⟨a,by omega⟩
 ·exact .inl (by omega)
theorem Cf.half.le {Ba:Nat} (h:c.half Ba):c.Pg<=Ba∧Ba<=c.Pg+c.Wd:=by
 rcases h with rfl|⟨_,rfl⟩<;>omega
theorem Cf.half.mod {Ba:Nat} (h:c.half Ba) (a:cT c):Ba% c.Pg=0:=by
 rcases h with rfl|⟨_,rfl⟩
 ·exact Nat.mod_self _
 ·rw [Nat.add_mod_left];exact a.wp
theorem Cf.half.top {Ba:Nat} (h:c.half Ba):Ba+c.Wd<=c.W:=by
 unfold Cf.W;rcases h with rfl|⟨a,rfl⟩
 ·omega
 ·rw [if_neg a];omega
theorem Cf.half.conf {Ba u:Nat} (h:c.half Ba) (a:cT c) (i:c.kind≠3) (o:u<=c.Wd):gw c.Pg c.W Ba (Ba+u) (2*c.Pg+c.Wd-Ba) (2*c.Pg+c.Wd-Ba+c.Wd) c.block c.stack c.Ah:=by
 have e:=h.other i;have j:=h.le;have k:=e.le;have l:=h.top;have m:=e.top;have n:=a.words2;have f:=e.mod a;have g:=a.wp;refine ⟨a.block1,a.block2,a.block3,a.stack1,a.stack2,a.ahead1,by omega,by omega,by omega,by omega,by omega,by omega,h.mod a,f,by rw [Nat.add_mod,f,g];rfl,a.page1,?_⟩;rcases h with rfl|⟨_,rfl⟩
 ·right;have hp:=a.page2;have b:(c.Pg+c.Wd)/c.Pg*c.Pg=c.Pg+c.Wd:=by
   have:=Nat.div_add_mod (c.Pg+c.Wd) c.Pg;rw [Nat.add_mod_left,g] at this;rw [Nat.mul_comm];omega
  have d:(c.Pg+u+c.Pg-1)/c.Pg<=(c.Pg+c.Wd)/c.Pg:=by
   rw [<-Nat.lt_succ_iff,Nat.div_lt_iff_lt_mul (by omega),Nat.succ_mul,b];omega
  have:=Nat.mul_le_mul_right c.Pg d;omega
 ·left;omega
end
structure Hp where
 b:Nat
 m:Nat
 rb:Nat
 rg:Nat
def zA (c:Cf) (m Ba top:Nat) (L:Nat->Nat) (S:Nat->Prop) (w:World):Prop:=
 ∃Us Hg mp,bm m c.Pg c.W c.Fs Us Hg mp L S w∧∀q,mp q=(decide (Ba<=q*c.Pg)&&decide (q*c.Pg<top))
def kJ (c:Cy) (s:bh) (hf hg:Nat->Nat) (Fs top:Nat) (Mv:List Bool) (left fr ah Us:Nat) (L:Nat->Nat) (S:Nat->Prop) (w:World):Prop:=
 ∃Hg Sm mp M fw n,dX c s hf hg Fs Us Hg Sm mp M Mv fw n left fr ah w∧fQ s L M mp (dp Mv) fr ah left top∧(∀q,(fw q).getD 0=jm s (aZ s.B (dp Mv)) q)∧n<4611686018427387904∧∀k,S k↔(Sm k∨c.has k)
theorem eo.su {c:Cy} {s:bh} {hf hg:Nat->Nat} {Fs top:Nat} {a:List Bool} {left fr b:Nat} {L:Nat->Nat} {S:Nat->Prop} {w:World} (h:eo c s hf hg Fs top a left fr b L S w):∃Us,kJ c s hf hg Fs top a left fr b Us L S w:=
 let ⟨Us,Hg,d,mp,M,e,n,h⟩:=h;⟨Us,Hg,d,mp,M,e,n,h⟩
theorem kJ.s {c:Cy} {s:bh} {hf hg:Nat->Nat} {Fs top:Nat} {a:List Bool} {left fr b Us:Nat} {L:Nat->Nat} {S:Nat->Prop} {w:World} (h:kJ c s hf hg Fs top a left fr b Us L S w):eo c s hf hg Fs top a left fr b L S w:=
 let ⟨Hg,d,mp,M,e,n,h⟩:=h;⟨Us,Hg,d,mp,M,e,n,h⟩
theorem kJ.stays {c:Cy} {s:bh} {hf hg:Nat->Nat} {Fs top:Nat} {e:List Bool} {left fr f Us:Nat} {L:Nat->Nat} {S:Nat->Prop} {w w':World} {T:Nat->Prop} (h:kJ c s hf hg Fs top e left fr f Us L S w) (a:Fr T w w') (g:∀k,S k->¬T k) (l:¬T aN):kJ c s hf hg Fs top e left fr f Us L S w':=by
 obtain ⟨Hg,i,mp,M,j,n,m,o,p,q,d⟩:=h;exact ⟨Hg,i,mp,M,j,n,m.frame a (fun k b=>g k ((d k).2 (.inr b))) (fun k b=>g k ((d k).2 (.inl b))) l,o,p,q,d⟩
def zy (c:Cf) (m Ba top:Nat) (q:Nat->Prop) (y n:Nat) (L:Nat->Nat) (S:Nat->Prop) (w:World):Prop:=
 c.kind=1∧∃cc s hf hg Mv fr ah,qJ cc s hf hg c.Fs top∧(∃Us,q Us∧kJ cc s hf hg c.Fs top Mv n fr ah Us L S w)∧cc.y=y∧cc.m=m∧s.to_=Ba∧s.P=c.Pg∧s.R=c.Wd/c.Pg∧s.W=c.W∧s.B=c.block∧s.Ah=c.Ah
def oS (c:Cf) (m Ba top:Nat) (q:Nat->Prop) (L:Nat->Nat) (S:Nat->Prop) (w:World):Option Nat->Nat->Prop
 |none,n=>n=0∧zA c m Ba top L S w
 |some y,n=>zy c m Ba top q y n L S w
structure eT (q:Nat->Prop) (h:Hp) (c:Cf) (A:AG) (rs:List Nat) (φ L:Nat->Nat) (Ba u ub:Nat) (cy:Option Nat) (n:Nat) (ns bs:Int) (S:Nat->Prop) (w:World):Prop where
 cok:cT c
 blk:gq w h.b c h.m h.rb ub cy ns bs
 roots:aV w h.rb h.rg (rs.map φ)
 reg:bR w ub h.m Ba (Ba+u) (Ba+c.Wd)
 tab:bv w
 laid:aO A rs φ L Ba (Ba+u)
 Sl:rs.length=c.Sl
 fits:u<=c.Wd
 half:c.half Ba
 mem:oS c h.m Ba (Ba+u) q L S w cy n
 d:∀k,S k->k≠h.b∧k≠h.rb∧k≠h.rg∧k≠ub∧k≠aN
 e:h.b≠h.rb∧h.b≠h.rg∧h.b≠ub∧h.rb≠ub∧h.rg≠ub∧h.b≠aN∧h.rg≠aN∧ub≠aN∧h.rb≠aN
def eZ (h:Hp) (ub:Nat) (S:Nat->Prop) (k:Nat):Prop:=S k∨k=h.b∨k=h.rb∨k=h.rg∨k=ub
def wE (b:Nat) (c:Cf) (A:AG) (rs:List Nat) (u n:Nat) (T:Nat->Prop) (w:World):Prop:=
 ∃h φ L Ba ub cy ns bs S,h.b=b∧eT (fun _=>True) h c A rs φ L Ba u ub cy n ns bs S w∧(∀k,T k↔eZ h ub S k)
def bM (b:Nat) (c:Cf) (A:AG) (rs:List Nat) (u n:Nat) (T:Nat->Prop) (w:World):Prop:=
 ∃h φ L Ba ub cy ns bs S,h.b=b∧eT (fun _=>True) h c A rs φ L Ba u ub cy n ns bs S w∧(∀k,T k↔eZ h ub S k)∧(n=0->cy=none)
section
variable {b:Nat} {h:Hp} {c:Cf} {A:AG} {rs:List Nat} {φ L:Nat->Nat} {Ba u ub:Nat} {cy:Option Nat} {n:Nat} {ns bs:Int} {S T X q:Nat->Prop} {w w' w'':World}
theorem oS.stays (g:oS c h.m Ba (Ba+u) q L S w cy n) (hf:Fr X w w') (f:∀k,S k->¬X k) (p:¬X aN):oS c h.m Ba (Ba+u) q L S w' cy n:=by
 cases cy with
 |none=>
  obtain ⟨o,Us,Hg,mp,d,e⟩:=g;exact ⟨o,Us,Hg,mp,(aR _ _ _ _ _ _ _) _ _ _ _ _ d hf f,e⟩
 |some y=>
  obtain ⟨r,l,s,a,hg,i,fr,j,d,⟨Us,v,e⟩,t⟩:=g;exact ⟨r,l,s,a,hg,i,fr,j,d,⟨Us,v,e.stays hf f p⟩,t⟩
theorem oS.lt (a:oS c h.m Ba (Ba+u) q L S w cy n):∀k,S k->k<w.heap.size:=by
 cases cy with
 |none=>
  obtain ⟨l,Us,Hg,mp,d,e⟩:=a;exact (aF _ _ _ _ _ _ _).lt _ _ _ d
 |some y=>
  obtain ⟨o,j,s,f,hg,g,fr,i,d,⟨Us,r,e⟩,p⟩:=a;exact e.s.lt
theorem eT.lt (a:eT q h c A rs φ L Ba u ub cy n ns bs S w):∀k,eZ h ub S k->k<w.heap.size:=by
 intro k d;rcases d with d|rfl|rfl|rfl|rfl
 ·exact a.mem.lt k d
 ·exact aj.lt a.blk
 ·exact a.roots.blk.lt
 ·exact a.roots.row.lt
 ·exact aj.lt a.reg
theorem eT.stays (a:eT q h c A rs φ L Ba u ub cy n ns bs S w) (hf:Fr X w w') (f:∀k,eZ h ub S k->¬X k) (g:¬X aN):eT q h c A rs φ L Ba u ub cy n ns bs S w':=
 ⟨a.cok,aj.frame a.blk hf (f _ (.inr (.inl rfl))),a.roots.frame hf (f _ (.inr (.inr (.inl rfl)))) (f _ (.inr (.inr (.inr (.inl rfl))))),aj.frame a.reg hf (f _ (.inr (.inr (.inr (.inr rfl))))),ak a.tab hf g,a.laid,a.Sl,a.fits,a.half,a.mem.stays hf (fun k i=>f k (.inl i)) g,a.d,a.e⟩
theorem eT.keep (a:eT q h c A rs φ L Ba u ub cy n ns bs S w) (hf:Fr (fun _=>False) w w'):eT q h c A rs φ L Ba u ub cy n ns bs S w':=a.stays hf (fun _ _ h=>h) (fun h=>h)
theorem bM.stays (f:bM b c A rs u n T w) (hf:Fr X w w') (d:∀k,T k->¬X k) (e:¬X aN):bM b c A rs u n T w':=by
 obtain ⟨h,φ,L,Ba,ub,cy,ns,bs,S,i,j,a,l⟩:=f;exact ⟨h,φ,L,Ba,ub,cy,ns,bs,S,i,j.stays hf (fun k g=>d k ((a k).2 g)) e,a,l⟩
theorem bM.keep (a:bM b c A rs u n T w) (hf:Fr (fun _=>False) w w'):bM b c A rs u n T w':=a.stays hf (fun _ _ h=>h) (fun h=>h)
theorem bM.lt (a:bM b c A rs u n T w):∀k,T k->k<w.heap.size:=by
 obtain ⟨h,φ,L,Ba,ub,cy,ns,bs,S,g,e,f,i⟩:=a;exact fun k d=>e.lt k ((f k).1 d)
theorem bM.tab (l:bM b c A rs u n T w):bv w∧aN<w.heap.size∧¬T aN:=by
 obtain ⟨h,φ,L,Ba,ub,cy,ns,bs,S,x,f,o,y⟩:=l;obtain ⟨p,r,s,t,v,g,i,j,k⟩:=f.e;refine ⟨f.tab,aD (f.tab 0 0 rfl),fun m=> ?_⟩;rcases (o _).1 m with a|a|a|a|a
 ·exact (f.d _ a).2.2.2.2 rfl
 ·exact g a.symm
 ·exact k a.symm
 ·exact i a.symm
 ·exact j a.symm
theorem bM.cf (d:bM b c A rs u n T w):cT c∧rs.length=c.Sl∧u<=c.Wd:=by
 obtain ⟨h,φ,L,Ba,ub,cy,ns,bs,S,e,a,f,g⟩:=d;exact ⟨a.cok,a.Sl,a.fits⟩
end
section
variable {P:Program}
def bO (P:Program) (ρ:Operand->Value) (o:Oper) (w:World) (post:Value->World->Prop):Prop:=
 match (execOp ρ o).run P w with
 | .ok (.value v) w'=>post v w'
 | .ok .skip w'=>post undef w'
 | .ok (.enter f args) w'=>Calls P f args w' fun e w''=>∃v,e= .returned v∧post v w''
 |_=>False
theorem bO.wp {o:Oper} {a:Act} {w:World} {b:Value->World->Prop} {Q:Exit->Act->World->Prop} (h:bO P a.eval o w b):o.wp P a w (fun c w'=>∃v,c=a.put o.dst v∧b v w') Q:=by
 unfold bO at h;unfold Oper.wp;generalize (execOp a.eval o).run P w=r at*
 cases r with
 |halt x w'=>exact h.elim
 |ok n w'=>
  cases n<;>simp only [Oper.upon] at h ⊢
  case value v=>exact ⟨v,rfl,h⟩
  case skip=>exact ⟨_,rfl,h⟩
  case enter f args=>
   refine Calls.mono h ?_;rintro e d ⟨v,rfl,hp⟩;exact ⟨v,rfl,hp⟩
theorem ao {ρ:Operand->Value} {o:Oper} {w w':World} {a:Value->World->Prop} (v:Value) (h:(execOp ρ o).run P w= .ok (.value v) w') (hp:a v w'):bO P ρ o w a:=by
 unfold bO;rw [h];exact hp
theorem bZ {ρ:Operand->Value} {o:Oper} {w w':World} {a:Value->World->Prop} (h:(execOp ρ o).run P w= .ok .skip w') (hp:a undef w'):bO P ρ o w a:=by
 unfold bO;rw [h];exact hp
theorem ar {ρ:Operand->Value} {o:Oper} {w w':World} {a:Value->World->Prop} (f:FuncId) (args:Array Value) (h:(execOp ρ o).run P w= .ok (.enter f args) w') (hp:Calls P f args w' fun e b=>∃v,e= .returned v∧a v b):bO P ρ o w a:=by
 unfold bO;rw [h];exact hp
def cX:Value->Option Nat
 | .pointer (some a)=>some a.block
 | .slice (some a) _ _=>some a.block
 | .map b=>b
 |_=>none
def kR (w w':World) (v:Value):Prop:=∃g,cX v=some g∧w.heap.size<=g∧g<w'.heap.size
def bg (vs:Nat->Value):Nat->List Oper->Array Value->Array Value
 |_,[],t=>t
 |k,o::l,t=>bg vs (k+1) l (match o.dst with|some d=>t.setIfInBounds d (vs k)|none=>t)
theorem de {vs:Nat->Value} {x:Nat}:∀(l:List Oper) (k:Nat) (t:Array Value),(∀o∈l,o.dst≠some x)->(bg vs k l t)[x]? =t[x]?
 |[],_,_,_=>rfl
 |o::l,k,t,h=>by
  have a:=h o List.mem_cons_self;unfold bg;rw [de l (k+1) _ (fun o' b=>h o' (List.mem_cons_of_mem _ b))]
  cases hd:o.dst with
  |none=>rfl
  |some d=>exact Array.getElem?_setIfInBounds_ne (fun e=>a (by rw [hd,e]))
theorem fZ {vs:Nat->Value} {d:Nat}:∀(l:List Oper) (k j:Nat) (t:Array Value) (o:Oper),l[j]? =some o->o.dst=some d->(∀i o',l[i]? =some o'->o'.dst=some d->i=j)->(bg vs k l t)[d]? =(t[d]?).map fun _=>vs (k+j)
 |[],_,_,_,_,h,_,_=>by cases h
 |o'::l,k,0,t,o,h,hd,hu=>by
  obtain rfl:o'=o:=Option.some.inj h;unfold bg;rw [de l (k+1) _ (fun f g e=>by
   obtain ⟨i,b⟩:=List.mem_iff_getElem?.1 g;have:=hu (i+1) f b e;omega),hd]
  show (t.setIfInBounds d (vs k))[d]? =_
  rw [Array.getElem?_setIfInBounds,if_pos rfl,Nat.add_zero];by_cases a:d<t.size
  ·rw [if_pos a,Array.getElem?_eq_getElem a];rfl
  ·rw [if_neg a,Array.getElem?_eq_none (Nat.le_of_not_lt a)];rfl
 |o'::l,k,j+1,t,o,h,hd,hu=>by
  unfold bg;rw [fZ l (k+1) j _ o h hd (fun i f b e=>by have:=hu (i+1) f b e;omega),show k+1+j=k+(j+1) by omega];have c:o'.dst≠some d:=fun e=>by have:=hu 0 o' rfl e;omega
  cases hd':o'.dst with
  |none=>rfl
  |some d'=>
   show ((t.setIfInBounds d' (vs k))[d]?).map _=_
   rw [Array.getElem?_setIfInBounds_ne (fun e=>c (by rw [hd',e]))]
def ce (o:Oper) (j:Nat):Bool:=o.after.any fun e=>Region.binds .any e&&e.on==j
def vT (o:Oper):List Tmp:=o.op.operands.toList.filterMap fun| .tmp t=>some t|_=>none
def ek (l:List Oper):Bool:=
 l.all fun o=>o.guard.isNone&&(match o.op with| .select _ _=>false| .defer _=>false|_=>true)
def dq (l:List Oper):Bool:=
 (List.range l.length).all fun i=>match l[i]? with
  |none=>true
  |some o=>(o.after.all fun e=> !Region.binds .any e||decide (e.on<i))&&(List.range l.length).all fun j=>match l[j]? with
   |none=>true
   |some p=>match p.dst with
    |none=>true
    |some d=>(!(vT o).contains d||ce o j)&&(i==j||o.dst !=some d)
structure lX (l:List Oper):Prop where
 guard:∀(i:Nat) (o:Oper),l[i]? =some o->o.guard=none
 sel:∀(i:Nat) (o:Oper),l[i]? =some o->∀cs b,o.op≠ .select cs b
 dfr:∀(i:Nat) (o:Oper),l[i]? =some o->∀c,o.op≠ .defer c
 back:∀(i:Nat) (o:Oper),l[i]? =some o->∀e∈o.after,Region.binds .any e=true->e.on<i
 reads:∀(i:Nat) (o:Oper) (j:Nat) (p:Oper) (d:Nat),l[i]? =some o->l[j]? =some p->p.dst=some d->Operand.tmp d∈o.op.operands->ce o j=true
 once:∀(i:Nat) (o:Oper) (j:Nat) (p:Oper) (d:Nat),l[i]? =some o->l[j]? =some p->p.dst=some d->o.dst=some d->i=j
theorem eR {l:List Oper} (h:ek l=true) (q:dq l=true):lX l:=by
 unfold ek at h;unfold dq at q;rw [List.all_eq_true] at h q;have s:∀(i:Nat) (o:Oper),l[i]? =some o->i<l.length:=fun i o a=>(List.getElem?_eq_some_iff.1 a).1
 have n:∀(i:Nat) (o:Oper),l[i]? =some o->o.guard=none∧(∀cs b,o.op≠ .select cs b)∧∀c,o.op≠ .defer c:=fun i o a=>by
  have k:=h o (List.mem_of_getElem? a);rw [Bool.and_eq_true] at k;refine ⟨Option.isNone_iff_eq_none.1 k.1,fun cs b e=> ?_,fun c e=> ?_⟩
  ·have f:=k.2;rw [e] at f
   cases f
  ·have f:=k.2;rw [e] at f
   cases f
 have r:∀(i:Nat) (o:Oper),l[i]? =some o->(∀e∈o.after,Region.binds .any e=true->e.on<i)∧∀(j:Nat) (p:Oper) (d:Nat),l[j]? =some p->p.dst=some d->((vT o).contains d=true->ce o j=true)∧(o.dst=some d->i=j):=fun i o a=>by
  have k:=q i (List.mem_range.2 (s i o a));simp only [a,Bool.and_eq_true,List.all_eq_true] at k;refine ⟨fun e u t=> ?_,fun j p d hp m=> ?_⟩
  ·have f:=Array.all_eq_true_iff_forall_mem.1 k.1 e u;rw [t] at f
   simpa using f
  ·have f:=k.2 j (List.mem_range.2 (s j p hp));simp only [hp,m,Bool.and_eq_true,Bool.or_eq_true] at f;refine ⟨fun w=> ?_,fun e=> ?_⟩
   ·rcases f.1 with g|g
    ·rw [w] at g;cases g
    ·exact g
   ·rcases f.2 with g|g
    ·exact beq_iff_eq.1 g
    ·rw [e] at g;simp at g
 refine ⟨fun i o a=>(n i o a).1,fun i o a=>(n i o a).2.1,fun i o a=>(n i o a).2.2,fun i o a=>(r i o a).1,fun i o j p d a hp m v=> ?_,fun i o j p d a hp m e=>((r i o a).2 j p d hp m).2 e⟩;refine ((r i o a).2 j p d hp m).1 ?_;rw [List.contains_iff_mem];exact List.mem_filterMap.2 ⟨.tmp d,by simpa using v,rfl⟩
def eA (m n:Nat):Array Bool:=((List.range m).map fun j=>decide (j<n)).toArray
def bC (l:List Oper) (t i:Nat):Bool:=match l[t]? with
 |some o=>ce o i
 |none=>false
def mJ (l:List Oper):Nat->Nat->Nat->Bool
 |0,t,i=>bC l t i
 |f+1,t,i=>bC l t i||(List.range l.length).any fun k=>bC l t k&&mJ l f k i
def oF (l:List Oper) (n:Nat):Bool:=(List.range l.length).all fun t=>decide (t<n)||(List.range n).all fun i=>mJ l 3 t i
def mZ (l:List Oper) (n:Nat):Prop:=∀(D:Nat->Prop) (t:Nat),n<=t->t<l.length->(∀k i,D k->bC l k i=true->D i)->(∀k,bC l t k=true->D k)->∀i,i<n->D i
def uB (l:List Oper):Nat->List Nat->List Nat
 |0,S=>S
 |k+1,S=>uB l k (if S.any (fun m=>bC l m k) then k::S else S)
def vY (l:List Oper) (n:Nat):Bool:=(List.range l.length).all fun t=>decide (t<n)||(List.range n).all fun i=>(uB l t [t]).contains i
theorem rf {l:List Oper} {D:Nat->Prop} {t:Nat} (b:∀k i,D k->bC l k i=true->D i) (c:∀k,bC l t k=true->D k):∀(k:Nat) (S:List Nat),(∀m∈S,m=t∨D m)->∀m∈uB l k S,m=t∨D m
 |0,_,h,m,hm=>h m hm
 |k+1,S,h,m,hm=>by
  refine rf b c k _ (fun x a=> ?_) m hm;split at a
  ·rename_i e;rcases List.mem_cons.1 a with rfl|a
   ·obtain ⟨y,g,d⟩:=List.any_eq_true.1 e;rcases h y g with rfl|f
    ·exact .inr (c _ d)
    ·exact .inr (b _ _ f d)
   ·exact h x a
  ·exact h x a
theorem oE {l:List Oper} {n:Nat} (h:vY l n=true):mZ l n:=fun D t k b d j i f=>by
 have a:=List.all_eq_true.1 h t (List.mem_range.2 b);rw [decide_eq_false (show¬t<n by omega),Bool.false_or] at a;have c:=List.all_eq_true.1 a i (List.mem_range.2 f);rcases rf d j t [t] (fun m g=> .inl (List.mem_singleton.1 g)) i (List.contains_iff_mem.1 c) with e|e
 ·omega
 ·exact e
theorem oB {l:List Oper} {D:Nat->Prop} (b:∀k i,D k->bC l k i=true->D i):∀(f t i:Nat),(∀k,bC l t k=true->D k)->mJ l f t i=true->D i
 |0,t,i,ht,h=>ht i h
 |f+1,t,i,ht,h=>by
  unfold mJ at h;rw [Bool.or_eq_true] at h;rcases h with h|h
  ·exact ht i h
  ·obtain ⟨k,_,a⟩:=List.any_eq_true.1 h;rw [Bool.and_eq_true] at a;exact oB b f k i (fun m c=>b k m (ht k a.1) c) a.2
theorem oG {l:List Oper} {n:Nat} (h:oF l n=true):mZ l n:=fun D t f b c e i d=>by
 have a:=List.all_eq_true.1 h t (List.mem_range.2 b);rw [decide_eq_false (show¬t<n by omega),Bool.false_or] at a;exact oB c 3 t i e (List.all_eq_true.1 a i (List.mem_range.2 d))
variable {R R1:World->World->Prop} {Ps:Nat->Value->World->Prop} {nw:Nat->Bool} {n d:Nat}
structure ug (l:List Oper) (n d:Nat) (a0:Act) (w0:World) (R R1:World->World->Prop) (Ps:Nat->Value->World->Prop) (nw:Nat->Bool) (vs:Nat->Value) (listed:Array Bool) (a:Act) (w:World):Prop where
 news:∀j,nw j=true->j<n->listed.getD j true=true->kR w0 w (vs j)
 diff:∀i j,nw i=true->nw j=true->i<n->j<n->listed.getD i true=true->listed.getD j true=true->i≠j->cX (vs i)≠cX (vs j)
 size:listed.size=l.length
 tail:∀j,n<=j->j<l.length->listed.getD j true=false
 shut:∀k i,(k<l.length∧listed.getD k true=true)->bC l k i=true->(i<l.length∧listed.getD i true=true)
 defers:a.defers=a0.defers
 rel:R w0 w
 rel1:¬(d<n∧listed.getD d true=true)->R1 w0 w
 posts:∀j,j<n->listed.getD j true=true->Ps j (vs j) w
 set:∀(j:Nat) (o:Oper) (d:Nat),l[j]? =some o->listed.getD j true=true->o.dst=some d->a.tmps[d]? =(a0.tmps[d]?).map fun _=>vs j
 rest:∀t:Nat,(∀(j:Nat) (o:Oper),l[j]? =some o->listed.getD j true=true->o.dst≠some t)->a.tmps[t]? =a0.tmps[t]?
def d9 (P:Program) (wd:Nat->Bool) (F:(Nat->Value)->Act) (w0:World) (d:Nat) (R R1:World->World->Prop) (Ps:Nat->Value->World->Prop) (nw:Nat->Bool):Nat->List Oper->Prop
 |_,[]=>True
 |k,o::l=>(∀vs w,R w0 w->((k==d||wd k)=true->R1 w0 w)->(∀j,ce o j=true->Ps j (vs j) w)->(∀i j,nw i=true->nw j=true->ce o i=true->ce o j=true->i≠j->cX (vs i)≠cX (vs j))->bO P (F vs).eval o w (fun v w'=>Ps k v w'∧(bif k==d then R w w' else R1 w w')∧(nw k=true->kR w w' v)))∧d9 P wd F w0 d R R1 Ps nw (k+1) l
theorem jC {a:Nat->Bool} {F:(Nat->Value)->Act} {w0:World}:∀{l:List Oper} {k:Nat} (j:Nat) (o:Oper),d9 P a F w0 d R R1 Ps nw k l->l[j]? =some o->∀vs w,R w0 w->((k+j==d||a (k+j))=true->R1 w0 w)->(∀i,ce o i=true->Ps i (vs i) w)->(∀i j,nw i=true->nw j=true->ce o i=true->ce o j=true->i≠j->cX (vs i)≠cX (vs j))->bO P (F vs).eval o w (fun v w'=>Ps (k+j) v w'∧(bif k+j==d then R w w' else R1 w w')∧(nw (k+j)=true->kR w w' v))
 |[],_,_,_,_,h=>by cases h
 |o'::l,k,0,o,ha,h=>by
  obtain rfl:o'=o:=Option.some.inj h;exact ha.1
 |o'::l,k,j+1,o,ha,h=>by
  have:=jC (k:=k+1) j o ha.2 h;rwa [show k+1+j=k+(j+1) by omega] at this
def qA (n:Nat) (listed:Array Bool):List Nat:=(List.range n).filter fun j=> !listed.getD j true
theorem bW {a:Array Bool} {i j:Nat} (b:i<a.size):(a.setIfInBounds i true).getD j true=(decide (i=j)||a.getD j true):=by
 by_cases e:i=j
 ·subst e;rw [decide_eq_true rfl,Bool.true_or];simp [Array.getD_eq_getD_getElem?,b]
 ·rw [decide_eq_false e,Bool.false_or];exact getD_set_ne true e
theorem yg {n i:Nat} {a:Array Bool} (b:i<a.size) (h:i∈qA n a):(qA n (a.setIfInBounds i true)).length+1=(qA n a).length:=by
 have e:qA n (a.setIfInBounds i true)=(qA n a).filter (fun j=>j !=i):=by
  unfold qA;rw [List.filter_filter];congr 1
  funext j;rw [bW b];by_cases e:i=j
  ·simp [e]
  ·simp [e,Ne.symm e]
 have c:(qA n a).Nodup:=List.Pairwise.filter _ List.nodup_range;rw [e,<-c.erase_eq_filter,List.length_erase_of_mem h];have:=List.length_pos_of_mem h;omega
def pi (W1:Nat->(Act->World->Prop)->Act->World->Prop) (md:Region.Mode) (ops:Array Oper) (Q:Exit->Act->World->Prop):Nat->Array Bool->Act->World->Prop
 |0,listed,a,w=>Region.ready md ops listed=[]∧Q .normal a w
 |fuel+1,listed,a,w=>
  (Region.ready md ops listed=[]->Q .normal a w)∧
  ∀i∈Region.ready md ops listed,W1 i (pi W1 md ops Q fuel (listed.setIfInBounds i true)) a w
theorem qR {c:Array Oper} {md:Region.Mode} {Q:Exit->Act->World->Prop}:∀(f:Nat) (b:Array Bool) (a:Act) (w:World),pi (wpOp P c Q) md c Q f b a w->wpAny P md c Q f b a w
 |0,_,_,_,h=>h
 |f+1,_,_,_,h=>⟨h.1,fun i e=>wpOp_mono (fun a w h=>qR f _ a w h) (h.2 i e)⟩
theorem rM {c:Array Oper} {md:Region.Mode} {Q:Exit->Act->World->Prop}:∀(f:Nat) (b:Array Bool) (a:Act) (w:World),wpAny P md c Q f b a w->pi (wpOp P c Q) md c Q f b a w
 |0,_,_,_,h=>h
 |f+1,_,_,_,h=>⟨h.1,fun i e=>wpOp_mono (fun a w h=>rM f _ a w h) (h.2 i e)⟩
theorem lK {W1:Nat->(Act->World->Prop)->Act->World->Prop} {l:List Oper} {a0:Act} {w0:World} {Q:Exit->Act->World->Prop} (B:lX l) (a3:∀i K K' a w,(∀a w,K a w->K' a w)->W1 i K a w->W1 i K' a w) (cd:∀i o a w ap,l[i]? =some o->bO P a.eval o w ap->W1 i (fun a' w'=>∃v,a'=a.put o.dst v∧ap v w') a w) (hn:n<=l.length) (cs:mZ l n)
  (cb:∀w w',R1 w w'->R w w') (bk:∀w1 w2 w3,R1 w1 w2->R1 w2 w3->R1 w1 w3) (bo:∀w1 w2 w3,R w1 w2->R1 w2 w3->R w1 w3) (bs:∀w1 w2 w3,R1 w1 w2->R w2 w3->R w1 w3) (bj:∀j v w w',Ps j v w->R1 w w'->Ps j v w') (ct:∀j v w w',j≠d->Ps j v w->R w w'->Ps j v w') (hz:∀w w',R w w'->w.heap.size<=w'.heap.size)
  (a9:d9 P (bC l d) (fun vs=>{a0 with tmps:=bg vs 0 (l.take n) a0.tmps}) w0 d R R1 Ps nw 0 (l.take n)) (a4:∀vs w,R w0 w->(∀j,j<n->Ps j (vs j) w)->(∀j,nw j=true->j<n->kR w0 w (vs j))->(∀i j,nw i=true->nw j=true->i<n->j<n->i≠j->cX (vs i)≠cX (vs j))->pi W1 .any l.toArray Q (l.length-n) (eA l.length n) {a0 with tmps:=bg vs 0 (l.take n) a0.tmps} w):
  ∀(f:Nat) (b:Array Bool) (vs:Nat->Value) (a:Act) (w:World),(qA n b).length=f->ug l n d a0 w0 R R1 Ps nw vs b a w->pi W1 .any l.toArray Q (f+(l.length-n)) b a w:=by
 have N:∀j:Nat,l.toArray[j]? =l[j]? :=fun j=>by simp
 have U:∀(j:Nat) (o:Oper),(l.take n)[j]? =some o↔j<n∧l[j]? =some o:=fun j o=>by
  rw [List.getElem?_take];by_cases h:j<n
  ·rw [if_pos h];exact ⟨fun r=>⟨h,r⟩,fun r=>r.2⟩
  ·rw [if_neg h];exact ⟨fun r=>(by cases r),fun r=>absurd r.1 h⟩
 have M:∀(vs:Nat->Value) (j:Nat) (o:Oper) (d:Nat),j<n->l[j]? =some o->o.dst=some d->(bg vs 0 (l.take n) a0.tmps)[d]? =(a0.tmps[d]?).map fun _=>vs j:=fun vs j o d q F E=>by
  rw [fZ (l.take n) 0 j _ o ((U j o).2 ⟨q,F⟩) E (fun i o' H e=>B.once i o' j o d ((U i o').1 H).2 F E e),Nat.zero_add]
 have am:∀(vs:Nat->Value) (t:Nat),(¬∃(j:Nat) (o:Oper),j<n∧l[j]? =some o∧o.dst=some t)->(bg vs 0 (l.take n) a0.tmps)[t]? =a0.tmps[t]? :=fun vs t h=>
  de (l.take n) 0 _ (fun o F e=>h (let ⟨j,q⟩:=List.mem_iff_getElem?.1 F;⟨j,o,((U j o).1 q).1,((U j o).1 q).2,e⟩))
 have S:∀{b:Array Bool} {vs:Nat->Value} {a:Act} {w:World},ug l n d a0 w0 R R1 Ps nw vs b a w->∀j,j<l.length->b.getD j true=true->j<n:=fun c j q A=>by
  rcases Nat.lt_or_ge j n with h|h
  ·exact h
  ·rw [c.tail j h q] at A;cases A
 have a5:∀(b:Array Bool) (vs:Nat->Value) (a:Act) (w:World),ug l n d a0 w0 R R1 Ps nw vs b a w->(∀j,j<n->b.getD j true=true)->pi W1 .any l.toArray Q (0+(l.length-n)) b a w:=by
  intro b vs a w c u;have cf:a={a0 with tmps:=bg vs 0 (l.take n) a0.tmps}:=by
   obtain ⟨t,d⟩:=a;have L:d=a0.defers:=c.defers;subst L;have r:t=bg vs 0 (l.take n) a0.tmps:=by
    refine Array.ext_getElem? (fun x=> ?_);by_cases hx:∃(j:Nat) (o:Oper),j<n∧l[j]? =some o∧o.dst=some x
    ·obtain ⟨j,o,q,F,E⟩:=hx;rw [M vs j o x q F E];exact c.set j o x F (u j q) E
    ·rw [am vs x hx];exact c.rest x (fun j o F A e=>hx ⟨j,o,S c j (List.getElem?_eq_some_iff.1 F).1 A,F,e⟩)
   rw [r]
  have hm:b=eA l.length n:=by
   refine Array.ext_getElem? (fun j=> ?_);unfold eA;show b[j]? =(((List.range l.length).map fun j=>decide (j<n)).toArray)[j]?
   rw [show (((List.range l.length).map fun j=>decide (j<n)).toArray)[j]? =((List.range l.length).map fun j=>decide (j<n))[j]? by simp,List.getElem?_map];rcases Nat.lt_or_ge j l.length with q|q
   ·rw [List.getElem?_range q];have hs:j<b.size:=by rw [c.size];exact q
    have e:b.getD j true=decide (j<n):=by
     rcases Nat.lt_or_ge j n with h|h
     ·rw [u j h,decide_eq_true h]
     ·rw [c.tail j h q,decide_eq_false (by omega)]
    rw [Array.getD_eq_getD_getElem?,Array.getElem?_eq_getElem hs] at e;rw [Array.getElem?_eq_getElem hs];exact congrArg some e
   ·rw [Array.getElem?_eq_none (by rw [c.size];exact q),List.getElem?_eq_none (by simpa using q)];rfl
  rw [Nat.zero_add,hm,cf];exact a4 vs w c.rel (fun j q=>c.posts j q (u j q)) (fun j hn q=>c.news j hn q (u j q)) (fun i j H q I s O=>c.diff i j H q I s (u i I) (u j s) O)
 have ax:∀(b:Array Bool) (vs:Nat->Value) (a:Act) (w:World) (i:Nat),ug l n d a0 w0 R R1 Ps nw vs b a w->i<n->i∈Region.ready .any l.toArray b->
   W1 i (fun a' w'=>∃a2,ug l n d a0 w0 R R1 Ps nw a2 (b.setIfInBounds i true) a' w') a w:=by
  intro b vs a w i c W H;obtain ⟨L,o,r,h3⟩:=mem_ready.1 H;rw [N] at r;have I:i<l.length:=(List.getElem?_eq_some_iff.1 r).1;have D:i<b.size:=by rw [c.size];exact I
  have z:∀j,ce o j=true->j<n∧b.getD j true=true:=fun j q=>by
   unfold ce at q;obtain ⟨e,he,G⟩:=Array.any_eq_true'.1 q;rw [Bool.and_eq_true,beq_iff_eq] at G;obtain ⟨G,rfl⟩:=G;have h4:=B.back i o r e he G;have h5:=h3 e he G;have h6:e.on<b.size:=by rw [c.size];omega
   refine ⟨by omega,?_⟩;rw [Array.getD_eq_getD_getElem?,Array.getElem?_eq_getElem h6] at h5 ⊢;exact h5
  have V:execOp a.eval o=execOp ({a0 with tmps:=bg vs 0 (l.take n) a0.tmps}:Act).eval o:=by
   refine execOp_congr o (B.sel i o r) (fun x hx=> ?_)
   cases x with
   |tmp t=>
    have e:a.tmps[t]? =(bg vs 0 (l.take n) a0.tmps)[t]? :=by
     by_cases a1:∃(j:Nat) (p:Oper),j<n∧l[j]? =some p∧p.dst=some t
     ·obtain ⟨j,p,X,hp,E⟩:=a1;rw [M vs j p t X hp E];exact c.set j p t hp (z j (B.reads i o j p t r hp E hx)).2 E
     ·rw [am vs t a1];exact c.rest t (fun j p hp A e=>a1 ⟨j,p,S c j (List.getElem?_eq_some_iff.1 hp).1 A,hp,e⟩)
    simp only [Act.eval,Array.getD_eq_getD_getElem?,e]
   |_=>rfl
  have hp:=jC i o a9 ((U i o).2 ⟨W,r⟩) vs w c.rel (fun e=>c.rel1 (fun h=>by
   rw [Nat.zero_add,Bool.or_eq_true,beq_iff_eq] at e;rcases e with e|e
   ·rw [<-e,L] at h;cases h.2
   ·have h7:=(c.shut d i ⟨by omega,h.2⟩ e).2;rw [L] at h7;cases h7)) (fun j q=>c.posts j (z j q).1 (z j q).2) (fun i j H q b0 b1 O=>c.diff i j H q (z i b0).1 (z j b1).1 (z i b0).2 (z j b1).2 O)
  rw [Nat.zero_add] at hp;have cp:bO P a.eval o w (fun v w'=>Ps i v w'∧(bif i==d then R w w' else R1 w w')∧(nw i=true->kR w w' v)):=by unfold bO at*;rw [V];exact hp
  refine a3 _ _ _ _ _ ?_ (cd i o a w _ r cp);rintro a' w' ⟨v,rfl,hv,ad,av⟩;have bd:i=d->R w w':=fun e=>by rw [show (i==d)=true from beq_iff_eq.2 e] at ad;exact ad
  have Z:i≠d->R1 w w':=fun e=>by rw [show (i==d)=false from beq_eq_false_iff_ne.2 e] at ad;exact ad
  have hr:R w w':=by
   by_cases e:i=d
   ·exact bd e
   ·exact cb _ _ (Z e)
  have T:=c.rel1;have cc:R w0 w':=by
   by_cases e:i=d
   ·exact bs _ _ _ (T (fun h=>by rw [<-e,L] at h;cases h.2)) (bd e)
   ·exact bo _ _ _ c.rel (Z e)
  have c0:=hz _ _ hr;have cy:=hz _ _ c.rel;refine ⟨fun j=>if j=i then v else vs j,?_⟩;have C:∀j,(b.setIfInBounds i true).getD j true=true->j=i∨b.getD j true=true:=fun j q=>by
   rw [bW D,Bool.or_eq_true,decide_eq_true_eq] at q;exact q.imp Eq.symm id
  refine ⟨fun j hn q A=> ?_,fun x y hx hy b3 b6 b2 b5 b4=> ?_,by rw [Array.size_setIfInBounds];exact c.size,fun j q s=> ?_,fun k m hk hw=> ?_,?_,cc,fun a8=> ?_,fun j q A=> ?_,fun j p d aq A E=> ?_,fun t ht=> ?_⟩
  ·by_cases e:j=i
   ·subst e;rw [if_pos rfl];obtain ⟨g,g1,g2,g3⟩:=av hn;exact ⟨g,g1,by omega,g3⟩
   ·rw [if_neg e];obtain ⟨g,g1,g2,g3⟩:=c.news j hn q ((C j A).resolve_left e);exact ⟨g,g1,g2,by omega⟩
  ·by_cases ex:x=i
   ·have ey:y≠i:=fun e=>b4 (by rw [ex,e])
    rw [if_pos ex,if_neg ey];obtain ⟨g,g1,g2,g3⟩:=c.news y hy b6 ((C y b5).resolve_left ey);obtain ⟨k,k1,k2,k3⟩:=av (by rw [<-ex];exact hx);rw [g1,k1];intro e;have:=Option.some.inj e;omega
   ·rw [if_neg ex];by_cases ey:y=i
    ·rw [if_pos ey];obtain ⟨g,g1,g2,g3⟩:=c.news x hx b3 ((C x b2).resolve_left ex);obtain ⟨k,k1,k2,k3⟩:=av (by rw [<-ey];exact hy);rw [g1,k1];intro e;have:=Option.some.inj e;omega
    ·rw [if_neg ey];exact c.diff x y hx hy b3 b6 ((C x b2).resolve_left ex) ((C y b5).resolve_left ey) b4
  ·rw [bW D,decide_eq_false (by omega),Bool.false_or];exact c.tail j q s
  ·have ah:m<l.length∧b.getD m true=true:=by
    rcases C k hk.2 with e|e
    ·subst e;unfold bC at hw;rw [r] at hw;exact ⟨by have:=(z m hw).1;omega,(z m hw).2⟩
    ·exact c.shut k m ⟨hk.1,e⟩ hw
   exact ⟨ah.1,by rw [bW D,ah.2,Bool.or_true]⟩
  ·rw [<-c.defers];unfold Act.put;cases o.dst<;>rfl
  ·have e:i≠d:=fun e=>a8 ⟨by omega,by rw [bW D,decide_eq_true e];rfl⟩
   exact bk _ _ _ (T (fun h=>a8 ⟨h.1,by rw [bW D,h.2,Bool.or_true]⟩)) (Z e)
  ·by_cases e:j=i
   ·subst e;rw [if_pos rfl];exact hv
   ·rw [if_neg e];have bb:=c.posts j q ((C j A).resolve_left e);by_cases ei:i=d
    ·exact ct _ _ _ _ (fun ej=>e (by omega)) bb hr
    ·exact bj _ _ _ _ bb (Z ei)
  ·by_cases e:j=i
   ·subst e;obtain rfl:o=p:=Option.some.inj (r.symm.trans aq);rw [if_pos rfl];have hs:(a.put o.dst v).tmps=a.tmps.setIfInBounds d v:=by unfold Act.put;rw [E]
    have ha:(a.tmps[d]?).isSome=(a0.tmps[d]?).isSome:=by
     have h7:=c.rest d (fun i' o' hi' a7 e=>by
      have:=B.once i' o' j o d hi' r E e;subst this;rw [L] at a7;cases a7)
     rw [h7]
    rw [hs,Array.getElem?_setIfInBounds,if_pos rfl];by_cases J:d<a.tmps.size
    ·rw [if_pos J];rw [Array.getElem?_eq_getElem J] at ha
     cases h8:a0.tmps[d]? with
     |none=>rw [h8] at ha;cases ha
     |some x=>rfl
    ·rw [if_neg J];rw [Array.getElem?_eq_none (Nat.le_of_not_lt J)] at ha
     cases h8:a0.tmps[d]? with
     |none=>rfl
     |some x=>rw [h8] at ha;cases ha
   ·rw [if_neg e,<-c.set j p d aq ((C j A).resolve_left e) E];unfold Act.put
    cases F:o.dst with
    |none=>rfl
    |some d'=>exact Array.getElem?_setIfInBounds_ne (fun e'=>e (B.once i o j p d r aq E (by rw [F,e'])).symm)
  ·rw [<-c.rest t (fun j p hp A=>ht j p hp (by rw [bW D,A,Bool.or_true]))];have h9:=ht i o r (by rw [bW D,decide_eq_true rfl,Bool.true_or]);unfold Act.put
   cases F:o.dst with
   |none=>rfl
   |some d'=>exact Array.getElem?_setIfInBounds_ne (fun e'=>h9 (by rw [F,e']))
 have Y:∀(b:Array Bool),b.size=l.length->∀j,j<n->b.getD j true=false->∃i,i<n∧i∈Region.ready .any l.toArray b:=by
  intro b J j
  induction j using Nat.strongRecOn with
  |_ j ih=>
   intro q A;have s:j<l.length:=by omega
   by_cases V:∃i,i<j∧b.getD i true=false
   ·obtain ⟨i,O,H⟩:=V;exact ih i O (by omega) H
   ·refine ⟨j,q,mem_ready.2 ⟨A,l[j],by rw [N];exact List.getElem?_eq_getElem s,fun e he G=> ?_⟩⟩;have L:=B.back j l[j] (List.getElem?_eq_getElem s) e he G
    cases r:b.getD e.on true with
    |false=>exact absurd ⟨e.on,L,r⟩ V
    |true=>
     have h3:e.on<b.size:=by rw [J];omega
     rw [Array.getD_eq_getD_getElem?,Array.getElem?_eq_getElem h3] at r ⊢;exact r
 intro f
 induction f with
 |zero=>
  intro b vs a w hf c;refine a5 b vs a w c (fun j q=> ?_)
  cases A:b.getD j true with
  |true=>rfl
  |false=>
   have:j∈qA n b:=List.mem_filter.2 ⟨List.mem_range.2 q,by rw [A];rfl⟩;rw [List.length_eq_zero_iff.1 hf] at this
   cases this
 |succ f ih=>
  intro b vs a w hf c;obtain ⟨j,q⟩:=List.exists_mem_of_length_pos (show 0<(qA n b).length by omega);obtain ⟨ck,cn⟩:=List.mem_filter.1 q;have X:=List.mem_range.1 ck;have s:b.getD j true=false:=by simpa using cn
  obtain ⟨i0,cx,a6⟩:=Y b c.size j X s;rw [show f+1+(l.length-n)=(f+(l.length-n))+1 by omega];refine ⟨fun h0=>(by rw [h0] at a6;cases a6),fun i H=> ?_⟩;have W:i<n:=by
   rcases Nat.lt_or_ge i n with h|h
   ·exact h
   ·obtain ⟨L,o,r,h3⟩:=mem_ready.1 H;rw [N] at r;have I:i<l.length:=(List.getElem?_eq_some_iff.1 r).1;have h7:=cs (fun m=>m<l.length∧b.getD m true=true) i h I (fun k m=>c.shut k m) (fun k hk=>by
     unfold bC at hk;rw [r] at hk;unfold ce at hk;obtain ⟨e,he,G⟩:=Array.any_eq_true'.1 hk;rw [Bool.and_eq_true,beq_iff_eq] at G;obtain ⟨G,rfl⟩:=G;have h8:=B.back i o r e he G;have h9:=h3 e he G;have b9:e.on<b.size:=by rw [c.size];omega
     refine ⟨by omega,?_⟩;rw [Array.getD_eq_getD_getElem?,Array.getElem?_eq_getElem b9] at h9 ⊢;exact h9) j X
    rw [s] at h7
    cases h7.2
  refine a3 _ _ _ _ _ ?_ (ax b vs a w i c W H);rintro a' w' ⟨a2,b7⟩;obtain ⟨L,_⟩:=mem_ready.1 H;have r:i<b.size:=by rw [c.size];omega
  have h3:i∈qA n b:=List.mem_filter.2 ⟨List.mem_range.2 W,by rw [L];rfl⟩;exact ih _ a2 a' w' (by have:=yg r h3;omega) b7
theorem el {S:Nat} {Q:Exit->Act->World->Prop} {a:Act} {w:World} {l:List Oper} (n d:Nat) (R R1:World->World->Prop) (Ps:Nat->Value->World->Prop) (nw:Nat->Bool) (J:P.follows .mixedOrders=true) (H:ek l=true) (z:dq l=true)
  (L:n<=l.length) (A:mZ l n) (B:Region.seqB .any l.toArray (l.length-n) n (eA l.length n)=true)
  (r:∀w,R1 w w) (f:∀w w',R1 w w'->R w w') (u:∀w1 w2 w3,R1 w1 w2->R1 w2 w3->R1 w1 w3) (x:∀w1 w2 w3,R w1 w2->R1 w2 w3->R w1 w3) (y:∀w1 w2 w3,R1 w1 w2->R w2 w3->R w1 w3) (s:∀j v w w',Ps j v w->R1 w w'->Ps j v w') (C:∀j v w w',j≠d->Ps j v w->R w w'->Ps j v w') (O:∀w w',R w w'->w.heap.size<=w'.heap.size)
  (h:∀F:(Nat->Value)->Act,(F=fun vs=>{a with tmps:=bg vs 0 (l.take n) a.tmps})->d9 P (bC l d) F w.drew d R R1 Ps nw 0 (l.take n)∧∀vs w',R w.drew w'->(∀j,j<n->Ps j (vs j) w')->(∀j,nw j=true->j<n->kR w.drew w' (vs j))->(∀i j,nw i=true->nw j=true->i<n->j<n->i≠j->cX (vs i)≠cX (vs j))->wpList P l.toArray Q (l.drop n) (F vs) w'):
  (Code.region S l.toArray true).wp P Q a w:=by
 obtain ⟨q,m⟩:=h _ rfl;refine wp_region_any J ?_;have b:∀j,(Array.replicate l.toArray.size false).getD j true=true->¬j<l.length:=fun j c e=>by
  have I:(Array.replicate l.toArray.size false).getD j true=false:=getD_in (by simpa using e) (getD_replicate_false _ _);rw [I] at c;cases c
 have N:(qA n (Array.replicate l.toArray.size false)).length=n:=by
  unfold qA;rw [List.filter_eq_self.2 (fun j e=> ?_),List.length_range];have:=List.mem_range.1 e
  cases c:(Array.replicate l.toArray.size false).getD j true with
  |false=>rfl
  |true=>exact absurd (show j<l.length by omega) (b j c)
 have M:l.toArray.size=n+(l.length-n):=by simp;omega
 have p:=eR H z;have g:(l.drop n).length=l.length-n:=by simp
 have:=lK (W1:=wpOp P l.toArray Q) (nw:=nw) (d:=d) (R:=R) (R1:=R1) (a0:=a) (w0:=w.drew) (Q:=Q) p (fun i K X a w h z=>wpOp_mono h z) (fun i o a w G E hp=>by
  unfold wpOp;simp only [show l.toArray[i]? =some o by simpa using E];rw [if_pos (by unfold Region.wanted;rw [p.guard i o E])];exact .inl hp.wp) L A f u x y s C O q (fun vs w' T U V W=> ?_) n (Array.replicate l.toArray.size false) (fun _=>undef) a w.drew N ⟨fun j _ e c=>absurd (show j<l.length by omega) (b j c),fun i j _ _ Y _ c _ _=>absurd (show i<l.length by omega) (b i c),by simp,fun j _ e=> ?_,fun k i D=>absurd D.1 (b k D.2),rfl,f _ _ (r _),fun _=>r _,fun j e c=>absurd (show j<l.length by omega) (b j c),fun j o d e c _=>absurd (List.getElem?_eq_some_iff.1 e).1 (b j c),fun t _=>rfl⟩
 ·rw [<-M] at this;exact qR _ _ _ _ this
 ·refine rM _ _ _ _ ?_;rw [<-g];exact wpAny_of_seq (l.drop n) n _ _ w' (fun j=>by simp [List.getElem?_drop]) (by rw [g];exact B) (m vs w' T U V W)
 ·cases c:(Array.replicate l.toArray.size false).getD j true with
  |false=>rfl
  |true=>exact absurd e (b j c)
theorem oH {l:List Oper} {n:Nat} (a:(decide (n<=l.length)&&oF l n&&Region.seqB .any l.toArray (l.length-n) n (eA l.length n))=true):n<=l.length∧mZ l n∧Region.seqB .any l.toArray (l.length-n) n (eA l.length n)=true:=by
 rw [Bool.and_eq_true,Bool.and_eq_true,decide_eq_true_eq] at a;exact ⟨a.1.1,oG a.1.2,a.2⟩
def mc (P:Program) (F:(Nat->Value)->Act) (w0:World) (R:World->World->Prop) (Ps:Nat->Value->World->Prop) (nw:Nat->Bool):Nat->List Oper->Prop
 |_,[]=>True
 |k,o::l=>(∀vs w,R w0 w->(∀j,ce o j=true->Ps j (vs j) w)->(∀i j,nw i=true->nw j=true->ce o i=true->ce o j=true->i≠j->cX (vs i)≠cX (vs j))->bO P (F vs).eval o w (fun v w'=>Ps k v w'∧R w w'∧(nw k=true->kR w w' v)))∧mc P F w0 R Ps nw (k+1) l
theorem nk {e:Nat->Bool} {F:(Nat->Value)->Act} {w0:World}:∀{l:List Oper} {k:Nat} (d:Nat),mc P F w0 R Ps nw k l->d9 P e F w0 d R R Ps nw k l
 |[],_,_,_=>trivial
 |o::l,k,d,h=>⟨fun vs w a _ b c=>by
   have:=h.1 vs w a b c
   cases (k==d)<;>exact this,nk d h.2⟩
theorem mK {t:Nat} {Q:Exit->Act->World->Prop} {a:Act} {w:World} {l:List Oper} (n:Nat) (R:World->World->Prop) (Ps:Nat->Value->World->Prop) (nw:Nat->Bool) (q:P.follows .mixedOrders=true) (m:ek l=true) (o:dq l=true)
  (p:(decide (n<=l.length)&&oF l n&&Region.seqB .any l.toArray (l.length-n) n (eA l.length n))=true)
  (e:∀w,R w w) (b:∀w1 w2 w3,R w1 w2->R w2 w3->R w1 w3) (c:∀j v w w',Ps j v w->R w w'->Ps j v w') (s:∀w w',R w w'->w.heap.size<=w'.heap.size)
  (h:∀F:(Nat->Value)->Act,(F=fun vs=>{a with tmps:=bg vs 0 (l.take n) a.tmps})->mc P F w.drew R Ps nw 0 (l.take n)∧∀vs w',R w.drew w'->(∀j,j<n->Ps j (vs j) w')->(∀j,nw j=true->j<n->kR w.drew w' (vs j))->(∀i j,nw i=true->nw j=true->i<n->j<n->i≠j->cX (vs i)≠cX (vs j))->wpList P l.toArray Q (l.drop n) (F vs) w'):
  (Code.region t l.toArray true).wp P Q a w:=
 let ⟨r,f,g⟩:=oH p
 el n n R R Ps nw q m o r f g e (fun _ _ h=>h) b b b c (fun j v w w' _=>c j v w w') s (fun F k=>⟨nk n (h F k).1,(h F k).2⟩)
def lN (R:World->World->Prop):List (Value->World->Prop)->Prop
 |[]=>True
 |p::l=>(∀v w w',p v w->R w w'->p v w')∧lN R l
def il (ps:List (Value->World->Prop)) (j:Nat):Value->World->Prop:=ps.getD j (fun _ _=>True)
theorem ir {R:World->World->Prop}:∀{ps:List (Value->World->Prop)} (j:Nat),lN R ps->∀v w w',il ps j v w->R w w'->il ps j v w'
 |[],_,_,_,_,_,_,_=>trivial
 |_::_,0,h,v,w,w',hp,hr=>h.1 v w w' hp hr
 |_::_,j+1,h,v,w,w',hp,hr=>ir (R:=R) j h.2 v w w' hp hr
def rU (vs:Nat->Value) (w:World):Nat->List (Value->World->Prop)->Prop
 |_,[]=>True
 |k,p::l=>p (vs k) w∧rU vs w (k+1) l
theorem jp {vs:Nat->Value} {w:World}:∀(ps:List (Value->World->Prop)) (k:Nat),(∀j,j<ps.length->il ps j (vs (k+j)) w)->rU vs w k ps
 |[],_,_=>trivial
 |p::l,k,h=>⟨h 0 (Nat.zero_lt_succ _),jp l (k+1) (fun j a=>by
   have:=h (j+1) (Nat.succ_lt_succ a);rw [show k+(j+1)=k+1+j by omega] at this;exact this)⟩
theorem en {s:Nat} {Q:Exit->Act->World->Prop} {a:Act} {w:World} {l:List Oper} (n:Nat) (R:World->World->Prop) (ps:List (Value->World->Prop)) (nw:Nat->Bool) (p:P.follows .mixedOrders=true) (f:ek l=true) (g:dq l=true)
  (k:(decide (n<=l.length)&&oF l n&&Region.seqB .any l.toArray (l.length-n) n (eA l.length n))=true) (x:ps.length=n)
  (b:∀w,R w w) (e:∀w1 w2 w3,R w1 w2->R w2 w3->R w1 w3) (r:∀w w',R w w'->w.heap.size<=w'.heap.size) (c:lN R ps)
  (h:∀F:(Nat->Value)->Act,(F=fun vs=>{a with tmps:=bg vs 0 (l.take n) a.tmps})->mc P F w.drew R (il ps) nw 0 (l.take n)∧∀vs w',R w.drew w'->rU vs w' 0 ps->(∀i j,nw i=true->nw j=true->i<n->j<n->i≠j->cX (vs i)≠cX (vs j))->wpList P l.toArray Q (l.drop n) (F vs) w'):
  (Code.region s l.toArray true).wp P Q a w:=by
 refine mK n R (il ps) nw p f g k b e (fun j=>ir j c) r (fun F m=> ?_);obtain ⟨t,u⟩:=h F m;refine ⟨t,fun vs w' q hp _ o=>u vs w' q (jp ps 0 (fun j v=> ?_)) o⟩;rw [Nat.zero_add];exact hp j (by omega)
def oL (R:World->World->Prop) (d:Nat):Nat->List (Value->World->Prop)->Prop
 |_,[]=>True
 |k,p::l=>((k==d)=true∨∀v w w',p v w->R w w'->p v w')∧oL R d (k+1) l
theorem ku {R:World->World->Prop} {d:Nat}:∀{ps:List (Value->World->Prop)} (k j:Nat),oL R d k ps->k+j≠d->∀v w w',il ps j v w->R w w'->il ps j v w'
 |[],_,_,_,_,_,_,_,_,_=>trivial
 |_::_,k,0,h,hd,v,w,w',hp,hr=>by
  rcases h.1 with a|a
  ·exact absurd (beq_iff_eq.1 a) hd
  ·exact a v w w' hp hr
 |_::_,k,j+1,h,hd,v,w,w',hp,hr=>ku (R:=R) (d:=d) (k+1) j h.2 (by omega) v w w' hp hr
theorem kp {C:Nat} {Q:Exit->Act->World->Prop} {a:Act} {w:World} {l:List Oper} (n d:Nat) (R R1:World->World->Prop) (ps:List (Value->World->Prop)) (nw:Nat->Bool) (z:P.follows .mixedOrders=true) (r:ek l=true) (s:dq l=true)
  (t:(decide (n<=l.length)&&oF l n&&Region.seqB .any l.toArray (l.length-n) n (eA l.length n))=true) (G:ps.length=n)
  (m:∀w,R1 w w) (g:∀w w',R1 w w'->R w w') (c:∀w1 w2 w3,R1 w1 w2->R1 w2 w3->R1 w1 w3) (e:∀w1 w2 w3,R w1 w2->R1 w2 w3->R w1 w3) (f:∀w1 w2 w3,R1 w1 w2->R w2 w3->R w1 w3) (B:∀w w',R w w'->w.heap.size<=w'.heap.size) (b:lN R1 ps) (q:oL R d 0 ps)
  (h:∀F:(Nat->Value)->Act,(F=fun vs=>{a with tmps:=bg vs 0 (l.take n) a.tmps})->d9 P (bC l d) F w.drew d R R1 (il ps) nw 0 (l.take n)∧∀vs w',R w.drew w'->rU vs w' 0 ps->(∀i j,nw i=true->nw j=true->i<n->j<n->i≠j->cX (vs i)≠cX (vs j))->wpList P l.toArray Q (l.drop n) (F vs) w'):
  (Code.region C l.toArray true).wp P Q a w:=by
 obtain ⟨A,o,p⟩:=oH t;refine el n d R R1 (il ps) nw z r s A o p m g c e f (fun j=>ir j b) (fun j v w w' y hp k=>ku 0 j q (by omega) v w w' hp k) B (fun F u=> ?_);obtain ⟨D,E⟩:=h F u;refine ⟨D,fun vs w' k hp _ x=>E vs w' k (jp ps 0 (fun j y=> ?_)) x⟩;rw [Nat.zero_add];exact hp j (by omega)
end
end Go.Proofs.YthahbijbpinneaaGreatDoor
