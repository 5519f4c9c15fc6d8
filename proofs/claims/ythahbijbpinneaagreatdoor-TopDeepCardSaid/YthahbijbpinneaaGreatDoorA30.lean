import Derived.Test.YthahbijbpinneaaGreatDoorA24
import Derived.Test.YthahbijbpinneaaGreatDoorA28
set_option maxRecDepth 100000
set_option maxHeartbeats 8000000
set_option linter.all false
namespace Go.Proofs.YthahbijbpinneaaGreatDoor
open Go.RowKit
section
variable {b u n s x v i:Nat} {c:Cf} {A A':AG} {rs:List Nat} {T:Nat->Prop} {w w1 w' w'':World}
theorem nY {p f g i:Nat} (a:bl p f g) (d:p+f<=i) (e:i<p+f+g):bK p f g i=3:=by
 unfold bK co;rw [if_pos a,if_neg (by omega),if_neg (by omega),if_neg (by omega)]
theorem ln (U:bM b c A rs u n T w) (J:rs[s]? =some x) (F:x≠0):∃G,∃B:Nat,(∀w1,Fr (fun _=>False) w w1->∀xb C:Nat,w1.cell? ⟨xb,0,none⟩=some (.int .i64 s)->Calls Tryz.prog 60 #[b,.slice (some ⟨xb,0,none⟩) 1 C] w1 (t8 [B] w1))∧
  (∀w1,Fr (fun _=>False) w w1->Calls Tryz.prog 62 #[b] w1 fun e w'=>e= .returned G∧w1=w')∧
  (∀w1 i v,Fr (fun _=>False) w w1->A.np x+A.nf x<=i->i<A.np x+A.nf x+A.ng x->v<18446744073709551616->Calls Tryz.prog 85 #[G,.int .i64 B,.int .i64 ((i:Nat):Int),.int .u64 ((v:Nat):Int)] w1 fun e w'=>e= .returned (.int .i64 0)∧eX b c (A.put x i v) rs T w w')∧
  (∀w1 i,Fr (fun _=>False) w w1->A.np x+A.nf x<=i->i<A.np x+A.nf x+A.ng x->Calls Tryz.prog 86 #[G,.int .i64 B,.int .i64 ((i:Nat):Int)] w1 fun e w'=>e= .returned (.tuple #[.int .u64 ((A.fld x i:Nat):Int),.int .i64 0])∧eX b c A rs T w w'∧w1.heap.size<=w'.heap.size):=by
 obtain ⟨h,φ,L,Ba,ub,M,Z,Y,S,rfl,f,H,R⟩:=U;have V:=f.half.top;obtain ⟨Q,_⟩:=f.cok.W5;have p:=f.fits;have o:Reach A.gr rs x:= .root (List.mem_of_getElem? J) F;refine ⟨wK h.m M,φ x,fun w1 hf xb C P=> ?_,fun w1 hf=>dl (f.keep hf).blk,fun w1 i v hf q t K=> ?_,fun w1 i hf q t=> ?_⟩
 ·refine gX (f.keep hf).blk (f.keep hf).roots xb C [φ x] (fun j a y=> ?_) (by simp) (by simp)
  match j,y with
  |0,y=>
   obtain rfl:φ x=a:=Option.some.inj y;exact ⟨s,P,by rw [List.getElem?_map,J];rfl⟩
  |j+1,y=>exact absurd y (by simp)
 ·obtain ⟨W,X,N,O,r,I,dom,E,l,z,D,k,g⟩:=(f.keep hf).mem.space f.cok f.half p;have d:=f.laid.spot (i:=i) k (by omega) o (by omega);rw [E];refine (ot l z D (φ x) i _ _ _ v d.a1 d.a2 d.i1 d.d1 d.hd (nY d.hd.2 q t) d.d2 K).mono ?_;rintro e w' ⟨rfl,hp⟩;exact ⟨rfl,fz f H g (f.laid.put_val o (by omega) (by omega) K) hf hp⟩
 ·obtain ⟨W,X,N,O,r,I,dom,E,l,z,D,k,g⟩:=(f.keep hf).mem.space f.cok f.half p;have d:=f.laid.spot (i:=i) k (by omega) o (by omega);rw [E];refine (vC l D (φ x) i _ _ _ (A.fld x i) d.a1 d.a2 d.i1 d.d1 d.hd (nY d.hd.2 q t) d.d2 (f.laid.val x o i (by omega) (by omega)).1).mono ?_;rintro e w' ⟨rfl,hp⟩;exact ⟨rfl,fz f H g f.laid hf hp,hp.fr.size⟩
theorem xw (I:bM b c A rs u n T w) (M:rs[s]? =some x) (z:x≠0) (t:A.np x+A.nf x<=i) (y:i<A.np x+A.nf x+A.ng x) (N:v<18446744073709551616):Calls Tryz.prog 25 #[b,.int .i64 s,.int .i64 i,.int .u64 v] w fun e w'=>e= .returned (.int .i64 0)∧cB b c (A.put x i v) rs T w w':=by
 obtain ⟨P,B,D,E,F,_⟩:=ln I M z;obtain ⟨W1,m⟩:∃W1,w.alloc (.cells #[.int .i64 s] 3)=W1:=⟨_,rfl⟩;have d:Fr (fun _=>False) w W1:=by rw [<-m];exact (Fr.refl _ w).alloc _
 have r:aj W1 w.heap.size [.int .i64 s] 3:=by rw [<-m];exact aj.new w _ _
 have p:=ae (D W1 d w.heap.size 1 (r.cell 0 rfl));have a:=ae (fun w1 (hf:Fr (fun _=>False) W1 w1)=>E w1.drew ((d.trans hf (fun _ h=>h.elim)).drew));have q:=ae (fun w1 (hf:Fr (fun _=>False) W1 w1)=>F w1.drew i v ((d.trans hf (fun _ h=>h.elim)).drew) t y N);have o:=ae (fun w' (h:eX b c (A.put x i v) rs T w w')=>h.end_);clear D E F I d r M t y N z;generalize (cB b c (A.put x i v) rs T w)=Q at*;generalize (eX b c (A.put x i v) rs T w)=J at*
 go_enter Tryz.func25,Tryz.ntmps25
 go_wp2_with fail
 refine (p.out).mono ?_;rintro e w1 ⟨g,cap,rfl,G,hf⟩;have C:=G 0 B rfl;have O:w1.drew.cell? ⟨g,0,none⟩=some (.int .i64 B):=C;have j:=ae (a.out w1 hf);have k:=ae (q.out w1 hf);clear p a q G hf C m;rw [show [B].length=1 from rfl];go_wp2;have a:=j;clear j;refine aA (fun w'=>w'=w1.drew) 7 (by kernel_rfl) (by kernel_rfl) rfl ?_;simp only [List.take_succ_cons,List.take_zero,List.drop_succ_cons,List.drop_zero];refine ag (.pointer (some ⟨b,0,none⟩)) rfl (fun w' l=>by go_simp) ?_;simp only [Act.put,aa,ab,ac];refine az (P) 62 #[b] rfl (fun w'=>by go_simp) (fun w' l=>by subst l;exact (a.out).mono (fun e w' h=>⟨h.1,h.2.symm⟩)) ?_;simp only [Act.put,aa,ab,ac];refine ag (.slice (some ⟨g,0,none⟩) 1 cap) rfl (fun w' l=>by go_simp) ?_;simp only [Act.put,aa,ab,ac];refine ag (.pointer (some ⟨g,0,none⟩)) rfl (fun w' l=>by go_simp) ?_;simp only [Act.put,aa,ab,ac];refine ag (.int .i64 B) rfl (fun w' l=>by subst l;go_simp) ?_;simp only [Act.put,aa,ab,ac];refine ag (.int .i64 i) rfl (fun w' l=>by go_simp) ?_;simp only [Act.put,aa,ab,ac];refine ag (.int .u64 v) rfl (fun w' l=>by go_simp) ?_;simp only [Act.put,aa,ab,ac];refine wpQuiet_nil ?_;rintro w2 rfl;go_wp2_with fail
 refine (k.out).mono ?_;rintro e w3 ⟨rfl,K⟩;have f:=ae (o.out w3 K);clear k K o a O;go_wp2_with fail
 refine (f.out).mono ?_;rintro e w4 ⟨rfl,L⟩;have H:=ae L;clear f L;go_wp2;go_ret;exact ⟨rfl,H.out⟩
theorem xt (U:bM b c A rs u n T w) (W:rs[s]? =some x) (K:x≠0) (G:A.np x+A.nf x<=i) (I:i<A.np x+A.nf x+A.ng x):Calls Tryz.prog 26 #[b,.int .i64 s,.int .i64 i] w fun e w'=>e= .returned (.tuple #[.int .u64 ((A.fld x i:Nat):Int),.int .i64 0])∧cB b c A rs T w w':=by
 obtain ⟨Z,D,p,q,_,P⟩:=ln U W K;obtain ⟨W1,r⟩:∃W1,w.alloc (.cells #[.int .i64 s] 3)=W1:=⟨_,rfl⟩;have k:Fr (fun _=>False) w W1:=by rw [<-r];exact (Fr.refl _ w).alloc _
 have E:aj W1 w.heap.size [.int .i64 s] 3:=by rw [<-r];exact aj.new w _ _
 have B:=ae (p W1 k w.heap.size 1 (E.cell 0 rfl));have d:=ae (fun w1 (hf:Fr (fun _=>False) W1 w1)=>q w1.drew ((k.trans hf (fun _ h=>h.elim)).drew));have C:=ae (fun w1 (hf:Fr (fun _=>False) W1 w1)=>P w1.drew i ((k.trans hf (fun _ h=>h.elim)).drew) G I);have z:=ae (fun w' (h:eX b c A rs T w w')=>h.end_);clear p q P U k E W G I K;generalize (cB b c A rs T w)=Q at*;generalize (eX b c A rs T w)=J at*;generalize A.fld x i=y at*
 go_enter Tryz.func26,Tryz.ntmps26
 go_wp2_with fail
 refine (B.out).mono ?_;rintro e w1 ⟨g,cap,rfl,S,hf⟩;have N:=S 0 D rfl;have d0:w1.drew.cell? ⟨g,0,none⟩=some (.int .i64 D):=N;have m:=ae (d.out w1 hf);have o:=ae (C.out w1 hf);clear B d C S hf N r;rw [show [D].length=1 from rfl];go_wp2;have d:=m;clear m;refine aS 12 6 (fun a M=>a.heap.size<=M.heap.size) (fun a M=>M=a) [.c (.pointer (some ⟨b,0,none⟩)),.c (Z),.c (.slice (some ⟨g,0,none⟩) 1 cap),.c (.pointer (some ⟨g,0,none⟩)),.c (.int .i64 D),.c (.int .i64 i),.w (.tuple #[.int .u64 y,.int .i64 0]) (J),.c (.tuple #[.int .u64 y,.int .i64 0]),.c (.int .u64 y),.c (.int .i64 0),.c (.int .u64 y),.c (.int .i64 0)] (fun j=>false) (by kernel_rfl) (by kernel_rfl) (by kernel_rfl) (by kernel_rfl) rfl (fun _=>rfl) (fun _ _ h=>by subst h;exact Nat.le_refl _) (fun _ _ _ p q=>q.trans p) (fun _ _ _ p q=>by subst q;exact p) (fun _ _ _ p q=>by subst p;exact q) (fun _ _ h=>h) ⟨fun w1 w2 h hr=>by subst hr;exact h,trivial⟩ ⟨.inl rfl,trivial⟩ ?_;intro F R;simp only [cU,PK.val,List.take_succ_cons,List.take_zero,aa,ab,ac] at R;subst R;refine ⟨by
  refine ⟨?_,?_,?_,?_,?_,?_,?_,?_,?_,?_,?_,?_,trivial⟩<;>intro vs w1 X t hd Y
  all_goals try (apply oV;rotate_left;rfl;exact rfl;go_simp;done)
  all_goals try (apply oV;rotate_left;rfl;exact rfl;have f:=t (by kernel_rfl);subst f;go_simp;done)
  ·have f:=t (by kernel_rfl);subst f;refine ar 62 #[b] (by go_simp) ((d.out).mono ?_);rintro e w5 ⟨rfl,rfl⟩;exact ⟨_,rfl,rfl,rfl,fun h=>nomatch h⟩
  ·have f:=t (by kernel_rfl);subst f;refine ar 86 #[Z,.int .i64 D,.int .i64 i] (by go_simp) ((o.out).mono ?_);rintro e w5 ⟨rfl,L,hz⟩;exact ⟨_,rfl,⟨rfl,L⟩,hz,fun h=>nomatch h⟩
  ,fun vs w3 X hp Y=> ?_⟩
 obtain ⟨O,_⟩:=hp;have L:=O;have l:=ae (z.out w3 L);clear O Y X L o z d d0;simp only [List.drop_succ_cons,List.drop_zero];go_wp2_with fail
 refine (l.out).mono ?_;rintro e w4 ⟨rfl,V⟩;have H:=ae V;clear l V;go_wp2;go_ret2;exact ⟨rfl,H.out⟩
end
def wP (b:Nat) (c:Cf) (A':AG) (rs':List Nat) (T:Nat->Prop) (z:Nat) (w w':World):Prop:=∃u n T',bM b c A' rs' u n T' w'∧Fr T w w'∧∀k,T' k->T k∨z<=k
def eY (h:Hp) (c:Cf) (A:AG) (rs:List Nat) (φ:Nat->Nat) (Ba u ub:Nat) (T:Nat->Prop) (z:Nat) (w:World) (d:Bool) (w':World):Prop:=∃L cy n ns bs S,eT (fun _=>True) h c A rs φ L Ba u ub cy n ns bs S w'∧(∀k,S k->T k∨z<=k)∧Fr T w w'∧(d=true->n=0->cy=none)
section
variable {b u n s x t v i Ba ub zz:Nat} {h:Hp} {c:Cf} {A A':AG} {rs:List Nat} {φ:Nat->Nat} {T:Nat->Prop} {d:Bool} {w w1 w' w'':World}
theorem eY.end_ (g:eY h c A rs φ Ba u ub T zz w d w1) (q:T h.b):Calls Tryz.prog 63 #[h.b] w1 fun e w'=>e= .returned (.tuple #[])∧eY h c A rs φ Ba u ub T zz w true w'∧Fr (fun k=>k=h.b) w1 w':=by
 obtain ⟨L,C,n,D,B,S,r,y,z,_⟩:=g;refine (rn r).mono ?_;rintro e w' ⟨rfl,L',f,l,a,S',g1,o,m,p⟩;exact ⟨rfl,⟨L',f,n,l,a,S',g1,fun k j=>y k (p k j),z.trans m (fun k j=> .inl (by rw [j];exact q)),fun _=>o⟩,m⟩
theorem eY.hop (g:eY h c A rs φ Ba u ub T zz w true w1) (j:∀k,eZ h ub (fun _=>False) k->T k):wP h.b c A rs T zz w w1:=by
 obtain ⟨L,f,n,l,e,S,m,o,p,q⟩:=g;exact ⟨u,n,eZ h ub S,⟨h,φ,L,Ba,ub,f,l,e,S,rfl,m,fun _=>Iff.rfl,q rfl⟩,p,fun k a=>a.elim (o k) (fun a=> .inl (j k (.inr a)))⟩
theorem eY.slot (g:eY h c A rs φ Ba u ub T w.heap.size w true w1) (f:∀k,eZ h ub (fun _=>False) k->T k) (q:s<c.Sl) {z:Nat} (r:z=0∨Reach A.gr rs z):∃l,w1.cell? ⟨h.b,9,none⟩=some (.pointer (some ⟨l,0,none⟩))∧Calls Tryz.prog 56 #[.pointer (some ⟨l,0,none⟩),.int .i64 s,.int .i64 (φ z:Int)] w1 fun e w'=>e= .returned (.int .i64 0)∧cB h.b c A (rs.set s z) T w w':=by
 obtain ⟨L,o,n,y,m,S,a,B,C,D⟩:=g;refine ⟨h.rb,aj.cell a.blk 9 rfl,(kt a.roots s (φ z) (by rw [List.length_map,a.Sl];exact q)).mono ?_⟩;rintro e w' ⟨rfl,E,j⟩;exact ⟨rfl,eY.hop ⟨L,o,n,y,m,S,a.slot r E j,B,C.trans j (fun k p=> .inl (f k (.inr (.inr (.inr (.inl p)))))),D⟩ f⟩
theorem nS {h:Hp} {L:Nat->Nat} {e:Option Nat} {r j:Int} {S:Nat->Prop} (q:eT (fun _=>True) h c A rs φ L Ba u ub e n r j S w) (p:∀k,T k↔eZ h ub S k) {I:dZ} (a:∀L' S' w',I L' S' w'->∃g,oS c h.m Ba (Ba+u) (fun _=>True) L' S' w' e g) (hf:Fr (fun _=>False) w w1) (hp:dz I L S w1 w'):eY h c A rs φ Ba u ub T w.heap.size w false w':=by
 obtain ⟨S',g1,l,o⟩:=hp;obtain ⟨g,y⟩:=a _ _ _ g1;have z:=hf.size;exact ⟨L,e,g,r,j,S',(q.keep hf).turn l o y q.laid,fun k f=>(o k f).elim (fun h=> .inl ((p k).2 (.inl h))) (fun h=> .inr (by omega)),(hf.mono (fun _ h=>h.elim)).trans l (fun k f=> .inl ((p k).2 (.inl f))),fun h=>nomatch h⟩
theorem pV (hi:bM b c A rs u n T w) (U:s<c.Sl) (V:rs[t]? =some x) (O:x≠0) (y:i<A.np x):∃X,∃a0 P p:Nat,∃J K:World->Prop,(∀w1,Fr (fun _=>False) w w1->∀xb G:Nat,w1.cell? ⟨xb,0,none⟩=some (.int .i64 s)->w1.cell? ⟨xb,1,none⟩=some (.int .i64 t)->Calls Tryz.prog 60 #[b,.slice (some ⟨xb,0,none⟩) 2 G] w1 (t8 [a0,P] w1))∧
  (∀w1,Fr (fun _=>False) w w1->Calls Tryz.prog 62 #[b] w1 fun e w'=>e= .returned X∧w1=w')∧
  (∀w1,Fr (fun _=>False) w w1->Calls Tryz.prog 87 #[X,.int .i64 P,.int .i64 i] w1 fun e w'=>e= .returned (.tuple #[.int .i64 p,.int .i64 0])∧J w'∧w1.heap.size<=w'.heap.size)∧
  (∀w1,J w1->Calls Tryz.prog 63 #[b] w1 fun e w'=>e= .returned (.tuple #[])∧K w')∧
  ∀w1,K w1->∃W,w1.cell? ⟨b,9,none⟩=some (.pointer (some ⟨W,0,none⟩))∧Calls Tryz.prog 56 #[.pointer (some ⟨W,0,none⟩),.int .i64 s,.int .i64 p] w1 fun e w'=>e= .returned (.int .i64 0)∧cB b c A (rs.set s (A.fld x i)) T w w':=by
 obtain ⟨h,φ,L,Ba,ub,Y,ns,bs,S,rfl,g,R,ah⟩:=hi;have ap:=g.half.top;obtain ⟨ad,_⟩:=g.cok.W5;have D:=g.fits;have z:Reach A.gr rs x:= .root (List.mem_of_getElem? V) O;have o:A.fld x i=0∨Reach A.gr rs (A.fld x i):=by
  by_cases F:A.fld x i=0
  ·exact .inl F
  ·exact .inr (AG.ptr_reach z y F)
 have B:∀k,eZ h ub (fun _=>False) k->T k:=fun k H=>(R k).2 (H.elim (fun h=>h.elim) .inr)
 have M:s<rs.length:=by rw [g.Sl];exact U
 refine ⟨wK h.m Y,φ rs[s],φ x,φ (A.fld x i),eY h c A rs φ Ba u ub T w.heap.size w false,eY h c A rs φ Ba u ub T w.heap.size w true,fun w1 hf xb G Q Z=> ?_,fun w1 hf=>dl (g.keep hf).blk,fun w1 hf=> ?_,fun w1 l=>(l.end_ (B _ (.inr (.inl rfl)))).mono (fun e w' h=>⟨h.1,h.2.1⟩),fun w1 H=>H.slot B U o⟩
 ·refine gX (g.keep hf).blk (g.keep hf).roots xb G [φ rs[s],φ x] (fun j a l=> ?_) (by simp) (by simp)
  match j,l with
  |0,l=>
   obtain rfl:φ rs[s]=a:=Option.some.inj l;exact ⟨s,Q,by rw [List.getElem?_map,List.getElem?_eq_getElem M];rfl⟩
  |1,l=>
   obtain rfl:φ x=a:=Option.some.inj l;exact ⟨t,Z,by rw [List.getElem?_map,V];rfl⟩
  |j+2,l=>exact absurd l (by simp)
 ·obtain ⟨ty,vv,fl,fs,r,I,dom,he,E,am,hI,C,q⟩:=(g.keep hf).mem.space g.cok g.half D;have f:=g.laid.spot (i:=i) C (by omega) z (by omega);have N:φ (A.fld x i)<2147483648:=by
   rcases o with F|o
   ·rw [F,g.laid.zero];omega
   ·have:=g.laid.lies _ o;have Q:1<=A.sz (A.fld x i):=by unfold AG.sz;omega
    omega
  rw [he];refine (fF E hI (φ x) i _ _ _ (φ (A.fld x i)) f.a1 f.a2 f.i1 f.d1 f.hd (nX f.hd.2 y) f.d2 (g.laid.ptr x z i y) N).mono ?_;rintro e w' ⟨rfl,hp⟩;exact ⟨rfl,nS g R q hf hp,hp.fr.size⟩
theorem uV (hi:bM b c A rs u n T w) (hs:s<c.Sl) (ht:rs[t]? =some x) (O:x≠0) (M:i<A.np x):Calls Tryz.prog 27 #[b,.int .i64 s,.int .i64 t,.int .i64 i] w fun e w'=>e= .returned (.int .i64 0)∧cB b c A (rs.set s (A.fld x i)) T w w':=by
 obtain ⟨sv,a0,L,p,J,K,r,y,V,W,X⟩:=pV hi hs ht O M;obtain ⟨W1,z⟩:∃W1,w.alloc (.cells #[.int .i64 s,.int .i64 t] 3)=W1:=⟨_,rfl⟩;have l:Fr (fun _=>False) w W1:=by rw [<-z];exact (Fr.refl _ w).alloc _
 have B:aj W1 w.heap.size [.int .i64 s,.int .i64 t] 3:=by rw [<-z];exact aj.new w _ _
 have E:=ae (r W1 l w.heap.size 2 (B.cell 0 rfl) (B.cell 1 rfl));have f:=ae (fun w1 (hf:Fr (fun _=>False) W1 w1)=>y w1.drew ((l.trans hf (fun _ h=>h.elim)).drew));have I:=ae (fun w1 (hf:Fr (fun _=>False) W1 w1)=>V w1.drew ((l.trans hf (fun _ h=>h.elim)).drew));have D:=ae W;have G:=ae X;clear r y V W X hi l B hs O ht M;generalize (cB b c A (rs.set s (A.fld x i)) T w)=Q at*
 go_enter Tryz.func27,Tryz.ntmps27
 go_wp2_with fail
 refine (E.out).mono ?_;rintro e w1 ⟨g,cap,rfl,Z,hf⟩;have U:=Z 1 L rfl;have d0:w1.drew.cell? ⟨g,1,none⟩=some (.int .i64 L):=U;have o:=ae (f.out w1 hf);have q:=ae (I.out w1 hf);clear E f I Z hf U z;rw [show [a0,L].length=2 from rfl];go_wp2;have f:=o;clear o;refine aS 12 6 (fun a R=>a.heap.size<=R.heap.size) (fun a R=>R=a) [.c (.pointer (some ⟨b,0,none⟩)),.c (sv),.c (.slice (some ⟨g,0,none⟩) 2 cap),.c (.pointer (some ⟨g,1,none⟩)),.c (.int .i64 L),.c (.int .i64 i),.w (.tuple #[.int .i64 p,.int .i64 0]) (J),.c (.tuple #[.int .i64 p,.int .i64 0]),.c (.int .i64 p),.c (.int .i64 0),.c (.int .i64 p),.c (.int .i64 0)] (fun j=>false) (by kernel_rfl) (by kernel_rfl) (by kernel_rfl) (by kernel_rfl) rfl (fun _=>rfl) (fun _ _ h=>by subst h;exact Nat.le_refl _) (fun _ _ _ r y=>y.trans r) (fun _ _ _ r y=>by subst y;exact r) (fun _ _ _ r y=>by subst r;exact y) (fun _ _ h=>h) ⟨fun w1 w2 h hr=>by subst hr;exact h,trivial⟩ ⟨.inl rfl,trivial⟩ ?_;intro F Y;simp only [cU,PK.val,List.take_succ_cons,List.take_zero,aa,ab,ac] at Y;subst Y;refine ⟨by
  refine ⟨?_,?_,?_,?_,?_,?_,?_,?_,?_,?_,?_,?_,trivial⟩<;>intro vs w1 hw C hd hx
  all_goals try (apply oV;rotate_left;rfl;exact rfl;go_simp;done)
  all_goals try (apply oV;rotate_left;rfl;exact rfl;have k:=C (by kernel_rfl);subst k;go_simp;done)
  ·have k:=C (by kernel_rfl);subst k;refine ar 62 #[b] (by go_simp) ((f.out).mono ?_);rintro e w5 ⟨rfl,rfl⟩;exact ⟨_,rfl,rfl,rfl,fun h=>nomatch h⟩
  ·have k:=C (by kernel_rfl);subst k;refine ar 87 #[sv,.int .i64 L,.int .i64 i] (by go_simp) ((q.out).mono ?_);rintro e w5 ⟨rfl,P,hz⟩;exact ⟨_,rfl,⟨rfl,P⟩,hz,fun h=>nomatch h⟩
  ,fun vs w3 hw hp hx=> ?_⟩
 obtain ⟨P,_⟩:=hp;have m:=ae (D.out w3 P);clear hx hw P q D f d0;simp only [List.drop_succ_cons,List.drop_zero];go_wp2_with fail
 refine (m.out).mono ?_;rintro e w4 ⟨rfl,hk⟩;obtain ⟨rb,k9,N⟩:=G.out w4 hk;have S:=ae N;clear m G hk N;go_wp2_with fail
 refine (S.out).mono ?_;rintro e w5 ⟨rfl,hq⟩;have H:=ae hq;clear S hq k9;go_wp2;go_ret;exact ⟨rfl,H.out⟩
end
section
variable {b u n s x t v i Ba ub zz:Nat} {h:Hp} {c:Cf} {A A':AG} {rs:List Nat} {φ:Nat->Nat} {T:Nat->Prop} {d:Bool} {w w1 w2 w3 w' w'':World}
theorem tf (j:Value):Calls Tryz.prog 88 #[j,.int .i64 0] w fun e w'=>e= .returned (.tuple #[bN 0 0 0,.int .i64 18])∧Fr (fun _=>False) w w':=by
 have f:Hid (∀W,W=w.alloc (.cells #[.int .i64 0,.int .i64 0,.int .i64 0] 31)->Fr (fun _=>False) w W∧aj W w.heap.size [.int .i64 0,.int .i64 0,.int .i64 0] 31):=by
  show∀W,_
  rintro W rfl;exact ⟨(Fr.refl _ w).alloc _,aj.new w _ _⟩
 have a:Hid ((Tryz.prog.info? 31).map (·.size)=some 3):=by show _=_;kernel_rfl
 unfold bN
 go_enter Tryz.func88,Tryz.ntmps88
 go_wp2;obtain ⟨hf,g⟩:=f.out _ rfl;refine bodyPost_ret (cg rfl _ _ _ _ _ _ _ rfl g Tryz.underlying31 rfl a.out) rfl ?_;exact ⟨rfl,hf⟩
theorem eY.apart (hf:Fr (fun _=>False) w w1) (g:eY h c A rs φ Ba u ub T w1.heap.size w1 d w2) (p:∀k,T k->k<w.heap.size) (q:∀k,eZ h ub (fun _=>False) k->T k) (E:aN<w.heap.size) (f:Fr (fun k=>w.heap.size<=k∧(k<w1.heap.size∨w2.heap.size<=k)) w2 w3):eY h c A rs φ Ba u ub T w1.heap.size w d w3:=by
 obtain ⟨L,o,n,z,m,S,j,l,B,C⟩:=g;have F:=hf.size;have r:=j.lt;refine ⟨L,o,n,z,m,S,j.stays f (fun k a y=> ?_) (fun h=>by omega),l,((hf.mono (S':=T) (fun _ h=>h.elim)).trans B (fun k a=> .inl a)).trans f (fun k a=> .inr a.1),C⟩
 ·have D:=r k a;have e:T k∨w1.heap.size<=k:=a.elim (l k) (fun h=> .inl (q k (.inr h)));rcases e with e|e
  ·have:=p k e;omega
  ·omega
theorem nV (R:bM b c A rs u n T w) (Z:rs[s]? =some x):∃sv,∃W:Nat,∃p f g:Int,∃X:Int,∃J:World->World->Prop,(.tuple #[bN p f g,.int .i64 X]=if x=0 then Value.tuple #[bN 0 0 0,.int .i64 18] else .tuple #[bN (A.np x) (A.nf x) (A.ng x),.int .i64 0])∧
  (∀w1,Fr (fun _=>False) w w1->∀xb F:Nat,w1.cell? ⟨xb,0,none⟩=some (.int .i64 s)->Calls Tryz.prog 60 #[b,.slice (some ⟨xb,0,none⟩) 1 F] w1 (mS [W] w1))∧
  (∀w1,Fr (fun _=>False) w w1->Calls Tryz.prog 62 #[b] w1 fun e w'=>e= .returned sv∧w1=w')∧
  (∀w1,Fr (fun _=>False) w w1->Calls Tryz.prog 88 #[sv,.int .i64 W] w1 fun e w'=>e= .returned (.tuple #[bN p f g,.int .i64 X])∧J w1 w'∧Fr T w1 w')∧
  (∀w1 w2 w3,Fr (fun _=>False) w w1->J w1 w2->Fr (fun k=>w.heap.size<=k∧(k<w1.heap.size∨w2.heap.size<=k)) w2 w3->Calls Tryz.prog 63 #[b] w3 fun e w'=>e= .returned (.tuple #[])∧wP b c A rs T w1.heap.size w w'∧Fr T w3 w'):=by
 have U:=R.lt;have V:=R.tab.2.1;obtain ⟨h,φ,L,Ba,ub,P,ns,bs,S,rfl,l,O,ah⟩:=R;have ap:=l.half.top;obtain ⟨ad,_⟩:=l.cok.W5;have K:=l.fits;have z:∀k,eZ h ub (fun _=>False) k->T k:=fun k D=>(O k).2 (D.elim (fun h=>h.elim) .inr)
 have o:∀w1,Fr (fun _=>False) w w1->∀xb F:Nat,w1.cell? ⟨xb,0,none⟩=some (.int .i64 s)->Calls Tryz.prog 60 #[h.b,.slice (some ⟨xb,0,none⟩) 1 F] w1 (mS [φ x] w1):=fun w1 hf xb F Q=>by
  refine lk (l.keep hf).blk (l.keep hf).roots xb F [φ x] (fun j a C=> ?_) (by simp) (by simp)
  match j,C with
  |0,C=>
   obtain rfl:φ x=a:=Option.some.inj C;exact ⟨s,Q,by rw [List.getElem?_map,Z];rfl⟩
  |j+1,C=>exact absurd C (by simp)
 have y:∀w1 w2 w3,Fr (fun _=>False) w w1->eY h c A rs φ Ba u ub T w1.heap.size w1 false w2->Fr (fun k=>w.heap.size<=k∧(k<w1.heap.size∨w2.heap.size<=k)) w2 w3->Calls Tryz.prog 63 #[h.b] w3 fun e w'=>e= .returned (.tuple #[])∧wP h.b c A rs T w1.heap.size w w'∧Fr T w3 w':=fun w1 w2 w3 hf C hx=>by
  have Y:=z _ (.inr (.inl rfl));refine ((eY.apart hf C U z V hx).end_ Y).mono ?_;rintro e w' ⟨rfl,g,q⟩;exact ⟨rfl,g.hop z,q.mono (fun k D=> .inl (by rw [D];exact Y))⟩
 by_cases E:x=0
 ·subst E;have hz:=l.laid.zero;rw [hz] at o;refine ⟨wK h.m P,0,0,0,0,18,fun w1 w2=>eY h c A rs φ Ba u ub T w1.heap.size w1 false w2,(if_pos rfl).symm,o,fun w1 hf=>dl (l.keep hf).blk,fun w1 hf=>(tf _).mono ?_,y⟩;rintro e w' ⟨rfl,q⟩;have H:=q.mono (S':=T) (fun _ h=>h.elim);exact ⟨rfl,⟨L,P,n,ns,bs,S,(l.keep hf).keep q,fun k D=> .inl ((O k).2 (.inl D)),H,fun h=>nomatch h⟩,H⟩
 ·have N:Reach A.gr rs x:= .root (List.mem_of_getElem? Z) E;refine ⟨wK h.m P,φ x,A.np x,A.nf x,A.ng x,0,fun w1 w2=>eY h c A rs φ Ba u ub T w1.heap.size w1 false w2,(if_neg E).symm,o,fun w1 hf=>dl (l.keep hf).blk,fun w1 hf=> ?_,y⟩;obtain ⟨ty,vv,fl,fs,r,I,dom,he,M,am,hI,G,B⟩:=(l.keep hf).mem.space l.cok l.half K;have Q:=l.laid.lies x N;have h2:=l.laid.one;unfold AG.sz at Q;rw [he];refine (eB M hI (φ x) _ _ _ (by omega) (G _ (by omega) (by omega)) (l.laid.head x N)).mono ?_;rintro e w' ⟨rfl,hp⟩;exact ⟨rfl,nS (l.keep hf) O B (Fr.refl _ _) hp,hp.fr.mono (fun k D=> .inl ((O k).2 (.inl D)))⟩
def Au (b:Nat) (c:Cf) (A:AG) (rs:List Nat) (T:Nat->Prop) (w:World) (p f g:Int) (r0 sb:Nat) (wx:World):Prop:=aj wx sb [.int .i64 p,.int .i64 f,.int .i64 g] 31∧aj wx r0 [.int .i64 0,.int .i64 0,.int .i64 0] 31∧sb≠r0∧¬T sb∧¬T r0∧Calls Tryz.prog 63 #[b] wx fun e w'=>e= .returned (.tuple #[])∧wP b c A rs T (r0+1) w w'∧Fr T wx w'
theorem sG (hi:bM b c A rs u n T w) (hs:rs[s]? =some x):Calls Tryz.prog 28 #[b,.int .i64 s] w fun e w'=>e= .returned (if x=0 then Value.tuple #[bN 0 0 0,.int .i64 18] else .tuple #[bN (A.np x) (A.nf x) (A.ng x),.int .i64 0])∧cB b c A rs T w w':=by
 have M:=hi.lt;obtain ⟨sv,P,p,f,g,cd,J,he,h1,h2,h3,h4⟩:=nV hi hs;rw [<-he];obtain ⟨O,X⟩:∃O,w.alloc (.cells #[.int .i64 0,.int .i64 0,.int .i64 0] 31)=O:=⟨_,rfl⟩;have a5:Fr (fun _=>False) w O:=by rw [<-X];exact (Fr.refl _ w).alloc _
 have a3:aj O w.heap.size [.int .i64 0,.int .i64 0,.int .i64 0] 31:=by rw [<-X];exact aj.new w _ _
 obtain ⟨W1,H⟩:∃W1,O.alloc (.cells #[.int .i64 s] 3)=W1:=⟨_,rfl⟩;have K:Fr (fun _=>False) w W1:=by rw [<-H];exact a5.alloc _
 have a4:aj W1 O.heap.size [.int .i64 s] 3:=by rw [<-H];exact aj.new O _ _
 have Q:aj W1 w.heap.size [.int .i64 0,.int .i64 0,.int .i64 0] 31:=by rw [<-H];exact a3.alloc _
 have G:¬T w.heap.size:=fun h=>by have:=M _ h;omega
 have ap:=ae (h1 W1 K O.heap.size 1 (a4.cell 0 rfl));have a8:Hid ((Tryz.prog.info? 31).map (·.size)=some 3):=by show _=_;kernel_rfl
 go_enter Tryz.func28,Tryz.ntmps28
 go_wp2_with fail
 refine (ap.out).mono ?_;rintro e w1 ⟨D,cap,rfl,a9,hc,hf⟩;have B:=K.trans hf (fun _ h=>h.elim);have I:=hc 0 P rfl;have bj:=K.size;have a7:¬T D:=fun h=>by have:=M _ h;omega
 have N:=Q.frame hf (fun h=>h);have r:=ae ((Fr.refl (fun _=>False) w1).drew);have y:=ae (fun o=>((Fr.refl (fun _=>False) w1).alloc o).drew);have z:=ae (fun o=>((Fr.refl (fun _=>False) w1).drew).alloc o);have ad:Hid (aj (w1.alloc (.cells #[.int .i64 0,.int .i64 0,.int .i64 0] 31)).drew w1.heap.size [.int .i64 0,.int .i64 0,.int .i64 0] 31):=ae (aj.new w1 _ _).drew;have ah:Hid (aj (w1.drew.alloc (.cells #[.int .i64 0,.int .i64 0,.int .i64 0] 31)) w1.heap.size [.int .i64 0,.int .i64 0,.int .i64 0] 31):=ae (aj.new w1.drew _ _);have q:=ae (fun w' (E:Fr (fun _=>False) w1 w')=>(show w'.cell? ⟨D,0,none⟩=some (.int .i64 P) from (World.cell?_of_block (w:=w1) (E.block _ (aD I) (fun h=>h))).trans I));have a2:=ae (fun w' (E:Fr (fun _=>False) w1 w')=>h2 w' (B.trans E (fun _ h=>h.elim)));have U:=ae (fun w' (E:Fr (fun _=>False) w1 w')=>h3 w' (B.trans E (fun _ h=>h.elim)));have a0:Hid (∀w' w'',Fr (fun _=>False) w1 w'->Fr T w' w''->w''.cell? ⟨D,0,none⟩=some (.int .i64 P)):=by
  show∀w' w'',_
  intro w' w'' q1 q2;exact (World.cell?_of_block (w:=w') (q2.block _ (aD (q.out w' q1)) a7)).trans (q.out w' q1)
 have aq:Hid (∀(w':World) o,w'.cell? ⟨D,0,none⟩=some (.int .i64 P)->(w'.alloc o).cell? ⟨D,0,none⟩=some (.int .i64 P)):=by
  show∀(w':World) o,_
  exact fun w' o Y=>(World.cell?_alloc_lt _ _ _ (World.block_lt_of_cell? _ _ Y)).trans Y
 have av:Hid (∀(w':World) (sb:Nat) (x0 x1 x2:Value),sb≠D->w'.cell? ⟨D,0,none⟩=some (.int .i64 P)->(((w'.setCell ⟨sb,0,none⟩ x0).setCell ⟨sb,1,none⟩ x1).setCell ⟨sb,2,none⟩ x2).cell? ⟨D,0,none⟩=some (.int .i64 P)):=by
  show∀(w':World) (sb:Nat) (x0 x1 x2:Value),_
  intro w' sb x0 x1 x2 bd Y;have hf:=(((Fr.refl (fun k=>k=sb) w').setCell ⟨sb,0,none⟩ (.inl rfl) x0).setCell ⟨sb,1,none⟩ (.inl rfl) x1).setCell ⟨sb,2,none⟩ (.inl rfl) x2;exact (World.cell?_of_block (a:=⟨D,0,none⟩) (hf.block _ (aD Y) (fun e=>bd (Eq.symm e)))).trans Y
 have bb:D<w1.heap.size:=aD I;have a1:Hid (¬T w1.heap.size):=ae (fun h=>by have:=M _ h;have:=B.size;omega)
 go_upto_region 4 with fail
 obtain ⟨m,Z⟩:∃m,m=w.heap.size:=⟨_,rfl⟩;rw [<-Z] at N G ⊢;have V:=ae (af Z hi.tab.2.1);have C:Hid (∀wr w2 S sb,Fr (fun _=>False) w1 wr->J wr w2->Fr T wr w2->aj S sb [.int .i64 p,.int .i64 f,.int .i64 g] 31->Fr (fun k=>k=sb) w2 S->w1.heap.size<=sb->(sb<wr.heap.size∨w2.heap.size<=sb)->Au b c A rs T w p f g m sb S):=by
  show∀wr w2 S sb,_
  intro wr w2 S sb q1 q2 q3 q4 q5 q6 q7;have bs:=B.size;have bo:=N.lt;refine ⟨q4,((N.frame q1 (fun h=>h)).frame q3 G).frame q5 (fun e=>by omega),by omega,fun h=>by have:=M _ h;omega,G,(h4 wr w2 S (B.trans q1 (fun _ h=>h.elim)) q2 (q5.mono (fun k L=> .inl ?_))).mono (fun e w' ⟨g1,⟨u,n,T',g2,g3,g4⟩,g5⟩=>⟨g1,⟨u,n,T',g2,g3,fun k L=>(g4 k L).imp id (fun h=>by have:=q1.size;omega)⟩,g5⟩)⟩;subst L;exact ⟨by omega,q7⟩
 clear h1 h2 h3 h4 hi hs he a5 a3 K a4 Q ap X H B I bj a7 a9 hc hf Z
 go_cut [7,8] from 20 to 28 (fun v7 v8 S=>∃sb:Nat,v8= .pointer (some ⟨sb,0,none⟩)∧v7= .int .i64 cd∧Hid (Au b c A rs T w p f g m sb S))
 case first=>
  unfold bN at U
  go_region_held3 (fun w'=>w'.cell? ⟨D,0,none⟩=some (.int .i64 P)) (with_reducible first
   |assumption
   |exact q.out _ r.out
   |exact q.out _ (y.out _)
   |exact q.out _ (z.out _)
   |exact aq.out _ _ (by assumption)
   |exact av.out _ _ _ _ _ (by omega) (by assumption)) (first
   |(go_at_call 62;refine (a2.out _ (by with_reducible first|exact r.out|exact y.out _|exact z.out _)).mono ?_;rintro e w3 ⟨rfl,rfl⟩)
   |(go_at_call 88;refine (U.out _ (by with_reducible first|exact r.out|exact y.out _|exact z.out _)).mono ?_;rintro e w4 ⟨rfl,hj,j⟩;have bk:=a0.out _ _ (by with_reducible first|exact r.out|exact y.out _|exact z.out _) j;(try (have l:aj w4 w1.heap.size [.int .i64 0,.int .i64 0,.int .i64 0] 31:=aj.frame (by with_reducible first|exact ad.out|exact ah.out) j a1.out;have k0:=l.cell 0 rfl;have k1:=l.cell 1 rfl;have k2:=l.cell 2 rfl;have l0:=l.free 0;have l1:=l.free 1;have l2:=l.free 2))))
  ·go_wp2;go_meet
   case rel=>exact ⟨_,rfl,rfl,ae (C.out _ w4 _ _ r.out hj j (aj.new w4 _ _) ((Fr.refl _ w4).alloc _) j.size (.inr (Nat.le_refl _)))⟩
  all_goals
   go_wp2;go_meet
   case rel=>exact ⟨_,rfl,rfl,ae (C.out _ w4 _ _ (by with_reducible first|exact y.out _|exact z.out _) hj j (((l.set 0 _).set 1 _).set 2 _) ((((Fr.refl (fun k=>k=w1.heap.size) w4).setCell ⟨w1.heap.size,0,none⟩ (.inl rfl) _).setCell ⟨w1.heap.size,1,none⟩ (.inl rfl) _).setCell ⟨w1.heap.size,2,none⟩ (.inl rfl) _) (Nat.le_refl _) (.inl (show w1.heap.size<(w1.alloc _).heap.size from by rw [World.size_alloc];exact Nat.lt_succ_self _)))⟩
 case rest=>
  obtain ⟨sb,rfl,rfl,hm⟩:=hcut;obtain ⟨b1,F,n1,n2,n3,R⟩:=hm.out;have HE:=ae R;have HB:=ae (af b1 (af F (af n2 n3)));clear hm b1 F n2 n3 R r y z q a2 U a0 aq av C ad ah a1 bb N;go_wp2_with fail
  refine (HE.out).mono ?_;rintro e w5 ⟨rfl,hq,j⟩;have b1:=HB.out.1.frame j HB.out.2.2.1;have F:=HB.out.2.1.frame j HB.out.2.2.2;obtain ⟨k0,k1,k2⟩:=bE b1;obtain ⟨c0,c1,c2⟩:=bE F;have l0:=F.free 0;have l1:=F.free 1;have l2:=F.free 2;have am:Hid (∀W,W=((w5.setCell ⟨m,0,none⟩ (.int .i64 p)).setCell ⟨m,1,none⟩ (.int .i64 f)).setCell ⟨m,2,none⟩ (.int .i64 g)->aj W m [.int .i64 p,.int .i64 f,.int .i64 g] 31∧cB b c A rs T w W):=by
   show∀W,_
   rintro W rfl;obtain ⟨u',n',T',g1,g2,g3⟩:=hq;have a6:=(((Fr.refl (fun k=>k=m) w5).setCell ⟨m,0,none⟩ (.inl rfl) (.int .i64 p)).setCell ⟨m,1,none⟩ (.inl rfl) (.int .i64 f)).setCell ⟨m,2,none⟩ (.inl rfl) (.int .i64 g);refine ⟨((F.set 0 _).set 1 _).set 2 _,u',n',T',g1.stays a6 (fun k L e=> ?_) (fun e=> ?_),g2.trans a6 (fun k L=> .inr ?_),fun k L=>(g3 k L).imp id (fun h=> ?_)⟩
   ·have e:k=m:=e;subst e;exact (g3 _ L).elim G (fun h=>by omega)
   ·have e:aN=m:=e;have:=V.out;omega
   ·have e:k=m:=L;have:=V.out;omega
   ·have:=V.out;omega
  clear hq j HB HE b1 F;go_wp2;obtain ⟨hb,Y⟩:=am.out _ rfl;refine bodyPost_ret (cg rfl _ _ _ _ _ _ _ rfl hb Tryz.underlying31 rfl a8.out) rfl ?_;exact ⟨rfl,Y⟩
end
section
variable {b xb:Nat} {c:Cf} {A A':AG} {rs rs' l:List Nat} {cs:List Value} {ty:TypeId} {w0 w w':World} {s x i v t:Nat}
theorem bu.set (h:bu b c A rs xb cs ty w0 w) (q:rs[s]? =some x) (f:x≠0) (a:A.np x+A.nf x<=i) (d:i<A.np x+A.nf x+A.ng x) (r:v<18446744073709551616):Calls Tryz.prog 25 #[b,.int .i64 s,.int .i64 i,.int .u64 v] w fun e w'=>e= .returned (.int .i64 0)∧bu b c (A.put x i v) rs xb cs ty w0 w':=by
 obtain ⟨u,n,T,j,k,m,o,p⟩:=h;refine (xw j q f a d r).mono ?_;rintro e w' ⟨rfl,g⟩;exact ⟨rfl,bu.hop k m o p g⟩
theorem bu.get (h:bu b c A rs xb cs ty w0 w) (q:rs[s]? =some x) (f:x≠0) (a:A.np x+A.nf x<=i) (d:i<A.np x+A.nf x+A.ng x):Calls Tryz.prog 26 #[b,.int .i64 s,.int .i64 i] w fun e w'=>e= .returned (.tuple #[.int .u64 ((A.fld x i:Nat):Int),.int .i64 0])∧bu b c A rs xb cs ty w0 w':=by
 obtain ⟨u,n,T,j,k,m,o,p⟩:=h;refine (xt j q f a d).mono ?_;rintro e w' ⟨rfl,g⟩;exact ⟨rfl,bu.hop k m o p g⟩
theorem bu.load (h:bu b c A rs xb cs ty w0 w) (p:s<c.Sl) (q:rs[t]? =some x) (d:x≠0) (a:i<A.np x):Calls Tryz.prog 27 #[b,.int .i64 s,.int .i64 t,.int .i64 i] w fun e w'=>e= .returned (.int .i64 0)∧bu b c A (rs.set s (A.fld x i)) xb cs ty w0 w':=by
 obtain ⟨u,n,T,f,j,k,m,o⟩:=h;refine (uV f p q d a).mono ?_;rintro e w' ⟨rfl,g⟩;exact ⟨rfl,bu.hop j k m o g⟩
theorem bu.shape0 (h:bu b c A rs xb cs ty w0 w) (o:rs[s]? =some 0):Calls Tryz.prog 28 #[b,.int .i64 s] w fun e w'=>e= .returned (.tuple #[.agg #[.int .i64 0,.int .i64 0,.int .i64 0],.int .i64 18])∧bu b c A rs xb cs ty w0 w':=by
 obtain ⟨u,n,T,d,f,j,k,m⟩:=h;refine (sG d o).mono ?_;rintro e w' ⟨a,g⟩;rw [if_pos rfl] at a;exact ⟨a,bu.hop f j k m g⟩
theorem ue.live2 (h:ue b c A rs l xb cs ty w0 w) (o:aJ A rs l):Calls Tryz.prog 19 #[b] w fun e w'=>e= .returned (.tuple #[.int .i64 (l.length:Int),.int .i64 (A.Wd l:Int)])∧ue b c A rs l xb cs ty w0 w':=by
 obtain ⟨T,g,d,f,j,m⟩:=h;refine (jR g o).mono ?_;rintro e w' ⟨rfl,g1,a⟩;exact ⟨rfl,T,g1,d,f,j.frame a f,m.trans a (fun k n=> .inr (d k n))⟩
end
structure kE (A:AG) (k:Nat):Prop where
 np:∀j,1<=j->j<=k->A.np j=2
 nf:∀j,1<=j->j<=k->A.nf j=0
 ng:∀j,1<=j->j<=k->A.ng j=1
 down:∀j,1<=j->j<=k->A.fld j ((j-1)% 2)=j-1
 side:∀j,1<=j->j<=k->∀i,i<2->A.fld j i<j
 wrd:∀j,1<=j->j<=k->A.fld j 2=j-1
section
variable {b xb m k i j r1 r2:Nat} {c:Cf} {A:AG} {rs:List Nat} {w0 w:World}
theorem kE.reach (h:kE A k) (e:∀r∈rs,r<=k) {z:Nat} (f:Reach A.gr rs z):1<=z∧z<=k:=by
 induction f with
 |root h1 h2=>exact ⟨by omega,e _ h1⟩
 | @step a p _ h1 h2 ih=>
  obtain ⟨i,d,rfl⟩:=List.mem_map.1 h1;have d:=List.mem_range.1 d;rw [h.np a ih.1 ih.2] at d;have:=h.side a ih.1 ih.2 i d;omega
theorem kE.all (h:kE A k) (e:k∈rs):∀d j,1<=j->j+d=k->Reach A.gr rs j
 |0,j,h1,h2=>by
  obtain rfl:j=k:=by omega
  exact .root e (by omega)
 |d+1,j,h1,h2=>by
  have f:=kE.all h e d (j+1) (by omega) (by omega);have a:=h.down (j+1) (by omega) (by omega);rw [Nat.add_sub_cancel] at a;have g:(j% 2)<A.np (j+1):=by rw [h.np (j+1) (by omega) (by omega)];omega
  have:=AG.ptr_reach f g (by rw [a];omega);rwa [a] at this
theorem kE.lives (h:kE A k) (e:∀r∈rs,r<=k) (d:k∈rs):aJ A rs (List.range' 1 k):=by
 refine ⟨List.nodup_range',fun x=> ?_⟩;rw [List.mem_range'_1];constructor
 ·intro a;exact h.all d (k-x) x a.1 (by omega)
 ·intro a;have:=h.reach e a;omega
theorem lS {m:Nat}:∀{l:List Nat},(∀x∈l,A.sz x=m)->A.Wd l=m*l.length
 |[],_=>rfl
 |x::l,h=>by
  have a:=lS (l:=l) (fun y d=>h y (List.mem_cons_of_mem _ d));unfold AG.Wd at*;rw [List.map_cons,List.sum_cons,a,h x List.mem_cons_self,List.length_cons,Nat.mul_succ,Nat.add_comm]
theorem kE.Wd (h:kE A k):A.Wd (List.range' 1 k)=4*k:=by
 have:=lS (A:=A) (m:=4) (l:=List.range' 1 k) (fun x a=>by
  have d:=List.mem_range'_1.1 a;unfold AG.sz;rw [h.np x (by omega) (by omega),h.nf x (by omega) (by omega),h.ng x (by omega) (by omega)])
 rwa [List.length_range'] at this
theorem kE.less (h:kE A k) (e:j<=k):kE A j:=⟨fun x a d=>h.np x a (by omega),fun x a d=>h.nf x a (by omega),fun x a d=>h.ng x a (by omega),fun x a d=>h.down x a (by omega),fun x a d=>h.side x a (by omega),fun x a d=>h.wrd x a (by omega)⟩
theorem kE.more (h:kE A k) (z:r2<=k):kE ((((A.new (k+1) 2 0 1).put (k+1) 2 k).put (k+1) (k% 2) k).put (k+1) (1-k% 2) r2) (k+1):=by
 obtain ⟨u,v,x,_,_⟩:=AG.new_self A (k+1) 2 0 1;have l:∀j,j<=k->(A.new (k+1) 2 0 1).np j=A.np j∧(A.new (k+1) 2 0 1).nf j=A.nf j∧(A.new (k+1) 2 0 1).ng j=A.ng j∧∀i,((((A.new (k+1) 2 0 1).put (k+1) 2 k).put (k+1) (k% 2) k).put (k+1) (1-k% 2) r2).fld j i=A.fld j i:=fun j y=>by
  obtain ⟨q,r,s,t,_⟩:=AG.new_other (A:=A) (p:=2) (f:=0) (g:=1) (show j≠k+1 by omega);refine ⟨q,r,s,fun i=> ?_⟩;show (if j=k+1∧_ then _ else if j=k+1∧_ then _ else if j=k+1∧_ then _ else _)=_
  rw [if_neg (by omega),if_neg (by omega),if_neg (by omega),t]
 have n:∀i,i<3->((((A.new (k+1) 2 0 1).put (k+1) 2 k).put (k+1) (k% 2) k).put (k+1) (1-k% 2) r2).fld (k+1) i=if i=1-k% 2 then r2 else k:=fun i o=>by
  show (if k+1=k+1∧i=1-k% 2 then r2 else if k+1=k+1∧i=k% 2 then k else if k+1=k+1∧i=2 then k else _)=_
  by_cases a:i=1-k% 2
  ·rw [if_pos ⟨rfl,a⟩,if_pos a]
  ·rw [if_neg (fun h=>a h.2),if_neg a];by_cases d:i=k% 2
   ·rw [if_pos ⟨rfl,d⟩]
   ·rw [if_neg (fun h=>d h.2),if_pos ⟨rfl,by omega⟩]
 refine ⟨fun j a d=> ?_,fun j a d=> ?_,fun j a d=> ?_,fun j a d=> ?_,fun j a d i o=> ?_,fun j a d=> ?_⟩
 ·by_cases e:j<=k
  ·exact (l j e).1.trans (h.np j a e)
  ·obtain rfl:j=k+1:=by omega
   exact u
 ·by_cases e:j<=k
  ·exact (l j e).2.1.trans (h.nf j a e)
  ·obtain rfl:j=k+1:=by omega
   exact v
 ·by_cases e:j<=k
  ·exact (l j e).2.2.1.trans (h.ng j a e)
  ·obtain rfl:j=k+1:=by omega
   exact x
 ·by_cases e:j<=k
  ·rw [(l j e).2.2.2];exact h.down j a e
  ·obtain rfl:j=k+1:=by omega
   rw [Nat.add_sub_cancel,n _ (by omega),if_neg (by omega)]
 ·by_cases e:j<=k
  ·rw [(l j e).2.2.2];exact h.side j a e i o
  ·obtain rfl:j=k+1:=by omega
   rw [n _ (by omega)];split<;>omega
 ·by_cases e:j<=k
  ·rw [(l j e).2.2.2];exact h.wrd j a e
  ·obtain rfl:j=k+1:=by omega
   rw [n _ (by omega),if_neg (by omega),Nat.add_sub_cancel]
def zG (b:Nat) (c:Cf) (A:AG) (rs:List Nat) (xb:Nat) (w0 w:World):Prop:=bu b c A rs xb [.int .i64 2,.int .i64 0,.int .i64 1] 31 w0 w∧c.Sl=3
def fg (b:Nat) (c:Cf) (k r1 r2 xb:Nat) (w0 w:World):Prop:=∃A,zG b c A [k,r1,r2] xb w0 w∧kE A k∧r1<=k∧r2<=k
def Al (b:Nat) (c:Cf) (k r2 xb:Nat) (w0 w:World):Prop:=∃A,zG b c (A.new (k+1) 2 0 1) [k,k+1,r2] xb w0 w∧kE A k∧r2<=k
def Am (b:Nat) (c:Cf) (k r2 xb:Nat) (w0 w:World):Prop:=∃A,zG b c ((A.new (k+1) 2 0 1).put (k+1) 2 k) [k,k+1,r2] xb w0 w∧kE A k∧r2<=k
def An (b:Nat) (c:Cf) (k r2 xb:Nat) (w0 w:World):Prop:=∃A,zG b c (((A.new (k+1) 2 0 1).put (k+1) 2 k).put (k+1) (k% 2) k) [k,k+1,r2] xb w0 w∧kE A k∧r2<=k
def Ao (b:Nat) (c:Cf) (k r2 xb:Nat) (w0 w:World):Prop:=∃A,zG b c A [k,k+1,r2] xb w0 w∧kE A (k+1)∧r2<=k
theorem fg.blk (h:fg b c k r1 r2 xb w0 w):aj w xb [.int .i64 2,.int .i64 0,.int .i64 1] 31:=let ⟨_,a,_⟩:=h;a.1.blk
theorem fg.lv (hg:kE A k) (d:r1<=k) (e:r2<=k):aJ A [k,r1,r2] (List.range' 1 k):=hg.lives (fun r a=>by simp at a;omega) (by simp)
theorem fg.alloc (h:fg b c k r1 r2 xb w0 w):Calls Tryz.prog 11 #[b,.int .i64 1,bN ((2:Nat):Int) ((0:Nat):Int) ((1:Nat):Int)] w fun e w'=>(e= .returned (.int .i64 0)∧Al b c k r2 xb w0 w')∨(e= .returned (.int .i64 21)∧fg b c k r1 r2 xb w0 w'):=by
 obtain ⟨A,⟨f,d⟩,hg,g1,a⟩:=h;refine (f.alloc2 (s:=1) (k:=k+1) (fg.lv hg g1 a) (by omega) (by unfold bl;omega) (by omega) (fun h=>by have:=List.mem_range'_1.1 h;omega)).mono ?_;rintro e w' (⟨_,rfl,q⟩|⟨_,rfl,q⟩)
 ·exact .inl ⟨rfl,A,⟨q,d⟩,hg,a⟩
 ·exact .inr ⟨rfl,A,⟨q,d⟩,hg,g1,a⟩
theorem Al.set (h:Al b c k r2 xb w0 w) (g:k<256):Calls Tryz.prog 25 #[b,.int .i64 1,.int .i64 2,.int .u64 k] w fun e w'=>e= .returned (.int .i64 0)∧Am b c k r2 xb w0 w':=by
 obtain ⟨A,⟨d,f⟩,hg,a⟩:=h;obtain ⟨l,n,o,_,_⟩:=AG.new_self A (k+1) 2 0 1;refine (d.set (s:=1) (i:=2) (v:=k) rfl (by omega) (by omega) (by omega) (by omega)).mono ?_;rintro e w' ⟨rfl,q⟩;exact ⟨rfl,A,⟨q,f⟩,hg,a⟩
theorem Am.store (h:Am b c k r2 xb w0 w):Calls Tryz.prog 13 #[b,.int .i64 1,.int .i64 ((k% 2:Nat):Int),.int .i64 0] w fun e w'=>e= .returned (.int .i64 0)∧An b c k r2 xb w0 w':=by
 obtain ⟨A,⟨d,f⟩,hg,a⟩:=h;obtain ⟨g,l,n,_,_⟩:=AG.new_self A (k+1) 2 0 1;refine (d.store (s:=1) (i:=k% 2) (u:=0) rfl (by omega) (show _<(A.new (k+1) 2 0 1).np (k+1) by omega) rfl).mono ?_;rintro e w' ⟨rfl,q⟩;exact ⟨rfl,A,⟨q,f⟩,hg,a⟩
theorem An.store (h:An b c k r2 xb w0 w):Calls Tryz.prog 13 #[b,.int .i64 1,.int .i64 ((1-k% 2:Nat):Int),.int .i64 2] w fun e w'=>e= .returned (.int .i64 0)∧Ao b c k r2 xb w0 w':=by
 obtain ⟨A,⟨d,f⟩,hg,a⟩:=h;obtain ⟨g,l,n,_,_⟩:=AG.new_self A (k+1) 2 0 1;refine (d.store (s:=1) (i:=1-k% 2) (u:=2) rfl (by omega) (show _<(A.new (k+1) 2 0 1).np (k+1) by omega) rfl).mono ?_;rintro e w' ⟨rfl,q⟩;exact ⟨rfl,_,⟨q,f⟩,hg.more a,a⟩
theorem Ao.copy (h:Ao b c k r2 xb w0 w):Calls Tryz.prog 15 #[b,.int .i64 0,.int .i64 1] w fun e w'=>e= .returned (.int .i64 0)∧fg b c (k+1) (k+1) r2 xb w0 w':=by
 obtain ⟨A,⟨a,d⟩,hg,f⟩:=h;refine (a.copy (s:=0) (u:=1) (by omega) rfl).mono ?_;rintro e w' ⟨rfl,q⟩;exact ⟨rfl,A,⟨q,d⟩,hg,by omega,by omega⟩
theorem fg.copy (h:fg b c k r1 r2 xb w0 w):Calls Tryz.prog 15 #[b,.int .i64 2,.int .i64 1] w fun e w'=>e= .returned (.int .i64 0)∧fg b c k r1 r1 xb w0 w':=by
 obtain ⟨A,⟨a,d⟩,hg,g1,f⟩:=h;refine (a.copy (s:=2) (u:=1) (by omega) rfl).mono ?_;rintro e w' ⟨rfl,q⟩;exact ⟨rfl,A,⟨q,d⟩,hg,g1,g1⟩
theorem fg.clear1 (h:fg b c k r1 r2 xb w0 w):Calls Tryz.prog 14 #[b,.int .i64 1] w fun e w'=>e= .returned (.int .i64 0)∧fg b c k 0 r2 xb w0 w':=by
 obtain ⟨A,⟨d,f⟩,hg,g1,a⟩:=h;refine (d.clear (s:=1) (by omega)).mono ?_;rintro e w' ⟨rfl,q⟩;exact ⟨rfl,A,⟨q,f⟩,hg,by omega,a⟩
theorem fg.clear2 (h:fg b c k r1 r2 xb w0 w):Calls Tryz.prog 14 #[b,.int .i64 2] w fun e w'=>e= .returned (.int .i64 0)∧fg b c k r1 0 xb w0 w':=by
 obtain ⟨A,⟨a,d⟩,hg,g1,f⟩:=h;refine (a.clear (s:=2) (by omega)).mono ?_;rintro e w' ⟨rfl,q⟩;exact ⟨rfl,A,⟨q,d⟩,hg,g1,by omega⟩
def zq (b:Nat) (c:Cf) (k xb:Nat) (w0 w:World):Prop:=∃A,ue b c A [k,0,0] (List.range' 1 k) xb [.int .i64 2,.int .i64 0,.int .i64 1] 31 w0 w∧c.Sl=3∧kE A k
theorem fg.collect (h:fg b c k 0 0 xb w0 w):Calls Tryz.prog 20 #[b] w fun e w'=>e= .returned (.tuple #[])∧zq b c k xb w0 w':=by
 obtain ⟨A,⟨d,f⟩,hg,g1,a⟩:=h;refine (d.collect (fg.lv hg g1 a)).mono ?_;rintro e w' ⟨rfl,q⟩;exact ⟨rfl,A,q,f,hg⟩
theorem zq.live (h:zq b c k xb w0 w):Calls Tryz.prog 19 #[b] w fun e w'=>e= .returned (.tuple #[.int .i64 k,.int .i64 ((4*k:Nat):Int)])∧zq b c k xb w0 w':=by
 obtain ⟨A,a,d,hg⟩:=h;refine (a.live2 (fg.lv hg (by omega) (by omega))).mono ?_;rintro e w' ⟨rfl,q⟩;rw [hg.Wd,List.length_range'];exact ⟨rfl,A,q,d,hg⟩
theorem zq.stats (h:zq b c k xb w0 w):Calls Tryz.prog 21 #[b] w fun e w'=>(∃(Us Hg:Nat) (d a:Int),e= .returned (.agg #[.int .i64 k,.int .i64 ((4*k:Nat):Int),.int .i64 ((4*k:Nat):Int),.int .i64 Us,.int .i64 Hg,.int .i64 d,.int .i64 a,.bool false,.int .i64 0]))∧fg b c k 0 0 xb w0 w':=by
 obtain ⟨A,f,g,hg⟩:=h;refine (f.stats (fg.lv hg (by omega) (by omega))).mono ?_;rintro e w' ⟨⟨Us,Hg,d,a,rfl⟩,q⟩;rw [hg.Wd,List.length_range'];exact ⟨⟨Us,Hg,d,a,rfl⟩,A,⟨q.toI,g⟩,hg,by omega,by omega⟩
theorem fg.get (h:fg b c (k+1) 0 0 xb w0 w):Calls Tryz.prog 26 #[b,.int .i64 0,.int .i64 2] w fun e w'=>e= .returned (.tuple #[.int .u64 k,.int .i64 0])∧fg b c (k+1) 0 0 xb w0 w':=by
 obtain ⟨A,⟨d,f⟩,hg,g1,a⟩:=h;have l:=hg.np (k+1) (by omega) (by omega);have n:=hg.nf (k+1) (by omega) (by omega);have o:=hg.ng (k+1) (by omega) (by omega);have g:=hg.wrd (k+1) (by omega) (by omega);refine (d.get (s:=0) (i:=2) rfl (by omega) (by omega) (by omega)).mono ?_;rintro e w' ⟨rfl,q⟩;rw [g,Nat.add_sub_cancel];exact ⟨rfl,A,⟨q,f⟩,hg,g1,a⟩
theorem fg.load (h:fg b c (k+1) 0 0 xb w0 w):Calls Tryz.prog 27 #[b,.int .i64 0,.int .i64 0,.int .i64 ((k% 2:Nat):Int)] w fun e w'=>e= .returned (.int .i64 0)∧fg b c k 0 0 xb w0 w':=by
 obtain ⟨A,⟨d,f⟩,hg,g1,g⟩:=h;have l:=hg.np (k+1) (by omega) (by omega);have a:=hg.down (k+1) (by omega) (by omega);rw [Nat.add_sub_cancel] at a;refine (d.load (s:=0) (t:=0) (i:=k% 2) (by omega) rfl (by omega) (by omega)).mono ?_;rintro e w' ⟨rfl,q⟩;rw [a] at q;exact ⟨rfl,A,⟨q,f⟩,hg.less (by omega),by omega,by omega⟩
theorem fg.shape (h:fg b c 0 0 0 xb w0 w):Calls Tryz.prog 28 #[b,.int .i64 0] w fun e w'=>e= .returned (.tuple #[.agg #[.int .i64 0,.int .i64 0,.int .i64 0],.int .i64 18])∧Fr (fun _=>False) w0 w':=by
 obtain ⟨A,⟨a,f⟩,hg,g1,d⟩:=h;refine (a.shape0 (s:=0) rfl).mono ?_;rintro e w' ⟨rfl,q⟩;exact ⟨rfl,q.fr⟩
end
def yC (w:World) (e:Ending) (w':World):Prop:=e= .returned (.bool true)∧Fr (fun _=>False) w w'
section
variable {v0 v1 v2 v3 v4 v5 v6:Int} {tr x1 x2:Nat} {w:World}
theorem qx (b1:v1<=9223372036854775807) (b2:v2<=9223372036854775807) (b3:v3<=9223372036854775807) (hT:bv w) (a1:x1<256) (a9:x2<256):Calls Tryz.prog 7 #[dY v0 v1 v2 v3 v4 v5 v6 tr,.int .u8 x1,.int .u8 x2] w (yC w):=by
 obtain ⟨V,a3⟩:∃V:Int,V=1+(x2:Int)% 3:=⟨_,rfl⟩;obtain ⟨W1,E⟩:∃W1,w.alloc (.cells #[.int .i64 v0,.int .i64 v1,.int .i64 v2,.int .i64 v3,.int .i64 3,.int .i64 V,.int .i64 v6,.float .f64 tr] 24)=W1:=⟨_,rfl⟩;have N:Fr (fun _=>False) w W1:=by rw [<-E];exact (Fr.refl _ w).alloc _
 have am:aj W1 w.heap.size [.int .i64 v0,.int .i64 v1,.int .i64 v2,.int .i64 v3,.int .i64 3,.int .i64 V,.int .i64 v6,.float .f64 tr] 24:=by rw [<-E];exact aj.new w _ _
 obtain ⟨k0,k1,k2,k3,k4,k5,k6,k7⟩:=cY am;have D:=ae (gZ (v0:=v0) (v4:=3) (v5:=V) (v6:=v6) (tr:=tr) b1 b2 b3 (ak hT N (fun h=>h)) ⟨fun _=>0,fun _=>0,fun _=>0,fun _ _=>0⟩ none 0 0);have p:=ae (fun w1 (hf:Fr (fun _=>False) w w1)=>eN w1 (ak hT hf (fun h=>h)));have i:=ae N;have U:Hid (∀w',Fr (fun _=>False) w w'->yC w (.returned (.bool true)) w'):=ae (fun w' h=>⟨rfl,h⟩);have R:IntKind.i64.wrap ((x2:Int)% 3)=(x2:Int)% 3:=by rw [IntKind.wrap_i64];omega
 have a0:IntKind.i64.wrap (1+(x2:Int)% 3)=V:=by rw [IntKind.wrap_i64];omega
 have HM:=ae a1;have bj:IntKind.i64.wrap (x1:Int)=(x1:Int):=by rw [IntKind.wrap_i64];omega
 have bd:wrap64 (x1:Int)=(x1:Int):=by unfold wrap64;omega
 clear b1 b2 b3 hT N am a1 a9 a3;unfold dY at D ⊢;generalize (yC w)=Q at*
 go_enter Tryz.func7,Tryz.ntmps7
 go_wp2_with fail
 refine (D.out).mono ?_;rintro e w2 a7;rcases a7 with ⟨rfl,q⟩|⟨c,b,T,hc,aq,a8,_,rfl,hi,ah,q⟩
 ·have ad:=ae (p.out w2 (i.out.trans q (fun _ h=>h.elim)));have Y:=ae (i.out.trans q (fun _ h=>h.elim));clear D p i HM q E k0 k1 k2 k3 k4 k5 k6 k7 R a0;go_wp2_with fail
  refine (ad.out).mono ?_;rintro e w3 ⟨rfl,r⟩;have H:=ae (U.out w3 (Y.out.trans r (fun _ h=>h.elim)));clear ad Y r U;go_wp2;exact H.out
 ·have hv:=Array.mk.inj (Value.agg.inj aq);simp only [List.cons.injEq,Value.int.injEq,true_and,and_true,Value.float.injEq] at hv;obtain ⟨e0,e1,e2,e3,e4,e5,e6,e7⟩:=hv;have P:c.Sl=3:=by omega
  clear e0 e1 e2 e3 e4 e5 e6 e7 aq E D a8 hc R a0;obtain ⟨W3,M⟩:∃W3,w2.alloc (.cells #[.int .i64 2,.int .i64 0,.int .i64 1] 31)=W3:=⟨_,rfl⟩;have r:Fr (fun _=>False) w2 W3:=by rw [<-M];exact (Fr.refl _ w2).alloc _
  have ap:aj W3 w2.heap.size [.int .i64 2,.int .i64 0,.int .i64 1] 31:=by rw [<-M];exact aj.new w2 _ _
  rw [P] at hi;have C:=ae (show fg b c 0 0 0 w2.heap.size W1 W3 from ⟨_,⟨⟨_,_,T,hi.keep r,ah,fun hk=>by have:=hi.lt _ hk;omega,ap,q.trans r (fun _ h=>h.elim)⟩,P⟩,⟨fun j h1 h2=>by omega,fun j h1 h2=>by omega,fun j h1 h2=>by omega,fun j h1 h2=>by omega,fun j h1 h2=>by omega,fun j h1 h2=>by omega⟩,Nat.le_refl _,Nat.le_refl _⟩);clear hi q ah ap r P k0 k1 k2 k3 k4 k5 k6 k7
  go_upto_region 6 with fail
  clear M;obtain ⟨xb,a2⟩:∃xb,xb=w2.heap.size:=⟨_,rfl⟩;rw [<-a2] at C ⊢;clear a2;go_wp2
  go_loopw [9] (fun z wr=>∃k r1 r2:Nat,z= .int .i64 k∧k<=x1∧Hid (fg b c k r1 r2 xb W1 wr)) (fun z _=>(x1-intOf z).toNat)
  case atStart=>exact ⟨0,0,0,rfl,by omega,C⟩
  case round=>
   clear C;obtain ⟨k,r1,r2,rfl,ax,o⟩:=hrel;by_cases av:k<x1
   ·have c1:(k:Int)<(x1:Int):=by omega
    obtain ⟨k0,k1,k2⟩:=bE o.out.blk;have s:=ae (o.out.alloc);unfold bN at s;rw [show ((0:Nat):Int)=0 from rfl,show ((2:Nat):Int)=2 from rfl,show ((1:Nat):Int)=1 from rfl] at s;have B:=ae (show k<256 by have:=HM.out;omega);clear o;go_wp2_with fail
    refine (s.out).mono ?_;rintro e w4 (⟨rfl,ha⟩|⟨rfl,ha⟩)
    ·have HS:=ae (ha.set B.out);have bo:IntKind.u64.wrap (k:Int)=(k:Int):=by rw [IntKind.wrap_u64];have:=B.out;omega
     clear s ha k0 k1 k2;go_wp2_with fail
     refine (HS.out).mono ?_;rintro e w5 ⟨rfl,a⟩;have HT:=ae a.store;rw [show ((k% 2:Nat):Int)=(k:Int)% 2 by omega] at HT;have R:IntKind.i64.wrap (1-(k:Int)% 2)=1-(k:Int)% 2:=by rw [IntKind.wrap_i64];omega
     clear HS a;go_wp2_with fail
     refine (HT.out).mono ?_;rintro e w6 ⟨rfl,a⟩;have K:=ae a.store;rw [show ((1-k% 2:Nat):Int)=1-(k:Int)% 2 by omega] at K;clear HT a;go_wp2_with fail
     refine (K.out).mono ?_;rintro e w7 ⟨rfl,a⟩;have G:=ae a.copy;clear K a;go_wp2_with fail
     refine (G.out).mono ?_;rintro e w8 ⟨rfl,a⟩;have bk:=B.out;clear G;by_cases h3:k% 3=0
     ·have c3:(k:Int)% 3=0:=by omega
      have g:=ae a.copy;clear a h3;go_wp2_with fail
      refine (g.out).mono ?_;rintro e f ⟨rfl,a⟩;have J:=ae a;clear g a;go_wp2;go_roundw
      case rel=>exact ⟨k+1,_,_,by go_num,by omega,J⟩
      case measure=>simp [intOf];omega
     ·have c3:¬(k:Int)% 3=0:=by omega
      have d3:decide ((k:Int)% 3=0)=false:=decide_eq_false c3;have J:=ae a;clear a h3;go_wp2;go_roundw
      case rel=>exact ⟨k+1,_,_,by go_num,by omega,J⟩
      case measure=>simp [intOf];omega
    ·have W:=ae ha;clear s ha k0 k1 k2 c1 av ax;have G:=ae W.out.clear1;clear W;go_wp2_with fail
     refine (G.out).mono ?_;rintro e w5 ⟨rfl,a⟩;have g:=ae a.clear2;clear G a;go_wp2_with fail
     refine (g.out).mono ?_;rintro e w6 ⟨rfl,a⟩;have t:=ae a.collect;clear g a;go_wp2_with fail
     refine (t.out).mono ?_;rintro e w7 ⟨rfl,a⟩;have l:=ae a.live;clear t a;obtain ⟨F,L⟩:∃F:Int,F=((4*k:Nat):Int):=⟨_,rfl⟩;have h4:4*(k:Int)=F:=by omega
     have h5:IntKind.i64.wrap F=F:=by rw [IntKind.wrap_i64];have:=B.out;omega
     rw [<-L] at l;have X:=ae L;clear L;go_wp2_with fail
     refine (l.out).mono ?_;rintro e w8 ⟨rfl,a⟩;have m:=ae a.stats;rw [<-X.out] at m;clear l a X;go_wp2_with fail
     refine (m.out).mono ?_;rintro e f ⟨⟨Us,Hg,ns,bs,rfl⟩,a⟩;have A:(Instr.field 43 (.agg #[.int .i64 k,.int .i64 F,.int .i64 F,.int .i64 Us,.int .i64 Hg,.int .i64 ns,.int .i64 bs,.bool false,.int .i64 0]) 2).run Tryz.prog f= .ok (.int .i64 F) f:=by kernel_rfl
     have O:IntKind.i64.wrap ((k:Int)-1)=(k:Int)-1:=by rw [IntKind.wrap_i64];have:=B.out;omega
     have C:=ae a;clear m a;go_wp2
     go_loopw [12] (fun z wr=>∃j:Nat,z= .int .i64 ((j:Int)-1)∧j<=k∧Hid (fg b c j 0 0 xb W1 wr)) (fun z _=>(intOf z+1).toNat)
     case atStart=>exact ⟨k,rfl,Nat.le_refl _,C⟩
     case round=>
      clear C A O h4 h5;obtain ⟨j,rfl,a4,o⟩:=hrel;have a5:j<256:=by have:=B.out;omega
      cases j with
      |succ j=>
       have Z:=ae o.out.get;have c2:(0:Int)<=(((j+1:Nat):Int)-1):=by omega
       clear o;rw [show (((j+1:Nat):Int)-1)=(j:Int) by omega] at c2 ⊢;have hu:IntKind.u64.wrap (j:Int)=(j:Int):=by rw [IntKind.wrap_u64];omega
       have a6:IntKind.i64.wrap ((j:Int)-1)=(j:Int)-1:=by rw [IntKind.wrap_i64];omega
       go_wp2_with fail
       refine (Z.out).mono ?_;rintro e d ⟨rfl,a⟩;have I:=ae a.load;rw [show ((j% 2:Nat):Int)=(j:Int)% 2 by omega] at I;clear Z a;go_wp2_with fail
       refine (I.out).mono ?_;rintro e bb ⟨rfl,a⟩;have J:=ae a;clear I a;go_wp2;go_roundw
       case rel=>exact ⟨j,rfl,by omega,J⟩
       case measure=>simp [intOf]
      |zero=>
       have x:=ae o.out.shape;have c2:¬(0:Int)<=(((0:Nat):Int)-1):=by omega
       clear o;go_wp2_with fail
       refine (x.out).mono ?_;rintro e d ⟨rfl,n⟩;have u:=ae (fun f (hf:Fr (fun _=>False) d f)=>p.out f ((i.out.trans n (fun _ h=>h.elim)).trans hf (fun _ h=>h.elim)));have v:=ae (fun f (hf:Fr (fun _=>False) d f)=>U.out f ((i.out.trans n (fun _ h=>h.elim)).trans hf (fun _ h=>h.elim)));clear x n p U;go_wp2_with fail
       refine (u.out _ ((Fr.refl _ d).alloc _)).mono ?_;rintro e S ⟨rfl,y⟩;have H:=ae (v.out S (((Fr.refl _ d).alloc _).trans y (fun _ h=>h.elim)));clear u v y;go_wp2;exact H.out
   ·have W:=ae o.out;have B:=ae (show k<256 by have:=HM.out;omega);have c1:¬(k:Int)<(x1:Int):=by omega
    clear o av ax;have G:=ae W.out.clear1;clear W;go_wp2_with fail
    refine (G.out).mono ?_;rintro e w5 ⟨rfl,a⟩;have g:=ae a.clear2;clear G a;go_wp2_with fail
    refine (g.out).mono ?_;rintro e w6 ⟨rfl,a⟩;have t:=ae a.collect;clear g a;go_wp2_with fail
    refine (t.out).mono ?_;rintro e w7 ⟨rfl,a⟩;have l:=ae a.live;clear t a;obtain ⟨F,L⟩:∃F:Int,F=((4*k:Nat):Int):=⟨_,rfl⟩;have h4:4*(k:Int)=F:=by omega
    have h5:IntKind.i64.wrap F=F:=by rw [IntKind.wrap_i64];have:=B.out;omega
    rw [<-L] at l;have X:=ae L;clear L;go_wp2_with fail
    refine (l.out).mono ?_;rintro e w8 ⟨rfl,a⟩;have m:=ae a.stats;rw [<-X.out] at m;clear l a X;go_wp2_with fail
    refine (m.out).mono ?_;rintro e f ⟨⟨Us,Hg,ns,bs,rfl⟩,a⟩;have A:(Instr.field 43 (.agg #[.int .i64 k,.int .i64 F,.int .i64 F,.int .i64 Us,.int .i64 Hg,.int .i64 ns,.int .i64 bs,.bool false,.int .i64 0]) 2).run Tryz.prog f= .ok (.int .i64 F) f:=by kernel_rfl
    have O:IntKind.i64.wrap ((k:Int)-1)=(k:Int)-1:=by rw [IntKind.wrap_i64];have:=B.out;omega
    have C:=ae a;clear m a;go_wp2
    go_loopw [12] (fun z wr=>∃j:Nat,z= .int .i64 ((j:Int)-1)∧j<=k∧Hid (fg b c j 0 0 xb W1 wr)) (fun z _=>(intOf z+1).toNat)
    case atStart=>exact ⟨k,rfl,Nat.le_refl _,C⟩
    case round=>
     clear C A O h4 h5;obtain ⟨j,rfl,a4,o⟩:=hrel;have a5:j<256:=by have:=B.out;omega
     cases j with
     |succ j=>
      have Z:=ae o.out.get;have c2:(0:Int)<=(((j+1:Nat):Int)-1):=by omega
      clear o;rw [show (((j+1:Nat):Int)-1)=(j:Int) by omega] at c2 ⊢;have hu:IntKind.u64.wrap (j:Int)=(j:Int):=by rw [IntKind.wrap_u64];omega
      have a6:IntKind.i64.wrap ((j:Int)-1)=(j:Int)-1:=by rw [IntKind.wrap_i64];omega
      go_wp2_with fail
      refine (Z.out).mono ?_;rintro e d ⟨rfl,a⟩;have I:=ae a.load;rw [show ((j% 2:Nat):Int)=(j:Int)% 2 by omega] at I;clear Z a;go_wp2_with fail
      refine (I.out).mono ?_;rintro e bb ⟨rfl,a⟩;have J:=ae a;clear I a;go_wp2;go_roundw
      case rel=>exact ⟨j,rfl,by omega,J⟩
      case measure=>simp [intOf]
     |zero=>
      have x:=ae o.out.shape;have c2:¬(0:Int)<=(((0:Nat):Int)-1):=by omega
      clear o;go_wp2_with fail
      refine (x.out).mono ?_;rintro e d ⟨rfl,n⟩;have u:=ae (fun f (hf:Fr (fun _=>False) d f)=>p.out f ((i.out.trans n (fun _ h=>h.elim)).trans hf (fun _ h=>h.elim)));have v:=ae (fun f (hf:Fr (fun _=>False) d f)=>U.out f ((i.out.trans n (fun _ h=>h.elim)).trans hf (fun _ h=>h.elim)));clear x n p U;go_wp2_with fail
      refine (u.out _ ((Fr.refl _ d).alloc _)).mono ?_;rintro e S ⟨rfl,y⟩;have H:=ae (v.out S (((Fr.refl _ d).alloc _).trans y (fun _ h=>h.elim)));clear u v y;go_wp2;exact H.out
end
theorem kz {n:Int} (h:(Lit.int .u8 n).wf=true):∃x:Nat,x<256∧n=(x:Int):=by
 simp [Lit.wf,IntKind.min,IntKind.max,IntKind.bits,IntKind.signed] at h;exact ⟨n.toNat,by omega,by rw [Int.toNat_of_nonneg (by omega)]⟩
theorem oZ {cs:List Value} {a b:Int} {W:World} (h:cq gP cs) (i:(Lit.int .u8 a).wf=true) (j:(Lit.int .u8 b).wf=true) (k:laidMetH Tryz.prog Rows.topDeepRow.laid W):Calls Tryz.prog 7 #[.agg cs.toArray,.int .u8 a,.int .u8 b] W fun e w'=>e= .returned (.bool true)∧Fr (fun _=>False) W w':=by
 obtain ⟨v0,v1,v2,v3,v4,v5,v6,tr,e,c,d,f⟩:=ea h;obtain ⟨l,g1,rfl⟩:=kz i;obtain ⟨m,g,rfl⟩:=kz j;rw [e];exact qx c d f (gd k) g1 g
end Go.Proofs.YthahbijbpinneaaGreatDoor
