import Derived.Test.YthahbijbpinneaaGreatDoorA0
import Derived.Test.YthahbijbpinneaaGreatDoorA17
import Derived.Test.YthahbijbpinneaaGreatDoorA20
import Derived.Test.YthahbijbpinneaaGreatDoorA22
import Derived.Test.YthahbijbpinneaaGreatDoorA23
import Derived.MakeChecks
import Derived.Lib.LaidTab
import Derived.Test.YthahbijbpinneaaGreatDoorRows
set_option maxRecDepth 100000
set_option maxHeartbeats 8000000
set_option linter.all false
namespace Go.Proofs.YthahbijbpinneaaGreatDoor
open Go.RowKit
section
variable {b:Nat} {c:Cf} {A A':AG} {rs rs' l l':List Nat} {T T':Nat->Prop} {w w':World}
theorem ms {x:Nat}:∀{l:List Nat},x∈l->x<=l.sum
 |y::l,h=>by
  rw [List.sum_cons];rcases List.mem_cons.1 h with rfl|h
  ·omega
  ·have:=ms h;omega
theorem pF (f:∀x,A.np x=0) (z:Nat):Reach A.gr rs z↔z∈rs∧z≠0:=by
 constructor
 ·intro h
  induction h with
  |root d a=>exact ⟨d,a⟩
  |step _ a _ _=>
   have e:∀y,A.gr.ptrs y=[]:=fun y=>by unfold AG.gr;dsimp only;rw [f];rfl
   rw [e] at a;cases a
 ·rintro ⟨d,a⟩;exact .root d a
theorem eL (a:∀x,A.np x=0) (e:l.Nodup) (d:∀x,x∈l↔x∈rs∧x≠0):aJ A rs l:=⟨e,fun x=>(d x).trans (pF a x).symm⟩
def bu (b:Nat) (c:Cf) (A:AG) (rs:List Nat) (xb:Nat) (cs:List Value) (t:TypeId) (w0 w:World):Prop:=∃u n T,bM b c A rs u n T w∧(∀k,T k->w0.heap.size<=k)∧¬T xb∧aj w xb cs t∧Fr (fun _=>False) w0 w
theorem bu.next {xb:Nat} {cs:List Value} {t:TypeId} {w0:World} {u n:Nat} (d:∀k,T k->w0.heap.size<=k) (e:¬T xb) (f:aj w xb cs t) (g:Fr (fun _=>False) w0 w) (j:bM b c A' rs' u n T' w') (hf:Fr T w w') (i:∀k,T' k->T k∨w.heap.size<=k):bu b c A' rs' xb cs t w0 w':=by
 have p:=g.size;have o:=f.lt;exact ⟨u,n,T',j,fun k a=>(i k a).elim (d k) (fun h=>by omega),fun m=>(i _ m).elim e (fun h=>by omega),f.frame hf e,g.trans hf (fun k a=> .inr (d k a))⟩
theorem bu.blk {xb:Nat} {cs:List Value} {t:TypeId} {w0:World} (h:bu b c A rs xb cs t w0 w):aj w xb cs t:=let ⟨_,_,_,_,_,_,h,_⟩:=h;h
theorem bu.fr {xb:Nat} {cs:List Value} {t:TypeId} {w0:World} (h:bu b c A rs xb cs t w0 w):Fr (fun _=>False) w0 w:=let ⟨_,_,_,_,_,_,_,h⟩:=h;h
theorem bu.alloc {xb s k p f g:Nat} {cs:List Value} {t:TypeId} {w0:World} (h:bu b c A rs xb cs t w0 w) (y:aJ A rs l) (B:s<c.Sl) (z:bl p f g) (a:k≠0) (d:¬Reach A.gr rs k) (i:A.Wd l+(1+(p+f+g))<=c.Wd):Calls Tryz.prog 11 #[b,.int .i64 s,bN p f g] w fun e w'=>e= .returned (.int .i64 0)∧bu b c (A.new k p f g) (rs.set s k) xb cs t w0 w':=by
 obtain ⟨u,n,T,o,q,r,v,x⟩:=h;refine (iM o y B z a d).mono ?_;rintro e w' (⟨_,rfl,E,D,T',g1,j,m⟩|⟨C,_⟩)
 ·exact ⟨rfl,bu.next q r v x g1 j m⟩
 ·omega
theorem bu.full {xb s p f g:Nat} {cs:List Value} {t:TypeId} {w0:World} (h:bu b c A rs xb cs t w0 w) (j:aJ A rs l) (D:s<c.Sl) (B:bl p f g) (i:c.Wd<A.Wd l+(1+(p+f+g))):Calls Tryz.prog 11 #[b,.int .i64 s,bN p f g] w fun e w'=>e= .returned (.int .i64 21)∧bu b c A rs xb cs t w0 w':=by
 obtain ⟨u,n,T,q,r,v,x,y⟩:=h;obtain ⟨k,a,d⟩:∃k,k≠0∧¬Reach A.gr rs k:=by
  refine ⟨l.sum+1,by omega,fun C=> ?_⟩;have z:=(j.2 _).2 C;have:l.sum+1<=l.sum:=ms z;omega
 refine (iM q j D B a d).mono ?_;rintro e w' (⟨E,_⟩|⟨_,rfl,G,F,T',g1,m,o⟩)
 ·omega
 ·exact ⟨rfl,bu.next r v x y g1 m o⟩
theorem bu.clear {xb s:Nat} {cs:List Value} {t:TypeId} {w0:World} (h:bu b c A rs xb cs t w0 w) (m:s<c.Sl):Calls Tryz.prog 14 #[b,.int .i64 s] w fun e w'=>e= .returned (.int .i64 0)∧bu b c A (rs.set s 0) xb cs t w0 w':=by
 obtain ⟨u,n,T,f,g,i,j,k⟩:=h;refine (sD f m).mono ?_;rintro e w' ⟨rfl,p,o,T',g1,a,d⟩;exact ⟨rfl,bu.next g i j k g1 a d⟩
end
def A7:AG:=⟨fun _=>0,fun _=>0,fun _=>7,fun _ _=>0⟩
theorem ul (k:Nat):A7.new k 0 0 7=A7:=by
 unfold AG.new A7;congr 1<;>funext y<;>simp
theorem gJ (l:List Nat):A7.Wd l=8*l.length:=by
 unfold AG.Wd
 induction l with
 |nil=>rfl
 |cons x l ih=>rw [List.map_cons,List.sum_cons,ih,List.length_cons];show 1+(0+0+7)+_=_;omega
theorem Aa:bl ((0:Nat):Int) ((0:Nat):Int) ((7:Nat):Int):=by unfold bl;omega
theorem oe {k b xb:Nat} {t:TypeId} {w0:World} (n:1<=k) (o:k<=3):
  (∀w,bu b (ec k) A7 [0,0,0] xb [.int .i64 0,.int .i64 0,.int .i64 7] t w0 w->Calls Tryz.prog 11 #[b,.int .i64 0,.agg #[.int .i64 0,.int .i64 0,.int .i64 7]] w fun e w'=>e= .returned (.int .i64 0)∧bu b (ec k) A7 [1,0,0] xb [.int .i64 0,.int .i64 0,.int .i64 7] t w0 w')∧
  (∀w,bu b (ec k) A7 [1,0,0] xb [.int .i64 0,.int .i64 0,.int .i64 7] t w0 w->Calls Tryz.prog 11 #[b,.int .i64 1,.agg #[.int .i64 0,.int .i64 0,.int .i64 7]] w fun e w'=>e= .returned (.int .i64 0)∧bu b (ec k) A7 [1,2,0] xb [.int .i64 0,.int .i64 0,.int .i64 7] t w0 w')∧
  (∀w,bu b (ec k) A7 [1,2,0] xb [.int .i64 0,.int .i64 0,.int .i64 7] t w0 w->Calls Tryz.prog 11 #[b,.int .i64 2,.agg #[.int .i64 0,.int .i64 0,.int .i64 7]] w fun e w'=>e= .returned (.int .i64 21)∧bu b (ec k) A7 [1,2,0] xb [.int .i64 0,.int .i64 0,.int .i64 7] t w0 w')∧
  (∀w,bu b (ec k) A7 [1,2,0] xb [.int .i64 0,.int .i64 0,.int .i64 7] t w0 w->Calls Tryz.prog 14 #[b,.int .i64 0] w fun e w'=>e= .returned (.int .i64 0)∧bu b (ec k) A7 [0,2,0] xb [.int .i64 0,.int .i64 0,.int .i64 7] t w0 w')∧
  (∀w,bu b (ec k) A7 [0,2,0] xb [.int .i64 0,.int .i64 0,.int .i64 7] t w0 w->Calls Tryz.prog 11 #[b,.int .i64 2,.agg #[.int .i64 0,.int .i64 0,.int .i64 7]] w fun e w'=>e= .returned (.int .i64 0)∧Fr (fun _=>False) w0 w'):=by
 have d:∀x,A7.np x=0:=fun _=>rfl
 have c:∀rs l,l.Nodup->(∀x,x∈l↔x∈rs∧x≠0)->aJ A7 rs l:=fun rs l j h=>eL d j h
 have f:aJ A7 [0,0,0] []:=c _ _ .nil (fun x=>by simp);have g:aJ A7 [1,0,0] [1]:=c _ _ (by simp) (fun x=>by simp;omega);have m:aJ A7 [1,2,0] [1,2]:=c _ _ (by simp) (fun x=>by simp;omega);have i:aJ A7 [0,2,0] [2]:=c _ _ (by simp) (fun x=>by simp;omega);refine ⟨fun w h=> ?_,fun w h=> ?_,fun w h=> ?_,fun w h=> ?_,fun w h=> ?_⟩
 ·have:=h.alloc (s:=0) (k:=1) f (show 0<3 by omega) Aa (by omega) (fun a=>by have:=(f.2 _).2 a;simp at this) (by rw [gJ];show 0+_<=16;omega);rw [ul] at this;exact this
 ·have:=h.alloc (s:=1) (k:=2) g (show 1<3 by omega) Aa (by omega) (fun a=>by have:=(g.2 _).2 a;simp at this) (by rw [gJ];show 8+_<=16;omega);rw [ul] at this;exact this
 ·exact h.full (s:=2) m (show 2<3 by omega) Aa (by rw [gJ];show 16<16+_;omega)
 ·exact h.clear (s:=0) (show 0<3 by omega)
 ·have:=h.alloc (s:=2) (k:=1) i (show 2<3 by omega) Aa (by omega) (fun a=>by have:=(i.2 _).2 a;simp at this) (by rw [gJ];show 8+_<=16;omega);exact this.mono (fun e w' h=>⟨h.1,h.2.fr⟩)
theorem eN (w:World) (C:bv w):Calls Tryz.prog 12 #[] w fun e w'=>e= .returned (.bool true)∧Fr (fun _=>False) w w':=by
 have g:=ae sH;have f:=ae (fun (k:Nat) (V:1<=k) (W:k<=3) (w1:World) (hf:Fr (fun _=>False) w w1)=>ro (ya V W) (ak C hf (fun h=>h)) A7);have K:Hid (∀(k b:Nat) (w1 w2:World),rQ (ec k) A7 w1 (.returned (.tuple #[.pointer (some ⟨b,0,none⟩),.int .i64 0])) w2->True):=ae (fun _ _ _ _ _=>trivial);have y:=ae (Fr.refl (fun _=>False) w);clear C K;have N:Hid (∀w',Fr (fun _=>False) w w'->(fun e w'=>e=Ending.returned (.bool true)∧Fr (fun _=>False) w w') (.returned (.bool true)) w'):=ae (fun w' h=>⟨rfl,h⟩);generalize (fun e w'=>e=Ending.returned (.bool true)∧Fr (fun _=>False) w w')=Q at*
 go_enter Tryz.func12,Tryz.ntmps12
 go_wp2
 go_loopw [1] (fun x wr=>∃k:Nat,x= .int .i64 k∧1<=k∧k<=4∧Hid (Fr (fun _=>False) w wr)) (fun x _=>(5-intOf x).toNat)
 case atStart=>exact ⟨1,rfl,by omega,by omega,y⟩
 case round=>
  clear y;obtain ⟨k,rfl,d,F,c⟩:=hrel;by_cases I:k<=3
  ·have c1:(k:Int)<=3:=by omega
   have B:=ae (g.out k wr);go_wp2_with fail
   refine (B.out).mono ?_;rintro e w1 ⟨rfl,m⟩;have A:=ae (f.out k d I w1 (c.out.trans m (fun _ h=>h.elim)));have z:=ae (c.out.trans m (fun _ h=>h.elim));have G:=ae (af d I);clear B m f g d F I;go_wp2_with fail
   refine (A.out).mono ?_;rintro e w2 ⟨b,T,rfl,M,C,D⟩;obtain ⟨o,j⟩:∃o,w2.alloc (.cells #[.int .i64 0,.int .i64 0,.int .i64 7] 31)=o:=⟨_,rfl⟩;have n:Fr (fun _=>False) w2 o:=by rw [<-j];exact (Fr.refl _ w2).alloc _
   have l:aj o w2.heap.size [.int .i64 0,.int .i64 0,.int .i64 7] 31:=by rw [<-j];exact aj.new w2 _ _
   have a:bu b (ec k) A7 [0,0,0] w2.heap.size [.int .i64 0,.int .i64 0,.int .i64 7] 31 w1 o:=⟨0,0,T,M.keep n,C,fun h=>by have:=M.lt _ h;omega,l,D.trans n (fun _ h=>h.elim)⟩;obtain ⟨O,P,R,S,U⟩:=oe (b:=b) (xb:=w2.heap.size) (t:=31) (w0:=w1) G.out.1 G.out.2;have q:=ae (O o a);have p:=ae (af P (af R (af S U)));obtain ⟨L,i,c2⟩:=bE l;clear A M C D n l a O P R S U;go_wp2_with fail
   refine (q.out).mono ?_;rintro e w3 ⟨rfl,a⟩;obtain ⟨L,i,c2⟩:=bE a.blk;have r:=ae (p.out.1 w3 a);clear q a j;go_wp2_with fail
   refine (r.out).mono ?_;rintro e w4 ⟨rfl,a⟩;obtain ⟨L,i,c2⟩:=bE a.blk;have s:=ae (p.out.2.1 w4 a);clear r a;go_wp2_with fail
   refine (s.out).mono ?_;rintro e w5 ⟨rfl,a⟩;have u:=ae (p.out.2.2.1 w5 a);clear s a;go_wp2_with fail
   refine (u.out).mono ?_;rintro e w6 ⟨rfl,a⟩;obtain ⟨L,i,c2⟩:=bE a.blk;have v:=ae (p.out.2.2.2 w6 a);clear u a p;go_wp2_with fail
   refine (v.out).mono ?_;rintro e X ⟨rfl,E⟩;have J:=ae (z.out.trans E (fun _ h=>h.elim));clear v E z c;go_wp2;go_roundw
   case rel=>exact ⟨k+1,by go_num,by omega,by have:=G.out.2;omega,J⟩
   case measure=>simp [intOf];have:=G.out;omega
  ·have c1:¬(k:Int)<=3:=by omega
   have H:=ae (N.out wr c.out);clear f g d F I N c;go_wp2;exact H.out
section
variable {v0 v1 v2 v3 v4 v5 v6:Int} {tr n cp:Nat} {p:Option Addr} {w:World}
theorem uU (w:World) (p:Option Addr) (n cp:Nat):Calls Tryz.prog 48 #[dY v0 v1 v2 v3 v4 v5 v6 tr,.slice p n cp] w fun e w'=>e= .returned (.bool (decide (2048<v3)||decide ((120:Int)<(n:Int))))∧Fr (fun _=>False) w w':=by
 obtain ⟨W1,b⟩:∃W1,w.alloc (.cells #[.int .i64 v0,.int .i64 v1,.int .i64 v2,.int .i64 v3,.int .i64 v4,.int .i64 v5,.int .i64 v6,.float .f64 tr] 24)=W1:=⟨_,rfl⟩;have d:Fr (fun _=>False) w W1:=by rw [<-b];exact (Fr.refl _ w).alloc _
 have c:aj W1 w.heap.size [.int .i64 v0,.int .i64 v1,.int .i64 v2,.int .i64 v3,.int .i64 v4,.int .i64 v5,.int .i64 v6,.float .f64 tr] 24:=by rw [<-b];exact aj.new w _ _
 have i:=c.cell 3 rfl;have a:=ae d;clear d c;unfold dY;by_cases f:2048<v3
 ·rw [decide_eq_true f,Bool.true_or]
  go_enter Tryz.func48,Tryz.ntmps48
  go_wp2;go_ret;exact ⟨rfl,a.out⟩
 ·rw [decide_eq_false f,Bool.false_or];have h:decide (2048<v3)=false:=decide_eq_false f;obtain ⟨N,g⟩:∃N:Int,N=(n:Int):=⟨_,rfl⟩
  go_enter Tryz.func48,Tryz.ntmps48
  go_wp2;go_ret;exact ⟨rfl,a.out⟩
def wS (v0 v1 v2 v3 v4 v5 v6:Int) (tr n:Nat) (A:AG) (w:World) (e:Ending) (w':World):Prop:=
 (e= .returned (.pointer none)∧Fr (fun _=>False) w w')∨(∃c b T,cT c∧dY v0 v1 v2 v3 v4 v5 v6 tr=kF c∧v3<=2048∧n<=120∧e= .returned (.pointer (some ⟨b,0,none⟩))∧bM b c A (List.replicate c.Sl 0) 0 0 T w'∧(∀k,T k->w.heap.size<=k)∧Fr (fun _=>False) w w')
theorem gZ (v:v1<=9223372036854775807) (x:v2<=9223372036854775807) (y:v3<=9223372036854775807) (B:bv w) (A:AG) (p:Option Addr) (n cp:Nat):Calls Tryz.prog 10 #[dY v0 v1 v2 v3 v4 v5 v6 tr,.slice p n cp] w (wS v0 v1 v2 v3 v4 v5 v6 tr n A w):=by
 obtain ⟨W1,g⟩:∃W1,w.alloc (.cells #[.int .i64 v0,.int .i64 v1,.int .i64 v2,.int .i64 v3,.int .i64 v4,.int .i64 v5,.int .i64 v6,.float .f64 tr] 24)=W1:=⟨_,rfl⟩;have s:Fr (fun _=>False) w W1:=by rw [<-g];exact (Fr.refl _ w).alloc _
 have o:aj W1 w.heap.size [.int .i64 v0,.int .i64 v1,.int .i64 v2,.int .i64 v3,.int .i64 v4,.int .i64 v5,.int .i64 v6,.float .f64 tr] 24:=by rw [<-g];exact aj.new w _ _
 obtain ⟨F,G,I,J,K,L,M,N⟩:=cY o;have d:=ae (uU (v0:=v0) (v1:=v1) (v2:=v2) (v3:=v3) (v4:=v4) (v5:=v5) (v6:=v6) (tr:=tr) W1 p n cp);have j:=ae (fun w2 (hf:Fr (fun _=>False) W1 w2)=>cY (o.frame hf (fun h=>h)));have l:=ae s;have m:Hid (∀w',Fr (fun _=>False) w w'->wS v0 v1 v2 v3 v4 v5 v6 tr n A w (.returned (.pointer none)) w'):=ae (fun w' h=> .inl ⟨rfl,h⟩);have f:Hid (v3<=2048->n<=120->∀w1,Fr (fun _=>False) w w1->Calls Tryz.prog 49 #[dY v0 v1 v2 v3 v4 v5 v6 tr] w1 fun e w'=>∃u z:Value,e= .returned (.tuple #[u,z])∧wS v0 v1 v2 v3 v4 v5 v6 tr n A w (.returned u) w'):=by
  show v3<=2048->n<=120->∀w1,_
  intro g1 R w1 hf;by_cases r:∃c,cT c∧dY v0 v1 v2 v3 v4 v5 v6 tr=kF c
  ·obtain ⟨c,r,C⟩:=r;have D:=ro r (ak B hf (fun h=>h)) A;rw [<-C] at D;refine D.mono ?_;rintro e w' ⟨b,T,rfl,O,P,t⟩;exact ⟨_,_,rfl,.inr ⟨c,b,T,r,C,g1,R,rfl,O,fun k S=>Nat.le_trans hf.size (P k S),hf.trans t (fun _ h=>h.elim)⟩⟩
  ·refine (xu v x y r w1).mono ?_;rintro e w' ⟨rfl,t⟩;exact ⟨_,_,rfl,.inl ⟨rfl,hf.trans t (fun _ h=>h.elim)⟩⟩
 clear v x y B s o;unfold dY at d f ⊢;generalize (wS v0 v1 v2 v3 v4 v5 v6 tr n A w)=Q at*
 go_enter Tryz.func10,Tryz.ntmps10
 go_wp2_with fail
 refine (d.out).mono ?_;rintro e w2 ⟨rfl,i⟩;obtain ⟨F,G,I,J,K,L,M,N⟩:=j.out w2 i;have a:=l.out.trans i (fun _ h=>h.elim)
 cases hB:(decide (2048<v3)||decide ((120:Int)<(n:Int))) with
 |true=>
  have H:=ae (m.out w2 a);clear d j l m f i a hB g;go_wp2;exact H.out
 |false=>
  rw [Bool.or_eq_false_iff,decide_eq_false_iff_not,decide_eq_false_iff_not] at hB;have q:=ae (f.out (by omega) (by omega) w2 a);clear d j l m f i a hB g;go_wp2_with fail
  refine (q.out).mono ?_;rintro e w3 ⟨u,z,rfl,E⟩;have H:=ae E;clear q E F G I J K L M N;go_wp2;exact H.out
end
def gP:List Sc:=[.int .i64,.int .i64,.int .i64,.int .i64,.int .i64,.int .i64,.int .i64,.float .f64]
theorem pX {n:Int} (h:(Lit.int .i64 n).wf=true):n<=9223372036854775807:=by
 simp [Lit.wf,IntKind.min,IntKind.max,IntKind.bits,IntKind.signed] at h;omega
theorem ea {cs:List Value} (h:cq gP cs):∃(v0 v1 v2 v3 v4 v5 v6:Int) (tr:Nat),.agg cs.toArray=dY v0 v1 v2 v3 v4 v5 v6 tr∧v1<=9223372036854775807∧v2<=9223372036854775807∧v3<=9223372036854775807:=by
 rcases cs with _|⟨_,cs⟩
 ·exact h.elim
 obtain ⟨⟨v0,rfl,c⟩,h⟩:=h;rcases cs with _|⟨_,cs⟩
 ·exact h.elim
 obtain ⟨⟨v1,rfl,g1⟩,h⟩:=h;rcases cs with _|⟨_,cs⟩
 ·exact h.elim
 obtain ⟨⟨v2,rfl,a⟩,h⟩:=h;rcases cs with _|⟨_,cs⟩
 ·exact h.elim
 obtain ⟨⟨v3,rfl,b⟩,h⟩:=h;rcases cs with _|⟨_,cs⟩
 ·exact h.elim
 obtain ⟨⟨v4,rfl,d⟩,h⟩:=h;rcases cs with _|⟨_,cs⟩
 ·exact h.elim
 obtain ⟨⟨v5,rfl,e⟩,h⟩:=h;rcases cs with _|⟨_,cs⟩
 ·exact h.elim
 obtain ⟨⟨v6,rfl,f⟩,h⟩:=h;rcases cs with _|⟨_,cs⟩
 ·exact h.elim
 obtain ⟨⟨tr,rfl,g⟩,h⟩:=h;rcases cs with _|⟨_,cs⟩
 rotate_left
 ·exact h.elim
 exact ⟨v0,v1,v2,v3,v4,v5,v6,tr,rfl,pX g1,pX a,pX b⟩
theorem Aq:Tryz.prog.globalNamed "math/bits.deBruijn64tab" =some 1:=by kernel_rfl
theorem As:(Tryz.prog.globals[1]?).map (·.type)=some 359:=by kernel_rfl
theorem gd {W:World} (h:laidMetH Tryz.prog [("math/bits.deBruijn64tab",Rows.laid_math_bits_deBruijn64tab)] W):bv W:=by
 rw [MakeChecks.laidMetH_plain _ _ _ (by kernel_rfl)] at h;obtain ⟨ps,⟨l,n,e,j,m,q0,a,c,d,b,_⟩,_⟩:=h;obtain rfl:=Option.some.inj (Aq.symm.trans a);obtain rfl:=Option.some.inj (As.symm.trans c);have f:=Lib.cells_of_tab (k:= .u8) (zs:=yc.map Int.ofNat) Tryz.underlying359 Tryz.underlying5 (by kernel_rfl) (by kernel_rfl) b;intro i k g;have:=World.var?_cell a d i;rw [this,<-Array.getElem?_toList,f];simp [g]
section
variable {h:Hp} {n n' u Ba ub:Nat} {c:Cf} {cy:Option Nat} {ns bs:Int} {L:Nat->Nat} {S S0 T:Nat->Prop} {w w':World}
def yG (h:Hp) (c:Cf) (Ba u ub:Nat) (cy:Option Nat) (n:Nat) (ns bs:Int) (S0:Nat->Prop):dZ:=fun L S w=>gq w h.b c h.m h.rb ub cy ns bs∧bv w∧cT c∧c.half Ba∧u<=c.Wd∧oS c h.m Ba (Ba+u) (fun _=>True) L S0 w cy n∧∀k,S k↔S0 k∨k=h.b
theorem yG.stays (m:yG h c Ba u ub cy n ns bs S0 L S w) (hf:Fr T w w') (b:∀k,S k->¬T k) (d:¬T aN):yG h c Ba u ub cy n ns bs S0 L S w':=by
 obtain ⟨e,f,g,i,j,l,a⟩:=m;exact ⟨aj.frame e hf (b _ ((a _).2 (.inr rfl))),ak f hf d,g,i,j,l.stays hf (fun k o=>b k ((a k).2 (.inl o))) d,a⟩
theorem va (v:yG h c Ba u ub cy n ns bs S0 L S w) (a:Nat) (t:Ba<=a) (o:a<Ba+u):Calls Tryz.prog 318 #[.agg #[h.b],.int .i64 a] w fun e w'=>e= .returned (.tuple #[.int .u64 ((L a:Nat):Int),.int .i64 0])∧Fr (fun _=>False) w w':=by
 obtain ⟨W1,j⟩:∃W1,w.alloc (.cells #[h.b] 140)=W1:=⟨_,rfl⟩;have f:Fr (fun _=>False) w W1:=by rw [<-j];exact (Fr.refl _ w).alloc _
 have g:aj W1 w.heap.size [.pointer (some ⟨h.b,0,none⟩)] 140:=by rw [<-j];exact aj.new w _ _
 obtain ⟨q,D,z,r,E,F,G⟩:=v.stays f (fun _ _ h=>h) (fun h=>h);have U:=g.cell 0 rfl;have l:=aj.cell q 11 rfl;have V:=aj.cell q 8 rfl;have m:=ae f
 cases cy with
 |none=>
  rw [show fq none= .pointer none from rfl] at l;obtain ⟨x,Us,Hg,mp,⟨M,C,i⟩,k⟩:=F;have p:=j5 k (r.mod z) (by have:=r.top;omega:Ba+u<=c.W) a t o;have B:=i a p;have d:=ae (dS C a p.1 p.2);rw [B] at d;generalize L a=X at*;clear v q D z r E G f g C k p t o x B i
  go_enter Tryz.func318,Tryz.ntmps318
  go_wp2_with fail
  refine (d.out).mono ?_;rintro e w2 ⟨rfl,hp⟩;have H:=ae (m.out.trans hp (fun _ h=>h.elim));clear d hp m;go_wp2;go_ret2;exact ⟨rfl,H.out⟩
 |some y=>
  rw [show fq (some y)= .pointer (some ⟨y,0,none⟩) from rfl] at l;obtain ⟨K,I,Y,J,hg,Q,fr,R,g1,⟨Us,_,A⟩,rfl,N,O,P⟩:=F;have d:=ae (wh g1 A.s a (by omega) o);generalize L a=X at*;generalize I.y=y at*;clear v q D z r E G f g t o K g1 A N O P
  go_enter Tryz.func318,Tryz.ntmps318
  go_wp2_with fail
  refine (d.out).mono ?_;rintro e w2 ⟨rfl,hp⟩;have H:=ae (m.out.trans hp (fun _ h=>h.elim));clear d hp m;go_wp2;go_ret2;exact ⟨rfl,H.out⟩
theorem ve (h:Hp) (c:Cf) (Ba u ub:Nat) (cy:Option Nat) (n:Nat) (ns bs:Int) (S0:Nat->Prop):aX 140 (.agg #[.pointer (some ⟨h.b,0,none⟩)]) 318 (.agg #[.pointer (some ⟨h.b,0,none⟩)]) (yG h c Ba u ub cy n ns bs S0) (fun a=>Ba<=a∧a<Ba+u) where
 mload:=fun w=>by kernel_rfl
 eload:=enters_of Tryz.func318 (by kernel_rfl) rfl
 stays:=fun L S w1 w2 T d hf o p=>d.stays hf o p
 tabl:= .inr (fun L S w h=>aD (h.2.1 0 0 rfl))
 lt:=fun L S w ⟨d,_,_,_,_,j,l⟩ k m=>((l k).1 m).elim (j.lt k) (fun e=>by rw [e];exact aj.lt d)
 load:=fun L S w a d g=>(va d a g.1 g.2).mono (fun e w' ⟨i,f⟩=>⟨i,S,d.stays f (fun _ _ h=>h) (fun h=>h),f.mono (fun _ h=>h.elim),fun _ h=> .inl h⟩)
end
section
variable {h:Hp} {b n u Ba ub:Nat} {c:Cf} {A:AG} {rs l:List Nat} {φ L:Nat->Nat} {cy:Option Nat} {ns bs:Int} {S S0 T q:Nat->Prop} {w w':World}
theorem oS.memB (e:oS c h.m Ba (Ba+u) q L S w cy n):∃a Us Hg mp M,bn w h.m a c.Pg c.W c.Fs Us Hg mp M:=by
 cases cy with
 |none=>
  obtain ⟨B,Us,Hg,mp,⟨M,f,_⟩,_⟩:=e;exact ⟨S,Us,Hg,mp,M,f⟩
 |some y=>
  obtain ⟨C,x,s,g,hg,t,fr,v,D,⟨Us,_,j⟩,E,o,F,p,G,r,H,I⟩:=e;obtain ⟨Hg,a,mp,M,z,k,i,_⟩:=j;have d:=i.mem;rw [o,p,r] at d;exact ⟨a,Us,Hg,mp,M,d⟩
def zC (h:Hp) (c:Cf) (Ba u ub:Nat) (cy:Option Nat) (n:Nat) (ns bs:Int) (S0:Nat->Prop) (L:Nat->Nat) (EL:aI) (wx w3:World):Prop:=
 yG h c Ba u ub cy n ns bs S0 L (fun k=>S0 k∨k=h.b) w3∧Fr (fun k=>(S0 k∨k=h.b)∨EL.has k) wx w3
def zW (h:Hp) (c:Cf) (Ba u ub:Nat) (cy:Option Nat) (n:Nat) (ns bs:Int) (S0:Nat->Prop) (L:Nat->Nat) (EL:aI) (w2:World) (no nw:Int) (sb:Nat) (wx:World):Prop:=
 (∃nr nv:Int,aj wx sb [.int .i64 no,.int .i64 nw,.int .i64 nr,.int .i64 nv] 136)∧zC h c Ba u ub cy n ns bs S0 L EL w2 wx
theorem xz {EL:aI} {w2 f w4:World} {no nw a d:Int} (e:zC h c Ba u ub cy n ns bs S0 L EL f w4) (g:Fr (fun _=>False) w2 f):zW h c Ba u ub cy n ns bs S0 L EL w2 no nw w4.heap.size (w4.alloc (.cells #[.int .i64 no,.int .i64 nw,.int .i64 a,.int .i64 d] 136)):=by
 have hf:Fr (fun _=>False) w4 (w4.alloc (.cells #[.int .i64 no,.int .i64 nw,.int .i64 a,.int .i64 d] 136)):=(Fr.refl _ w4).alloc _;exact ⟨⟨a,d,aj.new w4 _ _⟩,e.1.stays hf (fun _ _ h=>h) (fun h=>h),((g.mono (fun _ h=>h.elim)).trans e.2 (fun k h=> .inl h)).trans hf (fun _ h=>h.elim)⟩
theorem rv {EL:aI} {w2 j w4:World} {no nw f g:Int} {sb:Nat} (a:zC h c Ba u ub cy n ns bs S0 L EL j w4) (p:Fr (fun _=>False) w2 j) (d:∀k,(S0 k∨k=h.b)->k<w2.heap.size) (o:aN<w2.heap.size) (r:w2.heap.size<=sb) (m:aj w4 sb [.int .i64 0,.int .i64 0,.int .i64 0,.int .i64 0] 136):
  zW h c Ba u ub cy n ns bs S0 L EL w2 no nw sb ((((w4.setCell ⟨sb,0,none⟩ (.int .i64 no)).setCell ⟨sb,1,none⟩ (.int .i64 nw)).setCell ⟨sb,2,none⟩ (.int .i64 f)).setCell ⟨sb,3,none⟩ (.int .i64 g)):=by
 have hf:Fr (fun k=>k=sb) w4 ((((w4.setCell ⟨sb,0,none⟩ (.int .i64 no)).setCell ⟨sb,1,none⟩ (.int .i64 nw)).setCell ⟨sb,2,none⟩ (.int .i64 f)).setCell ⟨sb,3,none⟩ (.int .i64 g)):=
  ((((Fr.refl (fun k=>k=sb) w4).setCell ⟨sb,0,none⟩ (.inl rfl) _).setCell ⟨sb,1,none⟩ (.inl rfl) _).setCell ⟨sb,2,none⟩ (.inl rfl) _).setCell ⟨sb,3,none⟩ (.inl rfl) _
 exact ⟨⟨f,g,(((m.set 0 _).set 1 _).set 2 _).set 3 _⟩,a.1.stays hf (fun k a e=>by have:=d k a;have i:k=sb:=e;omega) (fun e=>by have i:aN=sb:=e;omega),((p.mono (fun _ h=>h.elim)).trans a.2 (fun k h=> .inl h)).trans hf (fun k h=> .inr (by have i:k=sb:=h;omega))⟩
def wR (b:Nat) (c:Cf) (A:AG) (rs l:List Nat) (u n:Nat) (T:Nat->Prop) (w:World) (e:Ending) (w':World):Prop:=
 e= .returned (.tuple #[.int .i64 (l.length:Int),.int .i64 (A.Wd l:Int)])∧bM b c A rs u n T w'∧Fr T w w'
theorem yV {EL:aI} {w2 w6:World} {sb:Nat} {no nw:Int} (g:eT (fun _=>True) h c A rs φ L Ba u ub cy n ns bs S0 w) (r:∀k,T k↔eZ h ub S0 k) (i:n=0->cy=none) (hf:Fr (fun _=>False) w w2) (j:∀k,EL.has k->w.heap.size<=k) (F:zW h c Ba u ub cy n ns bs S0 L EL w2 no nw sb w6):bM h.b c A rs u n T w6∧Fr T w w6:=by
 obtain ⟨_,⟨g1,B,C,P,Q,D,R⟩,m⟩:=F;have E:=g.lt;have f:Fr (fun k=>S0 k∨k=h.b) w w6:=(hf.mono (fun _ h=>h.elim)).trans m (fun k a=>a.imp id (fun h=>j k h));obtain ⟨x,y,z,I,J,K,M,N,O⟩:=g.e;have o:∀k,(k=h.rb∨k=h.rg∨k=ub)->¬(S0 k∨k=h.b):=fun k a p=>by
  rcases p with p|rfl
  ·obtain ⟨G,s,t,v,H⟩:=g.d k p;rcases a with rfl|rfl|rfl
   ·exact s rfl
   ·exact t rfl
   ·exact v rfl
  ·rcases a with a|a|a
   ·exact x a
   ·exact y a
   ·exact z a
 exact ⟨⟨h,φ,L,Ba,ub,cy,ns,bs,S0,rfl,⟨C,g1,g.roots.frame f (o _ (.inl rfl)) (o _ (.inr (.inl rfl))),aj.frame g.reg f (o _ (.inr (.inr rfl))),B,g.laid,g.Sl,g.fits,g.half,D,g.d,g.e⟩,r,i⟩,f.mono (fun k a=> .inl ((r k).2 (a.elim .inl (fun h=> .inr (.inl h)))))⟩
end
section
variable {h:Hp} {b n u Ba ub:Nat} {c:Cf} {A:AG} {rs l:List Nat} {φ L:Nat->Nat} {cy:Option Nat} {ns bs:Int} {S S0 T q:Nat->Prop} {w w':World}
theorem yW {EL:aI} {w2:World} (f:eT (fun _=>True) h c A rs φ L Ba u ub cy n ns bs S0 w) (hl:aJ A rs l) (hf:Fr (fun _=>False) w w2) (I:bD w2 EL c.W (fun _=>0)) (K:∀k,EL.has k->w.heap.size<=k):
  ∀(j:World) (_:Fr (fun _=>False) w2 j) (x H:Nat) (_:w2.heap.size<=x) (_:x<j.heap.size) (_:∀(i a:Nat),(rs.map φ)[i]? =some a->j.cell? ⟨x,i,none⟩=some (.int .i64 a)),Calls Tryz.prog 68 #[.iface 140 (.agg #[h.b]),.slice (some ⟨x,0,none⟩) (rs.map φ).length H,.pointer (some ⟨EL.m,0,none⟩),.int .i64 (c.stack:Int)] j fun e w3=>
   ∃D E:Int,e= .returned (.tuple #[.agg #[.int .i64 (l.length:Int),.int .i64 (A.Wd l:Int),.int .i64 D,.int .i64 E],.int .i64 0])∧(∀q cs t,w2.heap.size<=q->aj j q cs t->aj w3 q cs t)∧zC h c Ba u ub cy n ns bs S0 L EL j w3:=by
 intro j N x H r1 r2 r3;have C:=hf.trans N (fun _ h=>h.elim);have g:=f.keep C;have hz:=hf.size;have ah:aN<w.heap.size:=aD (f.tab 0 0 rfl);have y:=I.lt;have s:∀k,(S0 k∨k=h.b)->k<w.heap.size:=fun k p=>f.lt k (p.elim .inl (fun e=> .inr (.inl e)))
 obtain ⟨e1,e2,e3,e4,e5,Q,e7,e8,e9⟩:=f.e;obtain ⟨G,r⟩:=f.laid.conc;have Z:=cG.sound f.laid r;have M:=f.half.top;have J:=f.fits;have ad:=f.cok.W5;have hO:=cG.obj f.laid r (dom:=fun a=>Ba<=a∧a<Ba+u) (fun a v B=>⟨v,B⟩) (by omega);have hi:yG h c Ba u ub cy n ns bs S0 L (fun k=>S0 k∨k=h.b) j:=⟨g.blk,g.tab,g.cok,g.half,g.fits,g.mem,fun _=>Iff.rfl⟩;refine (gz (w:=j) (Rm:=c.stack) (ve h c Ba u ub cy n ns bs S0) hi Z (show Ba+u<=c.W by omega) hO f.cok.stack1 f.cok.stack2 (I.frame N (fun _ _ h=>h)) g.tab (fun k p=>⟨fun h=>by have:=s k p;have:=K k h;omega,fun e=>by
  subst e;rcases p with p|p
  ·exact (f.d _ p).2.2.2.2 rfl
  ·exact Q p.symm⟩) (fun h=>by have v:=K _ h;omega) x H ⟨r2,fun h=>by have:=s _ h;omega,fun h=>by have:=y _ h;omega⟩ r3 (by have v:=f.roots.small;rw [List.length_map] at v ⊢;omega)).mono ?_
 rintro e w3 ⟨P,D,E,S',rfl,q1,q2,q3,F,q5,O⟩;have z:=cG.ext f.laid r q5 F.marked;have o:=aJ.cnt f.laid z hl;have v:(P.no:Int)=(l.length:Int):=by rw [F.no,o.2]
 have B:(P.nw:Int)=(A.Wd l:Int):=by rw [F.nw,o.1]
 rw [v,B];refine ⟨D,E,rfl,fun q cs t hq hb=>hb.frame O (fun h=> ?_),?_,O⟩
 ·rcases h with h|h
  ·have:=s q h;omega
  ·have:=y q h;omega
 ·obtain ⟨g1,R,U,V,X,Y,g8⟩:=q1;exact ⟨g1,R,U,V,X,Y,fun _=>Iff.rfl⟩
theorem jR (hi:bM b c A rs u n T w) (hl:aJ A rs l):Calls Tryz.prog 19 #[b] w (wR b c A rs l u n T w):=by
 obtain ⟨h,φ,L,Ba,ub,cy,ns,bs,S0,rfl,j,hT,Y⟩:=hi;have HN:=ae (cC j.blk);obtain ⟨Sm,Us,Hg,mp,M,Z⟩:=j.mem.memB;have V:=ae (cL Z);have am:=j.cok.W5;have av:=j.cok.page2;have U:=ae (gR c.W (by omega) (by omega) w);have K:=ae (fun w2 w' (hf:Fr (fun _=>False) w w2) (v:Fr (fun _=>False) w2 w')=>io (j.keep (hf.trans v (fun _ h=>h.elim))).roots);have R:=ae (fun EL w2 hf he hn=>yW (EL:=EL) (w2:=w2) j hl hf he hn);have HC:=ae (fun w' (hf:Fr (fun _=>False) w w')=>(show w'.cell? ⟨h.b,9,none⟩=some (.pointer (some ⟨h.rb,0,none⟩))∧w'.cell? ⟨h.b,5,none⟩=some (.int .i64 (c.stack:Int)) from ⟨aj.cell (j.keep hf).blk 9 rfl,aj.cell (j.keep hf).blk 5 rfl⟩));have C:Hid (∀EL wx w3,zC h c Ba u ub cy n ns bs S0 L EL wx w3->(w3.cell? ⟨h.b,9,none⟩=some (.pointer (some ⟨h.rb,0,none⟩))∧w3.cell? ⟨h.b,5,none⟩=some (.int .i64 (c.stack:Int)))):=by
  show∀EL wx w3,_
  intro EL wx w3 I;exact ⟨aj.cell I.1.1 9 rfl,aj.cell I.1.1 5 rfl⟩
 have O:Hid (∀(w':World) o,(w'.cell? ⟨h.b,9,none⟩=some (.pointer (some ⟨h.rb,0,none⟩))∧w'.cell? ⟨h.b,5,none⟩=some (.int .i64 (c.stack:Int)))->((w'.alloc o).cell? ⟨h.b,9,none⟩=some (.pointer (some ⟨h.rb,0,none⟩))∧(w'.alloc o).cell? ⟨h.b,5,none⟩=some (.int .i64 (c.stack:Int)))):=by
  show∀(w':World) o,_
  intro w' o r;exact ⟨(World.cell?_alloc_lt _ _ _ (World.block_lt_of_cell? _ _ r.1)).trans r.1,(World.cell?_alloc_lt _ _ _ (World.block_lt_of_cell? _ _ r.2)).trans r.2⟩
 have P:Hid (∀(w':World) (sb:Nat) (x0 x1 x2 x3:Value),sb≠h.b->(w'.cell? ⟨h.b,9,none⟩=some (.pointer (some ⟨h.rb,0,none⟩))∧w'.cell? ⟨h.b,5,none⟩=some (.int .i64 (c.stack:Int)))->(((((w'.setCell ⟨sb,0,none⟩ x0).setCell ⟨sb,1,none⟩ x1).setCell ⟨sb,2,none⟩ x2).setCell ⟨sb,3,none⟩ x3).cell? ⟨h.b,9,none⟩=some (.pointer (some ⟨h.rb,0,none⟩))∧((((w'.setCell ⟨sb,0,none⟩ x0).setCell ⟨sb,1,none⟩ x1).setCell ⟨sb,2,none⟩ x2).setCell ⟨sb,3,none⟩ x3).cell? ⟨h.b,5,none⟩=some (.int .i64 (c.stack:Int)))):=by
  show∀(w':World) (sb:Nat) (x0 x1 x2 x3:Value),_
  intro w' sb x0 x1 x2 x3 ad r;have hf:=((((Fr.refl (fun k=>k=sb) w').setCell ⟨sb,0,none⟩ (.inl rfl) x0).setCell ⟨sb,1,none⟩ (.inl rfl) x1).setCell ⟨sb,2,none⟩ (.inl rfl) x2).setCell ⟨sb,3,none⟩ (.inl rfl) x3;exact ⟨(World.cell?_of_block (a:=⟨h.b,9,none⟩) (hf.block _ (aD r.1) (fun e=>ad (Eq.symm e)))).trans r.1,(World.cell?_of_block (a:=⟨h.b,5,none⟩) (hf.block _ (aD r.2) (fun e=>ad (Eq.symm e)))).trans r.2⟩
 have N:=ae (fun EL w2 w6 sb no nw hf aq G=>yV (EL:=EL) (w2:=w2) (w6:=w6) (sb:=sb) (no:=no) (nw:=nw) j hT Y hf aq G);have y:=ae (show (∀k,(S0 k∨k=h.b)->k<w.heap.size)∧aN<w.heap.size∧h.b<w.heap.size from ⟨fun k I=>j.lt k (I.elim .inl (fun e=> .inr (.inl e))),aD (j.tab 0 0 rfl),aj.lt j.blk⟩);have k8:w.cell? ⟨h.b,8,none⟩=some (.pointer (some ⟨h.m,0,none⟩)):=aj.cell j.blk 8 rfl;have HQ:Hid (∀w6,(bM h.b c A rs u n T w6∧Fr T w w6)->wR h.b c A rs l u n T w (.returned (.tuple #[.int .i64 (l.length:Int),.int .i64 (A.Wd l:Int)])) w6):=ae (fun w6 r=>⟨rfl,r.1,r.2⟩);generalize (wR h.b c A rs l u n T w)=Q at*;generalize rs.map φ=ls at*;generalize (l.length:Int)=no at*;generalize (A.Wd l:Int)=nw at*;clear j hT Y Z am av hl
 go_enter Tryz.func19,Tryz.ntmps19
 go_wp2_with fail
 refine (HN.out).mono ?_;rintro e w1 ⟨rfl,rfl⟩;clear HN;go_wp2_with fail
 refine (V.out).mono ?_;rintro e w1 ⟨rfl,rfl⟩;clear V;go_wp2_with fail
 refine (U.out).mono ?_;rintro e w2 ⟨EL,rfl,he,hn,hf⟩;have J:=ae (fun w' v=>K.out w2 w' hf v);have D:=ae (R.out EL w2 hf he hn);have x:=ae (fun w' (v:Fr (fun _=>False) w2 w')=>HC.out w' (hf.trans v (fun _ h=>h.elim)));have B:=ae (fun w6 sb no nw G=>N.out EL w2 w6 sb no nw hf hn G);have hz:=hf.size;have g:=ae (show (∀k,(S0 k∨k=h.b)->k<w2.heap.size)∧aN<w2.heap.size∧h.b<w2.heap.size from ⟨fun k I=>Nat.lt_of_lt_of_le (y.out.1 k I) hz,Nat.lt_of_lt_of_le y.out.2.1 hz,Nat.lt_of_lt_of_le y.out.2.2 hz⟩);have s:=ae ((Fr.refl (fun _=>False) w2).drew);have t:=ae (fun o=>((Fr.refl (fun _=>False) w2).alloc o).drew);clear U K R HC N y he hn hf hz k8
 go_upto_region 4 with fail
 go_cut [6,7] from 19 to 36 (fun v6 v7 wx=>∃sb:Nat,v6= .pointer (some ⟨sb,0,none⟩)∧v7= .int .i64 0∧Hid (zW h c Ba u ub cy n ns bs S0 L EL w2 no nw sb wx))
 case first=>
  go_region_held3 (fun w'=>w'.cell? ⟨h.b,9,none⟩=some (.pointer (some ⟨h.rb,0,none⟩))∧w'.cell? ⟨h.b,5,none⟩=some (.int .i64 (c.stack:Int))) (with_reducible first
   |assumption
   |exact x.out _ s.out
   |exact x.out _ (t.out _)
   |exact O.out _ _ (by assumption)
   |exact P.out _ _ _ _ _ _ (by first|exact Nat.ne_of_gt g.out.2.2|exact Nat.ne_of_gt (Nat.lt_of_lt_of_le g.out.2.2 f.size)) (by assumption)) (first
   |(go_at_call 69;refine (J.out _ (by with_reducible first|exact s.out|exact t.out _)).mono ?_;rintro e w3 ⟨rb,rc,rfl,r1,r2,r3,z⟩;(have f:Fr (fun _=>False) w2 w3:=by with_reducible first|exact s.out.trans z (fun _ h=>h.elim)|exact (t.out _).trans z (fun _ h=>h.elim));(have ah:w2.heap.size<=rb:=by with_reducible first|exact Nat.le_trans s.out.size r1|exact Nat.le_trans (t.out _).size r1);have ax:=x.out w3 f;(try (have ap:aj w3 w2.heap.size [.int .i64 0,.int .i64 0,.int .i64 0,.int .i64 0] 136:=aj.frame (by with_reducible exact aj.drew (aj.new w2 _ _)) z (fun h=>h)));clear z r1)
   |(go_at_call 68;with_reducible refine (D.out w3 f rb rc ah r2 r3).mono ?_;rintro e w4 ⟨nr,nv,rfl,F,p⟩;have X:=C.out _ _ _ p;(try (have d:=F _ _ _ (Nat.le_refl _) ap;have k0:=d.cell 0 rfl;have k1:=d.cell 1 rfl;have k2:=d.cell 2 rfl;have k3:=d.cell 3 rfl;have l0:=d.free 0;have l1:=d.free 1;have l2:=d.free 2;have l3:=d.free 3)))
   |(go_at_call 68;refine (D.out (w3.alloc _) (f.alloc _) rb rc ah (by rw [World.size_alloc];omega) (fun i a ha=>(World.cell?_alloc_lt _ _ _ (World.block_lt_of_cell? _ _ (r3 i a ha))).trans (r3 i a ha))).mono ?_;rintro e w4 ⟨nr,nv,rfl,F,p⟩;have X:=C.out _ _ _ p;have d:=F _ _ _ f.size (aj.new w3 [.int .i64 0,.int .i64 0,.int .i64 0,.int .i64 0] 136);have k0:=d.cell 0 rfl;have k1:=d.cell 1 rfl;have k2:=d.cell 2 rfl;have k3:=d.cell 3 rfl;have l0:=d.free 0;have l1:=d.free 1;have l2:=d.free 2;have l3:=d.free 3))
  ·go_wp2;go_meet
   case rel=>exact ⟨_,rfl,rfl,ae (xz p f)⟩
  ·go_wp2;go_meet
   case rel=>exact ⟨_,rfl,rfl,ae (rv p (f.alloc _) g.out.1 g.out.2.1 f.size d)⟩
  ·go_wp2;go_meet
   case rel=>exact ⟨_,rfl,rfl,ae (rv p f g.out.1 g.out.2.1 (Nat.le_refl _) d)⟩
 case rest=>
  obtain ⟨sb,rfl,rfl,G⟩:=hcut;have E:=B.out wc sb no nw G.out;have H:=ae (fun w6 (hf:Fr (fun _=>False) wc w6)=>HQ.out w6 ⟨E.1.keep hf,E.2.trans hf (fun _ h=>h.elim)⟩);obtain ⟨nr,nv,zb⟩:=G.out.1;have k0:=zb.cell 0 rfl;have k1:=zb.cell 1 rfl;clear J D x B g s t O P C HQ G zb E;go_wp2
  go_quiet (fail)
  go_wp2;exact H.out _ ((Fr.refl _ _).drewN _)
end
section
variable {b u:Nat} {c:Cf} {A:AG} {rs l:List Nat} {T:Nat->Prop} {w:World}
def yK (b:Nat) (c:Cf) (A:AG) (rs l:List Nat) (u:Nat) (T:Nat->Prop) (w:World) (e:Ending) (w':World):Prop:=
 (∃(Us Hg:Nat) (ns bs:Int),e= .returned (.agg #[.int .i64 (l.length:Int),.int .i64 (A.Wd l:Int),.int .i64 u,.int .i64 Us,.int .i64 Hg,.int .i64 ns,.int .i64 bs,.bool false,.int .i64 0]))∧bM b c A rs u 0 T w'∧Fr T w w'
theorem aj.there {w:World} {b:Nat} {cs:List Value} {t:TypeId} (h:aj w b cs t) (n:Nat) (d:n<=cs.length):w.there b 0 n:=fun i a=>by
 rw [Nat.zero_add,h.cell i (List.getElem?_eq_getElem (by omega))];exact ⟨rfl,h.free i⟩
theorem aj.range {w:World} {b:Nat} {cs:List Value} {t:TypeId} (h:aj w b cs t):w.rangeAt b 0 cs:=fun j v a=>by
 rw [Nat.zero_add];exact h.cell j a
theorem sJ (hi:bM b c A rs u 0 T w) (hl:aJ A rs l):Calls Tryz.prog 21 #[b] w (yK b c A rs l u T w):=by
 obtain ⟨W1,E⟩:∃W1,w.alloc (.cells #[.int .i64 0,.int .i64 0,.int .i64 0,.int .i64 0,.int .i64 0,.int .i64 0,.int .i64 0,.bool false,.int .i64 0] 43)=W1:=⟨_,rfl⟩;have t:Fr (fun _=>False) w W1:=by rw [<-E];exact (Fr.refl _ w).alloc _
 have ap:aj W1 w.heap.size [.int .i64 0,.int .i64 0,.int .i64 0,.int .i64 0,.int .i64 0,.int .i64 0,.int .i64 0,.bool false,.int .i64 0] 43:=by rw [<-E];exact aj.new w _ _
 have O:=hi.lt;have ad:=ae (show (∀k,T k->¬k=w.heap.size)∧¬aN=w.heap.size from ⟨fun k hk=>Nat.ne_of_lt (O k hk),Nat.ne_of_lt hi.tab.2.1⟩);have HN:=ae (ia (hi.keep t));have B:=ae (jR (hi.keep t) hl);have V:=ae ap;have z:=ae (af t O);have r:Hid ((Tryz.prog.info? 43).map (·.size)=some 9):=by show _=_;kernel_rfl
 have HQ:Hid (∀(Us Hg:Nat) (f d:Int) (w':World),bM b c A rs u 0 T w'∧Fr T w w'->yK b c A rs l u T w (.returned (.agg #[.int .i64 (l.length:Int),.int .i64 (A.Wd l:Int),.int .i64 u,.int .i64 Us,.int .i64 Hg,.int .i64 f,.int .i64 d,.bool false,.int .i64 0])) w'):=by
  show∀(Us Hg:Nat) (f d:Int) (w':World),_
  exact fun Us Hg f d w' h=>⟨⟨Us,Hg,f,d,rfl⟩,h.1,h.2⟩
 unfold wR at B;generalize (yK b c A rs l u T w)=Q at*;generalize (l.length:Int)=no at*;generalize (A.Wd l:Int)=nw at*;clear hi hl t ap O
 go_enter Tryz.func21,Tryz.ntmps21
 go_wp2_with fail
 refine (HN.out).mono ?_;rintro e w1 ⟨rfl,rfl⟩;clear HN E;go_wp2_with fail
 refine (B.out).mono ?_;rintro e w2 ⟨rfl,N,I⟩;clear B;have ax:¬T w.heap.size:=fun h=>by have:=z.out.2 _ h;omega
 have W:=ae (V.out.frame I ax);have Z:=ae (af N (z.out.1.mono (S':=T) (fun _ h=>h.elim)|>.trans I (fun _ h=> .inl h)));obtain ⟨h,φ,L,Ba,ub,cy,f,d,S,rfl,g,a7,aq⟩:=id N;obtain rfl:=aq rfl;obtain ⟨Sm,Us,Hg,mp,M,P⟩:=g.mem.memB;have y:=ae (fun w' (hf:Fr (fun _=>False) w2 w')=>(show w'.cell? ⟨h.b,8,none⟩=some (.pointer (some ⟨h.m,0,none⟩))∧w'.cell? ⟨h.b,10,none⟩=some (.pointer (some ⟨ub,0,none⟩))∧w'.cell? ⟨h.b,11,none⟩=some (.pointer none)∧w'.cell? ⟨h.b,12,none⟩=some (.int .i64 f)∧w'.cell? ⟨h.b,13,none⟩=some (.int .i64 d) from ⟨aj.cell (g.keep hf).blk 8 rfl,aj.cell (g.keep hf).blk 10 rfl,aj.cell (g.keep hf).blk 11 rfl,aj.cell (g.keep hf).blk 12 rfl,aj.cell (g.keep hf).blk 13 rfl⟩));have C:=ae (fun w' (hf:Fr (fun _=>False) w2 w')=>gO (g.keep hf).reg);have X:=ae (fun w' (hf:Fr (fun _=>False) w2 w')=>ep (g.keep hf).reg);have am:=ae (fun w' (hf:Fr (fun _=>False) w2 w')=>lz (P.keep hf));have Y:=ae (fun w' (hf:Fr (fun _=>False) w2 w')=>sV (P.keep hf));have i:Hid (∀w',(w'=w2.drew∨w'=w2.drew.alloc (.cells #[.int .i64 0,.int .i64 0,.int .i64 0,.int .i64 0,.int .i64 0,.int .i64 0,.int .i64 0,.bool false,.int .i64 0] 43))->Fr (fun _=>False) w2 w'):=by
  show∀w',_
  rintro w' (rfl|rfl)
  ·exact (Fr.refl _ w2).drew
  ·exact (Fr.refl _ w2).drew.alloc _
 have D:Hid (IntKind.i64.wrap (((Ba+u:Nat):Int)-(Ba:Int))=(u:Int)):=by
  show _=_
  have R:=g.fits;have U:=g.cok.words3;rw [IntKind.wrap_i64];omega
 have a0:w.heap.size≠w2.heap.size:=by have:=W.out.lt;omega
 have a5:=ae a0;have a6:=ae (HQ.out Us Hg f d);obtain ⟨k8,a1,a2,a3,a4⟩:=y.out w2 (Fr.refl _ _);generalize a8:Ba+u=Tp at C D;clear a8 N I g a7 P ax aq a0 V z HQ k8 a1 a2 a3 a4;go_wp2;refine aS 38 37 (fun a b2=>b2=a∨b2=a.alloc (.cells #[.int .i64 0,.int .i64 0,.int .i64 0,.int .i64 0,.int .i64 0,.int .i64 0,.int .i64 0,.bool false,.int .i64 0] 43)) (fun a b2=>b2=a) [.c (.int .i64 no),.c (.int .i64 nw),.c (.pointer (some ⟨h.b,0,none⟩)),.c (.pointer (some ⟨h.b,0,none⟩)),.c (.pointer (some ⟨h.b,10,none⟩)),.c (.pointer (some ⟨ub,0,none⟩)),.c (.int .i64 Tp),.c (.pointer (some ⟨h.b,0,none⟩)),.c (.pointer (some ⟨h.b,0,none⟩)),.c (.pointer (some ⟨h.b,10,none⟩)),.c (.pointer (some ⟨ub,0,none⟩)),.c (.int .i64 Ba),.c (.int .i64 u),.c (.pointer (some ⟨h.b,0,none⟩)),.c (.pointer (some ⟨h.b,0,none⟩)),.c (.pointer (some ⟨h.b,8,none⟩)),.c (.pointer (some ⟨h.m,0,none⟩)),.c (.int .i64 Us),.c (.pointer (some ⟨h.b,0,none⟩)),.c (.pointer (some ⟨h.b,0,none⟩)),.c (.pointer (some ⟨h.b,8,none⟩)),.c (.pointer (some ⟨h.m,0,none⟩)),.c (.int .i64 Hg),.c (.pointer (some ⟨h.b,0,none⟩)),.c (.pointer (some ⟨h.b,0,none⟩)),.c (.pointer (some ⟨h.b,12,none⟩)),.c (.int .i64 f),.c (.pointer (some ⟨h.b,0,none⟩)),.c (.pointer (some ⟨h.b,0,none⟩)),.c (.pointer (some ⟨h.b,13,none⟩)),.c (.int .i64 d),.c (.pointer (some ⟨h.b,0,none⟩)),.c (.pointer (some ⟨h.b,0,none⟩)),.c (.pointer (some ⟨h.b,11,none⟩)),.c (.pointer none),.c (.bool false),.c (.agg #[.int .i64 no,.int .i64 nw,.int .i64 u,.int .i64 Us,.int .i64 Hg,.int .i64 f,.int .i64 d,.bool false,.int .i64 0]),.p (fun v w5=>v= .pointer (some ⟨w2.heap.size,0,none⟩)∧w5=w2.drew.alloc (.cells #[.int .i64 0,.int .i64 0,.int .i64 0,.int .i64 0,.int .i64 0,.int .i64 0,.int .i64 0,.bool false,.int .i64 0] 43))] (fun j=>false) (by kernel_rfl) (by kernel_rfl) (by kernel_rfl) (by kernel_rfl) rfl (fun _=>rfl) (fun _ _ h=> .inl h) (fun _ _ _ R U=>U.trans R) (fun _ _ _ R U=>by subst U;exact R) (fun _ _ _ R U=>by subst R;exact U) (fun _ _ h=>by rcases h with rfl|rfl;exact Nat.le_refl _;rw [World.size_alloc];omega) (by exact ⟨fun _ _ _ h hr=>by subst hr;exact h,trivial⟩) (by exact ⟨.inl rfl,trivial⟩) ?_;intro F hF;simp only [cU,PK.val,List.take_succ_cons,List.take_zero,aa,ab,ac] at hF;subst hF;refine ⟨by
  refine ⟨?_,?_,?_,?_,?_,?_,?_,?_,?_,?_,?_,?_,?_,?_,?_,?_,?_,?_,?_,?_,?_,?_,?_,?_,?_,?_,?_,?_,?_,?_,?_,?_,?_,?_,?_,?_,?_,?_,trivial⟩<;>intro vs w1 q bb hd hx
  all_goals try (apply oV;rotate_left;rfl;exact rfl;go_simp;done)
  all_goals try (apply oV;rotate_left;rfl;exact rfl;have bj:=D.out;go_simp;done)
  all_goals try (apply oV;rotate_left;rfl;exact rfl;have k8:=(y.out w1 (i.out _ q)).1;go_simp;done)
  all_goals try (apply oV;rotate_left;rfl;exact rfl;have a1:=(y.out w1 (i.out _ q)).2.1;go_simp;done)
  all_goals try (apply oV;rotate_left;rfl;exact rfl;have a2:=(y.out w1 (i.out _ q)).2.2.1;go_simp;done)
  all_goals try (apply oV;rotate_left;rfl;exact rfl;have a3:=(y.out w1 (i.out _ q)).2.2.2.1;go_simp;done)
  all_goals try (apply oV;rotate_left;rfl;exact rfl;have a4:=(y.out w1 (i.out _ q)).2.2.2.2;go_simp;done)
  ·refine ar 76 #[ub] (by go_simp) ((C.out w1 (i.out _ q)).mono ?_);rintro e w5 ⟨rfl,rfl⟩;exact ⟨_,rfl,rfl,rfl,fun h=>nomatch h⟩
  ·refine ar 75 #[ub] (by go_simp) ((X.out w1 (i.out _ q)).mono ?_);rintro e w5 ⟨rfl,rfl⟩;exact ⟨_,rfl,rfl,rfl,fun h=>nomatch h⟩
  ·refine ar 78 #[h.m] (by go_simp) ((am.out w1 (i.out _ q)).mono ?_);rintro e w5 ⟨rfl,rfl⟩;exact ⟨_,rfl,rfl,rfl,fun h=>nomatch h⟩
  ·refine ar 79 #[h.m] (by go_simp) ((Y.out w1 (i.out _ q)).mono ?_);rintro e w5 ⟨rfl,rfl⟩;exact ⟨_,rfl,rfl,rfl,fun h=>nomatch h⟩
  ·have bd:=bb (by kernel_rfl);subst bd;exact ao (.pointer (some ⟨w2.heap.size,0,none⟩)) (w':=w2.drew.alloc (.cells #[.int .i64 0,.int .i64 0,.int .i64 0,.int .i64 0,.int .i64 0,.int .i64 0,.int .i64 0,.bool false,.int .i64 0] 43)) (by go_simp) ⟨⟨rfl,rfl⟩,.inr rfl,fun h=>nomatch h⟩
  ,fun vs w1 q hp hx=> ?_⟩
 obtain ⟨s,_⟩:=hp;obtain ⟨s,rfl⟩:=s;simp only [s];clear s hx q y C X am Y i D;simp only [List.drop_succ_cons,List.drop_zero];have H:aj (w2.drew.alloc (.cells #[.int .i64 0,.int .i64 0,.int .i64 0,.int .i64 0,.int .i64 0,.int .i64 0,.int .i64 0,.bool false,.int .i64 0] 43)) w2.heap.size [.int .i64 0,.int .i64 0,.int .i64 0,.int .i64 0,.int .i64 0,.int .i64 0,.int .i64 0,.bool false,.int .i64 0] 43:=aj.new w2.drew _ _;have K:Fr (fun _=>False) w2 (w2.drew.alloc (.cells #[.int .i64 0,.int .i64 0,.int .i64 0,.int .i64 0,.int .i64 0,.int .i64 0,.int .i64 0,.bool false,.int .i64 0] 43)):=(Fr.refl _ w2).drew.alloc _;have ah:=ae (H.there 9 (Nat.le_refl _));have x:aj ((w2.drew.alloc (.cells #[.int .i64 0,.int .i64 0,.int .i64 0,.int .i64 0,.int .i64 0,.int .i64 0,.int .i64 0,.bool false,.int .i64 0] 43)).setCells w2.heap.size 0 [.int .i64 no,.int .i64 nw,.int .i64 u,.int .i64 Us,.int .i64 Hg,.int .i64 f,.int .i64 d,.bool false,.int .i64 0]) w2.heap.size [.int .i64 no,.int .i64 nw,.int .i64 u,.int .i64 Us,.int .i64 Hg,.int .i64 f,.int .i64 d,.bool false,.int .i64 0] 43:=aj.setCells [.int .i64 no,.int .i64 nw,.int .i64 u,.int .i64 Us,.int .i64 Hg,.int .i64 f,.int .i64 d,.bool false,.int .i64 0] [] _ H (Nat.le_refl 9);have J:Fr (fun k=>k=w2.heap.size) (w2.drew.alloc (.cells #[.int .i64 0,.int .i64 0,.int .i64 0,.int .i64 0,.int .i64 0,.int .i64 0,.int .i64 0,.bool false,.int .i64 0] 43)) ((w2.drew.alloc (.cells #[.int .i64 0,.int .i64 0,.int .i64 0,.int .i64 0,.int .i64 0,.int .i64 0,.int .i64 0,.bool false,.int .i64 0] 43)).setCells w2.heap.size 0 [.int .i64 no,.int .i64 nw,.int .i64 u,.int .i64 Us,.int .i64 Hg,.int .i64 f,.int .i64 d,.bool false,.int .i64 0]):=Fr.setCells (S:=fun k=>k=w2.heap.size) (.inl rfl) _ _ (Fr.refl _ _);have n:=ae (af x (af ((W.out.frame K (fun h=>h)).frame J a5.out) (K.trans J (fun k hk=> .inr (Nat.le_of_eq hk.symm)))));clear H K x J;have o:(#[Value.int .i64 no,.int .i64 nw,.int .i64 u,.int .i64 Us,.int .i64 Hg,.int .i64 f,.int .i64 d,.bool false,.int .i64 0]:Array Value).all (·.oneCell')=true:=by kernel_rfl
 refine wpList_store_mid rfl 43 _ _ rfl w2.heap.size 0 #[.int .i64 no,.int .i64 nw,.int .i64 u,.int .i64 Us,.int .i64 Hg,.int .i64 f,.int .i64 d,.bool false,.int .i64 0] rfl rfl ah.out r.out o ?_;obtain ⟨W3,G⟩:∃W3,(w2.drew.alloc (.cells #[.int .i64 0,.int .i64 0,.int .i64 0,.int .i64 0,.int .i64 0,.int .i64 0,.int .i64 0,.bool false,.int .i64 0] 43)).setCells w2.heap.size 0 [.int .i64 no,.int .i64 nw,.int .i64 u,.int .i64 Us,.int .i64 Hg,.int .i64 f,.int .i64 d,.bool false,.int .i64 0]=W3:=⟨_,rfl⟩;rw [show (#[Value.int .i64 no,.int .i64 nw,.int .i64 u,.int .i64 Us,.int .i64 Hg,.int .i64 f,.int .i64 d,.bool false,.int .i64 0]:Array Value).toList=[.int .i64 no,.int .i64 nw,.int .i64 u,.int .i64 Us,.int .i64 Hg,.int .i64 f,.int .i64 d,.bool false,.int .i64 0] from rfl,G];rw [G] at n;clear G ah;have k7:=n.out.1.cell 7 rfl;go_wp2_with (first|(refine wpList_load_mid rfl 43 _ rfl w2.heap.size 0 rfl [.int .i64 no,.int .i64 nw,.int .i64 u,.int .i64 Us,.int .i64 Hg,.int .i64 f,.int .i64 d,.bool false,.int .i64 0] _ n.out.1.range Tryz.underlying43 rfl r.out ?_)|(refine wpList_store_mid rfl 43 _ _ rfl w.heap.size 0 #[.int .i64 no,.int .i64 nw,.int .i64 u,.int .i64 Us,.int .i64 Hg,.int .i64 f,.int .i64 d,.bool false,.int .i64 0] rfl rfl (n.out.2.1.there 9 (Nat.le_refl _)) r.out o ?_))
 have a9:aj (W3.setCells w.heap.size 0 [.int .i64 no,.int .i64 nw,.int .i64 u,.int .i64 Us,.int .i64 Hg,.int .i64 f,.int .i64 d,.bool false,.int .i64 0]) w.heap.size [.int .i64 no,.int .i64 nw,.int .i64 u,.int .i64 Us,.int .i64 Hg,.int .i64 f,.int .i64 d,.bool false,.int .i64 0] 43:=aj.setCells [.int .i64 no,.int .i64 nw,.int .i64 u,.int .i64 Us,.int .i64 Hg,.int .i64 f,.int .i64 d,.bool false,.int .i64 0] [] _ n.out.2.1 (Nat.le_refl 9);have av:Fr (fun k=>k=w.heap.size) W3 (W3.setCells w.heap.size 0 [.int .i64 no,.int .i64 nw,.int .i64 u,.int .i64 Us,.int .i64 Hg,.int .i64 f,.int .i64 d,.bool false,.int .i64 0]):=Fr.setCells (S:=fun k=>k=w.heap.size) (.inl rfl) _ _ (Fr.refl _ _);refine bodyPost_ret (fK rfl _ _ _ _ _ _ _ rfl a9 Tryz.underlying43 rfl r.out) rfl ?_;exact a6.out _ ⟨(Z.out.1.keep n.out.2.2).stays av ad.out.1 ad.out.2,(Z.out.2.trans n.out.2.2 (fun _ h=>h.elim)).trans av (fun k hk=> .inr (Nat.le_of_eq hk.symm))⟩
end
theorem jr (l:List Nat):l.sum+1∉l:=fun h=>by have:=ms h;omega
section
variable {b xb:Nat} {c:Cf} {A A':AG} {rs rs' l:List Nat} {cs:List Value} {t:TypeId} {w0 w w':World}
theorem bu.lives (h:bu b c A rs xb cs t w0 w):∃l,aJ A rs l:=let ⟨_,_,_,a,_⟩:=h;a.lives
theorem bu.words_le (h:bu b c A rs xb cs t w0 w) (d:aJ A rs l):A.Wd l<=c.Wd:=by
 obtain ⟨u,n,T,a,_⟩:=h;exact Nat.le_trans (a.words_le d) a.cf.2.2
theorem bu.Sl (h:bu b c A rs xb cs t w0 w):rs.length=c.Sl:=let ⟨_,_,_,a,_⟩:=h;a.cf.2.1
theorem bu.cok (h:bu b c A rs xb cs t w0 w):cT c:=let ⟨_,_,_,a,_⟩:=h;a.cf.1
theorem bu.keep (h:bu b c A rs xb cs t w0 w) (hf:Fr (fun _=>False) w w'):bu b c A rs xb cs t w0 w':=by
 obtain ⟨u,n,T,a,d,e,f,g⟩:=h;exact ⟨u,n,T,a.keep hf,d,e,f.frame hf (fun h=>h),g.trans hf (fun _ h=>h.elim)⟩
theorem bu.hop {T:Nat->Prop} (e:∀k,T k->w0.heap.size<=k) (f:¬T xb) (g:aj w xb cs t) (i:Fr (fun _=>False) w0 w) (h:cB b c A' rs' T w w'):bu b c A' rs' xb cs t w0 w':=
 let ⟨_,_,_,g1,a,d⟩:=h;bu.next e f g i g1 a d
theorem bu.alloc2 {s k p f g:Nat} (h:bu b c A rs xb cs t w0 w) (r:aJ A rs l) (z:s<c.Sl) (x:bl p f g) (d:k≠0) (i:k∉l):Calls Tryz.prog 11 #[b,.int .i64 s,bN p f g] w fun e w'=>
  (A.Wd l+(1+(p+f+g))<=c.Wd∧e= .returned (.int .i64 0)∧bu b c (A.new k p f g) (rs.set s k) xb cs t w0 w')∨(c.Wd<A.Wd l+(1+(p+f+g))∧e= .returned (.int .i64 21)∧bu b c A rs xb cs t w0 w'):=by
 obtain ⟨u,n,T,v,j,m,o,q⟩:=h;refine (iM v r z x d (fun y=>i ((r.2 _).2 y))).mono ?_;rintro e w' (⟨a,rfl,g⟩|⟨a,rfl,g⟩)
 ·exact .inl ⟨a,rfl,bu.hop j m o q g⟩
 ·exact .inr ⟨a,rfl,bu.hop j m o q g⟩
theorem bu.store {s x i u v:Nat} (h:bu b c A rs xb cs t w0 w) (p:rs[s]? =some x) (d:x≠0) (a:i<A.np x) (q:rs[u]? =some v):Calls Tryz.prog 13 #[b,.int .i64 s,.int .i64 i,.int .i64 u] w fun e w'=>e= .returned (.int .i64 0)∧bu b c (A.put x i v) rs xb cs t w0 w':=by
 obtain ⟨u,n,T,f,j,k,m,o⟩:=h;refine (sK f p d a q).mono ?_;rintro e w' ⟨rfl,g⟩;exact ⟨rfl,bu.hop j k m o g⟩
theorem bu.copy {s u r:Nat} (h:bu b c A rs xb cs t w0 w) (k:s<c.Sl) (m:rs[u]? =some r):Calls Tryz.prog 15 #[b,.int .i64 s,.int .i64 u] w fun e w'=>e= .returned (.int .i64 0)∧bu b c A (rs.set s r) xb cs t w0 w':=by
 obtain ⟨u,n,T,a,d,f,i,j⟩:=h;refine (uP a k m).mono ?_;rintro e w' ⟨rfl,g⟩;exact ⟨rfl,bu.hop d f i j g⟩
theorem bu.live (h:bu b c A rs xb cs t w0 w) (k:aJ A rs l):Calls Tryz.prog 19 #[b] w fun e w'=>e= .returned (.tuple #[.int .i64 (l.length:Int),.int .i64 (A.Wd l:Int)])∧bu b c A rs xb cs t w0 w':=by
 obtain ⟨u,n,T,d,f,g,i,j⟩:=h;refine (jR d k).mono ?_;rintro e w' ⟨rfl,g1,a⟩;exact ⟨rfl,bu.next f g i j g1 a (fun _ h=> .inl h)⟩
def ue (b:Nat) (c:Cf) (A:AG) (rs l:List Nat) (xb:Nat) (cs:List Value) (t:TypeId) (w0 w:World):Prop:=∃T,bM b c A rs (A.Wd l) 0 T w∧(∀k,T k->w0.heap.size<=k)∧¬T xb∧aj w xb cs t∧Fr (fun _=>False) w0 w
theorem ue.toI (h:ue b c A rs l xb cs t w0 w):bu b c A rs xb cs t w0 w:=let ⟨T,a,d⟩:=h;⟨_,_,T,a,d⟩
theorem bu.collect (h:bu b c A rs xb cs t w0 w) (r:aJ A rs l):Calls Tryz.prog 20 #[b] w fun e w'=>e= .returned (.tuple #[])∧ue b c A rs l xb cs t w0 w':=by
 obtain ⟨u,n,T,q,g,i,j,m⟩:=h;refine (fx q).mono ?_;rintro e w' ⟨rfl,x,o,p,g1,d,f⟩;rw [p.Wd r] at g1;have v:=m.size;have s:=j.lt;exact ⟨rfl,o,g1,fun k a=>(f k a).elim (g k) (fun h=>by omega),fun a=>(f _ a).elim i (fun h=>by omega),j.frame d i,m.trans d (fun k a=> .inr (g k a))⟩
theorem ue.stats (h:ue b c A rs l xb cs t w0 w) (p:aJ A rs l):Calls Tryz.prog 21 #[b] w fun e w'=>(∃(Us Hg:Nat) (q g:Int),e= .returned (.agg #[.int .i64 (l.length:Int),.int .i64 (A.Wd l:Int),.int .i64 (A.Wd l:Int),.int .i64 Us,.int .i64 Hg,.int .i64 q,.int .i64 g,.bool false,.int .i64 0]))∧ue b c A rs l xb cs t w0 w':=by
 obtain ⟨T,j,d,f,m,n⟩:=h;refine (sJ j p).mono ?_;rintro e w' ⟨g1,i,a⟩;exact ⟨g1,T,i,d,f,m.frame a f,n.trans a (fun k o=> .inr (d k o))⟩
end
end Go.Proofs.YthahbijbpinneaaGreatDoor
