import Derived.Test.YthahbijbpinneaaGreatDoorA0
import Derived.Test.YthahbijbpinneaaGreatDoorA8
import Derived.Test.YthahbijbpinneaaGreatDoorA17
import Derived.Test.YthahbijbpinneaaGreatDoorA22
import Derived.Laws.BitsAllLaws
set_option maxRecDepth 100000
set_option maxHeartbeats 8000000
set_option linter.all false
namespace Go.Proofs.YthahbijbpinneaaGreatDoor
open Go.RowKit
theorem rY (b:Nat) (w:World):(callFunc 104 #[.float .f64 b]).run Tryz.prog w= .ok (.value (.int .u64 b)) w:=by kernel_rfl
theorem xc (b:Nat) (w:World):(callFunc 83 #[.int .u64 b]).run Tryz.prog w= .ok (.value (.float .f64 b)) w:=by kernel_rfl
def my (b:Nat):Bool:=decide (9223372036854775808<=b)
theorem nm (b:Nat) (w:World):
  Calls Tryz.prog 41 #[.float .f64 b] w fun e w'=>e= .returned (.int .u64 b)∧w=w':=by
 have h:=rY b
 go_enter Tryz.func41,Tryz.ntmps41
 go_wp2;go_ret;exact ⟨rfl,rfl⟩
theorem vr (b:Nat) (w:World):
  Calls Tryz.prog 23 #[.int .u64 b] w fun e w'=>e= .returned (.float .f64 b)∧w=w':=by
 have h:=xc b
 go_enter Tryz.func23,Tryz.ntmps23
 go_wp2;go_ret;exact ⟨rfl,rfl⟩
theorem vX (b:Nat) (c:b<18446744073709551616):bits .and .u64 (b:Int) 9223372036854775808=if my b then 9223372036854775808 else 0:=by
 have h:=u64_and_nat b 9223372036854775808 c (by decide);have e:b&&&9223372036854775808=if my b then 9223372036854775808 else 0:=by
  have d:b.testBit 63=my b:=by
   unfold my;rw [Nat.testBit_eq_decide_div_mod_eq,Bool.eq_iff_iff];simp only [decide_eq_true_eq];omega
  rw [<-d];apply Nat.eq_of_testBit_eq;intro j;rw [show (9223372036854775808:Nat)=2^63 by rfl,Nat.testBit_and];by_cases a:j=63
  ·subst a;cases c:b.testBit 63<;>simp
  ·rw [Nat.testBit_two_pow_of_ne (Ne.symm a)];split
   ·rw [Nat.testBit_two_pow_of_ne (Ne.symm a)];simp
   ·simp
 rw [e] at h;rw [show (9223372036854775808:Int)=((9223372036854775808:Nat):Int) by rfl,h]
 cases my b<;>rfl
section
variable {t:TypeId} {v:Value} {fl fs:Nat} {r:Value} {I:dZ} {dom:Nat->Prop} {L L' L'':Nat->Nat} {S:Nat->Prop} {w w1 w2:World}
theorem s8 (q:aX t v fl r I dom) (m:I L S w) (a i p f g x:Nat) (k:1<=a) (h:a<4611686018427387904) (j:i<256) (l:dom a) (o:dw L a p f g) (n:bK p f g i=2) (b:dom (a+1+i)) (s:L (a+1+i)=x):Calls Tryz.prog 108 #[.iface t v,.int .i64 a,.int .i64 i] w (bz I L S w (.tuple #[.float .f64 x,.int .i64 0])):=by
 have c:=ae (mB q m a i p f g 2 x k h j l o n b s);rw [show ((2:Nat):Int)=2 from rfl] at c;have d:=ae (fun w1=>vr x w1);unfold bz at*;clear q m l o n b s k h j
 go_enter Tryz.func108,Tryz.ntmps108
 go_wp2_with fail
 refine (c.out).mono ?_;rintro e W1 ⟨rfl,hp⟩;clear c;go_wp2_with fail
 refine (d.out _).mono ?_;rintro e u ⟨rfl,rfl⟩;clear d;go_wp2;go_ret2;exact ⟨rfl,hp⟩
theorem mC (u:aX t v fl r I dom) (y:iA t v fs r I dom) (o:I L S w) (a i p f g x:Nat) (m:1<=a) (k:a<4611686018427387904) (l:i<256) (n:dom a) (s:dw L a p f g) (q:bK p f g i=2) (c:dom (a+1+i)) (z:x<18446744073709551616):Calls Tryz.prog 82 #[.iface t v,.int .i64 a,.int .i64 i,.float .f64 x] w (bz I (bw L (a+1+i) x) S w (.int .i64 0)):=by
 have d:=ae (rB u y o a i p f g 2 x m k l n s q c z);rw [show ((2:Nat):Int)=2 from rfl] at d;have h:=ae (fun w1=>nm x w1);obtain ⟨j,b⟩:∃j,j=bw L (a+1+i) x:=⟨_,rfl⟩;rw [<-b] at d ⊢;unfold bz at*;clear u y o n s q c z m k l b
 go_enter Tryz.func82,Tryz.ntmps82
 go_wp2_with fail
 refine (h.out _).mono ?_;rintro e W1 ⟨rfl,rfl⟩;go_wp2_with fail
 refine (d.out).mono ?_;rintro e W1 ⟨rfl,hp⟩;clear d h;go_wp2;go_ret;exact ⟨rfl,hp⟩
end
section
variable {b u n s x v i:Nat} {c:Cf} {A A':AG} {rs:List Nat} {T:Nat->Prop} {w w1 w' w'':World}
theorem lm (U:bM b c A rs u n T w) (J:rs[s]? =some x) (F:x≠0):∃G,∃B:Nat,(∀w1,Fr (fun _=>False) w w1->∀xb C:Nat,w1.cell? ⟨xb,0,none⟩=some (.int .i64 s)->Calls Tryz.prog 60 #[b,.slice (some ⟨xb,0,none⟩) 1 C] w1 (t8 [B] w1))∧
  (∀w1,Fr (fun _=>False) w w1->Calls Tryz.prog 62 #[b] w1 fun e w'=>e= .returned G∧w1=w')∧
  (∀w1 i v,Fr (fun _=>False) w w1->A.np x<=i->i<A.np x+A.nf x->v<18446744073709551616->Calls Tryz.prog 82 #[G,.int .i64 B,.int .i64 ((i:Nat):Int),.float .f64 v] w1 fun e w'=>e= .returned (.int .i64 0)∧eX b c (A.put x i v) rs T w w')∧
  (∀w1 i,Fr (fun _=>False) w w1->A.np x<=i->i<A.np x+A.nf x->Calls Tryz.prog 108 #[G,.int .i64 B,.int .i64 ((i:Nat):Int)] w1 fun e w'=>e= .returned (.tuple #[.float .f64 (A.fld x i),.int .i64 0])∧eX b c A rs T w w'∧w1.heap.size<=w'.heap.size):=by
 obtain ⟨h,φ,L,Ba,ub,M,Z,Y,S,rfl,f,H,R⟩:=U;have V:=f.half.top;obtain ⟨Q,_⟩:=f.cok.W5;have q:=f.fits;have p:Reach A.gr rs x:= .root (List.mem_of_getElem? J) F;refine ⟨wK h.m M,φ x,fun w1 hf xb C P=> ?_,fun w1 hf=>dl (f.keep hf).blk,fun w1 i v hf l t K=> ?_,fun w1 i hf l t=> ?_⟩
 ·refine gX (f.keep hf).blk (f.keep hf).roots xb C [φ x] (fun j a y=> ?_) (by simp) (by simp)
  match j,y with
  |0,y=>
   obtain rfl:φ x=a:=Option.some.inj y;exact ⟨s,P,by rw [List.getElem?_map,J];rfl⟩
  |j+1,y=>exact absurd y (by simp)
 ·obtain ⟨W,X,N,O,r,I,dom,E,o,z,D,k,g⟩:=(f.keep hf).mem.space f.cok f.half q;have d:=f.laid.spot (i:=i) k (by omega) p (by omega);rw [E];refine (mC o z D (φ x) i _ _ _ v d.a1 d.a2 d.i1 d.d1 d.hd (nW d.hd.2 l t) d.d2 K).mono ?_;rintro e w' ⟨rfl,hp⟩;exact ⟨rfl,fz f H g (f.laid.put_val p l (by omega) K) hf hp⟩
 ·obtain ⟨W,X,N,O,r,I,dom,E,o,z,D,k,g⟩:=(f.keep hf).mem.space f.cok f.half q;have d:=f.laid.spot (i:=i) k (by omega) p (by omega);rw [E];refine (s8 o D (φ x) i _ _ _ (A.fld x i) d.a1 d.a2 d.i1 d.d1 d.hd (nW d.hd.2 l t) d.d2 (f.laid.val x p i l (by omega)).1).mono ?_;rintro e w' ⟨rfl,hp⟩;exact ⟨rfl,fz f H g f.laid hf hp,hp.fr.size⟩
theorem mo (I:bM b c A rs u n T w) (M:rs[s]? =some x) (z:x≠0) (t:A.np x<=i) (y:i<A.np x+A.nf x) (N:v<18446744073709551616):Calls Tryz.prog 22 #[b,.int .i64 s,.int .i64 i,.float .f64 v] w fun e w'=>e= .returned (.int .i64 0)∧cB b c (A.put x i v) rs T w w':=by
 obtain ⟨P,B,D,E,F,_⟩:=lm I M z;obtain ⟨W1,m⟩:∃W1,w.alloc (.cells #[.int .i64 s] 3)=W1:=⟨_,rfl⟩;have d:Fr (fun _=>False) w W1:=by rw [<-m];exact (Fr.refl _ w).alloc _
 have r:aj W1 w.heap.size [.int .i64 s] 3:=by rw [<-m];exact aj.new w _ _
 have p:=ae (D W1 d w.heap.size 1 (r.cell 0 rfl));have a:=ae (fun w1 (hf:Fr (fun _=>False) W1 w1)=>E w1.drew ((d.trans hf (fun _ h=>h.elim)).drew));have q:=ae (fun w1 (hf:Fr (fun _=>False) W1 w1)=>F w1.drew i v ((d.trans hf (fun _ h=>h.elim)).drew) t y N);have o:=ae (fun w' (h:eX b c (A.put x i v) rs T w w')=>h.end_);clear D E F I d r M t y N z;generalize (cB b c (A.put x i v) rs T w)=Q at*;generalize (eX b c (A.put x i v) rs T w)=J at*
 go_enter Tryz.func22,Tryz.ntmps22
 go_wp2_with fail
 refine (p.out).mono ?_;rintro e w1 ⟨g,cap,rfl,G,hf⟩;have C:=G 0 B rfl;have O:w1.drew.cell? ⟨g,0,none⟩=some (.int .i64 B):=C;have j:=ae (a.out w1 hf);have k:=ae (q.out w1 hf);clear p a q G hf C m;rw [show [B].length=1 from rfl];go_wp2;have a:=j;clear j;refine aA (fun w'=>w'=w1.drew) 7 (by kernel_rfl) (by kernel_rfl) rfl ?_;simp only [List.take_succ_cons,List.take_zero,List.drop_succ_cons,List.drop_zero];refine ag (.pointer (some ⟨b,0,none⟩)) rfl (fun w' l=>by go_simp) ?_;simp only [Act.put,aa,ab,ac];refine az (P) 62 #[b] rfl (fun w'=>by go_simp) (fun w' l=>by subst l;exact (a.out).mono (fun e w' h=>⟨h.1,h.2.symm⟩)) ?_;simp only [Act.put,aa,ab,ac];refine ag (.slice (some ⟨g,0,none⟩) 1 cap) rfl (fun w' l=>by go_simp) ?_;simp only [Act.put,aa,ab,ac];refine ag (.pointer (some ⟨g,0,none⟩)) rfl (fun w' l=>by go_simp) ?_;simp only [Act.put,aa,ab,ac];refine ag (.int .i64 B) rfl (fun w' l=>by subst l;go_simp) ?_;simp only [Act.put,aa,ab,ac];refine ag (.int .i64 i) rfl (fun w' l=>by go_simp) ?_;simp only [Act.put,aa,ab,ac];refine ag (.float .f64 v) rfl (fun w' l=>by go_simp) ?_;simp only [Act.put,aa,ab,ac];refine wpQuiet_nil ?_;rintro w2 rfl;go_wp2_with fail
 refine (k.out).mono ?_;rintro e w3 ⟨rfl,K⟩;have f:=ae (o.out w3 K);clear k K o a O;go_wp2_with fail
 refine (f.out).mono ?_;rintro e w4 ⟨rfl,L⟩;have H:=ae L;clear f L;go_wp2;go_ret;exact ⟨rfl,H.out⟩
theorem gY (U:bM b c A rs u n T w) (W:rs[s]? =some x) (K:x≠0) (G:A.np x<=i) (I:i<A.np x+A.nf x):Calls Tryz.prog 45 #[b,.int .i64 s,.int .i64 i] w fun e w'=>e= .returned (.tuple #[.float .f64 (A.fld x i),.int .i64 0])∧cB b c A rs T w w':=by
 obtain ⟨Z,D,p,q,_,P⟩:=lm U W K;obtain ⟨W1,r⟩:∃W1,w.alloc (.cells #[.int .i64 s] 3)=W1:=⟨_,rfl⟩;have k:Fr (fun _=>False) w W1:=by rw [<-r];exact (Fr.refl _ w).alloc _
 have E:aj W1 w.heap.size [.int .i64 s] 3:=by rw [<-r];exact aj.new w _ _
 have B:=ae (p W1 k w.heap.size 1 (E.cell 0 rfl));have d:=ae (fun w1 (hf:Fr (fun _=>False) W1 w1)=>q w1.drew ((k.trans hf (fun _ h=>h.elim)).drew));have C:=ae (fun w1 (hf:Fr (fun _=>False) W1 w1)=>P w1.drew i ((k.trans hf (fun _ h=>h.elim)).drew) G I);have z:=ae (fun w' (h:eX b c A rs T w w')=>h.end_);clear p q P U k E W G I K;generalize (cB b c A rs T w)=Q at*;generalize (eX b c A rs T w)=J at*;generalize A.fld x i=y at*
 go_enter Tryz.func45,Tryz.ntmps45
 go_wp2_with fail
 refine (B.out).mono ?_;rintro e w1 ⟨g,cap,rfl,S,hf⟩;have N:=S 0 D rfl;have d0:w1.drew.cell? ⟨g,0,none⟩=some (.int .i64 D):=N;have m:=ae (d.out w1 hf);have o:=ae (C.out w1 hf);clear B d C S hf N r;rw [show [D].length=1 from rfl];go_wp2;have d:=m;clear m;refine aS 12 6 (fun a M=>a.heap.size<=M.heap.size) (fun a M=>M=a) [.c (.pointer (some ⟨b,0,none⟩)),.c (Z),.c (.slice (some ⟨g,0,none⟩) 1 cap),.c (.pointer (some ⟨g,0,none⟩)),.c (.int .i64 D),.c (.int .i64 i),.w (.tuple #[.float .f64 y,.int .i64 0]) (J),.c (.tuple #[.float .f64 y,.int .i64 0]),.c (.float .f64 y),.c (.int .i64 0),.c (.float .f64 y),.c (.int .i64 0)] (fun j=>false) (by kernel_rfl) (by kernel_rfl) (by kernel_rfl) (by kernel_rfl) rfl (fun _=>rfl) (fun _ _ h=>by subst h;exact Nat.le_refl _) (fun _ _ _ p q=>q.trans p) (fun _ _ _ p q=>by subst q;exact p) (fun _ _ _ p q=>by subst p;exact q) (fun _ _ h=>h) ⟨fun w1 w2 h hr=>by subst hr;exact h,trivial⟩ ⟨.inl rfl,trivial⟩ ?_;intro F R;simp only [cU,PK.val,List.take_succ_cons,List.take_zero,aa,ab,ac] at R;subst R;refine ⟨by
  refine ⟨?_,?_,?_,?_,?_,?_,?_,?_,?_,?_,?_,?_,trivial⟩<;>intro vs w1 X t hd Y
  all_goals try (apply oV;rotate_left;rfl;exact rfl;go_simp;done)
  all_goals try (apply oV;rotate_left;rfl;exact rfl;have f:=t (by kernel_rfl);subst f;go_simp;done)
  ·have f:=t (by kernel_rfl);subst f;refine ar 62 #[b] (by go_simp) ((d.out).mono ?_);rintro e w5 ⟨rfl,rfl⟩;exact ⟨_,rfl,rfl,rfl,fun h=>nomatch h⟩
  ·have f:=t (by kernel_rfl);subst f;refine ar 108 #[Z,.int .i64 D,.int .i64 i] (by go_simp) ((o.out).mono ?_);rintro e w5 ⟨rfl,L,hz⟩;exact ⟨_,rfl,⟨rfl,L⟩,hz,fun h=>nomatch h⟩
  ,fun vs w3 X hp Y=> ?_⟩
 obtain ⟨O,_⟩:=hp;have L:=O;have l:=ae (z.out w3 L);clear O Y X L o z d d0;simp only [List.drop_succ_cons,List.drop_zero];go_wp2_with fail
 refine (l.out).mono ?_;rintro e w4 ⟨rfl,V⟩;have H:=ae V;clear l V;go_wp2;go_ret2;exact ⟨rfl,H.out⟩
end
end Go.Proofs.YthahbijbpinneaaGreatDoor
