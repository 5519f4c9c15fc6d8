import Derived.Test.YthahbijbpinneaaGreatDoorA16
import Derived.Test.YthahbijbpinneaaGreatDoorA24
import Derived.Test.YthahbijbpinneaaGreatDoorA26
import Derived.Test.YthahbijbpinneaaGreatDoorA28
set_option maxRecDepth 100000
set_option maxHeartbeats 8000000
set_option linter.all false
namespace Go.Proofs.YthahbijbpinneaaGreatDoor
open Go.RowKit
def cD (b:Nat):Nat:=if 9223372036854775808<=b then 18446744073709551615-b else b+9223372036854775808
theorem xG (y:Nat) (b:y<18446744073709551616):18446744073709551615^^^y=18446744073709551615-y:=by
 have e:18446744073709551615-y=2^64-(y+1):=by omega
 rw [e];apply Nat.eq_of_testBit_eq;intro i;rw [Nat.testBit_two_pow_sub_succ (by exact b),Nat.testBit_xor,show (18446744073709551615:Nat)=2^64-1 by rfl,Nat.testBit_two_pow_sub_one];by_cases a:i<64
 ·simp [a]
 ·have c:y.testBit i=false:=Nat.testBit_lt_two_pow (Nat.lt_of_lt_of_le b (Nat.pow_le_pow_right (n:=2) (by decide) (by omega:64<=i)));simp [a,c]
theorem xH (y:Nat) (a:y<18446744073709551616):bits .xor .u64 IntKind.u64.max (y:Int)=((18446744073709551615-y:Nat):Int):=by
 have h:=u64_xor_nat 18446744073709551615 y (by decide) a;rw [xG y a] at h;exact h
theorem xN (b:Nat) (a:b<9223372036854775808):bits .or .u64 (b:Int) 9223372036854775808=((b+9223372036854775808:Nat):Int):=by
 have h:=u64_or_nat b 9223372036854775808 (by omega) (by decide);have e:b|||9223372036854775808=b+9223372036854775808:=by
  have:=Nat.two_pow_add_eq_or_of_lt (i:=63) (b:=b) a 1;rw [Nat.or_comm];rw [show (2:Nat)^63*1=9223372036854775808 by rfl] at this;rw [<-this];omega
 rw [e] at h;exact h
theorem rr (b:Nat) (f:b<18446744073709551616) (w:World):
  Calls Tryz.prog 162 #[.float .f64 b] w fun e w'=>e= .returned (.int .u64 (cD b:Int))∧w=w':=by
 have g:=vX b f;have h:=ae (nm b w);by_cases a:9223372036854775808<=b
 ·have d:my b=true:=by unfold my;simpa using a
  have i:=xH b f;have c:cD b=18446744073709551615-b:=by unfold cD;rw [if_pos a]
  rw [c];generalize 18446744073709551615-b=k at*;rw [d,if_pos rfl] at g;clear c a d f
  go_enter Tryz.func162,Tryz.ntmps162
  go_wp2_with (go_at_call 41;refine (h.out).mono ?_;rintro e w' ⟨rfl,rfl⟩)
  go_ret;exact ⟨rfl,rfl⟩
 ·have d:my b=false:=by unfold my;simpa using a
  have i:=xN b (by omega);have c:cD b=b+9223372036854775808:=by unfold cD;rw [if_neg a]
  rw [c];generalize b+9223372036854775808=k at*;rw [d] at g;simp only [Bool.false_eq_true,if_false] at g;clear c a d f
  go_enter Tryz.func162,Tryz.ntmps162
  go_wp2_with (go_at_call 41;refine (h.out).mono ?_;rintro e w' ⟨rfl,rfl⟩)
  go_ret;exact ⟨rfl,rfl⟩
def l7 (a b:Nat):Bool:=decide (cD a<cD b)
theorem jE (a b:Nat) (h:a<18446744073709551616) (i:b<18446744073709551616) (w:World):
  Calls Tryz.prog 84 #[.float .f64 a,.float .f64 b] w fun e w'=>e= .returned (.bool (l7 a b))∧w=w':=by
 have d:=ae (rr a h w);have f:=ae (rr b i w);have c:l7 a b=decide (cD a<cD b):=rfl;generalize l7 a b=r at*;generalize cD a=x at*;generalize cD b=y at*;have g:=ae c;clear c
 go_enter Tryz.func84,Tryz.ntmps84
 go_wp2_with fail
 refine (d.out).mono ?_;rintro e w' ⟨rfl,rfl⟩;go_wp2_with fail
 refine (f.out).mono ?_;rintro e w' ⟨rfl,rfl⟩;go_wp2;go_ret;exact ⟨by rw [g.out];first|rfl|simp,rfl⟩
def db (a b:Nat):Int:=if cD a<cD b then-1 else if cD b<cD a then 1 else 0
section
variable {b u n s t x y i k:Nat} {c:Cf} {A A':AG} {rs:List Nat} {T:Nat->Prop} {w w1 w' w'':World}
theorem bM.val_lt (f:bM b c A rs u n T w) (g:rs[s]? =some x) (a:x≠0) (d:A.np x<=i) (o:i<A.np x+A.nf x):A.fld x i<18446744073709551616:=by
 obtain ⟨h,φ,L,Ba,r,m,q,l,S,rfl,j,p,e⟩:=f;exact (j.laid.val x (.root (List.mem_of_getElem? g) a) i d (by omega)).2
theorem xv (E:bM b c A rs u n T w) (I:rs[s]? =some x) (C:x≠0) (q:A.np x<=i) (r:i<A.np x+A.nf x) (J:rs[t]? =some y) (D:y≠0) (v:A.np y<=k) (B:k<A.np y+A.nf y):Calls Tryz.prog 24 #[b,.int .i64 s,.int .i64 i,.int .i64 t,.int .i64 k] w fun e w'=>e= .returned (.tuple #[.int .i64 (db (A.fld x i) (A.fld y k)),.int .i64 0])∧cB b c A rs T w w':=by
 have F:=E.val_lt I C q r;have G:=E.val_lt J D v B;have l:=ae (gY E I C q r);have m:Hid (∀w1,cB b c A rs T w w1->Calls Tryz.prog 45 #[b,.int .i64 t,.int .i64 k] w1 fun e w'=>e= .returned (.tuple #[.float .f64 (A.fld y k),.int .i64 0])∧cB b c A rs T w w'):=by
  show∀w1,_
  rintro w1 ⟨X,W,V,g1,K,L⟩;refine (gY g1 J D v B).mono ?_;rintro e w' ⟨rfl,U,S,M,N,O,P⟩;have o:=K.size;exact ⟨rfl,U,S,M,N,K.trans O L,fun k R=>(P k R).elim (L k) (fun h=> .inr (by omega))⟩
 have d:=ae (fun w=>jE (A.fld x i) (A.fld y k) F G w);have j:=ae (fun w=>jE (A.fld y k) (A.fld x i) G F w);obtain ⟨z,o⟩:∃z,z=db (A.fld x i) (A.fld y k):=⟨_,rfl⟩;rw [<-o];unfold db at o;unfold l7 at d j;generalize (cB b c A rs T w)=Q at*;generalize A.fld x i=f at*;generalize A.fld y k=g at*;clear E I C q r J D v B F G;by_cases c1:cD f<cD g
 ·rw [if_pos c1] at o;rw [decide_eq_true c1] at d;subst o;clear c1 j
  go_enter Tryz.func24,Tryz.ntmps24
  go_wp2_with fail
  refine (l.out).mono ?_;rintro e w1 ⟨rfl,a⟩;have p:=ae (m.out w1 a);clear l m a;go_wp2_with fail
  refine (p.out).mono ?_;rintro e w2 ⟨rfl,a⟩;have H:=ae a;clear p a;go_wp2_with fail
  refine (d.out _).mono ?_;rintro e w3 ⟨rfl,rfl⟩;go_wp2;go_ret2;exact ⟨rfl,H.out⟩
 ·rw [if_neg c1] at o;rw [decide_eq_false c1] at d;by_cases c2:cD g<cD f
  ·rw [if_pos c2] at o;rw [decide_eq_true c2] at j;subst o;clear c1 c2
   go_enter Tryz.func24,Tryz.ntmps24
   go_wp2_with fail
   refine (l.out).mono ?_;rintro e w1 ⟨rfl,a⟩;have p:=ae (m.out w1 a);clear l m a;go_wp2_with fail
   refine (p.out).mono ?_;rintro e w2 ⟨rfl,a⟩;have H:=ae a;clear p a;go_wp2_with fail
   refine (d.out _).mono ?_;rintro e w3 ⟨rfl,rfl⟩;go_wp2_with fail
   refine (j.out _).mono ?_;rintro e w3 ⟨rfl,rfl⟩;go_wp2;go_ret2;exact ⟨rfl,H.out⟩
  ·rw [if_neg c2] at o;rw [decide_eq_false c2] at j;subst o;clear c1 c2
   go_enter Tryz.func24,Tryz.ntmps24
   go_wp2_with fail
   refine (l.out).mono ?_;rintro e w1 ⟨rfl,a⟩;have p:=ae (m.out w1 a);clear l m a;go_wp2_with fail
   refine (p.out).mono ?_;rintro e w2 ⟨rfl,a⟩;have H:=ae a;clear p a;go_wp2_with fail
   refine (d.out _).mono ?_;rintro e w3 ⟨rfl,rfl⟩;go_wp2_with fail
   refine (j.out _).mono ?_;rintro e w3 ⟨rfl,rfl⟩;go_wp2;go_ret2;exact ⟨rfl,H.out⟩
end
theorem xy {a b:Nat} (c:a<18446744073709551616) (d:b<18446744073709551616) (h:cD a=cD b):a=b:=by
 unfold cD at h;split at h<;>split at h<;>omega
theorem xO (a b:Nat):db a b= -(db b a):=by
 unfold db;by_cases c:cD a<cD b
 ·rw [if_pos c,if_neg (by omega),if_pos c]
 ·by_cases d:cD b<cD a
  ·rw [if_neg c,if_pos d,if_pos d];rfl
  ·rw [if_neg c,if_neg d,if_neg d,if_neg c];rfl
theorem vB {a b:Nat} (e:a<18446744073709551616) (f:b<18446744073709551616):db a b=0↔a=b:=by
 unfold db;constructor
 ·intro h;by_cases c:cD a<cD b
  ·rw [if_pos c] at h;omega
  ·by_cases d:cD b<cD a
   ·rw [if_neg c,if_pos d] at h;omega
   ·exact xy e f (by omega)
 ·rintro rfl;rw [if_neg (Nat.lt_irrefl _),if_neg (Nat.lt_irrefl _)]
theorem y7 {a b:Nat}:db a b<0↔cD a<cD b:=by
 unfold db;by_cases c:cD a<cD b
 ·rw [if_pos c];exact ⟨fun _=>c,fun _=>by omega⟩
 ·rw [if_neg c];split<;>exact ⟨fun h=>by omega,fun h=>absurd h c⟩
theorem te {a b d:Nat} (c:db a b<0) (e:db b d<0):db a d<0:=by
 rw [y7] at*;omega
section
variable {b xb i k:Nat} {c:Cf} {A A':AG} {rs:List Nat} {cs cs':List Value} {t t':TypeId} {B:Nat->Nat} {w0 w w':World}
theorem bu.turn (h:bu b c A rs xb cs t w0 w) (q:w0.heap.size<=xb) (p:aN<w0.heap.size) (m:aj w' xb cs' t) (hf:Fr (fun k=>k=xb) w w'):bu b c A rs xb cs' t w0 w':=by
 obtain ⟨u,n,T,g,j,f,o,l⟩:=h;exact ⟨u,n,T,g.stays hf (fun k d e=>f (by have a:k=xb:=e;exact a▸d)) (fun e=>by have a:aN=xb:=e;omega),j,f,m,l.trans hf (fun k d=> .inr (by have a:k=xb:=d;omega))⟩
theorem bu.size_hop {T:Nat->Prop} (h:cB b c A' rs T w w'):w.heap.size<=w'.heap.size:=let ⟨_,_,_,_,g,_⟩:=h;g.size
def wJ:Nat->List Nat
 |0=>[0,0,0]
 |1=>[1,0,0]
 |2=>[1,2,0]
 |_=>[1,2,3]
def eF (b:Nat) (c:Cf) (B:Nat->Nat) (i xb:Nat) (cs:List Value) (t:TypeId) (w0 w:World):Prop:=∃A,bu b c A (wJ i) xb cs t w0 w∧(∀x,A.np x=0)∧∀j,j<i->A.nf (j+1)=2∧A.ng (j+1)=0∧A.fld (j+1) 1=B j
def zX (b:Nat) (c:Cf) (B:Nat->Nat) (i xb:Nat) (cs:List Value) (t:TypeId) (w0 w:World):Prop:=∃A,bu b c A (wJ (i+1)) xb cs t w0 w∧(∀x,A.np x=0)∧(A.nf (i+1)=2∧A.ng (i+1)=0)∧∀j,j<i->A.nf (j+1)=2∧A.ng (j+1)=0∧A.fld (j+1) 1=B j
theorem tA (a:∀x,A.np x=0) (d:i<3):aJ A (wJ i) ((List.range i).map (· +1)):=by
 match i,d with
 |0,_=>exact eL a (by simp) (fun x=>by simp [wJ])
 |1,_=>exact eL a (by decide) (fun x=>by simp [wJ,List.range_succ];omega)
 |2,_=>exact eL a (by decide) (fun x=>by simp [wJ,List.range_succ];omega)
theorem tB (h:∀j,j<i->A.nf (j+1)=2∧A.ng (j+1)=0) (e:∀x,A.np x=0):A.Wd ((List.range i).map (· +1))=3*i:=by
 unfold AG.Wd
 induction i with
 |zero=>rfl
 |succ i ih=>
  obtain ⟨a,d⟩:=h i (by omega);rw [List.range_succ,List.map_append,List.map_append,List.sum_append,ih (fun j f=>h j (by omega))];have:A.sz (i+1)=3:=by unfold AG.sz;rw [e,a,d]
  simp [this];omega
theorem xX (a:i<3):(wJ i).set i (i+1)=wJ (i+1):=by
 match i,a with
 |0,_=>rfl
 |1,_=>rfl
 |2,_=>rfl
theorem lL (a:i<3):(wJ 3)[i]? =some (i+1):=by
 match i,a with
 |0,_=>rfl
 |1,_=>rfl
 |2,_=>rfl
theorem eF.alloc (h:eF b c B i xb cs t w0 w) (q:i<3) (G:c.Sl=3):Calls Tryz.prog 11 #[b,.int .i64 i,bN ((0:Nat):Int) ((2:Nat):Int) ((0:Nat):Int)] w fun e w'=>e= .returned (.int .i64 0)∧zX b c B i xb cs t w0 w':=by
 obtain ⟨A,o,d,l⟩:=h;have F:=o.cok.words2;refine (o.alloc2 (s:=i) (k:=i+1) (tA d q) (by omega) (by unfold bl;omega) (by omega) (by simp)).mono ?_;rintro e w' (⟨m,rfl,g1⟩|⟨m,rfl,g1⟩)
 ·rw [xX q] at g1;obtain ⟨u,v,z,_,_⟩:=AG.new_self A (i+1) 0 2 0;refine ⟨rfl,_,g1,fun x=> ?_,⟨v,z⟩,fun j a=> ?_⟩
  ·by_cases r:x=i+1
   ·rw [r];exact u
   ·rw [(AG.new_other (A:=A) (p:=0) (f:=2) (g:=0) r).1];exact d x
  ·obtain ⟨_,C,D,E,_⟩:=AG.new_other (A:=A) (n:=i+1) (p:=0) (f:=2) (g:=0) (y:=j+1) (by omega);rw [C,D,E];exact l j a
 ·rw [tB (fun j a=>⟨(l j a).1,(l j a).2.1⟩) d] at m;omega
theorem bu.setFloat {s x v:Nat} (h:bu b c A rs xb cs t w0 w) (q:rs[s]? =some x) (f:x≠0) (a:A.np x<=i) (d:i<A.np x+A.nf x) (r:v<18446744073709551616):Calls Tryz.prog 22 #[b,.int .i64 s,.int .i64 i,.float .f64 v] w fun e w'=>e= .returned (.int .i64 0)∧bu b c (A.put x i v) rs xb cs t w0 w':=by
 obtain ⟨u,n,T,j,l,m,o,p⟩:=h;refine (mo j q f a d r).mono ?_;rintro e w' ⟨rfl,g⟩;exact ⟨rfl,bu.hop l m o p g⟩
theorem za (a:i<3):(wJ (i+1))[i]? =some (i+1):=by
 match i,a with
 |0,_=>rfl
 |1,_=>rfl
 |2,_=>rfl
theorem zX.set (h:zX b c B i xb cs t w0 w) (o:i<3) (p:B i<18446744073709551616):Calls Tryz.prog 22 #[b,.int .i64 i,.int .i64 1,.float .f64 (B i)] w fun e w'=>e= .returned (.int .i64 0)∧eF b c B (i+1) xb cs t w0 w':=by
 obtain ⟨A,m,a,d,n⟩:=h;refine (m.setFloat (s:=i) (x:=i+1) (i:=1) (za o) (by omega) (by rw [a];omega) (by rw [a,d.1];omega) p).mono ?_;rintro e w' ⟨rfl,g⟩;refine ⟨rfl,_,g,a,fun j q=> ?_⟩;by_cases e:j=i
 ·subst e;exact ⟨d.1,d.2,by show (if j+1=j+1∧1=1 then B j else _)=_;rw [if_pos ⟨rfl,rfl⟩]⟩
 ·obtain ⟨g1,f,l⟩:=n j (by omega);exact ⟨g1,f,by show (if j+1=i+1∧1=1 then B i else A.fld (j+1) 1)=_;rw [if_neg (by omega)];exact l⟩
theorem eF.start (h:eF b c B i xb cs t w0 w):Calls Tryz.prog 16 #[b] w fun e w'=>e= .returned (.tuple #[])∧eF b c B i xb cs t w0 w':=by
 obtain ⟨A,a,d⟩:=h;refine a.start.mono ?_;rintro e w' ⟨rfl,g⟩;exact ⟨rfl,A,g,d⟩
theorem eF.step (h:eF b c B i xb cs t w0 w):Calls Tryz.prog 17 #[b] w fun e w'=>(∃B,e= .returned (.bool B))∧eF b c B i xb cs t w0 w':=by
 obtain ⟨A,a,d⟩:=h;refine a.step.mono ?_;rintro e w' ⟨⟨Z,rfl⟩,g⟩;exact ⟨⟨Z,rfl⟩,A,g,d⟩
theorem eF.order (h:eF b c B 3 xb cs t w0 w) (f:i<3) (j:k<3):Calls Tryz.prog 24 #[b,.int .i64 i,.int .i64 1,.int .i64 k,.int .i64 1] w fun e w'=>e= .returned (.tuple #[.int .i64 (db (B i) (B k)),.int .i64 0])∧eF b c B 3 xb cs t w0 w'∧w.heap.size<=w'.heap.size:=by
 obtain ⟨A,⟨u,n,T,l,m,o,p,q⟩,a,d⟩:=h;obtain ⟨r,z,v⟩:=d i f;obtain ⟨x,C,y⟩:=d k j;have:=xv (s:=i) (t:=k) (i:=1) (k:=1) l (lL f) (by omega) (by rw [a];omega) (by rw [a,r];omega) (lL j) (by omega) (by rw [a];omega) (by rw [a,x];omega);rw [v,y] at this;refine this.mono ?_;rintro e w' ⟨rfl,g⟩;exact ⟨rfl,⟨A,bu.hop m o p q g,a,d⟩,bu.size_hop g⟩
theorem eF.turn (h:eF b c B i xb cs t w0 w) (g:w0.heap.size<=xb) (f:aN<w0.heap.size) (e:aj w' xb cs' t) (hf:Fr (fun k=>k=xb) w w'):eF b c B i xb cs' t w0 w':=let ⟨A,a,d⟩:=h;⟨A,a.turn g f e hf,d⟩
theorem eF.box (h:eF b c B i xb cs t w0 w):eF b c B i w.heap.size cs' t' w0 (w.alloc (.cells cs'.toArray t')):=let ⟨A,a,d⟩:=h;⟨A,a.box,d⟩
theorem eF.keep (h:eF b c B i xb cs t w0 w) (hf:Fr (fun _=>False) w w'):eF b c B i xb cs t w0 w':=let ⟨A,a,d⟩:=h;⟨A,a.keep hf,d⟩
theorem eF.blk (h:eF b c B i xb cs t w0 w):aj w xb cs t:=let ⟨_,a,_⟩:=h;a.blk
theorem eF.fr (h:eF b c B i xb cs t w0 w):Fr (fun _=>False) w0 w:=let ⟨_,a,_⟩:=h;a.fr
end
def yD (w:World) (e:Ending) (w':World):Prop:=e= .returned (.bool true)∧Fr (fun _=>False) w w'
theorem uY (B:Nat->Nat) (i:Nat) (a:i<3) (w:World):(Instr.index 47 (.agg #[.int .u64 (B 0:Int),.int .u64 (B 1:Int),.int .u64 (B 2:Int)]) (.int .i64 i)).run Tryz.prog w= .ok (.int .u64 (B i:Int)) w:=by
 match i,a with
 |0,_=>simp [Instr.index,asIntOf,run_underlying,part,go_sem]
 |1,_=>simp [Instr.index,asIntOf,run_underlying,part,go_sem]
 |2,_=>simp [Instr.index,asIntOf,run_underlying,part,go_sem]
theorem jD (nb i:Nat) (a:i<3) (w:World):(Instr.indexAt 51 (.pointer (some ⟨nb,0,none⟩)) (.int .i64 i)).run Tryz.prog w= .ok (.pointer (some ⟨nb,3*i,none⟩)) w:=by
 obtain rfl|rfl|rfl:i=0∨i=1∨i=2:=by omega
 all_goals kernel_rfl
theorem fR (nb i k:Nat) (a:k<3) (w:World):(Instr.indexAt 50 (.pointer (some ⟨nb,3*i,none⟩)) (.int .i64 k)).run Tryz.prog w= .ok (.pointer (some ⟨nb,3*i+k,none⟩)) w:=by
 obtain rfl|rfl|rfl:k=0∨k=1∨k=2:=by omega
 all_goals kernel_rfl
theorem qS (nb i:Nat) (a:i<3) (w:World):(Instr.indexAt 47 (.pointer (some ⟨nb,0,none⟩)) (.int .i64 i)).run Tryz.prog w= .ok (.pointer (some ⟨nb,i,none⟩)) w:=by
 obtain rfl|rfl|rfl:i=0∨i=1∨i=2:=by omega
 all_goals kernel_rfl
def nL (B:Nat->Nat) (m:Nat):List Value:=(List.range 9).map fun p=> .int .i64 (if p<m then db (B (p/3)) (B (p% 3)) else 0)
theorem ka {B:Nat->Nat} {m p:Nat} (hp:p<9):(nL B m)[p]? =some (.int .i64 (if p<m then db (B (p/3)) (B (p% 3)) else 0)):=by
 unfold nL;rw [List.getElem?_map,List.getElem?_range hp];rfl
theorem y0 {B:Nat->Nat} {i k:Nat} (a:i<3) (b:k<3):(nL B (3*i+k)).set (3*i+k) (.int .i64 (db (B i) (B k)))=nL B (3*i+k+1):=by
 refine List.ext_getElem? (fun p=> ?_);by_cases hp:p<9
 ·by_cases e:3*i+k=p
  ·subst e;rw [List.getElem?_set_self (by unfold nL;simp;omega),ka hp,if_pos (Nat.lt_succ_self _),show (3*i+k)/3=i by omega,show (3*i+k)% 3=k by omega]
  ·rw [List.getElem?_set_ne e,ka hp,ka hp];by_cases h:p<3*i+k
   ·rw [if_pos h,if_pos (by omega)]
   ·rw [if_neg h,if_neg (by omega)]
 ·rw [List.getElem?_eq_none (by unfold nL;simp;omega),List.getElem?_eq_none (by unfold nL;simp;omega)]
theorem eF.orderX {b nb i k:Nat} {c:Cf} {B:Nat->Nat} {t:TypeId} {w0 w:World} (h:∃cs,eF b c B 3 nb cs t w0 w) (f:i<3) (j:k<3):Calls Tryz.prog 24 #[b,.int .i64 i,.int .i64 1,.int .i64 k,.int .i64 1] w fun e w'=>e= .returned (.tuple #[.int .i64 (db (B i) (B k)),.int .i64 0])∧(∀cs,eF b c B 3 nb cs t w0 w->eF b c B 3 nb cs t w0 w')∧w.heap.size<=w'.heap.size:=by
 obtain ⟨cs,h⟩:=h;refine (h.order f j).mono ?_;rintro e w' ⟨rfl,g,l⟩;refine ⟨rfl,fun a d=> ?_,l⟩;have e:=(Option.some.inj (h.blk.symm.trans d.blk));simp at e;rw [<-e];exact g
section
variable {v0 v1 v2 v3 v4 v5 v6:Int} {tr:Nat} {B:Nat->Nat} {w:World}
theorem oO (b1:v1<=9223372036854775807) (U:v2<=9223372036854775807) (b3:v3<=9223372036854775807) (hT:bv w) (hB:∀i,B i<18446744073709551616):Calls Tryz.prog 6 #[dY v0 v1 v2 v3 v4 v5 v6 tr,.agg #[.int .u64 (B 0:Int),.int .u64 (B 1:Int),.int .u64 (B 2:Int)]] w (yD w):=by
 have cb:(w.alloc (.cells #[.int .i64 v0,.int .i64 v1,.int .i64 v2,.int .i64 v3,.int .i64 3,.int .i64 v5,.int .i64 v6,.float .f64 tr] 24)).heap.size=w.heap.size+1:=World.size_alloc _ _;obtain ⟨W1,C⟩:∃W1,(w.alloc (.cells #[.int .i64 v0,.int .i64 v1,.int .i64 v2,.int .i64 v3,.int .i64 3,.int .i64 v5,.int .i64 v6,.float .f64 tr] 24)).alloc (.cells #[.int .u64 (B 0:Int),.int .u64 (B 1:Int),.int .u64 (B 2:Int)] 47)=W1:=⟨_,rfl⟩;have O:Fr (fun _=>False) w W1:=by rw [<-C];exact ((Fr.refl _ w).alloc _).alloc _
 have ah:aj W1 w.heap.size [.int .i64 v0,.int .i64 v1,.int .i64 v2,.int .i64 v3,.int .i64 3,.int .i64 v5,.int .i64 v6,.float .f64 tr] 24:=by rw [<-C];exact (aj.new w _ _).alloc _
 have bo:aj W1 (w.heap.size+1) [.int .u64 (B 0:Int),.int .u64 (B 1:Int),.int .u64 (B 2:Int)] 47:=by
  have:=aj.new (w.alloc (.cells #[.int .i64 v0,.int .i64 v1,.int .i64 v2,.int .i64 v3,.int .i64 3,.int .i64 v5,.int .i64 v6,.float .f64 tr] 24)) [.int .u64 (B 0:Int),.int .u64 (B 1:Int),.int .u64 (B 2:Int)] 47;rw [cb] at this;rw [<-C];exact this
 obtain ⟨k0,k1,k2,k3,k4,k5,k6,k7⟩:=cY ah;have K:=ae (gZ (v0:=v0) (v4:=3) (v5:=v5) (v6:=v6) (tr:=tr) b1 U b3 (ak hT O (fun h=>h)) ⟨fun _=>0,fun _=>0,fun _=>0,fun _ _=>0⟩ none 0 0);have I:=ae (fun w1 (hf:Fr (fun _=>False) w w1)=>eN w1 (ak hT hf (fun h=>h)));have s:=ae O;have Y:=ae (show aN<W1.heap.size from aD (ak hT O (fun h=>h) 0 0 rfl));have o:=ae (af ah bo);have HQ:Hid (∀w',Fr (fun _=>False) w w'->yD w (.returned (.bool true)) w'):=ae (fun w' h=>⟨rfl,h⟩);have r:=ae hB;clear b1 U b3 hT O ah bo cb hB;unfold dY at K ⊢;generalize (yD w)=Q at*
 go_enter Tryz.func6,Tryz.ntmps6
 go_wp2_with fail
 refine (K.out).mono ?_;rintro e w2 cp;obtain ⟨k0,k1,k2,k3,k4,k5,k6,k7⟩:=cY (o.out.1);rcases cp with ⟨rfl,n⟩|⟨c,b,T,hc,b0,ct,_,rfl,hi,ad,n⟩
 ·have a0:=ae (I.out w2 (s.out.trans n (fun _ h=>h.elim)));have ax:=ae (s.out.trans n (fun _ h=>h.elim));clear K I s o r Y n C k0 k1 k2 k3 k4 k5 k6 k7;go_wp2_with fail
  refine (a0.out).mono ?_;rintro e w3 ⟨rfl,b4⟩;have H:=ae (HQ.out w3 (ax.out.trans b4 (fun _ h=>h.elim)));clear a0 ax b4 HQ;go_wp2;exact H.out
 ·have hv:=Array.mk.inj (Value.agg.inj b0);simp only [List.cons.injEq,Value.int.injEq,true_and,and_true,Value.float.injEq] at hv;obtain ⟨e0,e1,e2,e3,e4,e5,e6,e7⟩:=hv;have ap:c.Sl=3:=by omega
  clear e0 e1 e2 e3 e4 e5 e6 e7 b0 C K ct hc;rw [ap] at hi;have H0:=ae (show eF b c B 0 w.heap.size [.int .i64 v0,.int .i64 v1,.int .i64 v2,.int .i64 v3,.int .i64 3,.int .i64 v5,.int .i64 v6,.float .f64 tr] 24 W1 w2 from ⟨_,⟨_,_,T,hi,ad,fun hk=>by have:=ad _ hk;have:=o.out.1.lt;omega,o.out.1.frame n (fun h=>h),n⟩,fun _=>rfl,fun _ h=>absurd h (Nat.not_lt_zero _)⟩);obtain ⟨j0,j1,j2⟩:=bE (o.out.2.frame n (fun h=>h));have HS:=ae ap;clear hi n ad ap k0 k1 k2 k3 k4 k5 k6 k7;go_wp2;clear j0 j1 j2
  go_loopw [21] (fun z wr=>∃i:Nat,z= .int .i64 i∧i<=3∧Hid (eF b c B i w.heap.size [.int .i64 v0,.int .i64 v1,.int .i64 v2,.int .i64 v3,.int .i64 3,.int .i64 v5,.int .i64 v6,.float .f64 tr] 24 W1 wr)) (fun z _=>(3-intOf z).toNat)
  case atStart=>exact ⟨0,rfl,by omega,H0⟩
  case round=>
   clear H0;obtain ⟨i,rfl,P,f⟩:=hrel;by_cases d:i<3
   ·have c1:(i:Int)<3:=by omega
    have cn:=uY B i d;have G:=ae (f.out.alloc d HS.out);have a4:=ae (fun w=>vr (B i) w);have a7:=ae (fun w' (h:zX b c B i w.heap.size [.int .i64 v0,.int .i64 v1,.int .i64 v2,.int .i64 v3,.int .i64 3,.int .i64 v5,.int .i64 v6,.float .f64 tr] 24 W1 w')=>h.set d (r.out i));unfold bN at G;rw [show ((0:Nat):Int)=0 from rfl,show ((2:Nat):Int)=2 from rfl] at G;clear f;go_wp2_with fail
    refine (G.out).mono ?_;rintro e w4 ⟨rfl,ha⟩;have S:=ae (a7.out w4 ha);clear G ha a7;go_wp2_with fail
    refine (a4.out _).mono ?_;rintro e w5 ⟨rfl,rfl⟩;clear a4;go_wp2_with fail
    refine (S.out).mono ?_;rintro e w6 ⟨rfl,hn⟩;have A:=ae hn;clear S hn cn;go_wp2;go_roundw
    case rel=>exact ⟨i+1,by go_num,by omega,A⟩
    case measure=>simp [intOf];omega
   ·have c1:¬(i:Int)<3:=by omega
    obtain rfl:i=3:=by omega
    have a9:=ae f.out.start;clear f d P;go_wp2_with fail
    refine (a9.out).mono ?_;rintro e w4 ⟨rfl,h4⟩;have H5:=ae (show eF b c B 3 w4.heap.size (nL B 0) 51 W1 (w4.alloc (.cells #[.int .i64 0,.int .i64 0,.int .i64 0,.int .i64 0,.int .i64 0,.int .i64 0,.int .i64 0,.int .i64 0,.int .i64 0] 51)) from h4.box (cs':=nL B 0));have a3:=ae (show W1.heap.size<=w4.heap.size from h4.fr.size);clear a9 h4
    go_upto_region 13 with fail
    generalize (w4.alloc (.cells #[.int .i64 0,.int .i64 0,.int .i64 0,.int .i64 0,.int .i64 0,.int .i64 0,.int .i64 0,.int .i64 0,.int .i64 0] 51))=W5 at*;generalize w4.heap.size=nb at*;go_wp2
    go_loopw [41] (fun z wr=>∃i:Nat,z= .int .i64 i∧i<=3∧Hid (eF b c B 3 nb (nL B (3*i)) 51 W1 wr)) (fun z _=>(3-intOf z).toNat)
    case atStart=>exact ⟨0,rfl,by omega,H5⟩
    case round=>
     clear H5;obtain ⟨i,rfl,P,f⟩:=hrel;obtain ⟨w6,e6⟩:∃w6,w6=wr:=⟨_,rfl⟩;subst e6;by_cases d:i<3
     ·have c1:(i:Int)<3:=by omega
      go_wp2
      go_loopw [44] (fun z wr=>∃k:Nat,z= .int .i64 k∧k<=3∧Hid (eF b c B 3 nb (nL B (3*i+k)) 51 W1 wr)) (fun z _=>(3-intOf z).toNat)
      case atStart=>exact ⟨0,rfl,by omega,f⟩
      case round=>
       clear f;obtain ⟨k,rfl,b7,f⟩:=hrel;by_cases g:k<3
       ·have c2:(k:Int)<3:=by omega
        have av:=ae (jD nb i d);have aq:=ae (fR nb i k g);have W:=ae (fun w1 h=>eF.orderX (b:=b) (c:=c) (B:=B) (nb:=nb) (t:=51) (w0:=W1) (w:=w1) h d g);have X:=ae (f.out.keep ((Fr.refl _ wr).drew));obtain ⟨z,E⟩:∃z,z=db (B i) (B k):=⟨_,rfl⟩;have Z:=ae (y0 (B:=B) d g);rw [<-E] at W Z;clear f E;go_wp2;refine kp 12 11 (fun a U=>((∃cs,eF b c B 3 nb cs 51 W1 a)->∃cs,eF b c B 3 nb cs 51 W1 U)∧a.heap.size<=U.heap.size) (fun a U=>(∀cs,eF b c B 3 nb cs 51 W1 a->eF b c B 3 nb cs 51 W1 U)∧a.heap.size<=U.heap.size) [fun v _=>v= .int .i64 i,fun v _=>v= .int .i64 k,fun v _=>v= .pointer (some ⟨b,0,none⟩),fun v _=>v= .int .i64 i,fun v _=>v= .int .i64 k,fun v _=>v= .tuple #[.int .i64 z,.int .i64 0],fun v _=>v= .tuple #[.int .i64 z,.int .i64 0],fun v _=>v= .int .i64 z,fun v _=>v= .int .i64 0,fun v _=>v= .pointer (some ⟨nb,3*i,none⟩),fun v _=>v= .pointer (some ⟨nb,3*i+k,none⟩),fun _ w'=>eF b c B 3 nb (nL B (3*i+k+1)) 51 W1 w'] (fun j=>false) (by kernel_rfl) (by kernel_rfl) (by kernel_rfl) (by kernel_rfl) rfl (fun _=>⟨fun _ h=>h,Nat.le_refl _⟩) (fun _ _ h=>⟨fun ⟨cs,hc⟩=>⟨cs,h.1 cs hc⟩,h.2⟩) (fun _ _ _ N u=>⟨fun cs h=>u.1 cs (N.1 cs h),Nat.le_trans N.2 u.2⟩) (fun _ _ _ N u=>⟨fun h=>let ⟨cs,hc⟩:=N.1 h;⟨cs,u.1 cs hc⟩,Nat.le_trans N.2 u.2⟩) (fun _ _ _ N u=>⟨fun ⟨cs,hc⟩=>u.1 ⟨cs,N.1 cs hc⟩,Nat.le_trans N.2 u.2⟩) (fun _ _ h=>h.2) ⟨fun _ _ _ h _=>h,fun _ _ _ h _=>h,fun _ _ _ h _=>h,fun _ _ _ h _=>h,fun _ _ _ h _=>h,fun _ _ _ h _=>h,fun _ _ _ h _=>h,fun _ _ _ h _=>h,fun _ _ _ h _=>h,fun _ _ _ h _=>h,fun _ _ _ h _=>h,fun _ w1 w2 h f=>f.1 _ h,trivial⟩ ⟨.inr (fun _ _ _ h _=>h),.inr (fun _ _ _ h _=>h),.inr (fun _ _ _ h _=>h),.inr (fun _ _ _ h _=>h),.inr (fun _ _ _ h _=>h),.inr (fun _ _ _ h _=>h),.inr (fun _ _ _ h _=>h),.inr (fun _ _ _ h _=>h),.inr (fun _ _ _ h _=>h),.inr (fun _ _ _ h _=>h),.inr (fun _ _ _ h _=>h),.inl rfl,trivial⟩ ?_;intro F hF;simp only [bg,List.take_succ_cons,List.take_zero,aa,ab,ac] at hF;subst hF;refine ⟨⟨fun vs w1 p l m q=> ?_,fun vs w1 p l m q=> ?_,fun vs w1 p l m q=> ?_,fun vs w1 p l m q=> ?_,fun vs w1 p l m q=> ?_,fun vs w1 p l m q=> ?_,fun vs w1 p l m q=> ?_,fun vs w1 p l m q=> ?_,fun vs w1 p l m q=> ?_,fun vs w1 p l m q=> ?_,fun vs w1 p l m q=> ?_,fun vs w1 p l m q=> ?_,trivial⟩,?_⟩
        ·refine ao (.int .i64 i) ?_ ⟨rfl,⟨fun _ h=>h,Nat.le_refl _⟩,fun h=>nomatch h⟩;go_simp
        ·refine ao (.int .i64 k) ?_ ⟨rfl,⟨fun _ h=>h,Nat.le_refl _⟩,fun h=>nomatch h⟩;go_simp
        ·refine ao (.pointer (some ⟨b,0,none⟩)) ?_ ⟨rfl,⟨fun _ h=>h,Nat.le_refl _⟩,fun h=>nomatch h⟩;go_simp
        ·refine ao (.int .i64 i) ?_ ⟨rfl,⟨fun _ h=>h,Nat.le_refl _⟩,fun h=>nomatch h⟩;go_simp
        ·refine ao (.int .i64 k) ?_ ⟨rfl,⟨fun _ h=>h,Nat.le_refl _⟩,fun h=>nomatch h⟩;go_simp
        ·have u:vs 2= .pointer (some ⟨b,0,none⟩):=m 2 (by kernel_rfl);have h3:vs 3= .int .i64 i:=m 3 (by kernel_rfl);have h4:vs 4= .int .i64 k:=m 4 (by kernel_rfl);refine ar 24 #[b,.int .i64 i,.int .i64 1,.int .i64 k,.int .i64 1] (by go_simp) ((W.out w1 (p.1 ⟨_,X.out⟩)).mono ?_);rintro e w5 ⟨rfl,g1,M⟩;exact ⟨_,rfl,rfl,⟨g1,M⟩,fun h=>nomatch h⟩
        ·have h5:vs 5= .tuple #[.int .i64 z,.int .i64 0]:=m 5 (by kernel_rfl);refine ao (.tuple #[.int .i64 z,.int .i64 0]) ?_ ⟨rfl,⟨fun _ h=>h,Nat.le_refl _⟩,fun h=>nomatch h⟩;go_simp
        ·have h6:vs 6= .tuple #[.int .i64 z,.int .i64 0]:=m 6 (by kernel_rfl);refine ao (.int .i64 z) ?_ ⟨rfl,⟨fun _ h=>h,Nat.le_refl _⟩,fun h=>nomatch h⟩;go_simp
        ·have h6:vs 6= .tuple #[.int .i64 z,.int .i64 0]:=m 6 (by kernel_rfl);refine ao (.int .i64 0) ?_ ⟨rfl,⟨fun _ h=>h,Nat.le_refl _⟩,fun h=>nomatch h⟩;go_simp
        ·have h0:vs 0= .int .i64 i:=m 0 (by kernel_rfl);refine ao (.pointer (some ⟨nb,3*i,none⟩)) ?_ ⟨rfl,⟨fun _ h=>h,Nat.le_refl _⟩,fun h=>nomatch h⟩;have bk:=av.out w1;go_simp
        ·have h9:vs 9= .pointer (some ⟨nb,3*i,none⟩):=m 9 (by kernel_rfl);have N:vs 1= .int .i64 k:=m 1 (by kernel_rfl);refine ao (.pointer (some ⟨nb,3*i+k,none⟩)) ?_ ⟨rfl,⟨fun _ h=>h,Nat.le_refl _⟩,fun h=>nomatch h⟩;have bj:=aq.out w1;go_simp
        ·have cy:vs 10= .pointer (some ⟨nb,3*i+k,none⟩):=m 10 (by kernel_rfl);have h7:vs 7= .int .i64 z:=m 7 (by kernel_rfl);have h0:=(l (by kernel_rfl)).1 _ X.out;have cd:=h0.blk.cell (3*i+k) (ka (by omega));have ck:=h0.blk.free (3*i+k);have b6:=(Fr.refl (fun k=>k=nb) w1).setCell ⟨nb,3*i+k,none⟩ (.inl rfl) (.int .i64 z);have u:=h0.turn a3.out Y.out (h0.blk.set (3*i+k) (.int .i64 z)) b6;rw [Z.out] at u;clear h0 m l p q;exact bZ (w':=w1.setCell ⟨nb,3*i+k,none⟩ (.int .i64 z)) (by go_simp) ⟨u,⟨fun _=>⟨_,u⟩,b6.size⟩,fun h=>nomatch h⟩
        intro vs w1 p hp q;obtain ⟨g0,g1,M,g3,g4,g5,g6,g7,g8,g9,bb,bd,_⟩:=hp;simp only [g0,g1,M,g3,g4,g5,g6,g7,g8,g9,bb];have a2:=ae bd;clear g0 g1 M g3 g4 g5 g6 g7 g8 g9 bb bd q p W X av aq Z;simp only [List.drop_succ_cons,List.drop_nil];have a8:=ae a2.out.step;clear a2;go_wp2_with fail
        refine (a8.out).mono ?_;rintro e w7 ⟨⟨Bv,rfl⟩,h7⟩;have A:=ae h7;clear a8 h7;go_wp2;go_roundw
        case rel=>exact ⟨k+1,by go_num,by omega,A⟩
        case measure=>simp [intOf];omega
       ·have c2:¬(k:Int)<3:=by omega
        obtain rfl:k=3:=by omega
        have A:=f;clear f g b7;go_wp2;go_roundw
        case rel=>exact ⟨i+1,by go_num,by omega,A⟩
        case measure=>simp [intOf];omega
     ·have c1:¬(i:Int)<3:=by omega
      obtain rfl:i=3:=by omega
      clear d P c1;have y:Hid (∀w',Fr (fun _=>False) w6 w'->(∀i k,i<3->k<3->w'.cell? ⟨nb,3*i+k,none⟩=some (.int .i64 (db (B i) (B k))))∧∀i,i<3->w'.cell? ⟨w.heap.size+1,i,none⟩=some (.int .u64 (B i:Int))):=by
       show∀w',_
       intro w' hf;refine ⟨fun i k hi hk=> ?_,fun i hi=> ?_⟩
       ·have:=(f.out.blk.frame hf (fun h=>h)).cell (3*i+k) (ka (by omega));rwa [if_pos (by omega),show (3*i+k)/3=i by omega,show (3*i+k)% 3=k by omega] at this
       ·have am:=o.out.2.frame (f.out.fr.trans hf (fun _ h=>h.elim)) (fun h=>h);obtain rfl|rfl|rfl:i=0∨i=1∨i=2:=by omega
        ·exact am.cell 0 rfl
        ·exact am.cell 1 rfl
        ·exact am.cell 2 rfl
      have J:=ae (fun w' (hf:Fr (fun _=>False) w6 w')=>I.out w' ((s.out.trans f.out.fr (fun _ h=>h.elim)).trans hf (fun _ h=>h.elim)));have L:=ae (fun w' (hf:Fr (fun _=>False) w6 w')=>HQ.out w' ((s.out.trans f.out.fr (fun _ h=>h.elim)).trans hf (fun _ h=>h.elim)));have H6:=ae (Fr.refl (fun _=>False) w6);clear f I HQ s o Y a3 HS;go_wp2
      go_loopw [62] (fun z wr=>∃i:Nat,z= .int .i64 i∧i<=3∧Hid (Fr (fun _=>False) w6 wr)) (fun z _=>(3-intOf z).toNat)
      case atStart=>exact ⟨0,rfl,by omega,H6⟩
      case round=>
       clear H6;obtain ⟨i,rfl,P,f⟩:=hrel;obtain ⟨w7,e7⟩:∃w7,w7=wr:=⟨_,rfl⟩;subst e7;by_cases d:i<3
       ·have c1:(i:Int)<3:=by omega
        go_wp2
        go_loopw [65] (fun z wr=>∃k:Nat,z= .int .i64 k∧k<=3∧Hid (Fr (fun _=>False) w6 wr)) (fun z _=>(3-intOf z).toNat)
        case atStart=>exact ⟨0,rfl,by omega,f⟩
        case round=>
         clear f;obtain ⟨k,rfl,b7,f⟩:=hrel;obtain ⟨w8,e8⟩:∃w8,w8=wr:=⟨_,rfl⟩;subst e8;by_cases g:k<3
         ·have c2:(k:Int)<3:=by omega
          go_upto_region 29 with fail
          go_cut [95] from 68 to 94 (fun cx wx=>cx= .bool false∧Hid (Fr (fun _=>False) w6 wx))
          case first=>
           have bk:=jD nb i d;have cc:=jD nb k g;have bj:=fR nb i k g;have c4:=fR nb k i d;have c0:=qS (w.heap.size+1) i d;have c5:=qS (w.heap.size+1) k g;obtain ⟨g1,M⟩:=y.out w8 f.out;have d1:=g1 i k d g;have d2:=g1 k i g d;have d3:=M i d;have d4:=M k g;have hn:=xO (B i) (B k);have E:=vB (r.out i) (r.out k);obtain ⟨x,e1⟩:∃x,x=db (B i) (B k):=⟨_,rfl⟩;obtain ⟨V,e2⟩:∃V,V=db (B k) (B i):=⟨_,rfl⟩;have bs: -1<=V∧V<=1:=by rw [e2];unfold db;split;omega;split<;>omega
           rw [<-e1,<-e2] at hn;rw [<-e1] at E d1;rw [<-e2] at d2;have dk:IntKind.i64.wrap (-V)=x:=by rw [IntKind.wrap_i64];omega
           have a6:=ae f.out;have c9:((x:Int) !=x)=false:=by simp
           by_cases D:B i=B k
           ·have f3:((x:Int)==0)=true:=beq_iff_eq.2 (E.2 D);have f4:((B i:Int)==(B k:Int))=true:=beq_iff_eq.2 (by rw [D]);have f1:decide (x=0)=true:=decide_eq_true (E.2 D);have f2:decide ((B i:Int)=(B k:Int))=true:=decide_eq_true (by rw [D]);clear f hn E e1 e2 bs g1 M D y J L r
            go_quiet (fail)
            go_wp2;go_meet
            case rel=>exact ⟨rfl,ae (a6.out.drewN _)⟩
           ·have f3:((x:Int)==0)=false:=beq_eq_false_iff_ne.2 (fun h=>D (E.1 h));have f4:((B i:Int)==(B k:Int))=false:=beq_eq_false_iff_ne.2 (fun h=>D (by omega));have f1:decide (x=0)=false:=decide_eq_false (fun h=>D (E.1 h));have f2:decide ((B i:Int)=(B k:Int))=false:=decide_eq_false (fun h=>D (by omega));clear f hn E e1 e2 bs g1 M D y J L r
            go_quiet (fail)
            go_wp2;go_meet
            case rel=>exact ⟨rfl,ae (a6.out.drewN _)⟩
          case rest=>
           obtain ⟨rfl,b9⟩:=hcut;clear f;go_wp2
           go_loopw [96] (fun z wr=>∃j:Nat,z= .int .i64 j∧j<=3∧Hid (Fr (fun _=>False) w6 wr)) (fun z _=>(3-intOf z).toNat)
           case atStart=>exact ⟨0,rfl,by omega,b9⟩
           case round=>
            clear b9;obtain ⟨j,rfl,c7,f⟩:=hrel;by_cases R:j<3
            ·have c3:(j:Int)<3:=by omega
             have bk:=jD nb i d;have cc:=jD nb k g;have bj:=fR nb i k g;have c8:=fR nb k j R;have c6:=fR nb i j R;obtain ⟨g1,_⟩:=y.out wr f.out;have d1:=g1 i k d g;have d2:=g1 k j g R;have d3:=g1 i j d R;have ht:db (B i) (B k)<0->db (B k) (B j)<0->db (B i) (B j)<0:=te;generalize db (B i) (B k)=x at*;generalize db (B k) (B j)=V at*;generalize db (B i) (B j)=z3 at*;have A:=f;have cf:decide (x<0)=false∨(decide (x<0)=true∧decide (V<0)=false)∨(decide (x<0)=true∧decide (V<0)=true∧decide (0<=z3)=false):=by
              simp only [decide_eq_true_eq,decide_eq_false_iff_not];omega
             clear g1 ht f;rcases cf with p1|⟨p1,p2⟩|⟨p1,p2,p3⟩
             all_goals (
              go_wp2;go_roundw
              case rel=>exact ⟨j+1,by go_num,by omega,A⟩
              case measure=>simp [intOf];omega)
            ·have c3:¬(j:Int)<3:=by omega
             have A:=f;clear f;go_wp2;go_roundw
             case rel=>exact ⟨k+1,by go_num,by omega,A⟩
             case measure=>simp [intOf];omega
         ·have c2:¬(k:Int)<3:=by omega
          have A:=f;clear f;go_wp2;go_roundw
          case rel=>exact ⟨i+1,by go_num,by omega,A⟩
          case measure=>simp [intOf];omega
       ·have c1:¬(i:Int)<3:=by omega
        have a1:=ae (J.out w7 f.out);have a5:=ae (fun w4 (hf:Fr (fun _=>False) w7 w4)=>L.out w4 (f.out.trans hf (fun _ h=>h.elim)));clear f J L y;go_wp2_with fail
        refine (a1.out).mono ?_;rintro e w9 ⟨rfl,b5⟩;have H:=ae (a5.out w9 b5);clear a1 b5 a5;go_wp2;exact H.out
end
theorem qz {n:Int} (h:(Lit.int .u64 n).wf=true):∃x:Nat,x<18446744073709551616∧n=(x:Int):=by
 simp [Lit.wf,IntKind.min,IntKind.max,IntKind.bits,IntKind.signed] at h;exact ⟨n.toNat,by omega,by rw [Int.toNat_of_nonneg (by omega)]⟩
def qT:List Sc:=[.int .u64,.int .u64,.int .u64]
theorem kN {cs:List Value} (h:cq qT cs):∃B:Nat->Nat,(∀i,B i<18446744073709551616)∧ .agg cs.toArray=Value.agg #[.int .u64 (B 0:Int),.int .u64 (B 1:Int),.int .u64 (B 2:Int)]:=by
 rcases cs with _|⟨_,cs⟩
 ·exact h.elim
 obtain ⟨⟨p,rfl,j⟩,h⟩:=h;rcases cs with _|⟨_,cs⟩
 ·exact h.elim
 obtain ⟨⟨f,rfl,g1⟩,h⟩:=h;rcases cs with _|⟨_,cs⟩
 ·exact h.elim
 obtain ⟨⟨g,rfl,k⟩,h⟩:=h;rcases cs with _|⟨_,cs⟩
 rotate_left
 ·exact h.elim
 obtain ⟨a,d,rfl⟩:=qz j;obtain ⟨b,e,rfl⟩:=qz g1;obtain ⟨c,c1,rfl⟩:=qz k;refine ⟨fun i=>if i=0 then a else if i=1 then b else c,fun i=> ?_,rfl⟩;dsimp only;split
 ·exact d
 ·split
  ·exact e
  ·exact c1
theorem na {cs a:List Value} {W:World} (h:cq gP cs) (g:cq qT a) (j:laidMetH Tryz.prog Rows.topOrderRow.laid W):Calls Tryz.prog 6 #[.agg cs.toArray,.agg a.toArray] W fun e w'=>e= .returned (.bool true)∧Fr (fun _=>False) W w':=by
 obtain ⟨v0,v1,v2,v3,v4,v5,v6,tr,e,b,c,d⟩:=ea h;obtain ⟨B,i,f⟩:=kN g;rw [e,f];exact oO b c d (gd j) i
end Go.Proofs.YthahbijbpinneaaGreatDoor
