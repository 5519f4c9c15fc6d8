import Derived.Test.YthahbijbpinneaaGreatDoorA1
import Derived.OwnWalk
import Derived.RangeFuncBox
import Derived.RangeFuncLeaves
import Derived.OwnWalkIn
import Derived.TacticsInMore
import Derived.LoopNIn
import Derived.LoopIn
import Derived.Test.YthahbijbpinneaaGreatDoorShelf
set_option maxRecDepth 100000
set_option maxHeartbeats 8000000
set_option linter.all false
namespace Go.Proofs.YthahbijbpinneaaGreatDoor
open Go.RowKit
structure aI where
 m:Nat
 s:Nat
 gs:Nat
 e:Nat
 ge:Nat
def aI.has (L:aI) (k:Nat):Prop:=k=L.m∨k=L.s∨k=L.gs∨k=L.e∨k=L.ge
def aI.turns (L:aI) (k:Nat):Prop:=k=L.m∨k=L.gs∨k=L.ge
theorem aI.turns_has {L:aI} {k:Nat} (h:L.turns k):L.has k:=by
 rcases h with h|h|h
 ·exact .inl h
 ·exact .inr (.inr (.inl h))
 ·exact .inr (.inr (.inr (.inr h)))
structure bD (w:World) (L:aI) (W:Nat) (E:Nat->Nat):Prop where
 blk:aj w L.m [.pointer (some ⟨L.s,0,none⟩),.pointer (some ⟨L.e,0,none⟩),.int .i64 ((cnt (aU E) 0 W:Nat):Int)] 215
 sv:∃ws,aW w L.s L.gs W ws∧∀j,aw ws j=aU E j
 ev:∃ws,aW w L.e L.ge W ws∧∀j,aw ws j=kP E j
 apart:di E
 top:∀a,E a≠0->a+E a<=W
 d1:L.m≠L.gs
 d2:L.m≠L.ge
 d3:L.s≠L.ge
 d4:L.e≠L.gs
 d5:L.gs≠L.ge
 d6:L.s≠L.m
 d7:L.e≠L.m
theorem bD.frame {S:Nat->Prop} {w w':World} {L:aI} {W:Nat} {E:Nat->Nat} (h:bD w L W E) (hf:Fr S w w') (a:∀k,L.has k->¬S k):bD w' L W E:=
 ⟨h.blk.frame hf (a _ (.inl rfl)),let ⟨ws,b,c⟩:=h.sv;⟨ws,b.frame hf (a _ (.inr (.inl rfl))) (a _ (.inr (.inr (.inl rfl)))),c⟩,
  let ⟨ws,b,c⟩:=h.ev;⟨ws,b.frame hf (a _ (.inr (.inr (.inr (.inl rfl))))) (a _ (.inr (.inr (.inr (.inr rfl))))),c⟩,h.apart,h.top,h.d1,h.d2,h.d3,h.d4,h.d5,h.d6,h.d7⟩
theorem bD.small {w:World} {L:aI} {W:Nat} {E:Nat->Nat} (h:bD w L W E):1<=W∧W<=1048576:=let ⟨_,a,_⟩:=h.sv;⟨a.one,a.small⟩
theorem bD.lt {w:World} {L:aI} {W:Nat} {E:Nat->Nat} (h:bD w L W E):∀k,L.has k->k<w.heap.size:=by
 obtain ⟨ws,a,_⟩:=h.sv;obtain ⟨c,b,_⟩:=h.ev;rintro k (rfl|rfl|rfl|rfl|rfl)
 ·exact h.blk.lt
 ·exact a.blt
 ·exact a.glt
 ·exact b.blt
 ·exact b.glt
theorem cQ {w:World} {m s e:Nat} {v:Value} (h:aj w m [.pointer (some ⟨s,0,none⟩),.pointer (some ⟨e,0,none⟩),v] 215):Calls Tryz.prog 200 #[m] w fun e w'=>e= .returned (.bool false)∧w=w':=by
 have a:=h.cell 0 rfl;clear h
 go_enter Tryz.func200,Tryz.ntmps200
 go_wp2;go_ret;exact ⟨rfl,rfl⟩
theorem cK {w:World} {L:aI} {W:Nat} {E:Nat->Nat} (h:bD w L W E):Calls Tryz.prog 136 #[L.m] w fun e w'=>e= .returned (.int .i64 W)∧w=w':=by
 have c:=ae (cQ h.blk);have d:=h.blk.cell 0 rfl;obtain ⟨ws,a,_⟩:=h.sv;have b:=ae (fO a);clear h a
 go_enter Tryz.func136,Tryz.ntmps136
 go_wp2_with fail
 refine (c.out).mono ?_;rintro e w' ⟨rfl,rfl⟩;go_wp2_with fail
 refine (b.out).mono ?_;rintro e w' ⟨rfl,rfl⟩;go_wp2;go_ret;exact ⟨rfl,rfl⟩
theorem jO {w:World} {L:aI} {W:Nat} {E:Nat->Nat} (h:bD w L W E) (u:bv w) (a:Nat) (q:E a≠0):Calls Tryz.prog 222 #[L.m,.int .i64 a] w fun e w'=>e= .returned (.int .i64 (E a:Int))∧w=w':=by
 have c1:=h.blk.cell 1 rfl;obtain ⟨ws,p,g⟩:=h.ev;have r:=h.top a q;have y:=h.small;obtain ⟨c,d⟩:=h.apart.end_of q;have t:=ae (eC p u a (by omega));have b:∀e w',gI (aw ws) W a w e w'->e= .returned (.tuple #[.int .i64 ((a+E a-1:Nat):Int),.bool true])∧w=w':=by
  rintro e w' ⟨hp,A⟩;refine ⟨?_,A⟩;rcases hp with ⟨j,f,rfl⟩|⟨f,rfl⟩
  ·have:j=a+E a-1:=by
    rcases Nat.lt_trichotomy j (a+E a-1) with l|i|k
    ·have:=d j f.1 l;rw [<-g,f.2.2.1] at this;cases this
    ·exact i
    ·have:=f.2.2.2 (a+E a-1) (by omega) k;rw [g,c] at this;cases this
   rw [this]
  ·have:=f (a+E a-1) (by omega) (by omega);rw [g,c] at this;cases this
 have o:=ae b;have s:((a+E a-1:Nat):Int)=(a:Int)+(E a:Int)-1:=by omega
 rw [s] at o;generalize E a=n at*;have v:(a:Int)<=1048576:=by omega
 have x:(n:Int)<=1048576:=by omega
 clear h p g c d b s
 go_enter Tryz.func222,Tryz.ntmps222
 go_wp2_with fail
 refine (t.out).mono ?_;rintro e w' hp;obtain ⟨rfl,rfl⟩:=o.out _ _ hp;clear hp;go_wp2;go_ret;refine ⟨?_,rfl⟩;exact congrArg (fun z=>Ending.returned (.int .i64 z)) (by omega)
def cr (E:Nat->Nat) (a:Nat) (w:World) (e:Ending) (w':World):Prop:=
 ((∃s n:Nat,s<=a∧E s=n∧a<s+n∧e= .returned (.tuple #[.int .i64 s,.int .i64 n,.bool true]))∨((∀s,s<=a->s+E s<=a)∧e= .returned (.tuple #[.int .i64 0,.int .i64 0,.bool false])))∧w=w'
theorem eu {w:World} {L:aI} {W:Nat} {E:Nat->Nat} (h:bD w L W E) (x:bv w) (a:Nat) (X:a<=1048576):Calls Tryz.prog 243 #[L.m,.int .i64 a] w (cr E a w):=by
 have D:=ae (cQ h.blk);have F:=ae (cK h);have V:=h.blk.cell 0 rfl;have q:=h.small;have P:(a:Int)<=1048576:=by omega
 by_cases p:W<=a
 ·have g:cr E a w (.returned (.tuple #[.int .i64 0,.int .i64 0,.bool false])) w:=⟨.inr ⟨fun s H=>by
   by_cases i:E s=0
   ·omega
   ·have:=h.top s i;omega,rfl⟩,rfl⟩
  have k:=ae g;have y:(W:Int)<=(a:Int):=by omega
  generalize cr E a w=Q at*;clear h x g p q
  go_enter Tryz.func243,Tryz.ntmps243
  go_wp2_with fail
  refine (D.out).mono ?_;rintro e w' ⟨rfl,rfl⟩;go_wp2_with fail
  refine (F.out).mono ?_;rintro e w' ⟨rfl,rfl⟩;go_wp2
  go_ret3
  exact k.out
 ·obtain ⟨ws,G,r⟩:=h.sv;have C:=ae (tN G (a+1) (by omega) (by omega));rw [show ((a+1:Nat):Int)=(a:Int)+1 by omega] at C;have d:∀w',(∀j,j<a+1->aw ws j=false)->w=w'->cr E a w (.returned (.tuple #[.int .i64 0,.int .i64 0,.bool false])) w':=fun w' b R=>⟨.inr ⟨fun s H=>by
   by_cases i:E s=0
   ·omega
   ·have:=b s (by omega)
    (rw [r,bJ.2 i] at this;cases this),rfl⟩,R⟩
  have f:∀j,qa (aw ws) (a+1) j->j<=a∧E j≠0∧E j<=1048576∧(a<j+E j->cr E a w (.returned (.tuple #[.int .i64 j,.int .i64 (E j:Int),.bool true])) w)∧(j+E j<=a->cr E a w (.returned (.tuple #[.int .i64 0,.int .i64 0,.bool false])) w):=fun j b=>by
   have v:E j≠0:=by have:=b.2.1;rw [r] at this;exact bJ.1 this
   have:=h.top j v;refine ⟨by have:=b.1;omega,v,by omega,fun c=>⟨.inl ⟨j,E j,by have:=b.1;omega,rfl,c,rfl⟩,rfl⟩,fun B=>⟨.inr ⟨fun s H=> ?_,rfl⟩,rfl⟩⟩;by_cases i:E s=0
   ·omega
   ·rcases Nat.lt_trichotomy s j with c|z|A
    ·have:=h.apart s j c i v;omega
    ·subst z;exact B
    ·have:=b.2.2 s A (by omega);rw [r,bJ.2 i] at this;cases this
  have N:=ae (jO h x);have t:=ae d;have u:=ae f;have y:(a:Int)<(W:Int):=by omega
  generalize cr E a w=Q at*;clear h x G r d f p q
  go_enter Tryz.func243,Tryz.ntmps243
  go_wp2_with fail
  refine (D.out).mono ?_;rintro e w' ⟨rfl,rfl⟩;go_wp2_with fail
  refine (F.out).mono ?_;rintro e w' ⟨rfl,rfl⟩;go_wp2_with fail
  refine (C.out).mono ?_;rintro e w' ⟨hp,rfl⟩;rcases hp with ⟨j,b,rfl⟩|⟨b,rfl⟩
  ·obtain ⟨Y,S,Z,I,J⟩:=u.out j b;have o:=ae (N.out j S);have M:=ae I;have K:=ae J;clear I J b;generalize E j=n at*;have T:(j:Int)<=(a:Int):=by omega
   have U:(n:Int)<=1048576:=by omega
   by_cases c:a<j+n
   ·have O:(a:Int)<(j:Int)+(n:Int):=by omega
    have l:=ae (M.out c);go_wp2_with fail
    refine (o.out).mono ?_;rintro e w' ⟨rfl,rfl⟩;go_wp2
    go_ret3
    exact l.out
   ·have O:(j:Int)+(n:Int)<=(a:Int):=by omega
    have l:=ae (K.out (by omega));go_wp2_with fail
    refine (o.out).mono ?_;rintro e w' ⟨rfl,rfl⟩;go_wp2
    go_ret3
    exact l.out
  ·have l:=ae (t.out _ b rfl);clear b;go_wp2
   go_ret3
   exact l.out
def cN (E:Nat->Nat) (W a:Nat) (w:World) (e:Ending) (w':World):Prop:=
 ((∃s n:Nat,fD (aU E) a W s∧E s=n∧e= .returned (.tuple #[.int .i64 s,.int .i64 n,.bool true]))∨((∀s,a<=s->s<W->aU E s=false)∧e= .returned (.tuple #[.int .i64 0,.int .i64 0,.bool false])))∧w=w'
theorem iI {w:World} {L:aI} {W:Nat} {E:Nat->Nat} (h:bD w L W E) (q:bv w) (a:Nat) (A:a<=1048576):Calls Tryz.prog 215 #[L.m,.int .i64 a] w (cN E W a w):=by
 have y:=ae (cQ h.blk);have C:=h.blk.cell 0 rfl;have r:=h.small;have B:(a:Int)<=1048576:=by omega
 obtain ⟨ws,u,f⟩:=h.sv;have x:=ae (eC u q a A);have c:(∀j,a<=j->j<W->aw ws j=false)->cN E W a w (.returned (.tuple #[.int .i64 0,.int .i64 0,.bool false])) w:=fun b=>⟨.inr ⟨fun s t g=>by rw [<-f];exact b s t g,rfl⟩,rfl⟩
 have d:∀j,fD (aw ws) a W j->E j≠0∧cN E W a w (.returned (.tuple #[.int .i64 j,.int .i64 (E j:Int),.bool true])) w:=fun j b=>
  ⟨by have:=b.2.2.1;rw [f] at this;exact bJ.1 this,.inl ⟨j,E j,⟨b.1,b.2.1,by rw [<-f];exact b.2.2.1,fun k t g=>by rw [<-f];exact b.2.2.2 k t g⟩,rfl,rfl⟩,rfl⟩
 have z:=ae (jO h q);have i:=ae c;have o:=ae d;generalize cN E W a w=Q at*;clear h q u f c d r
 go_enter Tryz.func215,Tryz.ntmps215
 go_wp2_with fail
 refine (y.out).mono ?_;rintro e w' ⟨rfl,rfl⟩;go_wp2_with fail
 refine (x.out).mono ?_;rintro e w' ⟨hp,rfl⟩;rcases hp with ⟨j,b,rfl⟩|⟨b,rfl⟩
 ·obtain ⟨g,v⟩:=o.out j b;have p:=ae (z.out j g);have l:=ae v;clear v b;generalize E j=n at*;go_wp2_with fail
  refine (p.out).mono ?_;rintro e w' ⟨rfl,rfl⟩;go_wp2
  go_ret3
  exact l.out
 ·have l:=ae (i.out b);clear b;go_wp2
  go_ret3
  exact l.out
structure Gr where
 size:Nat->Nat
 ptrs:Nat->List Nat
inductive Reach (G:Gr) (rs:List Nat):Nat->Prop
 |root {a:Nat}:a∈rs->a≠0->Reach G rs a
 |step {a p:Nat}:Reach G rs a->p∈G.ptrs a->p≠0->Reach G rs p
theorem Reach.pos {G:Gr} {rs:List Nat} {a:Nat} (h:Reach G rs a):a≠0:=by cases h<;>assumption
structure cu (G:Gr) (rs:List Nat) (N:Nat):Prop where
 apart:di G.size
 top:∀a,G.size a≠0->a+G.size a<=N
 root:∀a∈rs,a≠0->G.size a≠0
 ptr:∀a,G.size a≠0->∀p∈G.ptrs a,p≠0->G.size p≠0
theorem cu.reach {G:Gr} {rs:List Nat} {N:Nat} (h:cu G rs N) {a:Nat} (b:Reach G rs a):G.size a≠0:=by
 induction b with
 |root h1 h2=>exact h.root _ h1 h2
 |step _ h1 h2 ih=>exact h.ptr _ ih _ h1 h2
def ca (G:Gr) (rs:List Nat) (E:Nat->Nat):Prop:=∀a,E a≠0->Reach G rs a∧E a=G.size a
def rO (G:Gr) (E:Nat->Nat) (a:Nat):Prop:=∀p∈G.ptrs a,p≠0->E p≠0
theorem ca.none (G:Gr) (rs:List Nat):ca G rs (fun _=>0):=fun _ h=>absurd rfl h
theorem ca.put {G:Gr} {rs:List Nat} {E:Nat->Nat} (h:ca G rs E) {a:Nat} (d:Reach G rs a):ca G rs (br E a (G.size a)):=by
 intro b c;unfold br at*;by_cases e:b=a
 ·subst e;rw [if_pos rfl];exact ⟨d,rfl⟩
 ·rw [if_neg e] at c ⊢;exact h b c
theorem ca.Rm {G:Gr} {rs:List Nat} {E:Nat->Nat} {N a:Nat} (h:ca G rs E) (d:cu G rs N) (e:G.size a≠0) (f:E a=0):
  (∀s,s<=a->s+E s<=a)∧(∀s,a<=s->E s≠0->a+G.size a<=s):=by
 constructor
 ·intro s g;by_cases b:E s=0
  ·omega
  ·by_cases c:s=a
   ·subst c;exact absurd f b
   ·rw [(h s b).2];exact d.apart s a (by omega) (by rw [<-(h s b).2];exact b) e
 ·intro s g b;by_cases c:s=a
  ·subst c;exact absurd f b
  ·exact d.apart a s (by omega) e (by rw [<-(h s b).2];exact b)
theorem pf {G:Gr} {rs:List Nat} {E:Nat->Nat} (c:∀a∈rs,a≠0->E a≠0) (b:∀a,E a≠0->rO G E a) {a:Nat} (h:Reach G rs a):E a≠0:=by
 induction h with
 |root h1 h2=>exact c _ h1 h2
 |step _ h1 h2 ih=>exact b _ ih _ h1 h2
theorem qc {G:Gr} {rs:List Nat} {E:Nat->Nat} (c:ca G rs E) (d:∀a∈rs,a≠0->E a≠0) (b:∀a,E a≠0->rO G E a) (a:Nat):E a≠0↔Reach G rs a:=
 ⟨fun h=>(c a h).1,pf d b⟩
theorem gD {E:Nat->Nat} {a n N:Nat} (l:n≠0) (k:E a=0) (c:a<N):cnt (aU (br E a n)) 0 N=cnt (aU E) 0 N+1:=by
 rw [ay (aU (br E a n)) (Nat.zero_le a) (Nat.le_of_lt c),ay (aU E) (Nat.zero_le a) (Nat.le_of_lt c),
  aK (f:=aU (br E a n)) (g:=aU E) (a:=0) (b:=a) (fun i _ h=>by unfold aU br;rw [if_neg (by omega)])]
 have d:∀f:Nat->Bool,cnt f a N=(if f a then 1 else 0)+cnt f (a+1) N:=fun f=>by
  rw [ay f (show a<=a+1 from Nat.le_succ a) (show a+1<=N from c),aC f (Nat.le_refl a),bG f (Nat.le_refl a),Nat.zero_add]
 rw [d (aU (br E a n)),d (aU E),aK (f:=aU (br E a n)) (g:=aU E) (a:=a+1) (b:=N) (fun i h _=>by unfold aU br;rw [if_neg (by omega)])];have e:aU (br E a n) a=true:=bJ.2 (by unfold br;rw [if_pos rfl];exact l);have j:aU E a=false:=by unfold aU;rw [k];rfl
 rw [e,j];simp;omega
theorem qt {E:Nat->Nat} {s n:Nat} (a:n≠0) (j:Nat):aU (br E s n) j=(aU E j||j==s):=by
 unfold aU br;by_cases e:j=s
 ·subst e;simp [a]
 ·simp [e]
theorem uF {E:Nat->Nat} {s n:Nat} (d:n≠0) (c:E s=0) (j:Nat):kP (br E s n) j=(kP E j||j==s+n-1):=by
 rw [Bool.eq_iff_iff,Bool.or_eq_true,gQ,gQ,beq_iff_eq];constructor
 ·rintro ⟨t,a,b⟩;unfold br at a b;by_cases e:t=s
  ·subst e;rw [if_pos rfl] at b;exact .inr (by omega)
  ·rw [if_neg e] at a b;exact .inl ⟨t,a,b⟩
 ·rintro (⟨t,a,b⟩|h)
  ·refine ⟨t,?_⟩;unfold br;rw [if_neg (fun e=>a (by rw [e];exact c))];exact ⟨a,b⟩
  ·refine ⟨s,?_⟩;unfold br;rw [if_pos rfl];exact ⟨d,by omega⟩
theorem fN (j:Nat):aU (fun _=>0) j=false:=rfl
theorem lf (j:Nat):kP (fun _=>0) j=false:=by
 rw [Bool.eq_false_iff,ne_eq,gQ];rintro ⟨t,h,_⟩;exact h rfl
theorem gR (W:Nat) (C:1<=W) (D:W<=1048576) (w:World):Calls Tryz.prog 66 #[.int .i64 W] w fun e w'=>∃L:aI,e= .returned (.tuple #[.pointer (some ⟨L.m,0,none⟩),.int .i64 0])∧bD w' L W (fun _=>0)∧(∀k,L.has k->w.heap.size<=k)∧Fr (fun _=>False) w w':=by
 have B:=ae (fun w=>rK W C D w);clear C D
 go_enter Tryz.func66,Tryz.ntmps66
 go_wp2_with fail
 refine (B.out _).mono ?_;rintro e w1 ⟨v,g1,rfl,t,n,r,p⟩;have d:=ae t;have l:=ae p;have z:=ae (af n r);clear t p n r;go_wp2_with fail
 refine (B.out _).mono ?_;rintro e w2 ⟨x,y,rfl,u,o,s,q⟩;have f:=ae u;have c:=ae q;have A:=ae (af o s);clear u q o s;go_wp2;go_ret2;have G:=d.out.blt;have H:=d.out.glt;have I:=f.out.blt;have J:=f.out.glt;have K:=l.out.size;have M:=c.out.size;have E:=z.out;have F:=A.out;have g:Fr (fun _=>False) w2 (w2.alloc (.cells #[.pointer (some ⟨v,0,none⟩),.pointer (some ⟨x,0,none⟩),.int .i64 0] 215)):=(Fr.refl _ w2).alloc _;refine ⟨⟨w2.heap.size,v,g1,x,y⟩,rfl,⟨?_,⟨_,(d.out.frame c.out (fun h=>h) (fun h=>h)).frame g (fun h=>h) (fun h=>h),fun j=>by rw [gN];rfl⟩,⟨_,f.out.frame g (fun h=>h) (fun h=>h),fun j=>by rw [gN,lf]⟩,
  fun a b _ h=>absurd rfl h,fun a h=>absurd rfl h,by show w2.heap.size≠g1;omega,by show w2.heap.size≠y;omega,by show v≠y;omega,by show x≠g1;omega,by show g1≠y;omega,by show v≠w2.heap.size;omega,by show x≠w2.heap.size;omega⟩,?_,(l.out.trans c.out (fun _ h=> .inl h)).trans g (fun _ h=> .inl h)⟩
 ·rw [aE (fun i _ _=>fN i)];exact aj.new w2 _ _
 ·rintro k (h|h|h|h|h)<;>(rw [h];dsimp only;omega)
theorem wZ {w w1 w2 w3:World} {L:aI} {W a n:Nat} {E:Nat->Nat} (h:bD w L W E) (p:n≠0) (t:E a=0) (o:di (br E a n)) (l:a+n<=W)
  (v:∃ws,aW w1 L.s L.gs W ws∧∀j,aw ws j=(aU E j||j==a)) (g:Fr (fun k=>k=L.gs) w w1)
  (x:∃ws,aW w2 L.e L.ge W ws∧∀j,aw ws j=(kP E j||j==a+n-1)) (c:Fr (fun k=>k=L.ge) w1 w2)
  (u:w3=w2.setCell ⟨L.m,2,none⟩ (.int .i64 ((cnt (aU E) 0 W:Nat)+1))):bD w3 L W (br E a n)∧Fr L.turns w w3:=by
 have d:Fr (fun k=>k=L.m) w2 w3:=by rw [u];exact (Fr.refl (fun k=>k=L.m) w2).setCell ⟨L.m,2,none⟩ (.inl rfl) _
 refine ⟨⟨?_,?_,?_,o,?_,h.d1,h.d2,h.d3,h.d4,h.d5,h.d6,h.d7⟩,?_⟩
 ·have f:=((h.blk.frame g h.d1).frame c h.d2).set 2 (.int .i64 ((cnt (aU E) 0 W:Nat)+1));rw [gD p t (by omega),u];exact f
 ·obtain ⟨ws,q,r⟩:=v;exact ⟨ws,(q.frame c h.d3 h.d5).frame d h.d6 (fun e=>h.d1 e.symm),fun j=>by rw [r,qt p]⟩
 ·obtain ⟨ws,q,r⟩:=x;exact ⟨ws,q.frame d h.d7 (fun e=>h.d2 e.symm),fun j=>by rw [r,uF p t]⟩
 ·intro b f;unfold br at f ⊢;by_cases e:b=a
  ·subst e;rw [if_pos rfl];exact l
  ·rw [if_neg e] at f ⊢;exact h.top b f
 ·exact ((g.mono (S':=L.turns) (fun k i=> .inl (.inr (.inl i)))).trans c (fun k i=> .inl (.inr (.inr i)))).trans d (fun k i=> .inl (.inl i))
theorem rh {w:World} {L:aI} {W:Nat} {E:Nat->Nat} (h:bD w L W E) (H:bv w) (a n:Nat) (hn:1<=n) (l:a+n<=W) (y:∀s,s<=a->s+E s<=a) (I:∀s,a<=s->E s≠0->a+n<=s):
  Calls Tryz.prog 218 #[L.m,.int .i64 a,.int .i64 n] w fun e w'=>e= .returned (.int .i64 0)∧bD w' L W (br E a n)∧Fr L.turns w w':=by
 have HN:=ae (cQ h.blk);have Q:=ae (cK h);have O:=h.small;have Z:=ae (eu h H a (by omega));have HX:=ae (iI h H a (by omega));have S:E a=0:=by have:=y a (Nat.le_refl a);omega
 have v:di (br E a n):=qq h.apart (by omega) (fun s hs _=>y s (by omega)) I;have d:∀e w',cr E a w e w'->e= .returned (.tuple #[.int .i64 0,.int .i64 0,.bool false])∧w=w':=by
  rintro e w' ⟨⟨s,k,o,z,r,_⟩|⟨_,q⟩,p⟩
  ·have:=y s o;omega
  ·exact ⟨q,p⟩
 have f:∀e w',cN E W a w e w'->((∃s k:Nat,a+n<=s∧s<=1048576∧e= .returned (.tuple #[.int .i64 s,.int .i64 k,.bool true]))∨e= .returned (.tuple #[.int .i64 0,.int .i64 0,.bool false]))∧w=w':=by
  rintro e w' ⟨⟨s,k,o,z,r⟩|⟨_,q⟩,p⟩
  ·exact ⟨.inl ⟨s,k,I s o.1 (bJ.1 o.2.2.1),by have:=o.2.1;omega,r⟩,p⟩
  ·exact ⟨.inr q,p⟩
 have c0:=h.blk.cell 0 rfl;obtain ⟨ws,v1,v2⟩:=h.sv;obtain ⟨we,X,Y⟩:=h.ev;have D:=ae (rL v1 (show a<W by omega));have u:=ae (fun w1 (hf:Fr (fun k=>k=L.gs) w w1)=>(⟨(h.blk.frame hf h.d1).cell 1 rfl,rL (X.frame hf h.d4 (fun e=>h.d5 e.symm)) (show a+n-1<W by omega)⟩:_∧_));have F:=ae (fun w1 w2 (hf:Fr (fun k=>k=L.gs) w w1) (g:Fr (fun k=>k=L.ge) w1 w2)=>(⟨((h.blk.frame hf h.d1).frame g h.d2).cell 2 rfl,((h.blk.frame hf h.d1).frame g h.d2).free 2⟩:_∧_));have i:∀w1 w2 w3 b c,aW w1 L.s L.gs W b->(∀j,aw b j=(aw ws j||j==a))->Fr (fun k=>k=L.gs) w w1->aW w2 L.e L.ge W c->(∀j,aw c j=(aw we j||j==a+n-1))->Fr (fun k=>k=L.ge) w1 w2->
   w3=w2.setCell ⟨L.m,2,none⟩ (.int .i64 ((cnt (aU E) 0 W:Nat)+1))->bD w3 L W (br E a n)∧Fr L.turns w w3:=fun w1 w2 w3 b c h1 h2 K h3 h4 g p=>
  wZ h (by omega) S v l ⟨b,h1,fun j=>by rw [h2 j,v2]⟩ K ⟨c,h3,fun j=>by rw [h4 j,Y]⟩ g p
 have t:=ae i;have A:=ae d;have B:=ae f;have J:=be (aU E) 0 W;generalize cnt (aU E) 0 W=N at*;have b1:(a:Int)<(W:Int):=by omega
 have b2:(n:Int)<=(W:Int)-(a:Int):=by omega
 have b3:(W:Int)<=1048576:=by omega
 have b4:(N:Int)<=1048576:=by omega
 have b5:(1:Int)<=(n:Int):=by omega
 have T:((a+n-1:Nat):Int)=(a:Int)+(n:Int)-1:=by omega
 rw [T] at u;clear h H y I v d f i v1 v2 X Y T O l J S hn
 go_enter Tryz.func218,Tryz.ntmps218
 go_wp2_with fail
 refine (HN.out).mono ?_;rintro e w' ⟨rfl,rfl⟩;go_wp2_with fail
 refine (Q.out).mono ?_;rintro e w' ⟨rfl,rfl⟩;go_wp2_with fail
 refine (Q.out).mono ?_;rintro e w' ⟨rfl,rfl⟩;go_wp2_with fail
 refine (Z.out).mono ?_;rintro e w' hp;obtain ⟨rfl,rfl⟩:=A.out _ _ hp;clear hp;go_wp2_with fail
 refine (HX.out).mono ?_;rintro e w' hp;obtain ⟨M,rfl⟩:=B.out _ _ hp;clear hp;rcases M with ⟨s,k,hs,ad,rfl⟩|rfl
 all_goals
  first
   |have ah:(a:Int)+(n:Int)<=(s:Int):=by omega
    have am:(s:Int)<=1048576:=by omega
   |skip
  go_wp2_with fail
  refine (D.out).mono ?_;rintro e w1 ⟨rfl,b,o,z,r⟩;obtain ⟨c1,R⟩:=u.out w1 r;have x:=ae (af o (af z r));have G:=ae R;clear o z r R;go_wp2_with fail
  refine (G.out).mono ?_;rintro e w2 ⟨rfl,c,U,V,P⟩;obtain ⟨c2,c3⟩:=F.out w1 w2 x.out.2.2 P;have C:=ae (af U (af V P));clear U V P;go_wp2;go_ret;exact ⟨rfl,t.out w1 w2 _ b c x.out.1 x.out.2.1 x.out.2.2 C.out.1 C.out.2.1 C.out.2.2 rfl⟩
theorem bD.drew {w:World} {L:aI} {W:Nat} {E:Nat->Nat} (h:bD w L W E):bD w.drew L W E:=h.frame (S:=fun _=>False) ((Fr.refl _ w).drew) (fun _ _ h=>h)
theorem tP {w w1 w2 w3:World} {L:aI} {W:Nat} {E:Nat->Nat} (h:bD w L W E)
  (p:∃ws,aW w1 L.s L.gs W ws∧∀j,aw ws j=false) (f:Fr (fun k=>k=L.gs) w w1)
  (q:∃ws,aW w2 L.e L.ge W ws∧∀j,aw ws j=false) (c:Fr (fun k=>k=L.ge) w1 w2)
  (o:w3=w2.setCell ⟨L.m,2,none⟩ (.int .i64 0)):bD w3 L W (fun _=>0)∧Fr L.turns w w3:=by
 have d:Fr (fun k=>k=L.m) w2 w3:=by rw [o];exact (Fr.refl (fun k=>k=L.m) w2).setCell ⟨L.m,2,none⟩ (.inl rfl) _
 refine ⟨⟨?_,?_,?_,fun a b _ h=>absurd rfl h,fun a h=>absurd rfl h,h.d1,h.d2,h.d3,h.d4,h.d5,h.d6,h.d7⟩,?_⟩
 ·have r:=((h.blk.frame f h.d1).frame c h.d2).set 2 (.int .i64 0);rw [aE (fun i _ _=>fN i),o];exact r
 ·obtain ⟨ws,l,n⟩:=p;exact ⟨ws,(l.frame c h.d3 h.d5).frame d h.d6 (fun e=>h.d1 e.symm),fun j=>by rw [n,fN]⟩
 ·obtain ⟨ws,l,n⟩:=q;exact ⟨ws,l.frame d h.d7 (fun e=>h.d2 e.symm),fun j=>by rw [n,lf]⟩
 ·exact ((f.mono (S':=L.turns) (fun k g=> .inl (.inr (.inl g)))).trans c (fun k g=> .inl (.inr (.inr g)))).trans d (fun k g=> .inl (.inl g))
theorem pz {w:World} {L:aI} {W:Nat} {v:Value} (h:aj w L.m [.pointer (some ⟨L.s,0,none⟩),.pointer (some ⟨L.e,0,none⟩),v] 215) {ws:List Nat} (a:aW w L.s L.gs W ws):Calls Tryz.prog 136 #[L.m] w fun e w'=>e= .returned (.int .i64 W)∧w=w':=by
 have c:=ae (cQ h);have d:=h.cell 0 rfl;have b:=ae (fO a);clear h a
 go_enter Tryz.func136,Tryz.ntmps136
 go_wp2_with fail
 refine (c.out).mono ?_;rintro e w' ⟨rfl,rfl⟩;go_wp2_with fail
 refine (b.out).mono ?_;rintro e w' ⟨rfl,rfl⟩;go_wp2;go_ret;exact ⟨rfl,rfl⟩
theorem kW {f:Nat->Bool} {W:Nat} (h:∀j,W<=j->f j=false) (j:Nat):(f j&& !(decide (0<=j)&&decide (j<W)))=false:=by
 by_cases a:j<W
 ·simp [a]
 ·rw [h j (by omega)];rfl
theorem sj {w:World} {L:aI} {W:Nat} {E:Nat->Nat} (h:bD w L W E):Calls Tryz.prog 138 #[L.m] w fun e w'=>e= .returned (.tuple #[])∧bD w' L W (fun _=>0)∧Fr L.turns w w':=by
 have N:=ae (cQ h.blk);obtain ⟨ws,v1,v2⟩:=h.sv;obtain ⟨Z,M,R⟩:=h.ev;have v:=ae (cK h.drew);have i:∀x,x=w.drew->Calls Tryz.prog 202 #[L.s,.int .i64 0,.int .i64 W] x fun e w'=>(∃V,e= .returned (.int .i64 V))∧(∃a,aW w' L.s L.gs W a∧∀j,aw a j=false)∧Fr (fun k=>k=L.gs) w w':=by
  rintro x rfl;refine (lQ v1.drew (F:=0) (T:=W) (Nat.zero_le _) (Nat.le_refl _)).mono ?_;rintro e w' ⟨A,a,B,C,D⟩;exact ⟨A,⟨a,B,fun j=>by rw [C];exact kW v1.off j⟩,((Fr.refl (fun k=>k=L.gs) w).drew).trans D (fun _ h=> .inl h)⟩
 have q:=ae i;have l:∀w1,Fr (fun k=>k=L.gs) w w1->(∃a,aW w1 L.s L.gs W a∧∀j,aw a j=false)->(w1.drew.cell? ⟨L.m,1,none⟩=some (.pointer (some ⟨L.e,0,none⟩)))∧Calls Tryz.prog 136 #[L.m] w1.drew (fun e w'=>e= .returned (.int .i64 W)∧w1.drew=w')∧
   ∀x,x=w1.drew->Calls Tryz.prog 202 #[L.e,.int .i64 0,.int .i64 W] x fun e w'=>(∃V,e= .returned (.int .i64 V))∧(∃a,aW w' L.e L.ge W a∧∀j,aw a j=false)∧Fr (fun k=>k=L.ge) w1 w':=by
  rintro w1 hf ⟨S,Q,_⟩;have J:=(h.blk.frame hf h.d1);refine ⟨J.drew.cell 1 rfl,pz J.drew Q.drew,?_⟩;rintro x rfl;have K:=(M.frame hf h.d4 (fun e=>h.d5 e.symm));refine (lQ K.drew (F:=0) (T:=W) (Nat.zero_le _) (Nat.le_refl _)).mono ?_;rintro e w' ⟨A,a,B,C,D⟩;exact ⟨A,⟨a,B,fun j=>by rw [C];exact kW K.off j⟩,((Fr.refl (fun k=>k=L.ge) w1).drew).trans D (fun _ h=> .inl h)⟩
 have r:=ae l;have n:∀w1 w2,Fr (fun k=>k=L.gs) w w1->Fr (fun k=>k=L.ge) w1 w2->w2.frozen? ⟨L.m,2,none⟩=false∧∃z,w2.cell? ⟨L.m,2,none⟩=some (.int .i64 z):=fun w1 w2 hf b=>⟨((h.blk.frame hf h.d1).frame b h.d2).free 2,_,((h.blk.frame hf h.d1).frame b h.d2).cell 2 rfl⟩
 have t:=ae n;have f:=ae (fun w1 w2 w3 g d o b c=>tP (w1:=w1) (w2:=w2) (w3:=w3) h g d o b c);have O:w.drew.cell? ⟨L.m,0,none⟩=some (.pointer (some ⟨L.s,0,none⟩)):=h.blk.drew.cell 0 rfl;clear h v1 v2 M R i l n
 go_enter Tryz.func138,Tryz.ntmps138
 go_wp2_with fail
 refine (N.out).mono ?_;rintro e w' ⟨rfl,rfl⟩;go_wp2;refine aA (fun w'=>w'=w.drew) 6 (by kernel_rfl) (by kernel_rfl) rfl ?_;simp only [List.take_succ_cons,List.take_zero,List.drop_succ_cons,List.drop_zero];refine ag (.pointer (some ⟨L.m,0,none⟩)) rfl (fun w c=>by go_simp) ?_;simp only [Act.put,aa,ab,ac];refine ag (.pointer (some ⟨L.m,0,none⟩)) rfl (fun w c=>by go_simp) ?_;simp only [Act.put,aa,ab,ac];refine ag (.pointer (some ⟨L.m,0,none⟩)) rfl (fun w c=>by go_simp) ?_;simp only [Act.put,aa,ab,ac];refine ag (.pointer (some ⟨L.s,0,none⟩)) rfl (fun w c=>by subst c;go_simp) ?_;simp only [Act.put,aa,ab,ac];refine ag (.pointer (some ⟨L.m,0,none⟩)) rfl (fun w c=>by go_simp) ?_;simp only [Act.put,aa,ab,ac];refine az (.int .i64 W) 136 #[L.m] rfl (fun w=>by go_simp) (fun w c=>by subst c;exact (v.out).mono fun e w' h=>⟨h.1,h.2.symm⟩) ?_;simp only [Act.put,aa,ab,ac];refine wpQuiet_nil ?_;rintro w2 rfl;go_wp2_with fail
 refine (q.out _ rfl).mono ?_;rintro e w1 ⟨⟨V,rfl⟩,g,d⟩;obtain ⟨P,I,H⟩:=r.out w1 d g;have p:=ae (af g d);have y:=ae I;have u:=ae H;clear g d I H O;go_wp2;refine aA (fun w'=>w'=w1.drew) 6 (by kernel_rfl) (by kernel_rfl) rfl ?_;simp only [List.take_succ_cons,List.take_zero,List.drop_succ_cons,List.drop_zero];refine ag (.pointer (some ⟨L.m,0,none⟩)) rfl (fun w c=>by go_simp) ?_;simp only [Act.put,aa,ab,ac];refine ag (.pointer (some ⟨L.m,0,none⟩)) rfl (fun w c=>by go_simp) ?_;simp only [Act.put,aa,ab,ac];refine ag (.pointer (some ⟨L.m,1,none⟩)) rfl (fun w c=>by go_simp) ?_;simp only [Act.put,aa,ab,ac];refine ag (.pointer (some ⟨L.e,0,none⟩)) rfl (fun w c=>by subst c;go_simp) ?_;simp only [Act.put,aa,ab,ac];refine ag (.pointer (some ⟨L.m,0,none⟩)) rfl (fun w c=>by go_simp) ?_;simp only [Act.put,aa,ab,ac];refine az (.int .i64 W) 136 #[L.m] rfl (fun w=>by go_simp) (fun w c=>by subst c;exact (y.out).mono fun e w' h=>⟨h.1,h.2.symm⟩) ?_;simp only [Act.put,aa,ab,ac];refine wpQuiet_nil ?_;rintro w4 rfl;go_wp2_with fail
 refine (u.out _ rfl).mono ?_;rintro e w5 ⟨⟨U,rfl⟩,o,b⟩;obtain ⟨X,z,Y⟩:=t.out w1 w5 p.out.2 b;have G:=ae (af o b);clear o b P;go_wp2;go_end0;exact ⟨rfl,f.out w1 w5 _ p.out.1 p.out.2 G.out.1 G.out.2 rfl⟩
section
open Go.RowKit Go.Shelf
theorem Fr.putObj {S:Nat->Prop} {a w:World} (h:Fr S a w) (l:Nat) (o:Obj) (b:S l∨a.heap.size<=l):Fr S a (w.putObj l o):=
 ⟨h.os,h.tape,h.output,by show a.heap.size<=(w.putObj l o).heap.size;rw [World.putObj];simp;exact h.size,fun k d c=>(World.putObj_heap_other (fun e=>by subst e;rcases b with b|b;exact c b;omega)).trans (h.block k d c)⟩
theorem bx {d:Nat} {P:Program} {f:FuncId} {args:Array Value} {w:World} {R:Ending->World->Prop} (h:Calls P f args w R):Fence.wide.fn f∧(Fence.wide.depth.isSome=true->1<=d)∧CallsIn Fence.wide (d-1) P f args w R:=
 ⟨trivial,(fun h=>by cases h),callsIn_wide.2 h⟩
theorem ny {d k:Nat} {P:Program} {f:FuncId} {args:Array Value} {w:World} {R:Ending->World->Prop} (h:Calls P f args w R):(Fence.wide.inRound k).fn f∧((Fence.wide.inRound k).depth.isSome=true->1<=d)∧CallsIn (Fence.wide.inRound k) (d-1) P f args w R:=
 ⟨trivial,(fun h=>by cases h),(callsIn_wide (n:=d-1)).2 h⟩
theorem zJ {d a k l:Nat} {P:Program} {f:FuncId} {tmps:Array Value} {assign body:Code} {w:World} {R:Ending->World->Prop} (h:RoundIn Fence.wide d P l f tmps assign body w R):((Fence.wide.inRound k).depth.isSome=true->1<=a)∧RoundIn (Fence.wide.inRound k) (a-1) P l f tmps assign body w R:=
 ⟨(fun h=>by cases h),h.1,fun c cs _=>h.2 c cs (room_wide _)⟩
def uh {α:Type} (J:List α->(Nat->Prop)->World->Prop) (pre:List α) (S:Nat->Prop) (W W':World):Prop:=
 ∃S':Nat->Prop,J pre S' W'∧Fr S W W'∧∀k,S' k->S k∨W.heap.size<=k
def cE {α:Type} (B:Nat) (J:List α->(Nat->Prop)->World->Prop):Prop:=
 ∀pre S W1 W2 (T:Nat->Prop),J pre S W1->Fr T W1 W2->(∀k,T k->B<=k∧¬S k)->J pre S W2
theorem cE.mono {α:Type} {B b:Nat} {J:List α->(Nat->Prop)->World->Prop} (h:cE B J) (f:B<=b):cE b J:=
 fun a S W1 e T g hf d=>h a S W1 e T g hf (fun k c=>⟨Nat.le_trans f (d k c).1,(d k c).2⟩)
theorem cE.Fh {α:Type} {B:Nat} {J:List α->(Nat->Prop)->World->Prop} (h:cE B J) {a:List α} {S:Nat->Prop} {W1 b:World} (c:J a S W1) (hf:Fr (fun _=>False) W1 b):J a S b:=
 h a S W1 b _ c hf (fun _ h=>h.elim)
def lW {α:Type} (gf:Nat) (lb:Array Value) (encs:α->Array Value) (xs:List α) (R:World->Prop):Prop:=
 ∀(d l:Nat) (J:List α->(Nat->Prop)->World->Prop) (S₀:Nat->Prop) (W:World),cE W.heap.size J->(∀pre S W1,J pre S W1->R W1)->
  (∀pre S x W1,J pre S W1->xs[pre.length]? =some x->YieldAt Fence.wide (d-1) Tryz.prog l (encs x) W1 fun e W'=>e= .returned (.bool true)∧uh J (pre++[x]) S W1 W')->
  (∀k,S₀ k->k<W.heap.size)->J [] S₀ W->
  CallsIn Fence.wide d Tryz.prog gf (#[.func (.yield l) #[] #[]]++lb) W fun e W'=>(∃v,e= .returned v)∧∃S,J xs S W'
theorem dv {α:Type} {g:Operand} {ps:Array Tmp} {assign body:Code} {Q:Exit->Act->World->Prop} {a:Act} {w:World} {d:Nat} {gf:Nat} {lb:Array Value}
  (hg:a.eval g= .func (.func gf) #[] lb) (eg:∀args w,(callFunc gf args).run Tryz.prog w= .ok (.enter gf args) w) {encs:α->Array Value} (a9:∀x,(encs x).size=ps.size)
  {xs:List α} {R:World->Prop} (aq:lW gf lb encs xs R) (I:List α->(Nat->Prop)->World->Prop) (m:Nat->Prop) (V:cE w.heap.size I) (hR:∀f S W,I f S W->R W) (L:∀k,m k->k<w.heap.size) (h0:I [] m w)
  (a₁:α->Act)
  (r:∀(l:Nat) (x:α) (W:World) (K:Act->World->Prop),K (a₁ x) W->
   assign.wpIn (Fence.wide.inRound l) (d-1-1) Tryz.prog (Exit.then K (fun _ _ _=>False)) {tmps:=(ps.zip (encs x)).foldl (fun t (p,v)=>t.setIfInBounds p v) a.tmps,defers:=[]} W)
  (N:∀(l:Nat) (f:List α) (S:Nat->Prop) (x:α) (W:World),I f S W->xs[f.length]? =some x->Fr m w W->(∀k,S k->m k∨w.heap.size<=k)->body.wpIn (Fence.wide.inRound l) (d-1-1) Tryz.prog
   (fun e _ W'=>e= .normal∧uh I (f++[x]) S W W') (a₁ x) W)
  (O:∀(D:Nat) (S:Nat->Prop) (W:World),I xs S W->W.heap[D]? =some (.deferred (some []))->w.heap.size<=D->¬S D->Fr m w W->(∀k,S k->m k∨w.heap.size<=k)->Q .normal {a with defers:={target:= .collected D,args:= #[]}::a.defers} W):
  (Code.rangeFunc g ps assign body).wpIn Fence.wide d Tryz.prog Q a w:=by
 refine wpIn_rangeFunc ?_;intro fn a1;obtain ⟨i,b⟩:∃i:LoopState->Option Code->Loop,i=fun st pe=>{state:=st,pending:=pe,fn,tmps:=a.tmps,params:=ps,assign,body,defers:=w.heap.size}:=⟨_,rfl⟩
 obtain ⟨W1,q⟩:∃W1,(w.alloc (.deferred (some []))).alloc (.loop (i .ready none))=W1:=⟨_,rfl⟩;have a0:W1.heap[w.heap.size+1]? =some (.loop (i .ready none)):=by
  rw [<-q];have:=World.alloc_heap_new (w.alloc (.deferred (some []))) (.loop (i .ready none));rwa [World.size_alloc] at this
 have ax:W1.heap[w.heap.size]? =some (.deferred (some [])):=by
  rw [<-q];exact (Below.heap_alloc _ _ _ (by simp)).trans (World.alloc_heap_new w _)
 have Y:Fr (fun _=>False) w W1:=by rw [<-q];exact ((Fr.refl _ w).alloc _).alloc _
 have bd:W1.heap.size=w.heap.size+2:=by rw [<-q];simp
 have av:I [] m W1:=V.Fh h0 Y;refine ⟨w.heap.size+1,[{target:= .collected w.heap.size,args:= #[]}],W1,{target:= .fn (.func gf) lb,args:= #[.func (.yield (w.heap.size+1)) #[] #[]]},W1,gf,
  #[.func (.yield (w.heap.size+1)) #[] #[]]++lb,W1,?_,?_,fun _ _=>trivial,?_,(fun h=>by cases h),?_⟩
 ·rw [<-q,b];exact run_enterLoop_outer _ _ _ _ _
 ·simp only [resolve,hg];simp [go_sem]
 ·simp [invoke,go_sem,eg]
 ·refine (aq (d-1) (w.heap.size+1)
   (fun f S W=>I f S W∧(W.heap[w.heap.size+1]? =some (.loop (i .ready none))∧W.heap[w.heap.size]? =some (.deferred (some [])))∧(¬S (w.heap.size+1)∧¬S w.heap.size)∧Fr m w W∧∀k,S k->m k∨w.heap.size<=k) m
   W1 ?_ (fun f S W h=>hR f S W h.1) ?_ (fun k c=>by have:=L k c;omega) ⟨av,⟨a0,ax⟩,⟨fun h=>by have:=L _ h;omega,fun h=>by have:=L _ h;omega⟩,Y.mono (fun _ h=>h.elim),fun k c=> .inl c⟩).mono ?_
  ·rintro f S A B T ⟨hi,⟨J,c⟩,y,hf,F⟩ E X;exact ⟨V f S A B T hi E (fun k c=>⟨by have:=(X k c).1;omega,(X k c).2⟩),⟨E.heap J (fun h=>by have:=(X _ h).1;omega),E.heap c (fun h=>by have:=(X _ h).1;omega)⟩,y,
    hf.trans E (fun k c=> .inr (by have:=(X k c).1;omega)),F⟩
  ·rintro f S x W ⟨hi,⟨J,c⟩,y,hf,F⟩ am;have a8:w.heap.size+1<W.heap.size:=(Array.getElem?_eq_some_iff.1 J).1;have hy:=run_yield (P:=Tryz.prog) (args:=encs x) J (by rw [b];exact a9 x);rw [b] at hy;refine ⟨fn,_,assign,body,hy,roundIn_of_wpIn a1 (r _ x W _ ⟨_,run_beginRound J (by rw [b]),?_⟩)⟩;obtain ⟨n,M⟩:∃n,W.putObj (w.heap.size+1) (.loop {i .ready none with state:= .busy})=n:=⟨_,rfl⟩;have s:Fr (fun k=>k=w.heap.size+1) W n:=by rw [<-M];exact (Fr.refl _ W).putObj _ _ (.inl rfl)
   have a7:n.heap[w.heap.size+1]? =some (.loop {i .ready none with state:= .busy}):=by rw [<-M];exact World.putObj_heap_same a8
   have a5:n.heap[w.heap.size]? =some (.deferred (some [])):=s.heap c (by omega);have a2:I f S n:=V f S W n _ hi s (fun k c=>by subst c;exact ⟨by omega,y.1⟩);have H:Fr m w n:=hf.trans s (fun k c=> .inr (by omega));rw [M];refine wpIn_mono (N _ f S x _ a2 am H F) ?_;rintro e a3 z ⟨rfl,S',a4,C,G⟩;have ah:=C.heap a7 y.1;have a6:=C.heap a5 y.2;have hr:=run_endRound (P:=Tryz.prog) none ah;rw [b] at hr;have bj:=s.size;have ap:¬S' (w.heap.size+1)∧¬S' w.heap.size:=⟨fun h=>by rcases G _ h with h|h;exact y.1 h;omega,fun h=>by rcases G _ h with h|h;exact y.2 h;omega⟩;have bb:∀k,S' k->m k∨w.heap.size<=k:=fun k c=>by
    rcases G k c with h|h
    ·exact F k h
    ·have:=hf.size;exact .inr (by omega)
   have j:Fr (fun k=>k=w.heap.size+1) z (z.putObj (w.heap.size+1) (.loop {i .ready none with state:= .ready})):=(Fr.refl _ z).putObj _ _ (.inl rfl);have ad:Fr m w z:=H.trans C F;have U:(z.putObj (w.heap.size+1) (.loop {i .ready none with state:= .ready})).heap[w.heap.size+1]? =some (.loop (i .ready none)):=by
    have:=World.putObj_heap_same (w:=z) (o:= .loop {i .ready none with state:= .ready}) (Array.getElem?_eq_some_iff.1 ah).1;rw [this,b]
   refine ⟨_,_,hr,rfl,S',⟨?_,⟨?_,?_⟩,ap,?_,bb⟩,?_,?_⟩
   ·have:=V (f++[x]) S' z _ _ a4 j (fun k c=>by subst c;exact ⟨by omega,ap.1⟩);rw [b] at this;exact this
   ·rw [b] at U;rw [b];exact U
   ·have:=j.heap a6 (by omega);rw [b] at this;exact this
   ·have:=ad.trans j (fun k c=> .inr (by omega));rw [b] at this;exact this
   ·have u:Fr (fun k=>S k∨k=w.heap.size+1) W (z.putObj (w.heap.size+1) (.loop {i .ready none with state:= .ready})):=((s.mono (S':=fun k=>S k∨k=w.heap.size+1) (fun k c=> .inl (.inr c))).trans C (fun k c=> .inl (.inl c))).trans j (fun k c=> .inl (.inr c));have Z:Fr S W (z.putObj (w.heap.size+1) (.loop {i .ready none with state:= .ready})):=⟨u.os,u.tape,u.output,u.size,fun k c F=>by
     by_cases e:k=w.heap.size+1
     ·subst e;rw [U,J]
     ·exact u.block k c (fun h=>by rcases h with h|h;exact F h;exact e h)⟩
    rw [b] at Z;exact Z
   ·intro k c;rcases G k c with h|h
    ·exact .inl h
    ·exact .inr (by omega)
  ·rintro e n ⟨⟨v,rfl⟩,S,hi,⟨J,c⟩,y,hf,F⟩;have j:∀o,Fr (fun k=>k=w.heap.size+1) n (n.putObj (w.heap.size+1) o):=fun o=>(Fr.refl _ n).putObj _ _ (.inl rfl)
   exact ⟨none,_,by have:=run_endLoop (P:=Tryz.prog) J (by rw [b];simp);rw [b] at this;exact this,O _ S _ (V xs S n _ _ hi (j _) (fun k c=>by subst c;exact ⟨by omega,y.1⟩)) ((j _).heap c (by omega)) (Nat.le_refl _) y.2 (hf.trans (j _) (fun k c=> .inr (by omega))) F⟩
end
section
open Go.RowKit Go.Shelf
def bf (f:Nat->Bool) (a n:Nat):List Nat:=(List.range' a (n-a)).filter f
theorem oz {a j n:Nat} (c:a<=j) (d:j<n):List.range' a (n-a)=List.range' a (j-a)++j::List.range' (j+1) (n-(j+1)):=by
 have b:n-a=(j-a)+(n-j):=by omega
 rw [b,<-List.range'_append_1,show a+(j-a)=j by omega,show n-j=(n-(j+1))+1 by omega,List.range'_succ]
theorem lG {f:Nat->Bool} {a n j:Nat} (h:fD f a n j):bf f a n=j::bf f (j+1) n:=by
 unfold bf;rw [oz h.1 h.2.1,List.filter_append,List.filter_cons_of_pos h.2.2.1];have:(List.range' a (j-a)).filter f=[]:=List.filter_eq_nil_iff.2 (fun x b=>by
  rw [List.mem_range'_1] at b;rw [h.2.2.2 x b.1 (by omega)];exact Bool.false_ne_true)
 rw [this,List.nil_append]
theorem lH {f:Nat->Bool} {a n:Nat} (h:∀j,a<=j->j<n->f j=false):bf f a n=[]:=List.filter_eq_nil_iff.2 (fun x b=>by
 rw [List.mem_range'_1] at b;rw [h x b.1 (by omega)];exact Bool.false_ne_true)
theorem jZ {f:Nat->Bool} {a n x:Nat}:x∈bf f a n↔a<=x∧x<n∧f x=true:=by
 unfold bf;rw [List.mem_filter,List.mem_range'_1];exact ⟨fun ⟨⟨b,d⟩,c⟩=>⟨b,by omega,c⟩,fun ⟨b,d,c⟩=>⟨⟨b,by omega⟩,c⟩⟩
def xn (i:Nat):Array Value:= #[.int .i64 i]
def yl (b g n tb:Nat) (f:Nat->Bool) (W:World):Prop:=(∃ws,aW W b g n ws∧∀j,aw ws j=f j)∧bv W∧aj W tb [.pointer (some ⟨b,0,none⟩)] 211
theorem s9 {b g n tb:Nat} {f:Nat->Bool} (Y:n<=1048576):lW 262 #[.pointer (some ⟨tb,0,none⟩)] xn (bf f 0 n) (yl b g n tb f):=by
 intro d l J O W K v L E D;refine callsIn_of_wp Tryz.func262 rfl trivial ?_ rfl;simp only [Tryz.ntmps262,List.size_toArray,List.length_cons,List.length_nil,Nat.reduceAdd,Nat.reduceSub,Array.replicate_succ,Array.replicate_zero,List.push_toArray,List.append_toArray,List.nil_append,List.cons_append];obtain ⟨⟨ws,z,a⟩,y,o⟩:=v _ _ _ D;have V:=o.cell 0 rfl;have s:=ae (eC z y 0 (by omega));rw [show ((0:Nat):Int)=0 from rfl,funext a] at s;have T:=ae K;have M:=ae v;have N:=ae L;have I:=ae D;clear K v L D z a y o E;gi_wp2;refine bx ((s.out).mono ?_);rintro e w' ⟨hp,rfl⟩;have w:Hid (∃(i:Nat) (is:Bool),e= .returned (.tuple #[.int .i64 i,.bool is])∧i<=1048576∧(is=true->bf f 0 n=i::bf f (i+1) n∧i<n)∧(is=false->bf f 0 n=[])):=by
  rcases hp with ⟨j,m,rfl⟩|⟨m,rfl⟩
  ·exact ⟨j,true,rfl,by have:=m.2.1;omega,fun _=>⟨lG m,m.2.1⟩,(fun h=>by cases h)⟩
  ·exact ⟨0,false,rfl,by omega,(fun h=>by cases h),fun _=>lH m⟩
 clear hp s;obtain ⟨i,is,rfl,G,hp⟩:=w.out;have t:=ae hp;clear hp w;gi_wp2
 gi_loopw [3,4] (fun p q wr=>∃(i:Nat) (is:Bool),p= .int .i64 i∧q= .bool is∧i<=1048576∧Hid (∃c S,J c S wr∧(is=true->bf f 0 n=c++i::bf f (i+1) n∧i<n)∧(is=false->bf f 0 n=c)))
  (fun p q _=>match q with| .bool true=>n+1-(intOf p).toNat|_=>0)
 case atStart=>exact ⟨i,is,rfl,rfl,G,⟨[],O,I.out,t.out.1,t.out.2⟩⟩
 case round=>
  clear t I G;obtain ⟨i,is,rfl,rfl,G,B⟩:=hrel
  cases is with
  |false=>
   obtain ⟨c,S,m,_,r⟩:=B.out;have A:Hid (∃S,J (bf f 0 n) S wr):=⟨S,by rw [r rfl];exact m⟩;clear B m r;gi_wp2;refine ⟨fun f h=>(by cases h),?_⟩;gi_wp2;go_end0;exact ⟨⟨_,rfl⟩,A.out⟩
  |true=>
   obtain ⟨c,S,m,r,_⟩:=B.out;obtain ⟨r,P⟩:=r rfl;obtain ⟨fn,tmps,assign,body,R,v⟩:=N.out c S i wr m (by rw [r];simp);unfold xn at R;have x:=ae v;have A:=ae r;clear B m r v;gi_wp2;refine ⟨(fun h=>by cases h),x.out.mono ?_⟩;rintro e U ⟨rfl,S',u,F,H⟩;obtain ⟨⟨ws,z,a⟩,y,o⟩:=M.out _ _ _ u;have X:=o.cell 0 rfl;have s:=ae (eC z y (i+1) (by omega));rw [show ((i+1:Nat):Int)=(i:Int)+1 by omega,funext a] at s;have C:=ae u;clear z a y o u F H x;gi_wp2;refine bx ((s.out).mono ?_);rintro e w' ⟨hp,rfl⟩;have w:Hid (∃(k:Nat) (is:Bool),e= .returned (.tuple #[.int .i64 k,.bool is])∧k<=1048576∧(is=true->(bf f 0 n=(c++[i])++k::bf f (k+1) n∧k<n)∧i<k)∧(is=false->bf f 0 n=c++[i])):=by
    rcases hp with ⟨j,m,rfl⟩|⟨m,rfl⟩
    ·exact ⟨j,true,rfl,by have:=m.2.1;omega,fun _=>⟨⟨by rw [A.out,lG m];simp,m.2.1⟩,by have:=m.1;omega⟩,(fun h=>by cases h)⟩
    ·exact ⟨0,false,rfl,by omega,(fun h=>by cases h),fun _=>by rw [A.out,lH m]⟩
   clear hp s;obtain ⟨k,is,rfl,Q,hp⟩:=w.out;have t:=ae hp;clear hp w;gi_wp2;refine ⟨⟨k,is,rfl,rfl,Q,⟨c++[i],S',C.out,fun h=>(t.out.1 h).1,t.out.2⟩⟩,?_⟩
   cases is with
   |false=>simp [intOf];omega
   |true=>have:=(t.out.1 rfl).2;simp [intOf];omega
end
section
open Go.RowKit Go.Shelf
theorem tO (b:Nat) (w:World):Calls Tryz.prog 221 #[b] w fun e w'=>e= .returned (.func (.func 262) #[] #[.pointer (some ⟨w.heap.size,0,none⟩)])∧w'=w.alloc (.cells #[.pointer (some ⟨b,0,none⟩)] 211):=by
 go_enter Tryz.func221,Tryz.ntmps221
 go_wp2;go_ret;exact ⟨rfl,rfl⟩
theorem dN (b:Nat) (w:World):Calls Tryz.prog 154 #[b] w fun e w'=>e= .returned (.func (.func 220) #[] #[.pointer (some ⟨w.heap.size,0,none⟩)])∧w'=w.alloc (.cells #[.pointer (some ⟨b,0,none⟩)] 132):=by
 go_enter Tryz.func154,Tryz.ntmps154
 go_wp2;go_ret;exact ⟨rfl,rfl⟩
def aP (E:Nat->Nat) (W:Nat):List (Nat×Nat):=(bf (aU E) 0 W).map fun s=>(s,E s)
def gm (x:Nat×Nat):Array Value:= #[.int .i64 (x.1:Int),.int .i64 (x.2:Int)]
def kH (L:aI) (tb W:Nat) (E:Nat->Nat) (w:World):Prop:=bD w L W E∧bv w∧aj w tb [.pointer (some ⟨L.m,0,none⟩)] 132
theorem yQ {f:Nat->Nat×Nat} {xs a:List Nat} {x:Nat} (h:xs[a.length]? =some x):(xs.map f)[(a.map f).length]? =some (f x):=by
 rw [List.length_map,List.getElem?_map,h];rfl
def jy (J:List (Nat×Nat)->(Nat->Prop)->World->Prop) (E:Nat->Nat) (l yb ob s:Nat) (pre:List Nat) (S:Nat->Prop) (W:World):Prop:=
 J (pre.map fun s=>(s,E s)) S W∧aj W yb [.func (.yield l) #[] #[]] 302∧aj W ob [.pointer (some ⟨s,0,none⟩)] 211∧¬S yb∧¬S ob
theorem jy.stays {J:List (Nat×Nat)->(Nat->Prop)->World->Prop} {E:Nat->Nat} {l c b s B:Nat} (d:cE B J) (n:c<B) (o:b<B):cE B (jy J E l c b s):=by
 rintro e S W1 m T ⟨f,g,i,j,k⟩ hf a;exact ⟨d _ _ _ _ _ f hf a,g.frame hf (fun h=>by have:=(a _ h).1;omega),i.frame hf (fun h=>by have:=(a _ h).1;omega),j,k⟩
theorem jy.rnd {J:List (Nat×Nat)->(Nat->Prop)->World->Prop} {E:Nat->Nat} {l k e s x:Nat} {a:List Nat} {S:Nat->Prop} {W d:World} (h:jy J E l k e s a S W) (m:uh J ((a.map fun s=>(s,E s))++[(x,E x)]) S W d):uh (jy J E l k e s) (a++[x]) S W d:=by
 obtain ⟨q,f,g,i,j⟩:=h;obtain ⟨S',n,b,c⟩:=m;have p:=f.lt;have o:=g.lt;exact ⟨S',⟨by rw [List.map_append];exact n,f.frame b i,g.frame b j,fun h=>by rcases c _ h with h|h;exact i h;omega,fun h=>by rcases c _ h with h|h;exact j h;omega⟩,b,c⟩
section
attribute [local go_sem] Oper.semAt_some
theorem dM {L:aI} {tb W:Nat} {E:Nat->Nat} (hn:W<=1048576):lW 220 #[.pointer (some ⟨tb,0,none⟩)] gm (aP E W) (kH L tb W E):=by
 intro d l J U c V F hY G h0;refine callsIn_of_wp_marks Tryz.func220 rfl trivial ?_ rfl;simp only [Tryz.ntmps220,List.size_toArray,List.length_cons,List.length_nil,Nat.reduceAdd,Nat.reduceSub,Array.replicate_succ,Array.replicate_zero,List.push_toArray,List.append_toArray,List.nil_append,List.cons_append];obtain ⟨W1,g⟩:∃W1,c.alloc (.cells #[.func (.yield l) #[] #[]] 302)=W1:=⟨_,rfl⟩;have X:Fr (fun _=>False) c W1:=by rw [<-g];exact (Fr.refl _ c).alloc _
 have I:aj W1 c.heap.size [.func (.yield l) #[] #[]] 302:=by rw [<-g];exact aj.new c _ _
 have o:W1.heap.size=c.heap.size+1:=by rw [<-g];simp
 have u:=V.Fh h0 X;obtain ⟨y,O,j⟩:=F _ _ _ u;have c0:=j.cell 0 rfl;have c1:=y.blk.cell 0 rfl;have HN:=ae (cQ y.blk);have HO:=ae (tO L.s W1);have HX:=ae y;have N:=ae V;have HR:=ae F;have HY:=ae hY;have HJ:=ae u;have HW:=ae g;have z:=ae (af I (af o G));clear V F hY h0 O j y u I o G;gi_wp2;clear g;refine bx ((HN.out).mono ?_);rintro e w' ⟨rfl,rfl⟩;gi_wp2;refine bx ((HO.out).mono ?_);rintro e A ⟨rfl,p⟩;have t:Fr (fun _=>False) W1 A:=by rw [p];exact (Fr.refl _ W1).alloc _
 have ad:aj A W1.heap.size [.pointer (some ⟨L.s,0,none⟩)] 211:=by rw [p];exact aj.new W1 _ _
 have ap:A.heap.size=W1.heap.size+1:=by rw [p];simp
 have o:=z.out.2.1;have r:jy J E l c.heap.size W1.heap.size L.s [] U A:=⟨N.out.Fh HJ.out t,z.out.1.frame t (fun h=>h),ad,fun h=>by have:=z.out.2.2 _ h;omega,fun h=>by have:=z.out.2.2 _ h;omega⟩;have b:cE A.heap.size (jy J E l c.heap.size W1.heap.size L.s):=jy.stays (N.out.mono (by omega)) (by omega) (by omega);have v:∀k,U k->k<A.heap.size:=fun k Y=>by have:=z.out.2.2 _ Y;omega
 have a:∀q S w,jy J E l c.heap.size W1.heap.size L.s q S w->yl L.s L.gs W W1.heap.size (aU E) w:=fun q S w h=>by
  obtain ⟨h1,h2,_⟩:=HR.out _ _ _ h.1;exact ⟨h1.sv,h2,h.2.2.1⟩
 have aq:=ae o;clear p c0 c1 o ap;gi_wp2;refine dv (gf:=262) (lb:= #[W1.heap.size]) rfl (enters_of Tryz.func262 (by kernel_rfl) rfl) (encs:=xn) (fun _=>rfl) (s9 (f:=aU E) hn) (jy J E l c.heap.size W1.heap.size L.s) U b a v r
  (fun s=>{tmps:= #[.func (.yield l) #[] #[],.pointer (some ⟨tb,0,none⟩),.pointer (some ⟨c.heap.size,0,none⟩),.int .i64 s,.pointer (some ⟨L.m,0,none⟩),.bool false,.pointer (some ⟨L.m,0,none⟩),.pointer (some ⟨L.m,0,none⟩),.pointer (some ⟨L.m,0,none⟩),.pointer (some ⟨L.s,0,none⟩),.func (.func 262) #[] #[.pointer (some ⟨W1.heap.size,0,none⟩)],.int .i64 s,undef,undef,undef,undef,undef,undef,undef],defers:=[]}) ?assign ?body ?done
 case assign=>
  intro k x W K C;unfold xn;gi_wp2;exact C
 case body=>
  clear r b v a;intro k q S x W B i hf hs;obtain ⟨H,M,ah,ax,a0⟩:=id B;obtain ⟨y,O,j⟩:=HR.out _ _ _ H;have am:E x≠0:=bJ.1 (jZ.1 (List.mem_of_getElem? i)).2.2;obtain ⟨fn,tmps,assign,body,hy,F⟩:=HY.out _ S (x,E x) W.drew (N.out.Fh H ((Fr.refl _ W).drew)) (yQ i);have T:=ae (jO y.drew O x am);have R:=ae F;have c0:W.drew.cell? ⟨c.heap.size,0,none⟩=some (.func (.yield l) #[] #[]):=M.drew.cell 0 rfl;have c1:W.drew.cell? ⟨tb,0,none⟩=some (.pointer (some ⟨L.m,0,none⟩)):=j.drew.cell 0 rfl;have HE:=ae (fun W' (P:uh J ((q.map fun s=>(s,E s))++[(x,E x)]) S W.drew W')=>(jy.rnd B (let ⟨S',r1,r2,r3⟩:=P;⟨S',r1,((Fr.refl S W).drew).trans r2 (fun _ h=> .inl h),r3⟩)));unfold gm at hy;clear B H M ah y O j i hf hs F;generalize E x=n at*;gi_wp2;refine wpIn_region_any (by kernel_rfl) ?_;change wpAnyIn _ _ _ _ _ _ _ _ _ (World.drew _);generalize W.drew=W at*
  iterate 7 (all_goals (
   first|refine wpAnyIn_ready (rs:=[0,1,2,3]) (by decide+kernel) (by simp) ?_|refine wpAnyIn_ready (rs:=[0,1,2]) (by decide+kernel) (by simp) ?_|refine wpAnyIn_ready (rs:=[0,1,3]) (by decide+kernel) (by simp) ?_|refine wpAnyIn_ready (rs:=[0,2,3]) (by decide+kernel) (by simp) ?_|refine wpAnyIn_ready (rs:=[1,2,3]) (by decide+kernel) (by simp) ?_|refine wpAnyIn_ready (rs:=[0,1,4]) (by decide+kernel) (by simp) ?_|refine wpAnyIn_ready (rs:=[0,1]) (by decide+kernel) (by simp) ?_|refine wpAnyIn_ready (rs:=[0,2]) (by decide+kernel) (by simp) ?_|refine wpAnyIn_ready (rs:=[0,3]) (by decide+kernel) (by simp) ?_|refine wpAnyIn_ready (rs:=[1,2]) (by decide+kernel) (by simp) ?_|refine wpAnyIn_ready (rs:=[1,3]) (by decide+kernel) (by simp) ?_|refine wpAnyIn_ready (rs:=[2,3]) (by decide+kernel) (by simp) ?_|refine wpAnyIn_ready (rs:=[0,4]) (by decide+kernel) (by simp) ?_|refine wpAnyIn_ready (rs:=[0]) (by decide+kernel) (by simp) ?_|refine wpAnyIn_ready (rs:=[1,4]) (by decide+kernel) (by simp) ?_|refine wpAnyIn_ready (rs:=[1]) (by decide+kernel) (by simp) ?_|refine wpAnyIn_ready (rs:=[2]) (by decide+kernel) (by simp) ?_|refine wpAnyIn_ready (rs:=[3]) (by decide+kernel) (by simp) ?_|refine wpAnyIn_ready (rs:=[4]) (by decide+kernel) (by simp) ?_|refine wpAnyIn_ready (rs:=[5]) (by decide+kernel) (by simp) ?_|refine wpAnyIn_ready (rs:=[6]) (by decide+kernel) (by simp) ?_
   repeat' (first|exact AllReadyIn.nil|refine AllReadyIn.cons rfl (fun K C=> ?_) ?_)
   all_goals (
    go_simp
    first|refine C _ _ ?_|(refine ny ((T.out).mono ?_);rintro e w' ⟨rfl,rfl⟩;refine C _ _ ?_)|(refine zJ (R.out.mono ?_);rintro e W3 ⟨rfl,P⟩;have Q:=ae (HE.out _ P);clear P;refine C _ _ ?_)
    clear C K)))
  all_goals (
   refine wpAnyIn_done (by kernel_rfl) ?_ _;gi_wp2;exact Q.out)
 case done=>
  intro D S W B hD av Z hf hs;have H:=B.1;clear B r b v a;gi_wp2;refine ⟨by simp,.inl ⟨_,_,rfl,run_takeDeferred hD,?_⟩⟩;refine ⟨_,results_none rfl _ _ _,⟨_,rfl⟩,S,?_⟩;exact N.out _ _ _ _ (fun k=>k=D) H ((Fr.refl _ W).putObj _ _ (.inl rfl)) (fun k Y=>by subst Y;exact ⟨by have:=z.out.2.1;have:=t.size;omega,Z⟩)
end
end
section
open Go.RowKit Go.Shelf
theorem vZ:∀w,(Go.sizeOf 46).run Tryz.prog w= .ok 1 w:=fun w=>by rw [show 46=46 from rfl];exact Tryz.sizeOf46 w
theorem nz {w:World} {b g n:Nat} {ws:List Nat} (h:aW w b g n ws) (c:Nat):Calls Tryz.prog 291 #[.slice (some ⟨g,0,none⟩) ws.length c] w fun e w'=>∃g' c' rest,e= .returned (.slice (some ⟨g',0,none⟩) ws.length c')∧ws.length<=c'∧aj w' g' (bB ws++rest) 46∧w.heap.size<=g'∧Fr (fun _=>False) w w':=by
 obtain ⟨z,s,f,i,k⟩:=info_parts ib;have C:=h.len;have D:=h.small;have B:=h.one;refine (Tryz.slices_Clone_f291 z (.int .u64 0) 1 8 s f i k rfl (by decide) vZ g 0 ws.length c (bB ws) w (by unfold bB;simp) (by unfold maxLen;omega) (by omega) ?_ ?_).mono ?_
 ·intro j u d;unfold bB at d;rw [List.getElem?_map] at d
  cases hx:ws[j]? with
  |none=>rw [hx] at d;cases d
  |some x=>
   rw [hx] at d
   cases d
   have:=h.at hx;rwa [show 0+j=j by omega]
 ·intro u o;unfold bB at o;obtain ⟨x,_,rfl⟩:=List.mem_map.1 o;rfl
 ·rintro e w' ⟨E,rfl,⟨m,y⟩,v,p⟩;rcases y with ⟨_,A⟩|⟨g',cap,cur,rfl,hg,r,t,l,q,a⟩
  ·omega
  ·refine ⟨g',cap,cur.toList.drop ws.length,rfl,t,?_,hg,Fr.of_below p⟩;unfold aj;rw [Nat.mul_one] at a;have:cur=(bB ws++cur.toList.drop ws.length).toArray:=by
    rw [<-a];simp
   rw [<-this];exact r
theorem ur {w w1 W:World} {b g g' n c':Nat} {ws:List Nat} {rest:List Value} (h:aW w b g n ws) (d:ws.length<=c') (a:aj w1 g' (bB ws++rest) 46) (hg:w.heap.size<=g') (hf:Fr (fun _=>False) w w1)
  (c:W=w1.alloc (.cells #[.slice (some ⟨g',0,none⟩) ws.length c',.int .i64 n] 289)):aW W w1.heap.size g' n ws∧w.heap.size<=w1.heap.size∧w.heap.size<=g'∧Fr (fun _=>False) w W:=by
 subst c;have:=a.lt;exact ⟨⟨⟨c',d,aj.new w1 _ _⟩,⟨rest,a.alloc _⟩,by omega,h.len,h.lt,h.one,h.small,h.off⟩,hf.size,hg,hf.alloc _⟩
theorem tL {w:World} {b g n:Nat} {ws:List Nat} (h:aW w b g n ws):Calls Tryz.prog 283 #[b] w fun e w'=>∃s g',e= .returned (.pointer (some ⟨s,0,none⟩))∧aW w' s g' n ws∧w.heap.size<=s∧w.heap.size<=g'∧Fr (fun _=>False) w w':=by
 obtain ⟨C,x,A⟩:=h.drew.c0;have c1:=h.drew.c1;have m:=ae (nz h.drew C);have f:=ae (fun w1 W g' c' rest l j hg hf y=>ur (w1:=w1) (W:=W) (g':=g') (c':=c') (rest:=rest) h.drew l j hg hf y);have o:=ae (fun w' (hf:Fr (fun _=>False) w.drew w')=>(h.drew.frame hf (fun h=>h) (fun h=>h)).c1);have c:=ae (((Fr.refl (fun _=>False) w).drew));generalize ws.length=k at*;clear h x
 go_enter Tryz.func283,Tryz.ntmps283
 go_wp2;refine wp_region_any (by kernel_rfl) ?_;change wpAny _ _ _ _ _ _ _ (World.drew _);generalize z:w.drew=wd at*;refine wpAny_take (i:=0) (v:= .pointer (some ⟨b,0,none⟩)) rfl (by kernel_rfl) (by kernel_rfl) (by kernel_rfl) (fun _ _ _ h=>h) (Or.inl ⟨by rfl,fun w=>by go_simp⟩) ?_;refine wpAny_take (i:=1) (v:= .pointer (some ⟨b,0,none⟩)) rfl (by kernel_rfl) (by kernel_rfl) (by kernel_rfl) (fun _ _ _ h=>h) (Or.inl ⟨by rfl,fun w=>by go_simp⟩) ?_;refine wpAny_take (i:=2) (v:= .pointer (some ⟨b,0,none⟩)) rfl (by kernel_rfl) (by kernel_rfl) (by kernel_rfl) (fun _ _ _ h=>h) (Or.inl ⟨by rfl,fun w=>by go_simp⟩) ?_;refine wpAny_take (i:=5) (v:= .pointer (some ⟨b,0,none⟩)) rfl (by kernel_rfl) (by kernel_rfl) (by kernel_rfl) (fun _ _ _ h=>h) (Or.inl ⟨by rfl,fun w=>by go_simp⟩) ?_;refine wpAny_take (i:=6) (v:= .pointer (some ⟨b,0,none⟩)) rfl (by kernel_rfl) (by kernel_rfl) (by kernel_rfl) (fun _ _ _ h=>h) (Or.inl ⟨by rfl,fun w=>by go_simp⟩) ?_;refine wpAny_take (i:=7) (v:= .pointer (some ⟨b,1,none⟩)) rfl (by kernel_rfl) (by kernel_rfl) (by kernel_rfl) (fun _ _ _ h=>h) (Or.inl ⟨by rfl,fun w=>by go_simp⟩) ?_;simp only [Act.put];refine wpAny_ready (rs:=[3,8]) (by kernel_rfl) (by simp) ?_;refine AllReady.cons rfl (fun K a=> ?_) (AllReady.cons rfl (fun K a=> ?_) AllReady.nil)
 ·go_simp;refine a _ _ ?_;clear a K;refine wpAny_ready (rs:=[4,8]) (by kernel_rfl) (by simp) ?_;refine AllReady.cons rfl (fun K a=> ?_) (AllReady.cons rfl (fun K a=> ?_) AllReady.nil)
  ·go_simp;refine (m.out).mono ?_;rintro e w1 ⟨g',c',rest,rfl,l,j,hg,hf⟩;have p:=o.out _ hf;have d:=ae (af l (af j (af hg hf)));clear l j hg hf m o;refine a _ _ ?_;clear a K;refine wpAny_ready (rs:=[8]) (by kernel_rfl) (by simp) ?_;refine AllReady.cons rfl (fun K a=> ?_) AllReady.nil;go_simp;refine a _ _ ?_;clear a K;refine wpAny_ready (rs:=[9]) (by kernel_rfl) (by simp) ?_;refine AllReady.cons rfl (fun K a=> ?_) AllReady.nil;go_simp;refine a _ _ ?_;clear a K;refine wpAny_ready (rs:=[10]) (by kernel_rfl) (by simp) ?_;refine AllReady.cons rfl (fun K a=> ?_) AllReady.nil;go_simp;refine a _ _ ?_;clear a K;refine wpAny_ready (rs:=[11]) (by kernel_rfl) (by simp) ?_;refine AllReady.cons rfl (fun K a=> ?_) AllReady.nil;go_simp;refine a _ _ ?_;clear a K;refine wpAny_done (by kernel_rfl) ?_ _;go_wp2;go_ret;obtain ⟨q,t,u,r⟩:=f.out _ _ _ _ _ d.out.1 d.out.2.1 d.out.2.2.1 d.out.2.2.2 rfl;exact ⟨_,_,rfl,q,by have:=c.out.size;omega,by have:=c.out.size;omega,c.out.trans r (fun _ h=> .inl h)⟩
  ·go_simp;refine a _ _ ?_;clear a K;refine wpAny_ready (rs:=[4]) (by kernel_rfl) (by simp) ?_;refine AllReady.cons rfl (fun K a=> ?_) AllReady.nil;go_simp;refine (m.out).mono ?_;rintro e w1 ⟨g',c',rest,rfl,l,j,hg,hf⟩;have p:=o.out _ hf;have d:=ae (af l (af j (af hg hf)));clear l j hg hf m o;refine a _ _ ?_;clear a K;refine wpAny_ready (rs:=[9]) (by kernel_rfl) (by simp) ?_;refine AllReady.cons rfl (fun K a=> ?_) AllReady.nil;go_simp;refine a _ _ ?_;clear a K;refine wpAny_ready (rs:=[10]) (by kernel_rfl) (by simp) ?_;refine AllReady.cons rfl (fun K a=> ?_) AllReady.nil;go_simp;refine a _ _ ?_;clear a K;refine wpAny_ready (rs:=[11]) (by kernel_rfl) (by simp) ?_;refine AllReady.cons rfl (fun K a=> ?_) AllReady.nil;go_simp;refine a _ _ ?_;clear a K;refine wpAny_done (by kernel_rfl) ?_ _;go_wp2;go_ret;obtain ⟨q,t,u,r⟩:=f.out _ _ _ _ _ d.out.1 d.out.2.1 d.out.2.2.1 d.out.2.2.2 rfl;exact ⟨_,_,rfl,q,by have:=c.out.size;omega,by have:=c.out.size;omega,c.out.trans r (fun _ h=> .inl h)⟩
 ·go_simp;refine a _ _ ?_;clear a K;refine wpAny_ready (rs:=[3]) (by kernel_rfl) (by simp) ?_;refine AllReady.cons rfl (fun K a=> ?_) AllReady.nil;go_simp;refine a _ _ ?_;clear a K;refine wpAny_ready (rs:=[4]) (by kernel_rfl) (by simp) ?_;refine AllReady.cons rfl (fun K a=> ?_) AllReady.nil;go_simp;refine (m.out).mono ?_;rintro e w1 ⟨g',c',rest,rfl,l,j,hg,hf⟩;have p:=o.out _ hf;have d:=ae (af l (af j (af hg hf)));clear l j hg hf m o;refine a _ _ ?_;clear a K;refine wpAny_ready (rs:=[9]) (by kernel_rfl) (by simp) ?_;refine AllReady.cons rfl (fun K a=> ?_) AllReady.nil;go_simp;refine a _ _ ?_;clear a K;refine wpAny_ready (rs:=[10]) (by kernel_rfl) (by simp) ?_;refine AllReady.cons rfl (fun K a=> ?_) AllReady.nil;go_simp;refine a _ _ ?_;clear a K;refine wpAny_ready (rs:=[11]) (by kernel_rfl) (by simp) ?_;refine AllReady.cons rfl (fun K a=> ?_) AllReady.nil;go_simp;refine a _ _ ?_;clear a K;refine wpAny_done (by kernel_rfl) ?_ _;go_wp2;go_ret;obtain ⟨q,t,u,r⟩:=f.out _ _ _ _ _ d.out.1 d.out.2.1 d.out.2.2.1 d.out.2.2.2 rfl;exact ⟨_,_,rfl,q,by have:=c.out.size;omega,by have:=c.out.size;omega,c.out.trans r (fun _ h=> .inl h)⟩
end
end Go.Proofs.YthahbijbpinneaaGreatDoor
