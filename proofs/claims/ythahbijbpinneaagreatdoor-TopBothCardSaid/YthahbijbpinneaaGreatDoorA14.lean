import Derived.Test.YthahbijbpinneaaGreatDoorA0
import Derived.Test.YthahbijbpinneaaGreatDoorA5
import Derived.Test.YthahbijbpinneaaGreatDoorA6
import Derived.Test.YthahbijbpinneaaGreatDoorA10
import Derived.Test.YthahbijbpinneaaGreatDoorA12
import Derived.Test.YthahbijbpinneaaGreatDoorA13
import Derived.MakeChecks
import Derived.Lib.LaidTab
import Derived.Test.YthahbijbpinneaaGreatDoorRows
import Derived.Laws.BitsAllLaws
set_option maxRecDepth 100000
set_option maxHeartbeats 8000000
set_option linter.all false
namespace Go.Proofs.YthahbijbpinneaaGreatDoor
open Go.RowKit Go.Proofs.Tryz
section
variable{v0 v1 v2 v3 v4 v5 v6:Int}{tr n cp:Nat}{p:Option Addr}{w:World}
theorem Ca(w:World)(p:Option Addr)(n cp:Nat):Calls prog 48 #[km v0 v1 v2 v3 v4 v5 v6 tr,.slice p n cp] w fun e w'=>e= .returned (.bool (decide (2048<v3)||decide ((120:Int)<(n:Int))))/\GM w w':=by
 obtain ⟨W1,b⟩:∃W1,w.alloc (.cells #[(v0:Int),(v1:Int),(v2:Int),(v3:Int),(v4:Int),(v5:Int),(v6:Int),.float .f64 tr] 24)=W1:=⟨_,rfl⟩;have d:GM w W1:=by rw [<-b];exact (GQ _ w).alloc _
 have c:aJ W1 w.heap.size [(v0:Int),(v1:Int),(v2:Int),(v3:Int),(v4:Int),(v5:Int),(v6:Int),.float .f64 tr] 24:=by rw [<-b];exact aJ.new w _ _
 have i:=c.cell 3 rfl;have a:=ae d;clear d c;unfold km;by_cases f:2048<v3
 ·rw [aB f,kJ]
  go_enter func48,ntmps48
  go_wp2;go_ret;exact ⟨rfl,a.out⟩
 ·rw [ar f,ga];have h:decide (2048<v3)=false:=ar f;obtain ⟨N,g⟩:∃N:Int,N=(n:Int):=⟨_,rfl⟩
  go_enter func48,ntmps48
  go_wp2;go_ret;exact ⟨rfl,a.out⟩
def Ef(v0 v1 v2 v3 v4 v5 v6:Int)(tr n:Nat)(A:AG)(w:World)(e:Ending)(w':World):Prop:=
 (e= .returned (.pointer none)/\GM w w')\/(∃c b T,iz c/\km v0 v1 v2 v3 v4 v5 v6 tr=pE c/\v3<=2048/\n<=120/\e= .returned (.pointer (some ⟨b,0,none⟩))/\eX b c A (List.replicate c.Sl 0) 0 0 T w'/\(∀k,T k->w.heap.size<=k)/\GM w w')
theorem B7(v:v1<=9223372036854775807)(x:v2<=9223372036854775807)(y:v3<=9223372036854775807)(B:et w)(A:AG)(p:Option Addr)(n cp:Nat):Calls prog 10 #[km v0 v1 v2 v3 v4 v5 v6 tr,.slice p n cp] w (Ef v0 v1 v2 v3 v4 v5 v6 tr n A w):=by
 obtain ⟨W1,g⟩:∃W1,w.alloc (.cells #[(v0:Int),(v1:Int),(v2:Int),(v3:Int),(v4:Int),(v5:Int),(v6:Int),.float .f64 tr] 24)=W1:=⟨_,rfl⟩;have s:GM w W1:=by rw [<-g];exact (GQ _ w).alloc _
 have o:aJ W1 w.heap.size [(v0:Int),(v1:Int),(v2:Int),(v3:Int),(v4:Int),(v5:Int),(v6:Int),.float .f64 tr] 24:=by rw [<-g];exact aJ.new w _ _
 obtain ⟨F,G,I,J,K,L,M,N⟩:=pV o;have d:=ae (Ca (v0:=v0) (v1:=v1) (v2:=v2) (v3:=v3) (v4:=v4) (v5:=v5) (v6:=v6) (tr:=tr) W1 p n cp);have j:=ae (fun w2 (hf:GM W1 w2)=>pV (o.frame hf id));have l:=ae s;have m:Hid (∀w',GM w w'->Ef v0 v1 v2 v3 v4 v5 v6 tr n A w (.returned (.pointer none)) w'):=ae (fun w' h=> .inl ⟨rfl,h⟩);have f:Hid (v3<=2048->n<=120->∀w1,GM w w1->Calls prog 49 #[km v0 v1 v2 v3 v4 v5 v6 tr] w1 fun e w'=>∃u z:Value,e= .returned (.tuple #[u,z])/\Ef v0 v1 v2 v3 v4 v5 v6 tr n A w (.returned u) w'):=by
  show v3<=2048->n<=120->∀w1,_
  intro g1 R w1 hf;by_cases r:∃c,iz c/\km v0 v1 v2 v3 v4 v5 v6 tr=pE c
  ·obtain ⟨c,r,C⟩:=r;have D:=xY r (aS B hf id) A;rw [<-C] at D;refine D.mono ?_;rintro e w' ⟨b,T,rfl,O,P,t⟩;exact ⟨_,_,rfl,.inr ⟨c,b,T,r,C,g1,R,rfl,O,fun k S=>aZ hf.size (P k S),hf.trans t GN⟩⟩
  ·refine (DL v x y r w1).mono ?_;rintro e w' ⟨rfl,t⟩;exact ⟨_,_,rfl,.inl ⟨rfl,hf.trans t GN⟩⟩
 clear v x y B s o;unfold km at d f ⊢;generalize (Ef v0 v1 v2 v3 v4 v5 v6 tr n A w)=Q at*
 go_enter func10,ntmps10
 go_wp2_with fail
 refine d.out.mono ?_;rintro e w2 ⟨rfl,i⟩;obtain ⟨F,G,I,J,K,L,M,N⟩:=j.out w2 i;have a:=l.out.trans i GN
 cases hB:(decide (2048<v3)||decide ((120:Int)<(n:Int))) with
 |true=>
  have H:=ae (m.out w2 a);clear d j l m f i a hB g;go_wp2;exact H.out
 |false=>
  rw [fo,az,az] at hB;have q:=ae (f.out (by omega) (by omega) w2 a);clear d j l m f i a hB g;go_wp2_with fail
  refine q.out.mono ?_;rintro e w3 ⟨u,z,rfl,E⟩;have H:=ae E;clear q E F G I J K L M N;go_wp2;exact H.out
end
def yr:List Sc:=[.int .i64,.int .i64,.int .i64,.int .i64,.int .i64,.int .i64,.int .i64,.float .f64]
theorem wu{n:Int}(h:(Lit.int .i64 n).wf=true):n<=9223372036854775807:=by
 simp [Lit.wf,IntKind.min,IntKind.max,IntKind.bits,IntKind.signed] at h;omega
theorem vc{cs:List Value}(h:gL yr cs):∃(v0 v1 v2 v3 v4 v5 v6:Int) (tr:Nat),.agg cs.toArray=km v0 v1 v2 v3 v4 v5 v6 tr/\v1<=9223372036854775807/\v2<=9223372036854775807/\v3<=9223372036854775807:=by
 rcases cs with _|⟨_,cs⟩
 ·exact h.elim
 obtain ⟨⟨v0,rfl,c⟩,h⟩:=h;rcases cs with _|⟨_,cs⟩
 ·exact h.elim
 obtain ⟨⟨v1,rfl,g1⟩,h⟩:=h;rcases cs with _|⟨_,cs⟩
 ·exact h.elim
 obtain ⟨⟨v2,rfl,a⟩,h⟩:=h;rcases cs with _|⟨_,cs⟩
 ·exact h.elim
 obtain ⟨⟨v3,rfl,b⟩,h⟩:=h;rcases cs with _|⟨_,cs⟩
 ·exact h.elim
 obtain ⟨⟨v4,rfl,d⟩,h⟩:=h;rcases cs with _|⟨_,cs⟩
 ·exact h.elim
 obtain ⟨⟨v5,rfl,e⟩,h⟩:=h;rcases cs with _|⟨_,cs⟩
 ·exact h.elim
 obtain ⟨⟨v6,rfl,f⟩,h⟩:=h;rcases cs with _|⟨_,cs⟩
 ·exact h.elim
 obtain ⟨⟨tr,rfl,g⟩,h⟩:=h;rcases cs with _|⟨_,cs⟩
 rotate_left
 ·exact h.elim
 exact ⟨v0,v1,v2,v3,v4,v5,v6,tr,rfl,wu g1,wu a,wu b⟩
theorem Gl:prog.globalNamed "math/bits.deBruijn64tab" =some 1:=by kernel_rfl
theorem Gj:(prog.globals[1]?).map (·.type)=some 359:=by kernel_rfl
theorem yQ{W:World}(h:laidMetH prog [("math/bits.deBruijn64tab",Rows.laid_math_bits_deBruijn64tab)] W):et W:=by
 rw [MakeChecks.laidMetH_plain _ _ _ (by kernel_rfl)] at h;obtain ⟨ps,⟨l,n,e,j,m,q0,a,c,d,b,_⟩,_⟩:=h;obtain rfl:=bf (Gl.symm.trans a);obtain rfl:=bf (Gj.symm.trans c);have f:=Lib.cells_of_tab (k:= .u8) (zs:=Dh.map Int.ofNat) underlying359 underlying5 (by kernel_rfl) (by kernel_rfl) b;intro i k g;have:=World.var?_cell a d i;rw [this,<-Array.getElem?_toList,f];simp [g]
theorem Am(b:Nat)(w:World):(callFunc 104 #[.float .f64 b]).run prog w= .ok (.value (.int .u64 b)) w:=by kernel_rfl
theorem D2(b:Nat)(w:World):(callFunc 83 #[.int .u64 b]).run prog w= .ok (.value (.float .f64 b)) w:=by kernel_rfl
theorem ri(b:Nat)(w:World):
  Calls prog 41 #[.float .f64 b] w fun e w'=>e= .returned (.int .u64 b)/\w=w':=by
 have h:=Am b
 go_enter func41,ntmps41
 go_wp2;go_ret;exact ⟨rfl,rfl⟩
theorem vT(b:Nat)(w:World):
  Calls prog 23 #[.int .u64 b] w fun e w'=>e= .returned (.float .f64 b)/\w=w':=by
 have h:=D2 b
 go_enter func23,ntmps23
 go_wp2;go_ret;exact ⟨rfl,rfl⟩
section
variable{t:TypeId}{v:Value}{fl fs:Nat}{r:Value}{I:jF}{dom:Nat->Prop}{L L' L'':Nat->Nat}{S:Nat->Prop}{w w1 w2:World}
theorem zu(q:dy t v fl r I dom)(m:I L S w)(a i p f g x:Nat)(k:1<=a)(h:a<4611686018427387904)(j:i<256)(l:dom a)(o:jb L a p f g)(n:fg p f g i=2)(d:dom (a+1+i))(s:L (a+1+i)=x):Calls prog 108 #[.iface t v,(a:Int),(i:Int)] w (eB I L S w (.tuple #[.float .f64 x,(0:Int)])):=by
 have b:=ae (sZ q m a i p f g 2 x k h j l o n d s);rw [show ((2:Nat):Int)=2 from rfl] at b;have c:=ae (fun w1=>vT x w1);unfold eB at*;clear q m l o n d s k h j
 go_enter func108,ntmps108
 go_wp2_with fail
 refine b.out.mono ?_;rintro e W1 ⟨rfl,hp⟩;clear b;go_wp2_with fail
 refine (c.out _).mono ?_;rintro e u ⟨rfl,rfl⟩;clear c;go_wp2;go_ret2;exact ⟨rfl,hp⟩
theorem sY(u:dy t v fl r I dom)(y:ph t v fs r I dom)(o:I L S w)(a i p f g x:Nat)(m:1<=a)(k:a<4611686018427387904)(l:i<256)(n:dom a)(s:jb L a p f g)(q:fg p f g i=2)(j:dom (a+1+i))(z:x<18446744073709551616):Calls prog 82 #[.iface t v,(a:Int),(i:Int),.float .f64 x] w (eB I (ej L (a+1+i) x) S w (.int .i64 0)):=by
 have c:=ae (xO u y o a i p f g 2 x m k l n s q j z);rw [show ((2:Nat):Int)=2 from rfl] at c;have d:=ae (fun w1=>ri x w1);obtain ⟨h,b⟩:∃h,h=ej L (a+1+i) x:=⟨_,rfl⟩;rw [<-b] at c ⊢;unfold eB at*;clear u y o n s q j z m k l b
 go_enter func82,ntmps82
 go_wp2_with fail
 refine (d.out _).mono ?_;rintro e W1 ⟨rfl,rfl⟩;go_wp2_with fail
 refine c.out.mono ?_;rintro e W1 ⟨rfl,hp⟩;clear c d;go_wp2;go_ret;exact ⟨rfl,hp⟩
end
section
variable{b u n s x v i:Nat}{c:Cf}{A A':AG}{rs:List Nat}{T:Nat->Prop}{w w1 w' w'':World}
theorem so(U:eX b c A rs u n T w)(J:rs[s]? =some x)(F:x≠0):∃G,∃B:Nat,(∀w1,GM w w1->∀xb C:Nat,w1.cell? xb=some (s:Int)->Calls prog 60 #[b,.slice (some xb) 1 C] w1 (Aw [B] w1))/\
  (∀w1,GM w w1->Calls prog 62 #[b] w1 fun e w'=>e= .returned G/\w1=w')/\
  (∀w1 i v,GM w w1->A.np x<=i->i<A.np x+A.nf x->v<18446744073709551616->Calls prog 82 #[G,(B:Int),(((i:Nat):Int):Int),.float .f64 v] w1 fun e w'=>e= .returned (0:Int)/\kV b c (A.put x i v) rs T w w')/\
  (∀w1 i,GM w w1->A.np x<=i->i<A.np x+A.nf x->Calls prog 108 #[G,(B:Int),(((i:Nat):Int):Int)] w1 fun e w'=>e= .returned (.tuple #[.float .f64 (A.Qk x i),(0:Int)])/\kV b c A rs T w w'/\w1.heap.size<=w'.heap.size):=by
 obtain ⟨h,φ,L,Ba,ub,M,Z,Y,S,rfl,f,H,R⟩:=U;have V:=f.half.top;obtain ⟨Q,_⟩:=f.Qs.W5;have q:=f.fits;have p:Reach A.gr rs x:= .root (aD J) F;refine ⟨C3 h.m M,φ x,fun w1 hf xb C P=> ?_,fun w1 hf=>iE (f.Qa hf).Qd,fun w1 i v hf l t K=> ?_,fun w1 i hf l t=> ?_⟩
 ·refine lz (f.Qa hf).Qd (f.Qa hf).roots xb C [φ x] (fun j a y=> ?_) (by simp) (by simp)
  match j,y with
  |0,y=>
   obtain rfl:φ x=a:=bf y;exact ⟨s,P,by rw [aR,J];rfl⟩
  |j+1,y=>exact absurd y (by simp)
 ·obtain ⟨W,X,N,O,r,I,dom,E,o,z,D,k,g⟩:=(f.Qa hf).mem.space f.Qs f.half q;have d:=f.laid.spot (i:=i) k (by omega) p (by omega);rw [E];refine (sY o z D (φ x) i _ _ _ v d.a1 d.a2 d.i1 d.d1 d.hd (uI d.hd.2 l t) d.d2 K).mono ?_;rintro e w' ⟨rfl,hp⟩;exact ⟨rfl,lw f H g (f.laid.Zb p l (by omega) K) hf hp⟩
 ·obtain ⟨W,X,N,O,r,I,dom,E,o,z,D,k,g⟩:=(f.Qa hf).mem.space f.Qs f.half q;have d:=f.laid.spot (i:=i) k (by omega) p (by omega);rw [E];refine (zu o D (φ x) i _ _ _ (A.Qk x i) d.a1 d.a2 d.i1 d.d1 d.hd (uI d.hd.2 l t) d.d2 (f.laid.val x p i l (by omega)).1).mono ?_;rintro e w' ⟨rfl,hp⟩;exact ⟨rfl,lw f H g f.laid hf hp,hp.fr.size⟩
theorem ti(I:eX b c A rs u n T w)(M:rs[s]? =some x)(y:x≠0)(r:A.np x<=i)(t:i<A.np x+A.nf x)(N:v<18446744073709551616):Calls prog 22 #[b,(s:Int),(i:Int),.float .f64 v] w fun e w'=>e= .returned (0:Int)/\bh b c (A.put x i v) rs T w w':=by
 obtain ⟨R,z,D,E,F,_⟩:=so I M y;obtain ⟨W1,l⟩:∃W1,w.alloc (.cells #[(s:Int)] 3)=W1:=⟨_,rfl⟩;have d:GM w W1:=by rw [<-l];exact (GQ _ w).alloc _
 have q:aJ W1 w.heap.size [(s:Int)] 3:=by rw [<-l];exact aJ.new w _ _
 have o:=ae (D W1 d w.heap.size 1 (q.cell 0 rfl));have a:=ae (fun w1 (hf:GM W1 w1)=>E w1.drew ((d.trans hf GN).drew));have p:=ae (fun w1 (hf:GM W1 w1)=>F w1.drew i v ((d.trans hf GN).drew) r t N);have m:=ae (fun w' (h:kV b c (A.put x i v) rs T w w')=>h.end_);clear D E F I d q M r t N y;generalize (bh b c (A.put x i v) rs T w)=Q at*;generalize (kV b c (A.put x i v) rs T w)=J at*
 go_enter func22,ntmps22
 go_wp2_with fail
 refine o.out.mono ?_;rintro e w1 ⟨g,cap,rfl,G,hf⟩;have C:=G 0 z rfl;have O:w1.drew.cell? g=some (z:Int):=C;have j:=ae (a.out w1 hf);have k:=ae (p.out w1 hf);clear o a p G hf C l;rw [show [z].length=1 from rfl];go_wp2;have a:=j;clear j;refine bR (fun w'=>w'=w1.drew) 7 rfl ?_;simp only [ai,an,aj,ao];refine aA b rfl (fun w' B=>by go_simp) ?_;simp only [aa];refine bT (R) 62 #[b] rfl (fun w'=>by go_simp) (fun w' B=>by subst B;exact a.out.mono (fun e w' h=>⟨h.1,h.2.symm⟩)) ?_;simp only [aa];refine aV [.slice (some g) 1 cap,g] ?_
 iterate 2 (refine aW rfl (fun S P=>by go_simp) ?_;simp only [aa])
 refine aU ?_;refine aA (z:Int) rfl (fun w' B=>by subst B;go_simp) ?_;simp only [aa];refine aV [(i:Int),.float .f64 v] ?_
 iterate 2 (refine aW rfl (fun S P=>by go_simp) ?_;simp only [aa])
 refine aU ?_;refine wpQuiet_nil ?_;rintro w2 rfl;go_wp2_with fail
 refine k.out.mono ?_;rintro e w3 ⟨rfl,K⟩;have f:=ae (m.out w3 K);clear k K m a O;go_wp2_with fail
 refine f.out.mono ?_;rintro e w4 ⟨rfl,L⟩;have H:=ae L;clear f L;go_wp2;go_ret;exact ⟨rfl,H.out⟩
theorem nK(U:eX b c A rs u n T w)(W:rs[s]? =some x)(K:x≠0)(G:A.np x<=i)(I:i<A.np x+A.nf x):Calls prog 45 #[b,(s:Int),(i:Int)] w fun e w'=>e= .returned (.tuple #[.float .f64 (A.Qk x i),(0:Int)])/\bh b c A rs T w w':=by
 obtain ⟨Z,D,p,q,_,P⟩:=so U W K;obtain ⟨W1,r⟩:∃W1,w.alloc (.cells #[(s:Int)] 3)=W1:=⟨_,rfl⟩;have k:GM w W1:=by rw [<-r];exact (GQ _ w).alloc _
 have E:aJ W1 w.heap.size [(s:Int)] 3:=by rw [<-r];exact aJ.new w _ _
 have B:=ae (p W1 k w.heap.size 1 (E.cell 0 rfl));have d:=ae (fun w1 (hf:GM W1 w1)=>q w1.drew ((k.trans hf GN).drew));have C:=ae (fun w1 (hf:GM W1 w1)=>P w1.drew i ((k.trans hf GN).drew) G I);have z:=ae (fun w' (h:kV b c A rs T w w')=>h.end_);clear p q P U k E W G I K;generalize (bh b c A rs T w)=Q at*;generalize (kV b c A rs T w)=J at*;generalize A.Qk x i=y at*
 go_enter func45,ntmps45
 go_wp2_with fail
 refine B.out.mono ?_;rintro e w1 ⟨g,cap,rfl,S,hf⟩;have N:=S 0 D rfl;have d0:w1.drew.cell? g=some (D:Int):=N;have m:=ae (d.out w1 hf);have o:=ae (C.out w1 hf);clear B d C S hf N r;rw [show [D].length=1 from rfl];go_wp2;have d:=m;clear m;refine dw 12 6 (fun a M=>a.heap.size<=M.heap.size) (fun a M=>M=a) [.c b,.c Z,.c (.slice (some g) 1 cap),.c g,.c (D:Int),.c (i:Int),.w (.tuple #[.float .f64 y,(0:Int)]) (J),.c (.tuple #[.float .f64 y,(0:Int)]),.c (.float .f64 y),.c (0:Int),.c (.float .f64 y),.c (0:Int)] (fun j=>false) (fun _=>rfl) (fun _ _ h=>by subst h;exact ak _) (fun _ _ _ p q=>q.trans p) (fun _ _ _ p q=>by subst q;exact p) (fun _ _ _ p q=>by subst p;exact q) (fun _ _ h=>h) ⟨fun w1 w2 h hr=>by subst hr;exact h,trivial⟩ ⟨.inl rfl,trivial⟩ ?_;intro F R;simp only [fp,PK.val,ai,an,aa] at R;subst R;refine ⟨by
  refine ⟨?_,?_,?_,?_,?_,?_,?_,?_,?_,?_,?_,?_,trivial⟩<;>intro vs w1 X t hd Y
  all_goals try (apply oV;rotate_left;rfl;exact rfl;go_simp;done)
  all_goals try (apply oV;rotate_left;rfl;exact rfl;have f:=t (by kernel_rfl);subst f;go_simp;done)
  ·have f:=t (by kernel_rfl);subst f;refine bm 62 #[b] (by go_simp) (d.out.mono ?_);rintro e w5 ⟨rfl,rfl⟩;exact ⟨_,rfl,rfl,rfl,fun h=>nomatch h⟩
  ·have f:=t (by kernel_rfl);subst f;refine bm 108 #[Z,(D:Int),(i:Int)] (by go_simp) (o.out.mono ?_);rintro e w5 ⟨rfl,L,hz⟩;exact ⟨_,rfl,⟨rfl,L⟩,hz,fun h=>nomatch h⟩
  ,fun vs w3 X hp Y=> ?_⟩
 obtain ⟨O,_⟩:=hp;have L:=O;have l:=ae (z.out w3 L);clear O Y X L o z d d0;simp only [aj,ao];go_wp2_with fail
 refine l.out.mono ?_;rintro e w4 ⟨rfl,V⟩;have H:=ae V;clear l V;go_wp2;go_ret2;exact ⟨rfl,H.out⟩
end
section
variable{b u n s x v i:Nat}{c:Cf}{A A':AG}{rs:List Nat}{T:Nat->Prop}{w w1 w' w'':World}
theorem uG{p f g i:Nat}(a:eO p f g)(d:p+f<=i)(e:i<p+f+g):fg p f g i=3:=by
 unfold fg gg;rw [aG a,aE (by omega),aE (by omega),aE (by omega)]
theorem sj(U:eX b c A rs u n T w)(J:rs[s]? =some x)(F:x≠0):∃G,∃B:Nat,(∀w1,GM w w1->∀xb C:Nat,w1.cell? xb=some (s:Int)->Calls prog 60 #[b,.slice (some xb) 1 C] w1 (Aw [B] w1))/\
  (∀w1,GM w w1->Calls prog 62 #[b] w1 fun e w'=>e= .returned G/\w1=w')/\
  (∀w1 i v,GM w w1->A.np x+A.nf x<=i->i<A.np x+A.nf x+A.ng x->v<18446744073709551616->Calls prog 85 #[G,(B:Int),(((i:Nat):Int):Int),.int .u64 ((v:Nat):Int)] w1 fun e w'=>e= .returned (0:Int)/\kV b c (A.put x i v) rs T w w')/\
  (∀w1 i,GM w w1->A.np x+A.nf x<=i->i<A.np x+A.nf x+A.ng x->Calls prog 86 #[G,(B:Int),(((i:Nat):Int):Int)] w1 fun e w'=>e= .returned (.tuple #[.int .u64 ((A.Qk x i:Nat):Int),(0:Int)])/\kV b c A rs T w w'/\w1.heap.size<=w'.heap.size):=by
 obtain ⟨h,φ,L,Ba,ub,M,Z,Y,S,rfl,f,H,R⟩:=U;have V:=f.half.top;obtain ⟨Q,_⟩:=f.Qs.W5;have p:=f.fits;have o:Reach A.gr rs x:= .root (aD J) F;refine ⟨C3 h.m M,φ x,fun w1 hf xb C P=> ?_,fun w1 hf=>iE (f.Qa hf).Qd,fun w1 i v hf q t K=> ?_,fun w1 i hf q t=> ?_⟩
 ·refine lz (f.Qa hf).Qd (f.Qa hf).roots xb C [φ x] (fun j a y=> ?_) (by simp) (by simp)
  match j,y with
  |0,y=>
   obtain rfl:φ x=a:=bf y;exact ⟨s,P,by rw [aR,J];rfl⟩
  |j+1,y=>exact absurd y (by simp)
 ·obtain ⟨W,X,N,O,r,I,dom,E,l,z,D,k,g⟩:=(f.Qa hf).mem.space f.Qs f.half p;have d:=f.laid.spot (i:=i) k (by omega) o (by omega);rw [E];refine (un l z D (φ x) i _ _ _ v d.a1 d.a2 d.i1 d.d1 d.hd (uG d.hd.2 q t) d.d2 K).mono ?_;rintro e w' ⟨rfl,hp⟩;exact ⟨rfl,lw f H g (f.laid.Zb o (by omega) (by omega) K) hf hp⟩
 ·obtain ⟨W,X,N,O,r,I,dom,E,l,z,D,k,g⟩:=(f.Qa hf).mem.space f.Qs f.half p;have d:=f.laid.spot (i:=i) k (by omega) o (by omega);rw [E];refine (Bs l D (φ x) i _ _ _ (A.Qk x i) d.a1 d.a2 d.i1 d.d1 d.hd (uG d.hd.2 q t) d.d2 (f.laid.val x o i (by omega) (by omega)).1).mono ?_;rintro e w' ⟨rfl,hp⟩;exact ⟨rfl,lw f H g f.laid hf hp,hp.fr.size⟩
theorem DK(I:eX b c A rs u n T w)(M:rs[s]? =some x)(y:x≠0)(r:A.np x+A.nf x<=i)(t:i<A.np x+A.nf x+A.ng x)(N:v<18446744073709551616):Calls prog 25 #[b,(s:Int),(i:Int),.int .u64 v] w fun e w'=>e= .returned (0:Int)/\bh b c (A.put x i v) rs T w w':=by
 obtain ⟨R,z,D,E,F,_⟩:=sj I M y;obtain ⟨W1,l⟩:∃W1,w.alloc (.cells #[(s:Int)] 3)=W1:=⟨_,rfl⟩;have d:GM w W1:=by rw [<-l];exact (GQ _ w).alloc _
 have q:aJ W1 w.heap.size [(s:Int)] 3:=by rw [<-l];exact aJ.new w _ _
 have o:=ae (D W1 d w.heap.size 1 (q.cell 0 rfl));have a:=ae (fun w1 (hf:GM W1 w1)=>E w1.drew ((d.trans hf GN).drew));have p:=ae (fun w1 (hf:GM W1 w1)=>F w1.drew i v ((d.trans hf GN).drew) r t N);have m:=ae (fun w' (h:kV b c (A.put x i v) rs T w w')=>h.end_);clear D E F I d q M r t N y;generalize (bh b c (A.put x i v) rs T w)=Q at*;generalize (kV b c (A.put x i v) rs T w)=J at*
 go_enter func25,ntmps25
 go_wp2_with fail
 refine o.out.mono ?_;rintro e w1 ⟨g,cap,rfl,G,hf⟩;have C:=G 0 z rfl;have O:w1.drew.cell? g=some (z:Int):=C;have j:=ae (a.out w1 hf);have k:=ae (p.out w1 hf);clear o a p G hf C l;rw [show [z].length=1 from rfl];go_wp2;have a:=j;clear j;refine bR (fun w'=>w'=w1.drew) 7 rfl ?_;simp only [ai,an,aj,ao];refine aA b rfl (fun w' B=>by go_simp) ?_;simp only [aa];refine bT (R) 62 #[b] rfl (fun w'=>by go_simp) (fun w' B=>by subst B;exact a.out.mono (fun e w' h=>⟨h.1,h.2.symm⟩)) ?_;simp only [aa];refine aV [.slice (some g) 1 cap,g] ?_
 iterate 2 (refine aW rfl (fun S P=>by go_simp) ?_;simp only [aa])
 refine aU ?_;refine aA (z:Int) rfl (fun w' B=>by subst B;go_simp) ?_;simp only [aa];refine aV [(i:Int),.int .u64 v] ?_
 iterate 2 (refine aW rfl (fun S P=>by go_simp) ?_;simp only [aa])
 refine aU ?_;refine wpQuiet_nil ?_;rintro w2 rfl;go_wp2_with fail
 refine k.out.mono ?_;rintro e w3 ⟨rfl,K⟩;have f:=ae (m.out w3 K);clear k K m a O;go_wp2_with fail
 refine f.out.mono ?_;rintro e w4 ⟨rfl,L⟩;have H:=ae L;clear f L;go_wp2;go_ret;exact ⟨rfl,H.out⟩
theorem xZ(U:eX b c A rs u n T w)(W:rs[s]? =some x)(K:x≠0)(G:A.np x+A.nf x<=i)(I:i<A.np x+A.nf x+A.ng x):Calls prog 26 #[b,(s:Int),(i:Int)] w fun e w'=>e= .returned (.tuple #[.int .u64 ((A.Qk x i:Nat):Int),(0:Int)])/\bh b c A rs T w w':=by
 obtain ⟨Z,D,p,q,_,P⟩:=sj U W K;obtain ⟨W1,r⟩:∃W1,w.alloc (.cells #[(s:Int)] 3)=W1:=⟨_,rfl⟩;have k:GM w W1:=by rw [<-r];exact (GQ _ w).alloc _
 have E:aJ W1 w.heap.size [(s:Int)] 3:=by rw [<-r];exact aJ.new w _ _
 have B:=ae (p W1 k w.heap.size 1 (E.cell 0 rfl));have d:=ae (fun w1 (hf:GM W1 w1)=>q w1.drew ((k.trans hf GN).drew));have C:=ae (fun w1 (hf:GM W1 w1)=>P w1.drew i ((k.trans hf GN).drew) G I);have z:=ae (fun w' (h:kV b c A rs T w w')=>h.end_);clear p q P U k E W G I K;generalize (bh b c A rs T w)=Q at*;generalize (kV b c A rs T w)=J at*;generalize A.Qk x i=y at*
 go_enter func26,ntmps26
 go_wp2_with fail
 refine B.out.mono ?_;rintro e w1 ⟨g,cap,rfl,S,hf⟩;have N:=S 0 D rfl;have d0:w1.drew.cell? g=some (D:Int):=N;have m:=ae (d.out w1 hf);have o:=ae (C.out w1 hf);clear B d C S hf N r;rw [show [D].length=1 from rfl];go_wp2;have d:=m;clear m;refine dw 12 6 (fun a M=>a.heap.size<=M.heap.size) (fun a M=>M=a) [.c b,.c Z,.c (.slice (some g) 1 cap),.c g,.c (D:Int),.c (i:Int),.w (.tuple #[.int .u64 y,(0:Int)]) (J),.c (.tuple #[.int .u64 y,(0:Int)]),.c (.int .u64 y),.c (0:Int),.c (.int .u64 y),.c (0:Int)] (fun j=>false) (fun _=>rfl) (fun _ _ h=>by subst h;exact ak _) (fun _ _ _ p q=>q.trans p) (fun _ _ _ p q=>by subst q;exact p) (fun _ _ _ p q=>by subst p;exact q) (fun _ _ h=>h) ⟨fun w1 w2 h hr=>by subst hr;exact h,trivial⟩ ⟨.inl rfl,trivial⟩ ?_;intro F R;simp only [fp,PK.val,ai,an,aa] at R;subst R;refine ⟨by
  refine ⟨?_,?_,?_,?_,?_,?_,?_,?_,?_,?_,?_,?_,trivial⟩<;>intro vs w1 X t hd Y
  all_goals try (apply oV;rotate_left;rfl;exact rfl;go_simp;done)
  all_goals try (apply oV;rotate_left;rfl;exact rfl;have f:=t (by kernel_rfl);subst f;go_simp;done)
  ·have f:=t (by kernel_rfl);subst f;refine bm 62 #[b] (by go_simp) (d.out.mono ?_);rintro e w5 ⟨rfl,rfl⟩;exact ⟨_,rfl,rfl,rfl,fun h=>nomatch h⟩
  ·have f:=t (by kernel_rfl);subst f;refine bm 86 #[Z,(D:Int),(i:Int)] (by go_simp) (o.out.mono ?_);rintro e w5 ⟨rfl,L,hz⟩;exact ⟨_,rfl,⟨rfl,L⟩,hz,fun h=>nomatch h⟩
  ,fun vs w3 X hp Y=> ?_⟩
 obtain ⟨O,_⟩:=hp;have L:=O;have l:=ae (z.out w3 L);clear O Y X L o z d d0;simp only [aj,ao];go_wp2_with fail
 refine l.out.mono ?_;rintro e w4 ⟨rfl,V⟩;have H:=ae V;clear l V;go_wp2;go_ret2;exact ⟨rfl,H.out⟩
end
def Eh(b:Nat)(c:Cf)(A':AG)(rs':List Nat)(T:Nat->Prop)(z:Nat)(w w':World):Prop:=∃u n T',eX b c A' rs' u n T' w'/\Fr T w w'/\∀k,T' k->T k\/z<=k
def kU(h:Hp)(c:Cf)(A:AG)(rs:List Nat)(φ:Nat->Nat)(Ba u ub:Nat)(T:Nat->Prop)(z:Nat)(w:World)(d:Bool)(w':World):Prop:=∃L cy n ns bs S,kP (fun _=>True) h c A rs φ L Ba u ub cy n ns bs S w'/\(∀k,S k->T k\/z<=k)/\Fr T w w'/\(d=true->n=0->cy=none)
section
variable{b u n s x t v i Ba ub zz:Nat}{h:Hp}{c:Cf}{A A':AG}{rs:List Nat}{φ:Nat->Nat}{T:Nat->Prop}{d:Bool}{w w1 w' w'':World}
theorem kU.end_(g:kU h c A rs φ Ba u ub T zz w d w1)(q:T h.b):Calls prog 63 #[h.b] w1 fun e w'=>e= .returned (.tuple #[])/\kU h c A rs φ Ba u ub T zz w true w'/\Fr (fun k=>k=h.b) w1 w':=by
 obtain ⟨L,C,n,D,B,S,r,y,z,_⟩:=g;refine (yc r).mono ?_;rintro e w' ⟨rfl,L',f,l,a,S',g1,o,m,p⟩;exact ⟨rfl,⟨L',f,n,l,a,S',g1,fun k j=>y k (p k j),z.trans m (fun k j=> .inl (by rw [j];exact q)),fun _=>o⟩,m⟩
theorem kU.Xm(g:kU h c A rs φ Ba u ub T zz w true w1)(j:∀k,kT h ub (fun _=>False) k->T k):Eh h.b c A rs T zz w w1:=by
 obtain ⟨L,f,n,l,e,S,m,o,p,q⟩:=g;exact ⟨u,n,kT h ub S,⟨h,φ,L,Ba,ub,f,l,e,S,rfl,m,fun _=>dX,q rfl⟩,p,fun k a=>a.elim (o k) (fun a=> .inl (j k (.inr a)))⟩
theorem kU.slot(g:kU h c A rs φ Ba u ub T w.heap.size w true w1)(f:∀k,kT h ub (fun _=>False) k->T k)(q:s<c.Sl){z:Nat}(r:z=0\/Reach A.gr rs z):∃l,w1.cell? ⟨h.b,9,none⟩=some (.pointer (some ⟨l,0,none⟩))/\Calls prog 56 #[.pointer (some ⟨l,0,none⟩),(s:Int),((φ z:Int):Int)] w1 fun e w'=>e= .returned (0:Int)/\bh h.b c A (rs.set s z) T w w':=by
 obtain ⟨L,o,n,y,m,S,a,B,C,D⟩:=g;refine ⟨h.rb,aJ.cell a.Qd 9 rfl,(qj a.roots s (φ z) (by rw [bL,a.Sl];exact q)).mono ?_⟩;rintro e w' ⟨rfl,E,j⟩;exact ⟨rfl,kU.Xm ⟨L,o,n,y,m,S,a.slot r E j,B,C.trans j (fun k p=> .inl (f k (.inr (.inr (.inr (.inl p)))))),D⟩ f⟩
theorem uL{h:Hp}{L:Nat->Nat}{e:Option Nat}{q g:Int}{S:Nat->Prop}(p:kP (fun _=>True) h c A rs φ L Ba u ub e n q g S w)(o:∀k,T k↔kT h ub S k){I:jF}(a:∀L' S' w',I L' S' w'->∃n',vB c h.m Ba (Ba+u) (fun _=>True) L' S' w' e n')(hf:GM w w1)(hp:iY I L S w1 w'):kU h c A rs φ Ba u ub T w.heap.size w false w':=by
 obtain ⟨S',g1,j,l⟩:=hp;obtain ⟨n',r⟩:=a _ _ _ g1;have y:=hf.size;exact ⟨L,e,n',q,g,S',(p.Qa hf).Yu j l r p.laid,fun k f=>(l k f).elim (fun h=> .inl ((o k).2 (.inl h))) (fun h=> .inr (by omega)),(hf.mono GN).trans j (fun k f=> .inl ((o k).2 (.inl f))),fun h=>nomatch h⟩
theorem ww(hi:eX b c A rs u n T w)(U:s<c.Sl)(V:rs[t]? =some x)(O:x≠0)(y:i<A.np x):∃X,∃Y P p:Nat,∃J K:World->Prop,(∀w1,GM w w1->∀xb G:Nat,w1.cell? xb=some (s:Int)->w1.cell? ⟨xb,1,none⟩=some (t:Int)->Calls prog 60 #[b,.slice (some xb) 2 G] w1 (Aw [Y,P] w1))/\
  (∀w1,GM w w1->Calls prog 62 #[b] w1 fun e w'=>e= .returned X/\w1=w')/\
  (∀w1,GM w w1->Calls prog 87 #[X,(P:Int),(i:Int)] w1 fun e w'=>e= .returned (.tuple #[(p:Int),(0:Int)])/\J w'/\w1.heap.size<=w'.heap.size)/\
  (∀w1,J w1->Calls prog 63 #[b] w1 fun e w'=>e= .returned (.tuple #[])/\K w')/\
  ∀w1,K w1->∃W,w1.cell? ⟨b,9,none⟩=some (.pointer (some ⟨W,0,none⟩))/\Calls prog 56 #[.pointer (some ⟨W,0,none⟩),(s:Int),(p:Int)] w1 fun e w'=>e= .returned (0:Int)/\bh b c A (rs.set s (A.Qk x i)) T w w':=by
 obtain ⟨h,φ,L,Ba,ub,Z,ns,bs,S,rfl,g,R,af⟩:=hi;have ai:=g.half.top;obtain ⟨ad,_⟩:=g.Qs.W5;have D:=g.fits;have z:Reach A.gr rs x:= .root (aD V) O;have o:A.Qk x i=0\/Reach A.gr rs (A.Qk x i):=by
  by_cases F:A.Qk x i=0
  ·exact .inl F
  ·exact .inr (AG.Ql z y F)
 have B:∀k,kT h ub (fun _=>False) k->T k:=fun k H=>(R k).2 (H.elim (fun h=>h.elim) .inr)
 have M:s<rs.length:=by rw [g.Sl];exact U
 refine ⟨C3 h.m Z,φ rs[s],φ x,φ (A.Qk x i),kU h c A rs φ Ba u ub T w.heap.size w false,kU h c A rs φ Ba u ub T w.heap.size w true,fun w1 hf xb G Q h2=> ?_,fun w1 hf=>iE (g.Qa hf).Qd,fun w1 hf=> ?_,fun w1 l=>(l.end_ (B _ (.inr (.inl rfl)))).mono (fun e w' h=>⟨h.1,h.2.1⟩),fun w1 H=>H.slot B U o⟩
 ·refine lz (g.Qa hf).Qd (g.Qa hf).roots xb G [φ rs[s],φ x] (fun j a l=> ?_) (by simp) (by simp)
  match j,l with
  |0,l=>
   obtain rfl:φ rs[s]=a:=bf l;exact ⟨s,Q,by rw [aR,aK M];rfl⟩
  |1,l=>
   obtain rfl:φ x=a:=bf l;exact ⟨t,h2,by rw [aR,V];rfl⟩
  |j+2,l=>exact absurd l (by simp)
 ·obtain ⟨ty,vv,fl,fs,r,I,dom,he,E,ah,hI,C,q⟩:=(g.Qa hf).mem.space g.Qs g.half D;have f:=g.laid.spot (i:=i) C (by omega) z (by omega);have N:φ (A.Qk x i)<2147483648:=by
   rcases o with F|o
   ·rw [F,g.laid.zero];omega
   ·have:=g.laid.Qn _ o;have Q:1<=A.sz (A.Qk x i):=by unfold AG.sz;omega
    omega
  rw [he];refine (lp E hI (φ x) i _ _ _ (φ (A.Qk x i)) f.a1 f.a2 f.i1 f.d1 f.hd (uH f.hd.2 y) f.d2 (g.laid.ptr x z i y) N).mono ?_;rintro e w' ⟨rfl,hp⟩;exact ⟨rfl,uL g R q hf hp,hp.fr.size⟩
theorem B8(hi:eX b c A rs u n T w)(hs:s<c.Sl)(ht:rs[t]? =some x)(O:x≠0)(M:i<A.np x):Calls prog 27 #[b,(s:Int),(t:Int),(i:Int)] w fun e w'=>e= .returned (0:Int)/\bh b c A (rs.set s (A.Qk x i)) T w w':=by
 obtain ⟨sv,a0,L,p,J,K,r,y,V,W,X⟩:=ww hi hs ht O M;obtain ⟨W1,z⟩:∃W1,w.alloc (.cells #[(s:Int),(t:Int)] 3)=W1:=⟨_,rfl⟩;have l:GM w W1:=by rw [<-z];exact (GQ _ w).alloc _
 have B:aJ W1 w.heap.size [(s:Int),(t:Int)] 3:=by rw [<-z];exact aJ.new w _ _
 have E:=ae (r W1 l w.heap.size 2 (B.cell 0 rfl) (B.cell 1 rfl));have f:=ae (fun w1 (hf:GM W1 w1)=>y w1.drew ((l.trans hf GN).drew));have I:=ae (fun w1 (hf:GM W1 w1)=>V w1.drew ((l.trans hf GN).drew));have D:=ae W;have G:=ae X;clear r y V W X hi l B hs O ht M;generalize (bh b c A (rs.set s (A.Qk x i)) T w)=Q at*
 go_enter func27,ntmps27
 go_wp2_with fail
 refine E.out.mono ?_;rintro e w1 ⟨g,cap,rfl,Z,hf⟩;have U:=Z 1 L rfl;have d0:w1.drew.cell? ⟨g,1,none⟩=some (L:Int):=U;have o:=ae (f.out w1 hf);have q:=ae (I.out w1 hf);clear E f I Z hf U z;rw [show [a0,L].length=2 from rfl];go_wp2;have f:=o;clear o;refine dw 12 6 (fun a R=>a.heap.size<=R.heap.size) (fun a R=>R=a) [.c b,.c sv,.c (.slice (some g) 2 cap),.c (.pointer (some ⟨g,1,none⟩)),.c (L:Int),.c (i:Int),.w (.tuple #[(p:Int),(0:Int)]) (J),.c (.tuple #[(p:Int),(0:Int)]),.c (p:Int),.c (0:Int),.c (p:Int),.c (0:Int)] (fun j=>false) (fun _=>rfl) (fun _ _ h=>by subst h;exact ak _) (fun _ _ _ r y=>y.trans r) (fun _ _ _ r y=>by subst y;exact r) (fun _ _ _ r y=>by subst r;exact y) (fun _ _ h=>h) ⟨fun w1 w2 h hr=>by subst hr;exact h,trivial⟩ ⟨.inl rfl,trivial⟩ ?_;intro F Y;simp only [fp,PK.val,ai,an,aa] at Y;subst Y;refine ⟨by
  refine ⟨?_,?_,?_,?_,?_,?_,?_,?_,?_,?_,?_,?_,trivial⟩<;>intro vs w1 hw C hd hx
  all_goals try (apply oV;rotate_left;rfl;exact rfl;go_simp;done)
  all_goals try (apply oV;rotate_left;rfl;exact rfl;have k:=C (by kernel_rfl);subst k;go_simp;done)
  ·have k:=C (by kernel_rfl);subst k;refine bm 62 #[b] (by go_simp) (f.out.mono ?_);rintro e w5 ⟨rfl,rfl⟩;exact ⟨_,rfl,rfl,rfl,fun h=>nomatch h⟩
  ·have k:=C (by kernel_rfl);subst k;refine bm 87 #[sv,(L:Int),(i:Int)] (by go_simp) (q.out.mono ?_);rintro e w5 ⟨rfl,P,hz⟩;exact ⟨_,rfl,⟨rfl,P⟩,hz,fun h=>nomatch h⟩
  ,fun vs w3 hw hp hx=> ?_⟩
 obtain ⟨P,_⟩:=hp;have m:=ae (D.out w3 P);clear hx hw P q D f d0;simp only [aj,ao];go_wp2_with fail
 refine m.out.mono ?_;rintro e w4 ⟨rfl,hk⟩;obtain ⟨rb,k9,N⟩:=G.out w4 hk;have S:=ae N;clear m G hk N;go_wp2_with fail
 refine S.out.mono ?_;rintro e w5 ⟨rfl,hq⟩;have H:=ae hq;clear S hq k9;go_wp2;go_ret;exact ⟨rfl,H.out⟩
end
section
variable{h:Hp}{n n' u Ba ub:Nat}{c:Cf}{cy:Option Nat}{ns bs:Int}{L:Nat->Nat}{S S0 T:Nat->Prop}{w w':World}
def Fk(h:Hp)(c:Cf)(Ba u ub:Nat)(cy:Option Nat)(n:Nat)(ns bs:Int)(S0:Nat->Prop):jF:=fun L S w=>my w h.b c h.m h.rb ub cy ns bs/\et w/\iz c/\c.half Ba/\u<=c.Wd/\vB c h.m Ba (Ba+u) (fun _=>True) L S0 w cy n/\∀k,S k↔S0 k\/k=h.b
theorem Fk.stays(m:Fk h c Ba u ub cy n ns bs S0 L S w)(hf:Fr T w w')(b:∀k,S k->¬T k)(d:¬T cO):Fk h c Ba u ub cy n ns bs S0 L S w':=by
 obtain ⟨e,f,g,i,j,l,a⟩:=m;exact ⟨aJ.frame e hf (b _ ((a _).2 (.inr rfl))),aS f hf d,g,i,j,l.stays hf (fun k o=>b k ((a k).2 (.inl o))) d,a⟩
theorem BT(v:Fk h c Ba u ub cy n ns bs S0 L S w)(a:Nat)(t:Ba<=a)(o:a<Ba+u):Calls prog 318 #[.agg #[h.b],(a:Int)] w fun e w'=>e= .returned (.tuple #[.int .u64 ((L a:Nat):Int),(0:Int)])/\GM w w':=by
 obtain ⟨W1,j⟩:∃W1,w.alloc (.cells #[h.b] 140)=W1:=⟨_,rfl⟩;have f:GM w W1:=by rw [<-j];exact (GQ _ w).alloc _
 have g:aJ W1 w.heap.size [h.b] 140:=by rw [<-j];exact aJ.new w _ _
 obtain ⟨q,D,z,r,E,F,G⟩:=v.stays f (fun _ _ h=>h) id;have U:=g.cell 0 rfl;have l:=aJ.cell q 11 rfl;have V:=aJ.cell q 8 rfl;have m:=ae f
 cases cy with
 |none=>
  rw [show lE none= .pointer none from rfl] at l;obtain ⟨x,Us,Hg,mp,⟨M,C,i⟩,k⟩:=F;have p:=qF k (r.mod z) (by have:=r.top;omega:Ba+u<=c.W) a t o;have B:=i a p;have d:=ae (jt C a p.1 p.2);rw [B] at d;generalize L a=X at*;clear v q D z r E G f g C k p t o x B i
  go_enter func318,ntmps318
  go_wp2_with fail
  refine d.out.mono ?_;rintro e w2 ⟨rfl,hp⟩;have H:=ae (m.out.trans hp GN);clear d hp m;go_wp2;go_ret2;exact ⟨rfl,H.out⟩
 |some y=>
  rw [show lE (some y)= .pointer (some ⟨y,0,none⟩) from rfl] at l;obtain ⟨K,I,Y,J,hg,Q,fr,R,g1,⟨Us,_,A⟩,rfl,N,O,P⟩:=F;have d:=ae (AW g1 A.s a (by omega) o);generalize L a=X at*;generalize I.y=y at*;clear v q D z r E G f g t o K g1 A N O P
  go_enter func318,ntmps318
  go_wp2_with fail
  refine d.out.mono ?_;rintro e w2 ⟨rfl,hp⟩;have H:=ae (m.out.trans hp GN);clear d hp m;go_wp2;go_ret2;exact ⟨rfl,H.out⟩
theorem BP(h:Hp)(c:Cf)(Ba u ub:Nat)(cy:Option Nat)(n:Nat)(ns bs:Int)(S0:Nat->Prop):dy 140 (.agg #[h.b]) 318 (.agg #[h.b]) (Fk h c Ba u ub cy n ns bs S0) (fun a=>Ba<=a/\a<Ba+u) where
 Yd:=fun w=>by kernel_rfl
 Ye:=enters_of func318 (by kernel_rfl) rfl
 stays:=fun L S w1 w2 T d hf o p=>d.stays hf o p
 Xu:= .inr (fun L S w h=>cl (h.2.1 0 0 rfl))
 lt:=fun L S w ⟨d,_,_,_,_,j,l⟩ k m=>((l k).1 m).elim (j.lt k) (fun e=>by rw [e];exact aJ.lt d)
 load:=fun L S w a d g=>(BT d a g.1 g.2).mono (fun e w' ⟨i,f⟩=>⟨i,S,d.stays f (fun _ _ h=>h) id,f.mono GN,fun _ h=> .inl h⟩)
end
section
variable{h:Hp}{b n u Ba ub:Nat}{c:Cf}{A:AG}{rs l:List Nat}{φ L:Nat->Nat}{cy:Option Nat}{ns bs:Int}{S S0 T q:Nat->Prop}{w w':World}
theorem vB.memB(e:vB c h.m Ba (Ba+u) q L S w cy n):∃a Us Hg mp M,ed w h.m a c.Pg c.W c.Fs Us Hg mp M:=by
 cases cy with
 |none=>
  obtain ⟨z,Us,Hg,mp,⟨M,f,_⟩,_⟩:=e;exact ⟨S,Us,Hg,mp,M,f⟩
 |some y=>
  obtain ⟨B,v,s,g,hg,r,fr,t,C,⟨Us,_,i⟩,D,j,E,o,F,p,G,H⟩:=e;obtain ⟨Hg,a,mp,M,x,k,p1,_⟩:=i;have d:=p1.mem;rw [j,o,p] at d;exact ⟨a,Us,Hg,mp,M,d⟩
def F0(h:Hp)(c:Cf)(Ba u ub:Nat)(cy:Option Nat)(n:Nat)(ns bs:Int)(S0:Nat->Prop)(L:Nat->Nat)(EL:cF)(wx w3:World):Prop:=
 Fk h c Ba u ub cy n ns bs S0 L (fun k=>S0 k\/k=h.b) w3/\Fr (fun k=>(S0 k\/k=h.b)\/EL.has k) wx w3
def Gf(h:Hp)(c:Cf)(Ba u ub:Nat)(cy:Option Nat)(n:Nat)(ns bs:Int)(S0:Nat->Prop)(L:Nat->Nat)(EL:cF)(w2:World)(no nw:Int)(sb:Nat)(wx:World):Prop:=
 (∃nr nv:Int,aJ wx sb [(no:Int),(nw:Int),(nr:Int),(nv:Int)] 136)/\F0 h c Ba u ub cy n ns bs S0 L EL w2 wx
theorem DG{EL:cF}{w2 f w4:World}{no nw a d:Int}(e:F0 h c Ba u ub cy n ns bs S0 L EL f w4)(g:GM w2 f):Gf h c Ba u ub cy n ns bs S0 L EL w2 no nw w4.heap.size (w4.alloc (.cells #[(no:Int),(nw:Int),(a:Int),(d:Int)] 136)):=by
 have hf:GM w4 (w4.alloc (.cells #[(no:Int),(nw:Int),(a:Int),(d:Int)] 136)):=(GQ _ w4).alloc _;exact ⟨⟨a,d,aJ.new w4 _ _⟩,e.1.stays hf (fun _ _ h=>h) id,((g.mono GN).trans e.2 (fun k h=> .inl h)).trans hf GN⟩
theorem xT{EL:cF}{w2 j w4:World}{no nw f g:Int}{sb:Nat}(a:F0 h c Ba u ub cy n ns bs S0 L EL j w4)(p:GM w2 j)(d:∀k,(S0 k\/k=h.b)->k<w2.heap.size)(o:cO<w2.heap.size)(r:w2.heap.size<=sb)(m:aJ w4 sb [(0:Int),(0:Int),(0:Int),(0:Int)] 136):
  Gf h c Ba u ub cy n ns bs S0 L EL w2 no nw sb ((((w4.setCell sb (.int .i64 no)).setCell ⟨sb,1,none⟩ (.int .i64 nw)).setCell ⟨sb,2,none⟩ (.int .i64 f)).setCell ⟨sb,3,none⟩ (.int .i64 g)):=by
 have hf:Fr (fun k=>k=sb) w4 ((((w4.setCell sb (.int .i64 no)).setCell ⟨sb,1,none⟩ (.int .i64 nw)).setCell ⟨sb,2,none⟩ (.int .i64 f)).setCell ⟨sb,3,none⟩ (.int .i64 g)):=
  ((((GQ (fun k=>k=sb) w4).setCell sb (.inl rfl) _).setCell ⟨sb,1,none⟩ (.inl rfl) _).setCell ⟨sb,2,none⟩ (.inl rfl) _).setCell ⟨sb,3,none⟩ (.inl rfl) _
 exact ⟨⟨f,g,(((m.set 0 _).set 1 _).set 2 _).set 3 _⟩,a.1.stays hf (fun k a e=>by have:=d k a;have i:k=sb:=e;omega) (fun e=>by have i:cO=sb:=e;omega),((p.mono GN).trans a.2 (fun k h=> .inl h)).trans hf (fun k h=> .inr (by have i:k=sb:=h;omega))⟩
def Fj(b:Nat)(c:Cf)(A:AG)(rs l:List Nat)(u n:Nat)(T:Nat->Prop)(w:World)(e:Ending)(w':World):Prop:=
 e= .returned (.tuple #[((l.length:Int):Int),((A.Wd l:Int):Int)])/\eX b c A rs u n T w'/\Fr T w w'
theorem EZ{EL:cF}{w2 w6:World}{sb:Nat}{no nw:Int}(g:kP (fun _=>True) h c A rs φ L Ba u ub cy n ns bs S0 w)(r:∀k,T k↔kT h ub S0 k)(i:n=0->cy=none)(hf:GM w w2)(j:∀k,EL.has k->w.heap.size<=k)(F:Gf h c Ba u ub cy n ns bs S0 L EL w2 no nw sb w6):eX h.b c A rs u n T w6/\Fr T w w6:=by
 obtain ⟨_,⟨g1,B,C,P,Q,D,R⟩,m⟩:=F;have E:=g.lt;have f:Fr (fun k=>S0 k\/k=h.b) w w6:=(hf.mono GN).trans m (fun k a=>a.imp id (fun h=>j k h));obtain ⟨x,y,z,I,J,K,M,N,O⟩:=g.e;have o:∀k,(k=h.rb\/k=h.rg\/k=ub)->¬(S0 k\/k=h.b):=fun k a p=>by
  rcases p with p|rfl
  ·obtain ⟨G,s,t,v,H⟩:=g.d k p;rcases a with rfl|rfl|rfl
   ·exact s rfl
   ·exact t rfl
   ·exact v rfl
  ·rcases a with a|a|a
   ·exact x a
   ·exact y a
   ·exact z a
 exact ⟨⟨h,φ,L,Ba,ub,cy,ns,bs,S0,rfl,⟨C,g1,g.roots.frame f (o _ (.inl rfl)) (o _ (.inr (.inl rfl))),aJ.frame g.Yb f (o _ (.inr (.inr rfl))),B,g.laid,g.Sl,g.fits,g.half,D,g.d,g.e⟩,r,i⟩,f.mono (fun k a=> .inl ((r k).2 (a.elim .inl (fun h=> .inr (.inl h)))))⟩
end
section
variable{h:Hp}{b n u Ba ub:Nat}{c:Cf}{A:AG}{rs l:List Nat}{φ L:Nat->Nat}{cy:Option Nat}{ns bs:Int}{S S0 T q:Nat->Prop}{w w':World}
theorem EY{EL:cF}{w2:World}(f:kP (fun _=>True) h c A rs φ L Ba u ub cy n ns bs S0 w)(hl:dE A rs l)(hf:GM w w2)(I:eJ w2 EL c.W (fun _=>0))(K:∀k,EL.has k->w.heap.size<=k):
  ∀(j:World) (_:GM w2 j) (x H:Nat) (_:w2.heap.size<=x) (_:x<j.heap.size) (_:∀(i a:Nat),(rs.map φ)[i]? =some a->j.cell? ⟨x,i,none⟩=some (a:Int)),Calls prog 68 #[.iface 140 (.agg #[h.b]),.slice (some x) (rs.map φ).length H,EL.m,((c.stack:Int):Int)] j fun e w3=>
   ∃D E:Int,e= .returned (.tuple #[.agg #[((l.length:Int):Int),((A.Wd l:Int):Int),(D:Int),(E:Int)],(0:Int)])/\(∀q cs t,w2.heap.size<=q->aJ j q cs t->aJ w3 q cs t)/\F0 h c Ba u ub cy n ns bs S0 L EL j w3:=by
 intro j N x H r1 r2 r3;have C:=hf.trans N GN;have g:=f.Qa C;have hz:=hf.size;have af:cO<w.heap.size:=cl (f.Qp 0 0 rfl);have y:=I.lt;have s:∀k,(S0 k\/k=h.b)->k<w.heap.size:=fun k p=>f.lt k (p.elim .inl (fun e=> .inr (.inl e)))
 obtain ⟨e1,e2,e3,e4,e5,Q,e7,e8,e9⟩:=f.e;obtain ⟨G,r⟩:=f.laid.conc;have Z:=gH.sound f.laid r;have M:=f.half.top;have J:=f.fits;have ad:=f.Qs.W5;have hO:=gH.obj f.laid r (dom:=fun a=>Ba<=a/\a<Ba+u) (fun a v B=>⟨v,B⟩) (by omega);have hi:Fk h c Ba u ub cy n ns bs S0 L (fun k=>S0 k\/k=h.b) j:=⟨g.Qd,g.Qp,g.Qs,g.half,g.fits,g.mem,fun _=>dX⟩;refine (mU (w:=j) (Rm:=c.stack) (BP h c Ba u ub cy n ns bs S0) hi Z (show Ba+u<=c.W by omega) hO f.Qs.Yx f.Qs.Yy (I.frame N (fun _ _ h=>h)) g.Qp (fun k p=>⟨fun h=>by have:=s k p;have:=K k h;omega,fun e=>by
  subst e;rcases p with p|p
  ·exact (f.d _ p).2.2.2.2 rfl
  ·exact Q p.symm⟩) (fun h=>by have v:=K _ h;omega) x H ⟨r2,fun h=>by have:=s _ h;omega,fun h=>by have:=y _ h;omega⟩ r3 (by have v:=f.roots.small;rw [bL] at v ⊢;omega)).mono ?_
 rintro e w3 ⟨P,D,E,S',rfl,q1,q2,q3,F,q5,O⟩;have z:=gH.ext f.laid r q5 F.marked;have o:=dE.Qb f.laid z hl;have v:(P.no:Int)=(l.length:Int):=by rw [F.no,o.2]
 have B:(P.nw:Int)=(A.Wd l:Int):=by rw [F.nw,o.1]
 rw [v,B];refine ⟨D,E,rfl,fun q cs t hq hb=>hb.frame O (fun h=> ?_),?_,O⟩
 ·rcases h with h|h
  ·have:=s q h;omega
  ·have:=y q h;omega
 ·obtain ⟨g1,R,U,V,X,Y,g8⟩:=q1;exact ⟨g1,R,U,V,X,Y,fun _=>dX⟩
theorem B9(hi:eX b c A rs u n T w)(hl:dE A rs l):Calls prog 19 #[b] w (Fj b c A rs l u n T w):=by
 obtain ⟨h,φ,L,Ba,ub,cy,ns,bs,S0,rfl,j,hT,Y⟩:=hi;have HN:=ae (gy j.Qd);obtain ⟨Sm,Us,Hg,mp,M,Z⟩:=j.mem.memB;have V:=ae (gS Z);have ah:=j.Qs.W5;have al:=j.Qs.Qq;have U:=ae (nR c.W (by omega) (by omega) w);have K:=ae (fun w2 w' (hf:GM w w2) (v:GM w2 w')=>nz (j.Qa (hf.trans v GN)).roots);have R:=ae (fun EL w2 hf he hn=>EY (EL:=EL) (w2:=w2) j hl hf he hn);have HC:=ae (fun w' (hf:GM w w')=>(show w'.cell? ⟨h.b,9,none⟩=some (.pointer (some ⟨h.rb,0,none⟩))/\w'.cell? ⟨h.b,5,none⟩=some (.int .i64 (c.stack:Int)) from ⟨aJ.cell (j.Qa hf).Qd 9 rfl,aJ.cell (j.Qa hf).Qd 5 rfl⟩));have C:Hid (∀EL wx w3,F0 h c Ba u ub cy n ns bs S0 L EL wx w3->(w3.cell? ⟨h.b,9,none⟩=some (.pointer (some ⟨h.rb,0,none⟩))/\w3.cell? ⟨h.b,5,none⟩=some (.int .i64 (c.stack:Int)))):=by
  show∀EL wx w3,_
  intro EL wx w3 I;exact ⟨aJ.cell I.1.1 9 rfl,aJ.cell I.1.1 5 rfl⟩
 have O:Hid (∀(w':World) o,(w'.cell? ⟨h.b,9,none⟩=some (.pointer (some ⟨h.rb,0,none⟩))/\w'.cell? ⟨h.b,5,none⟩=some (.int .i64 (c.stack:Int)))->((w'.alloc o).cell? ⟨h.b,9,none⟩=some (.pointer (some ⟨h.rb,0,none⟩))/\(w'.alloc o).cell? ⟨h.b,5,none⟩=some (.int .i64 (c.stack:Int)))):=by
  show∀(w':World) o,_
  intro w' o r;exact ⟨(World.cell?_alloc_lt _ _ _ (World.block_lt_of_cell? _ _ r.1)).trans r.1,(World.cell?_alloc_lt _ _ _ (World.block_lt_of_cell? _ _ r.2)).trans r.2⟩
 have P:Hid (∀(w':World) (sb:Nat) (x0 x1 x2 x3:Value),sb≠h.b->(w'.cell? ⟨h.b,9,none⟩=some (.pointer (some ⟨h.rb,0,none⟩))/\w'.cell? ⟨h.b,5,none⟩=some (.int .i64 (c.stack:Int)))->(((((w'.setCell sb x0).setCell ⟨sb,1,none⟩ x1).setCell ⟨sb,2,none⟩ x2).setCell ⟨sb,3,none⟩ x3).cell? ⟨h.b,9,none⟩=some (.pointer (some ⟨h.rb,0,none⟩))/\((((w'.setCell sb x0).setCell ⟨sb,1,none⟩ x1).setCell ⟨sb,2,none⟩ x2).setCell ⟨sb,3,none⟩ x3).cell? ⟨h.b,5,none⟩=some (.int .i64 (c.stack:Int)))):=by
  show∀(w':World) (sb:Nat) (x0 x1 x2 x3:Value),_
  intro w' sb x0 x1 x2 x3 ad r;have hf:=((((GQ (fun k=>k=sb) w').setCell sb (.inl rfl) x0).setCell ⟨sb,1,none⟩ (.inl rfl) x1).setCell ⟨sb,2,none⟩ (.inl rfl) x2).setCell ⟨sb,3,none⟩ (.inl rfl) x3;exact ⟨(World.cell?_of_block (a:=⟨h.b,9,none⟩) (hf.block _ (cl r.1) (fun e=>ad (Eq.symm e)))).trans r.1,(World.cell?_of_block (a:=⟨h.b,5,none⟩) (hf.block _ (cl r.2) (fun e=>ad (Eq.symm e)))).trans r.2⟩
 have N:=ae (fun EL w2 w6 sb no nw hf aj G=>EZ (EL:=EL) (w2:=w2) (w6:=w6) (sb:=sb) (no:=no) (nw:=nw) j hT Y hf aj G);have y:=ae (show (∀k,(S0 k\/k=h.b)->k<w.heap.size)/\cO<w.heap.size/\h.b<w.heap.size from ⟨fun k I=>j.lt k (I.elim .inl (fun e=> .inr (.inl e))),cl (j.Qp 0 0 rfl),aJ.lt j.Qd⟩);have k8:w.cell? ⟨h.b,8,none⟩=some h.m:=aJ.cell j.Qd 8 rfl;have HQ:Hid (∀w6,(eX h.b c A rs u n T w6/\Fr T w w6)->Fj h.b c A rs l u n T w (.returned (.tuple #[((l.length:Int):Int),((A.Wd l:Int):Int)])) w6):=ae (fun w6 r=>⟨rfl,r.1,r.2⟩);generalize (Fj h.b c A rs l u n T w)=Q at*;generalize rs.map φ=ls at*;generalize (l.length:Int)=no at*;generalize (A.Wd l:Int)=nw at*;clear j hT Y Z ah al hl
 go_enter func19,ntmps19
 go_wp2_with fail
 refine HN.out.mono ?_;rintro e w1 ⟨rfl,rfl⟩;clear HN;go_wp2_with fail
 refine V.out.mono ?_;rintro e w1 ⟨rfl,rfl⟩;clear V;go_wp2_with fail
 refine U.out.mono ?_;rintro e w2 ⟨EL,rfl,he,hn,hf⟩;have J:=ae (fun w' v=>K.out w2 w' hf v);have D:=ae (R.out EL w2 hf he hn);have x:=ae (fun w' (v:GM w2 w')=>HC.out w' (hf.trans v GN));have B:=ae (fun w6 sb no nw G=>N.out EL w2 w6 sb no nw hf hn G);have hz:=hf.size;have g:=ae (show (∀k,(S0 k\/k=h.b)->k<w2.heap.size)/\cO<w2.heap.size/\h.b<w2.heap.size from ⟨fun k I=>cz (y.out.1 k I) hz,cz y.out.2.1 hz,cz y.out.2.2 hz⟩);have s:=ae ((GQ (fun _=>False) w2).drew);have t:=ae (fun o=>((GQ (fun _=>False) w2).alloc o).drew);clear U K R HC N y he hn hf hz k8
 go_upto_region 4 with fail
 go_cut [6,7] from 19 to 36 (fun v6 v7 wx=>∃sb:Nat,v6= .pointer (some ⟨sb,0,none⟩)/\v7= .int .i64 0/\Hid (Gf h c Ba u ub cy n ns bs S0 L EL w2 no nw sb wx))
 case first=>
  go_region_held3 (fun w'=>w'.cell? ⟨h.b,9,none⟩=some (.pointer (some ⟨h.rb,0,none⟩))/\w'.cell? ⟨h.b,5,none⟩=some (.int .i64 (c.stack:Int))) (with_reducible first
   |assumption
   |exact x.out _ s.out
   |exact x.out _ (t.out _)
   |exact O.out _ _ (by assumption)
   |exact P.out _ _ _ _ _ _ (by first|exact fP g.out.2.2|exact fP (cz g.out.2.2 f.size)) (by assumption)) (first
   |(go_at_call 69;refine (J.out _ (by with_reducible first|exact s.out|exact t.out _)).mono ?_;rintro e w3 ⟨rb,rc,rfl,r1,r2,r3,z⟩;(have f:GM w2 w3:=by with_reducible first|exact s.out.trans z GN|exact (t.out _).trans z GN);(have af:w2.heap.size<=rb:=by with_reducible first|exact aZ s.out.size r1|exact aZ (t.out _).size r1);have am:=x.out w3 f;(try (have ai:aJ w3 w2.heap.size [(0:Int),(0:Int),(0:Int),(0:Int)] 136:=aJ.frame (by with_reducible exact aJ.drew (aJ.new w2 _ _)) z id));clear z r1)
   |(go_at_call 68;with_reducible refine (D.out w3 f rb rc af r2 r3).mono ?_;rintro e w4 ⟨nr,nv,rfl,F,p⟩;have X:=C.out _ _ _ p;(try (have d:=F _ _ _ (ak _) ai;obtain ⟨k0,k1,k2,k3,_⟩:=GR d;have l0:=d.free 0;have l1:=d.free 1;have l2:=d.free 2;have l3:=d.free 3)))
   |(go_at_call 68;refine (D.out (w3.alloc _) (f.alloc _) rb rc af (by rw [World.size_alloc];omega) (fun i a ha=>(World.cell?_alloc_lt _ _ _ (World.block_lt_of_cell? _ _ (r3 i a ha))).trans (r3 i a ha))).mono ?_;rintro e w4 ⟨nr,nv,rfl,F,p⟩;have X:=C.out _ _ _ p;have d:=F _ _ _ f.size (aJ.new w3 [(0:Int),(0:Int),(0:Int),(0:Int)] 136);obtain ⟨k0,k1,k2,k3,_⟩:=GR d;have l0:=d.free 0;have l1:=d.free 1;have l2:=d.free 2;have l3:=d.free 3))
  ·go_wp2;go_meet
   case rel=>exact ⟨_,rfl,rfl,ae (DG p f)⟩
  ·go_wp2;go_meet
   case rel=>exact ⟨_,rfl,rfl,ae (xT p (f.alloc _) g.out.1 g.out.2.1 f.size d)⟩
  ·go_wp2;go_meet
   case rel=>exact ⟨_,rfl,rfl,ae (xT p f g.out.1 g.out.2.1 (ak _) d)⟩
 case rest=>
  obtain ⟨sb,rfl,rfl,G⟩:=hcut;have E:=B.out wc sb no nw G.out;have H:=ae (fun w6 (hf:GM wc w6)=>HQ.out w6 ⟨E.1.Qa hf,E.2.trans hf GN⟩);obtain ⟨nr,nv,zb⟩:=G.out.1;obtain ⟨k0,k1,_⟩:=GS zb;clear J D x B g s t O P C HQ G zb E;go_wp2
  go_quiet (fail)
  go_wp2;exact H.out _ ((GQ _ _).drewN _)
end
section
variable{b u:Nat}{c:Cf}{A:AG}{rs l:List Nat}{T:Nat->Prop}{w:World}
end
section
variable{b u n s x t v i Ba ub zz:Nat}{h:Hp}{c:Cf}{A A':AG}{rs:List Nat}{φ:Nat->Nat}{T:Nat->Prop}{d:Bool}{w w1 w2 w3 w' w'':World}
theorem zp(j:Value):Calls prog 88 #[j,(0:Int)] w fun e w'=>e= .returned (.tuple #[gD 0 0 0,(18:Int)])/\GM w w':=by
 have f:Hid (∀W,W=w.alloc (.cells #[(0:Int),(0:Int),(0:Int)] 31)->GM w W/\aJ W w.heap.size [(0:Int),(0:Int),(0:Int)] 31):=by
  show∀W,_
  rintro W rfl;exact ⟨(GQ _ w).alloc _,aJ.new w _ _⟩
 have a:Hid ((prog.info? 31).map (·.size)=some 3):=by show _=_;kernel_rfl
 unfold gD
 go_enter func88,ntmps88
 go_wp2;obtain ⟨hf,g⟩:=f.out _ rfl;refine bodyPost_ret (ee rfl _ _ _ _ _ _ _ rfl g underlying31 rfl a.out) rfl ?_;exact ⟨rfl,hf⟩
theorem kU.apart(hf:GM w w1)(g:kU h c A rs φ Ba u ub T w1.heap.size w1 d w2)(p:∀k,T k->k<w.heap.size)(q:∀k,kT h ub (fun _=>False) k->T k)(E:cO<w.heap.size)(f:Fr (fun k=>w.heap.size<=k/\(k<w1.heap.size\/w2.heap.size<=k)) w2 w3):kU h c A rs φ Ba u ub T w1.heap.size w d w3:=by
 obtain ⟨L,o,n,z,m,S,j,l,B,C⟩:=g;have F:=hf.size;have r:=j.lt;refine ⟨L,o,n,z,m,S,j.stays f (fun k a y=> ?_) (fun h=>by omega),l,((hf.mono (S':=T) GN).trans B (fun k a=> .inl a)).trans f (fun k a=> .inr a.1),C⟩
 ·have D:=r k a;have e:T k\/w1.heap.size<=k:=a.elim (l k) (fun h=> .inl (q k (.inr h)));rcases e with e|e
  ·have:=p k e;omega
  ·omega
theorem uJ(R:eX b c A rs u n T w)(Z:rs[s]? =some x):∃sv,∃W:Nat,∃p f g:Int,∃X:Int,∃J:World->World->Prop,(.tuple #[gD p f g,(X:Int)]=if x=0 then Value.tuple #[gD 0 0 0,(18:Int)] else .tuple #[gD (A.np x) (A.nf x) (A.ng x),(0:Int)])/\
  (∀w1,GM w w1->∀xb F:Nat,w1.cell? xb=some (s:Int)->Calls prog 60 #[b,.slice (some xb) 1 F] w1 (vu [W] w1))/\
  (∀w1,GM w w1->Calls prog 62 #[b] w1 fun e w'=>e= .returned sv/\w1=w')/\
  (∀w1,GM w w1->Calls prog 88 #[sv,(W:Int)] w1 fun e w'=>e= .returned (.tuple #[gD p f g,(X:Int)])/\J w1 w'/\Fr T w1 w')/\
  (∀w1 w2 w3,GM w w1->J w1 w2->Fr (fun k=>w.heap.size<=k/\(k<w1.heap.size\/w2.heap.size<=k)) w2 w3->Calls prog 63 #[b] w3 fun e w'=>e= .returned (.tuple #[])/\Eh b c A rs T w1.heap.size w w'/\Fr T w3 w'):=by
 have U:=R.lt;have V:=R.Qp.2.1;obtain ⟨h,φ,L,Ba,ub,P,ns,bs,S,rfl,l,O,af⟩:=R;have ai:=l.half.top;obtain ⟨ad,_⟩:=l.Qs.W5;have K:=l.fits;have z:∀k,kT h ub (fun _=>False) k->T k:=fun k D=>(O k).2 (D.elim (fun h=>h.elim) .inr)
 have o:∀w1,GM w w1->∀xb F:Nat,w1.cell? ⟨xb,0,none⟩=some (s:Int)->Calls prog 60 #[h.b,.slice (some ⟨xb,0,none⟩) 1 F] w1 (vu [φ x] w1):=fun w1 hf xb F Q=>by
  refine sr (l.Qa hf).Qd (l.Qa hf).roots xb F [φ x] (fun j a C=> ?_) (by simp) (by simp)
  match j,C with
  |0,C=>
   obtain rfl:φ x=a:=bf C;exact ⟨s,Q,by rw [aR,Z];rfl⟩
  |j+1,C=>exact absurd C (by simp)
 have y:∀w1 w2 w3,GM w w1->kU h c A rs φ Ba u ub T w1.heap.size w1 false w2->Fr (fun k=>w.heap.size<=k/\(k<w1.heap.size\/w2.heap.size<=k)) w2 w3->Calls prog 63 #[h.b] w3 fun e w'=>e= .returned (.tuple #[])/\Eh h.b c A rs T w1.heap.size w w'/\Fr T w3 w':=fun w1 w2 w3 hf C hx=>by
  have Y:=z _ (.inr (.inl rfl));refine ((kU.apart hf C U z V hx).end_ Y).mono ?_;rintro e w' ⟨rfl,g,q⟩;exact ⟨rfl,g.Xm z,q.mono (fun k D=> .inl (by rw [D];exact Y))⟩
 by_cases E:x=0
 ·subst E;have hz:=l.laid.zero;rw [hz] at o;refine ⟨C3 h.m P,0,0,0,0,18,fun w1 w2=>kU h c A rs φ Ba u ub T w1.heap.size w1 false w2,(aG rfl).symm,o,fun w1 hf=>iE (l.Qa hf).Qd,fun w1 hf=>(zp _).mono ?_,y⟩;rintro e w' ⟨rfl,q⟩;have H:=q.mono (S':=T) GN;exact ⟨rfl,⟨L,P,n,ns,bs,S,(l.Qa hf).Qa q,fun k D=> .inl ((O k).2 (.inl D)),H,fun h=>nomatch h⟩,H⟩
 ·have N:Reach A.gr rs x:= .root (aD Z) E;refine ⟨C3 h.m P,φ x,A.np x,A.nf x,A.ng x,0,fun w1 w2=>kU h c A rs φ Ba u ub T w1.heap.size w1 false w2,(aE E).symm,o,fun w1 hf=>iE (l.Qa hf).Qd,fun w1 hf=> ?_,y⟩;obtain ⟨ty,vv,fl,fs,r,I,dom,he,M,ah,hI,G,B⟩:=(l.Qa hf).mem.space l.Qs l.half K;have Q:=l.laid.Qn x N;have h2:=l.laid.one;unfold AG.sz at Q;rw [he];refine (jX M hI (φ x) _ _ _ (by omega) (G _ (by omega) (by omega)) (l.laid.head x N)).mono ?_;rintro e w' ⟨rfl,hp⟩;exact ⟨rfl,uL (l.Qa hf) O B (GQ _ _) hp,hp.fr.mono (fun k D=> .inl ((O k).2 (.inl D)))⟩
def GF(b:Nat)(c:Cf)(A:AG)(rs:List Nat)(T:Nat->Prop)(w:World)(p f g:Int)(r0 sb:Nat)(wx:World):Prop:=aJ wx sb [(p:Int),(f:Int),(g:Int)] 31/\aJ wx r0 [(0:Int),(0:Int),(0:Int)] 31/\sb≠r0/\¬T sb/\¬T r0/\Calls prog 63 #[b] wx fun e w'=>e= .returned (.tuple #[])/\Eh b c A rs T (r0+1) w w'/\Fr T wx w'
theorem zP(hi:eX b c A rs u n T w)(hs:rs[s]? =some x):Calls prog 28 #[b,(s:Int)] w fun e w'=>e= .returned (if x=0 then Value.tuple #[gD 0 0 0,(18:Int)] else .tuple #[gD (A.np x) (A.nf x) (A.ng x),(0:Int)])/\bh b c A rs T w w':=by
 have M:=hi.lt;obtain ⟨sv,P,p,f,g,cd,J,he,h1,h2,h3,h4⟩:=uJ hi hs;rw [<-he];obtain ⟨O,X⟩:∃O,w.alloc (.cells #[(0:Int),(0:Int),(0:Int)] 31)=O:=⟨_,rfl⟩;have ar:GM w O:=by rw [<-X];exact (GQ _ w).alloc _
 have ap:aJ O w.heap.size [(0:Int),(0:Int),(0:Int)] 31:=by rw [<-X];exact aJ.new w _ _
 obtain ⟨W1,H⟩:∃W1,O.alloc (.cells #[(s:Int)] 3)=W1:=⟨_,rfl⟩;have K:GM w W1:=by rw [<-H];exact ar.alloc _
 have aq:aJ W1 O.heap.size [(s:Int)] 3:=by rw [<-H];exact aJ.new O _ _
 have Q:aJ W1 w.heap.size [(0:Int),(0:Int),(0:Int)] 31:=by rw [<-H];exact ap.alloc _
 have G:¬T w.heap.size:=fun h=>by have:=M _ h;omega
 have ai:=ae (h1 W1 K O.heap.size 1 (aq.cell 0 rfl));have aw:Hid ((prog.info? 31).map (·.size)=some 3):=by show _=_;kernel_rfl
 go_enter func28,ntmps28
 go_wp2_with fail
 refine ai.out.mono ?_;rintro e w1 ⟨D,cap,rfl,ay,hc,hf⟩;have B:=K.trans hf GN;have I:=hc 0 P rfl;have aC:=K.size;have av:¬T D:=fun h=>by have:=M _ h;omega
 have N:=Q.frame hf id;have r:=ae ((GQ (fun _=>False) w1).drew);have y:=ae (fun o=>((GQ (fun _=>False) w1).alloc o).drew);have z:=ae (fun o=>((GQ (fun _=>False) w1).drew).alloc o);have ad:Hid (aJ (w1.alloc (.cells #[(0:Int),(0:Int),(0:Int)] 31)).drew w1.heap.size [(0:Int),(0:Int),(0:Int)] 31):=ae (aJ.new w1 _ _).drew;have af:Hid (aJ (w1.drew.alloc (.cells #[(0:Int),(0:Int),(0:Int)] 31)) w1.heap.size [(0:Int),(0:Int),(0:Int)] 31):=ae (aJ.new w1.drew _ _);have q:=ae (fun w' (E:GM w1 w')=>(show w'.cell? D=some (.int .i64 P) from (World.cell?_of_block (w:=w1) (E.block _ (cl I) id)).trans I));have ao:=ae (fun w' (E:GM w1 w')=>h2 w' (B.trans E GN));have U:=ae (fun w' (E:GM w1 w')=>h3 w' (B.trans E GN));have am:Hid (∀w' w'',GM w1 w'->Fr T w' w''->w''.cell? D=some (.int .i64 P)):=by
  show∀w' w'',_
  intro w' w'' q1 q2;exact (World.cell?_of_block (w:=w') (q2.block _ (cl (q.out w' q1)) av)).trans (q.out w' q1)
 have aj:Hid (∀(w':World) o,w'.cell? D=some (.int .i64 P)->(w'.alloc o).cell? D=some (.int .i64 P)):=by
  show∀(w':World) o,_
  exact fun w' o Y=>(World.cell?_alloc_lt _ _ _ (World.block_lt_of_cell? _ _ Y)).trans Y
 have al:Hid (∀(w':World) (sb:Nat) (x0 x1 x2:Value),sb≠D->w'.cell? D=some (.int .i64 P)->(((w'.setCell sb x0).setCell ⟨sb,1,none⟩ x1).setCell ⟨sb,2,none⟩ x2).cell? D=some (.int .i64 P)):=by
  show∀(w':World) (sb:Nat) (x0 x1 x2:Value),_
  intro w' sb x0 x1 x2 aB Y;have hf:=(((GQ (fun k=>k=sb) w').setCell sb (.inl rfl) x0).setCell ⟨sb,1,none⟩ (.inl rfl) x1).setCell ⟨sb,2,none⟩ (.inl rfl) x2;exact (World.cell?_of_block (a:=⟨D,0,none⟩) (hf.block _ (cl Y) (fun e=>aB (Eq.symm e)))).trans Y
 have az:D<w1.heap.size:=cl I;have an:Hid (¬T w1.heap.size):=ae (fun h=>by have:=M _ h;have:=B.size;omega)
 go_upto_region 4 with fail
 obtain ⟨m,Z⟩:∃m,m=w.heap.size:=⟨_,rfl⟩;rw [<-Z] at N G ⊢;have V:=ae (ag Z hi.Qp.2.1);have C:Hid (∀wr w2 S sb,GM w1 wr->J wr w2->Fr T wr w2->aJ S sb [(p:Int),(f:Int),(g:Int)] 31->Fr (fun k=>k=sb) w2 S->w1.heap.size<=sb->(sb<wr.heap.size\/w2.heap.size<=sb)->GF b c A rs T w p f g m sb S):=by
  show∀wr w2 S sb,_
  intro wr w2 S sb q1 q2 q3 q4 q5 q6 q7;have aF:=B.size;have aE:=N.lt;refine ⟨q4,((N.frame q1 id).frame q3 G).frame q5 (fun e=>by omega),by omega,fun h=>by have:=M _ h;omega,G,(h4 wr w2 S (B.trans q1 GN) q2 (q5.mono (fun k L=> .inl ?_))).mono (fun e w' ⟨g1,⟨u,n,T',g2,g3,g4⟩,g5⟩=>⟨g1,⟨u,n,T',g2,g3,fun k L=>(g4 k L).imp id (fun h=>by have:=q1.size;omega)⟩,g5⟩)⟩;subst L;exact ⟨by omega,q7⟩
 clear h1 h2 h3 h4 hi hs he ar ap K aq Q ai X H B I aC av ay hc hf Z
 go_cut [7,8] from 20 to 28 (fun v7 v8 S=>∃sb:Nat,v8= .pointer (some ⟨sb,0,none⟩)/\v7= .int .i64 cd/\Hid (GF b c A rs T w p f g m sb S))
 case first=>
  unfold gD at U
  go_region_held3 (fun w'=>w'.cell? ⟨D,0,none⟩=some (.int .i64 P)) (with_reducible first
   |assumption
   |exact q.out _ r.out
   |exact q.out _ (y.out _)
   |exact q.out _ (z.out _)
   |exact aj.out _ _ (by assumption)
   |exact al.out _ _ _ _ _ (by omega) (by assumption)) (first
   |(go_at_call 62;refine (ao.out _ (by with_reducible first|exact r.out|exact y.out _|exact z.out _)).mono ?_;rintro e w3 ⟨rfl,rfl⟩)
   |(go_at_call 88;refine (U.out _ (by with_reducible first|exact r.out|exact y.out _|exact z.out _)).mono ?_;rintro e w4 ⟨rfl,hj,j⟩;have aD:=am.out _ _ (by with_reducible first|exact r.out|exact y.out _|exact z.out _) j;(try (have l:aJ w4 w1.heap.size [(0:Int),(0:Int),(0:Int)] 31:=aJ.frame (by with_reducible first|exact ad.out|exact af.out) j an.out;obtain ⟨k0,k1,k2,_⟩:=GT l;have l0:=l.free 0;have l1:=l.free 1;have l2:=l.free 2))))
  ·go_wp2;go_meet
   case rel=>exact ⟨_,rfl,rfl,ae (C.out _ w4 _ _ r.out hj j (aJ.new w4 _ _) ((GQ _ w4).alloc _) j.size (.inr (ak _)))⟩
  all_goals
   go_wp2;go_meet
   case rel=>exact ⟨_,rfl,rfl,ae (C.out _ w4 _ _ (by with_reducible first|exact y.out _|exact z.out _) hj j (((l.set 0 _).set 1 _).set 2 _) ((((GQ (fun k=>k=w1.heap.size) w4).setCell w1.heap.size (.inl rfl) _).setCell ⟨w1.heap.size,1,none⟩ (.inl rfl) _).setCell ⟨w1.heap.size,2,none⟩ (.inl rfl) _) (ak _) (.inl (show w1.heap.size<(w1.alloc _).heap.size from by rw [World.size_alloc];exact bI _)))⟩
 case rest=>
  obtain ⟨sb,rfl,rfl,hm⟩:=hcut;obtain ⟨b1,F,n1,n2,n3,R⟩:=hm.out;have HE:=ae R;have HB:=ae (ag b1 (ag F (ag n2 n3)));clear hm b1 F n2 n3 R r y z q ao U am aj al C ad af an az N;go_wp2_with fail
  refine HE.out.mono ?_;rintro e w5 ⟨rfl,hq,j⟩;have b1:=HB.out.1.frame j HB.out.2.2.1;have F:=HB.out.2.1.frame j HB.out.2.2.2;obtain ⟨k0,k1,k2⟩:=gc b1;obtain ⟨c0,c1,c2⟩:=gc F;have l0:=F.free 0;have l1:=F.free 1;have l2:=F.free 2;have ah:Hid (∀W,W=((w5.setCell m (.int .i64 p)).setCell ⟨m,1,none⟩ (.int .i64 f)).setCell ⟨m,2,none⟩ (.int .i64 g)->aJ W m [(p:Int),(f:Int),(g:Int)] 31/\bh b c A rs T w W):=by
   show∀W,_
   rintro W rfl;obtain ⟨u',n',T',g1,g2,g3⟩:=hq;have au:=(((GQ (fun k=>k=m) w5).setCell m (.inl rfl) (.int .i64 p)).setCell ⟨m,1,none⟩ (.inl rfl) (.int .i64 f)).setCell ⟨m,2,none⟩ (.inl rfl) (.int .i64 g);refine ⟨((F.set 0 _).set 1 _).set 2 _,u',n',T',g1.stays au (fun k L e=> ?_) (fun e=> ?_),g2.trans au (fun k L=> .inr ?_),fun k L=>(g3 k L).imp id (fun h=> ?_)⟩
   ·have e:k=m:=e;subst e;exact (g3 _ L).elim G (fun h=>by omega)
   ·have e:cO=m:=e;have:=V.out;omega
   ·have e:k=m:=L;have:=V.out;omega
   ·have:=V.out;omega
  clear hq j HB HE b1 F;go_wp2;obtain ⟨hb,Y⟩:=ah.out _ rfl;refine bodyPost_ret (ee rfl _ _ _ _ _ _ _ rfl hb underlying31 rfl aw.out) rfl ?_;exact ⟨rfl,Y⟩
end
theorem bG{P:Program}{e:Nat}{Q:Exit->Act->World->Prop}{a:Act}{w:World}{l:List Oper}(n:Nat)
  (h:wpQuiet P l.toArray (fun w'=>∃k,w'=w.drewN k) (fun b=>∀w',(∃k,w'=w.drewN k)->wpList P l.toArray Q (l.drop n) b w') (l.take n) a) (d:P.follows .mixedOrders=true:=by kernel_rfl) (c:Region.lexTailB .any l.toArray n=true:=by kernel_rfl):
  (Code.region e l.toArray true).wp P Q a w:=
 bR (fun w'=>∃k,w'=w.drewN k) n ⟨1,rfl⟩ h d c
section
variable{b:Nat}{c:Cf}{A A':AG}{rs rs' l:List Nat}{T:Nat->Prop}{w0 w w':World}{s t x i v k:Nat}
theorem bh.fr(h:bh b c A rs T w0 w):Fr T w0 w:=let ⟨_,_,_,_,h,_⟩:=h;h
theorem eX.Xm{u n:Nat}(h:eX b c A rs u n T w):bh b c A rs T w w:=⟨u,n,T,h,GQ _ _,fun _ h=> .inl h⟩
theorem bh.Qa(h:bh b c A rs T w0 w)(hf:GM w w'):bh b c A rs T w0 w':=by
 obtain ⟨u,n,a,d,e,f⟩:=h;exact ⟨u,n,a,d.Qa hf,e.trans hf GN,f⟩
theorem bh.dn(h:bh b c A rs T w0 w)(k:Nat):bh b c A rs T w0 (w.drewN k):=h.Qa ((GQ _ w).drewN k)
theorem bh.bind{f:FuncId}{a:Array Value}{E:Ending->Prop}(h:bh b c A rs T w0 w)(g:∀u n d,eX b c A rs u n d w->Calls prog f a w fun e w'=>E e/\bh b c A' rs' d w w'):Calls prog f a w fun e w'=>E e/\bh b c A' rs' T w0 w':=by
 obtain ⟨u,n,d,r,m,o⟩:=h;refine (g u n d r).mono ?_;rintro e w' ⟨y,B,n',j,g1,p,q⟩;have C:=m.size;exact ⟨y,B,n',j,g1,m.trans p o,fun k z=>(q k z).elim (o k) (fun h=> .inr (by omega))⟩
theorem bh.bindS{f:FuncId}{a:Array Value}{E:Ending->Prop}(h:bh b c A rs T w0 w)(g:∀u n d,eX b c A rs u n d w->Calls prog f a w fun e w'=>E e/\bh b c A' rs' d w w'):Calls prog f a w fun e w'=>E e/\bh b c A' rs' T w0 w'/\w.heap.size<=w'.heap.size:=by
 obtain ⟨u,n,d,r,o,p⟩:=h;refine (g u n d r).mono ?_;rintro e w' ⟨y,B,n',j,g1,m,q⟩;have C:=o.size;exact ⟨y,⟨B,n',j,g1,o.trans m p,fun k z=>(q k z).elim (p k) (fun h=> .inr (by omega))⟩,m.size⟩
theorem bh.store(h:bh b c A rs T w0 w)(g:rs[s]? =some x)(d:x≠0)(a:i<A.np x)(j:rs[t]? =some v):Calls prog 13 #[b,(s:Int),(i:Int),(t:Int)] w fun e w'=>e= .returned (0:Int)/\bh b c (A.put x i v) rs T w0 w':=h.bind (fun _ _ _ f=>zM f g d a j)
theorem bh.copy(h:bh b c A rs T w0 w)(d:s<c.Sl)(f:rs[t]? =some v):Calls prog 15 #[b,(s:Int),(t:Int)] w fun e w'=>e= .returned (0:Int)/\bh b c A (rs.set s v) T w0 w':=h.bind (fun _ _ _ a=>Cg a d f)
theorem bh.clear(h:bh b c A rs T w0 w)(d:s<c.Sl):Calls prog 14 #[b,(s:Int)] w fun e w'=>e= .returned (0:Int)/\bh b c A (rs.set s 0) T w0 w':=h.bind (fun _ _ _ a=>ss a d)
theorem bh.set(h:bh b c A rs T w0 w)(j:rs[s]? =some x)(f:x≠0)(a:A.np x+A.nf x<=i)(d:i<A.np x+A.nf x+A.ng x)(m:v<18446744073709551616):Calls prog 25 #[b,(s:Int),(i:Int),.int .u64 v] w fun e w'=>e= .returned (0:Int)/\bh b c (A.put x i v) rs T w0 w':=h.bind (fun _ _ _ g=>DK g j f a d m)
theorem bh.Yk(h:bh b c A rs T w0 w)(j:rs[s]? =some x)(f:x≠0)(a:A.np x<=i)(d:i<A.np x+A.nf x)(m:v<18446744073709551616):Calls prog 22 #[b,(s:Int),(i:Int),.float .f64 v] w fun e w'=>e= .returned (0:Int)/\bh b c (A.put x i v) rs T w0 w':=h.bind (fun _ _ _ g=>ti g j f a d m)
theorem bh.get(h:bh b c A rs T w0 w)(j:rs[s]? =some x)(f:x≠0)(a:A.np x+A.nf x<=i)(d:i<A.np x+A.nf x+A.ng x):Calls prog 26 #[b,(s:Int),(i:Int)] w fun e w'=>e= .returned (.tuple #[.int .u64 ((A.Qk x i:Nat):Int),(0:Int)])/\bh b c A rs T w0 w':=h.bind (fun _ _ _ g=>xZ g j f a d)
theorem bh.getS(h:bh b c A rs T w0 w)(j:rs[s]? =some x)(f:x≠0)(a:A.np x+A.nf x<=i)(d:i<A.np x+A.nf x+A.ng x):Calls prog 26 #[b,(s:Int),(i:Int)] w fun e w'=>e= .returned (.tuple #[.int .u64 ((A.Qk x i:Nat):Int),(0:Int)])/\bh b c A rs T w0 w'/\w.heap.size<=w'.heap.size:=h.bindS (fun _ _ _ g=>xZ g j f a d)
theorem bh.getf(h:bh b c A rs T w0 w)(j:rs[s]? =some x)(f:x≠0)(a:A.np x<=i)(d:i<A.np x+A.nf x):Calls prog 45 #[b,(s:Int),(i:Int)] w fun e w'=>e= .returned (.tuple #[.float .f64 (A.Qk x i),(0:Int)])/\bh b c A rs T w0 w':=h.bind (fun _ _ _ g=>nK g j f a d)
theorem bh.getfS(h:bh b c A rs T w0 w)(j:rs[s]? =some x)(f:x≠0)(a:A.np x<=i)(d:i<A.np x+A.nf x):Calls prog 45 #[b,(s:Int),(i:Int)] w fun e w'=>e= .returned (.tuple #[.float .f64 (A.Qk x i),(0:Int)])/\bh b c A rs T w0 w'/\w.heap.size<=w'.heap.size:=h.bindS (fun _ _ _ g=>nK g j f a d)
theorem bh.load(h:bh b c A rs T w0 w)(g:s<c.Sl)(j:rs[t]? =some x)(d:x≠0)(a:i<A.np x):Calls prog 27 #[b,(s:Int),(t:Int),(i:Int)] w fun e w'=>e= .returned (0:Int)/\bh b c A (rs.set s (A.Qk x i)) T w0 w':=h.bind (fun _ _ _ f=>B8 f g j d a)
theorem bh.shape(h:bh b c A rs T w0 w)(o:rs[s]? =some x):Calls prog 28 #[b,(s:Int)] w fun e w'=>(∃p f g a:Int,e= .returned (.tuple #[.agg #[(p:Int),(f:Int),(g:Int)],(a:Int)])/\((a==0)= !decide (x=0)))/\bh b c A rs T w0 w':=by
 refine h.bind (E:=fun e=>∃p f g a:Int,e= .returned (.tuple #[.agg #[(p:Int),(f:Int),(g:Int)],(a:Int)])/\((a==0)= !decide (x=0))) (fun _ _ _ m=>(zP m o).mono ?_);rintro e w' ⟨j,n⟩;refine ⟨?_,n⟩;by_cases d:x=0
 ·rw [aG d] at j;exact ⟨0,0,0,18,j,by rw [aB d];rfl⟩
 ·rw [aE d] at j;exact ⟨_,_,_,0,j,by rw [ar d];rfl⟩
theorem bh.alloc{p f g:Nat}(h:bh b c A rs T w0 w)(r:dE A rs l)(H:s<c.Sl)(F:eO p f g)(j:k≠0)(m:k∉l):Calls prog 11 #[b,(s:Int),gD p f g] w fun e w'=>(A.Wd l+(1+(p+f+g))<=c.Wd/\e= .returned (0:Int)/\bh b c (A.new k p f g) (rs.set s k) T w0 w')\/(c.Wd<A.Wd l+(1+(p+f+g))/\e= .returned (21:Int)/\bh b c A rs T w0 w'):=by
 obtain ⟨u,n,z,D,o,q⟩:=h;have J:=o.size;refine (oP D r H F j (fun G=>m ((r.2 _).2 G))).mono ?_;have y:∀{A' rs' w'},bh b c A' rs' z w w'->bh b c A' rs' T w0 w':=fun ⟨I,n',a,g1,B,C⟩=>⟨I,n',a,g1,o.trans B q,fun k E=>(C k E).elim (q k) (fun h=> .inr (by omega))⟩
 rintro e w' (⟨d,rfl,g⟩|⟨d,rfl,g⟩)
 ·exact .inl ⟨d,rfl,y g⟩
 ·exact .inr ⟨d,rfl,y g⟩
theorem bh.Yq(h:bh b c A rs T w0 w)(f:Reach A.gr rs x)(a:A.np x<=i)(d:i<A.np x+A.nf x+A.ng x):A.Qk x i<18446744073709551616:=by
 obtain ⟨_,_,_,⟨_,φ,L,Ba,n,j,m,g,S,rfl,e,_⟩,_⟩:=h;exact (e.laid.val x f i a d).2
end
inductive Tr where
 |nil:Tr
 |node:Tr->Nat->Nat->Nat->Tr->Tr
inductive Cx where
 |top:Cx
 |Xi:Cx->Nat->Nat->Nat->Tr->Cx
 |Xn:Tr->Nat->Nat->Nat->Cx->Cx
def Tr.all:Tr->List (Nat×Nat×Nat)
 | .nil=>[]
 | .node l x k f r=>l.all++(x,k,f)::r.all
def Tr.root:Tr->Nat
 | .nil=>0
 | .node _ x _ _ _=>x
def Cx.Qf:Cx->Tr->Tr
 | .top,t=>t
 | .Xi c x k f r,t=>c.Qf (.node t x k f r)
 | .Xn l x k f c,t=>c.Qf (.node l x k f t)
def Cx.up:Cx->Nat
 | .top=>0
 | .Xi _ x _ _ _=>x
 | .Xn _ x _ _ _=>x
def Cx.pre:Cx->List (Nat×Nat×Nat)
 | .top=>[]
 | .Xi c _ _ _ _=>c.pre
 | .Xn l x k f c=>c.pre++(l.all++[(x,k,f)])
def Cx.post:Cx->List (Nat×Nat×Nat)
 | .top=>[]
 | .Xi c x k f r=>(x,k,f)::r.all++c.post
 | .Xn _ _ _ _ c=>c.post
theorem du:∀(c:Cx) (t:Tr),(c.Qf t).all=c.pre++t.all++c.post
 | .top,t=>by simp [Cx.Qf,Cx.pre,Cx.post]
 | .Xi c x k f r,t=>by
  have:=du c (.node t x k f r);simp only [Cx.Qf,Cx.pre,Cx.post,this,Tr.all];simp
 | .Xn l x k f c,t=>by
  have:=du c (.node l x k f t);simp only [Cx.Qf,Cx.pre,Cx.post,this,Tr.all];simp
def iy(A:AG)(x a b k f:Nat):Prop:=x≠0/\(A.np x=2/\A.nf x=1/\A.ng x=1)/\A.Qk x 0=a/\A.Qk x 1=b/\A.Qk x 2=f/\A.Qk x 3=k
def gl(A:AG):Tr->Prop
 | .nil=>True
 | .node l x k f r=>iy A x l.root r.root k f/\gl A l/\gl A r
def jS(A:AG):Cx->Nat->Prop
 | .top,_=>True
 | .Xi c x k f r,h=>iy A x h r.root k f/\gl A r/\jS A c x
 | .Xn l x k f c,h=>iy A x l.root h k f/\gl A l/\jS A c x
def Cx.root(c:Cx)(h:Nat):Nat:=match c with
 | .top=>h
 | .Xi c x _ _ _=>c.root x
 | .Xn _ x _ _ c=>c.root x
theorem fC:∀(c:Cx) (t:Tr),(c.Qf t).root=c.root t.root
 | .top,_=>rfl
 | .Xi c x k f r,t=>fC c (.node t x k f r)
 | .Xn l x k f c,t=>fC c (.node l x k f t)
section
variable{A A':AG}
theorem iM:∀(c:Cx) (t:Tr),gl A (c.Qf t)↔jS A c t.root/\gl A t
 | .top,t=>by simp [Cx.Qf,jS]
 | .Xi c x k f r,t=>by
  rw [Cx.Qf,iM c (.node t x k f r)];simp only [gl,jS,Tr.root];constructor
  ·rintro ⟨a,b,d,e⟩;exact ⟨⟨b,e,a⟩,d⟩
  ·rintro ⟨⟨a,b,d⟩,e⟩;exact ⟨d,a,e,b⟩
 | .Xn l x k f c,t=>by
  rw [Cx.Qf,iM c (.node l x k f t)];simp only [gl,jS,Tr.root];constructor
  ·rintro ⟨a,b,d,e⟩;exact ⟨⟨b,d,a⟩,e⟩
  ·rintro ⟨⟨a,b,d⟩,e⟩;exact ⟨d,a,b,e⟩
def C8(A A':AG)(y:Nat):Prop:=A'.np y=A.np y/\A'.nf y=A.nf y/\A'.ng y=A.ng y/\A'.Qk y=A.Qk y
theorem D8{x i v y:Nat}(h:y≠x):C8 A (A.put x i v) y:=⟨rfl,rfl,rfl,funext fun k=>aE (fun e=>h e.1)⟩
theorem iy.Xj{x a b k f:Nat}(h:iy A x a b k f)(g:C8 A A' x):iy A' x a b k f:=by
 obtain ⟨g1,c,d,e⟩:=g;unfold iy;rw [g1,c,d,e];exact h
theorem gl.Xj:∀{t:Tr},gl A t->(∀y∈t.all,C8 A A' y.1)->gl A' t
 | .nil,_,_=>trivial
 | .node l x k f r,⟨h1,h2,h3⟩,g=>⟨h1.Xj (g (x,k,f) (by simp [Tr.all])),gl.Xj h2 (fun y a=>g y (by simp [Tr.all,a])),gl.Xj h3 (fun y a=>g y (by simp [Tr.all,a]))⟩
theorem jS.Xj:∀{c:Cx} {h:Nat},jS A c h->(∀y∈c.pre++c.post,C8 A A' y.1)->jS A' c h
 | .top,_,_,_=>trivial
 | .Xi c x k f r,_,⟨h1,h2,h3⟩,g=>⟨h1.Xj (g (x,k,f) (by simp [Cx.post])),h2.Xj (fun y a=>g y (by simp [Cx.post,a])),jS.Xj h3 (fun y a=>g y (by simp [Cx.pre,Cx.post] at a ⊢;rcases a with a|a<;>simp [a]))⟩
 | .Xn l x k f c,_,⟨h1,h2,h3⟩,g=>⟨h1.Xj (g (x,k,f) (by simp [Cx.pre])),h2.Xj (fun y a=>g y (by simp [Cx.pre,a])),jS.Xj h3 (fun y a=>g y (by simp [Cx.pre,Cx.post] at a ⊢;rcases a with a|a<;>simp [a]))⟩
def Cx.Qy(A:AG)(c:Cx)(h:Nat):AG:=match c with
 | .top=>A
 | .Xi _ x _ _ _=>A.put x 0 h
 | .Xn _ x _ _ _=>A.put x 1 h
theorem iy.left{x a b k f h:Nat}(g:iy A x a b k f):iy (A.put x 0 h) x h b k f:=by
 obtain ⟨c,g1,j,d,e,i⟩:=g;exact ⟨c,g1,aG ⟨rfl,rfl⟩,(aE (by omega)).trans d,(aE (by omega)).trans e,(aE (by omega)).trans i⟩
theorem iy.right{x a b k f h:Nat}(g:iy A x a b k f):iy (A.put x 1 h) x a h k f:=by
 obtain ⟨c,g1,d,j,e,i⟩:=g;exact ⟨c,g1,(aE (by omega)).trans d,aG ⟨rfl,rfl⟩,(aE (by omega)).trans e,(aE (by omega)).trans i⟩
theorem iy.flt{x a b k f h:Nat}(g:iy A x a b k f):iy (A.put x 2 h) x a b k h:=by
 obtain ⟨c,g1,d,e,j,i⟩:=g;exact ⟨c,g1,(aE (by omega)).trans d,(aE (by omega)).trans e,aG ⟨rfl,rfl⟩,(aE (by omega)).trans i⟩
theorem iy.key{x a b k f h:Nat}(g:iy A x a b k f):iy (A.put x 3 h) x a b h f:=by
 obtain ⟨c,g1,d,e,i,j⟩:=g;exact ⟨c,g1,(aE (by omega)).trans d,(aE (by omega)).trans e,(aE (by omega)).trans i,aG ⟨rfl,rfl⟩⟩
def co(l:List (Nat×Nat×Nat)):List Nat:=l.map (·.1)
theorem eZ{l:List (Nat×Nat×Nat)}{x i v:Nat}(a:x∉co l):∀y∈l,C8 A (A.put x i v) y.1:=fun y b=>D8 (fun e=>a (bu.2 ⟨y,b,e⟩))
theorem gW{a b:List (Nat×Nat×Nat)}{x:Nat×Nat×Nat}(h:(co (a++x::b)).Nodup):x.1∉co (a++b):=by
 unfold co at*;exact (List.nodup_cons.1 (((List.perm_middle (a:=x) (l₁:=a) (l₂:=b)).map (·.1)).nodup_iff.1 h)).1
theorem jS.Qy{c:Cx}{h m:Nat}(g:jS A c h)(n:(co (c.pre++c.post)).Nodup):jS (c.Qy A m) c m:=by
 cases c with
 |top=>trivial
 |Xi c x k f r=>
  obtain ⟨g1,i,j⟩:=g;have e:=gW (a:=c.pre) (b:=r.all++c.post) n;exact ⟨g1.left,i.Xj (fun y d=>eZ e y (by simp [d])),j.Xj (fun y d=>eZ e y (by simp at d ⊢;rcases d with d|d<;>simp [d]))⟩
 |Xn l x k f c=>
  obtain ⟨g1,i,j⟩:=g;have e:=gW (a:=c.pre++l.all) (b:=c.post) (x:=(x,k,f)) (by simpa [Cx.pre,Cx.post] using n);exact ⟨g1.right,i.Xj (fun y d=>eZ e y (by simp [d])),j.Xj (fun y d=>eZ e y (by simp at d ⊢;rcases d with d|d<;>simp [d]))⟩
end
def lr(l:List (Nat×Nat×Nat)):List Nat:=l.map (·.2.1)
def pX(l:List (Nat×Nat×Nat)):Prop:=(lr l).Pairwise (· < ·)
def yC(key:Nat):Cx->Prop
 | .top=>True
 | .Xi c _ k _ _=>key<k/\yC key c
 | .Xn _ _ k _ c=>k<key/\yC key c
theorem pX.parts{a b:List (Nat×Nat×Nat)}{y:Nat×Nat×Nat}(h:pX (a++y::b)):(∀z∈a,z.2.1<y.2.1)/\(∀z∈b,y.2.1<z.2.1)/\pX (a++b):=by
 unfold pX lr at*;rw [bD,cW,List.pairwise_append] at h;obtain ⟨e,f,d⟩:=h;obtain ⟨g,i⟩:=List.pairwise_cons.1 f;refine ⟨fun z c=>d _ (bu.2 ⟨z,c,rfl⟩) _ cq,fun z c=>g _ (bu.2 ⟨z,c,rfl⟩),?_⟩;rw [bD,List.pairwise_append];exact ⟨e,i,fun p hp q j=>d p hp q (bx _ j)⟩
theorem pX.put{a b:List (Nat×Nat×Nat)}{y:Nat×Nat×Nat}(h:pX (a++b))(g:∀z∈a,z.2.1<y.2.1)(i:∀z∈b,y.2.1<z.2.1):pX (a++y::b):=by
 unfold pX lr at*;rw [bD,List.pairwise_append] at h;rw [bD,cW,List.pairwise_append,List.pairwise_cons];obtain ⟨g1,e,f⟩:=h;refine ⟨g1,⟨fun p hp=> ?_,e⟩,fun p hp q c=> ?_⟩
 ·obtain ⟨z,d,rfl⟩:=bu.1 hp;exact i z d
 ·rcases bM.1 c with rfl|c
  ·obtain ⟨z,d,rfl⟩:=bu.1 hp;exact g z d
  ·exact f p hp q c
theorem mm{key:Nat}:∀(c:Cx) (t:Tr),pX (c.Qf t).all->yC key c->(∀y∈c.pre,y.2.1<key)/\∀y∈c.post,key<y.2.1
 | .top,_,_,_=>⟨fun y d=>(by cases d),fun y d=>(by cases d)⟩
 | .Xi c x k f r,t,ho,hd=>by
  have e:=mm c (.node t x k f r) ho hd.2;refine ⟨e.1,fun y d=> ?_⟩;rcases bB.1 d with d|d
  ·rcases bM.1 d with rfl|d
   ·exact hd.1
   ·rw [Cx.Qf,du,Tr.all] at ho;have g:=(pX.parts (a:=c.pre++t.all) (y:=(x,k,f)) (b:=r.all++c.post) (by simpa using ho)).2.1 y (by simp [d]);have:=hd.1;show key<y.2.1
    have h:k<y.2.1:=g;omega
  ·exact e.2 y d
 | .Xn l x k f c,t,ho,hd=>by
  have e:=mm c (.node l x k f t) ho hd.2;refine ⟨fun y d=> ?_,e.2⟩;rcases bB.1 d with d|d
  ·exact e.1 y d
  ·rcases bB.1 d with d|d
   ·rw [Cx.Qf,du,Tr.all] at ho;have g:=(pX.parts (a:=c.pre++l.all) (y:=(x,k,f)) (b:=t.all++c.post) (by simpa using ho)).1 y (by simp [d]);have:=hd.1;have h:y.2.1<k:=g;omega
   ·rw [bP.1 d];exact hd.1
theorem uk{l:List (Nat×Nat)}{i:Nat}(h:i<l.length)(b:Nat×Nat):(l.set i b).Perm (b::l.eraseIdx i):=by
 induction l generalizing i with
 |nil=>exact absurd h (fb _)
 |cons x l ih=>
  cases i with
  |zero=>exact .refl _
  |succ i=>exact (List.Perm.cons x (ih (Nat.lt_of_succ_lt_succ h))).trans (List.Perm.swap _ _ _)
theorem qq{l m:List (Nat×Nat)}{i:Nat}{a:Nat×Nat}(h:l.Perm (a::m))(e:l[i]? =some a):(l.eraseIdx i).Perm m:=by
 obtain ⟨b,d⟩:=al.1 e;have c:=uk b a;rw [<-d,List.set_getElem_self] at c;exact ((c.symm.trans (d▸h)).cons_inv)
def rR(l:List (Nat×Nat×Nat)):List (Nat×Nat):=l.map (·.2)
theorem pR{a b:List (Nat×Nat×Nat)}{y:Nat×Nat×Nat}:(rR (a++y::b)).Perm (y.2::rR (a++b)):=by
 unfold rR;exact (List.perm_middle (a:=y) (l₁:=a) (l₂:=b)).map _
theorem tA{l:List (Nat×Nat)}{a b:List (Nat×Nat×Nat)}{y:Nat×Nat×Nat}(h:l.Perm (rR (a++y::b)))(j:pX (a++y::b)){i:Nat}{p:Nat×Nat}(f:l[i]? =some p)(k:p.1=y.2.1):p=y.2:=by
 obtain ⟨d,e,_⟩:=j.parts;have g:=h.mem_iff.1 (aD f);obtain ⟨z,c,rfl⟩:=bu.1 g;rcases bB.1 c with c|c
 ·have:=d z c;omega
 ·rcases bM.1 c with rfl|c
  ·rfl
  ·have:=e z c;omega
def cR:List (Nat×Nat×Nat)->Nat
 |[]=>0
 |(x,_,_)::_=>x
def kE(A:AG):List (Nat×Nat×Nat)->Prop
 |[]=>True
 |(x,w,f)::l=>x≠0/\(A.np x=1/\A.nf x=1/\A.ng x=1)/\A.Qk x 0=cR l/\A.Qk x 1=f/\A.Qk x 2=w/\kE A l
structure kl(A:AG)(ls:List (Nat×Nat×Nat))(t:Tr):Prop where
 hl:kE A ls
 ht:gl A t
 nd:(co (ls++t.all)).Nodup
section
variable{A A':AG}{ls:List (Nat×Nat×Nat)}{t:Tr}{c:Cx}{rs:List Nat}
theorem mj{a b:List (Nat×Nat×Nat)}:co (a++b)=co a++co b:=bD
theorem kE.Xj:∀{ls:List (Nat×Nat×Nat)},kE A ls->(∀y∈ls,C8 A A' y.1)->kE A' ls
 |[],_,_=>trivial
 |(x,w,f)::l,⟨h1,h2,h3,h4,h5,h6⟩,g=>by
  obtain ⟨g1,a,b,d⟩:=g (x,w,f) cq;have e:=kE.Xj h6 (fun y h=>g y (bx _ h));unfold kE;rw [g1,a,b,d];exact ⟨h1,h2,h3,h4,h5,e⟩
theorem kE.ptr:∀{ls:List (Nat×Nat×Nat)},kE A ls->∀x∈co ls,x≠0/\A.sz x=4/\∀i,i<A.np x->A.Qk x i=0\/A.Qk x i∈co ls
 |(x,w,f)::l,⟨h1,⟨h2,h3,h4⟩,h5,_,_,h6⟩,z,a=>by
  rcases bM.1 a with rfl|a
  ·refine ⟨h1,by unfold AG.sz;omega,fun i b=> ?_⟩;obtain rfl:i=0:=by omega
   rw [h5]
   cases l with
   |nil=>exact .inl rfl
   |cons y l=>exact .inr (by simp [co,cR])
  ·obtain ⟨g1,d,e⟩:=kE.ptr h6 z a;exact ⟨g1,d,fun i b=>(e i b).imp id (fun h=>bx _ h)⟩
theorem kE.reach:∀{ls:List (Nat×Nat×Nat)},kE A ls->(cR ls=0\/Reach A.gr rs (cR ls))->∀x∈co ls,Reach A.gr rs x
 |(x,w,f)::l,⟨h1,⟨h2,h3,h4⟩,h5,_,_,h6⟩,hr,z,b=>by
  have d:Reach A.gr rs x:=hr.resolve_left h1;rcases bM.1 b with rfl|b
  ·exact d
  ·refine kE.reach h6 ?_ z b;by_cases a:cR l=0
   ·exact .inl a
   ·right;rw [<-h5] at a ⊢;exact AG.Ql d (by omega) a
theorem jI{t:Tr}:t.root=0\/t.root∈co t.all:=by
 cases t with
 |nil=>exact .inl rfl
 |node l x k f r=>exact .inr (by simp [Tr.all,Tr.root,co])
theorem gl.ptr:∀{t:Tr},gl A t->∀x∈co t.all,x≠0/\A.sz x=5/\∀i,i<A.np x->A.Qk x i=0\/A.Qk x i∈co t.all
 | .node l x k f r,⟨⟨h1,⟨h2,h3,h4⟩,h5,h6,_⟩,h7,h8⟩,z,b=>by
  have a:∀y,y∈co (Tr.node l x k f r).all↔y∈co l.all\/y=x\/y∈co r.all:=fun y=>by simp [Tr.all,co]
  rcases (a z).1 b with b|rfl|b
  ·obtain ⟨g1,e,g⟩:=gl.ptr h7 z b;exact ⟨g1,e,fun i d=>(g i d).imp id (fun h=>(a _).2 (.inl h))⟩
  ·refine ⟨h1,by unfold AG.sz;omega,fun i d=> ?_⟩;have j:i=0\/i=1:=by omega
   rcases j with rfl|rfl
   ·rw [h5];exact jI.imp id (fun h=>(a _).2 (.inl h))
   ·rw [h6];exact jI.imp id (fun h=>(a _).2 (.inr (.inr h)))
  ·obtain ⟨g1,e,g⟩:=gl.ptr h8 z b;exact ⟨g1,e,fun i d=>(g i d).imp id (fun h=>(a _).2 (.inr (.inr h)))⟩
theorem gl.reach:∀{t:Tr},gl A t->(t.root=0\/Reach A.gr rs t.root)->∀x∈co t.all,Reach A.gr rs x
 | .node l x k f r,⟨⟨h1,⟨h2,h3,h4⟩,h5,h6,_⟩,h7,h8⟩,hr,z,b=>by
  have d:Reach A.gr rs x:=hr.resolve_left h1;have e:z∈co l.all\/z=x\/z∈co r.all:=by simpa [Tr.all,co] using b
  rcases e with b|rfl|b
  ·refine gl.reach h7 ?_ z b;by_cases a:l.root=0
   ·exact .inl a
   ·right;rw [<-h5] at a ⊢;exact AG.Ql d (by omega) a
  ·exact d
  ·refine gl.reach h8 ?_ z b;by_cases a:r.root=0
   ·exact .inl a
   ·right;rw [<-h6] at a ⊢;exact AG.Ql d (by omega) a
theorem kl.Xh(h:kl A ls t)(j:cR ls∈rs)(k:t.root∈rs)(l:∀r∈rs,r=0\/r∈co (ls++t.all)):dE A rs (co (ls++t.all)):=by
 have f:∀z,z∈rs->z=0\/Reach A.gr rs z:=fun z m=>by
  by_cases e:z=0
  ·exact .inl e
  ·exact .inr (.root m e)
 refine ⟨h.nd,fun x=>⟨fun b=> ?_,fun b=> ?_⟩⟩
 ·rw [mj] at b;rcases bB.1 b with b|b
  ·exact h.hl.reach (f _ j) x b
  ·exact h.ht.reach (f _ k) x b
 ·induction b with
  |root q1 q2=>exact (l _ q1).resolve_left q2
  | @step a p _ q1 q2 d=>
   obtain ⟨i,g,rfl⟩:=bu.1 q1;have g:i<A.np a:=bv.1 g;rw [mj] at d ⊢;rcases bB.1 d with d|d
   ·exact dg _ (((h.hl.ptr a d).2.2 i g).resolve_left q2)
   ·exact List.mem_append_right _ (((h.ht.ptr a d).2.2 i g).resolve_left q2)
theorem kl.Wd(h:kl A ls t):A.Wd (co (ls++t.all))=4*ls.length+5*t.all.length:=by
 have b:∀l:List Nat,(∀m,(∀x∈l,A.sz x=m)->A.Wd l=m*l.length):=by
  intro l
  induction l with
  |nil=>intro m _;rfl
  |cons x l ih=>
   intro m d;have:=ih m (fun y g=>d y (bx _ g));unfold AG.Wd at*;rw [cW,eu,this,d x cq,bn,og,om]
 rw [mj];have e:=b _ 4 (fun x a=>(h.hl.ptr x a).2.1);have f:=b _ 5 (fun x a=>(h.ht.ptr x a).2.1);unfold AG.Wd at*;rw [bD,List.sum_append,e,f];simp [co]
def AG.push(A:AG)(k w f r:Nat):AG:=(((A.new k 1 1 1).put k 2 w).put k 1 f).put k 0 r
theorem kl.push(h:kl A ls t){k w f:Nat}(d:k≠0)(l:k∉co (ls++t.all)):kl (A.push k w f (cR ls)) ((k,w,f)::ls) t:=by
 obtain ⟨r,s,u,v,_⟩:=AG.Xb A k 1 1 1;have j:∀y,y≠k->C8 A (A.push k w f (cR ls)) y:=fun y a=>by
  obtain ⟨m,n,o,q,_⟩:=AG.Qo (A:=A) (p:=1) (f:=1) (g:=1) a;refine ⟨m,n,o,funext fun i=> ?_⟩;show (if y=k/\_ then _ else if y=k/\_ then _ else if y=k/\_ then _ else _)=_
  rw [aE (fun e=>a e.1),aE (fun e=>a e.1),aE (fun e=>a e.1),q]
 have b:∀y∈ls++t.all,y.1≠k:=fun y a e=>l (bu.2 ⟨y,a,e⟩)
 exact ⟨⟨d,⟨r,s,u⟩,aG ⟨rfl,rfl⟩,(aE (by omega)).trans (aG ⟨rfl,rfl⟩),(aE (by omega)).trans ((aE (by omega)).trans (aG ⟨rfl,rfl⟩)),h.hl.Xj (fun y a=>j _ (b y (dg _ a)))⟩,h.ht.Xj (fun y a=>j _ (b y (List.mem_append_right _ a))),List.nodup_cons.2 ⟨l,h.nd⟩⟩
theorem kl.pop{x:Nat×Nat×Nat}(h:kl A (x::ls) t):kl A ls t:=⟨h.hl.2.2.2.2.2,h.ht,(List.nodup_cons.1 h.nd).2⟩
theorem kl.at(h:kl A ls (c.Qf t)):kE A ls/\jS A c t.root/\gl A t/\(co (ls++(c.pre++t.all++c.post))).Nodup:=by
 have a:=(iM c t).1 h.ht;have b:=h.nd;rw [du] at b;exact ⟨h.hl,a.1,a.2,b⟩
theorem kl.of(a:kE A ls)(b:jS A c t.root)(d:gl A t)(e:(co (ls++(c.pre++t.all++c.post))).Nodup):kl A ls (c.Qf t):=⟨a,(iM c t).2 ⟨b,d⟩,by rw [du];exact e⟩
theorem rX{a b:List (Nat×Nat×Nat)}(h:(co b).Nodup)(d:a.Sublist b):(co a).Nodup:=h.sublist (d.map _)
theorem kl.field{l r:Tr}{x k f k' f' i v:Nat}(h:kl A ls (c.Qf (.node l x k f r)))(q:∀a b,iy A x a b k f->iy (A.put x i v) x a b k' f'):kl (A.put x i v) ls (c.Qf (.node l x k' f' r)):=by
 obtain ⟨j,m,⟨n,o,p⟩,g⟩:=h.at;have e:x∉co ((ls++(c.pre++l.all))++(r.all++c.post)):=gW (x:=(x,k,f)) (by simpa [Tr.all] using g);refine kl.of (j.Xj (fun y d=>eZ e y (by simp [d]))) ?_ ⟨q _ _ n,o.Xj (fun y d=>eZ e y (by simp [d])),p.Xj (fun y d=>eZ e y (by simp [d]))⟩ ?_
 ·exact m.Xj (fun y d=>eZ e y (by simp at d ⊢;rcases d with d|d<;>simp [d]))
 ·simpa [co,Tr.all] using g
theorem kl.Qy{s:Tr}(h:kl A ls (c.Qf t))(o:gl A s)(d:s.all.Sublist t.all):kl (c.Qy A s.root) ls (c.Qf s):=by
 obtain ⟨i,j,_,m⟩:=h.at;have e:(co (ls++(c.pre++s.all++c.post))).Nodup:=rX m (List.Sublist.append (List.Sublist.refl _) (List.Sublist.append (List.Sublist.append (List.Sublist.refl _) d) (List.Sublist.refl _)));have n:(co (c.pre++c.post)).Nodup:=rX e (by
  refine List.Sublist.trans ?_ (List.sublist_append_right _ _);exact List.Sublist.append (List.sublist_append_left _ _) (List.Sublist.refl _))
 have b:∀y∈ls++s.all,C8 A (c.Qy A s.root) y.1:=by
  cases c with
  |top=>exact fun y a=>⟨rfl,rfl,rfl,rfl⟩
  |Xi c x k f r=>
   have g:x∉co ((ls++(c.pre++s.all))++(r.all++c.post)):=gW (x:=(x,k,f)) (by simpa [Cx.pre,Cx.post] using e);exact fun y a=>eZ g y (by simp at a ⊢;rcases a with a|a<;>simp [a])
  |Xn l x k f c=>
   have g:x∉co ((ls++(c.pre++l.all))++(s.all++c.post)):=gW (x:=(x,k,f)) (by simpa [Cx.pre,Cx.post] using e);exact fun y a=>eZ g y (by simp at a ⊢;rcases a with a|a<;>simp [a])
 exact kl.of (i.Xj (fun y a=>b y (dg _ a))) (j.Qy n) (o.Xj (fun y a=>b y (List.mem_append_right _ a))) e
def AG.node(A:AG)(n k f:Nat):AG:=((A.new n 2 1 1).put n 3 k).put n 2 f
theorem qA{n k f y:Nat}(a:y≠n):C8 A (A.node n k f) y:=by
 obtain ⟨b,d,h,j,_⟩:=AG.Qo (A:=A) (p:=2) (f:=1) (g:=1) a;refine ⟨b,d,h,funext fun i=> ?_⟩;show (if y=n/\_ then _ else if y=n/\_ then _ else _)=_
 rw [aE (fun e=>a e.1),aE (fun e=>a e.1),j]
theorem zv(A:AG){n:Nat}(k f:Nat)(b:n≠0):iy (A.node n k f) n 0 0 k f:=by
 obtain ⟨d,e,g,a,_⟩:=AG.Xb A n 2 1 1;exact ⟨b,⟨d,e,g⟩,(aE (by omega)).trans ((aE (by omega)).trans (a 0)),(aE (by omega)).trans ((aE (by omega)).trans (a 1)),aG ⟨rfl,rfl⟩,(aE (by omega)).trans (aG ⟨rfl,rfl⟩)⟩
theorem kl.grow{n k f:Nat}(h:kl A ls (c.Qf .nil))(D:n≠0)(q:n∉co (ls++(c.Qf .nil).all)):kl (c.Qy (A.node n k f) n) ls (c.Qf (.node .nil n k f .nil)):=by
 obtain ⟨w,z,_,o⟩:=h.at;rw [du] at q;have i:∀y∈ls++(c.pre++c.post),y.1≠n:=fun y b e=>q (bu.2 ⟨y,by simpa [Tr.all] using b,e⟩)
 have j:=w.Xj (A':=A.node n k f) (fun y b=>qA (i y (dg _ b)));have m:=z.Xj (A':=A.node n k f) (fun y b=>qA (i y (List.mem_append_right _ b)));have g:gl (A.node n k f) (.node .nil n k f .nil):=⟨zv A k f D,trivial,trivial⟩;have p:(co (ls++(c.pre++(Tr.node .nil n k f .nil).all++c.post))).Nodup:=by
  have hp:(ls++(c.pre++(Tr.node .nil n k f .nil).all++c.post)).Perm ((n,k,f)::(ls++(c.pre++c.post))):=by
   have:=List.perm_middle (a:=(n,k,f)) (l₁:=ls++c.pre) (l₂:=c.post)
   simpa [Tr.all] using this
  refine ((hp.map (·.1)).nodup_iff).2 ?_;exact List.nodup_cons.2 ⟨fun C=>q (by simpa [co,Tr.all] using C),by simpa [co,Tr.all] using o⟩
 have v:kl (A.node n k f) ls ((Cx.top).Qf (c.Qf (.node .nil n k f .nil)))->kl (c.Qy (A.node n k f) n) ls (c.Qf (.node .nil n k f .nil)):=fun v=>kl.Qy (c:=c) (s:= .node .nil n k f .nil) v g (List.Sublist.refl _)
 have d:∀y∈ls++(Tr.node .nil n k f .nil).all,C8 (A.node n k f) (c.Qy (A.node n k f) n) y.1:=by
  cases c with
  |top=>exact fun y b=>⟨rfl,rfl,rfl,rfl⟩
  |Xi c x k' f' r=>
   have u:x∉co ((ls++(c.pre++(Tr.node .nil n k f .nil).all))++(r.all++c.post)):=gW (x:=(x,k',f')) (by simpa [Cx.pre,Cx.post] using p);exact fun y b=>eZ u y (by simp at b ⊢;rcases b with b|b<;>simp [b])
  |Xn l x k' f' c=>
   have u:x∉co ((ls++(c.pre++l.all))++((Tr.node .nil n k f .nil).all++c.post)):=gW (x:=(x,k',f')) (by simpa [Cx.pre,Cx.post] using p);exact fun y b=>eZ u y (by simp at b ⊢;rcases b with b|b<;>simp [b])
 have B:(co (c.pre++c.post)).Nodup:=by
  have:=(gk.1 (by rw [mj] at o;exact o)).2.1
  simpa [Tr.all] using this
 exact kl.of (j.Xj (fun y b=>d y (dg _ b))) (m.Qy B) (g.Xj (fun y b=>d y (List.mem_append_right _ b))) p
end
end Go.Proofs.YthahbijbpinneaaGreatDoor
