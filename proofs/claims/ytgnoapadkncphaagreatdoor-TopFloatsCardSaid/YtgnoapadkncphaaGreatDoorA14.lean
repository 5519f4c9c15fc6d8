import Derived.Test.YtgnoapadkncphaaGreatDoorA13
import Derived.MakeChecks
import Derived.Lib.LaidTab
import Derived.Test.YtgnoapadkncphaaGreatDoorRows
set_option maxRecDepth 100000
set_option maxHeartbeats 8000000
set_option linter.all false
namespace Go.Proofs.YtgnoapadkncphaaGreatDoor
open Go.RowKit Go.Proofs.Tryz
section
variable{v0 v1 v2 v3 v4 v5 v6:Int}{tr n cp:Nat}{p:Option Addr}{w:World}
theorem Ed(w:World)(p:Option Addr)(n cp:Nat):Calls prog 14 #[kF v0 v1 v2 v3 v4 v5 v6 tr,.slice p n cp] w fun e w'=>e= .returned (.bool (decide (2048<v3)||decide ((120:Int)<(n:Int))))/\J7 w w':=by
 obtain ⟨W1,b⟩:∃W1,w.alloc (.cells #[(v0:Int),(v1:Int),(v2:Int),(v3:Int),(v4:Int),(v5:Int),(v6:Int),.float .f64 tr] 24)=W1:=⟨_,rfl⟩;have d:J7 w W1:=by rw [<-b];exact (Kb _ w).alloc _
 have c:ay W1 w.heap.size [(v0:Int),(v1:Int),(v2:Int),(v3:Int),(v4:Int),(v5:Int),(v6:Int),.float .f64 tr] 24:=by rw [<-b];exact ay.new w _ _
 have i:=c.cell 3 rfl;have a:=ae d;clear d c;unfold kF;by_cases f:2048<v3
 ·rw [decide_eq_true f,Bool.true_or]
  go_enter func14,ntmps14
  go_wp2;go_ret;exact ⟨rfl,a.out⟩
 ·rw [decide_eq_false f,gF];have h:decide (2048<v3)=false:=decide_eq_false f;obtain ⟨N,g⟩:∃N:Int,N=(n:Int):=⟨_,rfl⟩
  go_enter func14,ntmps14
  go_wp2;go_ret;exact ⟨rfl,a.out⟩
def G8(v0 v1 v2 v3 v4 v5 v6:Int)(tr n:Nat)(A:AG)(w:World)(e:Ending)(w':World):Prop:=
 (e= .returned (.pointer none)/\J7 w w')\/(∃c b T,iC c/\kF v0 v1 v2 v3 v4 v5 v6 tr=sy c/\v3<=2048/\n<=120/\e= .returned (.pointer (some ⟨b,0,none⟩))/\eF b c A (List.replicate c.Sl 0) 0 0 T w'/\(∀k,T k->w.heap.size<=k)/\J7 w w')
theorem Ea(v:v1<=9223372036854775807)(x:v2<=9223372036854775807)(y:v3<=9223372036854775807)(B:ee w)(A:AG)(p:Option Addr)(n cp:Nat):Calls prog 4 #[kF v0 v1 v2 v3 v4 v5 v6 tr,.slice p n cp] w (G8 v0 v1 v2 v3 v4 v5 v6 tr n A w):=by
 obtain ⟨W1,g⟩:∃W1,w.alloc (.cells #[(v0:Int),(v1:Int),(v2:Int),(v3:Int),(v4:Int),(v5:Int),(v6:Int),.float .f64 tr] 24)=W1:=⟨_,rfl⟩;have s:J7 w W1:=by rw [<-g];exact (Kb _ w).alloc _
 have o:ay W1 w.heap.size [(v0:Int),(v1:Int),(v2:Int),(v3:Int),(v4:Int),(v5:Int),(v6:Int),.float .f64 tr] 24:=by rw [<-g];exact ay.new w _ _
 obtain ⟨F,G,I,J,K,L,M,N⟩:=qI o;have d:=ae (Ed (v0:=v0) (v1:=v1) (v2:=v2) (v3:=v3) (v4:=v4) (v5:=v5) (v6:=v6) (tr:=tr) W1 p n cp);have j:=ae (fun w2 (hf:J7 W1 w2)=>qI (o.frame hf id));have l:=ae s;have m:Hid (∀w',J7 w w'->G8 v0 v1 v2 v3 v4 v5 v6 tr n A w (.returned (.pointer none)) w'):=ae (fun w' h=> .inl ⟨rfl,h⟩);have f:Hid (v3<=2048->n<=120->∀w1,J7 w w1->Calls prog 15 #[kF v0 v1 v2 v3 v4 v5 v6 tr] w1 fun e w'=>∃u z:Value,e= .returned (.tuple #[u,z])/\G8 v0 v1 v2 v3 v4 v5 v6 tr n A w (.returned u) w'):=by
  show v3<=2048->n<=120->∀w1,_
  intro g1 R w1 hf;by_cases r:∃c,iC c/\kF v0 v1 v2 v3 v4 v5 v6 tr=sy c
  ·obtain ⟨c,r,C⟩:=r;have D:=zW r (aE B hf id) A;rw [<-C] at D;refine D.mono ?_;rintro e w' ⟨b,T,rfl,O,P,t⟩;exact ⟨_,_,rfl,.inr ⟨c,b,T,r,C,g1,R,rfl,O,fun k S=>aH hf.size (P k S),hf.trans t J8⟩⟩
  ·refine (Gn v x y r w1).mono ?_;rintro e w' ⟨rfl,t⟩;exact ⟨_,_,rfl,.inl ⟨rfl,hf.trans t J8⟩⟩
 clear v x y B s o;unfold kF at d f ⊢;generalize (G8 v0 v1 v2 v3 v4 v5 v6 tr n A w)=Q at*
 go_enter func4,ntmps4
 go_wp2_with fail
 refine d.out.mono ?_;rintro e w2 ⟨rfl,i⟩;obtain ⟨F,G,I,J,K,L,M,N⟩:=j.out w2 i;have a:=l.out.trans i J8
 cases hB:(decide (2048<v3)||decide ((120:Int)<(n:Int))) with
 |true=>
  have H:=ae (m.out w2 a);clear d j l m f i a hB g;go_wp2;exact H.out
 |false=>
  rw [gj,decide_eq_false_iff_not,decide_eq_false_iff_not] at hB;have q:=ae (f.out (by omega) (by omega) w2 a);clear d j l m f i a hB g;go_wp2_with fail
  refine q.out.mono ?_;rintro e w3 ⟨u,z,rfl,E⟩;have H:=ae E;clear q E F G I J K L M N;go_wp2;exact H.out
end
def An:List Sc:=[.int .i64,.int .i64,.int .i64,.int .i64,.int .i64,.int .i64,.int .i64,.float .f64]
theorem yj{n:Int}(h:(Lit.int .i64 n).wf=true):n<=9223372036854775807:=by
 simp [Lit.wf,IntKind.min,IntKind.max,IntKind.bits,IntKind.signed] at h;omega
theorem wL{cs:List Value}(h:gG An cs):∃(v0 v1 v2 v3 v4 v5 v6:Int) (tr:Nat),.agg cs.toArray=kF v0 v1 v2 v3 v4 v5 v6 tr/\v1<=9223372036854775807/\v2<=9223372036854775807/\v3<=9223372036854775807:=by
 rcases cs with _|⟨_,cs⟩
 ·exact h.elim
 obtain ⟨⟨v0,rfl,c⟩,h⟩:=h;rcases cs with _|⟨_,cs⟩
 ·exact h.elim
 obtain ⟨⟨v1,rfl,g1⟩,h⟩:=h;rcases cs with _|⟨_,cs⟩
 ·exact h.elim
 obtain ⟨⟨v2,rfl,a⟩,h⟩:=h;rcases cs with _|⟨_,cs⟩
 ·exact h.elim
 obtain ⟨⟨v3,rfl,b⟩,h⟩:=h;rcases cs with _|⟨_,cs⟩
 ·exact h.elim
 obtain ⟨⟨v4,rfl,d⟩,h⟩:=h;rcases cs with _|⟨_,cs⟩
 ·exact h.elim
 obtain ⟨⟨v5,rfl,e⟩,h⟩:=h;rcases cs with _|⟨_,cs⟩
 ·exact h.elim
 obtain ⟨⟨v6,rfl,f⟩,h⟩:=h;rcases cs with _|⟨_,cs⟩
 ·exact h.elim
 obtain ⟨⟨tr,rfl,g⟩,h⟩:=h;rcases cs with _|⟨_,cs⟩
 rotate_left
 ·exact h.elim
 exact ⟨v0,v1,v2,v3,v4,v5,v6,tr,rfl,yj g1,yj a,yj b⟩
theorem JO:prog.globalNamed "math/bits.deBruijn64tab" =some 1:=by kernel_rfl
theorem JM:(prog.globals[1]?).map (·.type)=some 301:=by kernel_rfl
theorem AR{W:World}(h:laidMetH prog [("math/bits.deBruijn64tab",Rows.laid_math_bits_deBruijn64tab)] W):ee W:=by
 rw [MakeChecks.laidMetH_plain _ _ _ (by kernel_rfl)] at h;obtain ⟨ps,⟨l,n,e,j,m,q0,a,c,d,b,_⟩,_⟩:=h;obtain rfl:=bK (JO.symm.trans a);obtain rfl:=bK (JM.symm.trans c);have f:=Lib.cells_of_tab (k:= .u8) (zs:=FB.map Int.ofNat) underlying301 underlying5 (by kernel_rfl) (by kernel_rfl) b;intro i k g;have:=World.var?_cell a d i;rw [this,<-Array.getElem?_toList,f];simp [g]
section
variable{b d x:Nat}{c:Cf}{bs Kp:List Nat}{w0 w w1 w':World}
theorem II(h:gy b c d x bs w0 Kp w){i v:Nat}(z:i<bs.length)(C:v<18446744073709551616):Calls prog 7 #[b,(d:Int),(i:Int),.float .f64 v] w fun e w'=>e= .returned (0:Int)/\gy b c d x (bs.set i v) w0 Kp w':=by
 obtain ⟨A,rs,u,n,T,f,j,l,m,t,g⟩:=h;refine (tv j d i v C).mono ?_;rintro e w' ⟨G,rfl,⟨s,y,H,o,rfl,F,D,r,E,p,q⟩|⟨B,_⟩⟩
 ·obtain rfl:d=s:=by omega
  rw [f.slot] at o
  cases o
  have I:=l.size;have hf:=f.setf z (j.hdok x f.reach) v;rw [hf.1];exact ⟨rfl,_,rs,F,D,r,hf.2,E,l.trans p (fun k a=> .inr (m k a)),fun k a=>(q k a).elim (m k) (fun h=>by omega),t,fun k a=>⟨fun h=>(q k h).elim (g k a).1 (fun h=>by have:=(g k a).2.1;omega),by have:=(g k a).2.1;have:=p.size;omega,(g k a).2.2⟩⟩
 ·exact absurd ⟨d,x,rfl,f.slot⟩ B
theorem Hm(h:gy b c d x bs w0 Kp w){i f:Nat}(j:bs[i]? =some f):Calls prog 10 #[b,(d:Int),(i:Int)] w fun e w'=>e= .returned (.tuple #[.float .f64 f,(0:Int)])/\kj b c d x bs w0 Kp w w':=
 h.ask (fun A rs u n T a g=>(kt g d i).mono (by
  rintro e w' ⟨⟨y,m,rfl,_,l⟩,k⟩;obtain ⟨rfl,rfl⟩:=l d x rfl a.slot;have hf:=uB a.ne (g.hdok x a.reach) (i:=i) (by rw [a.nf];exact (aj.1 j).1);rw [a.np,show ((0:Nat):Int)+(i:Int)=i by omega,bq,a.val i f j] at hf;rw [hf.1,hf.2];exact ⟨rfl,k⟩))
theorem Ex(h:gy b c d x bs w0 Kp w):Calls prog 12 #[b,(d:Int)] w fun e w'=>e= .returned (.tuple #[.float .f64 (fE.of bs).whole,(0:Int)])/\kj b c d x bs w0 Kp w w':=
 h.ask (fun A rs u n T a f=>(v9 f d).mono (by
  rintro e w' ⟨⟨y,j,rfl,i⟩,g⟩;obtain ⟨rfl,rfl⟩:=i d x rfl a.slot a.ne;rw [a.Qt];exact ⟨rfl,g⟩))
def CC(fs:List Nat)(i:Nat):List Nat:=fs.take i++List.replicate (fs.length-i) 0
theorem GE(a:List Nat){i:Nat}(e:i<=a.length):(CC a i).length=a.length:=by
 unfold CC;rw [aU,dY,bB];omega
theorem EG{a:List Nat}{i f:Nat}(e:a[i]? =some f):(CC a i).set i f=CC a (i+1):=by
 have g:=(aj.1 e).1;unfold CC;rw [List.set_append_right _ _ (by rw [dY];omega),dY,show i-min i a.length=0 by omega,show a.length-i=(a.length-(i+1))+1 by omega,gw,ab,bC,e];simp
theorem GF(a:List Nat):CC a a.length=a:=by
 unfold CC;rw [iQ,kU];simp
theorem Jg{p:Option Addr}{m k:Nat}(h:nO [.int .i64,.int .i64,.int .i64,.int .i64,.int .i64,.int .i64,.int .i64,.int .u64,.float .f64] w p m)(u:k<m):∃(g off:Nat) (K a s i A f q:Int) (r fl:Nat),p=some ⟨g,off,none⟩/\r<18446744073709551616/\fl<18446744073709551616/\∀w',J7 w w'->∀(j:Nat) v,(um K a s i A f q r fl)[j]? =some v->w'.cell? ⟨g,off+k*9+j,none⟩=some v:=by
 obtain ⟨g,off,cs,hp,e,t⟩:=h k u;rcases cs with _|⟨_,cs⟩
 ·exact e.elim
 obtain ⟨⟨v0,rfl,_⟩,e⟩:=e;rcases cs with _|⟨_,cs⟩
 ·exact e.elim
 obtain ⟨⟨v1,rfl,_⟩,e⟩:=e;rcases cs with _|⟨_,cs⟩
 ·exact e.elim
 obtain ⟨⟨v2,rfl,_⟩,e⟩:=e;rcases cs with _|⟨_,cs⟩
 ·exact e.elim
 obtain ⟨⟨v3,rfl,_⟩,e⟩:=e;rcases cs with _|⟨_,cs⟩
 ·exact e.elim
 obtain ⟨⟨v4,rfl,_⟩,e⟩:=e;rcases cs with _|⟨_,cs⟩
 ·exact e.elim
 obtain ⟨⟨v5,rfl,_⟩,e⟩:=e;rcases cs with _|⟨_,cs⟩
 ·exact e.elim
 obtain ⟨⟨v6,rfl,_⟩,e⟩:=e;rcases cs with _|⟨_,cs⟩
 ·exact e.elim
 obtain ⟨⟨y,rfl,z⟩,e⟩:=e;rcases cs with _|⟨_,cs⟩
 ·exact e.elim
 obtain ⟨⟨fl,rfl,l⟩,e⟩:=e;rcases cs with _|⟨_,cs⟩
 rotate_left
 ·exact e.elim
 simp [Lit.wf,IntKind.min,IntKind.max,IntKind.bits,IntKind.signed] at z;have l:fl<18446744073709551616:=of_decide_eq_true l;refine ⟨g,off,v0,v1,v2,v3,v4,v5,v6,y.toNat,fl,hp,by omega,l,fun w' hf j v n=> ?_⟩;unfold um at n;rw [nc (by omega)] at n;have o:=t j v n;exact (World.cell?_of_block (w:=w) (hf.block g (bu o) id)).trans o
theorem Gy{T:Nat->Prop}{A:AG}{u n N m:Nat}(h:eF b c A (List.replicate m 0) u n T w)(J:m=d+1)(hf:J7 w0 w)(j:∀k,T k->w0.heap.size<=k)(o:ch<w0.heap.size)(g:∀k∈Kp,¬T k/\k<w.heap.size/\w0.heap.size<=k):Calls prog 5 #[b,(d:Int),ft 0 (N:Int) 0] w fun e w'=>∃i:Int,e= .returned (i:Int)/\J7 w0 w'/\(∀k∈Kp,∀cs t,ay w k cs t->ay w' k cs t)/\(i=0->∃x,gy b c d x (List.replicate N 0) w0 Kp w'):=by
 have L:=hf.size;refine (rP h d 0 N 0).mono ?_;rintro e w' ⟨i,rfl,⟨rfl,s,k,P,F,G,K,I,E,H,a,C,B,y,r,z,f,p⟩|⟨v,B,y,r,z,f,p⟩⟩
 ·obtain rfl:d=s:=by omega
  obtain rfl:P=0:=by omega
  obtain rfl:F=N:=by omega
  obtain rfl:G=0:=by omega
  exact ⟨0,rfl,hf.trans f (fun k a=> .inr (j k a)),fun k a cs t l=>ay.frame l f (g k a).1,fun _=>⟨k,_,_,B,y,r,qz.make (by rw [bB];omega) (fun q D=>eS D) a C,z,hf.trans f (fun k a=> .inr (j k a)),fun k a=>(p k a).elim (j k) (fun h=>by omega),o,fun k a=>⟨fun h=>(p k h).elim (g k a).1 (fun h=>by have:=(g k a).2.1;omega),by have:=(g k a).2.1;have:=f.size;omega,(g k a).2.2⟩⟩⟩
 ·exact ⟨i,rfl,hf.trans f (fun k a=> .inr (j k a)),fun k a cs t l=>ay.frame l f (g k a).1,fun h=>by rw [h] at v;cases v⟩
end
def IW(w:World)(e:Ending)(w':World):Prop:=e= .returned (.bool true)/\J7 w w'
section
variable{v0 v1 v2 v3 v4 v5 v6:Int}{tr:Nat}{w:World}
theorem tX(b1:v1<=9223372036854775807)(b2:v2<=9223372036854775807)(b3:v3<=9223372036854775807)(hT:ee w){q p:Option Addr}{N cp M cm:Nat}{J:List Nat}(aR:mc w q N J)(a8:nO [.int .i64,.int .i64,.int .i64,.int .i64,.int .i64,.int .i64,.int .i64,.int .u64,.float .f64] w p M):Calls prog 3 #[kF v0 v1 v2 v3 v4 v5 v6 tr,.slice q N cp,.slice p M cm] w (IW w):=by
 obtain ⟨P,hP⟩:∃P:Int,max v4 2=P:=⟨_,rfl⟩;have bj:2<=P:=by rw [<-hP];omega
 obtain ⟨W1,az⟩:∃W1,w.alloc (.cells #[(v0:Int),(v1:Int),(v2:Int),(v3:Int),(P:Int),(v5:Int),(v6:Int),.float .f64 tr] 24)=W1:=⟨_,rfl⟩;have aN:J7 w W1:=by rw [<-az];exact (Kb _ w).alloc _
 have aC:ay W1 w.heap.size [(v0:Int),(v1:Int),(v2:Int),(v3:Int),(P:Int),(v5:Int),(v6:Int),.float .f64 tr] 24:=by rw [<-az];exact ay.new w _ _
 obtain ⟨k0,k1,k2,k3,k4,k5,k6,k7⟩:=qI aC;have a9:ch<w.heap.size:=bu (hT 0 0 rfl);have ax:=ae (Ea (v0:=v0) (v4:=P) (v5:=v5) (v6:=v6) (tr:=tr) b1 b2 b3 (aE hT aN id) ⟨fun _=>0,fun _=>0,fun _=>0,fun _ _=>0⟩ p M cm);have s:=ae (fun w1 (hf:J7 w w1)=>(yn w1 (aE hT hf id)).mono (fun e w' h=>af h.1 (show IW w (.returned (.bool true)) w' from ⟨rfl,hf.trans h.2 J8⟩)));have O:=ae aN;have S:=ae aC;have r:=ae (fun w1 (hf:J7 w w1)=>aR.frame hf);have E:=ae aR.len;have t:=ae (fun w1 (hf:J7 w w1)=>a8.frame hf);have ad:=ae a9;clear b1 b2 b3 hT aN aC aR a8 a9;unfold kF at ax ⊢;generalize hQ:(IW w)=Q at*;clear hQ
 go_enter func3,ntmps3
 go_upto_region 2 with fail
 clear hP;go_wp2_with fail
 refine ax.out.mono ?_;rintro e w2 bn;clear k0 k1 k2 k3 k4 k5 k6 k7 ax az;rcases bn with ⟨rfl,G⟩|⟨c,b,T,hc,a5,bs,hM,rfl,hi,ah,G⟩
 ·have B:=ae (s.out w2 (O.out.trans G J8));clear s O S ad r t G E;go_wp2_with fail
  refine B.out.mono ?_;rintro e w3 ⟨rfl,n⟩;have H:=ae n;clear B n;go_wp2;exact H.out
 ·have hv:=Array.mk.inj (Value.agg.inj a5);simp only [jj,Value.int.injEq,true_and,and_true,Value.float.injEq] at hv;obtain ⟨e0,e1,e2,e3,e4,e5,e6,e7⟩:=hv;obtain ⟨d,hd⟩:∃d,c.Sl=d+1:=⟨c.Sl-1,by omega⟩;have bk:P=(d:Int)+1:=by omega
  have aT:IntKind.i64.wrap ((d:Int)+1-1)=(d:Int):=by
   have:=hc.Ya;have:=hc.Zd;rw [IntKind.wrap_i64];omega
  have HM:=ae hM;clear e0 e1 e2 e3 e4 e5 e6 e7 a5 bs hc bj hM;subst bk;have L:=O.out.trans G J8;have U:=S.out.frame G id;have k4:=U.cell 4 rfl;by_cases am:200<N
  ·have c1:(200:Int)<(N:Int):=by omega
   have B:=ae (s.out w2 L);clear s O S ad r t E G L U am hi ah hd aT k4;go_wp2_with fail
   refine B.out.mono ?_;rintro e w9 ⟨rfl,n⟩;have H:=ae n;clear B n;go_wp2;exact H.out
  ·have c1:decide ((200:Int)<(N:Int))=false:=by rw [decide_eq_false_iff_not];omega
   have bd:=O.out.size;have bm:=S.out.lt;have ap:=ae (Gy (Kp:=[w.heap.size]) (N:=N) hi hd L (fun k hk=>aH bd (ah k hk)) ad.out (fun k hk=>by
    simp only [dc] at hk;subst hk;exact ⟨fun h=>by have:=ah _ h;omega,U.lt,ag _⟩))
   have aq:=ae U;unfold ft at ap;have Y:IntKind.i64.wrap (d:Int)=(d:Int):=by rwa [Int.add_sub_cancel] at aT
   clear O S ad G L U hi ah hd bd bm;have HN:=ae (show N<=200 by omega);clear am;go_wp2_with fail
   refine ap.out.mono ?_;rintro e w3 ⟨cd,rfl,aO,aS,hx⟩;clear ap;by_cases aG:cd=0
   ·subst aG;obtain ⟨x,hx⟩:=hx rfl;have bw:=(aS w.heap.size (by simp) _ _ aq.out).cell 4 rfl;have H0:Hid (gy b c d x (CC J 0) w [w.heap.size] w3):=by
     show gy b c d x (CC J 0) w [w.heap.size] w3
     unfold CC;rw [aA,dz,Nat.sub_zero,E.out];exact hx
    clear aO aS hx aq c1 k4;go_wp2;clear bw
    go_loopw [53] (fun z wr=>∃i:Nat,z= .int .i64 i/\i<=N/\Hid (gy b c d x (CC J i) w [w.heap.size] wr)) (fun z _=>(N-intOf z).toNat)
    case atStart=>exact ⟨0,rfl,ao _,H0⟩
    case round=>
     clear H0;obtain ⟨i,rfl,I,C⟩:=hrel;by_cases m:i<N
     ·obtain ⟨pb,off,f,rfl,A,X,F⟩:=(r.out wr C.out.fr).at m;have c1:(i:Int)<(N:Int):=by omega
      have a7:=E.out;have l:=ae m;have ba:IntKind.i64.wrap ((i:Int)+1)=((i+1:Nat):Int):=by have:=HN.out;rw [IntKind.wrap_i64];omega
      have aY:Hid (∀w',J7 wr w'->Calls prog 7 #[b,(d:Int),(i:Int),.float .f64 f] w' fun e bx=>e= .returned (0:Int)/\gy b c d x (CC J (i+1)) w [w.heap.size] bx):=by
       show∀w',_
       intro w' hf;have:=II (C.out.Qb hf) (i:=i) (v:=f) (by rw [GE J (by omega)];omega) X;rwa [EG A] at this
      have aX:=ae (fun w=>un f w);clear C A X r t s a7 m;go_wp2_with fail
      refine (aX.out _).mono ?_;rintro e w4 ⟨rfl,rfl⟩;go_wp2_with fail
      refine (aY.out _ (Kb _ _)).mono ?_;rintro e w5 ⟨rfl,n⟩;have H5:=ae n;clear aY n F aX;go_wp2;go_roundw
      case rel=>exact ⟨i+1,rfl,l.out,H5⟩
      case measure=>have:=l.out;simp [intOf];omega
     ·obtain rfl:N=i:=by omega
      have H1:Hid (gy b c d x J w [w.heap.size] wr):=by
       have h:=C.out;rwa [<-E.out,GF] at h
      have c1:¬(N:Int)<(N:Int):=by omega
      clear C m I;go_wp2
      go_loopw [68] (fun z wr=>∃j:Nat,z= .int .i64 j/\j<=M/\Hid (gy b c d x J w [w.heap.size] wr)) (fun z _=>(M-intOf z).toNat)
      case atStart=>exact ⟨0,rfl,ao _,H1⟩
      case round=>
       clear H1;obtain ⟨j,rfl,bl,C⟩:=hrel;by_cases m:j<M
       ·obtain ⟨g,off,K,a,bb,oi,op,ak,oq,wd,fl,rfl,Y,X,u⟩:=Jg (t.out wr C.out.fr) m;have c1:(j:Int)<(M:Int):=by omega
        have l:=ae m;have e0:wr.cell? ⟨g,off+j*9,none⟩=some (K:Int):=u wr (Kb _ _) 0 _ rfl;have e1:=u wr (Kb _ _) 1 _ rfl;have e2:=u wr (Kb _ _) 2 _ rfl;have e3:=u wr (Kb _ _) 3 _ rfl;have e4:=u wr (Kb _ _) 4 _ rfl;have e5:=u wr (Kb _ _) 5 _ rfl;have e6:=u wr (Kb _ _) 6 _ rfl;have e7:=u wr (Kb _ _) 7 _ rfl;have e8:=u wr (Kb _ _) 8 _ rfl;have bq:∀(w:World) (a:Addr) (v:Nat),(store a (.float .f64 v)).run prog w=stored prog w a (.float .f64 v) .plain:=fun w a v=>run_store _ w a _ _ rfl
        clear u m
        go_upto_region 15 with fail
        clear e0 e1 e2 e3 e4 e5 e6 e7 e8 bq;obtain ⟨W4,aj⟩:∃W4,wr.alloc (.cells #[(K:Int),(a:Int),(bb:Int),(oi:Int),(op:Int),(ak:Int),(oq:Int),.int .u64 wd,.float .f64 fl] 38)=W4:=⟨_,rfl⟩;rw [aj];have h4:gy b c d x J w [wr.heap.size,w.heap.size] W4:=by rw [<-aj];exact C.out.add _
        have W:ay W4 wr.heap.size (um K a bb oi op ak oq wd fl) 38:=by rw [<-aj];exact ay.new wr (um K a bb oi op ak oq wd fl) _
        have H4:=ae h4.less;obtain ⟨_,e1,e2,_⟩:=Kf W;have bC:IntKind.i64.wrap ((j:Int)+1)=((j+1:Nat):Int):=by have:=HM.out;have:=l.out;rw [IntKind.wrap_i64];omega
        obtain ⟨xb,bc⟩:∃xb,xb=wr.heap.size:=⟨_,rfl⟩;rw [<-bc] at h4 W e1 e2 ⊢;have o:=ae W;have Z:=ae h4;clear aj h4 W bc C;by_cases ha:a=(d:Int)
        ·have ca:(a==(d:Int))=true:=by rw [beq_iff_eq];exact ha
         clear o Z t;go_wp2;go_roundw
         case rel=>exact ⟨j+1,rfl,l.out,H4⟩
         case measure=>have:=l.out;simp [intOf];omega
        by_cases hb:bb=(d:Int)
        ·have ca:(a==(d:Int))=false:=by rw [beq_eq_false_iff_ne];exact ha
         have cb:(bb==(d:Int))=true:=by rw [beq_iff_eq];exact hb
         clear o Z t ha;go_wp2;go_roundw
         case rel=>exact ⟨j+1,rfl,l.out,H4⟩
         case measure=>have:=l.out;simp [intOf];omega
        have ca:(a==(d:Int))=false:=by rw [beq_eq_false_iff_ne];exact ha
        have cb:(bb==(d:Int))=false:=by rw [beq_eq_false_iff_ne];exact hb
        have ar:=ae (Jn Z.out K ha hb oi op ak oq Y X);have e0:=o.out.cell 0 rfl;have e3:=o.out.cell 3 rfl;have e4:=o.out.cell 4 rfl;have e5:=o.out.cell 5 rfl;have e6:=o.out.cell 6 rfl;have e7:=o.out.cell 7 rfl;have e8:=o.out.cell 8 rfl;unfold um at ar;clear ha hb H4;go_wp2_with fail
        refine ar.out.mono ?_;rintro e w5 ⟨⟨vv,rfl⟩,n⟩;clear ar e0 e1 e2 e3 e4 e5 e6 e7 e8;have e7:=(n.2.2 xb (by simp) _ _ o.out).cell 7 rfl;have H5:=ae n.1.less;clear n o Z;by_cases a3:N=0
        ·have cN:decide ((0:Int)<(N:Int))=false:=by rw [decide_eq_false_iff_not];omega
         have a2:¬(0:Int)<(N:Int):=by omega
         clear e7 t a3;go_wp2;go_roundw
         case rel=>exact ⟨j+1,rfl,l.out,H5⟩
         case measure=>have:=l.out;simp [intOf];omega
        have a4:0<N:=by omega
        obtain ⟨i,hi⟩:∃i,i=wd% N:=⟨_,rfl⟩;have I:i<N:=by rw [hi];exact aI _ a4
        obtain ⟨pb,be,f,rfl,A,aP,F⟩:=(r.out w (Kb _ _)).at I;have aU:=ae (fun w' (hf:J7 w w')=>(World.cell?_of_block (w:=w) (hf.block _ (bu F) id)).trans F);have cN:decide ((0:Int)<(N:Int))=true:=by rw [decide_eq_true_eq];omega
        have a2:(0:Int)<(N:Int):=by omega
        have bi:((N:Int)==0)=false:=by rw [beq_eq_false_iff_ne];omega
        have bt:IntKind.u64.wrap (N:Int)=(N:Int):=by have:=HN.out;rw [IntKind.wrap_u64];omega
        have bv:IntKind.i64.wrap (i:Int)=(i:Int):=by have:=HN.out;rw [IntKind.wrap_i64];omega
        have bo:(wd:Int)% (N:Int)=(i:Int):=by rw [hi];omega
        have R:=ae (Hm (b:=b) H5.out A);have D:=ae (fun w=>gB f w);have bB:=ae A;have bg:=ae I;have ci:(i:Int)<(N:Int):=by omega
        have cf:((f:Int)==(f:Int))=true:=by rw [beq_iff_eq]
        clear hi I a4 a3 A aP t Y X F;go_wp2_with fail
        refine R.out.mono ?_;rintro e w6 ⟨rfl,n⟩;have e6:=aU.out w6 n.1.fr;have aW:=ae (fun k=>n.1.Qb ((Kb (fun _=>False) w6).drewN k));clear R aU n H5 bg bo bv bt cN a2 bi e7;go_wp2;refine lL 8 (by kernel_rfl) ?_;simp only [Kc]
        repeat (go_big_quiet_step (fail))
        refine bf (.int .u64 f) 11 #[.float .f64 f] rfl (fun w=>by go_simp) (fun w hw=>(D.out w).mono fun e w' h=>⟨h.1,h.2▸hw⟩) ?_;simp only [aa]
        repeat (go_big_quiet_step (fail))
        refine wpQuiet_nil ?_;rintro w7 ⟨k,rfl⟩;have H7:=ae (aW.out k);clear aW e6 D;go_wp2;go_roundw
        case rel=>exact ⟨j+1,rfl,l.out,H7⟩
        case measure=>have:=l.out;simp [intOf];omega
       ·obtain rfl:M=j:=by omega
        have c1:¬(M:Int)<(M:Int):=by omega
        have H2:=C;clear C m bl t;go_wp2
        go_loopw [116] (fun z wr=>∃i:Nat,z= .int .i64 i/\i<=N/\Hid (gy b c d x J w [w.heap.size] wr)) (fun z _=>(N-intOf z).toNat)
        case atStart=>exact ⟨0,rfl,ao _,H2⟩
        case round=>
         clear H2;obtain ⟨i,rfl,I,C⟩:=hrel;by_cases m:i<N
         ·obtain ⟨pb,be,f,rfl,A,aP,F⟩:=(r.out wr C.out.fr).at m;have c1:(i:Int)<(N:Int):=by omega
          have l:=ae m;have ba:IntKind.i64.wrap ((i:Int)+1)=((i+1:Nat):Int):=by have:=HN.out;rw [IntKind.wrap_i64];omega
          have R:=ae (Hm (b:=b) C.out A);have D:=ae (fun w=>gB f w);clear C A aP r s m;go_wp2_with fail
          refine R.out.mono ?_;rintro e w6 ⟨rfl,n⟩;have H6:=ae n.1;clear R n F;go_wp2_with fail
          refine (D.out _).mono ?_;rintro e w7 ⟨rfl,rfl⟩;have cf:((f:Int)==(f:Int))=true:=by rw [beq_iff_eq]
          go_wp2;go_roundw
          case rel=>exact ⟨i+1,rfl,l.out,H6⟩
          case measure=>have:=l.out;simp [intOf];omega
         ·obtain rfl:N=i:=by omega
          have c1:¬(N:Int)<(N:Int):=by omega
          have a1:=ae (Ex (b:=b) C.out);have a0:Hid (∀w',J7 w w'->Calls prog 13 #[.slice q N cp] w' (eM w' (fE.of J).whole)):=by
           show∀w',_
           intro w' hf;rw [xu J (r.out w' hf).2];exact xG q N cp J w' (r.out w' hf) (by have:=HN.out;omega)
          have D:=ae (fun y w=>gB y w);clear C m I r E;generalize (fE.of J).whole=V at*;go_wp2_with fail
          refine a1.out.mono ?_;rintro e w6 ⟨rfl,n⟩;have av:=ae n.1.fr;clear a1 n;go_wp2_with fail
          refine (D.out V _).mono ?_;rintro e w7 ⟨rfl,rfl⟩;go_wp2_with fail
          refine (a0.out _ av.out).mono ?_;rintro e w8 ⟨rfl,a6⟩;have HL:=ae (s.out w8 (av.out.trans a6 J8));have cf:((V:Int)==(V:Int))=true:=by rw [beq_iff_eq]
          clear a0 a6 av D s;go_wp2_with fail
          refine HL.out.mono ?_;rintro e w9 ⟨rfl,n⟩;have H:=ae n;clear HL n;go_wp2;exact H.out
   ·have aG:(cd==0)=false:=by rw [beq_eq_false_iff_ne];exact aG
    have B:=ae (s.out w3 aO);clear s r t E aO aS hx aT aq c1;go_wp2_with fail
    refine B.out.mono ?_;rintro e w9 ⟨rfl,n⟩;have H:=ae n;clear B n;go_wp2;exact H.out
end
theorem CJ{w:World}{p:Option Addr}{b:Nat}{zs:List Int}(h:xa .u64 w p b zs)(g:∀n∈zs,(Lit.int .u64 n).wf=true):mc w p b (zs.map Int.toNat):=by
 have c:∀n∈zs,0<=n/\n<18446744073709551616:=fun n a=>by
  have d:=g n a;simp only [Lit.wf,ak,decide_eq_true_eq] at d;have i:IntKind.u64.min=0:=by rfl
  have j:IntKind.u64.max=18446744073709551615:=by rfl
  omega
 refine ⟨?_,fun f hf=> ?_⟩
 ·have e:(zs.map Int.toNat).map Int.ofNat=zs:=by
   rw [kZ]
   conv=>rhs;rw [<-List.map_id zs]
   exact dP fun n a=>by
    have:=c n a;show Int.ofNat n.toNat=n
    exact nc this.1
  rw [e];exact h
 ·obtain ⟨n,a,rfl⟩:=bw.1 hf;have:=c n a;omega
theorem uO{cs:List Value}{q p:Option Addr}{N f M d:Nat}{z:List Int}{W:World}(h:gG An cs)(g:xa .u64 W q N z)(k:∀n∈z,(Lit.int .u64 n).wf=true)(i:nO [.int .i64,.int .i64,.int .i64,.int .i64,.int .i64,.int .i64,.int .i64,.int .u64,.float .f64] W p M)(j:laidMetH prog Rows.topFloatsRow.laid W):Calls prog 3 #[.agg cs.toArray,.slice q N f,.slice p M d] W fun e w'=>e= .returned (.bool true)/\J7 W w':=by
 obtain ⟨v0,v1,v2,v3,v4,v5,v6,tr,e,a,b,c⟩:=wL h;rw [e];exact tX a b c (AR j) (CJ g k) i
end Go.Proofs.YtgnoapadkncphaaGreatDoor
