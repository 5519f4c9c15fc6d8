import Derived.Test.YtgnoapadkncphaaGreatDoorA0
import Derived.Test.YtgnoapadkncphaaGreatDoorA10
import Derived.Deep.MidRow
import Derived.Test.YtgnoapadkncphaaGreatDoorShelf
import Derived.Laws.Rows
import Derived.Deep.DeepCutAuto
import Derived.Laws.BitsLemmas
import Derived.IntWalk
set_option maxRecDepth 100000
set_option maxHeartbeats 8000000
set_option linter.all false
namespace Go.Proofs.YtgnoapadkncphaaGreatDoor
open Go.RowKit Go.Proofs.Tryz
theorem kp:∀(ns:List Nat) (k:Nat),k<=ns.length->Qj ns=Qj (ns.take k)+18446744073709551616^k*Qj (ns.drop k)
 |ns,0,_=>by simp [Qj]
 |[],k+1,h=>by grind
 |a::ns,k+1,h=>by
  have b:=kp ns k (by grind);rw [al,an,Qj,Qj,b,d9,mj,bg (18446744073709551616^k) 18446744073709551616,eR];omega
theorem lG:∀(ns:List Nat),(∀x∈ns,x=0)->Qj ns=0
 |[],_=>rfl
 |a::ns,h=>by rw [Qj,lG ns (fun x b=>h x (bm _ b)),h a cw]
theorem fH.take{ns:List Nat}(h:fH ns)(k:Nat):fH (ns.take k):=fun x a=>h x (eN a)
def jZ(N L:Nat):Prop:=N<2^L/\(0<L->2^(L-1)<=N)
theorem tL(x:Nat)(d:x≠0)(h:x<18446744073709551616):jZ x (Lib.bitLen x)/\0<Lib.bitLen x/\Lib.bitLen x<=64:=by
 have g:∀(f x:Nat),x≠0->x<2^f->f<=64->jZ x (Lib.bitLen x)/\0<Lib.bitLen x:=by
  intro f
  induction f with
  |zero=>omega
  |succ f ih=>
   intro x d h hf;have e:x<2^64:=bn h (bl (by decide) hf);rw [Lib.bitLen_half x d e];by_cases i:x/2=0
   ·have:x=1:=by omega
    subst this;exact ⟨⟨by decide,by decide⟩,by omega⟩
   ·obtain ⟨⟨a,b⟩,c⟩:=ih (x/2) i (by omega) (by omega);have j:=b c;refine ⟨⟨?_,fun _=> ?_⟩,by omega⟩
    ·grind
    ·rw [show 1+Lib.bitLen (x/2)-1=(Lib.bitLen (x/2)-1)+1 by omega,d9];omega
 have:=g 64 x d h (ag _);simp_all [Lib.bitLen_le]
def mb(ns:List Nat)(k:Nat):Prop:=∀j,k<=j->∀x,ns[j]? =some x->x=0
theorem mb.Qj{ns:List Nat}{k:Nat}(h:mb ns k)(b:k<=ns.length):Qj ns=Qj (ns.take k):=by
 rw [kp ns k b,lG (ns.drop k),oU,aP];intro x c;obtain ⟨j,a⟩:=bc.1 c;rw [gW] at a;exact h (k+j) (by omega) x a
theorem Iz{ns:List Nat}{k x:Nat}(i:fH ns)(h:mb ns (k+1))(j:ns[k]? =some x)(e:x≠0):jZ (Qj ns) (64*k+Lib.bitLen x):=by
 have o:k<ns.length:=(aj.1 j).1;have f:=i.get j;obtain ⟨⟨a,b⟩,c,d⟩:=tL x e f;have n:=b c;rw [h.Qj o,kp (ns.take (k+1)) k (by grind)];have l:(ns.take (k+1)).take k=ns.take k:=by grind
 have m:(ns.take (k+1)).drop k=[x]:=by
  grind [List.take_add_one]
 have g:=nA (i.take k);rw [dY,gN (by omega)] at g;rw [l,m];simp only [Qj,oU,aP];have hp:(18446744073709551616:Nat)^k=2^(64*k):=by rw [mg]
 rw [hp] at g ⊢;generalize Qj (ns.take k)=r at*;refine ⟨?_,fun _=> ?_⟩
 ·rw [cT];have:2^(64*k)*(x+1)<=2^(64*k)*2^Lib.bitLen x:=cg _ a
  grind
 ·rw [show 64*k+Lib.bitLen x-1=64*k+(Lib.bitLen x-1) by omega,cT];have:2^(64*k)*2^(Lib.bitLen x-1)<=2^(64*k)*x:=cg _ n;omega
def aD(ns:List Nat):List Value:=ns.map (fun n:Nat=>Value.int .u64 n)
def jC(ns:List Nat):Value:= .agg (aD ns).toArray
theorem ia{ns:List Nat}{i x:Nat}(h:ns[i]? =some x):(aD ns)[i]? =some (.int .u64 x):=by
 grind [aD]
def uQ(w:World)(ns:List Nat)(e:Ending)(w':World):Prop:=∃L:Nat,e= .returned (L:Int)/\L<=2240/\jZ (Qj ns) L/\J7 w w'
theorem yf(ns:List Nat)(M:ns.length=35)(s:fH ns)(w:World):
  Calls prog 136 #[jC ns] w (uQ w ns):=by
 unfold jC;have g:=ay.new w (aD ns) 130;have h:J7 w (w.alloc (.cells (aD ns).toArray 130)):=(Kb _ w).alloc _;generalize D:(aD ns).toArray=cs at*;generalize G:w.alloc (.cells cs 130)=w1 at*;generalize H:w.heap.size=b at*;have z:Hid (ay w1 b (aD ns) 130):=g;have r:Hid (J7 w w1):=h;clear g h
 go_enter func136,ntmps136
 go_wp2
 go_loopw [3] (fun i wr=>∃k:Nat,k<=35/\i= .int .i64 ((k:Int)-1)/\mb ns k/\wr=w1) (fun i _=>(intOf i+1).toNat)
 case atStart=>exact ⟨35,ag _,rfl,fun j J x f=>by have:=(aj.1 f).1;omega,rfl⟩
 case round=>
  obtain ⟨k,K,rfl,l,rfl⟩:=hrel;rcases dB k with rfl|F
  ·have c:uQ w ns (.returned (.int .i64 ((0:Nat):Int))) wr:=⟨0,rfl,by omega,by
    have B:Qj ns=0:=by rw [l.Qj (by omega)];rfl
    rw [B];exact ⟨by decide,by decide⟩,r.out⟩
   go_wp2;go_ret;exact c
  ·obtain ⟨j,rfl⟩:∃j,k=j+1:=⟨k-1,by omega⟩;rw [show ((j+1:Nat):Int)-1=(j:Int) by omega];obtain ⟨x,f⟩:∃x,ns[j]? =some x:=⟨ns[j]'(by omega),by simp⟩;have I:=z.out.cell j (ia f);have o:=s.get f;have u:(j:Int)<35:=by omega
   by_cases d:x=0
   ·have q:Hid (mb ns j):=fun i m y p=>by
     rcases jM m with rfl|m
     ·rw [f] at p;cases p;exact d
     ·exact l i m y p
    subst d;clear f l;go_wp2;go_roundw
    case rel=>exact ⟨j,by omega,by go_num,q.out,trivial⟩
    case measure=>simp [intOf]
   ·have v:=Iz s l f d;obtain ⟨_,t,C⟩:=tL x d o;have a:=Tryz.bits_Len64 (x:Int) wr (by omega) (by omega);rw [eP] at a;generalize Lib.bitLen x=L at*;have A:=ae a;have c:uQ w ns (.returned (.int .i64 ((64*j+L:Nat):Int))) wr:=⟨_,rfl,by omega,v,r.out⟩;have E:decide ((x:Int)>0)=true:=by simp;omega
    have e:((64*j+L:Nat):Int)=64*(j:Int)+L:=by omega
    rw [e] at c;clear a v f l e;go_wp2_with fail
    refine A.out.mono ?_;rintro e w2 ⟨rfl,n⟩;subst n;go_wp2;go_ret;exact c
theorem BV(x y o:Nat)(d:x<18446744073709551616)(j:o<64):
  (x/2^o)|||(y*2^(64-o)% 18446744073709551616)=(x+18446744073709551616*y)/2^o% 18446744073709551616:=by
 have c:(18446744073709551616:Nat)=2^(64-o)*2^o:=by rw [<-cT,show 64-o+o=64 by omega]
 have hp:=im o;have f:(x+18446744073709551616*y)/2^o=x/2^o+2^(64-o)*y:=by
  grind [Nat.mul_right_comm,Nat.add_mul_div_right]
 have e:x/2^o<2^(64-o):=by
  rw [aO hp,<-c];exact d
 have g:y*2^(64-o)% 18446744073709551616=2^(64-o)*(y% 2^o):=by
  grind [Nat.mul_comm,Nat.mul_mod_mul_left]
 have h:(x/2^o+2^(64-o)*y)% 18446744073709551616=x/2^o+2^(64-o)*(y% 2^o):=by
  have a:2^(64-o)*y=2^(64-o)*(y% 2^o)+18446744073709551616*(y/2^o):=by
   grind [Nat.mod_add_div]
  rw [a,<-cv,dS];apply fd;have b:y% 2^o<2^o:=aI _ hp;have i:2^(64-o)*(y% 2^o+1)<=2^(64-o)*2^o:=cg _ b
  grind
 grind [Nat.two_pow_add_eq_or_of_lt]
theorem xB{ns:List Nat}{i x:Nat}(a:fH ns)(b:ns[i]? =some x):∃r z,Qj ns=r+18446744073709551616^i*(x+18446744073709551616*z)/\r<18446744073709551616^i/\r=Qj (ns.take i)/\z=Qj (ns.drop (i+1)):=by
 have c:i<ns.length:=(aj.1 b).1;refine ⟨Qj (ns.take i),Qj (ns.drop (i+1)),?_,?_,rfl,rfl⟩
 ·rw [kp ns i (by omega)];congr 1;congr 1
  have:ns.drop i=x::ns.drop (i+1):=by
   grind [List.drop_eq_getElem_cons]
  rw [this];rfl
 ·have:=nA (a.take i)
  grind
theorem Dk(a:Nat):(2:Nat)^a=18446744073709551616^(a/64)*2^(a% 64):=by
 grind [Nat.pow_mul,Nat.pow_add,Nat.div_add_mod]
theorem EO{ns:List Nat}{a x:Nat}(e:fH ns)(f:ns[a/64]? =some x):Qj ns/2^a=(x+18446744073709551616*Qj (ns.drop (a/64+1)))/2^(a% 64):=by
 obtain ⟨r,z,b,c,_,d⟩:=xB e f;rw [b,<-d,Dk a,<-dN,mm _ _ (by omega),fe c,bq]
theorem It{ns:List Nat}{a x:Nat}(e:fH ns)(f:ns[a/64]? =some x):Qj ns% 2^a=Qj (ns.take (a/64))+18446744073709551616^(a/64)*(x% 2^(a% 64)):=by
 obtain ⟨r,z,c,b,d,g⟩:=xB e f;rw [c,<-d,Dk a,Nat.mod_mul,dS,fd b];congr 1;congr 1
 rw [mm _ _ (by omega),fe b,bq];have h:a% 64<64:=aI _ (by decide);rw [show (18446744073709551616:Nat)=2^(a% 64)*2^(64-a% 64) by rw [<-cT,show a% 64+(64-a% 64)=64 by omega],eR,dS]
theorem Ep{ns:List Nat}{a x:Nat}(c:fH ns)(d:ns[a/64]? =some x)(y:Nat)(h:y% 18446744073709551616=Qj (ns.drop (a/64+1))% 18446744073709551616):
  ((x/2^(a% 64))|||(y*2^(64-a% 64)% 18446744073709551616))% 9007199254740992=Qj ns/2^a% 9007199254740992:=by
 have e:a% 64<64:=aI _ (by decide);rw [BV x y _ (c.get d) e,EO c d];generalize Qj (ns.drop (a/64+1))=z at*;generalize a% 64=o at*;have hp:=im o;have g:(18446744073709551616:Nat)=2^(64-o)*2^o:=by rw [<-cT,show 64-o+o=64 by omega]
 have b:∀v,(x+18446744073709551616*v)/2^o=x/2^o+2^(64-o)*v:=fun v=>by
  grind [Nat.mul_right_comm,Nat.add_mul_div_right]
 rw [b,b];have f:∀v,(x/2^o+2^(64-o)*v)% 18446744073709551616=(x/2^o+2^(64-o)*(v% 18446744073709551616))% 18446744073709551616:=fun v=>by
  grind [Nat.add_mod,Nat.mul_mod,Nat.mod_mod]
 grind
theorem BW(x y o:Nat)(g:x<18446744073709551616)(_hy:y<18446744073709551616)(_ho:o<64):
  bits .and .u64 (bits .or .u64 ((x:Int)/2^o) (IntKind.u64.wrap ((y:Int)*2^(64-o)))) 9007199254740991=(((x/2^o|||y*2^(64-o)% 18446744073709551616)% 9007199254740992:Nat):Int):=by
 have d:(x:Int)/2^o=((x/2^o:Nat):Int):=by grind
 have e:IntKind.u64.wrap ((y:Int)*2^(64-o))=((y*2^(64-o)% 18446744073709551616:Nat):Int):=by
  grind [IntKind.wrap_u64]
 have a:x/2^o<18446744073709551616:=bx (aX _ _) g;have b:y*2^(64-o)% 18446744073709551616<18446744073709551616:=aI _ (by decide);rw [d,e];have f:x/2^o|||y*2^(64-o)% 18446744073709551616<18446744073709551616:=jX (n:=64) a b;have h:=u64_or_nat _ _ a b;rw [h];have c:=u64_and_nat _ 9007199254740991 f (by decide);rwa [bH _ 53] at c
theorem yD(x o:Nat)(d:x<18446744073709551616):bits .and .u64 ((x:Int)/2^o) 9007199254740991=((x/2^o% 9007199254740992:Nat):Int):=by
 have b:(x:Int)/2^o=((x/2^o:Nat):Int):=by grind
 have c:x/2^o<18446744073709551616:=bx (aX _ _) d;rw [b];have a:=u64_and_nat _ 9007199254740991 c (by decide);rwa [bH _ 53] at a
theorem kG:∀{ns:List Nat},Qj ns=0->∀{i y:Nat},ns[i]? =some y->y=0
 |[],_,i,y,h=>by grind
 |a::ns,h0,0,y,h=>by grind [Qj]
 |a::ns,h0,i+1,y,h=>by
  rw [Qj] at h0;exact kG (ns:=ns) (by omega) (i:=i) (by grind)
def eM(w:World)(v:Nat)(e:Ending)(w':World):Prop:=e= .returned (.int .u64 v)/\J7 w w'
theorem Er(ns:List Nat)(J:ns.length=35)(p:fH ns)(a:Nat)(v:a<2240)(w:World):
  Calls prog 137 #[jC ns,((a:Int):Int)] w (eM w (Qj ns/2^a% 9007199254740992)):=by
 have I:a/64<35:=by omega
 obtain ⟨x,k⟩:∃x,ns[a/64]? =some x:=⟨ns[a/64]'(by omega),by simp⟩;have l:=p.get k;have f:=Ep p k;unfold jC;have e:=ay.new w (aD ns) 130;have j:J7 w (w.alloc (.cells (aD ns).toArray 130)):=(Kb _ w).alloc _;have g:a/64+1<35->∃y,ns[a/64+1]? =some y/\y% 18446744073709551616=Qj (ns.drop (a/64+1))% 18446744073709551616:=fun h=>by
  refine ⟨ns[a/64+1]'(by omega),by simp,?_⟩;rw [dn (by omega),Qj,dS]
 have d:¬a/64+1<35->(0:Nat)% 18446744073709551616=Qj (ns.drop (a/64+1))% 18446744073709551616:=fun h=>by
  rw [iy (by omega)];rfl
 have M:(a:Int)/64=((a/64:Nat):Int):=by omega
 have N:(a:Int)% 64=((a% 64:Nat):Int):=by omega
 have F:a% 64<64:=by omega
 generalize Qj ns/2^a% 9007199254740992=V at*;generalize Qj (ns.drop (a/64+1))=Z at*;generalize a/64=i at*;generalize a% 64=o at*;generalize z:(aD ns).toArray=cs at*;generalize E:w.alloc (.cells cs 130)=w1 at*;generalize H:w.heap.size=b at*;have t:Hid (J7 w w1):=j;have G:=e.cell i (ia k);have L:wrap64 (i:Int)=i:=IntWalk.wrap64_in i (by omega);have K:IntKind.i64.wrap (64-(o:Int))=64-(o:Int):=IntWalk.i64_in _ (by omega);have B:(64-(o:Int)).toNat=64-o:=by omega
 have C:0<=64-(o:Int):=by omega
 have D:64-(o:Int)<=64:=by omega
 have A:(i:Int)<35:=by omega
 by_cases u:i+1<35
 ·obtain ⟨y,r,m⟩:=g u;have c1:=e.cell (i+1) (ia r);have q:=f y m;have s:=p.get r;have n:(i:Int)+1<35:=by omega
  have c:Hid (eM w V (.returned (.int .u64 (bits .and .u64 (bits .or .u64 ((x:Int)/2^o) (IntKind.u64.wrap ((y:Int)*2^(64-o)))) 9007199254740991))) w1):=⟨by rw [BW x y o l s F,q],t.out⟩;clear f g d m e j k r
  go_enter func137,ntmps137
  go_wp2;go_ret;exact c.out
 ·have q:=f 0 (d u);have n:¬(i:Int)+1<35:=by omega
  have c:Hid (eM w V (.returned (.int .u64 (bits .and .u64 ((x:Int)/2^o) 9007199254740991))) w1):=⟨by rw [yD x o l,<-q,d8,Nat.zero_mod,Nat.or_zero],t.out⟩;clear f g d e j k
  go_enter func137,ntmps137
  go_wp2;go_ret;exact c.out
theorem y8(x o:Nat)(d:o<64)(c:0<o):x*2^(63-o)% 18446744073709551616*2% 18446744073709551616=x% 2^o*2^(64-o):=by
 have b:(18446744073709551616:Nat)=2^o*2^(64-o):=by rw [<-cT,show o+(64-o)=64 by omega]
 have a:x*2^(63-o)% 18446744073709551616*2% 18446744073709551616=x*2^(63-o)*2% 18446744073709551616:=by omega
 rw [a,eR,<-d9,show (63-o).succ=64-o by omega,b,Nat.mul_mod_mul_right]
def Cz(w:World)(v:Bool)(e:Ending)(w':World):Prop:=e= .returned (.bool v)/\J7 w w'
theorem Cm(ns:List Nat)(T:ns.length=35)(n:fH ns)(a:Nat)(p:a<2240)(w:World):
  Calls prog 138 #[jC ns,((a:Int):Int)] w (Cz w (Qj ns% 2^a !=0)):=by
 have P:a/64<35:=by omega
 obtain ⟨x,A⟩:∃x,ns[a/64]? =some x:=⟨ns[a/64]'(by omega),by simp⟩;have s:=n.get A;have S:=It n A;unfold jC;have q:=ay.new w (aD ns) 130;have r:J7 w (w.alloc (.cells (aD ns).toArray 130)):=(Kb _ w).alloc _;have q1:(a:Int)/64=((a/64:Nat):Int):=by omega
 have q2:(a:Int)% 64=((a% 64:Nat):Int):=by omega
 have I:a% 64<64:=by omega
 generalize O:(Qj ns% 2^a !=0)=V at*;generalize Qj ns% 2^a=M at*;generalize a/64=i at*;generalize a% 64=o at*;generalize ah:(aD ns).toArray=cs at*;generalize aq:w.alloc (.cells cs 130)=w1 at*;generalize hb:w.heap.size=b at*;have t:Hid (J7 w w1):=r;have J:Hid (ay w1 b (aD ns) 130):=q;have K:=ae S;have L:=ae O;have Y:=ae A;clear q r S O A;have hw:wrap64 (i:Int)=i:=IntWalk.wrap64_in i (by omega);have hs:IntKind.i64.wrap (63-(o:Int))=63-(o:Int):=IntWalk.i64_in _ (by omega);have am:(63-(o:Int)).toNat=63-o:=by omega
 have an:0<=63-(o:Int):=by omega
 have ap:63-(o:Int)<=63:=by omega
 have ak:(i:Int)<35:=by omega
 go_enter func138,ntmps138
 go_wp2
 go_loopw [8] (fun j wr=>∃k:Nat,k<=i/\j= .int .i64 k/\Hid (∀l,l<k->∀y,ns[l]? =some y->y=0)/\wr=w1) (fun j _=>i-(intOf j).toNat)
 case atStart=>exact ⟨0,ao _,rfl,fun l D=>absurd D (gK _),rfl⟩
 case round=>
  obtain ⟨k,Q,rfl,G,rfl⟩:=hrel;by_cases f:k<i
  ·obtain ⟨y,d⟩:∃y,ns[k]? =some y:=⟨ns[k]'(by omega),by simp⟩;have hc:=J.out.cell k (ia d);have ar:=n.get d;have R:(k:Int)<35:=by omega
   have al:(k:Int)<i:=by omega
   by_cases g:y=0
   ·have H:Hid (∀l,l<k+1->∀y,ns[l]? =some y->y=0):=fun l D v F=>by
     rcases Nat.lt_succ_iff_lt_or_eq.1 D with h|rfl
     ·exact G l h v F
     ·rw [d] at F;cases F;exact g
    subst g;clear d;go_wp2;go_roundw
    case rel=>exact ⟨k+1,by omega,by go_num,H,trivial⟩
    case measure=>simp [intOf];omega
   ·have C:decide ((y:Int)>0)=true:=by simp;omega
    have B:V=true:=by
     rw [<-L.out,bne_iff_ne,K.out];have:Qj (ns.take i)≠0:=fun m=>g (kG m (by rw [jN,if_pos f];exact d))
     omega
    subst B;clear d;go_wp2;go_ret;exact ⟨rfl,t.out⟩
  ·obtain rfl:k=i:=by omega
   have hc:=J.out.cell k (ia Y.out);have W:Qj (ns.take k)=0:=lG _ (fun y d=>by
    obtain ⟨j,z⟩:=bc.1 d;rw [jN] at z;split at z
    ·exact G j ‹_› y z
    ·cases z)
   have c:=L.out;rw [K.out,W,bq] at c;have e:∀Z:Nat,x*2^(63-o)% 18446744073709551616*2% 18446744073709551616=Z->(Z=0/\V=false)\/(0<Z/\0<o/\V=true):=by
    intro Z u;rcases dB o with rfl|U
    ·exact .inl ⟨by rw [<-u];omega,by rw [<-c];simp [Nat.mod_one]⟩
    ·rw [y8 x o I U] at u;by_cases m:x% 2^o=0
     ·exact .inl ⟨by rw [<-u,m,d8],by rw [<-c,m];rfl⟩
     ·refine .inr ⟨by rw [<-u];exact Nat.mul_pos (by omega) (im _),U,?_⟩;rw [<-c,bne_iff_ne];exact Nat.mul_ne_zero (by exact Nat.pos_iff_ne_zero.1 (Nat.pow_pos (by decide))) m
   have N:IntKind.u64.wrap (IntKind.u64.wrap ((x:Int)*2^(63-o))*2)=((x*2^(63-o)% 18446744073709551616*2% 18446744073709551616:Nat):Int):=by
    rw [IntKind.wrap_u64,IntKind.wrap_u64,qd,fI,qd,fI,Int.natCast_pow];rfl
   generalize x*2^(63-o)% 18446744073709551616*2% 18446744073709551616=Z at*;clear c W G;rcases e Z rfl with ⟨rfl,rfl⟩|⟨ag,E,rfl⟩
   ·have ad:IntKind.u64.wrap (IntKind.u64.wrap ((x:Int)*2^(63-o))*2)=0:=N;clear N e Q f P I T n p s;go_wp2;go_ret;exact ⟨rfl,t.out⟩
   ·have C:decide ((Z:Int)>0)=true:=by simp;omega
    have aj:decide ((o:Int)>0)=true:=by simp;omega
    have X:=ae E;clear e Q f P I T n p s;go_wp2;go_ret
    first|exact ⟨rfl,t.out⟩|exact ⟨by simp [X.out],t.out⟩
theorem nH:(prog.info? 130).map (·.size)=some 35:=by kernel_rfl
def mG(N at':Nat):Nat:=
 at'*4503599627370496+N/2^at'% 9007199254740992+if 0<at'/\N/2^(at'-1)% 2=1/\(N/2^at'% 9007199254740992% 2=1\/N% 2^(at'-1)≠0) then 1 else 0
def jh(N L:Nat):Nat:=min (mG N (L-53)) 9218868437227405312
theorem kN(ns:List Nat)(a:ns.length=35):(aD ns).toArray.size=35:=by grind [aD]
theorem Ej{ns:List Nat}{p x:Nat}(b:fH ns)(c:ns[p/64]? =some x):bits .and .u64 ((x:Int)/2^(p% 64)) 1=((Qj ns/2^p% 2:Nat):Int):=by
 have d:(x:Int)/2^(p% 64)=((x/2^(p% 64):Nat):Int):=by grind
 have e:x/2^(p% 64)<18446744073709551616:=bx (aX _ _) (b.get c);rw [d];have a:=u64_and_nat _ 1 e (by decide);rw [nP] at a;have f:p% 64<64:=aI _ (by decide);rw [EO b c,show (18446744073709551616:Nat)=2*2^(63-p% 64)*2^(p% 64) by rw [eR,<-cT,show 63-p% 64+p% 64=63 by omega],jK,iF _ _ (im _),eR,dS];exact a
section
variable{P:Program}
theorem iI{b:Array Oper}{rest:List Oper}{o:Oper}{a:Act}{w:World}{Q:Exit->Act->World->Prop}(k:Region.wanted o (yielded b a.tmps)=true)(c:TypeId)(x:Operand)(i:o.op= .load c x)
  (g:Nat) (l:a.eval x= .pointer (some ⟨g,0,none⟩)) (t:TypeId) (cs:Array Value) (fr:Nat×Nat) (d:TypeDesc) (hg:w.heap[g]? =some (.cells cs t fr))
  (j:P.underlying c=some d) (e:(match d with| .struct _| .array _ _=>true|_=>false)=true) (f:(P.info? c).map (·.size)=some cs.size)
  (h:wpList P b Q rest (a.put o.dst (.agg cs)) w):wpList P b Q (o::rest) a w:=by
 unfold wpList;rw [if_pos k];exact .inl (wp_load_row c x i g l t cs fr d hg j e f h)
end
theorem DR(a:Nat):((min a 9218868437227405312:Nat):Int)=min (a:Int) 9218868437227405312:=by omega
theorem Gg(a:Nat):((min (a+1) 9218868437227405312:Nat):Int)=min ((a:Int)+1) 9218868437227405312:=by omega
theorem Fr.Xa{w0 w1 w2:World}(a:J7 w0 w1)(b:J7 w1 w2):J7 w0 w2:=a.trans b J8
theorem vp(ns:List Nat)(S:ns.length=35)(N:fH ns)(w:World):
  Calls prog 86 #[jC ns] w fun e w'=>∃L,jZ (Qj ns) L/\eM w (jh (Qj ns) L) e w':=by
 have G:=yf ns S N;have a:=Er ns S N;have l:=Cm ns S N;have y:=ae G;have d:=ae a;have r:=ae l;clear G a l;have ak:=kN ns S;have P:=nH;rw [<-ak] at P;have HI:=ae P;clear P;unfold jC at*;have j:=ay.new w (aD ns) 130;have ad:J7 w (w.alloc (.cells (aD ns).toArray 130)):=(Kb _ w).alloc _;have C:Hid (∀w b,ay w b (aD ns) 130->w.heap[b]? =some (.cells (aD ns).toArray 130 (0,0))):=fun _ _ h=>h
 generalize an:(aD ns).toArray=cs at*;generalize aC:w.alloc (.cells cs 130)=w1 at*;generalize hb:w.heap.size=b at*;have HF:Hid (J7 w w1):=ad;have HB:Hid (ay w1 b (aD ns) 130):=j;clear j ad an ak
 go_enter func86,ntmps86
 go_wp2_with (refine wpList_load_row rfl 130 _ rfl b rfl 130 cs (0,0) _ (C.out _ _ HB.out) underlying130 rfl HI.out ?_)
 refine (y.out _).mono ?_;rintro e w2 ⟨L,rfl,Y,Z,O⟩;have I:Hid (ay w2 b (aD ns) 130):=HB.out.frame O id;have U:=ae (HF.out.Xa O);have v:=ae Z;clear Z O;have aG:IntKind.i64.wrap ((L:Int)-53)=(L:Int)-53:=IntWalk.i64_in _ (by omega);by_cases F:53<L
 ·obtain ⟨p,hp⟩:∃p,L-53=p+1:=⟨L-54,by omega⟩;have ar:p<2239:=by omega
  have hw:wrap64 ((p/64:Nat):Int)=((p/64:Nat):Int):=IntWalk.wrap64_in _ (by omega);have aB:((p/64:Nat):Int)<35:=by omega
  have e1:IntKind.u64.wrap ((p+1:Nat):Int)=((p+1:Nat):Int):=by rw [IntKind.wrap_u64];omega
  have e2:IntKind.u64.wrap (((p+1:Nat):Int)*4503599627370496)=((p+1:Nat):Int)*4503599627370496:=by rw [IntKind.wrap_u64];omega
  have E3:∀m:Nat,m<9007199254740992->∃D:Nat,Hid (D=(p+1)*4503599627370496+m)/\IntKind.u64.wrap (((p+1:Nat):Int)*4503599627370496+(m:Int))=(D:Int)/\D<18446744073709551615:=fun m R=>⟨_,rfl,by rw [IntKind.wrap_u64];omega,by omega⟩
  have e4:((p+1:Nat):Int)-1=(p:Int):=by omega
  have az:(0:Int)<((p+1:Nat):Int):=by omega
  have aA:(L:Int)-53=((p+1:Nat):Int):=by omega
  have q:jh (Qj ns) L=min (mG (Qj ns) (p+1)) 9218868437227405312:=by unfold jh;rw [hp]
  have aj:mG (Qj ns) (p+1)=(p+1)*4503599627370496+Qj ns/2^(p+1)% 9007199254740992+if Qj ns/2^p% 2=1/\(Qj ns/2^(p+1)% 9007199254740992% 2=1\/Qj ns% 2^p≠0) then 1 else 0:=by
   unfold mG;rw [gV];simp only [iO,true_and]
  rw [aj] at q;have M:=ae q;clear q aj;obtain ⟨x,hx⟩:∃x,ns[p/64]? =some x:=⟨ns[p/64]'(by omega),by simp⟩;have av:=N.get hx;have c:=Ej N hx;have f:=ae c;clear c;have aq:p/64<35:=by omega
  have q1:(p:Int)/64=((p/64:Nat):Int):=by omega
  have q2:(p:Int)% 64=((p% 64:Nat):Int):=by omega
  have q3:p% 64<64:=by omega
  have a:=d.out (p+1) (by omega) w2;have E:=r.out p (by omega);have hH:Qj ns/2^p% 2<2:=aI _ (by decide);have R:Qj ns/2^(p+1)% 9007199254740992<9007199254740992:=aI _ (by decide);generalize Qj ns/2^p% 2=H at*;generalize Qj ns/2^(p+1)% 9007199254740992=m at*;generalize am:Qj ns% 2^p=B at*;generalize p/64=i at*;generalize p% 64=o at*;have z:=u64_and_nat m 1 (iv R (by decide)) (by decide);rw [nP] at z;have W:=ae z;clear z;have ao:m% 2<2:=aI _ (by decide);have K:=ae a;have al:=ae E;have HX:=ae hx;obtain ⟨D,J,e3,ax⟩:=E3 m R;clear E3;clear a E hx hp N S d r y;have ah:max ((p+1:Nat):Int) 0=((p+1:Nat):Int):=by omega
  generalize ((p+1:Nat):Int)=A at*;have X:Hid (bits .and .u64 (m:Int) 1=((m% 2:Nat):Int)):=W.out;generalize m% 2=mo at*;clear W am F Y;go_wp2_with (refine wpList_load_row rfl 130 _ rfl b rfl 130 cs (0,0) _ (C.out _ _ I.out) underlying130 rfl HI.out ?_)
  refine K.out.mono ?_;rintro e w3 ⟨rfl,n⟩;have T:Hid (ay w3 b (aD ns) 130):=I.out.frame n id;have s:=ae (U.out.Xa n);have hc:=T.out.cell i (ia HX.out);clear n;have hh:H=0\/H=1:=by omega
  have ap:mo=0\/mo=1:=by omega
  clear R av ar aq q3 hH ao;have e5:IntKind.u64.wrap ((D:Int)+1)=(D:Int)+1:=by rw [IntKind.wrap_u64];omega
  have t:Hid (∀w4,J7 w w4->¬(H=1/\(mo=1\/B≠0))->eM w (jh (Qj ns) L) (.returned (.int .u64 (min (D:Int) 9218868437227405312))) w4):=fun w4 hf hc=>by
   refine ⟨?_,hf⟩;rw [M.out,if_neg hc,aP,<-J.out,DR]
  have u:Hid (∀w4,J7 w w4->(H=1/\(mo=1\/B≠0))->eM w (jh (Qj ns) L) (.returned (.int .u64 (min ((D:Int)+1) 9218868437227405312))) w4):=fun w4 hf hc=>by
   refine ⟨?_,hf⟩;rw [M.out,if_pos hc,<-J.out,Gg]
  clear M J
  go_upto_region 5 with fail
  rcases hh with rfl|rfl
  ·have c:bits .and .u64 ((x:Int)/2^o) 1=0:=f.out;clear f;go_wp2_with fail
   go_ret;exact ⟨L,v.out,t.out _ s.out (by omega)⟩
  ·have c:bits .and .u64 ((x:Int)/2^o) 1=1:=f.out;clear f
   go_upto_region 6 with fail
   clear c;rcases ap with rfl|rfl
   ·have z:bits .and .u64 (m:Int) 1=0:=X.out;go_wp2_with (refine iI (by rfl) 130 _ rfl b rfl 130 cs (0,0) _ (C.out _ _ T.out) underlying130 rfl HI.out ?_)
    refine (al.out w3).mono ?_;rintro e w4 ⟨rfl,ag⟩;have V:=ae (s.out.Xa ag);clear ag;by_cases Q:B=0
    ·have j:(B !=0)=false:=by rw [Q];rfl
     rw [j];have k:=t.out _ V.out (by simp [Q]);have g:=ae k;clear k j Q;go_wp2_with fail
     go_ret;exact ⟨L,v.out,g.out⟩
    ·have j:(B !=0)=true:=by rw [bne_iff_ne];exact Q
     rw [j];have k:=u.out _ V.out (by simp [Q]);have g:=ae k;clear k j Q;go_wp2_with fail
     go_ret;exact ⟨L,v.out,g.out⟩
   ·have z:bits .and .u64 (m:Int) 1=1:=X.out;go_wp2_with fail
    go_ret;exact ⟨L,v.out,u.out _ s.out (by simp)⟩
 ·have ah:max ((L:Int)-53) 0=0:=by omega
  have q:jh (Qj ns) L=min (Qj ns/2^0% 9007199254740992) 9218868437227405312:=by
   unfold jh mG;rw [show L-53=0 by omega,d8,bq,if_neg (fun h=>absurd h.1 (kg 0)),aP]
  have a:=d.out 0 (by omega) w2;have R:Qj ns/2^0% 9007199254740992<9007199254740992:=aI _ (by decide);generalize Qj ns/2^0% 9007199254740992=m at*;have e3:IntKind.u64.wrap (m:Int)=(m:Int):=by rw [IntKind.wrap_u64];omega
  have g:Hid (∀w4,J7 w w4->eM w (jh (Qj ns) L) (.returned (.int .u64 (min (m:Int) 9218868437227405312))) w4):=fun w4 hf=>by
   refine ⟨?_,hf⟩;rw [q,DR]
  have K:Hid (Calls prog 137 #[Value.agg cs,(0:Int)] w2 (eM w2 m)):=a;clear q a F N S d r y Y R;go_wp2_with (refine wpList_load_row rfl 130 _ rfl b rfl 130 cs (0,0) _ (C.out _ _ I.out) underlying130 rfl HI.out ?_)
  refine K.out.mono ?_;rintro e w3 ⟨rfl,n⟩;have s:=ae (U.out.Xa n);clear n;go_wp2_with fail
  go_ret;exact ⟨L,v.out,g.out _ s.out⟩
theorem va{ns:List Nat}{k x:Nat}(a:ns[k]? =some x):Qj (ns.take (k+1))=Qj (ns.take k)+18446744073709551616^k*x:=by
 have b:k<ns.length:=(aj.1 a).1;rw [kp (ns.take (k+1)) k (by grind)]
 grind [List.take_add_one,Qj]
theorem BZ{T N c s c' x P:Nat}(h:T+c*P+N=P)(a:s+c'*18446744073709551616=18446744073709551615-x+c)(b:x<18446744073709551616):
  (T+P*s)+c'*(P*18446744073709551616)+(N+P*x)=P*18446744073709551616:=by
 have e:P*(s+c'*18446744073709551616+x)=P*(18446744073709551615+c):=by grind
 grind
def oa(ns:List Nat):Bool:=decide (9223372036854775808<=ns.getD 34 0)
def uN(ns:List Nat):Nat:=if oa ns then 18446744073709551616^35-Qj ns else Qj ns
def wX(w:World)(ns:List Nat)(e:Ending)(w':World):Prop:=
 ∃ms,e= .returned (.tuple #[jC ms,.bool (oa ns)])/\ms.length=35/\fH ms/\Qj ms=uN ns/\J7 w w'
theorem cS.range{w:World}{b:Nat}{d:Bool}{ns:List Nat}{f e c:Bool}{a g:Int}(h:cS w b d ns f e c a g):w.rangeAt b 1 (aD ns):=by
 intro j v i;refine h.1.cell (1+j) ?_
 grind [aD,fG]
theorem li{P:Program}{fn:Func}{p q:Tmp}{a:TypeId}(h:fn.results= #[.cell p a,.tmp q])(tmps:Array Value)(w:World)(g:Nat)(t:TypeId)(cs:Array Value)(fr:Nat×Nat)(d:TypeDesc)(v:Value)
  (hp:tmps.getD p undef= .pointer (some ⟨g,0,none⟩)) (j:tmps.getD q undef=v) (hg:w.heap[g]? =some (.cells cs t fr))
  (i:P.underlying a=some d) (e:(match d with| .struct _| .array _ _=>true|_=>false)=true) (f:(P.info? a).map (·.size)=some cs.size):
  (results fn tmps).run P w= .ok (.tuple #[.agg cs,v]) w:=by
 have b:tmps[p]?.getD undef= .pointer (some ⟨g,0,none⟩):=by simp_all
 have c:tmps[q]?.getD undef=v:=by simp_all
 simp [results,h,b,c,asAddr,run_loadVar_row w g t a cs fr d hg i e f]
theorem F6(y:Nat)(a:y<18446744073709551616):18446744073709551615^^^y=18446744073709551615-y:=by
 have e:18446744073709551615-y=2^64-(y+1):=by omega
 rw [e];apply db;intro i;rw [ek (by exact a),lm,show (18446744073709551615:Nat)=2^64-1 by rfl,fT];by_cases c:i<64
 ·grind
 ·have b:y.testBit i=false:=er (bn a (bl (n:=2) (by decide) (by omega:64<=i)))
  grind
theorem zJ(y:Nat)(a:y<18446744073709551616):bits .xor .u64 IntKind.u64.max (y:Int)=((18446744073709551615-y:Nat):Int):=by
 have h:=u64_xor_nat 18446744073709551615 y (by decide) a;rwa [F6 y a] at h
theorem xL{ns:List Nat}(a:ns.length=35)(h:oa ns=true):0<Qj ns:=by
 grind [kG,oa]
def Az(w:World)(g1 g2:Nat)(ns:List Nat)(k c:Nat)(wr:World):Prop:=
 ∃ms,ay wr g2 (aD ms) 130/\ms.length=35/\fH ms/\(∀j,k<=j->ms[j]? =ns[j]?)/\
  Qj (ms.take k)+c*18446744073709551616^k+Qj (ns.take k)=18446744073709551616^k/\ay wr g1 (aD (List.replicate 35 0)) 130/\J7 w wr
theorem sE(ns:List Nat)(i y:Nat):(aD ns).set i (.int .u64 y)=aD (ns.set i y):=by
 grind [aD,List.map_set]
theorem C1(b:Nat)(O:Bool)(ns:List Nat)(aA Q D:Bool)(m Qa:Int)(w:World)(h:cS w b O ns aA Q D m Qa):
  Calls prog 85 #[b] w (wX w ns):=by
 have HR:=ae h.range;have hn:=h.2.1;have hL:=h.2.2;have I:=kN ns hn;have ax:(aD ns).length=35:=by simpa using I
 have V:=nH;have HI:=ae V;have aC:Hid ((prog.info? 130).map (·.size)=some (aD ns).length):=by rw [ax];exact V
 clear V
 go_enter func85,ntmps85
 go_upto_region 1 with fail
 generalize hW:w.alloc _=w1;have g:ay w1 w.heap.size (aD (List.replicate 35 0)) 130:=by rw [<-hW];exact ay.new w (aD (List.replicate 35 0)) 130
 have U:J7 w w1:=by rw [<-hW];exact (Kb _ w).alloc _
 clear hW;have av:=h.1.frame U id;generalize ao:w.heap.size=g1 at*;have aj:Hid (w1.rangeAt b 1 (aD ns)):=(show cS w1 b O ns aA Q D m Qa from ⟨av,h.2⟩).range;generalize ap:w1.heap.size=g2 at*;have f:=ae ap;have J:Hid ((aD ns).toArray.all (·.oneCell')=true):=Go.all_oneCell_toArray (fun v hv=>by
  unfold aD at hv;obtain ⟨x,_,rfl⟩:=bw.1 hv;rfl)
 have F:Hid ((prog.info? 130).map (·.size)=some (aD ns).toArray.size):=by rw [I];exact HI.out
 have ak:Hid ((aD (List.replicate 35 0)).toArray.size=(aD ns).toArray.size):=by rw [I];rfl
 have l:Hid (∀o,o=Obj.cells (aD (List.replicate 35 0)).toArray 130->(w1.alloc o).heap[g2]? =some (.cells (aD (List.replicate 35 0)).toArray 130 (0,0))):=fun o ho=>by rw [ho,<-f.out];exact ay.new w1 (aD (List.replicate 35 0)) 130
 have E:=ae U;have e:=ae g;have S:Hid (g1<w1.heap.size):=g.lt;clear I ax g av U h
 go_upto_region 2 with (first|refine wpList_load_mid rfl 130 _ rfl b 1 rfl (aD ns) _ aj.out underlying130 rfl aC.out ?_|refine wpList_store_row rfl 130 _ _ rfl g2 (aD ns).toArray rfl rfl 130 (aD (List.replicate 35 0)).toArray (l.out _ rfl) F.out ak.out J.out ?_)
 generalize G:(w1.alloc _).setRow g2 _=w2;have T:ay w2 g2 (aD ns) 130:=by rw [<-G];exact ay.setRow (c:=aD (List.replicate 35 0)) (l.out _ rfl) (aD ns)
 have g:ay w2 g1 (aD (List.replicate 35 0)) 130:=by rw [<-G];exact (e.out.alloc _).Qf g2 _ (by have:=S.out;rw [f.out] at this;omega)
 have an:J7 w w2:=by rw [<-G];exact (E.out.alloc _).setRow g2 (.inr (by have:=E.out.size;rwa [f.out] at this)) _
 have ar:g1≠g2:=by have:=S.out;rw [f.out] at this;omega
 have L:w.heap.size<=g1:=by rw [ao];exact ag _
 have M:w.heap.size<=g2:=by have:=E.out.size;rwa [f.out] at this
 clear G ap ao l HR aj S e E f;have e:=ae g;have Y:=ae T;have ad:=ae an;have aG:=ae ar;have al:=ae L;have aO:=ae M;clear g an ar L M;obtain ⟨x,hx⟩:∃x,ns[34]? =some x:=⟨ns[34]'(by omega),by simp⟩;have hc:=T.cell 34 (ia hx);have d:oa ns=decide (9223372036854775808<=x):=by unfold oa;rw [bX,hx];rfl
 have aU:=hL.get hx;clear T;by_cases ht:9223372036854775808<=x
 ·have hz:decide ((x:Int)/9223372036854775808=0)=false:=by simp;omega
  have a4:((x:Int)/9223372036854775808==0)=false:=by rw [beq_eq_false_iff_ne];omega
  have C:oa ns=true:=by rw [d];simp;omega
  have HT:=ae C;clear ht d hx C;go_wp2_with fail
  go_loopw [5,16] (fun c i wr=>∃k n:Nat,k<=35/\n<=1/\c= .int .u64 n/\i= .int .i64 k/\Az w g1 g2 ns k n wr) (fun _ i _=>35-(intOf i).toNat)
  case atStart=>exact ⟨0,1,by omega,by omega,rfl,rfl,ns,Y.out,hn,hL,fun _ _=>rfl,by simp [Qj],e.out,ad.out⟩
  case round=>
   obtain ⟨k,n,hk,aq,rfl,rfl,a,q,H,r,u,z,W,X⟩:=hrel;by_cases aS:k<35
   ·obtain ⟨y,hy⟩:∃y,a[k]? =some y:=⟨a[k]'(by omega),by simp⟩;have hc:=q.cell k (ia hy);have az:=r.get hy;have aX:(k:Int)<35:=by omega
    have a3:IntKind.u64.signed=false:=rfl;have a2:=zJ y az;have N:18446744073709551615-y+0+n=18446744073709551615-y+n:=by omega
    have aP:=kS (18446744073709551615-y) 0 n _ 0 _ rfl rfl rfl aq;rw [N] at aP;have p:∀s c',(18446744073709551615-y+n)% 18446744073709551616=s->(18446744073709551615-y+n)/18446744073709551616=c'->s+c'*18446744073709551616=18446744073709551615-y+n/\s<18446744073709551616/\c'<=1:=fun s c' h1 h2=>by omega
    have A:∀s c',s+c'*18446744073709551616=18446744073709551615-y+n->s<18446744073709551616->Az w g1 g2 ns (k+1) c' (wr.setCell ⟨g2,k,none⟩ (.int .u64 s)):=fun s c' h1 h2=>by
     refine ⟨a.set k s,?_,by rw [aW];exact H,r.set k h2,?_,?_,W.Qg ⟨g2,k,none⟩ _ aG.out,X.setCell ⟨g2,k,none⟩ (.inr aO.out) _⟩
     ·rw [<-sE];exact q.set k _
     ·intro j hj;rw [co (by omega)];exact u j (by omega)
     ·have e1:(a.set k s)[k]? =some s:=by rw [ix (by omega)]
      have e2:(a.set k s).take k=a.take k:=by rw [ki,gC (by rw [dY];omega)]
      rw [va e1,e2,va ((u k (ag _)).symm.trans hy),d9];exact BZ z h1 az
    have am:18446744073709551615-y+n<2*18446744073709551616:=by omega
    generalize 18446744073709551615-y=ny at*;generalize ny+n=t at*;generalize hs:t% 18446744073709551616=s at*;generalize aR:t/18446744073709551616=c' at*;obtain ⟨f1,f2,f3⟩:=p s c' rfl rfl;have aH:=ae (A s c' f1 f2);clear p A hs aR f1 am N;have HM:=ae z;have a0:=ae u;have a1:=q.free k;clear z u hy;go_wp2_with fail
    go_roundw
    case rel=>exact ⟨k+1,c',by omega,f3,rfl,by go_num,aH.out⟩
    case measure=>simp [intOf];omega
   ·obtain rfl:k=35:=by omega
    have aT:aD a∈[aD a]:=by simp
    have B:=kN a H;have R:Hid ((prog.info? 130).map (·.size)=some (aD a).toArray.size):=by rw [B];exact HI.out
    have aN:Hid ((aD (List.replicate 35 0)).toArray.size=(aD a).toArray.size):=by rw [B];rfl
    have aI:Hid ((aD a).toArray.all (·.oneCell')=true):=Go.all_oneCell_toArray (fun v hv=>by
     unfold aD at hv;obtain ⟨x,_,rfl⟩:=bw.1 hv;rfl)
    have aB:=ae q;have Z:=ae W;have K:wX w ns (.returned (.tuple #[jC a,.bool true])) (wr.setRow g1 (aD a).toArray):=by
     refine ⟨a,by rw [HT.out],H,r,?_,X.setRow g1 (.inr al.out) _⟩;have hN:=nA r;rw [H] at hN;rw [bN (by omega),bN (by omega)] at z;unfold uN;rw [HT.out,if_pos rfl];have aY:=xL hn HT.out;generalize (18446744073709551616:Nat)^35=P at*;rcases (show n=0\/n=1 by omega) with rfl|rfl<;>omega
    have ah:=ae K;clear K aT B q r u z W X aS hk aq;go_wp2_with (first|refine wpList_load_row rfl 130 _ rfl g2 rfl 130 (aD a).toArray (0,0) _ aB.out underlying130 rfl R.out ?_|refine wpList_store_row rfl 130 _ _ rfl g1 (aD a).toArray rfl rfl 130 (aD (List.replicate 35 0)).toArray Z.out R.out aN.out aI.out ?_)
    refine bodyPost_ret (li (by rfl) _ _ g1 130 (aD a).toArray (0,0) _ _ rfl rfl (Z.out.setRow (aD a)) underlying130 rfl R.out) rfl ?_;exact ah.out
 ·have hz:(x:Int)/9223372036854775808=0:=by omega
  have C:oa ns=false:=by rw [d];simp;omega
  clear ht d hx aU;go_wp2_with (first|refine wpList_load_row rfl 130 _ rfl g2 rfl 130 (aD ns).toArray (0,0) _ Y.out underlying130 rfl F.out ?_|refine wpList_store_row rfl 130 _ _ rfl g1 (aD ns).toArray rfl rfl 130 (aD (List.replicate 35 0)).toArray e.out F.out ak.out J.out ?_)
  refine bodyPost_ret (li (by rfl) _ _ g1 130 (aD ns).toArray (0,0) _ _ rfl rfl (e.out.setRow (aD ns)) underlying130 rfl F.out) rfl ?_;exact ⟨ns,by rw [C];rfl,hn,hL,by unfold uN;rw [C];rfl,ad.out.setRow g1 (.inr al.out) _⟩
def rH(b:Nat):Nat:=if 9223372036854775808<=b then 18446744073709551615-b else b+9223372036854775808
theorem FV(b:Nat)(a:b<9223372036854775808):bits .or .u64 (b:Int) 9223372036854775808=((b+9223372036854775808:Nat):Int):=by
 have h:=u64_or_nat b 9223372036854775808 (by omega) (by decide);have e:b|||9223372036854775808=b+9223372036854775808:=by
  have:=dI (i:=63) (b:=b) a 1
  grind
 grind
theorem zS(b:Nat)(f:b<18446744073709551616)(w:World):
  Calls prog 168 #[.float .f64 b] w fun e w'=>e= .returned (.int .u64 (rH b:Int))/\w=w':=by
 have g:=vl b f;have h:=ae (gB b w);by_cases a:9223372036854775808<=b
 ·have d:gz b=true:=by unfold gz;simpa using a
  have i:=zJ b f;have c:rH b=18446744073709551615-b:=by unfold rH;rw [if_pos a]
  rw [c];generalize 18446744073709551615-b=k at*;rw [d,if_pos rfl] at g;clear c a d f
  go_enter func168,ntmps168
  go_wp2_with (go_at_call 11;refine h.out.mono ?_;rintro e w' ⟨rfl,rfl⟩)
  go_ret;exact ⟨rfl,rfl⟩
 ·have d:gz b=false:=by unfold gz;simpa using a
  have i:=FV b (by omega);have c:rH b=b+9223372036854775808:=by unfold rH;rw [if_neg a]
  rw [c];generalize b+9223372036854775808=k at*;rw [d] at g;simp only [dF,if_false] at g;clear c a d f
  go_enter func168,ntmps168
  go_wp2_with (go_at_call 11;refine h.out.mono ?_;rintro e w' ⟨rfl,rfl⟩)
  go_ret;exact ⟨rfl,rfl⟩
def sh(a b:Nat):Bool:=decide (rH a<rH b)
theorem y9(a b:Nat)(h:a<18446744073709551616)(i:b<18446744073709551616)(w:World):
  Calls prog 122 #[.float .f64 a,.float .f64 b] w fun e w'=>e= .returned (.bool (sh a b))/\w=w':=by
 have d:=ae (zS a h w);have f:=ae (zS b i w);have c:sh a b=decide (rH a<rH b):=rfl;generalize sh a b=r at*;generalize rH a=x at*;generalize rH b=y at*;have g:=ae c;clear c
 go_enter func122,ntmps122
 go_wp2_with fail
 refine d.out.mono ?_;rintro e w' ⟨rfl,rfl⟩;go_wp2_with fail
 refine f.out.mono ?_;rintro e w' ⟨rfl,rfl⟩;go_wp2;go_ret;exact ⟨by rw [g.out];first|rfl|simp,rfl⟩
def fW:List Nat->Nat
 |[]=>0
 |x::xs=>x+65536*fW xs
def gh(ds:List Nat):Prop:=∀x∈ds,x<65536
theorem gh.set{ds:List Nat}(h:gh ds)(i:Nat){y:Nat}(c:y<65536):gh (ds.set i y):=by
 intro x b;rcases bS b with a|a
 ·exact h x a
 omega
theorem gh.get{ds:List Nat}(h:gh ds){i x:Nat}(a:ds[i]? =some x):x<65536:=h x (ar a)
theorem gh.take{ds:List Nat}(h:gh ds)(k:Nat):gh (ds.take k):=fun x a=>h x (eN a)
theorem gh.zero(n:Nat):gh (List.replicate n 0):=fun x a=>by grind
theorem tZ:∀{ds:List Nat},gh ds->fW ds<65536^ds.length
 |[],_=>by simp [fW]
 |x::xs,h=>by
  have b:=tZ (ds:=xs) (fun y a=>h y (bm _ a));have c:=h x (cw)
  grind [fW]
theorem zu:∀(ds:List Nat) (i x y:Nat),ds[i]? =some x->fW (ds.set i y)+x*65536^i=fW ds+y*65536^i
 |[],i,x,y,h=>by grind
 |a::ds,0,x,y,h=>by grind [fW]
 |a::ds,i+1,x,y,h=>by
  have b:=zu ds i x y (by grind)
  grind [fW]
theorem mD:∀(ds:List Nat) (k:Nat),k<=ds.length->fW ds=fW (ds.take k)+65536^k*fW (ds.drop k)
 |ds,0,_=>by simp [fW]
 |[],k+1,h=>by grind
 |a::ds,k+1,h=>by
  have b:=mD ds k (by grind)
  grind [fW]
theorem od{ds:List Nat}{k x:Nat}(a:ds[k]? =some x):fW (ds.take (k+1))=fW (ds.take k)+65536^k*x:=by
 have b:k<ds.length:=(aj.1 a).1;rw [mD (ds.take (k+1)) k (by grind)]
 grind [List.take_add_one,fW]
theorem qV:∀n,fW (List.replicate n 0)=0
 |0=>rfl
 |n+1=>by rw [gw,fW,qV n]
def me(qs bs:List Nat)(k:Nat):Prop:=∀j,k<=j->qs[j]? =bs[j]?
theorem me.drop{b a:List Nat}{k:Nat}(h:me b a k):b.drop k=a.drop k:=by
 apply eO;intro j;rw [gW,gW];exact h (k+j) (by omega)
theorem Gk{c a:List Nat}(f:gh c)(g:gh a){k x y:Nat}(h:me c a (k+1))(d:c[k]? =some x)(e:a[k]? =some y)(l:x≠y):decide (fW c<fW a)=decide (x<y):=by
 have o:k<c.length:=(aj.1 d).1;have j:k<a.length:=(aj.1 e).1;rw [mD c (k+1) (by omega),mD a (k+1) (by omega),h.drop,od d,od e];have m:=tZ (f.take k);have n:=tZ (g.take k);rw [dY,gN (by omega)] at m n;generalize fW (a.drop (k+1))=R at*;generalize fW (c.take k)=A at*;generalize fW (a.take k)=B at*;generalize 65536^(k+1)*R=Z at*;generalize 65536^k=P at*;rw [decide_eq_decide];rcases aN x y with b|i
 ·have:P*(x+1)<=P*y:=cg _ b
  grind
 ·have b:y<x:=by omega
  have:P*(y+1)<=P*x:=cg _ b
  grind
theorem Bz{b a:List Nat}(h:me b a 0):decide (fW b<fW a)=false:=by
 have:b=a:=by have:=h.drop;grind
 grind
def au(ds:List Nat):List Value:=ds.map (fun n:Nat=>Value.int .i64 n)
def iY(ds:List Nat):Value:= .agg (au ds).toArray
theorem ir{ds:List Nat}{i x:Nat}(h:ds[i]? =some x):(au ds)[i]? =some (.int .i64 x):=by
 grind [au]
theorem kP(ds:List Nat)(i y:Nat):(au ds).set i (.int .i64 y)=au (ds.set i y):=by
 grind [au,List.map_set]
theorem cL(ds:List Nat)(a:ds.length=140):(au ds).toArray.size=140:=by grind [au]
theorem fb(ds:List Nat):(au ds).toArray.all (·.oneCell')=true:=Go.all_oneCell_toArray (fun v a=>by
 unfold au at a;obtain ⟨x,_,rfl⟩:=bw.1 a;rfl)
theorem BD:(prog.info? 84).map (·.size)=some 140:=by kernel_rfl
theorem dW(ds:List Nat)(a:ds.length=140):(prog.info? 84).map (·.size)=some (au ds).toArray.size:=by grind [cL,BD]
def bI:List Nat:=List.replicate 140 0
theorem dV:bI.length=140:=bB
abbrev WB(w:World)(b:Nat)(ds:List Nat):Prop:=ay w b (au ds) 84
def mA(w:World)(v:Bool)(e:Ending)(w':World):Prop:=e= .returned (.bool v)/\J7 w w'
theorem Fr.then{w0 w1 w2:World}(a:J7 w0 w1)(b:J7 w1 w2):J7 w0 w2:=a.trans b J8
theorem pi(w:World)(xs ys:List Nat):WB ((w.alloc (.cells (au xs).toArray 84)).alloc (.cells (au ys).toArray 84)) w.heap.size xs/\
  WB ((w.alloc (.cells (au xs).toArray 84)).alloc (.cells (au ys).toArray 84)) (w.heap.size+1) ys/\J7 w ((w.alloc (.cells (au xs).toArray 84)).alloc (.cells (au ys).toArray 84)):=by
 refine ⟨ay.alloc (ay.new w (au xs) 84) _,?_,((Kb _ w).alloc _).alloc _⟩
 grind [ay.new,World.size_alloc]
def Ay(w:World)(g1 g2:Nat)(xs ys:List Nat)(k:Nat)(wr:World):Prop:=me xs ys k/\WB wr g1 xs/\WB wr g2 ys/\J7 w wr
theorem DY(xs ys:List Nat)(G:xs.length=140)(H:ys.length=140)(A:gh xs)(B:gh ys)(w:World):
  Calls prog 42 #[iY xs,iY ys] w (mA w (decide (fW xs<fW ys))):=by
 unfold iY;obtain ⟨a,b,hf⟩:=pi w xs ys;generalize r:(au xs).toArray=ca at*;generalize s:(au ys).toArray=cb at*;generalize l:(w.alloc (.cells ca 84)).alloc (.cells cb 84)=w1 at*;have p:=ae a;have q:=ae b;have u:=ae hf;clear a b hf r s
 go_enter func42,ntmps42
 go_wp2
 go_loopw [5] (fun i wr=>∃k:Nat,k<=140/\i= .int .i64 ((k:Int)-1)/\Ay w w.heap.size (w.heap.size+1) xs ys k wr) (fun i _=>(intOf i+1).toNat)
 case atStart=>exact ⟨140,ag _,rfl,fun j C=>by rw [dw (by omega),dw (by omega)],p.out,q.out,u.out⟩
 case round=>
  clear p q u;obtain ⟨k,F,rfl,o,a,b,hf⟩:=hrel;rcases dB k with rfl|D
  ·have c:mA w (decide (fW xs<fW ys)) (.returned (.bool false)) wr:=⟨by rw [Bz o],hf⟩;have d:=ae c;clear c o a b hf l;go_wp2;go_ret;exact d.out
  ·obtain ⟨j,rfl⟩:∃j,k=j+1:=⟨k-1,by omega⟩;rw [show ((j+1:Nat):Int)-1=(j:Int) by omega];obtain ⟨x,e⟩:∃x,xs[j]? =some x:=⟨xs[j]'(by omega),by simp⟩;obtain ⟨y,f⟩:∃y,ys[j]? =some y:=⟨ys[j]'(by omega),by simp⟩;have c1:=a.cell j (ir e);have c2:=b.cell j (ir f);have C:(j:Int)<140:=by omega
   by_cases g:x=y
   ·have h:∀n,Ay w w.heap.size (w.heap.size+1) xs ys j (wr.drewN n):=fun n=>⟨fun i t=>by
     rcases jM t with rfl|t
     ·rw [e,f,g]
     ·exact o i t,a.drewN n,b.drewN n,hf.drewN n⟩
    have z:=ae h;subst g;clear h o a b hf l e f;go_wp2
    go_quiet (fail)
    go_wp2;go_roundw
    case rel=>exact ⟨j,by omega,by go_num,z.out _⟩
    case measure=>simp [intOf]
   ·have v:=Gk A B o e f g;have c:∀n m,mA w (decide (fW xs<fW ys)) (.returned (.bool (decide (x<y)))) ((wr.drewN n).drewN m):=fun n m=>⟨by rw [v],(hf.drewN n).drewN m⟩
    have d:=ae c;have E:((x:Int) !=y)=true:=by rw [bne_iff_ne];omega
    clear c o a b hf l e f v g;go_wp2
    go_quiet (fail)
    go_wp2
    go_quiet (fail)
    go_wp2;go_ret;exact d.out _ _
theorem iH:Tryz.zeroCells84=(au bI).toArray:=by kernel_rfl
def fo:Nat:=65536^140
theorem zt{ds:List Nat}(a:ds.length=140)(h:gh ds):fW ds<fo:=by
 have:=tZ h;rwa [a] at this
def jb(w:World)(N:Nat)(e:Ending)(w':World):Prop:=∃ds,e= .returned (iY ds)/\ds.length=140/\gh ds/\fW ds=N/\J7 w w'
theorem nL(w:World)(xs ys:List Nat):∀w1,(((w.alloc (.cells (au xs).toArray 84)).alloc (.cells (au ys).toArray 84)).alloc (.cells Tryz.zeroCells84 84)).alloc (.cells Tryz.zeroCells84 84)=w1->
  WB w1 w.heap.size xs/\WB w1 (w.heap.size+1) ys/\WB w1 (w.heap.size+1+1) bI/\WB w1 (w.heap.size+1+1+1) bI/\J7 w w1:=by
 rintro w1 rfl;obtain ⟨a,b,c⟩:=pi w xs ys;rw [iH];refine ⟨(a.alloc _).alloc _,(b.alloc _).alloc _,?_,?_,(c.alloc _).alloc _⟩
 ·grind [ay.alloc,ay.new,World.size_alloc]
 grind [ay.new,World.size_alloc]
def oP(w:World)(B:Nat)(xs ys:List Nat)(k c:Nat)(wr:World):Prop:=
 ∃ds,ds.length=140/\gh ds/\WB wr (B+1+1+1) ds/\WB wr (B+1+1) bI/\WB wr B xs/\WB wr (B+1) ys/\fW (ds.take k)+c*65536^k=fW (xs.take k)+fW (ys.take k)/\J7 w wr
theorem Gc{t T c:Nat}(a:t<fo)(h:t+c*fo=T):t=T% fo:=by
 grind [Nat.add_mul_mod_self_right,Nat.mod_eq_of_lt]
theorem oP.step{w:World}{B:Nat}{xs ys:List Nat}{k c x y s c':Nat}{wr:World}(h:oP w B xs ys k c wr)(m:w.heap.size<=B)(n:k<140)(p:xs[k]? =some x)(q:ys[k]? =some y)(o:s+c'*65536=x+y+c)(a:s<65536):
  oP w B xs ys (k+1) c' (wr.setCell ⟨B+1+1+1,k,none⟩ (.int .i64 s)):=by
 obtain ⟨ds,j,b,d,e,f,g,l,i⟩:=h;refine ⟨ds.set k s,by grind,b.set k a,?_,e.Qg ⟨B+1+1+1,k,none⟩ _ (by grind),f.Qg ⟨B+1+1+1,k,none⟩ _ (by grind),g.Qg ⟨B+1+1+1,k,none⟩ _ (by grind),?_,i.setCell ⟨B+1+1+1,k,none⟩ (.inr (by grind)) _⟩
 ·show ay _ _ (au (ds.set k s)) _
  rw [<-kP];exact d.set k _
 grind [List.take_set,List.set_eq_of_length_le,od]
theorem oP.drewN{w:World}{B:Nat}{xs ys:List Nat}{k c:Nat}{wr:World}(h:oP w B xs ys k c wr)(n:Nat):oP w B xs ys k c (wr.drewN n):=by
 obtain ⟨ds,a,b,d,e,f,g,i,j⟩:=h;exact ⟨ds,a,b,d.drewN n,e.drewN n,f.drewN n,g.drewN n,i,j.drewN n⟩
theorem vA(xs ys:List Nat)(hx:xs.length=140)(hy:ys.length=140)(Y:gh xs)(Z:gh ys)(w:World):
  Calls prog 88 #[iY xs,iY ys] w (jb w ((fW xs+fW ys)% fo)):=by
 unfold iY;have S:=nL w xs ys;generalize H:(au xs).toArray=ca at*;generalize I:(au ys).toArray=cb at*;have L:=ae S;clear S H I
 go_enter func88,ntmps88
 go_upto_region 2 with fail
 generalize R:(((w.alloc _).alloc _).alloc _).alloc _=w1;obtain ⟨N,O,P,Q,hf⟩:=L.out w1 R;have a:oP w w.heap.size xs ys 0 0 w1:=⟨bI,dV,gh.zero _,Q,P,N,O,by simp [fW],hf⟩;have D:Hid (w.heap.size<=w.heap.size):=ag _;generalize q:w.heap.size=B at*;have e:=ae a;have l:Hid (w.heap.size<=B):=by rw [<-q];exact ag _
 clear a N O P Q hf R L q D;go_wp2
 go_loopw [6,7] (fun c i wr=>∃k n:Nat,k<=140/\n<=1/\c= .int .i64 n/\i= .int .i64 k/\oP w B xs ys k n wr) (fun _ i _=>140-(intOf i).toNat)
 case atStart=>exact ⟨0,0,by omega,by omega,rfl,rfl,e.out⟩
 case round=>
  clear e;obtain ⟨k,n,hk,hn,rfl,rfl,K⟩:=hrel;by_cases r:k<140
  ·obtain ⟨x,b⟩:∃x,xs[k]? =some x:=⟨xs[k]'(by omega),by simp⟩;obtain ⟨y,d⟩:∃y,ys[k]? =some y:=⟨ys[k]'(by omega),by simp⟩;have ah:=Y.get b;have aj:=Z.get d;obtain ⟨s,hs⟩:∃s,(x+y+n)% 65536=s:=⟨_,rfl⟩;obtain ⟨c',G⟩:∃c',(x+y+n)/65536=c':=⟨_,rfl⟩;have f:∀m,oP w B xs ys (k+1) c' ((wr.drewN m).setCell ⟨B+1+1+1,k,none⟩ (.int .i64 s)):=fun m=>(K.drewN m).step l.out r b d (by omega) (by omega)
   obtain ⟨ds,g,o,h,t,u,v,p,A⟩:=K;obtain ⟨z,T⟩:∃z,ds[k]? =some z:=⟨ds[k]'(by omega),by simp⟩;have d1:=u.cell k (ir b);have d2:=v.cell k (ir d);have d3:=h.cell k (ir T);have d4:=h.free k;have J:c'<=1:=by omega
   have e1:((x:Int)+y+n)% 65536=(s:Int):=by omega
   have X:((x:Int)+y+n)/65536=(c':Int):=by omega
   have ad:(k:Int)<140:=by omega
   have F:=ae f;clear f b d T g o h t u v p A hs G;go_wp2
   go_quiet (fail)
   go_wp2;go_roundw
   case rel=>exact ⟨k+1,c',by omega,J,by rw [X],by go_num,F.out _⟩
   case measure=>simp [intOf];omega
  ·obtain rfl:k=140:=by omega
   obtain ⟨ds,g,o,h,t,u,v,p,A⟩:=K;have F:Hid (fW ds=(fW xs+fW ys)% fo):=by
    rw [bN (by omega),bN (by omega),bN (by omega)] at p;exact Gc (zt g o) p
   have E:=ae (dW ds g);have W:=ae (show (au bI).toArray.size=(au ds).toArray.size by rw [cL ds g,cL bI dV]);have V:=ae (fb ds);have C:=ae h;have j:=ae t;have U:Hid (J7 w (wr.setRow (B+1+1) (au ds).toArray)):=A.setRow (B+1+1) (.inr (by have:=l.out;omega)) _;have M:Hid (ds.length=140/\gh ds):=⟨g,o⟩;clear g o h t u v p A r hk hn;go_wp2_with (first|refine wpList_load_row rfl 84 _ rfl (B+1+1+1) rfl 84 (au ds).toArray (0,0) _ C.out underlying84 rfl E.out ?_|refine wpList_store_row rfl 84 _ _ rfl (B+1+1) (au ds).toArray rfl rfl 84 (au bI).toArray j.out E.out W.out V.out ?_)
   refine bodyPost_ret (results_cell_row (by rfl) _ _ (B+1+1) 84 (au ds).toArray (0,0) _ rfl (j.out.setRow (au ds)) underlying84 rfl E.out) rfl ?_;exact ⟨ds,rfl,M.out.1,M.out.2,F.out,U.out⟩
def kX(w:World)(B:Nat)(xs ys:List Nat)(k c:Nat)(wr:World):Prop:=
 ∃ds,ds.length=140/\gh ds/\WB wr (B+1+1+1) ds/\WB wr (B+1+1) bI/\WB wr B xs/\WB wr (B+1) ys/\fW (ds.take k)+fW (ys.take k)=fW (xs.take k)+c*65536^k/\J7 w wr
theorem kX.step{w:World}{B:Nat}{xs ys:List Nat}{k c x y s c':Nat}{wr:World}(h:kX w B xs ys k c wr)(m:w.heap.size<=B)(n:k<140)(p:xs[k]? =some x)(q:ys[k]? =some y)(o:s+y+c=x+c'*65536)(a:s<65536):
  kX w B xs ys (k+1) c' (wr.setCell ⟨B+1+1+1,k,none⟩ (.int .i64 s)):=by
 obtain ⟨ds,j,b,d,e,f,g,l,i⟩:=h;refine ⟨ds.set k s,by grind,b.set k a,?_,e.Qg ⟨B+1+1+1,k,none⟩ _ (by grind),f.Qg ⟨B+1+1+1,k,none⟩ _ (by grind),g.Qg ⟨B+1+1+1,k,none⟩ _ (by grind),?_,i.setCell ⟨B+1+1+1,k,none⟩ (.inr (by grind)) _⟩
 ·show ay _ _ (au (ds.set k s)) _
  rw [<-kP];exact d.set k _
 grind [List.take_set,List.set_eq_of_length_le,od]
theorem kX.drewN{w:World}{B:Nat}{xs ys:List Nat}{k c:Nat}{wr:World}(h:kX w B xs ys k c wr)(n:Nat):kX w B xs ys k c (wr.drewN n):=by
 obtain ⟨ds,a,b,d,e,f,g,i,j⟩:=h;exact ⟨ds,a,b,d.drewN n,e.drewN n,f.drewN n,g.drewN n,i,j.drewN n⟩
theorem Bq(xs ys:List Nat)(hx:xs.length=140)(hy:ys.length=140)(hX:gh xs)(hY:gh ys)(D:fW ys<=fW xs)(w:World):
  Calls prog 44 #[iY xs,iY ys] w (jb w (fW xs-fW ys)):=by
 unfold iY;have W:=nL w xs ys;generalize I:(au xs).toArray=ca at*;generalize J:(au ys).toArray=cb at*;have P:=ae W;have H:=ae D;clear W I J D
 go_enter func44,ntmps44
 go_upto_region 2 with fail
 generalize V:(((w.alloc _).alloc _).alloc _).alloc _=w1;obtain ⟨R,S,T,U,hf⟩:=P.out w1 V;have b:kX w w.heap.size xs ys 0 0 w1:=⟨bI,dV,gh.zero _,U,T,R,S,by simp [fW],hf⟩;generalize C:w.heap.size=B at*;have g:=ae b;have q:Hid (w.heap.size<=B):=by rw [<-C];exact ag _
 clear b R S T U hf V P C;go_wp2
 go_loopw [6,7] (fun c i wr=>∃k n:Nat,k<=140/\n<=1/\c= .int .i64 n/\i= .int .i64 k/\kX w B xs ys k n wr) (fun _ i _=>140-(intOf i).toNat)
 case atStart=>exact ⟨0,0,by omega,by omega,rfl,rfl,g.out⟩
 case round=>
  clear g;obtain ⟨k,n,hk,hn,rfl,rfl,K⟩:=hrel;by_cases E:k<140
  ·obtain ⟨x,d⟩:∃x,xs[k]? =some x:=⟨xs[k]'(by omega),by simp⟩;obtain ⟨y,e⟩:∃y,ys[k]? =some y:=⟨ys[k]'(by omega),by simp⟩;have ak:=hX.get d;have al:=hY.get e;have a:∀s c',s+y+n=x+c'*65536->s<65536->∀m,kX w B xs ys (k+1) c' ((wr.drewN m).setCell ⟨B+1+1+1,k,none⟩ (.int .i64 s)):=fun s c' f h m=>(K.drewN m).step q.out E d e f h
   obtain ⟨ds,f,h,l,t,u,v,o,A⟩:=K;obtain ⟨z,O⟩:∃z,ds[k]? =some z:=⟨ds[k]'(by omega),by simp⟩;have d1:=u.cell k (ir d);have d2:=v.cell k (ir e);have d3:=l.cell k (ir O);have d4:=l.free k;have aj:(k:Int)<140:=by omega
   by_cases j:x<y+n
   ·obtain ⟨s,L⟩:∃s,x+65536-y-n=s:=⟨_,rfl⟩;have e1:(x:Int)-y-n=(s:Int)-65536:=by omega
    have M:(s:Int)<65536:=by omega
    have N:decide ((s:Int)-65536<0)=true:=by simp;omega
    have r:=ae (a s 1 (by omega) (by omega));clear a d e O f h l t u v o A L j;go_wp2
    go_quiet (fail)
    go_wp2;go_roundw
    case rel=>exact ⟨k+1,1,by omega,by omega,rfl,by go_num,r.out _⟩
    case measure=>simp [intOf];omega
   ·obtain ⟨s,L⟩:∃s,x-y-n=s:=⟨_,rfl⟩;have e1:(x:Int)-y-n=(s:Int):=by omega
    have M:(s:Int)<65536:=by omega
    have N:decide ((s:Int)<0)=false:=by simp
    have r:=ae (a s 0 (by omega) (by omega));clear a d e O f h l t u v o A L j;go_wp2
    go_quiet (fail)
    go_wp2;go_roundw
    case rel=>exact ⟨k+1,0,by omega,by omega,rfl,by go_num,r.out _⟩
    case measure=>simp [intOf];omega
  ·obtain rfl:k=140:=by omega
   obtain ⟨ds,f,h,l,t,u,v,o,A⟩:=K;have r:Hid (fW ds=fW xs-fW ys):=by
    rw [bN (by omega),bN (by omega),bN (by omega)] at o;have h9:=zt f h;have ad:=H.out;have ah:fW ds+fW ys=fW xs+n*fo:=o;show fW ds=fW xs-fW ys
    rcases (show n=0\/n=1 by omega) with rfl|rfl<;>omega
   have G:=ae (dW ds f);have Z:=ae (show (au bI).toArray.size=(au ds).toArray.size by rw [cL ds f,cL bI dV]);have Y:=ae (fb ds);have F:=ae l;have p:=ae t;have X:Hid (J7 w (wr.setRow (B+1+1) (au ds).toArray)):=A.setRow (B+1+1) (.inr (by have:=q.out;omega)) _;have Q:Hid (ds.length=140/\gh ds):=⟨f,h⟩;clear f h l t u v o A E hk hn;go_wp2_with (first|refine wpList_load_row rfl 84 _ rfl (B+1+1+1) rfl 84 (au ds).toArray (0,0) _ F.out underlying84 rfl G.out ?_|refine wpList_store_row rfl 84 _ _ rfl (B+1+1) (au ds).toArray rfl rfl 84 (au bI).toArray p.out G.out Z.out Y.out ?_)
   refine bodyPost_ret (results_cell_row (by rfl) _ _ (B+1+1) 84 (au ds).toArray (0,0) _ rfl (p.out.setRow (au ds)) underlying84 rfl G.out) rfl ?_;exact ⟨ds,rfl,Q.out.1,Q.out.2,r.out,X.out⟩
theorem zq(w:World):∀w1,(w.alloc (.cells Tryz.zeroCells84 84)).alloc (.cells Tryz.zeroCells84 84)=w1->
  WB w1 w.heap.size bI/\WB w1 (w.heap.size+1) bI/\J7 w w1:=by
 rintro w1 rfl
 grind [iH,pi]
def Fk(w:World)(B m p k M:Nat)(wr:World):Prop:=
 ∃ds,ds.length=140/\gh ds/\WB wr (B+1) ds/\WB wr B bI/\(∀j,p+k<=j->j<140->ds[j]? =some 0)/\fW ds+M*65536^(p+k)=m*65536^p/\J7 w wr
theorem Fk.step{w:World}{B m p k M:Nat}{wr:World}(h:Fk w B m p k M wr)(q:w.heap.size<=B)(i:p+k<140):
  Fk w B m p (k+1) (M/65536) (wr.setCell ⟨B+1,p+k,none⟩ (.int .i64 ((M% 65536:Nat):Int))):=by
 obtain ⟨ds,o,b,c,d,e,f,g⟩:=h;refine ⟨ds.set (p+k) (M% 65536),by grind,b.set _ (aI _ (by decide)),?_,d.Qg ⟨B+1,p+k,none⟩ _ (by grind),fun j r s=> ?_,?_,g.setCell ⟨B+1,p+k,none⟩ (.inr (by grind)) _⟩
 ·show ay _ _ (au (ds.set (p+k) (M% 65536))) _
  rw [<-kP];exact c.set _ _
 ·grind
 ·have a:=zu ds (p+k) 0 (M% 65536) (e (p+k) (ag _) i);rw [d8,aP] at a;rw [a,<-f,<-cv,d9];generalize 65536^(p+k)=P at*;have l:M*P=(M% 65536)*P+M/65536*(P*65536):=by
   have n:M=M% 65536+M/65536*65536:=by omega
   grind
  omega
theorem yT(m p:Nat)(S:m<18446744073709551616)(hp:p<=136)(w:World):
  Calls prog 139 #[.int .u64 m,(p:Int)] w (jb w (m*65536^p)):=by
 have E:=ae (zq w)
 go_enter func139,ntmps139
 go_upto_region 2 with fail
 generalize I:(w.alloc _).alloc _=w1;obtain ⟨G,H,hf⟩:=E.out w1 I;have a:Fk w w.heap.size m p 0 m w1:=⟨bI,dV,gh.zero _,H,G,fun j _ R=>by unfold bI;rw [ff,if_pos R],by unfold bI;rw [qV,bq,aP],hf⟩;generalize r:w.heap.size=B at*;have b:=ae a;have l:Hid (w.heap.size<=B):=by rw [<-r];exact ag _
 clear a G H hf I E r;go_wp2
 go_loopw [0,6] (fun c i wr=>∃k M:Nat,k<=4/\M<65536^(4-k)/\c= .int .u64 M/\i= .int .i64 k/\Fk w B m p k M wr) (fun _ i _=>4-(intOf i).toNat)
 case atStart=>exact ⟨0,m,by omega,S,rfl,rfl,b.out⟩
 case round=>
  clear b;obtain ⟨k,M,P,o,rfl,rfl,D⟩:=hrel;by_cases C:k<4
  ·have O:M<18446744073709551616:=bn o (show 65536^(4-k)<=65536^4 from bl (by decide) (by omega));have q:M/65536<65536^(4-(k+1)):=by
    rw [aO (by decide),<-d9,show (4-(k+1)).succ=4-k by omega];exact o
   have e:=D.step l.out (by omega);obtain ⟨ds,f,s,g,t,u,n,v⟩:=D;have U:=g.cell (p+k) (ir (u (p+k) (ag _) (by omega)));have V:=g.free (p+k);have W:(M:Int)% 65536=((M% 65536:Nat):Int):=by omega
   have X:(M:Int)/65536=((M/65536:Nat):Int):=by omega
   have Y:M% 65536<65536:=aI _ (by decide);generalize M% 65536=d at*;generalize M/65536=M' at*;have Q:(k:Int)<4:=by omega
   have T:(p:Int)+k<140:=by omega
   have J:p+k<140:=by omega
   have A:=ae e;have z:=ae q;clear e f s g t u n v o q;go_wp2;go_roundw
   case rel=>exact ⟨k+1,M',by omega,z.out,rfl,by go_num,A.out⟩
   case measure=>simp [intOf];omega
  ·obtain rfl:k=4:=by omega
   obtain ⟨ds,f,s,g,t,u,n,v⟩:=D;have A:Hid (fW ds=m*65536^p):=by
    rw [kU,oT] at o;obtain rfl:M=0:=by omega
    rwa [d8,aP] at n
   have y:=ae (dW ds f);have N:=ae (show (au bI).toArray.size=(au ds).toArray.size by rw [cL ds f,cL bI dV]);have L:=ae (fb ds);have x:=ae g;have h:=ae t;have K:Hid (J7 w (wr.setRow B (au ds).toArray)):=v.setRow B (.inr l.out) _;have F:Hid (ds.length=140/\gh ds):=⟨f,s⟩;clear f s g t u n v C P o;go_wp2_with (first|refine wpList_load_row rfl 84 _ rfl (B+1) rfl 84 (au ds).toArray (0,0) _ x.out underlying84 rfl y.out ?_|refine wpList_store_row rfl 84 _ _ rfl B (au ds).toArray rfl rfl 84 (au bI).toArray h.out y.out N.out L.out ?_)
   refine bodyPost_ret (results_cell_row (by rfl) _ _ B 84 (au ds).toArray (0,0) _ rfl (h.out.setRow (au ds)) underlying84 rfl y.out) rfl ?_;exact ⟨ds,rfl,F.out.1,F.out.2,A.out,K.out⟩
theorem jZ.uniq{N L L':Nat}(h:jZ N L)(a:jZ N L'):L=L':=by
 have d:∀{N L L':Nat},jZ N L->jZ N L'->L<=L':=by
  intro N L L' h a;rcases aN L' L with c|b
  ·have e:=h.2 (by omega);have f:2^L'<=2^(L-1):=bl (by decide) (by omega);have g:=a.1;omega
  omega
 grind
theorem vX:∀N:Nat,∃L,jZ N L:=fun N=>by
 rcases dB N with rfl|h
 ·exact ⟨0,by decide,by decide⟩
 ·exact ⟨N.log2+1,Nat.lt_log2_self,fun _=>by grind [Nat.log2_self_le]⟩
noncomputable def IA(N:Nat):Nat:=Classical.choose (vX N)
theorem zP(N:Nat):jZ N (IA N):=lx (vX N)
noncomputable def Xk(N:Nat):Nat:=jh N (IA N)
theorem Da{N L:Nat}(h:jZ N L):jh N L=Xk N:=by unfold Xk;rw [h.uniq (zP N)]
theorem Db(N:Nat):Xk N<=9218868437227405312:=by grind [Xk,jh,Nat.min_le_right]
def tB(b:Nat):Nat:=b^^^9223372036854775808
theorem Ew{b:Nat}(h:b<9223372036854775808):tB b=b+9223372036854775808:=by
 unfold tB;rw [show (9223372036854775808:Nat)=2^63*1 by rfl];have a:=dI (i:=63) (b:=b) h 1;rw [Nat.add_comm,a];apply db;intro i;rw [lm,mf];by_cases d:i<63
 ·have:(2^63*1).testBit i=false:=by rw [fu,gn (by omega)]
  grind
 ·have c:b.testBit i=false:=er (bn h (bl (n:=2) (by decide) (by omega:63<=i)))
  grind
noncomputable def tV(ns:List Nat)(nan plus minus:Bool)(count Qa:Int):Nat:=
 if nan||(plus&&minus) then 9221120237041090560 else if plus then 9218868437227405312 else if minus then 18442240474082181120
 else if oa ns||(decide (count>0)&&Qa==count) then Xk (uN ns)+9223372036854775808 else Xk (uN ns)
def xk(w:World)(v:Nat)(e:Ending)(w':World):Prop:=e= .returned (.float .f64 v)/\J7 w w'
theorem D4(w:World):Calls prog 84 #[(1:Int)] w fun e w'=>e= .returned (.float .f64 9218868437227405312)/\w=w':=by
 have h:∀w,(callFunc 31 #[.int .u64 9218868437227405312]).run prog w= .ok (.value (.float .f64 9218868437227405312)) w:=fun w=>by kernel_rfl
 go_enter func84,ntmps84
 go_wp2;go_ret;exact ⟨rfl,rfl⟩
theorem BF(w:World):Calls prog 84 #[((-1):Int)] w fun e w'=>e= .returned (.float .f64 18442240474082181120)/\w=w':=by
 have h:∀w,(callFunc 31 #[.int .u64 18442240474082181120]).run prog w= .ok (.value (.float .f64 18442240474082181120)) w:=fun w=>by kernel_rfl
 go_enter func84,ntmps84
 go_wp2;go_ret;exact ⟨rfl,rfl⟩
theorem AI(b:Nat)(i:Bool)(ns:List Nat)(f c a:Bool)(d j:Int)(w:World)(h:cS w b i ns f c a d j)(k:Hid ((f||(c&&a))=true)):
  Calls prog 40 #[b] w (xk w 9221120237041090560):=by
 have c1:=h.cNan;have c2:=h.Zk;have l:=h.Yp;have g:=ae (un 9221120237041090560 w)
 cases f with
 |true=>
  go_enter func40,ntmps40
  go_wp2_with fail
  refine g.out.mono ?_;rintro e w' ⟨rfl,rfl⟩;go_wp2;go_ret;exact ⟨rfl,Kb _ _⟩
 |false=>
  have hp:c=true/\a=true:=by have:=k.out;revert this;cases c<;>cases a<;>simp
  obtain ⟨rfl,rfl⟩:=hp
  go_enter func40,ntmps40
  go_wp2_with fail
  refine g.out.mono ?_;rintro e w' ⟨rfl,rfl⟩;go_wp2;go_ret;exact ⟨rfl,Kb _ _⟩
theorem sQ(b:Nat)(g:Bool)(ns:List Nat)(c a:Bool)(d k:Int)(w:World)(h:cS w b g ns false c a d k)(f:Hid ((c,a)=(true,false)\/(c,a)=(false,true))):
  Calls prog 40 #[b] w (xk w (if c then 9218868437227405312 else 18442240474082181120)):=by
 have c1:=h.cNan;have c2:=h.Zk;have l:=h.Yp;have j:=ae (D4 w);have i:=ae (BF w);rcases f.out with f|f
 ·cases f
  go_enter func40,ntmps40
  go_wp2_with fail
  refine j.out.mono ?_;rintro e w' ⟨rfl,rfl⟩;go_wp2;go_ret;exact ⟨rfl,Kb _ _⟩
 ·cases f
  go_enter func40,ntmps40
  go_wp2_with fail
  refine i.out.mono ?_;rintro e w' ⟨rfl,rfl⟩;go_wp2;go_ret;exact ⟨rfl,Kb _ _⟩
theorem sB{P:Program}(b:Nat)(w:World):(Op.unary .neg (.float .f64 b)).run P w= .ok (.float .f64 (tB b)) w:=rfl
theorem By(ns:List Nat):(aD ns).toArray.all (·.oneCell')=true:=Go.all_oneCell_toArray (fun v a=>by
 unfold aD at a;obtain ⟨x,_,rfl⟩:=bw.1 a;rfl)
noncomputable def xv(T:Bool)(A:Nat)(count Qa:Int):Nat:=if T||(decide (count>0)&&Qa==count) then Xk A+9223372036854775808 else Xk A
theorem tU(b:Nat)(d:Bool)(ns:List Nat)(a g:Int)(w:World)(h:cS w b d ns false false false a g):
  Calls prog 40 #[b] w (xk w (xv (oa ns) (uN ns) a g)):=by
 have c1:=h.cNan;have c2:=h.Zk;have X:=h.Yp;have s:=ae (C1 b d ns false false false a g w h);have Q:=ae h;clear h
 go_enter func40,ntmps40
 go_wp2_with fail
 refine s.out.mono ?_;rintro e w1 ⟨i,rfl,v,E,F,t⟩;generalize Y:oa ns=T at*;generalize uN ns=A at*;have k:=kN i v;have y:Hid ((prog.info? 130).map (·.size)=some (aD i).toArray.size):=by rw [k];exact nH
 have N:Hid ((aD (List.replicate 35 0)).toArray.size=(aD i).toArray.size):=by rw [k];rfl
 have K:Hid ((aD i).toArray.all (·.oneCell')=true):=By i;have W:=ae (vp i v E);have n:Hid (cS w1 b d ns false false false a g):=⟨Q.out.1.frame t id,Q.out.2⟩;have r:=ae t;have I:=ae F;generalize D:w1.heap.size=g2 at*;have m:=ae D;have j:Hid (∀o,o=Obj.cells (aD (List.replicate 35 0)).toArray 130->(w1.alloc o).heap[g2]? =some (.cells (aD (List.replicate 35 0)).toArray 130 (0,0))):=fun o ho=>by rw [ho,<-m.out];exact ay.new w1 (aD (List.replicate 35 0)) 130
 have x:Hid (∀o,J7 w ((w1.alloc o).setRow g2 (aD i).toArray)):=fun o=>(r.out.alloc _).setRow g2 (.inr (by have:=r.out.size;rwa [m.out] at this)) _
 have C:Hid (∀o,cS ((w1.alloc o).setRow g2 (aD i).toArray) b d ns false false false a g):=fun o=>⟨(n.out.1.alloc o).Qf g2 _ (by have:=n.out.1.lt;rw [m.out] at this;omega),n.out.2⟩
 clear k v E F t c1 c2 X Y;unfold jC at*
 go_upto_region 10 with (refine wpList_store_row rfl 130 _ _ rfl g2 (aD i).toArray rfl rfl 130 (aD (List.replicate 35 0)).toArray (j.out _ rfl) y.out N.out K.out ?_)
 generalize p:(w1.alloc _).setRow g2 _=w2;have H:Hid (J7 w w2):=by rw [<-p];exact x.out _
 have z:Hid (cS w2 b d ns false false false a g):=by rw [<-p];exact C.out _
 have G:Hid (ay w2 g2 (aD i) 130):=by rw [<-p];exact ay.setRow (c:=aD (List.replicate 35 0)) (j.out _ rfl) (aD i)
 clear p j x C n r m D;go_wp2_with (refine wpList_load_row rfl 130 _ rfl g2 rfl 130 (aD i).toArray (0,0) _ G.out underlying130 rfl y.out ?_)
 refine (W.out w2).mono ?_;rintro e w3 ⟨L,U,rfl,u⟩;rw [Da U,I.out];have M:Hid (Xk A<=9218868437227405312):=Db A;have f:Hid (xv T A a g=if T||(decide (a>0)&&g==a) then Xk A+9223372036854775808 else Xk A):=rfl;generalize Xk A=R at*;have J:=ae (un R w3);have l:=ae (H.out.Xa u);have B:Hid (cS w3 b d ns false false false a g):=⟨z.out.1.frame u id,z.out.2⟩;generalize xv T A a g=V at*;clear u U;go_wp2_with fail
 refine J.out.mono ?_;rintro e w4 ⟨rfl,rfl⟩
 go_upto_region 11 with fail
 have cC:=B.out.Yb;have cZ:=B.out.Zl;have Z:=fun w=>sB (P:=prog) R w
 have q:tB R=R+9223372036854775808:=Ew (by have:=M.out;omega);rw [<-q] at f;clear q
 cases T with
 |true=>
  obtain rfl:V=tB R:=by rw [f.out,Bool.true_or,if_pos rfl]
  clear f
  go_quiet (fail)
  go_wp2;go_ret;exact ⟨rfl,l.out.drewN _⟩
 |false=>
  by_cases S:0<a
  ·by_cases O:g=a
   ·obtain rfl:V=tB R:=by rw [f.out,O,if_pos (by rw [gF,ak,decide_eq_true_eq,beq_iff_eq];exact ⟨S,rfl⟩)]
    subst O;clear f
    go_quiet (fail)
    go_wp2;go_ret;exact ⟨rfl,l.out.drewN _⟩
   ·obtain rfl:V=R:=by rw [f.out,if_neg (by simp;omega)]
    have ad:(g==a)=false:=by simpa using O
    clear f
    go_quiet (fail)
    go_wp2;go_ret;exact ⟨rfl,l.out.drewN _⟩
  ·obtain rfl:V=R:=by rw [f.out,if_neg (by simp;omega)]
   have hd:decide (0<a)=false:=by simpa using S
   clear f
   go_quiet (fail)
   go_wp2;go_ret;exact ⟨rfl,l.out.drewN _⟩
theorem AK(b:Nat)(d:Bool)(ns:List Nat)(f e c:Bool)(a g:Int)(w:World)(h:cS w b d ns f e c a g):
  Calls prog 40 #[b] w (xk w (tV ns f e c a g)):=by
 unfold tV;by_cases i:(f||(e&&c))=true
 ·rw [if_pos i];exact AI b d ns f e c a g w h i
 ·rw [if_neg i];obtain rfl:f=false:=by grind
  cases e with
  |true=>
   obtain rfl:c=false:=by grind
   have j:=sQ b d ns true false a g w h (.inl rfl)
   grind
  |false=>
   rw [if_neg bD]
   cases c with
   |true=>
    have j:=sQ b d ns false true a g w h (.inr rfl)
    grind
   |false=>
    rw [if_neg bD];exact tU b d ns a g w h
noncomputable def fE.whole(g:fE):Nat:=
 if g.nan||(g.plus&&g.minus) then 9221120237041090560 else if g.plus then 9218868437227405312 else if g.minus then 18442240474082181120
 else if g.total<0\/(0<g.count/\g.Qa=g.count) then Xk g.total.natAbs+9223372036854775808 else Xk g.total.natAbs
def gT:Nat:=9007199254740992*2^2046
def jr:Nat:=18446744073709551616^34*9223372036854775808
theorem mO(k:Nat)(a:k=2046):gT=9007199254740992*2^k:=by subst a;rfl
theorem nK(k:Nat)(a:k=34):jr=18446744073709551616^k*9223372036854775808:=by subst a;rfl
theorem JL:4611686018427387904*gT<=jr:=by
 obtain ⟨k,a⟩:∃k:Nat,k=2046:=⟨_,rfl⟩;obtain ⟨m,b⟩:∃k:Nat,k=34:=⟨_,rfl⟩;rw [mO k a,nK m b]
 grind
theorem Ek:I8=jr+jr:=by
 obtain ⟨m,a⟩:∃k:Nat,k=34:=⟨_,rfl⟩;simp_all [nK]
theorem lS(f:Nat):cI f<gT:=by
 obtain ⟨k,b⟩:∃k:Nat,k=2046:=⟨_,rfl⟩;rw [mO k b];have e:gl f<4503599627370496:=aI _ (by decide);have d:gu f<2048:=aI _ (by decide);unfold cI;generalize gl f=F at*;generalize gu f=E at*;have hp:=im k;split
 ·omega
 ·have a:2^(E-1)<=2^k:=bl Nat.two_pos (by omega);have c:(4503599627370496+F)*2^(E-1)<=(4503599627370496+F)*2^k:=cg _ a
  grind
theorem y5(f:Nat):(fR f).natAbs<=gT:=by
 have h:=lS f
 grind [fR,qg]
def fE.ok(g:fE):Prop:=g.total.natAbs<=g.count*gT/\g.Qa<=g.count
theorem fE.ok_none:fE.none.ok:=⟨by simp [fE.none],ag _⟩
theorem fE.ok.add{g:fE}(h:g.ok)(f:Nat):(g.add f).ok:=by
 have a:=y5 f;obtain ⟨b,c⟩:=h;unfold fE.add fE.ok;dsimp only;refine ⟨?_,by split<;>omega⟩;rw [Nat.succ_mul];generalize g.count*gT=X at *;generalize gT=T at *;omega
theorem fE.ok_of(l:List Nat):(fE.of l).ok:=by
 unfold fE.of;have:∀(l:List Nat) (g:fE),g.ok->(l.foldl fE.add g).ok:=by
  intro l
  induction l with
  |nil=>grind
  |cons f l ih=>intro g hg;exact ih _ (hg.add f)
 grind [fE.ok_none]
theorem fE.ok.small{g:fE}(h:g.ok)(c:g.count<4611686018427387904):g.total.natAbs<jr\/(g.total=0/\0<jr):=by
 have d:=JL;have b:=h.1;have e:g.count*gT<=4611686018427387904*gT:=aG _ (ea c);rcases dB gT with a|a
 ·right;rw [a,oU] at b;refine ⟨by omega,?_⟩;have:=lS 0;omega
 left;have i:=Nat.mul_lt_mul_of_pos_right c a;omega
theorem Fz{ns:List Nat}(i:ns.length=35)(e:fH ns):oa ns=decide (jr<=Qj ns):=by
 obtain ⟨m,a⟩:∃k:Nat,k=34:=⟨_,rfl⟩;rw [nK m a];obtain ⟨x,f⟩:∃x,ns[34]? =some x:=⟨ns[34]'(by omega),by simp⟩;obtain ⟨r,z,b,c,h,d⟩:=xB e f;have g:z=0:=by rw [d,iy (by omega)];rfl
 subst g;rw [<-a] at b c;unfold oa
 grind
theorem FA{ns:List Nat}(b:ns.length=35)(a:fH ns){t:Int}(f:(Qj ns:Int)=t% (I8:Int))(e:t.natAbs<jr):oa ns=decide (t<0)/\uN ns=t.natAbs:=by
 have c:=Fz b a;have d:=Ek;unfold uN
 grind
theorem AJ(b:Nat)(g:fE)(w:World)(h:sn w b g)(a:g.ok)(e:g.count<4611686018427387904):
  Calls prog 40 #[b] w (xk w g.whole):=by
 obtain ⟨ns,c,f⟩:=h;have d:g.total.natAbs<jr:=by rcases a.small e with h|⟨k,l⟩;exact h;omega
 obtain ⟨i,j⟩:=FA c.2.1 c.2.2 f d;have m:=AK b true ns g.nan g.plus g.minus g.count g.Qa w c;have:tV ns g.nan g.plus g.minus g.count g.Qa=g.whole:=by
  unfold tV fE.whole
  grind
 grind
theorem zm(k:Nat)(a:k=140):fo=65536^k:=by subst a;rfl
theorem mN:gT<fo:=by
 obtain ⟨k,a⟩:∃k:Nat,k=2046:=⟨_,rfl⟩;obtain ⟨m,b⟩:∃k:Nat,k=140:=⟨_,rfl⟩;rw [mO k a,zm m b]
 grind
def I1(w:World)(B1 B2 M k:Nat)(wr:World):Prop:=∃ds,ds.length=140/\gh ds/\WB wr B2 ds/\WB wr B1 bI/\fW ds=M*2^k/\J7 w wr
theorem B9{M k r:Nat}(d:M*2^r<fo)(b:k<r):(M*2^k+M*2^k)% fo=M*2^(k+1):=by
 have a:M*2^(k+1)=M*2^k+M*2^k:=by grind
 have c:M*2^(k+1)<=M*2^r:=cg _ (bl (by decide) b);rw [<-a,fd (by omega)]
theorem xy(b E F m e q r:Nat)(w:World)(h1:(b:Int)/4503599627370496=(E:Int))(h2:(b:Int)% 4503599627370496=(F:Int))(hE:E<2048)(hF:F<4503599627370496)(hb:b<18446744073709551616)
  (hc:Hid ((E=0/\m=F/\e=E)\/(0<E/\m=F+4503599627370496/\E=e+1))) (ar:(e:Int)/16=(q:Int)) (av:(e:Int)% 16=(r:Int)) (hr:r<16) (hq:q<=127) (he:e<2048) (hm:m<9007199254740992) (R:Hid (m*65536^q*2^r<fo)):
  Calls prog 89 #[.int .u64 b] w (jb w (m*65536^q*2^r)):=by
 have HD:=ae (yT m q (by omega) (by omega));have n:Hid (∀w:World,WB (w.alloc (.cells Tryz.zeroCells84 84)) w.heap.size bI):=fun w=>by rw [iH];exact ay.new w (au bI) _
 obtain ⟨V,hV⟩:∃V,V=m*65536^q*2^r:=⟨_,rfl⟩;rw [<-hV];have HV:=ae hV;clear hV;have j:(decide (0<E)=false/\m=F/\e=E)\/(decide (0<E)=true/\(F:Int)+4503599627370496=(m:Int)/\(E:Int)-1=(e:Int)):=by
  rcases hc.out with ⟨h,h',O⟩|⟨h,h',O⟩
  ·exact .inl ⟨by simp;omega,h',O⟩
  ·exact .inr ⟨by simp;omega,by omega,by omega⟩
 clear hc;have Q:J7 w (w.alloc (.cells Tryz.zeroCells84 84)):=(Kb _ w).alloc _;have P:=n.out w;generalize ao:w.alloc (.cells Tryz.zeroCells84 84)=w1 at*;generalize S:w.heap.size=g1 at*;have H:=ae Q;have B:=ae P;have ad:=ae S;clear Q P;rcases j with ⟨hd,rfl,rfl⟩|⟨hd,ax,aq⟩
 all_goals
  go_enter func89,ntmps89
  go_upto_region 6 with fail
  clear ao S hd;go_wp2_with fail
  refine (HD.out _).mono ?_;rintro x w2 ⟨ds,rfl,Y,Xl,uz,y⟩;have l:=ae (dW ds Y);have X:=ae (show (au bI).toArray.size=(au ds).toArray.size by rw [cL ds Y,cL bI dV]);have W:=ae (fb ds);have s:=ae (B.out.frame y id);have u:=ae (H.out.then y);have p:=n.out w2;have z:J7 w2 (w2.alloc (.cells Tryz.zeroCells84 84)):=(Kb _ w2).alloc _;generalize ap:w2.alloc (.cells Tryz.zeroCells84 84)=w3 at*;generalize g:w2.heap.size=g2 at*;have v:=ae p;have ah:=ae g;have C:=ae (s.out.frame z id);have I:=ae (u.out.then z);have L:Hid (g1<g2):=by have:=s.out.lt;rwa [g] at this
  have N:Hid (w.heap.size<=g2):=by have:=u.out.size;rwa [g] at this
  clear p z;unfold iY
  go_upto_region 7 with (refine wpList_store_row rfl 84 _ _ rfl g2 (au ds).toArray rfl rfl 84 (au bI).toArray v.out l.out X.out W.out ?_)
  clear ap g;have d:I1 w g1 g2 (m*65536^q) 0 (w3.setRow g2 (au ds).toArray):=⟨ds,Y,Xl,ay.setRow (c:=au bI) v.out (au ds),C.out.Qf g2 _ (by have:=L.out;omega),by rw [uz,oT,fu],I.out.setRow g2 (.inr N.out) _⟩;have a:=ae d;clear d Y Xl uz y l X W s u v ah C I B H HD;generalize w3.setRow g2 (au ds).toArray=w4 at*;clear hb h1 h2 hE hF;go_wp2_with fail
  go_loopw [6] (fun i wr=>∃k:Nat,k<=r/\i= .int .i64 k/\I1 w g1 g2 (m*65536^q) k wr) (fun i _=>r-(intOf i).toNat)
  case atStart=>exact ⟨0,by omega,rfl,a.out⟩
  case round=>
   clear a;obtain ⟨k,hk,rfl,xs,A,U,k3,Z,k5,k6⟩:=hrel;have l:=ae (dW xs A);have t:=ae k3;by_cases T:k<r
   ·have am:=ae (vA xs xs A A U U wr);have M:Hid ((fW xs+fW xs)% fo=m*65536^q*2^(k+1)):=by
     show (fW xs+fW xs)% fo=_
     rw [k5];exact B9 R.out T
    have aj:=ae Z;have ak:=ae k6;clear A U k3 Z k5 k6;go_wp2_with (refine wpList_load_row rfl 84 _ rfl g2 rfl 84 (au xs).toArray (0,0) _ t.out underlying84 rfl l.out ?_)
    refine am.out.mono ?_;rintro x w5 ⟨ys,rfl,y1,y2,y3,y4⟩;have G:=ae (t.out.frame y4 id);have K:=ae (dW ys y1);have an:=ae (show (au xs).toArray.size=(au ys).toArray.size by have:=l.out.symm.trans K.out;simpa using this);have al:=ae (fb ys);have f:I1 w g1 g2 (m*65536^q) (k+1) (w5.setRow g2 (au ys).toArray):=⟨ys,y1,y2,ay.setRow (c:=au xs) G.out (au ys),(aj.out.frame y4 id).Qf g2 _ (by have:=L.out;omega),by rw [y3,M.out],(ak.out.then y4).setRow g2 (.inr N.out) _⟩;have a:=ae f;clear f y1 y2 y3 y4;unfold iY;go_wp2_with (refine wpList_store_row rfl 84 _ _ rfl g2 (au ys).toArray rfl rfl 84 (au xs).toArray G.out K.out an.out al.out ?_)
    go_roundw
    case rel=>exact ⟨k+1,by omega,by go_num,a.out⟩
    case measure=>simp [intOf];omega
   ·obtain rfl:k=r:=by omega
    have X:=ae (show (au bI).toArray.size=(au xs).toArray.size by rw [cL xs A,cL bI dV]);have W:=ae (fb xs);have D:=ae Z;have o:jb w V (.returned (iY xs)) (wr.setRow g1 (au xs).toArray):=⟨xs,rfl,A,U,by rw [k5,HV.out],k6.setRow g1 (.inr (by rw [ad.out];exact ag _)) _⟩;have J:=ae o;clear o A U k3 Z k5 k6 hk T;go_wp2_with (first|refine wpList_load_row rfl 84 _ rfl g2 rfl 84 (au xs).toArray (0,0) _ t.out underlying84 rfl l.out ?_|refine wpList_store_row rfl 84 _ _ rfl g1 (au xs).toArray rfl rfl 84 (au bI).toArray D.out l.out X.out W.out ?_)
    refine bodyPost_ret (results_cell_row (by rfl) _ _ g1 84 (au xs).toArray (0,0) _ rfl (D.out.setRow (au xs)) underlying84 rfl l.out) rfl ?_;exact J.out
theorem AP(b:Nat)(n:b<9223372036854775808)(w:World):
  Calls prog 89 #[.int .u64 b] w (jb w (cI b)):=by
 have l:gu b=b/4503599627370496:=by unfold gu;omega
 obtain ⟨m,e,o,i,h,j,k⟩:=tj b (by omega);have f:gl b<4503599627370496:=aI _ (by decide);have c:m*65536^(e/16)*2^(e% 16)=cI b:=by
  grind [Nat.pow_mul,Nat.pow_add,Nat.div_add_mod]
 have a:cI b<fo:=iv (lS b) mN;have d:m<9007199254740992:=by
  omega
 rw [<-c] at a ⊢;have g:gl b=b% 4503599627370496:=rfl;refine xy b (gu b) (gl b) m e (e/16) (e% 16) w (by omega) (by omega) (by omega) f (by omega) ?_ (by omega) (by omega) (by omega) (by omega) (by omega) d a;show (gu b=0/\m=gl b/\e=gu b)\/(0<gu b/\m=gl b+4503599627370496/\gu b=e+1)
 omega
theorem rE(a q:Nat)(d:q<9007199254740992)(b:a=0\/4503599627370496<=q)(c:a<2047):cI (a*4503599627370496+q)=q*2^a:=by
 unfold cI gu gl;by_cases h:q<4503599627370496
 ·grind
 grind
theorem zN(a q:Nat)(e:q<9007199254740992)(d:a=0\/4503599627370496<=q)(b:a<2047)(c:a<2046\/q+1<9007199254740992):cI (a*4503599627370496+q+1)=(q+1)*2^a:=by
 by_cases h:q+1<9007199254740992
 ·rw [cv,rE a (q+1) h (by omega) b]
 ·obtain rfl:q=9007199254740991:=by omega
  rw [show a*4503599627370496+9007199254740991+1=(a+1)*4503599627370496+4503599627370496 by omega,rE (a+1) 4503599627370496 (by decide) (by omega) (by omega),d9,bg (2^a),<-eR]
theorem DT(b:Nat)(h:b<9223372036854775808):∃a q,b=a*4503599627370496+q/\q<9007199254740992/\(a=0\/4503599627370496<=q)/\a<2047:=by
 by_cases c:b<4503599627370496
 ·exact ⟨0,b,by omega,by omega,by omega,by omega⟩
 ·exact ⟨b/4503599627370496-1,b-(b/4503599627370496-1)*4503599627370496,by omega,by omega,by omega,by omega⟩
theorem Gh(b:Nat)(h:b+1<9223372036854775808):cI b<cI (b+1):=by
 obtain ⟨a,q,rfl,e,c,d⟩:=DT b (by omega)
 grind [rE,zN]
theorem oy{b c:Nat}(h:b<=c)(a:c<9223372036854775808):cI b<=cI c:=by
 induction c with
 |zero=>grind
 |succ c ih=>
  rcases jM h with rfl|h
  ·omega
  grind [Gh]
theorem Gi(k:Nat)(a:k=2046):cI 9218868437227405312=4503599627370496*2^k:=by
 have h:=rE k 4503599627370496 (by decide) (.inr (ag _)) (by omega)
 grind
def rr(N low:Nat):Nat:=
 if low=9218868437227405312 then 9218868437227405312
 else if cI (low+1)-N<N-cI low\/(¬N-cI low<cI (low+1)-N/\low% 2=1) then low+1 else low
theorem DK(N b a q r P:Nat)(d:2^a=P)(n:N=P*q+r)(s:r<P)(g:q<9007199254740992)(e:a=0\/4503599627370496<=q)(c:a<2046)(p:b<=9218868437227405312)(l:cI b<=N)(m:b<9218868437227405312->N<cI (b+1)):
  b=a*4503599627370496+q/\cI b=P*q/\cI (b+1)=P*q+P:=by
 have i:=rE a q g e (by omega);have j:=zN a q g e (by omega) (.inl c);rw [d,bg q P] at i;rw [d,dh,bg q P] at j;generalize P*q=X at*;have o:a*4503599627370496+q<9218868437227405312:=by omega
 have f:b=a*4503599627370496+q:=by
  rcases cW b (a*4503599627370496+q) with h|h|h
  ·have k:=oy (show b+1<=_ from h) (by omega);omega
  ·exact h
  ·have k:=oy (show _+1<=b from h) (by omega);omega
 grind
theorem vK(X P H c s r q a:Nat)(e:P=2*H)(h:r=H*c+s)(i:s<H)(g:c=0\/c=1)(d:0<a)(b:Nat)(f:b% 2=q% 2):
  (if X+P-(X+r)<(X+r)-X\/(¬(X+r)-X<X+P-(X+r)/\b% 2=1) then b+1 else b)=b+(if 0<a/\c=1/\(q% 2=1\/s≠0) then 1 else 0):=by
 grind
theorem DJ(N a:Nat)(C:a<=9218868437227405312)(v:cI a<=N)(n:a<9218868437227405312->N<cI (a+1)):rr N a=Xk N:=by
 have w:=zP N;unfold Xk;generalize IA N=L at*;unfold jh mG;obtain ⟨x,i⟩:=w;have p:N/2^(L-53)<9007199254740992:=by
  rw [aO (im _),show (9007199254740992:Nat)=2^53 by rfl,<-cT]
  grind [Nat.lt_of_lt_of_le,Nat.pow_le_pow_right]
 have m:L-53=0\/4503599627370496<=N/2^(L-53):=by
  by_cases d:L-53=0
  ·omega
  ·refine .inr ((cA (im _)).2 ?_);rw [show (4503599627370496:Nat)=2^52 by rfl,<-cT,show 52+(L-53)=L-1 by omega];omega
 have e:=(az N (2^(L-53))).symm;have l:=aI N (im (L-53));rw [fd p];by_cases z:L-53<2046
 ·have b:0<L-53->2^(L-53)=2*2^(L-53-1)/\N% 2^(L-53)=2^(L-53-1)*(N/2^(L-53-1)% 2)+N% 2^(L-53-1):=fun d=>by
   have hp:2^(L-53)=2*2^(L-53-1):=by rw [<-Nat.pow_succ',show (L-53-1).succ=L-53 by omega]
   refine ⟨hp,?_⟩;rw [hp,bg 2,Nat.mod_mul,Nat.add_comm]
  have D:=aI N (im (L-53-1));have A:N/2^(L-53-1)% 2<2:=aI _ (by decide);generalize N% 2^(L-53-1)=s at*;generalize N/2^(L-53-1)% 2=c at*;generalize N% 2^(L-53)=r at*;generalize N/2^(L-53)=q at*;generalize y:2^(L-53)=P at*;generalize 2^(L-53-1)=H at*;obtain ⟨g1,t,u⟩:=DK N a (L-53) q r P y e l p m z C v n;unfold rr;rw [if_neg (by omega),t,u,e,<-g1];generalize P*q=X at*;rcases dB (L-53) with d|d
  ·grind
  ·obtain ⟨E,F⟩:=b d;rw [vK X P H c s r q (L-53) E F D (by omega) d a (by omega)]
   grind
 ·obtain ⟨k,B⟩:∃k:Nat,k=2046:=⟨_,rfl⟩;have f:52+k<=L-1:=by omega
  have g:0<L:=by omega
  have j:4503599627370496*2^k<=N:=by
   rewrite [show (4503599627370496:Nat)=2^52 from rfl,<-cT]
   exact aH (bl Nat.two_pos f) (i g)
  rw [<-Gi k B] at j;have o:a=9218868437227405312:=by
   rcases aN a 9218868437227405312 with h|h
   ·have G:=n h;have I:=oy (show a+1<=9218868437227405312 from h) (by decide);omega
   omega
  unfold rr
  grind
section
variable{P:Program}{ops:Array Oper}{md:Region.Mode}{C:Option Nat->World->Prop}
def Df(P:Program)(o:Oper)(a:Act)(C:Option Nat->World->Prop)(next:Act->Prop):Prop:=∃v,(∀s w,C s w->o.quietAt P a (C s) w v)/\next (a.put o.dst v)
def CA(P:Program)(ops:Array Oper)(C:Option Nat->World->Prop)(Q:Act->Prop):List Oper->Act->Prop
 |[],a=>Q a
 |o::rest,a=>if Region.wanted o (yielded ops a.tmps) then Df P o a C (CA P ops C Q rest) else CA P ops C Q rest (a.put o.dst undef)
def Yq(P:Program)(ops:Array Oper)(C:Option Nat->World->Prop)(i:Nat)(K:Act->Prop)(a:Act):Prop:=
 match ops[i]? with
 |none=>K a
 |some o=>if Region.wanted o (yielded ops a.tmps) then Df P o a C K else K (a.put o.dst undef)
theorem D2{i:Nat}{a:Act}{K c:Act->Prop}(h:∀a,K a->c a)(b:Yq P ops C i K a):Yq P ops C i c a:=by
 unfold Yq at*;split
 ·grind
 ·rename_i o f;simp only [f] at b;split
  ·rename_i g;simp only [g,if_true] at b;obtain ⟨v,d,e⟩:=b;exact ⟨v,d,h _ e⟩
  grind
theorem xJ{i:Nat}{a:Act}{K:Act->Prop}(s:Option Nat)(h:Yq P ops C i K a):qOp P ops (C s) i K a:=by
 unfold Yq at h;unfold qOp;split
 ·grind
 ·rename_i o d;simp only [d] at h;split
  ·rename_i e;simp only [e,if_true] at h;obtain ⟨v,b,c⟩:=h;exact ⟨v,b s,c⟩
  grind
def gI(P:Program)(ops:Array Oper)(C:Option Nat->World->Prop)(o:Oper)(v:Value)(a:Act):Prop:=
 (Region.wanted o (yielded ops a.tmps)=true/\∀s w,C s w->o.quietAt P a (C s) w v)\/(Region.wanted o (yielded ops a.tmps)=false/\v=undef)
theorem gI.Yq{i:Nat}{o:Oper}{v:Value}{a:Act}(c:ops[i]? =some o)(e:gI P ops C o v a){K:Act->Prop}(h:K (a.put o.dst v)):Yq P ops C i K a:=by
 unfold Go.Proofs.YtgnoapadkncphaaGreatDoor.Yq;simp only [c];rcases e with ⟨b,d⟩|⟨b,rfl⟩
 ·simp only [b,if_true];exact ⟨v,d,h⟩
 grind
theorem gI.of_same{o:Oper}{v:Value}{a b:Act}(e:gI P ops C o v a)(c:execOp b.eval o=execOp a.eval o)
  (d:Region.wanted o (yielded ops b.tmps)=Region.wanted o (yielded ops a.tmps)):gI P ops C o v b:=by
 grind [gI,Oper.quietAt]
theorem qO{i:Nat}{o:Oper}{a:Act}{K:Act->Prop}(e:ops[i]? =some o)(h:Yq P ops C i K a):∃v,gI P ops C o v a/\K (a.put o.dst v):=by
 unfold Yq at h;simp only [e] at h;by_cases b:Region.wanted o (yielded ops a.tmps)=true
 ·simp only [b,if_true] at h;obtain ⟨v,c,d⟩:=h;exact ⟨v,.inl ⟨b,c⟩,d⟩
 ·simp only [b] at h;exact ⟨undef,.inr ⟨by grind,rfl⟩,h⟩
theorem Gl{j:Nat}{c d:Oper}{v:Value}(p:ops[j]? =some d)(e:c.apart ops d=true)
  (f:∀cs b,c.op≠ .select cs b) (g:∀cs b,d.op≠ .select cs b) {K:Act->Prop} {a:Act}
  (k:gI P ops C c v a) (h:Yq P ops C j K (a.put c.dst v)):
  Yq P ops C j (fun l=>gI P ops C c v l/\K (l.put c.dst v)) a:=by
 obtain ⟨m,t,n⟩:=Oper.apart_spec e;have o:∀(a:Act),gI P ops C c v a->∀u,gI P ops C c v (a.put d.dst u):=fun a k u=>
  k.of_same (execOp_put c f a d.dst u n) (wanted_put c a d.dst u n)
 unfold Yq at*;simp only [p] at*;rw [wanted_put d a c.dst v m] at h;split
 ·rename_i r;simp only [r,if_true] at h;obtain ⟨u,q,x⟩:=h;refine ⟨u,fun s w i=> ?_,o a k u,by grind [Act.put_comm]⟩;have:=q s w i;unfold Oper.quietAt at*;rwa [execOp_put d g a c.dst v m] at this
 grind [Act.put_comm]
def lR(g:Nat):Value:= .pointer (some ⟨g,0,none⟩)
def Cp(P:Program)(md:Region.Mode)(ops:Array Oper)(C:Option Nat->World->Prop)(p:Nat)(d:Tmp)(n:Nat)(L:Option Nat->Array Bool->Act->Prop):Nat->Option Nat->Array Bool->Act->Prop
 |0,s,listed,a=>L s listed a
 |f+1,s,listed,a=>Region.ready md ops listed≠[]/\∀i∈Region.ready md ops listed,i<n/\
   if i=p then s=none/\∀g,Cp P md ops C p d n L f (some g) (listed.setIfInBounds i true) (a.put (some d) (lR g))
   else Yq P ops C i (Cp P md ops C p d n L f s (listed.setIfInBounds i true)) a
def xf(P:Program)(ops:Array Oper)(C:Option Nat->World->Prop)(p:Nat)(d:Tmp):Prop:=
 ∃o,ops[p]? =some o/\o.dst=some d/\(∃t,o.op= .alloc t)/\o.guard=none/\∀(a:Act) w,C none w->∃w',(execOp a.eval o).run P w= .ok (.value (lR w.heap.size)) w'/\C (some w.heap.size) w'
theorem j9{n p g:Nat}{d:Tmp}{L:Option Nat->Array Bool->Act->Prop}{Q':Exit->Act->World->Prop}(q:xf P ops C p d)(j:∀s b a w,C s w->L s b a->wpAny P md ops Q' g b a w):
  ∀(f:Nat) (s:Option Nat) (b:Array Bool) (a:Act) (w:World),C s w->Cp P md ops C p d n L f s b a->wpAny P md ops Q' (f+g) b a w
 |0,s,b,a,w,hw,h=>by rw [bq];exact j _ _ _ _ hw h
 |f+1,s,b,a,w,hw,h=>by
  rw [show f+1+g=(f+g)+1 by omega];refine ⟨fun y=>absurd y h.1,fun i A=> ?_⟩;have e:=(h.2 i A).2;by_cases c:i=p
  ·rw [if_pos c] at e;obtain ⟨rfl,z⟩:=e;subst c;obtain ⟨o,t,r,_,hg,u⟩:=q;obtain ⟨w',l,k⟩:=u a w hw;unfold wpOp;simp only [t];rw [if_pos (by grind [Region.wanted])];refine .inl ?_;unfold Oper.wp;rw [l];simp only [Oper.upon];rw [r];exact j9 ⟨o,t,r,‹_›,hg,u⟩ j f _ _ _ _ k (z w.heap.size)
  ·rw [if_neg c] at e;exact wpOp_of_qOp hw (fun v w' m x=>j9 q j f _ _ v w' m x) (xJ s e)
theorem zc{n p i:Nat}{d:Tmp}{y:Oper}{v:Value}{L:Option Nat->Array Bool->Act->Prop}(hM:xf P ops C p d)(F:i≠p)(O:ops[i]? =some y)(t:∀(j:Nat) (o:Oper) cs b,ops[j]? =some o->o.op≠ .select cs b)
  (X:Region.sinkB md ops n=true) (U:Region.chainB md ops n=true) (W:n<ops.size) (E:i<n)
  (A:∀s c a,L s c a->∀j∈Region.ready md ops c,n<=j):
  ∀(f:Nat) (s:Option Nat) (c:Array Bool) (a:Act),HeadInv md ops n c->
   (∀j w,ops[j]? =some w->j≠i->c.getD j true=false->(∀e∈w.after,Region.binds md e=true->e.on≠i)->y.apart ops w=true)->
   i∈Region.ready md ops c->gI P ops C y v a->
   Cp P md ops C p d n L f s (c.setIfInBounds i true) (a.put y.dst v)->Cp P md ops C p d n L (f+1) s c a:=by
 intro f
 induction f with
 |zero=>
  intro s c a u _ K M H;have x:=(mem_ready.1 K).1;refine ⟨fun h=>(by grind),fun j z=> ?_⟩;have r:j<n:=by
   rcases aN j n with h|h
   ·exact h
   ·exact absurd z (tail_waits X U W u _ i rfl E x j h)
  refine ⟨r,?_⟩;by_cases l:j=i
  ·subst l;rw [if_neg F];exact M.Yq O H
  ·have:=A _ _ _ H j (ready_mono z l);omega
 |succ f ih=>
  intro s c a u q K M H;have x:=(mem_ready.1 K).1;refine ⟨fun h=>(by grind),fun j z=> ?_⟩;have r:j<n:=by
   rcases aN j n with h|h
   ·exact h
   ·exact absurd z (tail_waits X U W u _ i rfl E x j h)
  refine ⟨r,?_⟩;by_cases l:j=i
  ·subst l;rw [if_neg F];exact M.Yq O H
  ·have N:=(H.2 j (ready_mono z l)).2;obtain ⟨I,w,B,T⟩:=mem_ready.1 z;have J:∀e∈w.after,Region.binds md e=true->e.on≠i:=fun e he hb ad=>by
    grind
   have m:∀k ok,ops[k]? =some ok->k≠i->(c.setIfInBounds j true).getD k true=false->
     (∀e∈ok.after,Region.binds md e=true->e.on≠i)->y.apart ops ok=true:=fun k ok hk Q x R=>by
    refine q k ok hk Q ?_ R;by_cases ag:j=k
    ·grind
    simp_all
   have D:=q j w B l I J;by_cases G:j=p
   ·rw [if_pos G] at N ⊢;obtain ⟨h0,S⟩:=N;refine ⟨h0,fun g=> ?_⟩;obtain ⟨k1,k2,Y⟩:=Oper.apart_spec D;have V:w.dst=some d:=by
     obtain ⟨o,ho,V,_⟩:=hM
     grind
    refine ih (some g) (c.setIfInBounds j true) _ (u.set z r) m (ready_mono K (Ne.symm l)) ?_ ?_
    ·rw [<-V];exact M.of_same (execOp_put y (fun cs b=>t i y cs b O) a w.dst _ Y) (wanted_put y a w.dst _ Y)
    grind [Array.setIfInBounds_comm,Act.put_comm]
   ·rw [if_neg G] at N ⊢;have S:=Gl B D (fun cs b=>t i y cs b O) (fun cs b=>t j w cs b B) M N;refine D2 (fun Z h3=>ih s (c.setIfInBounds j true) Z (u.set z r) m (ready_mono K (Ne.symm l)) h3.1 ?_) S
    grind [Array.setIfInBounds_comm]
theorem wR{n g p:Nat}{d:Tmp}{Lq:Nat->Act->Prop}(G:xf P ops C p d)(u:p+1=n)(m:Region.noSelect ops=true)(D:Region.sinkB md ops n=true)(x:Region.chainB md ops n=true)(B:n<ops.size):
  ∀(l:List Oper) (k:Nat) (c:Array Bool) (a:Act),(∀j,j<l.length->l[j]? =ops[k+j]?)->k+l.length=p->HeadInv md ops n c->
  Region.lexHead md ops g (l.length+1) k c=true->CA P ops C (fun q=>∀g,Lq g (q.put (some d) (lR g))) l a->
  Cp P md ops C p d n (fun s e q=>Region.seqB md ops g n e=true/\∃b,s=some b/\Lq b q) (l.length+1) none c a
 |[],k,c,a,_,hk,inv,hB,h=>by
  have:k=p:=by omega
  subst this;simp only [cB,Region.lexHead,ak] at hB;obtain ⟨⟨J,hf⟩,f⟩:=hB;have i:k∈Region.ready md ops c:=by grind
  have F:=(mem_ready.1 i).1;refine ⟨fun h=>(by grind),fun j y=> ?_⟩;have z:j<n:=by
   rcases aN j n with h|h
   ·exact h
   ·exact absurd y (tail_waits D x B inv _ k rfl (by omega) F j h)
  refine ⟨z,?_⟩;by_cases r:j=k
  ·subst r;rw [if_pos rfl];rw [u] at f;exact ⟨rfl,fun b=>⟨f,b,rfl,h b⟩⟩
  ·have L:=seqB_ready f j (ready_mono y r);omega
 |o::l,k,c,a,hl,hk,inv,hB,h=>by
  have w:ops[k]? =some o:=by simpa using (hl 0 (by simp)).symm
  rw [bG,Region.lexHead] at hB;simp only [ak] at hB;obtain ⟨⟨J,hf⟩,f⟩:=hB;have t:k<n:=by omega
  have A:k≠p:=by grind
  have i:k∈Region.ready md ops c:=by grind
  have E:Yq P ops C k (CA P ops C (fun q=>∀g,Lq g (q.put (some d) (lR g))) l) a:=by unfold Yq;simp only [w];exact h
  obtain ⟨v,K,H⟩:=qO w E;exact zc G A w (Region.noSelect_spec m) D x B t (fun s e q I=>seqB_ready I.1) (l.length+1) none c a inv (Region.free_spec w hf) i K
   (wR G u m D x B l (k+1) _ _ (fun j y=>by have:=hl (j+1) (by grind);grind) (by grind) (inv.set i t) f H)
theorem om{B:Nat}{Q:Exit->Act->World->Prop}{a:Act}{w:World}{l:List Oper}(C:Option Nat->World->Prop)(p:Nat)(d:Tmp)(x:P.follows .mixedOrders=true)(m:Region.lexTailB .any l.toArray (p+1)=true)(q:C none w.drew)
  (n:xf P l.toArray C p d)
  (h:CA P l.toArray C (fun f=>∀g,∀w',C (some g) w'->wpList P l.toArray Q (l.drop (p+1)) (f.put (some d) (lR g)) w') (l.take p) a):(Code.region B l.toArray true).wp P Q a w:=by
 simp only [Region.lexTailB,ak,decide_eq_true_eq] at m;obtain ⟨⟨⟨⟨c,y⟩,A⟩,u⟩,o⟩:=m;have z:p+1<l.length:=by omega
 have k:(l.take p).length=p:=by grind
 have v:(l.drop (p+1)).length=l.toArray.size-(p+1):=by simp
 have e:HeadInv .any l.toArray (p+1) (Array.replicate l.toArray.size false):=
  ⟨by simp,fun j K _ G=>(by grind [getD_replicate_false]),fun t _ I=>getD_in (by grind) (getD_replicate_false _ _)⟩
 have H:=wR (md:= .any) (g:=l.toArray.size-(p+1)) (Lq:=fun g f=>∀w',C (some g) w'->wpList P l.toArray Q (l.drop (p+1)) f w') n rfl c A u y (l.take p) 0 _ a (fun j F=>by
  grind) (by omega) e (by grind) h
 refine wp_region_any x ?_;have:=j9 (Q':=Q) (g:=l.toArray.size-(p+1)) n (fun s i f w' J r=>by
  obtain ⟨D,b,rfl,E⟩:=r
  grind [wpAny_of_seq]) _ _ _ _ _ q H
 rwa [k,show p+1+(l.toArray.size-(p+1))=l.toArray.size by omega] at this
variable{Q:Act->Prop}{a:Act}{o:Oper}{rest:List Oper}
theorem Hj(h:Q a):CA P ops C Q [] a:=h
theorem vW(v:Value)(hg:o.guard=none)(b:∀s w,C s w->(execOp a.eval o).run P w= .ok (.value v) w)(h:CA P ops C Q rest (a.put o.dst v)):CA P ops C Q (o::rest) a:=by
 unfold CA;rw [if_pos (by grind [Region.wanted])];exact ⟨v,fun s w c=>by unfold Oper.quietAt;rw [b s w c];exact ⟨rfl,rfl⟩,h⟩
theorem uv(v:Value)(f:FuncId)(args:Array Value)(hg:o.guard=none)(c:∀w,(execOp a.eval o).run P w= .ok (.enter f args) w)(b:∀s w,C s w->Calls P f args w fun e w'=>e= .returned v/\C s w')
  (h:CA P ops C Q rest (a.put o.dst v)):CA P ops C Q (o::rest) a:=by
 unfold CA;rw [if_pos (by grind [Region.wanted])];exact ⟨v,fun s w d=>by unfold Oper.quietAt;rw [c w];exact ⟨rfl,b s w d⟩,h⟩
def xc(w1:World)(S:World->Prop)(z:List Value)(T:TypeId):Option Nat->World->Prop
 |none,w'=>S w'/\J7 w1 w'
 |some b,w'=>S w'/\J7 w1 w'/\ay w' b z T/\w1.heap.size<=b
theorem xc.frame{w1:World}{S:World->Prop}{z:List Value}{T:TypeId}(c:∀w w',S w->J7 w w'->S w'){s:Option Nat}{w w':World}(h:xc w1 S z T s w)(hf:J7 w w'):xc w1 S z T s w':=by
 cases s with
 |none=>exact ⟨c _ _ h.1 hf,h.2.trans hf J8⟩
 |some b=>exact ⟨c _ _ h.1 hf,h.2.1.trans hf J8,h.2.2.1.frame hf id,h.2.2.2⟩
theorem xc.all{w1:World}{S:World->Prop}{z:List Value}{T:TypeId}{s:Option Nat}{w:World}(h:xc w1 S z T s w):S w:=by
 cases s with
 |none=>exact h.1
 |some b=>exact h.1
theorem ti{w1:World}{S:World->Prop}{z:List Value}{T:TypeId}(f:∀w w',S w->J7 w w'->S w'){p:Nat}{d:Tmp}(o:Oper)(c:TypeId)(i:ops[p]? =some o)(g:o.dst=some d)(e:o.op= .alloc c)(hg:o.guard=none)
  (j:∀(a:Act) w,(execOp a.eval o).run P w= .ok (.value (lR w.heap.size)) (w.alloc (.cells z.toArray T))):xf P ops (xc w1 S z T) p d:=by
 refine ⟨o,i,g,⟨c,e⟩,hg,fun a w b=>⟨_,j a w,?_⟩⟩;have hf:J7 w (w.alloc (.cells z.toArray T)):=(Kb _ w).alloc _;exact ⟨f _ _ b.1 hf,b.2.trans hf J8,ay.new w z T,b.2.size⟩
end
def dj:Nat->Nat->List Nat
 |0,_=>[]
 |n+1,N=>N% 65536::dj n (N/65536)
theorem tG:∀(ds:List Nat),gh ds->ds=dj ds.length (fW ds)
 |[],_=>rfl
 |x::xs,h=>by
  have b:=h x cw;have c:=tG xs (fun y a=>h y (bm _ a))
  grind [dj,fW]
theorem Ac{ds:List Nat}{N:Nat}(b:ds.length=140)(h:gh ds)(a:fW ds=N):ds=dj 140 N:=by
 grind [tG]
theorem da:∀n N,(dj n N).length=n
 |0,_=>rfl
 |n+1,N=>by rw [dj,bG,da n]
theorem iN:∀n N,gh (dj n N)
 |0,_=>fun x a=>by cases a
 |n+1,N=>fun x a=>by
  rw [dj] at a;rcases cG.1 a with rfl|a
  ·omega
  ·exact iN n _ x a
theorem ij:∀n N,N<65536^n->fW (dj n N)=N
 |0,N,h=>by rw [oT] at h;rw [dj,fW];omega
 |n+1,N,h=>by
  rw [dj,fW,ij n (N/65536) (by omega)];omega
def et(N:Nat):Value:=iY (dj 140 N)
def nl(w:World)(N:Nat)(e:Ending)(w':World):Prop:=e= .returned (et N)/\J7 w w'
theorem jb.fix{w:World}{N:Nat}{e:Ending}{w':World}(h:jb w N e w'):nl w N e w':=by
 obtain ⟨ds,a,b,c,d,f⟩:=h;exact ⟨by rw [a,Ac b c d];rfl,f⟩
theorem ph(b:Nat)(a:b<9223372036854775808)(w:World):Calls prog 89 #[.int .u64 b] w (nl w (cI b)):=
 (AP b a w).mono fun _ _ h=>h.fix
theorem oB(M N:Nat)(a:M<fo)(b:N<fo)(w:World):Calls prog 42 #[et M,et N] w (mA w (decide (M<N))):=by
 have:=DY (dj 140 M) (dj 140 N) (da _ _) (da _ _) (iN _ _) (iN _ _) w;rwa [ij 140 M a,ij 140 N b] at this
theorem Do(M N:Nat)(a:M<fo)(b:N<fo)(c:M+N<fo)(w:World):Calls prog 88 #[et M,et N] w (nl w (M+N)):=by
 have:=vA (dj 140 M) (dj 140 N) (da _ _) (da _ _) (iN _ _) (iN _ _) w;rw [ij 140 M a,ij 140 N b,fd c] at this;exact this.mono fun _ _ h=>h.fix
theorem mL(M N:Nat)(a:M<fo)(b:N<fo)(c:N<=M)(w:World):Calls prog 44 #[et M,et N] w (nl w (M-N)):=by
 have:=Bq (dj 140 M) (dj 140 N) (da _ _) (da _ _) (iN _ _) (iN _ _) (by rw [ij 140 M a,ij 140 N b];exact c) w;rw [ij 140 M a,ij 140 N b] at this;exact this.mono fun _ _ h=>h.fix
def Fd(w:World)(g N:Nat)(w':World):Prop:=J7 w w'/\WB w' g (dj 140 N)
theorem Fd.frame{w:World}{g N:Nat}{w1 w2:World}(h:Fd w g N w1)(hf:J7 w1 w2):Fd w g N w2:=⟨h.1.then hf,h.2.frame hf id⟩
theorem vL(N:Nat)(hN:N<fo)(w:World):
  Calls prog 43 #[et N] w (eM w (Xk N)):=by
 have HV:=ae ph;have hb:=ay.new w (au (dj 140 N)) 84;have aR:J7 w (w.alloc (.cells (au (dj 140 N)).toArray 84)):=(Kb _ w).alloc _;have am:Hid (∀M w,M<fo->Calls prog 42 #[et N,et M] w (mA w (decide (N<M)))):=fun M w hM=>oB N M hN hM w
 have HI:=ae (dW (dj 140 N) (da _ _));unfold et iY at*;generalize aP:(au (dj 140 N)).toArray=cs at*;generalize a2:w.alloc (.cells cs 84)=w1 at*;generalize hg:w.heap.size=g at*;have k:Hid (Fd w g N w1):=⟨aR,hb⟩;have y:=ae aP;clear hb aR aP
 go_enter func43,ntmps43
 go_wp2;clear a2 hg
 go_loopw [3,4] (fun a b wr=>∃lo r:Nat,a= .int .u64 lo/\b= .int .u64 r/\lo<=r/\r<=9218868437227405312/\Hid (cI lo<=N/\∀c,r<c->c<=9218868437227405312->N<cI c)/\Hid (Fd w g N wr)) (fun a b _=>(intOf b-intOf a).toNat)
 case atStart=>exact ⟨0,9218868437227405312,rfl,rfl,by omega,by omega,⟨ao _,fun c h1 h2=>by omega⟩,k.out⟩
 case round=>
  clear k;obtain ⟨lo,r,rfl,rfl,aT,S,P,k⟩:=hrel;by_cases aU:lo<r
  ·obtain ⟨d,aW⟩:∃d,r-(r-lo)/2=d:=⟨_,rfl⟩;have e1:((r:Int)-(lo:Int))/2=(r:Int)-(d:Int):=by omega
   have e2:(r:Int)-((r:Int)-(d:Int))=(d:Int):=by omega
   have a5:lo<d:=by omega
   have a6:d<=r:=by omega
   clear aW;go_wp2;refine aV (Fd w g N) (by kernel_rfl) ⟨k.out.1.drew,k.out.2.drew⟩ ?_;refine ai (.agg cs) rfl (fun w' i=>eX rfl g rfl 84 cs (0,0) _ (by rw [<-y.out];exact i.2) underlying84 rfl HI.out) ?_;refine ai (.int .u64 d) rfl (fun w' _=>BigFrame.run_move (.tmp 5) rfl w') ?_;refine bf (et (cI d)) 89 #[.int .u64 d] rfl (fun w'=>by go_simp) (fun w' i=>(HV.out d (by omega) w').mono fun _ _ h=>⟨h.1,i.frame h.2⟩) ?_;refine bf (.bool (decide (N<cI d))) 42 #[.agg cs,et (cI d)] rfl (fun w'=>by go_simp) (fun w' i=>(am.out (cI d) w' (iv (lS d) mN)).mono fun _ _ h=>⟨h.1,i.frame h.2⟩) ?_;refine wpQuiet_nil ?_;intro w2 G;have H:=ae G;clear G k;by_cases hc:N<cI d
   ·have o:decide (N<cI d)=true:=by simpa using hc
    rw [o];have e3:(d:Int)-1=((d-1:Nat):Int):=by omega
    have Q:Hid (cI lo<=N/\∀c,d-1<c->c<=9218868437227405312->N<cI c):=⟨P.out.1,fun c h1 h2=>bn hc (oy (by omega) (by omega))⟩;have a7:lo<=d-1:=by omega
    have a8:d-1<r:=by omega
    clear o hc P;generalize d-1=nx at*;go_wp2;go_roundw
    case rel=>exact ⟨lo,nx,rfl,rfl,by omega,by omega,Q,H⟩
    case measure=>simp [intOf];omega
   ·have o:decide (N<cI d)=false:=by simpa using hc
    rw [o];have Q:Hid (cI d<=N/\∀c,r<c->c<=9218868437227405312->N<cI c):=⟨by omega,P.out.2⟩;clear o hc P;go_wp2;go_roundw
    case rel=>exact ⟨d,r,rfl,rfl,by omega,by omega,Q,H⟩
    case measure=>simp [intOf];omega
  ·obtain rfl:lo=r:=by omega
   have n:=P.out;have E:=DJ N lo S n.1 (fun h=>n.2 _ (by omega) (by omega));by_cases v:lo=9218868437227405312
   ·have f:eM w (Xk N) (.returned (.int .u64 9218868437227405312)) wr:=⟨by rw [<-E];unfold rr;rw [if_pos v];rfl,k.out.1⟩;have j:=ae f;have hq:((lo:Int)==9218868437227405312)=true:=by rw [beq_iff_eq];omega
    clear f E n k P aU aT S v;go_wp2;go_ret;exact j.out
   ·have hq:((lo:Int)==9218868437227405312)=false:=by rw [beq_eq_false_iff_ne];omega
    have aY:N<cI (lo+1):=n.2 _ (by omega) (by omega);have J:cI (lo+1)<fo:=iv (lS _) mN;have I:cI lo<fo:=iv (lS _) mN;have aX:Xk N=if cI (lo+1)-N<N-cI lo\/(¬N-cI lo<cI (lo+1)-N/\lo% 2=1) then lo+1 else lo:=by rw [<-E];unfold rr;rw [if_neg v]
    have aI:et N= .agg cs:=by unfold et iY;rw [y.out]
    have t:=mL (cI (lo+1)) N J hN (ea aY);have q:=mL N (cI lo) hN I n.1;rw [aI] at t q;have F:=HV.out (lo+1) (by omega);rw [show ((lo+1:Nat):Int)=(lo:Int)+1 by omega] at F;have W:=HV.out lo (by omega);have T:=oB (cI (lo+1)-N) (N-cI lo) (by omega) (by omega);have V:=oB (N-cI lo) (cI (lo+1)-N) (by omega) (by omega);have a4:(lo:Int)<9218868437227405312:=by omega
    have a9:IntKind.u64.wrap ((lo:Int)+1)=(lo:Int)+1:=by rw [IntKind.wrap_u64];omega
    clear E n P aU aT S v aY J I aI am HV;unfold nl at t q F W;generalize cI (lo+1)-N=U at*;generalize N-cI lo=D at*;generalize et (cI (lo+1))=zU at*;generalize et (cI lo)=zD at*;have O:=ae (dW (dj 140 U) (da _ _));have az:=ae (show (au bI).toArray.size=(au (dj 140 U)).toArray.size by rw [cL _ (da _ _),cL bI dV]);have aq:=ae (fb (dj 140 U));have ad:Hid (∀w b,ay w b (au bI) 84->ay (w.setRow b (au (dj 140 U)).toArray) b (au (dj 140 U)) 84):=fun w b h=>h.setRow _
    have L:=ae (dW (dj 140 D) (da _ _));have ax:=ae (show (au bI).toArray.size=(au (dj 140 D)).toArray.size by rw [cL _ (da _ _),cL bI dV]);have ap:=ae (fb (dj 140 D));have Z:Hid (∀w b,ay w b (au bI) 84->ay (w.setRow b (au (dj 140 D)).toArray) b (au (dj 140 D)) 84):=fun w b h=>h.setRow _
    unfold et iY at t q T V;generalize a1:au (dj 140 U)=lu at*;generalize a0:au (dj 140 D)=ld at*;have av:Hid (∀w b,ay w b lu 84->w.heap[b]? =some (.cells lu.toArray 84 (0,0))):=fun _ _ h=>h
    have ar:Hid (∀w b,ay w b ld 84->w.heap[b]? =some (.cells ld.toArray 84 (0,0))):=fun _ _ h=>h
    generalize lu.toArray=cu at*;generalize ld.toArray=cd at*;have B:=ae aX;have aC:=ae t;have ag:=ae q;have aH:=ae F;have aG:=ae W;have aj:=ae T;have ak:=ae V;clear aX t q F W T V a1 a0
    go_upto_region 10 with fail
    refine om (xc wr (Fd w g N) (au bI) 84) 5 6 (by kernel_rfl) (by kernel_rfl) ⟨⟨k.out.1.drew,k.out.2.drew⟩,(Kb _ wr).drew⟩ (ti (fun _ _ h hf=>h.frame hf) _ 84 rfl rfl rfl rfl (fun a w=>by rw [<-iH];go_simp;rfl)) ?_;simp only [Kc];refine vW (.int .u64 lo) rfl (fun _ w' _=>BigFrame.run_move (.tmp 3) rfl w') ?_;refine vW (.int .u64 ((lo:Int)+1)) rfl (fun _ w' _=>by go_simp) ?_;refine uv zU 89 #[.int .u64 ((lo:Int)+1)] rfl (fun w'=>by go_simp) (fun s w' i=>(aH.out w').mono fun _ _ h=>⟨h.1,i.frame (fun _ _ h hf=>h.frame hf) h.2⟩) ?_;refine vW (.agg cs) rfl (fun _ w' i=>eX rfl g rfl 84 cs (0,0) _ (by rw [<-y.out];exact i.all.2) underlying84 rfl HI.out) ?_;refine uv (.agg cu) 44 #[zU,.agg cs] rfl (fun w'=>by go_simp) (fun s w' i=>(aC.out w').mono fun _ _ h=>⟨h.1,i.frame (fun _ _ h hf=>h.frame hf) h.2⟩) ?_;refine Hj ?_;intro b w2 G;simp only [Act.put,aa,ab,ac,lR];obtain ⟨X,k2,Y,k4⟩:=G;have aO:g≠b:=by have:=k.out.2.lt;omega
    have HK:=ae Y;have l:Hid (Fd w g N (w2.setRow b cu)/\ay (w2.setRow b cu) b lu 84):=
     ⟨⟨X.1.setRow b (.inr (by have:=k.out.1.size;omega)) _,X.2.Qf b _ aO⟩,ad.out _ _ Y⟩
    clear X k2 Y k4 aO ad aC aH
    go_upto_region 11 with (refine wpList_store_row rfl 84 _ _ rfl b cu rfl rfl 84 (au bI).toArray HK.out O.out az.out aq.out ?_)
    generalize w2.setRow b cu=w3 at*;clear HK az aq k;refine om (xc w3 (fun w'=>Fd w g N w'/\ay w' b lu 84) (au bI) 84) 4 7 (by kernel_rfl) (by kernel_rfl) ⟨⟨⟨l.out.1.1.drew,l.out.1.2.drew⟩,l.out.2.drew⟩,(Kb _ w3).drew⟩ (ti (fun _ _ h hf=>⟨h.1.frame hf,h.2.frame hf id⟩) _ 84 rfl rfl rfl rfl (fun a w=>by rw [<-iH];go_simp;rfl)) ?_;simp only [Kc];have A:∀w1 w2,(Fd w g N w1/\ay w1 b lu 84)->J7 w1 w2->(Fd w g N w2/\ay w2 b lu 84):=fun _ _ h hf=>⟨h.1.frame hf,h.2.frame hf id⟩
    have R:=ae A;clear A;refine vW (.agg cs) rfl (fun _ w' i=>eX rfl g rfl 84 cs (0,0) _ (by rw [<-y.out];exact i.all.1.2) underlying84 rfl HI.out) ?_;refine vW (.int .u64 lo) rfl (fun _ w' _=>BigFrame.run_move (.tmp 3) rfl w') ?_;refine uv zD 89 #[.int .u64 lo] rfl (fun w'=>by go_simp) (fun s w' i=>(aG.out w').mono fun _ _ h=>⟨h.1,i.frame R.out h.2⟩) ?_;refine uv (.agg cd) 44 #[.agg cs,zD] rfl (fun w'=>by go_simp) (fun s w' i=>(ag.out w').mono fun _ _ h=>⟨h.1,i.frame R.out h.2⟩) ?_;refine Hj ?_;intro c w4 a3;simp only [Act.put,aa,ab,ac,lR];obtain ⟨X,k2,Y,k4⟩:=a3;have aN:b≠c:=by have:=l.out.2.lt;omega
    have ah:=ae Y;have m:Hid (J7 w (w4.setRow c cd)/\ay (w4.setRow c cd) b lu 84/\ay (w4.setRow c cd) c ld 84):=
     ⟨X.1.1.setRow c (.inr (by have:=l.out.1.1.size;omega)) _,X.2.Qf c _ aN,Z.out _ _ Y⟩
    clear X k2 Y k4 aN l ag aG R Z
    go_upto_region 12 with (refine wpList_store_row rfl 84 _ _ rfl c cd rfl rfl 84 (au bI).toArray ah.out L.out ax.out ap.out ?_)
    generalize w4.setRow c cd=w5 at*;clear ah ax ap HI y;go_wp2_with (first|refine wpList_load_row rfl 84 _ rfl b rfl 84 cu (0,0) _ (av.out _ _ m.out.2.1) underlying84 rfl O.out ?_|refine wpList_load_row rfl 84 _ rfl c rfl 84 cd (0,0) _ (ar.out _ _ m.out.2.2) underlying84 rfl L.out ?_)
    refine (aj.out w5).mono ?_;rintro e w6 ⟨rfl,C⟩;have p:Hid (J7 w w6/\ay w6 b lu 84/\ay w6 c ld 84):=⟨m.out.1.then C,m.out.2.1.frame C id,m.out.2.2.frame C id⟩;clear m aj C;by_cases u:U<D
    ·have o:decide (U<D)=true:=by simpa using u
     rw [o];have f:eM w (Xk N) (.returned (.int .u64 ((lo:Int)+1))) w6:=⟨by rw [B.out,if_pos (.inl u)];rfl,p.out.1⟩;have j:=ae f;clear o u f;go_wp2;go_ret;exact j.out
    ·have o:decide (U<D)=false:=by simpa using u
     rw [o];clear o;go_wp2_with (first|refine iI (by rfl) 84 _ rfl b rfl 84 cu (0,0) _ (av.out _ _ p.out.2.1) underlying84 rfl O.out ?_|refine iI (by rfl) 84 _ rfl c rfl 84 cd (0,0) _ (ar.out _ _ p.out.2.2) underlying84 rfl L.out ?_)
     refine (ak.out w6).mono ?_;rintro e w7 ⟨rfl,aS⟩;have K:=ae (p.out.1.then aS);clear p ak aS;by_cases x:D<U
     ·have o:decide (D<U)=true:=by simpa using x
      rw [o];have f:eM w (Xk N) (.returned (.int .u64 lo)) w7:=⟨by rw [B.out,if_neg (by omega)],K.out⟩;have j:=ae f;clear o u x f;go_wp2;go_ret;exact j.out
     ·have o:decide (D<U)=false:=by simpa using x
      rw [o];by_cases z:lo% 2=1
      ·have hm:((lo:Int)% 2==1)=true:=by rw [beq_iff_eq];omega
       have f:eM w (Xk N) (.returned (.int .u64 ((lo:Int)+1))) w7:=⟨by rw [B.out,if_pos (.inr ⟨x,z⟩)];rfl,K.out⟩;have j:=ae f;clear o u x f z;go_wp2;go_ret;exact j.out
      ·have hm:((lo:Int)% 2==1)=false:=by rw [beq_eq_false_iff_ne];omega
       have f:eM w (Xk N) (.returned (.int .u64 lo)) w7:=⟨by rw [B.out,if_neg (by omega)],K.out⟩;have j:=ae f;clear o u x f z;go_wp2;go_ret;exact j.out
end Go.Proofs.YtgnoapadkncphaaGreatDoor
