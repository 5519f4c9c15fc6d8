import Derived.Test.YthahbijbpinneaaGreatDoorA5
import Derived.Test.YthahbijbpinneaaGreatDoorA10
import Derived.Test.YthahbijbpinneaaGreatDoorA14
import Derived.OwnWalk
import Derived.Defers
set_option maxRecDepth 100000
set_option maxHeartbeats 8000000
set_option linter.all false
namespace Go.Proofs.YthahbijbpinneaaGreatDoor
open Go.RowKit Go.Proofs.Tryz
def rB(b:Nat):List Value:=[b,(0:Int),(1:Int),(2:Int)]
def Bd(f:FuncId)(as':Array Value)(w:World)(R:Ending->World->Prop):Prop:=∃fn c,prog.funcs[f]? =some fn/\fn.body=some c/\c.wp prog (bodyPost prog fn R) {tmps:=as'++Array.replicate (fn.ntmps-as'.size) undef,defers:=[]} w
theorem Bd.calls{f:FuncId}{a:Array Value}{w:World}{R:Ending->World->Prop}(h:Bd f a w R):Calls prog f a w R:=let ⟨_,_,b,c,d⟩:=h;calls_of_wp b c d
theorem Bd.Qw{f:FuncId}{a:Array Value}{w:World}{R:Ending->World->Prop}(u:FrameMode)(h:Bd f a w R):CallsD prog f a u w fun e g w'=>g=u/\R e w':=let ⟨_,_,b,c,d⟩:=h;callsD_of_wp b c d
section
variable{b xb:Nat}{c:Cf}{A A':AG}{rs rs' l:List Nat}{T:Nat->Prop}{w0 w w':World}{s t x i v k f:Nat}
theorem eL(a:aJ w0 xb (rB b) 156)(d:¬T xb)(h:bh b c A rs T w0 w):w.cell? xb=some b/\w.cell? ⟨xb,1,none⟩=some (0:Int)/\w.cell? ⟨xb,2,none⟩=some (1:Int)/\w.cell? ⟨xb,3,none⟩=some (2:Int):=by
 have:=a.frame h.fr d;exact ⟨this.cell 0 rfl,this.cell 1 rfl,this.cell 2 rfl,this.cell 3 rfl⟩
theorem nH(a:aJ w0 xb (rB b) 156)(d:¬T xb)(h:bh b c A rs T w0 w):Calls prog 92 #[xb] w fun e w'=>e= .returned (.bool false)/\w'=w:=by
 obtain ⟨g,_⟩:=eL a d h;clear a h
 go_enter func92,ntmps92
 go_wp2;go_ret;exact ⟨rfl,rfl⟩
theorem uE(o:aJ w0 xb (rB b) 156)(q:¬T xb)(p:c.Sl=8)(h:bh b c A rs T w0 w):Bd 90 #[xb] w fun e w'=>e= .returned (.tuple #[])/\bh b c A ((rs.set 1 0).set 2 0) T w0 w':=by
 have a:=ae (ag o q);clear o q;have n:=ae p;clear p;refine ⟨_,_,func90,rfl,?_⟩;simp only [ntmps90,cU,bn,ch,Nat.reduceAdd,Nat.reduceSub,cH,cG,de,cQ,bZ,dd];obtain ⟨d,g,j,m⟩:=eL a.out.1 a.out.2 h;have H:=ae (fun q0=>(h.dn q0).clear (s:=1) (by rw [n.out];omega));clear h;go_wp2;refine bG 8 ?_;simp only [ai,an,aj,ao]
 repeat (go_big_quiet_step (fail))
 refine wpQuiet_nil ?_;rintro u ⟨q0,rfl⟩;go_wp2_with fail
 refine (H.out q0).mono ?_;rintro e w1 ⟨rfl,h⟩;clear H d g j m;obtain ⟨d,g,j,m⟩:=eL a.out.1 a.out.2 h;have H:=ae (fun q0=>(h.dn q0).clear (s:=2) (by rw [n.out];omega));clear h;go_wp2;refine bG 8 ?_;simp only [ai,an,aj,ao]
 repeat (go_big_quiet_step (fail))
 refine wpQuiet_nil ?_;rintro u ⟨q0,rfl⟩;go_wp2_with fail
 refine (H.out q0).mono ?_;rintro e w1 ⟨rfl,h⟩;clear H d g j m;have r:=ae h;clear h;go_wp2;go_end0;exact ⟨rfl,r.out⟩
theorem uD(a:aJ w0 xb (rB b) 156)(g:¬T xb)(d:c.Sl=8)(h:bh b c A rs T w0 w):Calls prog 90 #[xb] w fun e w'=>e= .returned (.tuple #[])/\bh b c A ((rs.set 1 0).set 2 0) T w0 w':=(uE a g d h).calls
theorem tf(d:aJ w0 xb (rB b) 156)(m:¬T xb)(q:rs[s]? =some x)(h:bh b c A rs T w0 w):Calls prog 94 #[xb,(s:Int)] w fun e w'=>e= .returned (.bool (!decide (x=0)))/\bh b c A rs T w0 w':=by
 have a:=ae (ag d m);clear d m
 go_enter func94,ntmps94
 obtain ⟨r,u,y,z⟩:=eL a.out.1 a.out.2 h;have H:=ae (h.shape q);clear h;go_wp2_with fail
 refine H.out.mono ?_;rintro e w1 ⟨⟨p,g,j,B,rfl,o⟩,h⟩;clear H r u y z;have n:=ae h;clear h;go_wp2;go_ret;exact ⟨rfl,n.out.Qa ((GQ _ _).alloc _)⟩
theorem DH(o:aJ w0 xb (rB b) 156)(p:¬T xb)(q:rs[s]? =some x)(a:x≠0)(u:A.np x=1/\A.nf x=1/\A.ng x=1)(y:v<18446744073709551616)(hf:f<18446744073709551616)(h:bh b c A rs T w0 w):Calls prog 93 #[xb,(s:Int),.int .u64 v,.float .f64 f] w fun e w'=>e= .returned (.tuple #[])/\bh b c ((A.put x 2 v).put x 1 f) rs T w0 w':=by
 have d:=ae (ag o p);obtain ⟨z,B,C⟩:=u;clear o p
 go_enter func93,ntmps93
 obtain ⟨g,j,m,n⟩:=eL d.out.1 d.out.2 h;have H:=ae (h.set (i:=2) q a (by omega) (by omega) y);clear h;go_wp2_with fail
 refine H.out.mono ?_;rintro e w1 ⟨rfl,h⟩;clear H g j m n;obtain ⟨g,j,m,n⟩:=eL d.out.1 d.out.2 h;have H:=ae (h.Yk (i:=1) q a (show A.np x<=1 by omega) (show 1<A.np x+A.nf x by omega) hf);clear h;go_wp2_with fail
 refine H.out.mono ?_;rintro e w1 ⟨rfl,h⟩;clear H g j m n;have r:=ae h;clear h;go_wp2;go_end0;exact ⟨rfl,r.out⟩
theorem ux(o:aJ w0 xb (rB b) 156)(p:¬T xb)(q:rs[s]? =some x)(a:x≠0)(u:A.np x=1/\A.nf x=1/\A.ng x=1)(h:bh b c A rs T w0 w):Calls prog 95 #[xb,(s:Int)] w fun e w'=>e= .returned (.tuple #[.int .u64 ((A.Qk x 2:Nat):Int),.float .f64 (A.Qk x 1)])/\bh b c A rs T w0 w':=by
 have d:=ae (ag o p);obtain ⟨y,z,B⟩:=u;clear o p
 skip
 go_enter func95,ntmps95
 obtain ⟨g,j,m,n⟩:=eL d.out.1 d.out.2 h;have H:=ae (h.get (i:=2) q a (by omega) (by omega));clear h;go_wp2_with fail
 refine H.out.mono ?_;rintro e w1 ⟨rfl,h⟩;clear H g j m n;obtain ⟨g,j,m,n⟩:=eL d.out.1 d.out.2 h;have H:=ae (h.getf (i:=1) q a (by omega) (by omega));clear h;go_wp2_with fail
 refine H.out.mono ?_;rintro e w1 ⟨rfl,h⟩;clear H g j m n;have r:=ae h;clear h;go_wp2;go_ret2;exact ⟨rfl,r.out⟩
theorem BN{q F G r u y z B:Nat}(I:aJ w0 xb (rB b) 156)(L:¬T xb)(J:c.Sl=8)(K:dE A [q,F,G,r,u,y,z,B] l)(o:k≠0)(N:k∉l)(O:v<18446744073709551616)(hf:f<18446744073709551616)(h:bh b c A [q,F,G,r,u,y,z,B] T w0 w):Calls prog 31 #[xb,.int .u64 v,.float .f64 f] w fun e w'=>(A.Wd l+(1+(1+1+1))<=c.Wd/\e= .returned (0:Int)/\bh b c ((((A.new k 1 1 1).put k 2 v).put k 1 f).put k 0 q) [k,0,0,r,u,y,z,B] T w0 w')\/(c.Wd<A.Wd l+(1+(1+1+1))/\e= .returned (21:Int)/\bh b c A [q,F,G,r,u,y,z,B] T w0 w'):=by
 have a:=ae (ag I L);have D:=ae J;clear I L J;obtain ⟨P,Q,R,_⟩:=AG.Xb A k 1 1 1
 go_enter func31,ntmps31
 have H:=ae (nH a.out.1 a.out.2 h);go_wp2_with fail
 refine H.out.mono ?_;rintro e w1 ⟨rfl,rfl⟩;clear H;obtain ⟨d,j,m,n⟩:=eL a.out.1 a.out.2 h;have H:=ae (fun q0=>(h.dn q0).alloc (s:=1) (k:=k) (p:=1) (f:=1) (g:=1) K (by rw [D.out];omega) (by unfold eO;omega) o N);clear h;unfold gD at H;rw [show ((1:Nat):Int)=1 from rfl] at H;go_wp2;refine bG 9 ?_;simp only [ai,an,aj,ao]
 repeat (go_big_quiet_step (fail))
 refine wpQuiet_nil ?_;rintro M ⟨q0,rfl⟩;go_wp2_with fail
 refine (H.out q0).mono ?_;rintro e w1 (⟨E,rfl,h⟩|⟨E,rfl,h⟩)
 all_goals clear H d j m n
 rotate_left
 ·have C:=ae h;clear h K;go_wp2;go_ret;exact .inr ⟨E,rfl,C.out⟩
 obtain ⟨d,j,m,n⟩:=eL a.out.1 a.out.2 h;have H:=ae (DH a.out.1 a.out.2 (s:=1) (x:=k) rfl o ⟨P,Q,R⟩ O hf h);clear h;go_wp2_with fail
 refine H.out.mono ?_;rintro e w1 ⟨rfl,h⟩;clear H d j m n;obtain ⟨d,j,m,n⟩:=eL a.out.1 a.out.2 h;have H:=ae (fun q0=>(h.dn q0).store (s:=1) (i:=0) (t:=0) (x:=k) (v:=q) rfl o (show 0<(A.new k 1 1 1).np k by omega) rfl);clear h;go_wp2;refine bG 12 ?_;simp only [ai,an,aj,ao]
 repeat (go_big_quiet_step (fail))
 refine wpQuiet_nil ?_;rintro M ⟨q0,rfl⟩;go_wp2_with fail
 refine (H.out q0).mono ?_;rintro e w1 ⟨rfl,h⟩;clear H d j m n;obtain ⟨d,j,m,n⟩:=eL a.out.1 a.out.2 h;have H:=ae (fun q0=>(h.dn q0).copy (s:=0) (t:=1) (v:=k) (by rw [D.out];omega) rfl);clear h;go_wp2;refine bG 12 ?_;simp only [ai,an,aj,ao]
 repeat (go_big_quiet_step (fail))
 refine wpQuiet_nil ?_;rintro M ⟨q0,rfl⟩;go_wp2_with fail
 refine (H.out q0).mono ?_;rintro e w1 ⟨rfl,h⟩;clear H d j m n;obtain ⟨d,j,m,n⟩:=eL a.out.1 a.out.2 h;have H:=ae (uD a.out.1 a.out.2 D.out h);clear h;go_wp2_with fail
 refine H.out.mono ?_;rintro e w1 ⟨rfl,h⟩;clear H d j m n;have C:=ae h;clear h;go_wp2;go_ret;exact .inl ⟨E,rfl,C.out⟩
theorem BO{d n o p q r u y:Nat}(g:aJ w0 xb (rB b) 156)(m:¬T xb)(j:c.Sl=8)(B:d=0)(h:bh b c A [d,n,o,p,q,r,u,y] T w0 w):Calls prog 33 #[xb] w fun e w'=>e= .returned (.tuple #[.int .u64 0,.float .f64 0,(6:Int)])/\bh b c A [d,n,o,p,q,r,u,y] T w0 w':=by
 have a:=ae (ag g m);have G:=ae j;clear g m j
 go_enter func33,ntmps33
 have H:=ae (nH a.out.1 a.out.2 h);go_wp2_with fail
 refine H.out.mono ?_;rintro e w1 ⟨rfl,rfl⟩;clear H;subst B;obtain ⟨C,D,E,F⟩:=eL a.out.1 a.out.2 h;have H:=ae (tf a.out.1 a.out.2 (s:=0) (x:=0) rfl h);clear h;go_wp2_with fail
 refine H.out.mono ?_;rintro e w1 ⟨rfl,h⟩;clear H C D E F;have z:=ae h;clear h;go_wp2
 go_ret3
 exact ⟨rfl,z.out⟩
theorem DI{d z B C D E F G:Nat}(q:aJ w0 xb (rB b) 156)(y:¬T xb)(u:c.Sl=8)(p:d≠0)(r:A.np d=1/\A.nf d=1/\A.ng d=1)(h:bh b c A [d,z,B,C,D,E,F,G] T w0 w):Calls prog 33 #[xb] w fun e w'=>e= .returned (.tuple #[.int .u64 ((A.Qk d 2:Nat):Int),.float .f64 (A.Qk d 1),(0:Int)])/\bh b c A [A.Qk d 0,z,B,C,D,E,F,G] T w0 w':=by
 have a:=ae (ag q y);have J:=ae u;clear q y u
 go_enter func33,ntmps33
 have H:=ae (nH a.out.1 a.out.2 h);go_wp2_with fail
 refine H.out.mono ?_;rintro e w1 ⟨rfl,rfl⟩;clear H;have g:=p;obtain ⟨L,M,N⟩:=id r;obtain ⟨j,m,n,o⟩:=eL a.out.1 a.out.2 h;have K:decide (d=0)=false:=ar p;have H:=ae (tf a.out.1 a.out.2 (s:=0) (x:=d) rfl h);clear h;go_wp2_with fail
 refine H.out.mono ?_;rintro e w1 ⟨rfl,h⟩;clear H j m n o;obtain ⟨j,m,n,o⟩:=eL a.out.1 a.out.2 h;have H:=ae (ux a.out.1 a.out.2 (s:=0) (x:=d) rfl g r h);clear h;go_wp2_with fail
 refine H.out.mono ?_;rintro e w1 ⟨rfl,h⟩;clear H j m n o;obtain ⟨j,m,n,o⟩:=eL a.out.1 a.out.2 h;have H:=ae (fun q0=>(h.dn q0).load (s:=0) (t:=0) (x:=d) (i:=0) (by rw [J.out];omega) rfl g (by omega));clear h;go_wp2;refine bG 12 ?_;simp only [ai,an,aj,ao]
 repeat (go_big_quiet_step (fail))
 refine wpQuiet_nil ?_;rintro O ⟨q0,rfl⟩;go_wp2_with fail
 refine (H.out q0).mono ?_;rintro e w1 ⟨rfl,h⟩;clear H j m n o;have I:=ae h;clear h;go_wp2
 go_ret3
 exact ⟨rfl,I.out⟩
theorem xU{ls:List (Nat×Nat×Nat)}{d:Nat}(h:d<ls.length):∃x y f,(ls.drop d)=(x,y,f)::ls.drop (d+1):=by
 rw [ei h];exact ⟨_,_,_,rfl⟩
theorem te:∀{ls:List (Nat×Nat×Nat)} {d x y f:Nat} {l:List (Nat×Nat×Nat)},kE A ls->ls.drop d=(x,y,f)::l->x≠0/\A.np x=1/\A.nf x=1/\A.ng x=1/\A.Qk x 0=cR l
 |[],_,_,_,_,_,_,e=>by simp at e
 |(x',y',f')::ls,0,x,y,f,l,h,e=>by
  cases (show (x',y',f')::ls=(x,y,f)::l from e)
  exact ⟨h.1,h.2.1.1,h.2.1.2.1,h.2.1.2.2,h.2.2.1⟩
 |(x',y',f')::ls,d+1,x,y,f,l,h,e=>te (ls:=ls) (d:=d) h.2.2.2.2.2 e
theorem BU{W q r u B C D:Nat}{ls:List (Nat×Nat×Nat)}(J:aJ w0 xb (rB b) 156)(L:¬T xb)(K:c.Sl=8)(E:kE A ls)(U:i<ls.length/\ls.length<=1000)(h:bh b c A [cR ls,W,q,r,u,B,C,D] T w0 w):Calls prog 103 #[xb,(i:Int)] w fun e w'=>e= .returned (.bool true)/\bh b c A [cR ls,cR (ls.drop i),q,r,u,B,C,D] T w0 w':=by
 have a:=ae (ag J L);have I:=ae K;have G:=ae U;clear J L K;have O:=ae E;have Y:¬(i:Int)<0:=by omega
 go_enter func103,ntmps103
 obtain ⟨j,m,n,o⟩:=eL a.out.1 a.out.2 h;have H:=ae (fun q0=>(h.dn q0).copy (s:=1) (t:=0) (v:=cR ls) (by rw [I.out];omega) rfl);clear h;go_wp2;refine bG 12 ?_;simp only [ai,an,aj,ao]
 repeat (go_big_quiet_step (fail))
 refine wpQuiet_nil ?_;rintro X ⟨q0,rfl⟩;go_wp2_with fail
 refine (H.out q0).mono ?_;rintro e w1 ⟨rfl,h⟩;clear H j m n o;have F:=ae (show bh b c A [cR ls,cR (ls.drop 0),q,r,u,B,C,D] T w0 w1 from h);clear h;go_wp2
 go_loopw [1] (fun z wr=>∃d:Nat,z= .int .i64 ((i-d:Nat):Int)/\d<=i/\Hid (bh b c A [cR ls,cR (ls.drop d),q,r,u,B,C,D] T w0 wr)) (fun z _=>(intOf z).toNat)
 case atStart=>exact ⟨0,rfl,aF _,F⟩
 case round=>
  clear F;obtain ⟨d,rfl,Z,M⟩:=hrel;have h:=M.out;clear M;obtain ⟨x,y,f,N⟩:∃x y f,(ls.drop d)=(x,y,f)::ls.drop (d+1):=xU (by have:=G.out;omega);have S:=te O.out N;obtain ⟨g,n1,n2,n3,V⟩:=S;have p:cR (ls.drop d)=x:=by rw [N];rfl
  rw [p] at h;by_cases hz:d<i
  ·have c1:(0:Int)<((i-d:Nat):Int):=by omega
   have c2:IntKind.i64.wrap (((i-d:Nat):Int)-1)=((i-(d+1):Nat):Int):=by rw [IntKind.wrap_i64];have:=G.out;omega
   obtain ⟨j,m,n,o⟩:=eL a.out.1 a.out.2 h;have R:decide (x=0)=false:=ar g;have H:=ae (tf a.out.1 a.out.2 (s:=1) (x:=x) rfl h);clear h;go_wp2_with fail
   refine H.out.mono ?_;rintro e w1 ⟨rfl,h⟩;clear H j m n o;obtain ⟨j,m,n,o⟩:=eL a.out.1 a.out.2 h;have H:=ae (fun q0=>(h.dn q0).load (s:=1) (t:=1) (x:=x) (i:=0) (by rw [I.out];omega) rfl g (by omega));clear h;go_wp2;refine bG 12 ?_;simp only [ai,an,aj,ao]
   repeat (go_big_quiet_step (fail))
   refine wpQuiet_nil ?_;rintro X ⟨q0,rfl⟩;go_wp2_with fail
   refine (H.out q0).mono ?_;rintro e w1 ⟨rfl,h⟩;clear H j m n o;have P:=ae (show bh b c A [cR ls,cR (ls.drop (d+1)),q,r,u,B,C,D] T w0 w1 by rw [<-V];exact h);clear h;go_wp2;go_roundw
   case rel=>exact ⟨d+1,rfl,by omega,P⟩
   case measure=>simp [intOf];omega
  ·have c1:¬(0:Int)<((i-d:Nat):Int):=by omega
   obtain rfl:d=i:=by omega
   obtain ⟨j,m,n,o⟩:=eL a.out.1 a.out.2 h;have R:decide (x=0)=false:=ar g;have H:=ae (tf a.out.1 a.out.2 (s:=1) (x:=x) rfl h);clear h;go_wp2_with fail
   refine H.out.mono ?_;rintro e w1 ⟨rfl,h⟩;clear H j m n o;rw [<-p] at h;have Q:=ae h;clear h;go_wp2;go_ret;exact ⟨rfl,Q.out⟩
theorem E1{R S E F G I J:Nat}{ls:List (Nat×Nat×Nat)}(z:aJ w0 xb (rB b) 156)(C:¬T xb)(B:c.Sl=8)(g:kE A ls)(M:i<ls.length/\ls.length<=1000)(h:bh b c A [cR ls,R,S,E,F,G,I,J] T w0 w):Calls prog 39 #[xb,(i:Int)] w fun e w'=>e= .returned (.tuple #[.int .u64 ((A.Qk (cR (ls.drop i)) 2:Nat):Int),.float .f64 (A.Qk (cR (ls.drop i)) 1),(0:Int)])/\bh b c A [cR ls,0,0,E,F,G,I,J] T w0 w':=by
 have a:=ae (ag z C);have u:=ae B;have r:=ae g;have q:=ae M;clear z C B;obtain ⟨x,y,f,D⟩:∃x y f,(ls.drop i)=(x,y,f)::ls.drop (i+1):=xU (by have:=q.out;omega);have L:=te r.out D;obtain ⟨j,O,P,Q,V⟩:=L;have d:cR (ls.drop i)=x:=by rw [D];rfl
 rw [d]
 go_enter_defers func39,ntmps39
 have H:=ae (nH a.out.1 a.out.2 h);go_wp2_with fail
 refine H.out.mono ?_;rintro e w1 ⟨rfl,rfl⟩;clear H;obtain ⟨m,n,o,p⟩:=eL a.out.1 a.out.2 h;have H:=ae (BU a.out.1 a.out.2 u.out r.out q.out h);clear h;go_wp2_with fail
 refine H.out.mono ?_;rintro e w1 ⟨rfl,h⟩;clear H m n o p;rw [d] at h;obtain ⟨m,n,o,p⟩:=eL a.out.1 a.out.2 h;have H:=ae (ux a.out.1 a.out.2 (s:=1) (x:=x) rfl j ⟨O,P,Q⟩ h);clear h;go_wp2_with fail
 refine H.out.mono ?_;rintro e w1 ⟨rfl,h⟩;clear H m n o p;have K:=ae (uE a.out.1 a.out.2 u.out h);clear h;go_wp2;refine leaves_cons (f:=90) (args:= #[xb]) (by simp) (by simp [go_sem]) ?_;refine ((K.out).Qw .returning).mono ?_;rintro e W U ⟨rfl,rfl,N⟩;exact ⟨_,results_tmp3 rfl _ _ _,rfl,N⟩
end
def ot(b:Nat):List Value:=[b,(3:Int),(4:Int),(5:Int),(6:Int),(7:Int)]
section
variable{b xb:Nat}{c:Cf}{A A':AG}{rs rs' l:List Nat}{T:Nat->Prop}{w0 w w':World}{s t x i v k f key:Nat}
theorem bN(a:aJ w0 xb (ot b) 158)(d:¬T xb)(h:bh b c A rs T w0 w):w.cell? xb=some b/\w.cell? ⟨xb,1,none⟩=some (3:Int)/\w.cell? ⟨xb,2,none⟩=some (4:Int)/\w.cell? ⟨xb,3,none⟩=some (5:Int)/\w.cell? ⟨xb,4,none⟩=some (6:Int)/\w.cell? ⟨xb,5,none⟩=some (7:Int):=by
 have:=a.frame h.fr d;exact ⟨this.cell 0 rfl,this.cell 1 rfl,this.cell 2 rfl,this.cell 3 rfl,this.cell 4 rfl,this.cell 5 rfl⟩
theorem la(a:aJ w0 xb (ot b) 158)(d:¬T xb)(h:bh b c A rs T w0 w):Calls prog 96 #[xb] w fun e w'=>e= .returned (.bool false)/\w'=w:=by
 obtain ⟨g,_⟩:=bN a d h;clear a h
 go_enter func96,ntmps96
 go_wp2;go_ret;exact ⟨rfl,rfl⟩
def CH(r0 r1 r2 r3 r4 r5 r6 r7 j:Nat):List Nat:=[r0,r1,r2,r3,if 0<j then 0 else r4,if 1<j then 0 else r5,if 2<j then 0 else r6,if 3<j then 0 else r7]
theorem fT{a d g m n o p q:Nat}(J:aJ w0 xb (ot b) 158)(M:¬T xb)(K:c.Sl=8)(h:bh b c A [a,d,g,m,n,o,p,q] T w0 w):Bd 91 #[xb] w fun e w'=>e= .returned (.tuple #[])/\bh b c A [a,d,g,m,0,0,0,0] T w0 w':=by
 have y:=ae (ag J M);have R:=ae K;clear J M K;have u:=ae (show bh b c A (CH a d g m n o p q 0) T w0 w from h);obtain ⟨C,D,E,F,G,I⟩:=bN y.out.1 y.out.2 h;clear h;have O:∀(j:Nat) (w:World),j<4->(Instr.index 68 (.agg #[(4:Int),(5:Int),(6:Int),(7:Int)]) (.int .i64 j)).run prog w= .ok (.int .i64 ((4+j:Nat):Int)) w:=fun j w L=>by
  rcases (show j=0\/j=1\/j=2\/j=3 by omega) with rfl|rfl|rfl|rfl<;>simp [Instr.index,asIntOf,run_underlying,part,go_sem]
 refine ⟨_,_,func91,rfl,?_⟩;simp only [ntmps91,cU,bn,ch,Nat.reduceAdd,Nat.reduceSub,cH,cG,de,cQ,bZ,dd];go_wp2
 go_quiet (fail)
 have u:=ae (u.out.dn nq);clear C D E F G I;generalize w.drewN nq=W5 at*;go_wp2
 go_loopw [21] (fun z wr=>∃j:Nat,z= .int .i64 j/\j<=4/\Hid (bh b c A (CH a d g m n o p q j) T w0 wr)) (fun z _=>(4-intOf z).toNat)
 case atStart=>exact ⟨0,rfl,by omega,u⟩
 case round=>
  clear u;obtain ⟨j,rfl,L,N⟩:=hrel;have h:=N.out;clear N;by_cases r:j<4
  ·have c1:(j:Int)<4:=by omega
   have B:=fun w=>O j w r
   obtain ⟨C,D,E,F,G,I⟩:=bN y.out.1 y.out.2 h;have H:=ae (h.clear (s:=4+j) (by rw [R.out];omega));clear h;go_wp2_with fail
   refine H.out.mono ?_;rintro e w1 ⟨rfl,h⟩;clear H C D E F G I;have P:=ae (show bh b c A (CH a d g m n o p q (j+1)) T w0 w1 by
     have e:CH a d g m n o p q (j+1)=(CH a d g m n o p q j).set (4+j) 0:=by
      rcases (show j=0\/j=1\/j=2\/j=3 by omega) with rfl|rfl|rfl|rfl<;>rfl
     rw [e];exact h)
   clear h B;go_wp2;go_roundw
   case rel=>exact ⟨j+1,by go_num,by omega,P⟩
   case measure=>simp [intOf];omega
  ·have c1:¬(j:Int)<4:=by omega
   obtain rfl:j=4:=by omega
   have Q:=ae h;clear h r L O;go_wp2;go_end0;exact ⟨rfl,Q.out⟩
theorem AO{a d g j p q r u:Nat}(m:aJ w0 xb (ot b) 158)(o:¬T xb)(n:c.Sl=8)(h:bh b c A [a,d,g,j,p,q,r,u] T w0 w):Calls prog 91 #[xb] w fun e w'=>e= .returned (.tuple #[])/\bh b c A [a,d,g,j,0,0,0,0] T w0 w':=(fT m o n h).calls
theorem gF(d:aJ w0 xb (ot b) 158)(m:¬T xb)(q:rs[s]? =some x)(h:bh b c A rs T w0 w):Calls prog 165 #[xb,(s:Int)] w fun e w'=>e= .returned (.bool (!decide (x=0)))/\bh b c A rs T w0 w':=by
 have a:=ae (ag d m);clear d m
 go_enter func165,ntmps165
 obtain ⟨r,u,y,z,B,C⟩:=bN a.out.1 a.out.2 h;have H:=ae (h.shape q);clear h;go_wp2_with fail
 refine H.out.mono ?_;rintro e w1 ⟨⟨p,g,j,D,rfl,o⟩,h⟩;clear H r u y z B C;have n:=ae h;clear h;go_wp2;go_ret;exact ⟨rfl,n.out.Qa ((GQ _ _).alloc _)⟩
theorem nm(g:aJ w0 xb (ot b) 158)(j:¬T xb)(p:rs[s]? =some x)(a:x≠0)(o:A.np x=2/\A.nf x=1/\A.ng x=1)(h:bh b c A rs T w0 w):Calls prog 166 #[xb,(s:Int)] w fun e w'=>e= .returned (.int .u64 ((A.Qk x 3:Nat):Int))/\bh b c A rs T w0 w'/\w.heap.size<=w'.heap.size:=by
 have d:=ae (ag g j);obtain ⟨C,D,E⟩:=o;clear g j
 go_enter func166,ntmps166
 obtain ⟨q,r,u,y,z,B⟩:=bN d.out.1 d.out.2 h;have H:=ae (h.getS (i:=3) p a (by omega) (by omega));clear h;go_wp2_with fail
 refine H.out.mono ?_;rintro e w1 ⟨rfl,h,m⟩;clear H q r u y z B;have n:=ae (ag h m);clear h m;go_wp2;go_ret;exact ⟨rfl,n.out⟩
def mI(key k:Nat):Nat:=if key<k then 0 else 1
theorem tO(m:aJ w0 xb (ot b) 158)(o:¬T xb)(p:rs[s]? =some x)(j:x≠0)(n:A.np x=2/\A.nf x=1/\A.ng x=1)(h:bh b c A rs T w0 w):Calls prog 167 #[xb,(s:Int),.int .u64 key] w fun e w'=>e= .returned (.int .i64 ((mI key (A.Qk x 3):Nat):Int))/\bh b c A rs T w0 w'/\w.heap.size<=w'.heap.size:=by
 have H:=ae (nm m o p j n h);clear m o p n h;generalize A.Qk x 3=y at*;generalize (bh b c A rs T w0)=Q at*;unfold mI;by_cases a:key<y
 ·have c1:(key:Int)<(y:Int):=by omega
  rw [aG a];clear a
  go_enter func167,ntmps167
  go_wp2_with fail
  refine H.out.mono ?_;rintro e w1 ⟨rfl,h,d⟩;have g:=ae (ag h d);clear H h d;go_wp2;go_ret;exact ⟨rfl,g.out⟩
 ·have c1:¬(key:Int)<(y:Int):=by omega
  rw [aE a];clear a
  go_enter func167,ntmps167
  go_wp2_with fail
  refine H.out.mono ?_;rintro e w1 ⟨rfl,h,d⟩;have g:=ae (ag h d);clear H h d;go_wp2;go_ret;exact ⟨rfl,g.out⟩
def Tr.size:Tr->Nat
 | .nil=>0
 | .node l _ _ _ r=>l.size+r.size+1
def FV(b:Nat)(c:Cf)(A:AG)(T:Nat->Prop)(w0:World)(tr:Tr)(key r0 r1 r2 r6 r7:Nat)(wr:World)(m:Nat):Prop:=∃y s,tr=y.Qf s/\yC key y/\s.size=m/\bh b c A [r0,r1,r2,tr.root,s.root,y.up,r6,r7] T w0 wr
def Gt(b:Nat)(c:Cf)(A:AG)(T:Nat->Prop)(w0:World)(tr:Tr)(key r0 r1 r2 r6 r7:Nat)(e:Ending)(w':World):Prop:=∃y s,tr=y.Qf s/\yC key y/\e= .returned (.bool (!decide (s.root=0)))/\(s= .nil\/∃l x f r,s= .node l x key f r)/\bh b c A [r0,r1,r2,tr.root,s.root,y.up,r6,r7] T w0 w'
theorem qh{z B C r4 r5 D E:Nat}{tr:Tr}(hB:aJ w0 xb (ot b) 158)(Y:¬T xb)(hc:c.Sl=8)(hT:gl A tr)(h:bh b c A [z,B,C,tr.root,r4,r5,D,E] T w0 w):Calls prog 97 #[xb,.int .u64 key] w fun e w'=>Gt b c A T w0 tr key z B C D E e w':=by
 have d:=ae (ag hB Y);have HS:=ae hc;have HT:=ae hT;clear hB Y hc hT
 go_enter func97,ntmps97
 obtain ⟨g,n,o,p,q,u⟩:=bN d.out.1 d.out.2 h;have H:=ae (fun q0=>(h.dn q0).clear (s:=5) (by rw [HS.out];omega));clear h;go_wp2;refine bG 8 ?_;simp only [ai,an,aj,ao]
 repeat (go_big_quiet_step (fail))
 refine wpQuiet_nil ?_;rintro w9 ⟨q0,rfl⟩;go_wp2_with fail
 refine (H.out q0).mono ?_;rintro e w1 ⟨rfl,h⟩;clear H g n o p q u;obtain ⟨g,n,o,p,q,u⟩:=bN d.out.1 d.out.2 h;have H:=ae (fun q0=>(h.dn q0).copy (s:=4) (t:=3) (v:=tr.root) (by rw [HS.out];omega) rfl);clear h;go_wp2;refine bG 12 ?_;simp only [ai,an,aj,ao]
 repeat (go_big_quiet_step (fail))
 refine wpQuiet_nil ?_;rintro w9 ⟨q0,rfl⟩;go_wp2_with fail
 refine (H.out q0).mono ?_;rintro e w1 ⟨rfl,h⟩;clear H g n o p q u;have H0:=ae (show FV b c A T w0 tr key z B C D E w1 tr.size from ⟨.top,tr,rfl,trivial,rfl,h⟩);clear h;go_wp2
 go_loopw [] (fun wr=>∃m,Hid (FV b c A T w0 tr key z B C D E wr m)) (fun wr=>gu (FV b c A T w0 tr key z B C D E wr))
 case atStart=>exact ⟨_,H0⟩
 case round=>
  clear H0;obtain ⟨m,hm⟩:=hrel;obtain ⟨hr,_⟩:=dG hm.out;clear hm;generalize W:gu (FV b c A T w0 tr key z B C D E _)=m0 at hr;obtain ⟨y,s,U,Q,J,h⟩:=hr;have L:=ae (ag W (ag U (ag Q J)));clear W U Q J
  cases s with
  |nil=>
   rw [show (Tr.nil).root=0 from rfl] at h;obtain ⟨g,n,o,p,q,u⟩:=bN d.out.1 d.out.2 h;have H:=ae (gF d.out.1 d.out.2 (s:=4) (x:=0) rfl h);clear h;go_wp2_with fail
   refine H.out.mono ?_;rintro e w1 ⟨rfl,h⟩;clear H g n o p q u;obtain ⟨g,n,o,p,q,u⟩:=bN d.out.1 d.out.2 h;have H:=ae (gF d.out.1 d.out.2 (s:=4) (x:=0) rfl h);clear h;go_wp2_with fail
   refine H.out.mono ?_;rintro e w1 ⟨rfl,h⟩;clear H g n o p q u;have HR:=ae h;clear h;go_wp2;go_ret;exact ⟨y,.nil,L.out.2.1,L.out.2.2.1,rfl,.inl rfl,HR.out⟩
  |node l x k f r=>
   have V:iy A x l.root r.root k f:=((iM y (.node l x k f r)).1 (L.out.2.1▸HT.out)).2.1;obtain ⟨K,V,n4,n5,_,n7⟩:=V;rw [show (Tr.node l x k f r).root=x from rfl] at h;obtain ⟨g,n,o,p,q,u⟩:=bN d.out.1 d.out.2 h;have d0:decide (x=0)=false:=ar K;have H:=ae (gF d.out.1 d.out.2 (s:=4) (x:=x) rfl h);clear h;go_wp2_with fail
   refine H.out.mono ?_;rintro e w1 ⟨rfl,h⟩;clear H g n o p q u;obtain ⟨g,n,o,p,q,u⟩:=bN d.out.1 d.out.2 h;have H:=ae (nm d.out.1 d.out.2 (s:=4) (x:=x) rfl K V h);clear h;go_wp2_with fail
   refine H.out.mono ?_;rintro e w1 ⟨rfl,h,_⟩;clear H g n o p q u;rw [n7];by_cases hk:k=key
   ·subst hk;obtain ⟨g,n,o,p,q,u⟩:=bN d.out.1 d.out.2 h;have H:=ae (gF d.out.1 d.out.2 (s:=4) (x:=x) rfl h);clear h;go_wp2_with fail
    refine H.out.mono ?_;rintro e w1 ⟨rfl,h⟩;clear H g n o p q u;have HR:=ae h;clear h;go_wp2;go_ret;exact ⟨y,.node l x k f r,L.out.2.1,L.out.2.2.1,by show _=Ending.returned (.bool (!decide (x=0)));rw [d0];rfl,.inr ⟨l,x,f,r,rfl⟩,HR.out⟩
   ·have c1:¬(k:Int)=(key:Int):=by omega
    have c2:decide ((k:Int)=(key:Int))=false:=ar c1;obtain ⟨g,n,o,p,q,u⟩:=bN d.out.1 d.out.2 h;have H:=ae (fun q0=>(h.dn q0).copy (s:=5) (t:=4) (v:=x) (by rw [HS.out];omega) rfl);clear h;go_wp2;refine bG 12 ?_;simp only [ai,an,aj,ao]
    repeat (go_big_quiet_step (fail))
    refine wpQuiet_nil ?_;rintro w9 ⟨q0,rfl⟩;go_wp2_with fail
    refine (H.out q0).mono ?_;rintro e w1 ⟨rfl,h⟩;clear H g n o p q u;obtain ⟨SD,I⟩:∃SD,SD=mI key (A.Qk x 3):=⟨_,rfl⟩;have HC:=ae (fun w (h:bh b c A [z,B,C,tr.root,x,x,D,E] T w0 w)=>bN d.out.1 d.out.2 h);have G:=ae (fun w (h:bh b c A [z,B,C,tr.root,x,x,D,E] T w0 w)=>tO d.out.1 d.out.2 (s:=4) (x:=x) (key:=key) rfl K V h);have M:=ae (fun w (h:bh b c A [z,B,C,tr.root,x,x,D,E] T w0 w)=>h.load (s:=4) (t:=4) (x:=x) (i:=SD) (by rw [HS.out];omega) rfl K (by rw [I];unfold mI;split<;>omega));have S:=ae (show bh b c A [z,B,C,tr.root,x,x,D,E] T w0 w1.drew from h.Qa ((GQ _ w1).drew));rw [<-I] at G;have R:=ae I;clear h I;generalize (bh b c A [z,B,C,tr.root,x,x,D,E] T w0)=Z at HC G M S;go_wp2;refine cZ 19 (fun a b2=>(Z a->Z b2)/\a.heap.size<=b2.heap.size) [.c xb,.c xb,.c xb,.c b,.c xb,.c xb,.c (.pointer (some ⟨xb,2,none⟩)),.c (4:Int),.c xb,.c xb,.c (.pointer (some ⟨xb,2,none⟩)),.c (4:Int),.c xb,.c xb,.c xb,.c (.pointer (some ⟨xb,2,none⟩)),.c (4:Int),.c (.int .u64 key),.c (SD:Int)] (fun j=>false) (fun _=>⟨fun h=>h,ak _⟩) (fun _ _ _ h1 h2=>⟨fun h=>h2.1 (h1.1 h),aZ h1.2 h2.2⟩) (fun _ _ h=>h.2) trivial ?_;intro F hF;simp only [fp,PK.val,ai,an,aa] at hF;subst hF;refine ⟨by
     refine ⟨?_,?_,?_,?_,?_,?_,?_,?_,?_,?_,?_,?_,?_,?_,?_,?_,?_,?_,?_,trivial⟩<;>intro vs w1 hw af Q hx
     all_goals try (apply oV;rotate_left;rfl;exact ⟨fun h=>h,ak _⟩;go_simp;done)
     all_goals try (apply oV;rotate_left;rfl;exact ⟨fun h=>h,ak _⟩;obtain ⟨g,n,o,p,q,u⟩:=HC.out w1 (hw.1 S.out);go_simp;done)
     ·refine bm 167 #[xb,(4:Int),.int .u64 key] (by go_simp) ((G.out w1 (hw.1 S.out)).mono ?_);rintro e w5 ⟨rfl,hz,ad⟩;exact ⟨_,rfl,rfl,⟨fun _=>hz,ad⟩,fun h=>nomatch h⟩
     ,fun vs w1 hw hp hx=> ?_⟩
    simp only [aj,ao];have HL:=ae (M.out w1 (hw.1 S.out));clear HC G M S hw hp hx;go_wp2_with fail
    refine HL.out.mono ?_;rintro e w2 ⟨rfl,h⟩;clear HL;obtain ⟨m2,X,Y⟩:∃m2,m2<m0/\FV b c A T w0 tr key z B C D E w2 m2:=by
     obtain ⟨_,U,Q,J⟩:=L.out;have P:=R.out;rw [n7] at P;unfold mI at P;unfold Tr.size at J;by_cases O:key<k
     ·rw [aG O] at P;subst P;rw [n4] at h;exact ⟨l.size,by omega,.Xi y x k f r,l,U,⟨O,Q⟩,rfl,h⟩
     ·rw [aE O] at P;subst P;rw [n5] at h;exact ⟨r.size,by omega,.Xn l x k f y,r,U,⟨by omega,Q⟩,rfl,h⟩
    have HN:=ae Y;have N:=ae (ag L.out.1 X);clear h Y X L R n4 n5 n7 V;go_wp2;go_roundw
    case rel=>exact ⟨m2,HN⟩
    case measure=>exact bU (dG HN.out).2 (by first|exact N.out.2|(rw [N.out.1];exact N.out.2))
end
section
variable{b u n:Nat}{c:Cf}{A:AG}{rs:List Nat}{T:Nat->Prop}{w0 w w':World}{s t x y:Nat}
theorem BZ(J:eX b c A rs u n T w)(D:rs[s]? =some x)(E:rs[t]? =some y):Calls prog 168 #[b,(s:Int),(t:Int)] w fun e w'=>e= .returned (.tuple #[.bool (decide (x=y)),(0:Int)])/\bh b c A rs T w w':=by
 have K:=ae (fun w' (hf:GM w w')=>J.Xm.Qa hf);obtain ⟨p,q,r,B⟩:∃p q:Nat,decide ((p:Int)=(q:Int))=decide (x=y)/\∀w1,GM w w1->∀xb G:Nat,w1.cell? xb=some (s:Int)->w1.cell? ⟨xb,1,none⟩=some (t:Int)->Calls prog 60 #[b,.slice (some xb) 2 G] w1 (Aw [p,q] w1):=by
  obtain ⟨h,φ,L,Ba,X,R,W,P,S,rfl,l,U,O⟩:=J;refine ⟨φ x,φ y,?_,fun w1 hf xb G B N=> ?_⟩
  ·have C:∀{s z},rs[s]? =some z->z≠0->Reach A.gr rs z:=fun h M=> .root (aD h) M
   have V:=l.laid.zero;rw [ce];constructor
   ·intro e;have e:φ x=φ y:=by omega
    by_cases F:x=0
    ·by_cases v:y=0
     ·rw [F,v]
     ·have:=l.laid.pos (C E v);rw [F] at e;omega
    ·by_cases v:y=0
     ·have:=l.laid.pos (C D F);rw [v] at e;omega
     ·exact l.laid.inj (C D F) (C E v) e
   ·rintro rfl;rfl
  ·refine lz (l.Qa hf).Qd (l.Qa hf).roots xb G [φ x,φ y] (fun j a k=> ?_) (by simp) (by simp)
   match j,k with
   |0,k=>
    obtain rfl:φ x=a:=bf k;exact ⟨s,B,by rw [aR,D];rfl⟩
   |1,k=>
    obtain rfl:φ y=a:=bf k;exact ⟨t,N,by rw [aR,E];rfl⟩
   |j+2,k=>exact absurd k (by simp)
 obtain ⟨W1,d⟩:∃W1,w.alloc (.cells #[(s:Int),(t:Int)] 3)=W1:=⟨_,rfl⟩;have i:GM w W1:=by rw [<-d];exact (GQ _ w).alloc _
 have f:aJ W1 w.heap.size [(s:Int),(t:Int)] 3:=by rw [<-d];exact aJ.new w _ _
 have o:=ae (B W1 i w.heap.size 2 (f.cell 0 rfl) (f.cell 1 rfl));have m:=ae i;rw [<-r];clear B J i f D E r
 go_enter func168,ntmps168
 go_wp2_with fail
 refine o.out.mono ?_;rintro e w1 ⟨g,cap,rfl,I,hf⟩;have Q:=I 0 p rfl;have c1:=I 1 q rfl;have H:=ae (K.out w1 (m.out.trans hf GN));clear o I hf d K m;rw [show [p,q].length=2 from rfl];go_wp2
 go_quiet (fail)
 go_wp2;go_ret2;exact ⟨rfl,H.out.dn _⟩
theorem bh.same(h:bh b c A rs T w0 w)(d:rs[s]? =some x)(f:rs[t]? =some y):Calls prog 168 #[b,(s:Int),(t:Int)] w fun e w'=>e= .returned (.tuple #[.bool (decide (x=y)),(0:Int)])/\bh b c A rs T w0 w'/\w.heap.size<=w'.heap.size:=h.bindS (fun _ _ _ a=>BZ a d f)
end
section
variable{b xb:Nat}{c:Cf}{A A':AG}{rs rs' l:List Nat}{T:Nat->Prop}{w0 w w':World}{s t x i v k f key:Nat}
theorem yT{p q r E u y z:Nat}(B:aJ w0 xb (ot b) 158)(D:¬T xb)(I:[p,q,r,E,u,0,y,z][s]? =some v)(C:c.Sl=8)(h:bh b c A [p,q,r,E,u,0,y,z] T w0 w):Calls prog 98 #[xb,(5:Int),.int .u64 key,(s:Int)] w fun e w'=>e= .returned (.tuple #[])/\bh b c A [p,q,r,v,u,0,y,z] T w0 w':=by
 have a:=ae (ag B D);have G:=ae C;clear B D C
 go_enter func98,ntmps98
 obtain ⟨d,g,j,m,n,o⟩:=bN a.out.1 a.out.2 h;have H:=ae (gF a.out.1 a.out.2 (s:=5) (x:=0) rfl h);clear h;go_wp2_with fail
 refine H.out.mono ?_;rintro e w1 ⟨rfl,h⟩;clear H d g j m n o;obtain ⟨d,g,j,m,n,o⟩:=bN a.out.1 a.out.2 h;have H:=ae (fun q0=>(h.dn q0).copy (s:=3) (t:=s) (v:=v) (by rw [G.out];omega) I);clear h;go_wp2;refine bG 9 ?_;simp only [ai,an,aj,ao]
 repeat (go_big_quiet_step (fail))
 refine wpQuiet_nil ?_;rintro J ⟨q0,rfl⟩;go_wp2_with fail
 refine (H.out q0).mono ?_;rintro e w1 ⟨rfl,h⟩;clear H d g j m n o;have F:=ae h;clear h;go_wp2;go_end0;exact ⟨rfl,F.out⟩
theorem tR{n o p q r u y:Nat}(O:aJ w0 xb (ot b) 158)(R:¬T xb)(S:[n,o,p,q,r,x,u,y][s]? =some v)(B:x≠0)(hN:A.np x=2/\A.nf x=1/\A.ng x=1)(Q:c.Sl=8)(h:bh b c A [n,o,p,q,r,x,u,y] T w0 w):Calls prog 98 #[xb,(5:Int),.int .u64 key,(s:Int)] w fun e w'=>e= .returned (.tuple #[])/\bh b c (A.put x (mI key (A.Qk x 3)) v) [n,o,p,q,r,x,u,y] T w0 w':=by
 have m:=ae (ag O R);have HS:=ae Q;have HV:=ae S;clear O R Q S
 go_enter func98,ntmps98
 obtain ⟨V,W,X,Y,k4,k5⟩:=bN m.out.1 m.out.2 h;have d0:decide (x=0)=false:=ar B;have H:=ae (gF m.out.1 m.out.2 (s:=5) (x:=x) rfl h);clear h;go_wp2_with fail
 refine H.out.mono ?_;rintro e w1 ⟨rfl,h⟩;clear H V W X Y k4 k5;obtain ⟨E,g⟩:∃E,E=mI key (A.Qk x 3):=⟨_,rfl⟩;have G:=ae (fun w (h:bh b c A [n,o,p,q,r,x,u,y] T w0 w)=>bN m.out.1 m.out.2 h);have d:=ae (fun w (h:bh b c A [n,o,p,q,r,x,u,y] T w0 w)=>tO m.out.1 m.out.2 (s:=5) (x:=x) (key:=key) rfl B hN h);have z:=ae (fun w (h:bh b c A [n,o,p,q,r,x,u,y] T w0 w)=>h.store (s:=5) (i:=E) (t:=s) (x:=x) (v:=v) rfl B (by rw [g];unfold mI;split<;>omega) HV.out);have C:=ae (show bh b c A [n,o,p,q,r,x,u,y] T w0 w1.drew from h.Qa ((GQ _ w1).drew));rw [<-g] at d;have I:=ae g;clear h g;generalize (bh b c A [n,o,p,q,r,x,u,y] T w0)=Z at G d z C;go_wp2;refine cZ 10 (fun a L=>(Z a->Z L)/\a.heap.size<=L.heap.size) [.c xb,.c xb,.c xb,.c b,.c (5:Int),.c xb,.c (5:Int),.c (.int .u64 key),.c (E:Int),.c (s:Int)] (fun j=>false) (fun _=>⟨fun h=>h,ak _⟩) (fun _ _ _ M N=>⟨fun h=>N.1 (M.1 h),aZ M.2 N.2⟩) (fun _ _ h=>h.2) trivial ?_;intro F P;simp only [fp,PK.val,ai,an,aa] at P;subst P;refine ⟨by
  refine ⟨?_,?_,?_,?_,?_,?_,?_,?_,?_,?_,trivial⟩<;>intro vs w1 D ad hd U
  all_goals try (apply oV;rotate_left;rfl;exact ⟨fun h=>h,ak _⟩;go_simp;done)
  all_goals try (apply oV;rotate_left;rfl;exact ⟨fun h=>h,ak _⟩;obtain ⟨V,W,X,Y,k4,k5⟩:=G.out w1 (D.1 C.out);go_simp;done)
  ·refine bm 167 #[xb,(5:Int),.int .u64 key] (by go_simp) ((d.out w1 (D.1 C.out)).mono ?_);rintro e w5 ⟨rfl,hz,J⟩;exact ⟨_,rfl,rfl,⟨fun _=>hz,J⟩,fun h=>nomatch h⟩
  ,fun vs w1 D hp U=> ?_⟩
 simp only [aj,ao];have K:=ae (z.out w1 (D.1 C.out));clear G d z C D hp U;go_wp2_with fail
 refine K.out.mono ?_;rintro e w2 ⟨rfl,h⟩;clear K;rw [I.out] at h;have HR:=ae h;clear h;go_wp2;refine bodyPost_ret (results_none rfl _ _ _) rfl ?_;exact ⟨rfl,HR.out⟩
theorem ox{p q u B C D z:Nat}{y:Cx}(d:aJ w0 xb (ot b) 158)(m:¬T xb)(n:[p,q,u,y.root z,B,y.up,C,D][s]? =some v)(G:s≠3)(E:jS A y z)(F:yC key y)(j:c.Sl=8)(h:bh b c A [p,q,u,y.root z,B,y.up,C,D] T w0 w):Calls prog 98 #[xb,(5:Int),.int .u64 key,(s:Int)] w fun e w'=>e= .returned (.tuple #[])/\bh b c (y.Qy A v) [p,q,u,y.root v,B,y.up,C,D] T w0 w':=by
 cases y with
 |top=>exact yT d m n j h
 |Xi y x k f r=>
  obtain ⟨⟨a,g,_,_,_,o⟩,_⟩:=E;have:=tR (x:=x) (key:=key) d m n a g j h;rw [o,show mI key k=0 from aG F.1] at this;exact this
 |Xn l x k f y=>
  obtain ⟨⟨a,g,_,_,_,o⟩,_⟩:=E;have:=tR (x:=x) (key:=key) d m n a g j h;rw [o,show mI key k=1 from aE (by have:=F.1;omega)] at this;exact this
theorem AP{D E F G I L J:Nat}(y:aJ w0 xb (ot b) 158)(C:¬T xb)(d:x≠0)(K:A.np x=2/\A.nf x=1/\A.ng x=1)(z:c.Sl=8)(h:bh b c A [D,E,F,G,x,I,L,J] T w0 w):Calls prog 100 #[xb,(4:Int)] w fun e w'=>e= .returned (.bool (!decide (A.Qk x 0=0)&& !decide (A.Qk x 1=0)))/\bh b c A [D,E,F,G,x,I,A.Qk x 1,J] T w0 w':=by
 have a:=ae (ag y C);have u:=ae z;obtain ⟨O,P,Q⟩:=K;clear y C z;have N:decide (x=0)=false:=ar d
 go_enter func100,ntmps100
 obtain ⟨g,j,m,n,o,p⟩:=bN a.out.1 a.out.2 h;have H:=ae (fun q0=>(h.dn q0).load (s:=6) (t:=4) (x:=x) (i:=0) (by rw [u.out];omega) rfl d (by omega));clear h;go_wp2;refine bG 9 ?_;simp only [ai,an,aj,ao]
 repeat (go_big_quiet_step (fail))
 refine wpQuiet_nil ?_;rintro M ⟨q0,rfl⟩;go_wp2_with fail
 refine (H.out q0).mono ?_;rintro e w1 ⟨rfl,h⟩;clear H g j m n o p;obtain ⟨g,j,m,n,o,p⟩:=bN a.out.1 a.out.2 h;have H:=ae (gF a.out.1 a.out.2 (s:=6) (x:=A.Qk x 0) rfl h);clear h;go_wp2_with fail
 refine H.out.mono ?_;rintro e w1 ⟨rfl,h⟩;clear H g j m n o p;obtain ⟨g,j,m,n,o,p⟩:=bN a.out.1 a.out.2 h;have H:=ae (fun q0=>(h.dn q0).load (s:=6) (t:=4) (x:=x) (i:=1) (by rw [u.out];omega) rfl d (by omega));clear h;go_wp2;refine bG 9 ?_;simp only [ai,an,aj,ao]
 repeat (go_big_quiet_step (fail))
 refine wpQuiet_nil ?_;rintro M ⟨q0,rfl⟩;go_wp2_with fail
 refine (H.out q0).mono ?_;rintro e w1 ⟨rfl,h⟩;clear H g j m n o p;by_cases B:A.Qk x 0=0
 ·have q:decide (A.Qk x 0=0)=true:=aB B;have r:=ae h;clear h;rw [q];go_wp2;go_ret;exact ⟨by rw [q];rfl,r.out⟩
 ·have q:decide (A.Qk x 0=0)=false:=ar B;rw [q];obtain ⟨g,j,m,n,o,p⟩:=bN a.out.1 a.out.2 h;have H:=ae (gF a.out.1 a.out.2 (s:=6) (x:=A.Qk x 1) rfl h);clear h;go_wp2_with fail
  refine H.out.mono ?_;rintro e w1 ⟨rfl,h⟩;clear H g j m n o p;have r:=ae h;clear h;go_wp2;go_ret;exact ⟨by rw [q];rfl,r.out⟩
theorem yO{E F G O I:Nat}(r:aJ w0 xb (ot b) 158)(D:¬T xb)(M:A.Qk x 0=0)(p:x≠0)(N:A.np x=2/\A.nf x=1/\A.ng x=1){y:Cx}{z:Nat}(u:jS A y z)(C:yC key y)(B:c.Sl=8)(h:bh b c A [E,F,G,y.root z,x,y.up,O,I] T w0 w):Calls prog 102 #[xb,(4:Int),(5:Int),.int .u64 key] w fun e w'=>e= .returned (.tuple #[])/\bh b c (y.Qy A (A.Qk x 1)) [E,F,G,y.root (A.Qk x 1),x,y.up,A.Qk x 1,I] T w0 w':=by
 have a:=ae (ag r D);have q:=ae B;have L:=ae u;have J:=ae C;obtain ⟨R,S,U⟩:=N;clear r D B u C
 go_enter func102,ntmps102
 obtain ⟨d,g,j,m,n,o⟩:=bN a.out.1 a.out.2 h;have H:=ae (fun q0=>(h.dn q0).load (s:=6) (t:=4) (x:=x) (i:=0) (by rw [q.out];omega) rfl p (by omega));clear h;go_wp2;refine bG 9 ?_;simp only [ai,an,aj,ao]
 repeat (go_big_quiet_step (fail))
 refine wpQuiet_nil ?_;rintro P ⟨q0,rfl⟩;go_wp2_with fail
 refine (H.out q0).mono ?_;rintro e w1 ⟨rfl,h⟩;clear H d g j m n o;obtain ⟨d,g,j,m,n,o⟩:=bN a.out.1 a.out.2 h;have Q:decide (A.Qk x 0=0)=true:=aB M;have H:=ae (gF a.out.1 a.out.2 (s:=6) (x:=A.Qk x 0) rfl h);clear h;go_wp2_with fail
 refine H.out.mono ?_;rintro e w1 ⟨rfl,h⟩;clear H d g j m n o;obtain ⟨d,g,j,m,n,o⟩:=bN a.out.1 a.out.2 h;have H:=ae (fun q0=>(h.dn q0).load (s:=6) (t:=4) (x:=x) (i:=1) (by rw [q.out];omega) rfl p (by omega));clear h;go_wp2;refine bG 10 ?_;simp only [ai,an,aj,ao]
 repeat (go_big_quiet_step (fail))
 refine wpQuiet_nil ?_;rintro P ⟨q0,rfl⟩;go_wp2_with fail
 refine (H.out q0).mono ?_;rintro e w1 ⟨rfl,h⟩;clear H d g j m n o;obtain ⟨d,g,j,m,n,o⟩:=bN a.out.1 a.out.2 h;have H:=ae (ox a.out.1 a.out.2 (s:=6) (v:=A.Qk x 1) rfl (by omega) L.out J.out q.out h);clear h;go_wp2_with fail
 refine H.out.mono ?_;rintro e w1 ⟨rfl,h⟩;clear H d g j m n o;have K:=ae h;clear h;go_wp2;go_end0;exact ⟨rfl,K.out⟩
theorem yP{E F G O I:Nat}(r:aJ w0 xb (ot b) 158)(D:¬T xb)(M:¬A.Qk x 0=0)(p:x≠0)(N:A.np x=2/\A.nf x=1/\A.ng x=1){y:Cx}{z:Nat}(u:jS A y z)(C:yC key y)(B:c.Sl=8)(h:bh b c A [E,F,G,y.root z,x,y.up,O,I] T w0 w):Calls prog 102 #[xb,(4:Int),(5:Int),.int .u64 key] w fun e w'=>e= .returned (.tuple #[])/\bh b c (y.Qy A (A.Qk x 0)) [E,F,G,y.root (A.Qk x 0),x,y.up,A.Qk x 0,I] T w0 w':=by
 have a:=ae (ag r D);have q:=ae B;have L:=ae u;have J:=ae C;obtain ⟨R,S,U⟩:=N;clear r D B u C
 go_enter func102,ntmps102
 obtain ⟨d,g,j,m,n,o⟩:=bN a.out.1 a.out.2 h;have H:=ae (fun q0=>(h.dn q0).load (s:=6) (t:=4) (x:=x) (i:=0) (by rw [q.out];omega) rfl p (by omega));clear h;go_wp2;refine bG 9 ?_;simp only [ai,an,aj,ao]
 repeat (go_big_quiet_step (fail))
 refine wpQuiet_nil ?_;rintro P ⟨q0,rfl⟩;go_wp2_with fail
 refine (H.out q0).mono ?_;rintro e w1 ⟨rfl,h⟩;clear H d g j m n o;obtain ⟨d,g,j,m,n,o⟩:=bN a.out.1 a.out.2 h;have Q:decide (A.Qk x 0=0)=false:=ar M;have H:=ae (gF a.out.1 a.out.2 (s:=6) (x:=A.Qk x 0) rfl h);clear h;go_wp2_with fail
 refine H.out.mono ?_;rintro e w1 ⟨rfl,h⟩;clear H d g j m n o;obtain ⟨d,g,j,m,n,o⟩:=bN a.out.1 a.out.2 h;have H:=ae (fun q0=>(h.dn q0).load (s:=6) (t:=4) (x:=x) (i:=0) (by rw [q.out];omega) rfl p (by omega));clear h;go_wp2;refine bG 10 ?_;simp only [ai,an,aj,ao]
 repeat (go_big_quiet_step (fail))
 refine wpQuiet_nil ?_;rintro P ⟨q0,rfl⟩;go_wp2_with fail
 refine (H.out q0).mono ?_;rintro e w1 ⟨rfl,h⟩;clear H d g j m n o;obtain ⟨d,g,j,m,n,o⟩:=bN a.out.1 a.out.2 h;have H:=ae (ox a.out.1 a.out.2 (s:=6) (v:=A.Qk x 0) rfl (by omega) L.out J.out q.out h);clear h;go_wp2_with fail
 refine H.out.mono ?_;rintro e w1 ⟨rfl,h⟩;clear H d g j m n o;have K:=ae h;clear h;go_wp2;go_end0;exact ⟨rfl,K.out⟩
end
section
variable{b xb:Nat}{c:Cf}{A A':AG}{rs rs' l:List Nat}{T:Nat->Prop}{w0 w w':World}{s t x i v k f key:Nat}
def um(x:Nat):Cx->Nat×Nat
 | .top=>(x,1)
 | .Xi _ u _ _ _=>(u,0)
 | .Xn _ u _ _ _=>(u,1)
def FU(b:Nat)(c:Cf)(A:AG)(T:Nat->Prop)(w0:World)(r:Tr)(x r0 r1 r2 r3:Nat)(wr:World)(m:Nat):Prop:=∃y l z k f t,r=Cx.Qf y (.node l z k f t)/\y.pre=[]/\l.size=m/\bh b c A [r0,r1,r2,r3,x,z,l.root,(um x y).1] T w0 wr
def Gn(b:Nat)(c:Cf)(A:AG)(T:Nat->Prop)(w0:World)(r:Tr)(x r0 r1 r2 r3:Nat)(e:Ending)(w':World):Prop:=∃y z k f t,r=Cx.Qf y (.node .nil z k f t)/\y.pre=[]/\e= .returned (.tuple #[])/\bh b c (((A.put (um x y).1 (um x y).2 t.root).put x 3 k).put x 2 f) [r0,r1,r2,r3,x,z,t.root,(um x y).1] T w0 w'
theorem AK{D E G I r5 r6 r7:Nat}(hB:aJ w0 xb (ot b) 158)(hn:¬T xb){r:Tr}(hr:gl A r)(au:r≠ .nil)(aw:A.Qk x 1=r.root)(ap:x∉co r.all)(P:x≠0)(hN:A.np x=2/\A.nf x=1/\A.ng x=1)(hc:c.Sl=8)(h:bh b c A [D,E,G,I,x,r5,r6,r7] T w0 w):Calls prog 101 #[xb] w fun e w'=>Gn b c A T w0 r x D E G I e w':=by
 have d:=ae (ag hB hn);have HS:=ae hc;have HT:=ae (ag hr (ag hN.1 (ag hN.2.1 (ag hN.2.2 (ag ap P)))));clear hB hn hc hr ap;obtain ⟨n1,n2,n3⟩:=hN
 go_enter func101,ntmps101
 obtain ⟨o,g,n,p,q,B⟩:=bN d.out.1 d.out.2 h;have H:=ae (fun q0=>(h.dn q0).copy (s:=7) (t:=4) (v:=x) (by rw [HS.out];omega) rfl);clear h;go_wp2;refine bG 12 ?_;simp only [ai,an,aj,ao]
 repeat (go_big_quiet_step (fail))
 refine wpQuiet_nil ?_;rintro Q ⟨q0,rfl⟩;go_wp2_with fail
 refine (H.out q0).mono ?_;rintro e w1 ⟨rfl,h⟩;clear H o g n p q B;obtain ⟨o,g,n,p,q,B⟩:=bN d.out.1 d.out.2 h;have H:=ae (fun q0=>(h.dn q0).load (s:=5) (t:=4) (x:=x) (i:=1) (by rw [HS.out];omega) rfl P (by omega));clear h;go_wp2;refine bG 12 ?_;simp only [ai,an,aj,ao]
 repeat (go_big_quiet_step (fail))
 refine wpQuiet_nil ?_;rintro Q ⟨q0,rfl⟩;go_wp2_with fail
 refine (H.out q0).mono ?_;rintro e w1 ⟨rfl,h⟩;clear H o g n p q B;rw [aw] at h
 cases r with
 |nil=>exact absurd rfl au
 |node l z k f t=>
  obtain ⟨⟨N,⟨m1,m2,m3⟩,m4,_⟩,_,_⟩:=id HT.out.1;rw [show (Tr.node l z k f t).root=z from rfl] at h;obtain ⟨o,g,n,p,q,B⟩:=bN d.out.1 d.out.2 h;have H:=ae (fun q0=>(h.dn q0).load (s:=6) (t:=5) (x:=z) (i:=0) (by rw [HS.out];omega) rfl N (by omega));clear h;go_wp2;refine bG 12 ?_;simp only [ai,an,aj,ao]
  repeat (go_big_quiet_step (fail))
  refine wpQuiet_nil ?_;rintro Q ⟨q0,rfl⟩;go_wp2_with fail
  refine (H.out q0).mono ?_;rintro e w1 ⟨rfl,h⟩;clear H o g n p q B;rw [m4] at h;have H0:=ae (show FU b c A T w0 (.node l z k f t) x D E G I w1 l.size from ⟨.top,l,z,k,f,t,rfl,rfl,rfl,h⟩);clear h m4 m1 m2 m3 N aw au;obtain ⟨r,O⟩:∃r,r=Tr.node l z k f t:=⟨_,rfl⟩;rw [<-O] at H0 HT;have al:=ae O;clear O;go_wp2
  go_loopw [] (fun wr=>∃m,Hid (FU b c A T w0 r x D E G I wr m)) (fun wr=>gu (FU b c A T w0 r x D E G I wr))
  case atStart=>exact ⟨_,H0⟩
  case round=>
   clear H0;obtain ⟨m,hm⟩:=hrel;obtain ⟨hr,_⟩:=dG hm.out;clear hm;generalize am:gu (FU b c A T w0 r x D E G I _)=m0 at hr;obtain ⟨y,l,z,k,f,t,S,hp,W,h⟩:=hr;have HM:=ae (ag am (ag S (ag hp W)));obtain ⟨hY,⟨N,⟨m1,m2,m3⟩,m4,m5,m6,m7⟩,hl,_⟩:=(iM y (.node l z k f t)).1 (S▸HT.out.1);have HL:=ae (ag hY hl);clear am S hp W hY hl
   cases l with
   |node l2 z2 n f2 t2=>
    obtain ⟨⟨aq,⟨q1,q2,q3⟩,q4,_⟩,_⟩:=id HL.out.2;rw [show (Tr.node l2 z2 n f2 t2).root=z2 from rfl] at h;obtain ⟨o,g,n,p,q,B⟩:=bN d.out.1 d.out.2 h;have d0:decide (z2=0)=false:=ar aq;have H:=ae (gF d.out.1 d.out.2 (s:=6) (x:=z2) rfl h);clear h;go_wp2_with fail
    refine H.out.mono ?_;rintro e w1 ⟨rfl,h⟩;clear H o g n p q B;obtain ⟨o,g,n,p,q,B⟩:=bN d.out.1 d.out.2 h;have H:=ae (fun q0=>(h.dn q0).copy (s:=7) (t:=5) (v:=z) (by rw [HS.out];omega) rfl);clear h;go_wp2;refine bG 12 ?_;simp only [ai,an,aj,ao]
    repeat (go_big_quiet_step (fail))
    refine wpQuiet_nil ?_;rintro Q ⟨q0,rfl⟩;go_wp2_with fail
    refine (H.out q0).mono ?_;rintro e w1 ⟨rfl,h⟩;clear H o g n p q B;obtain ⟨o,g,n,p,q,B⟩:=bN d.out.1 d.out.2 h;have H:=ae (fun q0=>(h.dn q0).copy (s:=5) (t:=6) (v:=z2) (by rw [HS.out];omega) rfl);clear h;go_wp2;refine bG 12 ?_;simp only [ai,an,aj,ao]
    repeat (go_big_quiet_step (fail))
    refine wpQuiet_nil ?_;rintro Q ⟨q0,rfl⟩;go_wp2_with fail
    refine (H.out q0).mono ?_;rintro e w1 ⟨rfl,h⟩;clear H o g n p q B;obtain ⟨o,g,n,p,q,B⟩:=bN d.out.1 d.out.2 h;have H:=ae (fun q0=>(h.dn q0).load (s:=6) (t:=5) (x:=z2) (i:=0) (by rw [HS.out];omega) rfl aq (by omega));clear h;go_wp2;refine bG 12 ?_;simp only [ai,an,aj,ao]
    repeat (go_big_quiet_step (fail))
    refine wpQuiet_nil ?_;rintro Q ⟨q0,rfl⟩;go_wp2_with fail
    refine (H.out q0).mono ?_;rintro e w1 ⟨rfl,h⟩;clear H o g n p q B;rw [q4] at h;obtain ⟨m2,ah,hn⟩:∃m2,m2<m0/\FU b c A T w0 r x D E G I w1 m2:=by
     obtain ⟨_,S,hp,W⟩:=HM.out;unfold Tr.size at W;exact ⟨l2.size,by omega,.Xi y z k f t,l2,z2,n,f2,t2,S,hp,rfl,h⟩
    have HN:=ae hn;have V:=ae (ag HM.out.1 ah);have HN:=ae hn;have V:=ae (ag HM.out.1 ah);clear h hn ah HM HL;go_wp2;go_roundw
    case rel=>exact ⟨_,HN⟩
    case measure=>exact bU (dG HN.out).2 (by first|exact V.out.2|(rw [V.out.1];exact V.out.2))
   |nil=>
    rw [show (Tr.nil).root=0 from rfl] at h;obtain ⟨o,g,n,p,q,B⟩:=bN d.out.1 d.out.2 h;have H:=ae (gF d.out.1 d.out.2 (s:=6) (x:=0) rfl h);clear h;go_wp2_with fail
    refine H.out.mono ?_;rintro e w1 ⟨rfl,h⟩;clear H o g n p q B;obtain ⟨o,g,n,p,q,B⟩:=bN d.out.1 d.out.2 h;have H:=ae (nm d.out.1 d.out.2 (s:=5) (x:=z) rfl N ⟨m1,m2,m3⟩ h);clear h;go_wp2_with fail
    refine H.out.mono ?_;rintro e w1 ⟨rfl,h,_⟩;clear H o g n p q B;rw [m7];have R:=ae (fun w (h:bh b c A [D,E,G,I,x,z,0,(um x y).1] T w0 w)=>bN d.out.1 d.out.2 h);have C:=ae (fun w (h:bh b c A [D,E,G,I,x,z,0,(um x y).1] T w0 w)=>h.getfS (s:=5) (x:=z) (i:=2) rfl N (by omega) (by omega));have J:=ae (show bh b c A [D,E,G,I,x,z,0,(um x y).1] T w0 w1.drew from h.Qa ((GQ _ w1).drew));have K:=ae (fun w (h:bh b c A [D,E,G,I,x,z,0,(um x y).1] T w0 w)=>h);clear h;rw [m6] at C;generalize hZ:bh b c A [D,E,G,I,x,z,0,(um x y).1] T w0=Z at R C J K;have L:=ae hZ;clear hZ;go_wp2;refine cZ 14 (fun a X=>(Z a->Z X)/\a.heap.size<=X.heap.size) [.c xb,.c xb,.c xb,.c b,.c xb,.c xb,.c (.pointer (some ⟨xb,3,none⟩)),.c (5:Int),.c (.tuple #[.float .f64 f,(0:Int)]),.c (.tuple #[.float .f64 f,(0:Int)]),.c (.float .f64 f),.c (0:Int),.c (.float .f64 f),.c (0:Int)] (fun j=>false) (fun _=>⟨fun h=>h,ak _⟩) (fun _ _ _ Y h2=>⟨fun h=>h2.1 (Y.1 h),aZ Y.2 h2.2⟩) (fun _ _ h=>h.2) trivial ?_;intro F hF;simp only [fp,PK.val,ai,an,aa] at hF;subst hF;refine ⟨by
     refine ⟨?_,?_,?_,?_,?_,?_,?_,?_,?_,?_,?_,?_,?_,?_,trivial⟩<;>intro vs w1 M av hd hx
     all_goals try (apply oV;rotate_left;rfl;exact ⟨fun h=>h,ak _⟩;go_simp;done)
     all_goals try (apply oV;rotate_left;rfl;exact ⟨fun h=>h,ak _⟩;obtain ⟨o,g,n,p,q,B⟩:=R.out w1 (M.1 J.out);go_simp;done)
     ·refine bm 45 #[b,(5:Int),(2:Int)] (by go_simp) ((C.out w1 (M.1 J.out)).mono ?_);rintro e w5 ⟨rfl,hz,U⟩;exact ⟨_,rfl,rfl,⟨fun _=>hz,U⟩,fun h=>nomatch h⟩
     ,fun vs w1 M hp hx=> ?_⟩
    simp only [aj,ao];have h:=M.1 J.out;rw [<-L.out] at h;clear R C J K L M hp hx;obtain ⟨o,g,n,p,q,B⟩:=bN d.out.1 d.out.2 h;have H:=ae (fun q0=>(h.dn q0).load (s:=6) (t:=5) (x:=z) (i:=1) (by rw [HS.out];omega) rfl N (by omega));clear h;go_wp2;refine bG 12 ?_;simp only [ai,an,aj,ao]
    repeat (go_big_quiet_step (fail))
    refine wpQuiet_nil ?_;rintro Q ⟨q0,rfl⟩;go_wp2_with fail
    refine (H.out q0).mono ?_;rintro e w1 ⟨rfl,h⟩;clear H o g n p q B;rw [m5] at h;have af:k<18446744073709551616:=by rw [<-m7];exact h.Yq (x:=z) (.root (by simp) N) (by omega) (by omega)
    have ad:f<18446744073709551616:=by rw [<-m6];exact h.Yq (x:=z) (.root (by simp) N) (by omega) (by omega)
    obtain ⟨_,S,hp,_⟩:=HM.out
    cases y with
    |Xn l1 u1 g f1 y=>exact absurd hp (by simp [Cx.pre])
    |top=>
     have HE:=ae (ag S hp);clear S hp;rw [show (um x .top).1=x from rfl] at h;have d1:decide (x=x)=true:=aB rfl;have R:=ae (fun w (h:bh b c A [D,E,G,I,x,z,t.root,x] T w0 w)=>bN d.out.1 d.out.2 h);have C:=ae (fun w (h:bh b c A [D,E,G,I,x,z,t.root,x] T w0 w)=>h.same (s:=7) (t:=4) (x:=x) (y:=x) rfl rfl);have J:=ae (show bh b c A [D,E,G,I,x,z,t.root,x] T w0 w1.drew from h.Qa ((GQ _ w1).drew));have K:=ae (fun w (h:bh b c A [D,E,G,I,x,z,t.root,x] T w0 w)=>h);clear h;rw [d1] at C;generalize hZ:bh b c A [D,E,G,I,x,z,t.root,x] T w0=Z at R C J K;have L:=ae hZ;clear hZ;go_wp2;refine cZ 18 (fun a X=>(Z a->Z X)/\a.heap.size<=X.heap.size) [.c xb,.c xb,.c xb,.c b,.c xb,.c xb,.c (.pointer (some ⟨xb,5,none⟩)),.c (7:Int),.c xb,.c xb,.c (.pointer (some ⟨xb,2,none⟩)),.c (4:Int),.c (.tuple #[.bool true,(0:Int)]),.c (.tuple #[.bool true,(0:Int)]),.c (.bool true),.c (0:Int),.c (.bool true),.c (0:Int)] (fun j=>false) (fun _=>⟨fun h=>h,ak _⟩) (fun _ _ _ Y h2=>⟨fun h=>h2.1 (Y.1 h),aZ Y.2 h2.2⟩) (fun _ _ h=>h.2) trivial ?_;intro F hF;simp only [fp,PK.val,ai,an,aa] at hF;subst hF;refine ⟨by
      refine ⟨?_,?_,?_,?_,?_,?_,?_,?_,?_,?_,?_,?_,?_,?_,?_,?_,?_,?_,trivial⟩<;>intro vs w1 M av hd hx
      all_goals try (apply oV;rotate_left;rfl;exact ⟨fun h=>h,ak _⟩;go_simp;done)
      all_goals try (apply oV;rotate_left;rfl;exact ⟨fun h=>h,ak _⟩;obtain ⟨o,g,n,p,q,B⟩:=R.out w1 (M.1 J.out);go_simp;done)
      ·refine bm 168 #[b,(7:Int),(4:Int)] (by go_simp) ((C.out w1 (M.1 J.out)).mono ?_);rintro e w5 ⟨rfl,hz,U⟩;exact ⟨_,rfl,rfl,⟨fun _=>hz,U⟩,fun h=>nomatch h⟩
      ,fun vs w1 M hp hx=> ?_⟩
     simp only [aj,ao];have h:=M.1 J.out;rw [<-L.out] at h;clear R C J K L M hp hx;clear d1;obtain ⟨o,g,n,p,q,B⟩:=bN d.out.1 d.out.2 h;have H:=ae (fun q0=>(h.dn q0).store (s:=7) (i:=1) (t:=6) (x:=x) (v:=t.root) rfl P (by omega) rfl);clear h;go_wp2;refine bG 13 ?_;simp only [ai,an,aj,ao]
     repeat (go_big_quiet_step (fail))
     refine wpQuiet_nil ?_;rintro Q ⟨q0,rfl⟩;go_wp2_with fail
     refine (H.out q0).mono ?_;rintro e w1 ⟨rfl,h⟩;clear H o g n p q B;obtain ⟨o,g,n,p,q,B⟩:=bN d.out.1 d.out.2 h;have H:=ae (fun q0=>(h.dn q0).set (s:=4) (x:=x) (i:=3) (v:=k) rfl P (show A.np x+A.nf x<=3 by omega) (show 3<A.np x+A.nf x+A.ng x by omega) af);clear h;go_wp2;refine bG 9 ?_;simp only [ai,an,aj,ao]
     repeat (go_big_quiet_step (fail))
     refine wpQuiet_nil ?_;rintro Q ⟨q0,rfl⟩;go_wp2_with fail
     refine (H.out q0).mono ?_;rintro e w1 ⟨rfl,h⟩;clear H o g n p q B;obtain ⟨o,g,n,p,q,B⟩:=bN d.out.1 d.out.2 h;have H:=ae (fun q0=>(h.dn q0).Yk (s:=4) (x:=x) (i:=2) (v:=f) rfl P (show A.np x<=2 by omega) (show 2<A.np x+A.nf x by omega) ad);clear h;go_wp2;refine bG 9 ?_;simp only [ai,an,aj,ao]
     repeat (go_big_quiet_step (fail))
     refine wpQuiet_nil ?_;rintro Q ⟨q0,rfl⟩;go_wp2_with fail
     refine (H.out q0).mono ?_;rintro e w1 ⟨rfl,h⟩;clear H o g n p q B;have HR:=ae h;clear h;go_wp2;go_end0;have O:=al.out;subst O;exact ⟨.top,z,k,f,t,HE.out.1,HE.out.2,rfl,HR.out⟩
    |Xi y u g f1 t1=>
     obtain ⟨⟨ax,⟨u1,u2,u3⟩,_⟩,_⟩:=HL.out.1;have ay:u≠x:=fun e=>HT.out.2.2.2.2.1 (by rw [<-e,S];rw [Cx.Qf,du];simp [co,Tr.all])
     have HE:=ae (ag S hp);clear S hp;rw [show (um x (.Xi y u g f1 t1)).1=u from rfl] at h;have d1:decide (u=x)=false:=ar ay;have R:=ae (fun w (h:bh b c A [D,E,G,I,x,z,t.root,u] T w0 w)=>bN d.out.1 d.out.2 h);have C:=ae (fun w (h:bh b c A [D,E,G,I,x,z,t.root,u] T w0 w)=>h.same (s:=7) (t:=4) (x:=u) (y:=x) rfl rfl);have J:=ae (show bh b c A [D,E,G,I,x,z,t.root,u] T w0 w1.drew from h.Qa ((GQ _ w1).drew));have K:=ae (fun w (h:bh b c A [D,E,G,I,x,z,t.root,u] T w0 w)=>h);clear h;rw [d1] at C;generalize hZ:bh b c A [D,E,G,I,x,z,t.root,u] T w0=Z at R C J K;have L:=ae hZ;clear hZ;go_wp2;refine cZ 18 (fun a X=>(Z a->Z X)/\a.heap.size<=X.heap.size) [.c xb,.c xb,.c xb,.c b,.c xb,.c xb,.c (.pointer (some ⟨xb,5,none⟩)),.c (7:Int),.c xb,.c xb,.c (.pointer (some ⟨xb,2,none⟩)),.c (4:Int),.c (.tuple #[.bool false,(0:Int)]),.c (.tuple #[.bool false,(0:Int)]),.c (.bool false),.c (0:Int),.c (.bool false),.c (0:Int)] (fun j=>false) (fun _=>⟨fun h=>h,ak _⟩) (fun _ _ _ Y h2=>⟨fun h=>h2.1 (Y.1 h),aZ Y.2 h2.2⟩) (fun _ _ h=>h.2) trivial ?_;intro F hF;simp only [fp,PK.val,ai,an,aa] at hF;subst hF;refine ⟨by
      refine ⟨?_,?_,?_,?_,?_,?_,?_,?_,?_,?_,?_,?_,?_,?_,?_,?_,?_,?_,trivial⟩<;>intro vs w1 M av hd hx
      all_goals try (apply oV;rotate_left;rfl;exact ⟨fun h=>h,ak _⟩;go_simp;done)
      all_goals try (apply oV;rotate_left;rfl;exact ⟨fun h=>h,ak _⟩;obtain ⟨o,g,n,p,q,B⟩:=R.out w1 (M.1 J.out);go_simp;done)
      ·refine bm 168 #[b,(7:Int),(4:Int)] (by go_simp) ((C.out w1 (M.1 J.out)).mono ?_);rintro e w5 ⟨rfl,hz,U⟩;exact ⟨_,rfl,rfl,⟨fun _=>hz,U⟩,fun h=>nomatch h⟩
      ,fun vs w1 M hp hx=> ?_⟩
     simp only [aj,ao];have h:=M.1 J.out;rw [<-L.out] at h;clear R C J K L M hp hx;clear d1;obtain ⟨o,g,n,p,q,B⟩:=bN d.out.1 d.out.2 h;have H:=ae (fun q0=>(h.dn q0).store (s:=7) (i:=0) (t:=6) (x:=u) (v:=t.root) rfl ax (by omega) rfl);clear h;go_wp2;refine bG 13 ?_;simp only [ai,an,aj,ao]
     repeat (go_big_quiet_step (fail))
     refine wpQuiet_nil ?_;rintro Q ⟨q0,rfl⟩;go_wp2_with fail
     refine (H.out q0).mono ?_;rintro e w1 ⟨rfl,h⟩;clear H o g n p q B;obtain ⟨o,g,n,p,q,B⟩:=bN d.out.1 d.out.2 h;have H:=ae (fun q0=>(h.dn q0).set (s:=4) (x:=x) (i:=3) (v:=k) rfl P (show A.np x+A.nf x<=3 by omega) (show 3<A.np x+A.nf x+A.ng x by omega) af);clear h;go_wp2;refine bG 9 ?_;simp only [ai,an,aj,ao]
     repeat (go_big_quiet_step (fail))
     refine wpQuiet_nil ?_;rintro Q ⟨q0,rfl⟩;go_wp2_with fail
     refine (H.out q0).mono ?_;rintro e w1 ⟨rfl,h⟩;clear H o g n p q B;obtain ⟨o,g,n,p,q,B⟩:=bN d.out.1 d.out.2 h;have H:=ae (fun q0=>(h.dn q0).Yk (s:=4) (x:=x) (i:=2) (v:=f) rfl P (show A.np x<=2 by omega) (show 2<A.np x+A.nf x by omega) ad);clear h;go_wp2;refine bG 9 ?_;simp only [ai,an,aj,ao]
     repeat (go_big_quiet_step (fail))
     refine wpQuiet_nil ?_;rintro Q ⟨q0,rfl⟩;go_wp2_with fail
     refine (H.out q0).mono ?_;rintro e w1 ⟨rfl,h⟩;clear H o g n p q B;have HR:=ae h;clear h;go_wp2;go_end0;have O:=al.out;subst O;exact ⟨.Xi y u g f1 t1,z,k,f,t,HE.out.1,HE.out.2,rfl,HR.out⟩
end
section
variable{b xb:Nat}{c:Cf}{A A':AG}{rs rs' l:List Nat}{T:Nat->Prop}{w0 w w':World}{s t x i v k f key:Nat}
theorem kl.cx{ls:List (Nat×Nat×Nat)}{y:Cx}{n k f:Nat}(h:kl A ls (y.Qf .nil))(d:n∉co (ls++(y.Qf .nil).all)):jS (A.node n k f) y 0:=by
 obtain ⟨j,g,_,m⟩:=h.at;rw [du] at d;exact g.Xj (A':=A.node n k f) (fun z a=>qA (fun e=>d (bu.2 ⟨z,by simp [Tr.all] at a ⊢;rcases a with a|a<;>simp [a],e⟩)))
theorem ED:∀{y:Cx} {t:Tr},y.up=0\/y.up∈co (y.Qf t).all
 | .top,_=> .inl rfl
 | .Xi y x k f r,t=> .inr (by rw [Cx.Qf,du];simp [co,Tr.all,Cx.up])
 | .Xn l x k f y,t=> .inr (by rw [Cx.Qf,du];simp [co,Tr.all,Cx.up])
def Gp(b:Nat)(c:Cf)(A:AG)(T:Nat->Prop)(w0:World)(ls:List (Nat×Nat×Nat))(tr:Tr)(n key f:Nat)(e:Ending)(w':World):Prop:=∃y,
 (∃l x g r,tr=Cx.Qf y (.node l x key g r)/\e= .returned (0:Int)/\bh b c (A.put x 2 f) [cR ls,0,0,tr.root,0,0,0,0] T w0 w')\/
 (tr=y.Qf .nil/\yC key y/\A.Wd (co (ls++tr.all))+(1+(2+1+1))<=c.Wd/\e= .returned (0:Int)/\bh b c (y.Qy (A.node n key f) n) [cR ls,0,0,(y.Qf (.node .nil n key f .nil)).root,0,0,0,0] T w0 w')\/
 (tr=y.Qf .nil/\yC key y/\c.Wd<A.Wd (co (ls++tr.all))+(1+(2+1+1))/\e= .returned (21:Int)/\bh b c A [cR ls,0,0,tr.root,0,0,0,0] T w0 w')
theorem Dd(Q:aJ w0 xb (ot b) 158)(V:¬T xb){ls:List (Nat×Nat×Nat)}{tr:Tr}(R:kl A ls tr)(S:c.Sl=8)(h:bh b c A [cR ls,0,0,tr.root,0,0,0,0] T w0 w)(G:key<18446744073709551616)(hf:f<18446744073709551616):Calls prog 35 #[xb,.int .u64 key,.float .f64 f] w fun e w'=>Gp b c A T w0 ls tr ((co (ls++tr.all)).sum+1) key f e w':=by
 have a:=ae (ag Q V);have E:=ae S;have M:=ae R;obtain ⟨n,I⟩:∃n,n=(co (ls++tr.all)).sum+1:=⟨_,rfl⟩;have F:Hid (n≠0/\n∉co (ls++tr.all)):=ae ⟨by omega,fun hm=>by have:=nE hm;omega⟩;rw [<-I];clear Q V S R I;obtain ⟨q1,q2,q3,_⟩:=AG.Xb A n 2 1 1
 go_enter_defers func35,ntmps35
 have H:=ae (la a.out.1 a.out.2 h);go_wp2_with fail
 refine H.out.mono ?_;rintro e w1 ⟨rfl,rfl⟩;clear H;have H:=ae (qh (key:=key) a.out.1 a.out.2 E.out M.out.ht h);clear h;go_wp2_with fail
 refine H.out.mono ?_;rintro e w1 ⟨y,s,D,U,rfl,hs,h⟩;clear H;have O:=ae U;clear U;rcases hs with rfl|⟨l,x,g,r,rfl⟩
 rotate_left
 ·have hN:iy A x l.root r.root key g:=((iM y (.node l x key g r)).1 (D▸M.out.ht)).2.1;obtain ⟨K,⟨n1,n2,n3⟩,_⟩:=hN;have d0:decide (x=0)=false:=ar K;rw [show (Tr.node l x key g r).root=x from rfl] at h ⊢;rw [d0];obtain ⟨j,m,o,u,B,C⟩:=bN a.out.1 a.out.2 h;have H:=ae (fun q0=>(h.dn q0).Yk (s:=4) (x:=x) (i:=2) (v:=f) rfl K (by omega) (by omega) hf);clear h;go_wp2;refine bG 9 ?_;simp only [ai,an,aj,ao]
  repeat (go_big_quiet_step (fail))
  refine wpQuiet_nil ?_;rintro N ⟨q0,rfl⟩;go_wp2_with fail
  refine (H.out q0).mono ?_;rintro e w1 ⟨rfl,h⟩;clear H j m o u B C;have d:=ae (fT a.out.1 a.out.2 E.out h);clear h;go_wp2;refine leaves_cons (f:=91) (args:= #[xb]) (by simp) (by simp [go_sem]) ?_;refine ((d.out).Qw .returning).mono ?_;rintro e X L ⟨rfl,rfl,J⟩;exact ⟨_,results_tmp rfl _ _ _,y,.inl ⟨l,x,g,r,D,rfl,J⟩⟩
 rw [show (Tr.nil).root=0 from rfl] at h ⊢;have Y:Hid (dE A [cR ls,0,0,tr.root,0,y.up,0,0] (co (ls++tr.all))):=ae (M.out.Xh (by simp) (by simp) (fun z W=>by
  simp only [bM,bq,fD] at W;have h1:cR ls=0\/cR ls∈co ls:=by cases ls with|nil=>exact .inl rfl|cons q l=>exact .inr (by simp [co,cR])
  have h2:y.up=0\/y.up∈co tr.all:=by rw [D];exact ED
  have h3:= @jI tr;rw [mj,bB];rcases W with rfl|rfl|rfl|rfl|rfl|rfl|rfl|rfl
  ·exact h1.imp id .inl
  ·exact .inl rfl
  ·exact .inl rfl
  ·exact h3.imp id .inr
  ·exact .inl rfl
  ·exact h2.imp id .inr
  ·exact .inl rfl
  ·exact .inl rfl))
 obtain ⟨j,m,o,u,B,C⟩:=bN a.out.1 a.out.2 h;have H:=ae (fun q0=>(h.dn q0).alloc (s:=4) (k:=n) (p:=2) (f:=1) (g:=1) Y.out (by rw [E.out];omega) (by unfold eO;omega) F.out.1 F.out.2);clear h;unfold gD at H;rw [show ((1:Nat):Int)=1 from rfl,show ((2:Nat):Int)=2 from rfl] at H;go_wp2;refine bG 9 ?_;simp only [ai,an,aj,ao]
 repeat (go_big_quiet_step (fail))
 refine wpQuiet_nil ?_;rintro N ⟨q0,rfl⟩;go_wp2_with fail
 refine (H.out q0).mono ?_;rintro e w1 (⟨P,rfl,h⟩|⟨P,rfl,h⟩)
 all_goals clear H j m o u B C
 rotate_left
 ·skip
  have d:=ae (fT a.out.1 a.out.2 E.out h);clear h;go_wp2;refine leaves_cons (f:=91) (args:= #[xb]) (by simp) (by simp [go_sem]) ?_;refine ((d.out).Qw .returning).mono ?_;rintro e X L ⟨rfl,rfl,J⟩;exact ⟨_,results_tmp rfl _ _ _,y,.inr (.inr ⟨D,O.out,P,rfl,J⟩)⟩
 obtain ⟨j,m,o,u,B,C⟩:=bN a.out.1 a.out.2 h;have H:=ae (fun q0=>(h.dn q0).set (s:=4) (x:=n) (i:=3) (v:=key) rfl F.out.1 (by omega) (by omega) G);clear h;go_wp2;refine bG 9 ?_;simp only [ai,an,aj,ao]
 repeat (go_big_quiet_step (fail))
 refine wpQuiet_nil ?_;rintro N ⟨q0,rfl⟩;go_wp2_with fail
 refine (H.out q0).mono ?_;rintro e w1 ⟨rfl,h⟩;clear H j m o u B C;obtain ⟨j,m,o,u,B,C⟩:=bN a.out.1 a.out.2 h;have H:=ae (fun q0=>(h.dn q0).Yk (s:=4) (x:=n) (i:=2) (v:=f) rfl F.out.1 (show (A.new n 2 1 1).np n<=2 by omega) (show 2<(A.new n 2 1 1).np n+(A.new n 2 1 1).nf n by omega) hf);clear h;go_wp2;refine bG 9 ?_;simp only [ai,an,aj,ao]
 repeat (go_big_quiet_step (fail))
 refine wpQuiet_nil ?_;rintro N ⟨q0,rfl⟩;go_wp2_with fail
 refine (H.out q0).mono ?_;rintro e w1 ⟨rfl,h⟩;clear H j m o u B C;have e2:tr.root=y.root 0:=by rw [D,fC];rfl
 have Z:Hid (jS (A.node n key f) y 0):=ae (kl.cx (D▸M.out) (D▸F.out.2));have h:bh b c (A.node n key f) [cR ls,0,0,y.root 0,n,y.up,0,0] T w0 w1:=by rw [<-e2];exact h
 obtain ⟨j,m,o,u,B,C⟩:=bN a.out.1 a.out.2 h;have H:=ae (fun q0=>ox a.out.1 a.out.2 (s:=4) (v:=n) rfl (by omega) Z.out O.out E.out (h.dn q0));clear h;go_wp2;refine bG 10 ?_;simp only [ai,an,aj,ao]
 repeat (go_big_quiet_step (fail))
 refine wpQuiet_nil ?_;rintro N ⟨q0,rfl⟩;go_wp2_with fail
 refine (H.out q0).mono ?_;rintro e w1 ⟨rfl,h⟩;clear H j m o u B C;rw [show y.root n=(y.Qf (.node .nil n key f .nil)).root from (fC y (.node .nil n key f .nil)).symm] at h;have d:=ae (fT a.out.1 a.out.2 E.out h);clear h;go_wp2;refine leaves_cons (f:=91) (args:= #[xb]) (by simp) (by simp [go_sem]) ?_;refine ((d.out).Qw .returning).mono ?_;rintro e X L ⟨rfl,rfl,J⟩;exact ⟨_,results_tmp rfl _ _ _,y,.inr (.inl ⟨D,O.out,P,rfl,J⟩)⟩
def Gs(b:Nat)(c:Cf)(A:AG)(T:Nat->Prop)(w0:World)(ls:List (Nat×Nat×Nat))(tr:Tr)(key:Nat)(e:Ending)(w':World):Prop:=∃y,
 ((∃l x g r,tr=Cx.Qf y (.node l x key g r)/\e= .returned (.tuple #[.float .f64 g,(0:Int)]))\/(tr=y.Qf .nil/\yC key y/\e= .returned (.tuple #[.float .f64 0,(6:Int)])))/\bh b c A [cR ls,0,0,tr.root,0,0,0,0] T w0 w'
theorem Dg(O:aJ w0 xb (ot b) 158)(U:¬T xb){ls:List (Nat×Nat×Nat)}{tr:Tr}(Q:kl A ls tr)(S:c.Sl=8)(h:bh b c A [cR ls,0,0,tr.root,0,0,0,0] T w0 w):Calls prog 42 #[xb,.int .u64 key] w fun e w'=>Gs b c A T w0 ls tr key e w':=by
 have d:=ae (ag O U);have C:=ae S;have K:=ae Q;clear O U S Q
 go_enter_defers func42,ntmps42
 have H:=ae (la d.out.1 d.out.2 h);go_wp2_with fail
 refine H.out.mono ?_;rintro e w1 ⟨rfl,rfl⟩;clear H;have H:=ae (qh (key:=key) d.out.1 d.out.2 C.out K.out.ht h);clear h;go_wp2_with fail
 refine H.out.mono ?_;rintro e w1 ⟨y,s,D,E,rfl,hs,h⟩;clear H;have W:=ae E;clear E;rcases hs with rfl|⟨l,x,g,r,rfl⟩
 ·rw [show (Tr.nil).root=0 from rfl] at h ⊢;have n:=ae (fT d.out.1 d.out.2 C.out h);clear h;go_wp2;refine leaves_cons (f:=91) (args:= #[xb]) (by simp) (by simp [go_sem]) ?_;refine ((n.out).Qw .returning).mono ?_;rintro e u' J ⟨rfl,rfl,G⟩;exact ⟨_,results_tmp2 rfl _ _ _,y,.inr ⟨D,W.out,rfl⟩,G⟩
 have Y:iy A x l.root r.root key g:=((iM y (.node l x key g r)).1 (D▸K.out.ht)).2.1;obtain ⟨z,⟨n1,n2,n3⟩,_,_,n6,_⟩:=Y;have X:decide (x=0)=false:=ar z;rw [show (Tr.node l x key g r).root=x from rfl] at h ⊢;rw [X];have B:=ae (fun w (h:bh b c A [cR ls,0,0,tr.root,x,y.up,0,0] T w0 w)=>bN d.out.1 d.out.2 h);have m:=ae (fun w (h:bh b c A [cR ls,0,0,tr.root,x,y.up,0,0] T w0 w)=>h.getfS (s:=4) (x:=x) (i:=2) rfl z (by omega) (by omega));have o:=ae (show bh b c A [cR ls,0,0,tr.root,x,y.up,0,0] T w0 w1.drew from h.Qa ((GQ _ w1).drew));have p:=ae (fun w (h:bh b c A [cR ls,0,0,tr.root,x,y.up,0,0] T w0 w)=>h);clear h;rw [n6] at m;generalize R:bh b c A [cR ls,0,0,tr.root,x,y.up,0,0] T w0=Z at B m o p;have q:=ae R;clear R;go_wp2;refine cZ 13 (fun a L=>(Z a->Z L)/\a.heap.size<=L.heap.size) [.c xb,.c xb,.c xb,.c b,.c xb,.c xb,.c (.pointer (some ⟨xb,2,none⟩)),.c (4:Int),.c (.tuple #[.float .f64 g,(0:Int)]),.c (.float .f64 g),.c (0:Int),.c (.float .f64 g),.c (0:Int)] (fun j=>false) (fun _=>⟨fun h=>h,ak _⟩) (fun _ _ _ M N=>⟨fun h=>N.1 (M.1 h),aZ M.2 N.2⟩) (fun _ _ h=>h.2) trivial ?_;intro F P;simp only [fp,PK.val,ai,an,aa] at P;subst P;refine ⟨by
  refine ⟨?_,?_,?_,?_,?_,?_,?_,?_,?_,?_,?_,?_,?_,trivial⟩<;>intro vs w1 u ad E V
  all_goals try (apply oV;rotate_left;rfl;exact ⟨fun h=>h,ak _⟩;go_simp;done)
  all_goals try (apply oV;rotate_left;rfl;exact ⟨fun h=>h,ak _⟩;obtain ⟨k0,k1,k2,k3,k4,k5⟩:=B.out w1 (u.1 o.out);go_simp;done)
  ·refine bm 45 #[b,(4:Int),(2:Int)] (by go_simp) ((m.out w1 (u.1 o.out)).mono ?_);rintro e w5 ⟨rfl,hz,I⟩;exact ⟨_,rfl,rfl,⟨fun _=>hz,I⟩,fun h=>nomatch h⟩
  ,fun vs w1 u hp V=> ?_⟩
 simp only [aj,ao];have h:=u.1 o.out;rw [<-q.out] at h;clear B m o p q u hp V;have n:=ae (fT d.out.1 d.out.2 C.out h);clear h;go_wp2;refine leaves_cons (f:=91) (args:= #[xb]) (by simp) (by simp [go_sem]) ?_;refine ((n.out).Qw .returning).mono ?_;rintro e u' J ⟨rfl,rfl,G⟩;exact ⟨_,results_tmp2 rfl _ _ _,y,.inl ⟨l,x,g,r,D,rfl⟩,G⟩
def Gu(b:Nat)(c:Cf)(A:AG)(T:Nat->Prop)(w0:World)(ls:List (Nat×Nat×Nat))(tr:Tr)(key:Nat)(e:Ending)(w':World):Prop:=∃y,
 (tr=Cx.Qf y .nil/\yC key y/\e= .returned (6:Int)/\bh b c A [cR ls,0,0,tr.root,0,0,0,0] T w0 w')\/
 ∃l x g r,tr=y.Qf (.node l x key g r)/\e= .returned (0:Int)/\
  ((l= .nil/\bh b c (y.Qy A r.root) [cR ls,0,0,y.root r.root,0,0,0,0] T w0 w')\/
   (r= .nil/\bh b c (y.Qy A l.root) [cR ls,0,0,y.root l.root,0,0,0,0] T w0 w')\/
   ∃z q k f t,r=Cx.Qf z (.node .nil q k f t)/\z.pre=[]/\bh b c (((A.put (um x z).1 (um x z).2 t.root).put x 3 k).put x 2 f) [cR ls,0,0,tr.root,0,0,0,0] T w0 w')
theorem ua{t:Tr}(h:gl A t)(a:t.root=0):t= .nil:=by
 cases t with
 |nil=>rfl
 |node l x k f r=>exact absurd a h.1.1
theorem AN(W:aJ w0 xb (ot b) 158)(hn:¬T xb){ls:List (Nat×Nat×Nat)}{tr:Tr}(X:kl A ls tr)(Z:c.Sl=8)(h:bh b c A [cR ls,0,0,tr.root,0,0,0,0] T w0 w):Calls prog 37 #[xb,.int .u64 key] w fun e w'=>Gu b c A T w0 ls tr key e w':=by
 have d:=ae (ag W hn);have n:=ae Z;have Q:=ae X;clear W hn Z X
 go_enter_defers func37,ntmps37
 have H:=ae (la d.out.1 d.out.2 h);go_wp2_with fail
 refine H.out.mono ?_;rintro e w1 ⟨rfl,rfl⟩;clear H;have H:=ae (qh (key:=key) d.out.1 d.out.2 n.out Q.out.ht h);clear h;go_wp2_with fail
 refine H.out.mono ?_;rintro e w1 ⟨y,s,p,hd,rfl,hs,h⟩;clear H;have P:=ae hd;clear hd;rcases hs with rfl|⟨l,x,g,r,rfl⟩
 ·rw [show (Tr.nil).root=0 from rfl] at h ⊢;have j:=ae (fT d.out.1 d.out.2 n.out h);clear h;go_wp2;refine leaves_cons (f:=91) (args:= #[xb]) (by simp) (by simp [go_sem]) ?_;refine ((j.out).Qw .returning).mono ?_;rintro e V B ⟨rfl,rfl,u⟩;exact ⟨_,results_tmp rfl _ _ _,y,.inl ⟨p,P.out,rfl,u⟩⟩
 obtain ⟨Y,⟨m,M,N,O,n6,n7⟩,hl,hr⟩:=(iM y (.node l x key g r)).1 (p▸Q.out.ht);have C:=ae (ag Y (ag hl hr));clear Y hl hr;have d0:decide (x=0)=false:=ar m;have e2:tr.root=y.root x:=by rw [p,fC];rfl
 rw [show (Tr.node l x key g r).root=x from rfl] at h ⊢;rw [d0];obtain ⟨E,F,G,I,J,K⟩:=bN d.out.1 d.out.2 h;have H:=ae (AP d.out.1 d.out.2 m M n.out h);clear h;go_wp2_with fail
 refine H.out.mono ?_;rintro e w1 ⟨rfl,h⟩;clear H E F G I J K;rw [O] at h;rw [N,O];by_cases o:l.root=0\/r.root=0
 ·have D:(!decide (l.root=0)&& !decide (r.root=0))=false:=by rcases o with o|o<;>simp [o]
  rw [D];rw [e2] at h;clear D;by_cases L:l.root=0
  ·have R:=ua C.out.2.1 L;obtain ⟨E,F,G,I,J,K⟩:=bN d.out.1 d.out.2 h;have H:=ae (fun q0=>yO d.out.1 d.out.2 (y:=y) (z:=x) (key:=key) (by rw [N];exact L) m M C.out.1 P.out n.out (h.dn q0));clear h;go_wp2;refine bG 10 ?_;simp only [ai,an,aj,ao]
   repeat (go_big_quiet_step (fail))
   refine wpQuiet_nil ?_;rintro w9 ⟨q0,rfl⟩;go_wp2_with fail
   refine (H.out q0).mono ?_;rintro e w1 ⟨rfl,h⟩;clear H E F G I J K;rw [O] at h;have j:=ae (fT d.out.1 d.out.2 n.out h);clear h;go_wp2;refine leaves_cons (f:=91) (args:= #[xb]) (by simp) (by simp [go_sem]) ?_;refine ((j.out).Qw .returning).mono ?_;rintro e V B ⟨rfl,rfl,u⟩;exact ⟨_,results_tmp rfl _ _ _,y,.inr ⟨l,x,g,r,p,rfl,.inl ⟨R,u⟩⟩⟩
  ·have U:=ua C.out.2.2 (o.resolve_left L);obtain ⟨E,F,G,I,J,K⟩:=bN d.out.1 d.out.2 h;have H:=ae (fun q0=>yP d.out.1 d.out.2 (y:=y) (z:=x) (key:=key) (by rw [N];exact L) m M C.out.1 P.out n.out (h.dn q0));clear h;go_wp2;refine bG 10 ?_;simp only [ai,an,aj,ao]
   repeat (go_big_quiet_step (fail))
   refine wpQuiet_nil ?_;rintro w9 ⟨q0,rfl⟩;go_wp2_with fail
   refine (H.out q0).mono ?_;rintro e w1 ⟨rfl,h⟩;clear H E F G I J K;rw [N] at h;have j:=ae (fT d.out.1 d.out.2 n.out h);clear h;go_wp2;refine leaves_cons (f:=91) (args:= #[xb]) (by simp) (by simp [go_sem]) ?_;refine ((j.out).Qw .returning).mono ?_;rintro e V B ⟨rfl,rfl,u⟩;exact ⟨_,results_tmp rfl _ _ _,y,.inr ⟨l,x,g,r,p,rfl,.inr (.inl ⟨U,u⟩)⟩⟩
 ·have D:(!decide (l.root=0)&& !decide (r.root=0))=true:=by
   have h1:¬l.root=0:=fun e=>o (.inl e)
   have h2:¬r.root=0:=fun e=>o (.inr e)
   simp [h1,h2]
  rw [D];clear D;have S:x∉co r.all:=by
   obtain ⟨_,_,_,h6⟩:=(p▸Q.out:kl A ls (y.Qf (.node l x key g r))).at;have:=gW (a:=ls++(y.pre++l.all)) (b:=r.all++y.post) (x:=(x,key,g)) (by simpa [Tr.all] using h6);exact fun hm=>this (by simp [co] at hm ⊢;exact .inr (.inr (.inr (.inl hm))))
  have H:=ae (AK d.out.1 d.out.2 C.out.2.2 (fun e=>o (.inr (by rw [e];rfl))) O S m M n.out h);clear h;go_wp2_with fail
  refine H.out.mono ?_;rintro e w1 ⟨z,q,k,f,t,er,hp,rfl,h⟩;clear H;have j:=ae (fT d.out.1 d.out.2 n.out h);clear h;go_wp2;refine leaves_cons (f:=91) (args:= #[xb]) (by simp) (by simp [go_sem]) ?_;refine ((j.out).Qw .returning).mono ?_;rintro e V B ⟨rfl,rfl,u⟩;exact ⟨_,results_tmp rfl _ _ _,y,.inr ⟨l,x,g,r,p,rfl,.inr (.inr ⟨z,q,k,f,t,er,hp,u⟩)⟩⟩
end
section
variable{b xb:Nat}{c:Cf}{A A':AG}{rs rs' l:List Nat}{T:Nat->Prop}{w0 w w':World}{s t x i v k f key:Nat}
def El(key:Nat):Cx->Prop
 | .top=>True
 | .Xi c _ k _ _=>key<=k/\El key c
 | .Xn _ _ k _ c=>k<key/\El key c
theorem mW:∀(c:Cx) (t:Tr),pX (c.Qf t).all->El key c->(∀y∈c.pre,y.2.1<key)/\∀y∈c.post,key<=y.2.1
 | .top,_,_,_=>⟨fun y d=>(by cases d),fun y d=>(by cases d)⟩
 | .Xi c x k f r,t,ho,hd=>by
  have e:=mW c (.node t x k f r) ho hd.2;refine ⟨e.1,fun y d=> ?_⟩;rcases bB.1 d with d|d
  ·rcases bM.1 d with rfl|d
   ·exact hd.1
   ·rw [Cx.Qf,du,Tr.all] at ho;have g:=(pX.parts (a:=c.pre++t.all) (y:=(x,k,f)) (b:=r.all++c.post) (by simpa using ho)).2.1 y (by simp [d]);have:=hd.1;show key<=y.2.1
    have h:k<y.2.1:=g;omega
  ·exact e.2 y d
 | .Xn l x k f c,t,ho,hd=>by
  have e:=mW c (.node l x k f t) ho hd.2;refine ⟨fun y d=> ?_,e.2⟩;rcases bB.1 d with d|d
  ·exact e.1 y d
  ·rcases bB.1 d with d|d
   ·rw [Cx.Qf,du,Tr.all] at ho;have g:=(pX.parts (a:=c.pre++l.all) (y:=(x,k,f)) (b:=t.all++c.post) (by simpa using ho)).1 y (by simp [d]);have:=hd.1;have h:y.2.1<k:=g;omega
   ·rw [bP.1 d];exact hd.1
theorem gl.mem:∀{t:Tr},gl A t->∀z∈t.all,∃a b,iy A z.1 a b z.2.1 z.2.2
 | .node l x k f r,⟨h1,h2,h3⟩,z,d=>by
  rcases bB.1 d with d|d
  ·exact gl.mem h2 z d
  ·rcases bM.1 d with rfl|d
   ·exact ⟨_,_,h1⟩
   ·exact gl.mem h3 z d
def Fv(b:Nat)(c:Cf)(A:AG)(T:Nat->Prop)(w0:World)(r0:Nat)(tr:Tr)(key:Nat)(wr:World)(m:Nat):Prop:=∃y s,tr=Cx.Qf y s/\El key y/\s.size=m/\bh b c A [r0,0,0,tr.root,s.root,0,0,cR y.post] T w0 wr
def Gm(b:Nat)(c:Cf)(A:AG)(T:Nat->Prop)(w0:World)(r0:Nat)(tr:Tr)(key:Nat)(e:Ending)(w':World):Prop:=∃a d,tr.all=a++d/\(∀z∈a,z.2.1<key)/\(∀z∈d,key<=z.2.1)/\
 ((d=[]/\e= .returned (.tuple #[.int .u64 0,.float .f64 0,(6:Int)]))\/∃x k f d',d=(x,k,f)::d'/\k<18446744073709551616/\e= .returned (.tuple #[.int .u64 k,.float .f64 f,(0:Int)]))/\bh b c A [r0,0,0,tr.root,0,0,0,0] T w0 w'
theorem AM(hB:aJ w0 xb (ot b) 158)(M:¬T xb){G:Nat}{tr:Tr}(hT:gl A tr)(ho:pX tr.all)(hc:c.Sl=8)(h:bh b c A [G,0,0,tr.root,0,0,0,0] T w0 w):Calls prog 105 #[xb,.int .u64 key] w fun e w'=>Gm b c A T w0 G tr key e w':=by
 have g:=ae (ag hB M);have O:=ae hc;have HT:=ae (ag hT ho);clear hB M hc hT ho
 go_enter_defers func105,ntmps105
 have H:=ae (la g.out.1 g.out.2 h);go_wp2_with fail
 refine H.out.mono ?_;rintro e w1 ⟨rfl,rfl⟩;clear H;obtain ⟨n,o,p,q,u,B⟩:=bN g.out.1 g.out.2 h;have H:=ae (fun q0=>(h.dn q0).clear (s:=7) (by rw [O.out];omega));clear h;go_wp2;refine bG 8 ?_;simp only [ai,an,aj,ao]
 repeat (go_big_quiet_step (fail))
 refine wpQuiet_nil ?_;rintro w9 ⟨q0,rfl⟩;go_wp2_with fail
 refine (H.out q0).mono ?_;rintro e w1 ⟨rfl,h⟩;clear H n o p q u B;obtain ⟨n,o,p,q,u,B⟩:=bN g.out.1 g.out.2 h;have H:=ae (fun q0=>(h.dn q0).copy (s:=4) (t:=3) (v:=tr.root) (by rw [O.out];omega) rfl);clear h;go_wp2;refine bG 12 ?_;simp only [ai,an,aj,ao]
 repeat (go_big_quiet_step (fail))
 refine wpQuiet_nil ?_;rintro w9 ⟨q0,rfl⟩;go_wp2_with fail
 refine (H.out q0).mono ?_;rintro e w1 ⟨rfl,h⟩;clear H n o p q u B;have H0:=ae (show Fv b c A T w0 G tr key w1 tr.size from ⟨.top,tr,rfl,trivial,rfl,h⟩);clear h;go_wp2
 go_loopw [] (fun wr=>∃m,Hid (Fv b c A T w0 G tr key wr m)) (fun wr=>gu (Fv b c A T w0 G tr key wr))
 case atStart=>exact ⟨_,H0⟩
 case round=>
  clear H0;obtain ⟨m,hm⟩:=hrel;obtain ⟨hr,_⟩:=dG hm.out;clear hm;generalize af:gu (Fv b c A T w0 G tr key _)=m0 at hr;obtain ⟨y,s,J,S,E,h⟩:=hr;have L:=ae (ag af (ag J (ag S E)));clear af J S E
  cases s with
  |node l x k f r=>
   have hN:iy A x l.root r.root k f:=((iM y (.node l x k f r)).1 (L.out.2.1▸HT.out.1)).2.1;obtain ⟨C,hN,n4,n5,_,n7⟩:=hN;rw [show (Tr.node l x k f r).root=x from rfl] at h;have d0:decide (x=0)=false:=ar C;obtain ⟨n,o,p,q,u,B⟩:=bN g.out.1 g.out.2 h;have H:=ae (gF g.out.1 g.out.2 (s:=4) (x:=x) rfl h);clear h;go_wp2_with fail
   refine H.out.mono ?_;rintro e w1 ⟨rfl,h⟩;clear H n o p q u B;obtain ⟨n,o,p,q,u,B⟩:=bN g.out.1 g.out.2 h;have H:=ae (nm g.out.1 g.out.2 (s:=4) (x:=x) rfl C hN h);clear h;go_wp2_with fail
   refine H.out.mono ?_;rintro e w1 ⟨rfl,h,_⟩;clear H n o p q u B;rw [n7];by_cases ah:k<key
   ·have c1:(k:Int)<(key:Int):=by omega
    obtain ⟨n,o,p,q,u,B⟩:=bN g.out.1 g.out.2 h;have H:=ae (fun q0=>(h.dn q0).load (s:=4) (t:=4) (x:=x) (i:=1) (by rw [O.out];omega) rfl C (by omega));clear h;go_wp2;refine bG 12 ?_;simp only [ai,an,aj,ao]
    repeat (go_big_quiet_step (fail))
    refine wpQuiet_nil ?_;rintro w9 ⟨q0,rfl⟩;go_wp2_with fail
    refine (H.out q0).mono ?_;rintro e w1 ⟨rfl,h⟩;clear H n o p q u B;rw [n5] at h;obtain ⟨Q,I,M⟩:∃Q,Q<m0/\Fv b c A T w0 G tr key w1 Q:=by
     obtain ⟨_,J,hp,E⟩:=L.out;unfold Tr.size at E;exact ⟨r.size,by omega,.Xn l x k f y,r,J,⟨ah,hp⟩,rfl,h⟩
    have U:=ae M;have D:=ae (ag L.out.1 I);clear h M I L;go_wp2;go_roundw
    case rel=>exact ⟨_,U⟩
    case measure=>exact bU (dG U.out).2 (by first|exact D.out.2|(rw [D.out.1];exact D.out.2))
   ·have c1:¬(k:Int)<(key:Int):=by omega
    obtain ⟨n,o,p,q,u,B⟩:=bN g.out.1 g.out.2 h;have H:=ae (fun q0=>(h.dn q0).copy (s:=7) (t:=4) (v:=x) (by rw [O.out];omega) rfl);clear h;go_wp2;refine bG 12 ?_;simp only [ai,an,aj,ao]
    repeat (go_big_quiet_step (fail))
    refine wpQuiet_nil ?_;rintro w9 ⟨q0,rfl⟩;go_wp2_with fail
    refine (H.out q0).mono ?_;rintro e w1 ⟨rfl,h⟩;clear H n o p q u B;obtain ⟨n,o,p,q,u,B⟩:=bN g.out.1 g.out.2 h;have H:=ae (fun q0=>(h.dn q0).load (s:=4) (t:=4) (x:=x) (i:=0) (by rw [O.out];omega) rfl C (by omega));clear h;go_wp2;refine bG 12 ?_;simp only [ai,an,aj,ao]
    repeat (go_big_quiet_step (fail))
    refine wpQuiet_nil ?_;rintro w9 ⟨q0,rfl⟩;go_wp2_with fail
    refine (H.out q0).mono ?_;rintro e w1 ⟨rfl,h⟩;clear H n o p q u B;rw [n4] at h;obtain ⟨Q,I,M⟩:∃Q,Q<m0/\Fv b c A T w0 G tr key w1 Q:=by
     obtain ⟨_,J,hp,E⟩:=L.out;unfold Tr.size at E;exact ⟨l.size,by omega,.Xi y x k f r,l,J,⟨by omega,hp⟩,rfl,h⟩
    have U:=ae M;have D:=ae (ag L.out.1 I);clear h M I L;go_wp2;go_roundw
    case rel=>exact ⟨_,U⟩
    case measure=>exact bU (dG U.out).2 (by first|exact D.out.2|(rw [D.out.1];exact D.out.2))
  |nil=>
   rw [show (Tr.nil).root=0 from rfl] at h;obtain ⟨_,J,S,_⟩:=L.out;clear L;have Y:=mW y .nil (J▸HT.out.2) S;have P:tr.all=y.pre++y.post:=by rw [J,du];simp [Tr.all]
   have al:∀z∈y.post,∃a b,iy A z.1 a b z.2.1 z.2.2:=fun z hz=>HT.out.1.mem z (by rw [P];simp [hz])
   have R:=ae (ag P Y);clear J S Y P;obtain ⟨n,o,p,q,u,B⟩:=bN g.out.1 g.out.2 h;have H:=ae (gF g.out.1 g.out.2 (s:=4) (x:=0) rfl h);clear h;go_wp2_with fail
   refine H.out.mono ?_;rintro e w1 ⟨rfl,h⟩;clear H n o p q u B;generalize au:y.post=yp at*
   cases yp with
   |nil=>
    rw [show cR ([]:List (Nat×Nat×Nat))=0 from rfl] at h;obtain ⟨n,o,p,q,u,B⟩:=bN g.out.1 g.out.2 h;have H:=ae (gF g.out.1 g.out.2 (s:=7) (x:=0) rfl h);clear h;go_wp2_with fail
    refine H.out.mono ?_;rintro e w1 ⟨rfl,h⟩;clear H n o p q u B;have N:=ae (fT g.out.1 g.out.2 O.out h);clear h;go_wp2;refine leaves_cons (f:=91) (args:= #[xb]) (by simp) (by simp [go_sem]) ?_;refine ((N.out).Qw .returning).mono ?_;rintro e u' ap ⟨rfl,rfl,hq⟩;exact ⟨_,results_tmp3 rfl _ _ _,_,_,R.out.1,R.out.2.1,R.out.2.2,.inl ⟨rfl,rfl⟩,hq⟩
   |cons z d=>
    obtain ⟨x,k,f⟩:=z;obtain ⟨ya,yb,C,⟨n1,n2,n3⟩,_,_,n6,n7⟩:=al (x,k,f) (by simp);dsimp only at C n1 n2 n3 n6 n7;rw [show cR ((x,k,f)::d)=x from rfl] at h;have d0:decide (x=0)=false:=ar C;obtain ⟨n,o,p,q,u,B⟩:=bN g.out.1 g.out.2 h;have H:=ae (gF g.out.1 g.out.2 (s:=7) (x:=x) rfl h);clear h;go_wp2_with fail
    refine H.out.mono ?_;rintro e w1 ⟨rfl,h⟩;clear H n o p q u B;have HC:=ae (fun w (h:bh b c A [G,0,0,tr.root,0,0,0,x] T w0 w)=>bN g.out.1 g.out.2 h);have K:=ae (fun w (h:bh b c A [G,0,0,tr.root,0,0,0,x] T w0 w)=>h.getfS (s:=7) (x:=x) (i:=2) rfl C (by omega) (by omega));have V:=ae (show bh b c A [G,0,0,tr.root,0,0,0,x] T w0 w1.drew from h.Qa ((GQ _ w1).drew));have W:=ae (fun w (h:bh b c A [G,0,0,tr.root,0,0,0,x] T w0 w)=>h);clear h;rw [n6] at K;generalize hZ:bh b c A [G,0,0,tr.root,0,0,0,x] T w0=Z at HC K V W;have X:=ae hZ;clear hZ;go_wp2;refine cZ 14 (fun a b2=>(Z a->Z b2)/\a.heap.size<=b2.heap.size) [.c xb,.c xb,.c xb,.c b,.c xb,.c xb,.c (.pointer (some ⟨xb,5,none⟩)),.c (7:Int),.c (.tuple #[.float .f64 f,(0:Int)]),.c (.tuple #[.float .f64 f,(0:Int)]),.c (.float .f64 f),.c (0:Int),.c (.float .f64 f),.c (0:Int)] (fun j=>false) (fun _=>⟨fun h=>h,ak _⟩) (fun _ _ _ h1 h2=>⟨fun h=>h2.1 (h1.1 h),aZ h1.2 h2.2⟩) (fun _ _ h=>h.2) trivial ?_;intro F hF;simp only [fp,PK.val,ai,an,aa] at hF;subst hF;refine ⟨by
     refine ⟨?_,?_,?_,?_,?_,?_,?_,?_,?_,?_,?_,?_,?_,?_,trivial⟩<;>intro vs w1 hw aq S hx
     all_goals try (apply oV;rotate_left;rfl;exact ⟨fun h=>h,ak _⟩;go_simp;done)
     all_goals try (apply oV;rotate_left;rfl;exact ⟨fun h=>h,ak _⟩;obtain ⟨n,o,p,q,u,B⟩:=HC.out w1 (hw.1 V.out);go_simp;done)
     ·refine bm 45 #[b,(7:Int),(2:Int)] (by go_simp) ((K.out w1 (hw.1 V.out)).mono ?_);rintro e w5 ⟨rfl,hz,am⟩;exact ⟨_,rfl,rfl,⟨fun _=>hz,am⟩,fun h=>nomatch h⟩
     ,fun vs w1 hw hp hx=> ?_⟩
    simp only [aj,ao];have h:=hw.1 V.out;rw [<-X.out] at h;clear HC K V W X hw hp hx;have ad:k<18446744073709551616:=by rw [<-n7];exact h.Yq (x:=x) (.root (by simp) C) (by omega) (by omega)
    obtain ⟨n,o,p,q,u,B⟩:=bN g.out.1 g.out.2 h;have H:=ae (nm g.out.1 g.out.2 (s:=7) (x:=x) rfl C ⟨n1,n2,n3⟩ h);clear h;go_wp2_with fail
    refine H.out.mono ?_;rintro e w1 ⟨rfl,h,_⟩;clear H n o p q u B;rw [n7];have N:=ae (fT g.out.1 g.out.2 O.out h);clear h;go_wp2;refine leaves_cons (f:=91) (args:= #[xb]) (by simp) (by simp [go_sem]) ?_;refine ((N.out).Qw .returning).mono ?_;rintro e u' ap ⟨rfl,rfl,hq⟩;exact ⟨_,results_tmp3 rfl _ _ _,_,_,R.out.1,R.out.2.1,R.out.2.2,.inr ⟨x,k,f,d,rfl,ad,rfl⟩,hq⟩
def sG(l:List (Nat×Nat×Nat))(key:Nat):Nat:=(l.filter (fun z=>decide (z.2.1<key))).length
theorem rk{l a d:List (Nat×Nat×Nat)}(h:l=a++d)(g:∀z∈a,z.2.1<key)(j:∀z∈d,key<=z.2.1):sG l key=a.length:=by
 unfold sG;rw [h,List.filter_append,mF.2 (fun z e=>aB (g z e)),iq.2 (fun z e=>by have:=j z e;simp;omega),List.append_nil]
theorem D7{l:List (Nat×Nat×Nat)}:sG l 0=0:=rk (a:=[]) rfl (fun _ h=>nomatch h) (fun _ _=>aF _)
theorem xm{l a d:List (Nat×Nat×Nat)}(j:pX l)(h:l=a++(x,k,f)::d)(m:∀z∈a,z.2.1<key)(n:key<=k):sG l (k+1)=a.length+1:=by
 obtain ⟨g1,g,_⟩:=(h▸j).parts;rw [rk (a:=a++[(x,k,f)]) (d:=d) (by rw [h];simp) (fun z e=> ?_) (fun z e=>g z e),aH];rfl;rcases bB.1 e with e|e
 ·exact Nat.lt_succ_of_lt (g1 z e)
 ·rw [bP.1 e];exact bI _
theorem Df(L:aJ w0 xb (ot b) 158)(m:¬T xb){J:Nat}{tr:Tr}(M:gl A tr)(Q:pX tr.all)(N:c.Sl=8)(O:tr.all.length<=1000)(h:bh b c A [J,0,0,tr.root,0,0,0,0] T w0 w):Calls prog 43 #[xb] w fun e w'=>e= .returned (.int .i64 (tr.all.length:Int))/\bh b c A [J,0,0,tr.root,0,0,0,0] T w0 w':=by
 have E:=ae (ag L m);have W:=ae N;have r:=ae (ag M (ag Q O));clear L m N M Q O
 go_enter func43,ntmps43
 have H:=ae (la E.out.1 E.out.2 h);go_wp2_with fail
 refine H.out.mono ?_;rintro e w1 ⟨rfl,rfl⟩;clear H;have K:=ae h;clear h;go_wp2
 go_loopw [3,4] (fun p q wr=>∃n key:Nat,p= .int .i64 n/\q= .int .u64 key/\key<18446744073709551616/\sG tr.all key=n/\Hid (bh b c A [J,0,0,tr.root,0,0,0,0] T w0 wr)) (fun p _ _=>(tr.all.length-intOf p).toNat)
 case atStart=>exact ⟨0,0,rfl,rfl,by omega,D7,K⟩
 case round=>
  clear K;obtain ⟨n,key,rfl,rfl,hk,D,R⟩:=hrel;have h:=R.out;clear R;have H:=ae (AM (key:=key) E.out.1 E.out.2 r.out.1 r.out.2.1 W.out h);clear h;go_wp2_with fail
  refine H.out.mono ?_;rintro e w1 ⟨a,d,o,y,B,he,h⟩;clear H;have m:n=a.length:=by rw [<-D];exact rk o y B
  have g:tr.all.length=a.length+d.length:=by rw [o,aH]
  have j:=r.out.2.2;clear D;rcases he with ⟨rfl,rfl⟩|⟨x,k,f,F,rfl,C,rfl⟩
  ·have u:=ae (ag h (show n=tr.all.length by rw [m,g];rfl));clear h o y B m g j;go_wp2;go_ret;exact ⟨by rw [<-u.out.2];rfl,u.out.1⟩
  ·have X:=ae (show sG tr.all (k+1)=n+1 by rw [m];exact xm r.out.2.1 o y (B (x,k,f) (by simp)));rw [bn] at g;have hb:n<tr.all.length/\tr.all.length<=1000:=⟨by omega,j⟩;by_cases P:k=18446744073709551615
   ·have Y:F=[]:=by
     cases F with
     |nil=>rfl
     |cons z F=>
      obtain ⟨S,I,q3,q4⟩:=id (⟨r.out.1,o,r.out.2.1,trivial⟩:gl A tr/\tr.all=_/\pX tr.all/\True);have Z:=(I▸q3:pX (a++(x,k,f)::z::F)).parts.2.1 z (by simp);have g3:=h.Yq (x:=z.1) (i:=3) (S.reach (if e:tr.root=0 then .inl e else .inr (.root (by simp) e)) z.1 (by rw [I];exact bu.2 ⟨z,by simp,rfl⟩));obtain ⟨_,_,_,⟨m1,m2,m3⟩,_,_,_,m7⟩:=S.mem z (by rw [I];simp);have g4:=g3 (by omega) (by omega);rw [m7] at g4;have g5:k<z.2.1:=Z;omega
    subst Y;have u:=ae (ag h (show n+1=tr.all.length by rw [m,g];rfl));clear h o y B m g j;have c1:(k:Int)=18446744073709551615:=by omega
    have c2:decide ((k:Int)=18446744073709551615)=true:=aB c1;clear P;go_wp2;go_ret;refine ⟨?_,u.out.1⟩;rw [<-u.out.2];go_num
   ·have c1:¬(k:Int)=18446744073709551615:=by omega
    have c2:decide ((k:Int)=18446744073709551615)=false:=ar c1;have V:=ae h;have U:=ae (show k+1<18446744073709551616 by omega);have G:IntKind.u64.wrap ((k:Int)+1)=((k+1:Nat):Int):=by rw [IntKind.wrap_u64];omega
    clear h o y B m g j;go_wp2;go_roundw
    case rel=>exact ⟨n+1,k+1,by go_num,by go_num,U.out,X.out,V⟩
    case measure=>clear c1 c2 G hk C P;simp [intOf];omega
end
section
variable{b:Nat}{c:Cf}{A A':AG}{rs rs' l:List Nat}{T:Nat->Prop}{w0 w w':World}{u n:Nat}
theorem uN(hi:eX b c A rs u n T w):Calls prog 89 #[b] w fun e w'=>e= .returned (pE c)/\GM w w':=by
 obtain ⟨h,φ,L,Ba,ub,cy,ns,bs,S,rfl,hw,_,_⟩:=hi;have hb:my w h.b c h.m h.rb ub cy ns bs:=hw.Qd;clear hw;unfold pE;obtain ⟨z,x⟩:∃z,w.alloc (.cells #[(0:Int),(0:Int),(0:Int),(0:Int),(0:Int),(0:Int),(0:Int),.float .f64 0] 24)=z:=⟨_,rfl⟩;have y:GM w z:=by rw [<-x];exact (GQ _ w).alloc _
 have i:aJ z w.heap.size [(0:Int),(0:Int),(0:Int),(0:Int),(0:Int),(0:Int),(0:Int),.float .f64 0] 24:=by rw [<-x];exact aJ.new w _ _
 have f:my z h.b c h.m h.rb ub cy ns bs:=aJ.frame hb y id;have HN:=ae (gy f);have ad:h.b≠w.heap.size:=gA hb.lt;obtain ⟨q,hq⟩:∃q,w.heap.size=q:=⟨_,rfl⟩;rw [hq] at i ad;have g:w.heap.size<=q:=by omega
 obtain ⟨W1,F⟩:∃W1,z.setCell q (.int .i64 (c.kind:Int))=W1:=⟨_,rfl⟩;have z0:=i.cell 0 rfl;have y0:=i.free 0;have j:aJ W1 q [((c.kind:Int):Int),(0:Int),(0:Int),(0:Int),(0:Int),(0:Int),(0:Int),.float .f64 0] 24:=by rw [<-F];exact i.set 0 _
 have O:GM w W1:=by rw [<-F];exact y.setCell _ (.inr g) _
 obtain ⟨B,G⟩:∃B,W1.setCell ⟨q,1,none⟩ (.int .i64 (c.Pg:Int))=B:=⟨_,rfl⟩;have z1:=j.cell 1 rfl;have y1:=j.free 1;have k:aJ B q [((c.kind:Int):Int),((c.Pg:Int):Int),(0:Int),(0:Int),(0:Int),(0:Int),(0:Int),.float .f64 0] 24:=by rw [<-G];exact j.set 1 _
 have P:GM w B:=by rw [<-G];exact O.setCell _ (.inr g) _
 obtain ⟨C,H⟩:∃C,B.setCell ⟨q,2,none⟩ (.int .i64 (c.block:Int))=C:=⟨_,rfl⟩;have z2:=k.cell 2 rfl;have y2:=k.free 2;have o:aJ C q [((c.kind:Int):Int),((c.Pg:Int):Int),((c.block:Int):Int),(0:Int),(0:Int),(0:Int),(0:Int),.float .f64 0] 24:=by rw [<-H];exact k.set 2 _
 have Q:GM w C:=by rw [<-H];exact P.setCell _ (.inr g) _
 obtain ⟨D,I⟩:∃D,C.setCell ⟨q,3,none⟩ (.int .i64 (c.Wd:Int))=D:=⟨_,rfl⟩;have z3:=o.cell 3 rfl;have y3:=o.free 3;have p:aJ D q [((c.kind:Int):Int),((c.Pg:Int):Int),((c.block:Int):Int),((c.Wd:Int):Int),(0:Int),(0:Int),(0:Int),.float .f64 0] 24:=by rw [<-I];exact o.set 3 _
 have R:GM w D:=by rw [<-I];exact Q.setCell _ (.inr g) _
 obtain ⟨W5,J⟩:∃W5,D.setCell ⟨q,4,none⟩ (.int .i64 (c.Sl:Int))=W5:=⟨_,rfl⟩;have z4:=p.cell 4 rfl;have y4:=p.free 4;have r:aJ W5 q [((c.kind:Int):Int),((c.Pg:Int):Int),((c.block:Int):Int),((c.Wd:Int):Int),((c.Sl:Int):Int),(0:Int),(0:Int),.float .f64 0] 24:=by rw [<-J];exact p.set 4 _
 have U:GM w W5:=by rw [<-J];exact R.setCell _ (.inr g) _
 obtain ⟨W6,K⟩:∃W6,W5.setCell ⟨q,5,none⟩ (.int .i64 (c.stack:Int))=W6:=⟨_,rfl⟩;have z5:=r.cell 5 rfl;have y5:=r.free 5;have s:aJ W6 q [((c.kind:Int):Int),((c.Pg:Int):Int),((c.block:Int):Int),((c.Wd:Int):Int),((c.Sl:Int):Int),((c.stack:Int):Int),(0:Int),.float .f64 0] 24:=by rw [<-K];exact r.set 5 _
 have V:GM w W6:=by rw [<-K];exact U.setCell _ (.inr g) _
 obtain ⟨E,M⟩:∃E,W6.setCell ⟨q,6,none⟩ (.int .i64 (c.Ah:Int))=E:=⟨_,rfl⟩;have z6:=s.cell 6 rfl;have y6:=s.free 6;have t:aJ E q [((c.kind:Int):Int),((c.Pg:Int):Int),((c.block:Int):Int),((c.Wd:Int):Int),((c.Sl:Int):Int),((c.stack:Int):Int),((c.Ah:Int):Int),.float .f64 0] 24:=by rw [<-M];exact s.set 6 _
 have W:GM w E:=by rw [<-M];exact V.setCell _ (.inr g) _
 obtain ⟨Y,N⟩:∃Y,E.setCell ⟨q,7,none⟩ (.float .f64 c.Qu)=Y:=⟨_,rfl⟩;have z7:=t.cell 7 rfl;have y7:=t.free 7;have d:aJ Y q [((c.kind:Int):Int),((c.Pg:Int):Int),((c.block:Int):Int),((c.Wd:Int):Int),((c.Sl:Int):Int),((c.stack:Int):Int),((c.Ah:Int):Int),.float .f64 c.Qu] 24:=by rw [<-N];exact t.set 7 _
 have X:GM w Y:=by rw [<-N];exact W.setCell _ (.inr g) _
 have x0:=d.cell 0 rfl;have k0:=f.cell 0 rfl;have x1:=d.cell 1 rfl;have k1:=f.cell 1 rfl;have x2:=d.cell 2 rfl;have k2:=f.cell 2 rfl;have x3:=d.cell 3 rfl;have k3:=f.cell 3 rfl;have x4:=d.cell 4 rfl;have k4:=f.cell 4 rfl;have x5:=d.cell 5 rfl;have k5:=f.cell 5 rfl;have x6:=d.cell 6 rfl;have k6:=f.cell 6 rfl;have x7:=d.cell 7 rfl;have k7:=f.cell 7 rfl;have HF:=ae (ag X d);have Z:Hid ((prog.info? 24).map (·.size)=some 8):=by show _=_;kernel_rfl
 have af:∀(w:World) (a:Addr) (v:Nat),(store a (.float .f64 v)).run prog w=stored prog w a (.float .f64 v) .plain:=fun w a v=>run_store _ w a _ _ rfl
 clear hb y O P Q R U V W X i j k o p r s t d f g
 go_enter func89,ntmps89
 go_wp2_with fail
 refine HN.out.mono ?_;rintro e w1 ⟨rfl,rfl⟩;clear HN x hq;go_wp2;refine bodyPost_ret (li rfl _ _ _ _ _ _ _ rfl HF.out.2 underlying24 rfl Z.out) rfl ?_;exact ⟨rfl,HF.out.1⟩
def At(b:Nat)(c:Cf)(A:AG)(T:Nat->Prop)(cs:List Value)(ty:TypeId)(w:World)(e:Ending)(w':World):Prop:=∃xb u n T',e= .returned (.tuple #[.pointer (some ⟨xb,0,none⟩),(0:Int)])/\eX b c A [0,0,0,0,0,0,0,0] u n T' w'/\aJ w' xb cs ty/\¬T' xb/\w.heap.size<=xb/\Fr T w w'/\∀k,T' k->T k\/w.heap.size<=k
theorem At.of{cs:List Value}{i:TypeId}{W:World}{xb:Nat}(o:eX b c A rs u n T w)(hf:GM w W)(f:aJ W xb cs i)(p:w.heap.size<=xb)(h:bh b c A [0,0,0,0,0,0,0,0] T W w'):At b c A T cs i w (.returned (.tuple #[xb,(0:Int)])) w':=by
 have g:¬T xb:=fun h=>by have:=o.lt _ h;omega
 obtain ⟨q,n',j,m,d,e⟩:=h;have s:=hf.size;have r:=f.lt;exact ⟨xb,q,n',j,rfl,m,f.frame d g,fun a=>(e _ a).elim g (fun h=>by omega),p,(hf.mono GN).trans d (fun _ h=> .inl h),fun k a=>(e k a).imp id (fun h=>by omega)⟩
theorem DJ(P:eX b c A [0,0,0,0,0,0,0,0] u n T w)(Y:c.Sl=8):Calls prog 29 #[b,(0:Int),.agg #[(1:Int),(2:Int)]] w fun e w'=>At b c A T (rB b) 156 w e w':=by
 have X:=ae Y;have R:=ae P;obtain ⟨f,_⟩:=P.cf;have U:¬(c.kind:Int)=0:=by have:=f.Yj;omega
 have ad:((c.kind:Int)==0)=false:=by simpa using U
 have K:(c.Sl:Int)=8:=by omega
 obtain ⟨d,k⟩:∃d,w.alloc (.cells #[(1:Int),(2:Int)] 64)=d:=⟨_,rfl⟩;have p:GM w d:=by rw [<-k];exact (GQ _ w).alloc _
 have F:aJ d w.heap.size [(1:Int),(2:Int)] 64:=by rw [<-k];exact aJ.new w _ _
 have a:=ae (fun wr (hf:GM w wr)=>uN (P.Qa hf));have Q:=ae (fun wr (hf:GM d wr)=>(show wr.cell? ⟨w.heap.size,0,none⟩=some (1:Int)/\wr.cell? ⟨w.heap.size,1,none⟩=some (2:Int) from have g:aJ wr _ _ _:=F.frame hf id;⟨g.cell 0 rfl,g.cell 1 rfl⟩));have HQ:Hid (∃q,w.heap.size=q):=ae ⟨_,rfl⟩;have i:=ae p;unfold pE at a;rw [K] at a;have y:=ae (a.out d p);have hx:∀(j:Nat) (w:World),j<3->(Instr.index 50 (.agg #[(0:Int),(1:Int),(2:Int)]) (.int .i64 j)).run prog w= .ok (.int .i64 j) w:=fun j w Z=>by
  rcases (show j=0\/j=1\/j=2 by omega) with rfl|rfl|rfl<;>simp [Instr.index,asIntOf,run_underlying,part,go_sem]
 obtain ⟨M,N⟩:=Q.out d (GQ _ _);clear P Y f p F K
 go_enter func29,ntmps29
 go_wp2_with fail
 refine y.out.mono ?_;rintro e w1 ⟨rfl,r⟩;have I:(Instr.field 24 (.agg #[((c.kind:Int):Int),((c.Pg:Int):Int),((c.block:Int):Int),((c.Wd:Int):Int),(8:Int),((c.stack:Int):Int),((c.Ah:Int):Int),.float .f64 c.Qu]) 0).run prog w1= .ok (.int .i64 (c.kind:Int)) w1:=by kernel_rfl
 clear y k M N;obtain ⟨M,N⟩:=Q.out w1 r;have E:=ae r;clear r;go_wp2;clear I
 go_loopw [21] (fun z wr=>∃j:Nat,z= .int .i64 j/\j<=3/\Hid (GM d wr)) (fun z _=>(3-intOf z).toNat)
 case atStart=>exact ⟨0,rfl,by omega,E⟩
 case round=>
  clear E M N;obtain ⟨j,rfl,Z,x⟩:=hrel;by_cases J:j<3
  ·have c1:(j:Int)<3:=by omega
   have c2:¬(j:Int)<0:=by omega
   have c3:¬(8:Int)<=(j:Int):=by omega
   have V:=fun w=>hx j w J
   have B:=ae (fun w2 (hf:GM wr w2)=>a.out w2 (i.out.trans (x.out.trans hf GN) GN));have C:=ae (B.out wr (GQ _ _));clear B;go_wp2_with fail
   refine C.out.mono ?_;rintro e w2 ⟨rfl,G⟩;have S:(Instr.field 24 (.agg #[((c.kind:Int):Int),((c.Pg:Int):Int),((c.block:Int):Int),((c.Wd:Int):Int),(8:Int),((c.stack:Int):Int),((c.Ah:Int):Int),.float .f64 c.Qu]) 4).run prog w2= .ok (.int .i64 8) w2:=by kernel_rfl
   have HN:=ae (x.out.trans G GN);clear C G x V;go_wp2;go_roundw
   case rel=>exact ⟨j+1,by go_num,by omega,HN⟩
   case measure=>simp [intOf];omega
  ·have c1:¬(j:Int)<3:=by omega
   obtain rfl:j=3:=by omega
   obtain ⟨M,N⟩:=Q.out _ x.out;clear J Z hx a;obtain ⟨O,m⟩:∃O,wr.alloc (.cells #[b,(0:Int),(1:Int),(2:Int)] 156)=O:=⟨_,rfl⟩;have t:GM w O:=by rw [<-m];exact (i.out.trans x.out GN).alloc _
   have o:aJ O wr.heap.size (rB b) 156:=by rw [<-m];exact aJ.new wr _ _
   have L:w.heap.size<=wr.heap.size:=(i.out.trans x.out GN).size;have v:¬T wr.heap.size:=fun h=>by have:=R.out.lt _ h;omega
   have D:=ae (ag t (ag o (ag L v)));have hp:=(R.out.Qa t).Xm;have H:=ae (hp.clear (s:=0) (by rw [X.out];omega));obtain ⟨k0,k1,k2,k3⟩:=eL o v hp;clear t o L v hp x;go_wp2_with fail
   refine H.out.mono ?_;rintro e w4 ⟨rfl,h⟩;have W:=ae (uD D.out.2.1 D.out.2.2.2 X.out h);clear H h m k0 k1 k2 k3 M N;go_wp2_with fail
   refine W.out.mono ?_;rintro e w5 ⟨rfl,h⟩;have HR:=ae (At.of R.out D.out.1 D.out.2.1 D.out.2.2.1 h);clear W h;go_wp2;refine bodyPost_ret (results_tmp2 rfl _ _ _) rfl ?_;exact HR.out
end
end Go.Proofs.YthahbijbpinneaaGreatDoor
