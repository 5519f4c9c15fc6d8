import Derived.Test.YthahbijbpinneaaGreatDoorA0
import Derived.Shelf.Abstract
import Derived.OwnWalk
import Derived.RangeFuncBox
import Derived.RangeFuncLeaves
import Derived.OwnWalkIn
import Derived.TacticsInMore
import Derived.LoopNIn
import Derived.LoopIn
import Derived.Test.YthahbijbpinneaaGreatDoorShelf
set_option maxRecDepth 100000
set_option maxHeartbeats 8000000
set_option linter.all false
namespace Go.Proofs.YthahbijbpinneaaGreatDoor
open Go.RowKit Go.Proofs.Tryz
theorem kL{w w':World}{a:Addr}(h:w'.heap[a.block]? =w.heap[a.block]?):w'.frozen? a=w.frozen? a:=by
 unfold World.frozen?;rw [h]
theorem E7{w:World}{g K a:Nat}(x m:Nat)(V:Int)(p:x<18446744073709551616)(n:m<18446744073709551616)(j:w.cell? ⟨g,K,none⟩=some (.int .u64 x))(hf:w.frozen? ⟨g,K,none⟩=false)(o:w.cell? a=some (V:Int))(f:w.frozen? a=false)(d:a≠g):
  Calls prog 282 #[.pointer (some ⟨g,K,none⟩),.int .u64 m,a] w fun e w'=>e= .returned (.tuple #[])/\∃s,w'=((w.setCell a (.int .i64 s)).drew.setCell ⟨g,K,none⟩ (.int .u64 ((x|||m:Nat):Int))):=by
 obtain ⟨z,A,B,_⟩:=pG m x n p;have i:=ae (u64_or_nat x m p n);have q:=ae (oW z A 0 64);have y:=tv (xW z 0 64) 64;generalize ix (xW z 0 64) 64=cn at*;have C:w.drew.cell? ⟨g,K,none⟩=some (.int .u64 x):=j;have D:w.drew.cell? a=some (V:Int):=o;have E:w.drew.frozen? a=false:=f;have k:∀u,(w.setCell a u).drew.cell? ⟨g,K,none⟩=some (.int .u64 x):=fun u=>(World.cell?_of_block (w:=w) (Below.heap_setCell _ _ _ _ (fun e=>d e.symm))).trans j
 have l:∀u,(w.setCell a u).drew.frozen? ⟨g,K,none⟩=false:=fun u=>(kL (w:=w) (Below.heap_setCell _ _ _ _ (fun e=>d e.symm))).trans hf
 clear j hf o f
 go_enter func282,ntmps282
 go_wp2;refine bR (fun w'=>w'=w.drew) 8 rfl ?_;simp only [ai,an,aj,ao];refine aA (V:Int) rfl (fun w b=>by subst b;go_simp) ?_;simp only [aa];refine aV [.int .u64 m,.pointer (some ⟨g,K,none⟩),.pointer (some ⟨g,K,none⟩)] ?_
 iterate 3 (refine aW rfl (fun G F=>by go_simp) ?_;simp only [aa])
 refine aU ?_;refine aA (.int .u64 x) rfl (fun w b=>by subst b;go_simp) ?_;simp only [aa];refine aA (.int .u64 z) rfl (fun w b=>by go_simp) ?_;simp only [aa];refine bT (.int .i64 cn) 247 #[.int .u64 z,(0:Int),(64:Int)] rfl (fun w=>by go_simp) (fun w b=>(q.out w).mono fun e w' h=>⟨h.1,h.2▸b⟩) ?_;simp only [aa];refine aA (.int .i64 (IntKind.i64.wrap (V+(cn:Int)))) rfl (fun w b=>by go_simp) ?_;simp only [aa];refine wpQuiet_nil ?_;rintro w2 rfl
 go_upto_region 1 with fail
 obtain ⟨w3,c⟩:∃w3,(w.setCell a (.int .i64 (wrap64 (V+(cn:Int))))).drew=w3:=⟨_,rfl⟩;have t:=k (.int .i64 (wrap64 (V+(cn:Int))));have v:=l (.int .i64 (wrap64 (V+(cn:Int))));rw [c] at t v ⊢;clear k l;have r:=ae c;clear c;go_wp2;go_end0;exact ⟨rfl,_,by rw [r.out,i.out]⟩
theorem EC{w:World}{g K a:Nat}(x m:Nat)(V:Int)(v:x<18446744073709551616)(l:m<18446744073709551616)(i:w.cell? ⟨g,K,none⟩=some (.int .u64 x))(hf:w.frozen? ⟨g,K,none⟩=false)(n:w.cell? a=some (V:Int))(f:w.frozen? a=false)(d:a≠g)(y:Nat)(G:bits .andNot .u64 (x:Int) (m:Int)=(y:Int)):
  Calls prog 246 #[.pointer (some ⟨g,K,none⟩),.int .u64 m,a] w fun e w'=>e= .returned (.tuple #[])/\∃q,w'=((w.setCell a (.int .i64 q)).drew.setCell ⟨g,K,none⟩ (.int .u64 y)):=by
 have B:=u64_and_nat m x l v;have A:m&&&x<18446744073709551616:=bU eH l;generalize m&&&x=z at*;have o:=ae (oW z A 0 64);have t:=tv (xW z 0 64) 64;generalize ix (xW z 0 64) 64=cn at*;have C:w.drew.cell? ⟨g,K,none⟩=some (.int .u64 x):=i;have D:w.drew.cell? a=some (V:Int):=n;have E:w.drew.frozen? a=false:=f;have j:∀u,(w.setCell a u).drew.cell? ⟨g,K,none⟩=some (.int .u64 x):=fun u=>(World.cell?_of_block (w:=w) (Below.heap_setCell _ _ _ _ (fun e=>d e.symm))).trans i
 have k:∀u,(w.setCell a u).drew.frozen? ⟨g,K,none⟩=false:=fun u=>(kL (w:=w) (Below.heap_setCell _ _ _ _ (fun e=>d e.symm))).trans hf
 clear i hf n f
 go_enter func246,ntmps246
 go_wp2;refine bR (fun w'=>w'=w.drew) 8 rfl ?_;simp only [ai,an,aj,ao];refine aA (V:Int) rfl (fun w b=>by subst b;go_simp) ?_;simp only [aa];refine aV [.int .u64 m,.pointer (some ⟨g,K,none⟩),.pointer (some ⟨g,K,none⟩)] ?_
 iterate 3 (refine aW rfl (fun H F=>by go_simp) ?_;simp only [aa])
 refine aU ?_;refine aA (.int .u64 x) rfl (fun w b=>by subst b;go_simp) ?_;simp only [aa];refine aA (.int .u64 z) rfl (fun w b=>by go_simp) ?_;simp only [aa];refine bT (.int .i64 cn) 247 #[.int .u64 z,(0:Int),(64:Int)] rfl (fun w=>by go_simp) (fun w b=>(o.out w).mono fun e w' h=>⟨h.1,h.2▸b⟩) ?_;simp only [aa];refine aA (.int .i64 (IntKind.i64.wrap (V+(cn:Int)))) rfl (fun w b=>by go_simp) ?_;simp only [aa];refine wpQuiet_nil ?_;rintro w2 rfl
 go_upto_region 1 with fail
 obtain ⟨w3,c⟩:∃w3,(w.setCell a (.int .i64 (wrap64 (V+(cn:Int))))).drew=w3:=⟨_,rfl⟩;have r:=j (.int .i64 (wrap64 (V+(cn:Int))));have s:=k (.int .i64 (wrap64 (V+(cn:Int))));rw [c] at r s ⊢;clear j k;have p:=ae c;clear c;go_wp2;go_end0;exact ⟨rfl,_,by rw [p.out]⟩
theorem DY{w:World}{g K b:Nat}(x m:Nat)(V:Int)(l:x<18446744073709551616)(f:m<18446744073709551616)(d:w.cell? ⟨g,K,none⟩=some (.int .u64 x))(i:w.cell? b=some (V:Int))(c:w.frozen? b=false)(t:0<=V/\V<=1048576):
  Calls prog 292 #[.pointer (some ⟨g,K,none⟩),.int .u64 m,b] w fun e w'=>e= .returned (.tuple #[])/\w'=(w.setCell b (.int .i64 (V+(ix (xW (m&&&x) 0 64) 64:Nat)))).drew:=by
 have o:=u64_and_nat m x f l;have n:m&&&x<18446744073709551616:=bU eH f;generalize m&&&x=z at*;have j:=ae (oW z n 0 64);have k:=tv (xW z 0 64) 64;generalize ix (xW z 0 64) 64=cn at*;have p:w.drew.cell? ⟨g,K,none⟩=some (.int .u64 x):=d;have q:w.drew.cell? b=some (V:Int):=i;have r:w.drew.frozen? b=false:=c;clear d i c
 go_enter func292,ntmps292
 go_wp2;refine bR (fun w'=>w'=w.drew) 8 rfl ?_;simp only [ai,an,aj,ao];refine aA (V:Int) rfl (fun w a=>by subst a;go_simp) ?_;simp only [aa];refine aV [.int .u64 m,.pointer (some ⟨g,K,none⟩),.pointer (some ⟨g,K,none⟩)] ?_
 iterate 3 (refine aW rfl (fun u s=>by go_simp) ?_;simp only [aa])
 refine aU ?_;refine aA (.int .u64 x) rfl (fun w a=>by subst a;go_simp) ?_;simp only [aa];refine aA (.int .u64 z) rfl (fun w a=>by go_simp) ?_;simp only [aa];refine bT (.int .i64 cn) 247 #[.int .u64 z,(0:Int),(64:Int)] rfl (fun w=>by go_simp) (fun w a=>(j.out w).mono fun e w' h=>⟨h.1,h.2▸a⟩) ?_;simp only [aa];refine aA (.int .i64 (IntKind.i64.wrap (V+(cn:Int)))) rfl (fun w a=>by go_simp) ?_;simp only [aa];refine wpQuiet_nil ?_;rintro w2 rfl;go_wp2;go_end0;exact ⟨rfl,rfl⟩
theorem qW{w:World}{b g n L:Nat}(V:L=(n+63)/64)(f t F T:Nat)(eg:∀args w,(callFunc f args).run prog w= .ok (.enter f args) w)(R:F<=T)(hT:T<=n)(hn:n<=1048576)(X:Int)(hX:min X (n:Int)=(T:Int))(J:Nat->World->Prop)
  (v:∀K W,J K W->(∃C,L<=C/\W.cell? b=some (.slice (some g) L C))/\J K W.drew) (i:w.cell? ⟨b,1,none⟩=some (n:Int))
  (c:∀K W,F/64<=K->F<T->K<=(T-1)/64->J K W->Calls prog f #[.pointer (some ⟨g,K,none⟩),.int .u64 (gq F T K:Int),t] W fun e P=>e= .returned (.tuple #[])/\J (K+1) P)
  (H:J (F/64) w) (Q:Ending->World->Prop) (N:∀W,J (if F<T then (T-1)/64+1 else F/64) W->Q (.returned (.tuple #[])) W):
  Calls prog 245 #[b,(F:Int),(X:Int),.func (.func f) #[] #[t]] w Q:=by
 have u:w.drew.cell? ⟨b,1,none⟩=some (n:Int):=i;have A:max (F:Int) 0=(F:Int):=by omega
 have G:=ae v;have D:=ae c;have B:=ae (v _ _ H).2;have m:=ae N;clear v c H N
 go_enter func245,ntmps245
 go_wp2;refine bt (fun w'=>w'=w.drew) rfl ?_;refine aV [(F:Int),(F:Int),(X:Int),b,b,.pointer (some ⟨b,1,none⟩)] ?_
 iterate 6 (refine aW rfl (fun q o=>by go_simp) ?_;simp only [aa])
 refine aU ?_;refine aA (n:Int) rfl (fun w i=>by subst i;go_simp) ?_;simp only [aa];refine aV [(T:Int),(F:Int),(T:Int)] ?_
 iterate 3 (refine aW rfl (fun q o=>by go_simp) ?_;simp only [aa])
 refine aU ?_;refine wpQuiet_nil ?_;rintro w2 rfl;clear u A hX;generalize w.drew=w0 at*;have q1:(F:Int).tdiv 64=((F/64:Nat):Int):=rfl;by_cases d:F<T
 ·obtain ⟨M,y⟩:∃M,(T-1)/64=M:=⟨_,rfl⟩;have q2:((T:Int)-1).tdiv 64=(M:Int):=by rw [<-y,show (T:Int)-1=((T-1:Nat):Int) by omega];rfl
  have j:decide (F<T)=true:=aB d;have l:(F:Int)<(T:Int):=by omega
  have Z:M<L:=by omega
  have Y:F/64<=M+1:=by omega
  have a:=ae m.out;rw [aG d] at a;rw [y] at a D;have af:(T:Int)<=1048576:=by omega
  have ad:(M:Int)<=1048576:=by omega
  clear m y V;go_wp2
  go_loopw [8] (fun k wr=>∃K:Nat,k= .int .i64 K/\F/64<=K/\K<=M+1/\Hid (J K wr)) (fun k _=>((M:Int)+1-intOf k).toNat)
  case atStart=>exact ⟨F/64,by go_num,by omega,by omega,B.out⟩
  case round=>
   obtain ⟨K,rfl,x,U,p⟩:=hrel;by_cases hk:K<=M
   ·have E:=ae (G.out K wr p.out).2;obtain ⟨C,hC,u⟩:=(G.out K _ E.out).1;have z:(K:Int)<=(M:Int):=by omega
    have ah:(K:Int)<(L:Int):=by omega
    have r:=ae (D.out K wr.drew x d hk E.out);go_wp2;refine bR (fun w'=>w'=wr.drew) 16 rfl ?_;simp only [ai,an,aj,ao];refine aV [.func (.func f) #[] #[t],b,b,b] ?_
    iterate 4 (refine aW rfl (fun q o=>by go_simp) ?_;simp only [aa])
    refine aU ?_;refine aA (.slice (some g) L C) rfl (fun w i=>by subst i;go_simp) ?_;simp only [aa];refine aV [(K:Int),.pointer (some ⟨g,K,none⟩),(F:Int),(K:Int)] ?_
    iterate 4 (refine aW rfl (fun q o=>by go_simp) ?_;simp only [aa])
    refine aU ?_;refine aA (.int .i64 (64*(K:Int))) rfl (fun w i=>by go_simp;rw [IntKind.wrap_i64];omega) ?_;simp only [aa];refine aA (.int .i64 ((F:Int)-64*(K:Int))) rfl (fun w i=>by go_simp;rw [IntKind.wrap_i64];omega) ?_;simp only [aa];refine aV [(T:Int),(K:Int)] ?_
    iterate 2 (refine aW rfl (fun q o=>by go_simp) ?_;simp only [aa])
    refine aU ?_;refine aA (.int .i64 (64*(K:Int))) rfl (fun w i=>by go_simp;rw [IntKind.wrap_i64];omega) ?_;simp only [aa];refine aA (.int .i64 ((T:Int)-64*(K:Int))) rfl (fun w i=>by go_simp;rw [IntKind.wrap_i64];omega) ?_;simp only [aa];refine bT (.int .u64 (gq F T K:Int)) 274 #[(((F:Int)-64*(K:Int)):Int),(((T:Int)-64*(K:Int)):Int)] rfl (fun w=>by go_simp) (fun w i=>(pQ _ _ w).mono fun e w' h=>⟨h.1,h.2▸i⟩) ?_;simp only [aa];refine wpQuiet_nil ?_;rintro w2 rfl;clear u p;go_wp2_with fail
    refine r.out.mono ?_;rintro e w3 ⟨rfl,I⟩;have O:=ae I;clear I;go_wp2;go_roundw
    case rel=>exact ⟨K+1,by go_num,by omega,by omega,O.out⟩
    case measure=>simp [intOf];omega
   ·obtain rfl:K=M+1:=by omega
    have z:¬((M+1:Nat):Int)<=(M:Int):=by omega
    have s:=ae (a.out wr p.out);clear p;go_wp2;go_end0;exact s.out
 ·have a:=ae m.out;rw [aE d] at a;have j:decide (F<T)=false:=ar d;have l:¬(F:Int)<(T:Int):=by omega
  have s:=ae (a.out w0 B.out);have S:(F:Int)<=1048576:=by omega
  clear m a;go_wp2
  go_loopw [8] (fun k wr=>k= .int .i64 ((F/64:Nat):Int)/\wr=w0) (fun _ _=>0)
  case atStart=>exact ⟨by go_num,rfl⟩
  case round=>
   obtain ⟨rfl,rfl⟩:=hrel;go_wp2;go_end0;exact s.out
def vx(w:World)(b g n cb F T:Nat)(f:Nat->Bool)(K:Nat)(W:World):Prop:=
 ∃ws V,dv W b g n ws/\(∀j,bA ws j=lC f F T K j)/\aJ W cb [(V:Int)] 3/\Fr (fun k=>k=g\/k=cb) w W
def vl(w:World)(b g n cb F T:Nat)(f:Nat->Bool)(K:Nat)(W:World):Prop:=
 ∃ws V,dv W b g n ws/\(∀j,bA ws j=kX f F T K j)/\aJ W cb [(V:Int)] 3/\Fr (fun k=>k=g\/k=cb) w W
def po(w:World)(b g n cb F T:Nat)(ws:List Nat)(K:Nat)(W:World):Prop:=
 dv W b g n ws/\aJ W cb [(((Qb (gV (bA ws) F T) (64*(F/64)) (64*K):Nat):Int):Int)] 3/\Fr (fun k=>k=cb) w W
theorem wR{f:Nat->Bool}{F T j:Nat}:lC f F T (F/64) j=f j:=by
 unfold lC;have:(decide (F<=j)&&decide (j<T)&&decide (j<64*(F/64)))=false:=by
  rw [be];simp only [mN,au,aC];omega
 rw [this,ca]
theorem vF{f:Nat->Bool}{F T j:Nat}:kX f F T (F/64) j=f j:=by
 unfold kX;have:(decide (F<=j)&&decide (j<T)&&decide (j<64*(F/64)))=false:=by
  rw [be];simp only [mN,au,aC];omega
 rw [this,eV,dZ]
theorem Co{f:Nat->Bool}{F T j:Nat}:lC f F T (if F<T then (T-1)/64+1 else F/64) j=(f j||(decide (F<=j)&&decide (j<T))):=by
 unfold lC;congr 1
 rw [bS];simp only [au,aC];split<;>omega
theorem AF{f:Nat->Bool}{F T j:Nat}:kX f F T (if F<T then (T-1)/64+1 else F/64) j=(f j&& !(decide (F<=j)&&decide (j<T))):=by
 unfold kX;congr 2
 rw [bS];simp only [au,aC];split<;>omega
theorem wS{w W p:World}{b g n a F T K:Nat}{f:Nat->Bool}(z:T<=n)(hf:∀j,n<=j->f j=false)(d:a≠g)(u:b≠a){ws:List Nat}{x:Nat}(q:dv W b g n ws)(r:∀j,bA ws j=lC f F T K j){V:Int}(s:aJ W a [(V:Int)] 3)(t:Fr (fun k=>k=g\/k=a) w W)
  (m:ws[K]? =some x) (h:Int) (i:p=(W.setCell a (.int .i64 h)).drew.setCell ⟨g,K,none⟩ (.int .u64 ((x|||gq F T K:Nat):Int))):vx w b g n a F T f (K+1) p:=by
 have c:=Aa (F:=F) (T:=T) m r;have l:Fr (fun k=>k=a) W (W.setCell a (.int .i64 h)).drew:=((GQ (fun k=>k=a) W).setCell a (.inl rfl) _).drew;have y:=q.frame l u (fun e=>d e.symm);have o:=q.lt x (aD m);refine ⟨_,h,xA y m (x|||gq F T K) (oe (n:=64) o (nF _ _ _)) (fun j v=> ?_) _ rfl i,c,?_,?_⟩
 ·rw [c];unfold lC;rw [hf j v,ar (show¬j<T by omega),cV,jD,ca]
 ·rw [i];exact (s.set 0 (.int .i64 h)).drew.Qg _ _ d
 ·rw [i];exact (((t.setCell a (.inl (.inr rfl)) _).drew).setCell ⟨g,K,none⟩ (.inl (.inl rfl)) _)
theorem vG{w W m:World}{b g n a F T K y:Nat}{f:Nat->Bool}(hf:∀j,n<=j->f j=false)(d:a≠g)(u:b≠a){ws:List Nat}{x:Nat}(p:dv W b g n ws)(r:∀j,bA ws j=kX f F T K j){V:Int}(s:aJ W a [(V:Int)] 3)(t:Fr (fun k=>k=g\/k=a) w W)
  (o:ws[K]? =some x) (B:y<18446744073709551616) (z:∀q,q<64->y.testBit q=(x.testBit q&& !(gq F T K).testBit q)) (h:Int) (i:m=(W.setCell a (.int .i64 h)).drew.setCell ⟨g,K,none⟩ (.int .u64 y)):vl w b g n a F T f (K+1) m:=by
 have c:=yH (F:=F) (T:=T) o z r;have l:Fr (fun k=>k=a) W (W.setCell a (.int .i64 h)).drew:=((GQ (fun k=>k=a) W).setCell a (.inl rfl) _).drew;have A:=p.frame l u (fun e=>d e.symm);refine ⟨_,h,xA A o y B (fun j v=> ?_) _ rfl i,c,?_,?_⟩
 ·rw [c];unfold kX;rw [hf j v,jD]
 ·rw [i];exact (s.set 0 (.int .i64 h)).drew.Qg _ _ d
 ·rw [i];exact (((t.setCell a (.inl (.inr rfl)) _).drew).setCell ⟨g,K,none⟩ (.inl (.inl rfl)) _)
theorem qc{w:World}{b g n K:Nat}{ws:List Nat}(h:dv w b g n ws)(d:64*K<n):∃x,ws[K]? =some x/\x<18446744073709551616/\w.cell? ⟨g,K,none⟩=some (.int .u64 x):=by
 have c:K<ws.length:=by rw [h.len];omega
 obtain ⟨x,a⟩:∃x,ws[K]? =some x:=⟨_,aK c⟩;exact ⟨x,a,h.lt x (aD a),h.at a⟩
theorem vH{w:World}{b g n:Nat}{ws:List Nat}(h:dv w b g n ws):∃c,(n+63)/64<=c/\w.cell? b=some (.slice (some g) ((n+63)/64) c):=by
 have:=h.c0;rwa [h.len] at this
theorem dv.drew{w:World}{b g n:Nat}{ws:List Nat}(h:dv w b g n ws):dv w.drew b g n ws:=h.frame (S:=fun _=>False) ((GQ _ w).drew) id id
theorem yL{w:World}{b g n F T:Nat}{ws:List Nat}(h:dv w b g n ws)(r:F<=T)(B:T<=n):Calls prog 258 #[b,(F:Int),(T:Int)] w fun e w'=>(∃V,e= .returned (V:Int))/\∃a,dv w' b g n a/\(∀j,bA a j=(bA ws j||(decide (F<=j)&&decide (j<T))))/\Fr (fun k=>k=g) w w':=by
 have u:=h.Yz;have t:=h.blt;have L:(w.alloc (.cells #[(0:Int)] 3)).heap.size=w.heap.size+1:=by simp
 have m:Fr (fun k=>k=g\/k=w.heap.size) w (w.alloc (.cells #[(0:Int)] 3)):=(GQ _ w).alloc _;have y:vx w b g n w.heap.size F T (bA ws) (F/64) (w.alloc (.cells #[(0:Int)] 3)):=⟨ws,0,h.frame (S:=fun _=>False) ((GQ _ w).alloc _) id id,fun j=>wR.symm,aJ.new w _ _,m⟩;have D:=ae (qW (w:=w.alloc (.cells #[(0:Int)] 3)) (b:=b) (g:=g) (n:=n) rfl 282 w.heap.size F T (enters_of func282 (by kernel_rfl) rfl) r B h.small (T:Int) (by omega) (vx w b g n w.heap.size F T (bA ws))
  (fun K W ⟨a,V,d,o,f,p⟩=>⟨vH d,a,V,d.drew,o,f.drew,p.drew⟩) ((h.frame (S:=fun _=>False) ((GQ _ w).alloc _) id id).c1)
  (fun K W G H I ⟨a,V,d,o,f,p⟩=>by
   obtain ⟨x,M,v,J⟩:=qc (K:=K) d (by omega);refine (E7 x (gq F T K) V v (nF _ _ _) J (d.free K) (f.cell 0 rfl) (f.free 0) (by omega)).mono ?_;rintro e N ⟨rfl,E,s⟩;exact ⟨rfl,wS B h.off (by omega) (by omega) d o f p M E s⟩) y
  (fun e W=>e= .returned (.tuple #[])/\vx w b g n w.heap.size F T (bA ws) (if F<T then (T-1)/64+1 else F/64) W) (fun W s=>⟨rfl,s⟩))
 have c:∀W,vx w b g n w.heap.size F T (bA ws) (if F<T then (T-1)/64+1 else F/64) W->(∃V,W.cell? w.heap.size=some (V:Int))/\∃a,dv W b g n a/\(∀j,bA a j=(bA ws j||(decide (F<=j)&&decide (j<T))))/\Fr (fun k=>k=g) w W:=fun W ⟨a,V,d,o,f,p⟩=>
  ⟨⟨V,f.cell 0 rfl⟩,a,d,fun j=>by rw [o,Co],p.mono (fun i q=>by rcases q with q|q;exact .inl q;exact .inr (by omega))⟩
 have l:=ae c;clear c y m h u t
 go_enter func258,ntmps258
 go_wp2_with fail
 refine D.out.mono ?_;rintro e w' ⟨rfl,z⟩;obtain ⟨⟨V,O⟩,A⟩:=l.out _ z;have C:=ae A;clear z A;go_wp2;go_ret;exact ⟨⟨V,rfl⟩,C.out⟩
theorem rM{w:World}{b g n F T:Nat}{ws:List Nat}(h:dv w b g n ws)(s:F<=T)(M:T<=n):Calls prog 202 #[b,(F:Int),(T:Int)] w fun e w'=>(∃V,e= .returned (V:Int))/\∃a,dv w' b g n a/\(∀j,bA a j=(bA ws j&& !(decide (F<=j)&&decide (j<T))))/\Fr (fun k=>k=g) w w':=by
 have v:=h.Yz;have u:=h.blt;have O:(w.alloc (.cells #[(0:Int)] 3)).heap.size=w.heap.size+1:=by simp
 have m:Fr (fun k=>k=g\/k=w.heap.size) w (w.alloc (.cells #[(0:Int)] 3)):=(GQ _ w).alloc _;have B:vl w b g n w.heap.size F T (bA ws) (F/64) (w.alloc (.cells #[(0:Int)] 3)):=⟨ws,0,h.frame (S:=fun _=>False) ((GQ _ w).alloc _) id id,fun j=>vF.symm,aJ.new w _ _,m⟩;have G:=ae (qW (w:=w.alloc (.cells #[(0:Int)] 3)) (b:=b) (g:=g) (n:=n) rfl 246 w.heap.size F T (enters_of func246 (by kernel_rfl) rfl) s M h.small (T:Int) (by omega) (vl w b g n w.heap.size F T (bA ws))
  (fun K W ⟨a,V,d,p,f,q⟩=>⟨vH d,a,V,d.drew,p,f.drew,q.drew⟩) ((h.frame (S:=fun _=>False) ((GQ _ w).alloc _) id id).c1)
  (fun K W I J L ⟨a,V,d,p,f,q⟩=>by
   obtain ⟨x,P,o,N⟩:=qc (K:=K) d (by omega);obtain ⟨y,Q,z,A⟩:=pG x (gq F T K) o (nF _ _ _);refine (EC x (gq F T K) V o (nF _ _ _) N (d.free K) (f.cell 0 rfl) (f.free 0) (by omega) y z).mono ?_;rintro e R ⟨rfl,H,t⟩;exact ⟨rfl,vG h.off (by omega) (by omega) d p f q P Q A H t⟩) B
  (fun e W=>e= .returned (.tuple #[])/\vl w b g n w.heap.size F T (bA ws) (if F<T then (T-1)/64+1 else F/64) W) (fun W t=>⟨rfl,t⟩))
 have c:∀W,vl w b g n w.heap.size F T (bA ws) (if F<T then (T-1)/64+1 else F/64) W->(∃V,W.cell? w.heap.size=some (V:Int))/\∃a,dv W b g n a/\(∀j,bA a j=(bA ws j&& !(decide (F<=j)&&decide (j<T))))/\Fr (fun k=>k=g) w W:=fun W ⟨a,V,d,p,f,q⟩=>
  ⟨⟨V,f.cell 0 rfl⟩,a,d,fun j=>by rw [p,AF],q.mono (fun i r=>by rcases r with r|r;exact .inl r;exact .inr (by omega))⟩
 have l:=ae c;clear c B m h v u
 go_enter func202,ntmps202
 go_wp2_with fail
 refine G.out.mono ?_;rintro e w' ⟨rfl,C⟩;obtain ⟨⟨V,U⟩,D⟩:=l.out _ C;have E:=ae D;clear C D;go_wp2;go_ret;exact ⟨⟨V,rfl⟩,E.out⟩
theorem uZ{w W d:World}{b g n a F T K:Nat}{ws:List Nat}(f:a≠g)(p:b≠a)(s:F/64<=K)(h:po w b g n a F T ws K W){x:Nat}(r:ws[K]? =some x)
  (j:d=(W.setCell a (.int .i64 (((Qb (gV (bA ws) F T) (64*(F/64)) (64*K):Nat):Int)+(ix (xW (gq F T K&&&x) 0 64) 64:Nat)))).drew):po w b g n a F T ws (K+1) d:=by
 obtain ⟨l,m,o⟩:=h;have c:Fr (fun k=>k=a) W d:=by rw [j];exact ((GQ (fun k=>k=a) W).setCell a (.inl rfl) _).drew
 refine ⟨l.frame c p (fun e=>f e.symm),?_,o.trans c (fun i q=> .inl q)⟩;rw [j];have:=(m.set 0 (.int .i64 (((Qb (gV (bA ws) F T) (64*(F/64)) (64*K):Nat):Int)+(ix (xW (gq F T K&&&x) 0 64) 64:Nat)))).drew;rw [xg r] at this ⊢;have e:Qb (gV (bA ws) F T) (64*(F/64)) (64*(K+1))=Qb (gV (bA ws) F T) (64*(F/64)) (64*K)+Qb (gV (bA ws) F T) (64*K) (64*(K+1)):=bJ _ (by omega) (by omega);rw [e];exact this
theorem qd{w:World}{b g n F T:Nat}{ws:List Nat}(h:dv w b g n ws)(j:F<=T)(E:T<=n)(X:Int)(G:min X (n:Int)=(T:Int)):Calls prog 284 #[b,(F:Int),(X:Int)] w fun e w'=>e= .returned (.int .i64 ((Qb (bA ws) F T:Nat):Int))/\GM w w':=by
 have t:=h.Yz;have s:=h.blt;have I:=h.small;have v:po w b g n w.heap.size F T ws (F/64) (w.alloc (.cells #[(0:Int)] 3)):=⟨h.frame (S:=fun _=>False) ((GQ _ w).alloc _) id id,by rw [eS _ (ak _)];exact aJ.new w _ _,(GQ _ w).alloc _⟩;have l:∀K,Qb (gV (bA ws) F T) (64*(F/64)) (64*K)<=1048576:=fun K=>by
  by_cases M:64*K<=T
  ·have:=dR (gV (bA ws) F T) (64*(F/64)) (64*K);omega
  ·by_cases o:64*(F/64)<=T
   ·rw [bJ (gV (bA ws) F T) o (show T<=64*K by omega),cu (a:=T) (b:=64*K) (fun i h _=>by unfold gV;rw [ar (show¬i<T by omega),cV];rfl)];have:=dR (gV (bA ws) F T) (64*(F/64)) T;omega
   ·omega
 have B:=ae (qW (w:=w.alloc (.cells #[(0:Int)] 3)) (b:=b) (g:=g) (n:=n) rfl 292 w.heap.size F T (enters_of func292 (by kernel_rfl) rfl) j E h.small X G (po w b g n w.heap.size F T ws)
  (fun K W ⟨m,d,p⟩=>⟨vH m,m.drew,d.drew,p.drew⟩) ((h.frame (S:=fun _=>False) ((GQ _ w).alloc _) id id).c1)
  (fun K W q C D z=>by
   obtain ⟨m,d,p⟩:=id z;obtain ⟨x,J,u,H⟩:=qc (K:=K) m (by omega);refine (DY x (gq F T K) _ u (nF _ _ _) H (d.cell 0 rfl) (d.free 0) ⟨by omega,by have:=l K;omega⟩).mono ?_;rintro e L ⟨rfl,r⟩;exact ⟨rfl,uZ (by omega) (by omega) q z J r⟩) v
  (fun e W=>e= .returned (.tuple #[])/\po w b g n w.heap.size F T ws (if F<T then (T-1)/64+1 else F/64) W) (fun W r=>⟨rfl,r⟩))
 have c:∀W,po w b g n w.heap.size F T ws (if F<T then (T-1)/64+1 else F/64) W->W.cell? w.heap.size=some (.int .i64 ((Qb (bA ws) F T:Nat):Int))/\GM w W:=fun W ⟨m,d,p⟩=>by
  refine ⟨?_,p.mono (fun i P=> .inr (by omega))⟩;have:=d.cell 0 rfl;by_cases k:F<T
  ·rw [aG k,uY _ (by omega) j (by omega)] at this;exact this
  ·rw [aE k,eS _ (ak _)] at this;rw [eS _ (show T<=F by omega)];exact this
 have f:=ae c;generalize Qb (bA ws) F T=N at*;clear c v h t s l
 go_enter func284,ntmps284
 go_wp2_with fail
 refine B.out.mono ?_;rintro e w' ⟨rfl,o⟩;obtain ⟨O,y⟩:=f.out _ o;have A:=ae y;clear o y;go_wp2;go_ret;exact ⟨rfl,A.out⟩
def iB(E:Nat->Nat):Prop:=∀a b,a<b->E a≠0->E b≠0->a+E a<=b
def dj(E:Nat->Nat)(a:Nat):Bool:=E a !=0
def rD(E:Nat->Nat)(e:Nat):Bool:=(List.range (e+1)).any fun s=>E s !=0&&s+E s==e+1
def aI(E:Nat->Nat)(a:Nat):Bool:=(List.range (a+1)).any fun s=>decide (a<s+E s)
theorem cX{E:Nat->Nat}{a:Nat}:aI E a=true↔∃s,s<=a/\a<s+E s:=by
 unfold aI;simp only [fG,bv,aC];exact ⟨fun ⟨s,c,b⟩=>⟨s,by omega,b⟩,fun ⟨s,c,b⟩=>⟨s,by omega,b⟩⟩
theorem nS{E:Nat->Nat}{e:Nat}:rD E e=true↔∃s,E s≠0/\s+E s=e+1:=by
 unfold rD;simp only [fG,bv,au,iG,dz];exact ⟨fun ⟨s,_,a,b⟩=>⟨s,a,b⟩,fun ⟨s,a,b⟩=>⟨s,by omega,a,b⟩⟩
theorem eY{E:Nat->Nat}{a:Nat}:dj E a=true↔E a≠0:=by unfold dj;exact iG
theorem iB.owner{E:Nat->Nat}(h:iB E){s t a:Nat}(g:s<=a)(e:a<s+E s)(i:t<=a)(f:a<t+E t):s=t:=by
 rcases dC s t with d|b|c
 ·have:=h s t d (by omega) (by omega);omega
 ·exact b
 ·have:=h t s c (by omega) (by omega);omega
theorem iB.end_of{E:Nat->Nat}(h:iB E){s:Nat}(d:E s≠0):rD E (s+E s-1)=true/\∀j,s<=j->j<s+E s-1->rD E j=false:=by
 refine ⟨nS.2 ⟨s,d,by omega⟩,fun j f g=> ?_⟩
 cases hj:rD E j with
 |false=>rfl
 |true=>
  obtain ⟨t,e,i⟩:=nS.1 hj;rcases dC s t with c|a|b
  ·have:=h s t c d e;omega
  ·subst a;omega
  ·have:=h t s b e d;omega
theorem nI{E:Nat->Nat}{s i:Nat}(a:i<E s):aI E (s+i)=true:=cX.2 ⟨s,by omega,by omega⟩
theorem Fd{E:Nat->Nat}{s i:Nat}(e:i<=E s):Qb (aI E) 0 (s+i)=Qb (aI E) 0 s+i:=by
 rw [bJ (aI E) (aF s) (dK s i),oX (a:=s) (b:=s+i) (fun j c d=>by
  have:=nI (E:=E) (s:=s) (i:=j-s) (by omega);rwa [show s+(j-s)=j by omega] at this)]
 omega
theorem FJ{E:Nat->Nat}{a b:Nat}(h:∀s,E s≠0->s+E s<=a\/b<=s):∀j,a<=j->j<b->aI E j=false:=by
 intro j e f
 cases hj:aI E j with
 |false=>rfl
 |true=>
  obtain ⟨s,c,d⟩:=cX.1 hj;rcases h s (by omega) with h|h<;>omega
def goes(E:Nat->Nat)(Ba a:Nat):Nat:=Ba+Qb (aI E) 0 a
theorem pT{E:Nat->Nat}{Ba s i:Nat}(a:i<=E s):goes E Ba (s+i)=goes E Ba s+i:=by unfold goes;rw [Fd a];omega
theorem jZ{E:Nat->Nat}{Ba a b:Nat}(h:a<=b):goes E Ba a<=goes E Ba b:=by
 unfold goes;have:=il (aI E) (a:=0) h;omega
theorem sw{E:Nat->Nat}{Ba a:Nat}(h:∀s,E s≠0->Ba<=s)(c:Ba<=a):goes E Ba a<=a:=by
 unfold goes;rw [bJ (aI E) (aF Ba) c,cu (a:=0) (b:=Ba) (fun j _ f=>by
  cases hj:aI E j with
  |false=>rfl
  |true=>
   obtain ⟨s,d,e⟩:=cX.1 hj;have:=h s (by omega);omega)]
 have:=dR (aI E) Ba a;omega
def ec(E:Nat->Nat)(s n:Nat):Nat->Nat:=fun a=>if a=s then n else E a
theorem vP{E:Nat->Nat}(h:iB E){s n:Nat}(k:n≠0)(i:∀a,a<s->E a≠0->a+E a<=s)(j:∀b,s<=b->E b≠0->s+n<=b):iB (ec E s n):=by
 intro a b c e d;unfold ec at*;by_cases f:a=s
 ·subst f;rw [aG rfl];rw [aE (by omega)] at d;exact j b (by omega) d
 ·rw [aE f] at e ⊢;by_cases g:b=s
  ·subst g;exact i a c e
  ·rw [aE g] at d;exact h a b c e d
structure cF where
 m:Nat
 s:Nat
 gs:Nat
 e:Nat
 ge:Nat
def cF.has(L:cF)(k:Nat):Prop:=k=L.m\/k=L.s\/k=L.gs\/k=L.e\/k=L.ge
def cF.turns(L:cF)(k:Nat):Prop:=k=L.m\/k=L.gs\/k=L.ge
theorem cF.Qh{L:cF}{k:Nat}(h:L.turns k):L.has k:=by
 rcases h with h|h|h
 ·exact .inl h
 ·exact .inr (.inr (.inl h))
 ·exact .inr (.inr (.inr (.inr h)))
structure eJ(w:World)(L:cF)(W:Nat)(E:Nat->Nat):Prop where
 Qd:aJ w L.m [L.s,L.e,(((Qb (dj E) 0 W:Nat):Int):Int)] 215
 sv:∃ws,dv w L.s L.gs W ws/\∀j,bA ws j=dj E j
 ev:∃ws,dv w L.e L.ge W ws/\∀j,bA ws j=rD E j
 apart:iB E
 top:∀a,E a≠0->a+E a<=W
 d1:L.m≠L.gs
 d2:L.m≠L.ge
 d3:L.s≠L.ge
 d4:L.e≠L.gs
 d5:L.gs≠L.ge
 d6:L.s≠L.m
 d7:L.e≠L.m
theorem eJ.frame{S:Nat->Prop}{w w':World}{L:cF}{W:Nat}{E:Nat->Nat}(h:eJ w L W E)(hf:Fr S w w')(a:∀k,L.has k->¬S k):eJ w' L W E:=
 ⟨h.Qd.frame hf (a _ (.inl rfl)),let ⟨ws,b,c⟩:=h.sv;⟨ws,b.frame hf (a _ (.inr (.inl rfl))) (a _ (.inr (.inr (.inl rfl)))),c⟩,
  let ⟨ws,b,c⟩:=h.ev;⟨ws,b.frame hf (a _ (.inr (.inr (.inr (.inl rfl))))) (a _ (.inr (.inr (.inr (.inr rfl))))),c⟩,h.apart,h.top,h.d1,h.d2,h.d3,h.d4,h.d5,h.d6,h.d7⟩
theorem eJ.small{w:World}{L:cF}{W:Nat}{E:Nat->Nat}(h:eJ w L W E):1<=W/\W<=1048576:=let ⟨_,a,_⟩:=h.sv;⟨a.one,a.small⟩
theorem eJ.lt{w:World}{L:cF}{W:Nat}{E:Nat->Nat}(h:eJ w L W E):∀k,L.has k->k<w.heap.size:=by
 obtain ⟨ws,a,_⟩:=h.sv;obtain ⟨c,b,_⟩:=h.ev;rintro k (rfl|rfl|rfl|rfl|rfl)
 ·exact h.Qd.lt
 ·exact a.blt
 ·exact a.Yz
 ·exact b.blt
 ·exact b.Yz
theorem gX{w:World}{m s e:Nat}{v:Value}(h:aJ w m [s,.pointer (some ⟨e,0,none⟩),v] 215):Calls prog 200 #[m] w fun e w'=>e= .returned (.bool false)/\w=w':=by
 have a:=h.cell 0 rfl;clear h
 go_enter func200,ntmps200
 go_wp2;go_ret;exact ⟨rfl,rfl⟩
theorem gT{w:World}{L:cF}{W:Nat}{E:Nat->Nat}(h:eJ w L W E):Calls prog 136 #[L.m] w fun e w'=>e= .returned (W:Int)/\w=w':=by
 have c:=ae (gX h.Qd);have d:=h.Qd.cell 0 rfl;obtain ⟨ws,a,_⟩:=h.sv;have b:=ae (kY a);clear h a
 go_enter func136,ntmps136
 go_wp2_with fail
 refine c.out.mono ?_;rintro e w' ⟨rfl,rfl⟩;go_wp2_with fail
 refine b.out.mono ?_;rintro e w' ⟨rfl,rfl⟩;go_wp2;go_ret;exact ⟨rfl,rfl⟩
theorem qV{w:World}{L:cF}{W:Nat}{E:Nat->Nat}(h:eJ w L W E)(u:et w)(a:Nat)(q:E a≠0):Calls prog 222 #[L.m,(a:Int)] w fun e w'=>e= .returned (.int .i64 (E a:Int))/\w=w':=by
 have c1:=h.Qd.cell 1 rfl;obtain ⟨ws,p,g⟩:=h.ev;have r:=h.top a q;have y:=h.small;obtain ⟨c,d⟩:=h.apart.end_of q;have t:=ae (jW p u a (by omega));have b:∀e w',oc (bA ws) W a w e w'->e= .returned (.tuple #[(((a+E a-1:Nat):Int):Int),.bool true])/\w=w':=by
  rintro e w' ⟨hp,A⟩;refine ⟨?_,A⟩;rcases hp with ⟨j,f,rfl⟩|⟨f,rfl⟩
  ·have:j=a+E a-1:=by
    rcases dC j (a+E a-1) with l|i|k
    ·have:=d j f.1 l;rw [<-g,f.2.2.1] at this;cases this
    ·exact i
    ·have:=f.2.2.2 (a+E a-1) (by omega) k;rw [g,c] at this;cases this
   rw [this]
  ·have:=f (a+E a-1) (by omega) (by omega);rw [g,c] at this;cases this
 have o:=ae b;have s:((a+E a-1:Nat):Int)=(a:Int)+(E a:Int)-1:=by omega
 rw [s] at o;generalize E a=n at*;have v:(a:Int)<=1048576:=by omega
 have x:(n:Int)<=1048576:=by omega
 clear h p g c d b s
 go_enter func222,ntmps222
 go_wp2_with fail
 refine t.out.mono ?_;rintro e w' hp;obtain ⟨rfl,rfl⟩:=o.out _ _ hp;clear hp;go_wp2;go_ret;refine ⟨?_,rfl⟩;exact congrArg (fun z=>Ending.returned (z:Int)) (by omega)
def gx(E:Nat->Nat)(a:Nat)(w:World)(e:Ending)(w':World):Prop:=
 ((∃s n:Nat,s<=a/\E s=n/\a<s+n/\e= .returned (.tuple #[(s:Int),(n:Int),.bool true]))\/((∀s,s<=a->s+E s<=a)/\e= .returned (.tuple #[(0:Int),(0:Int),.bool false])))/\w=w'
theorem j6{w:World}{L:cF}{W:Nat}{E:Nat->Nat}(h:eJ w L W E)(x:et w)(a:Nat)(X:a<=1048576):Calls prog 243 #[L.m,(a:Int)] w (gx E a w):=by
 have D:=ae (gX h.Qd);have F:=ae (gT h);have V:=h.Qd.cell 0 rfl;have q:=h.small;have P:(a:Int)<=1048576:=by omega
 by_cases p:W<=a
 ·have g:gx E a w (.returned (.tuple #[(0:Int),(0:Int),.bool false])) w:=⟨.inr ⟨fun s H=>by
   by_cases i:E s=0
   ·omega
   ·have:=h.top s i;omega,rfl⟩,rfl⟩
  have k:=ae g;have y:(W:Int)<=(a:Int):=by omega
  generalize gx E a w=Q at*;clear h x g p q
  go_enter func243,ntmps243
  go_wp2_with fail
  refine D.out.mono ?_;rintro e w' ⟨rfl,rfl⟩;go_wp2_with fail
  refine F.out.mono ?_;rintro e w' ⟨rfl,rfl⟩;go_wp2
  go_ret3
  exact k.out
 ·obtain ⟨ws,G,r⟩:=h.sv;have C:=ae (yK G (a+1) (by omega) (by omega));rw [show ((a+1:Nat):Int)=(a:Int)+1 by omega] at C;have d:∀w',(∀j,j<a+1->bA ws j=false)->w=w'->gx E a w (.returned (.tuple #[(0:Int),(0:Int),.bool false])) w':=fun w' b R=>⟨.inr ⟨fun s H=>by
   by_cases i:E s=0
   ·omega
   ·have:=b s (by omega)
    (rw [r,eY.2 i] at this;cases this),rfl⟩,R⟩
  have f:∀j,wm (bA ws) (a+1) j->j<=a/\E j≠0/\E j<=1048576/\(a<j+E j->gx E a w (.returned (.tuple #[(j:Int),((E j:Int):Int),.bool true])) w)/\(j+E j<=a->gx E a w (.returned (.tuple #[(0:Int),(0:Int),.bool false])) w):=fun j b=>by
   have v:E j≠0:=by have:=b.2.1;rw [r] at this;exact eY.1 this
   have:=h.top j v;refine ⟨by have:=b.1;omega,v,by omega,fun c=>⟨.inl ⟨j,E j,by have:=b.1;omega,rfl,c,rfl⟩,rfl⟩,fun B=>⟨.inr ⟨fun s H=> ?_,rfl⟩,rfl⟩⟩;by_cases i:E s=0
   ·omega
   ·rcases dC s j with c|z|A
    ·have:=h.apart s j c i v;omega
    ·subst z;exact B
    ·have:=b.2.2 s A (by omega);rw [r,eY.2 i] at this;cases this
  have N:=ae (qV h x);have t:=ae d;have u:=ae f;have y:(a:Int)<(W:Int):=by omega
  generalize gx E a w=Q at*;clear h x G r d f p q
  go_enter func243,ntmps243
  go_wp2_with fail
  refine D.out.mono ?_;rintro e w' ⟨rfl,rfl⟩;go_wp2_with fail
  refine F.out.mono ?_;rintro e w' ⟨rfl,rfl⟩;go_wp2_with fail
  refine C.out.mono ?_;rintro e w' ⟨hp,rfl⟩;rcases hp with ⟨j,b,rfl⟩|⟨b,rfl⟩
  ·obtain ⟨Y,S,Z,I,J⟩:=u.out j b;have o:=ae (N.out j S);have M:=ae I;have K:=ae J;clear I J b;generalize E j=n at*;have T:(j:Int)<=(a:Int):=by omega
   have U:(n:Int)<=1048576:=by omega
   by_cases c:a<j+n
   ·have O:(a:Int)<(j:Int)+(n:Int):=by omega
    have l:=ae (M.out c);go_wp2_with fail
    refine o.out.mono ?_;rintro e w' ⟨rfl,rfl⟩;go_wp2
    go_ret3
    exact l.out
   ·have O:(j:Int)+(n:Int)<=(a:Int):=by omega
    have l:=ae (K.out (by omega));go_wp2_with fail
    refine o.out.mono ?_;rintro e w' ⟨rfl,rfl⟩;go_wp2
    go_ret3
    exact l.out
  ·have l:=ae (t.out _ b rfl);clear b;go_wp2
   go_ret3
   exact l.out
def gZ(E:Nat->Nat)(W a:Nat)(w:World)(e:Ending)(w':World):Prop:=
 ((∃s n:Nat,lu (dj E) a W s/\E s=n/\e= .returned (.tuple #[(s:Int),(n:Int),.bool true]))\/((∀s,a<=s->s<W->dj E s=false)/\e= .returned (.tuple #[(0:Int),(0:Int),.bool false])))/\w=w'
theorem oS{w:World}{L:cF}{W:Nat}{E:Nat->Nat}(h:eJ w L W E)(q:et w)(a:Nat)(A:a<=1048576):Calls prog 215 #[L.m,(a:Int)] w (gZ E W a w):=by
 have y:=ae (gX h.Qd);have C:=h.Qd.cell 0 rfl;have r:=h.small;have B:(a:Int)<=1048576:=by omega
 obtain ⟨ws,u,f⟩:=h.sv;have x:=ae (jW u q a A);have c:(∀j,a<=j->j<W->bA ws j=false)->gZ E W a w (.returned (.tuple #[(0:Int),(0:Int),.bool false])) w:=fun b=>⟨.inr ⟨fun s t g=>by rw [<-f];exact b s t g,rfl⟩,rfl⟩
 have d:∀j,lu (bA ws) a W j->E j≠0/\gZ E W a w (.returned (.tuple #[(j:Int),((E j:Int):Int),.bool true])) w:=fun j b=>
  ⟨by have:=b.2.2.1;rw [f] at this;exact eY.1 this,.inl ⟨j,E j,⟨b.1,b.2.1,by rw [<-f];exact b.2.2.1,fun k t g=>by rw [<-f];exact b.2.2.2 k t g⟩,rfl,rfl⟩,rfl⟩
 have z:=ae (qV h q);have i:=ae c;have o:=ae d;generalize gZ E W a w=Q at*;clear h q u f c d r
 go_enter func215,ntmps215
 go_wp2_with fail
 refine y.out.mono ?_;rintro e w' ⟨rfl,rfl⟩;go_wp2_with fail
 refine x.out.mono ?_;rintro e w' ⟨hp,rfl⟩;rcases hp with ⟨j,b,rfl⟩|⟨b,rfl⟩
 ·obtain ⟨g,v⟩:=o.out j b;have p:=ae (z.out j g);have l:=ae v;clear v b;generalize E j=n at*;go_wp2_with fail
  refine p.out.mono ?_;rintro e w' ⟨rfl,rfl⟩;go_wp2
  go_ret3
  exact l.out
 ·have l:=ae (i.out b);clear b;go_wp2
  go_ret3
  exact l.out
structure Gr where
 size:Nat->Nat
 Qr:Nat->List Nat
inductive Reach(G:Gr)(rs:List Nat):Nat->Prop
 |root {a:Nat}:a∈rs->a≠0->Reach G rs a
 |step {a p:Nat}:Reach G rs a->p∈G.Qr a->p≠0->Reach G rs p
theorem Reach.pos{G:Gr}{rs:List Nat}{a:Nat}(h:Reach G rs a):a≠0:=by cases h<;>assumption
structure gw(G:Gr)(rs:List Nat)(N:Nat):Prop where
 apart:iB G.size
 top:∀a,G.size a≠0->a+G.size a<=N
 root:∀a∈rs,a≠0->G.size a≠0
 ptr:∀a,G.size a≠0->∀p∈G.Qr a,p≠0->G.size p≠0
theorem gw.reach{G:Gr}{rs:List Nat}{N:Nat}(h:gw G rs N){a:Nat}(b:Reach G rs a):G.size a≠0:=by
 induction b with
 |root h1 h2=>exact h.root _ h1 h2
 |step _ h1 h2 ih=>exact h.ptr _ ih _ h1 h2
def fQ(G:Gr)(rs:List Nat)(E:Nat->Nat):Prop:=∀a,E a≠0->Reach G rs a/\E a=G.size a
def Ay(G:Gr)(E:Nat->Nat)(a:Nat):Prop:=∀p∈G.Qr a,p≠0->E p≠0
theorem fQ.none(G:Gr)(rs:List Nat):fQ G rs (fun _=>0):=fun _ h=>absurd rfl h
theorem fQ.put{G:Gr}{rs:List Nat}{E:Nat->Nat}(h:fQ G rs E){a:Nat}(d:Reach G rs a):fQ G rs (ec E a (G.size a)):=by
 intro b c;unfold ec at*;by_cases e:b=a
 ·subst e;rw [aG rfl];exact ⟨d,rfl⟩
 ·rw [aE e] at c ⊢;exact h b c
theorem fQ.Rm{G:Gr}{rs:List Nat}{E:Nat->Nat}{N a:Nat}(h:fQ G rs E)(d:gw G rs N)(e:G.size a≠0)(f:E a=0):
  (∀s,s<=a->s+E s<=a)/\(∀s,a<=s->E s≠0->a+G.size a<=s):=by
 constructor
 ·intro s g;by_cases b:E s=0
  ·omega
  ·by_cases c:s=a
   ·subst c;exact absurd f b
   ·rw [(h s b).2];exact d.apart s a (by omega) (by rw [<-(h s b).2];exact b) e
 ·intro s g b;by_cases c:s=a
  ·subst c;exact absurd f b
  ·exact d.apart a s (by omega) e (by rw [<-(h s b).2];exact b)
theorem xo{G:Gr}{rs:List Nat}{E:Nat->Nat}(c:∀a∈rs,a≠0->E a≠0)(b:∀a,E a≠0->Ay G E a){a:Nat}(h:Reach G rs a):E a≠0:=by
 induction h with
 |root h1 h2=>exact c _ h1 h2
 |step _ h1 h2 ih=>exact b _ ih _ h1 h2
theorem wj{G:Gr}{rs:List Nat}{E:Nat->Nat}(c:fQ G rs E)(d:∀a∈rs,a≠0->E a≠0)(b:∀a,E a≠0->Ay G E a)(a:Nat):E a≠0↔Reach G rs a:=
 ⟨fun h=>(c a h).1,xo d b⟩
theorem mQ{E:Nat->Nat}{a n N:Nat}(l:n≠0)(k:E a=0)(c:a<N):Qb (dj (ec E a n)) 0 N=Qb (dj E) 0 N+1:=by
 rw [bJ (dj (ec E a n)) (aF a) (d9 c),bJ (dj E) (aF a) (d9 c),
  cI (f:=dj (ec E a n)) (g:=dj E) (a:=0) (b:=a) (fun i _ h=>by unfold dj ec;rw [aE (by omega)])]
 have d:∀f:Nat->Bool,Qb f a N=(if f a then 1 else 0)+Qb f (a+1) N:=fun f=>by
  rw [bJ f (show a<=a+1 from fm a) (show a+1<=N from c),cr f (ak a),eS f (ak a),br]
 rw [d (dj (ec E a n)),d (dj E),cI (f:=dj (ec E a n)) (g:=dj E) (a:=a+1) (b:=N) (fun i h _=>by unfold dj ec;rw [aE (by omega)])];have e:dj (ec E a n) a=true:=eY.2 (by unfold ec;rw [aG rfl];exact l);have j:dj E a=false:=by unfold dj;rw [k];rfl
 rw [e,j];simp;omega
theorem vM{E:Nat->Nat}{s n:Nat}(a:n≠0)(j:Nat):dj (ec E s n) j=(dj E j||j==s):=by
 unfold dj ec;by_cases e:j=s
 ·subst e;simp [a]
 ·simp [e]
theorem Cq{E:Nat->Nat}{s n:Nat}(d:n≠0)(c:E s=0)(j:Nat):rD (ec E s n) j=(rD E j||j==s+n-1):=by
 rw [bS,b8,nS,nS,dz];constructor
 ·rintro ⟨t,a,b⟩;unfold ec at a b;by_cases e:t=s
  ·subst e;rw [aG rfl] at b;exact .inr (by omega)
  ·rw [aE e] at a b;exact .inl ⟨t,a,b⟩
 ·rintro (⟨t,a,b⟩|h)
  ·refine ⟨t,?_⟩;unfold ec;rw [aE (fun e=>a (by rw [e];exact c))];exact ⟨a,b⟩
  ·refine ⟨s,?_⟩;unfold ec;rw [aG rfl];exact ⟨d,by omega⟩
theorem ld(j:Nat):dj (fun _=>0) j=false:=rfl
theorem sB(j:Nat):rD (fun _=>0) j=false:=by
 rw [be,mN,nS];rintro ⟨t,h,_⟩;exact h rfl
theorem nR(W:Nat)(C:1<=W)(D:W<=1048576)(w:World):Calls prog 66 #[(W:Int)] w fun e w'=>∃L:cF,e= .returned (.tuple #[L.m,(0:Int)])/\eJ w' L W (fun _=>0)/\(∀k,L.has k->w.heap.size<=k)/\GM w w':=by
 have B:=ae (fun w=>xz W C D w);clear C D
 go_enter func66,ntmps66
 go_wp2_with fail
 refine (B.out _).mono ?_;rintro e w1 ⟨v,g1,rfl,t,n,r,p⟩;have d:=ae t;have l:=ae p;have z:=ae (ag n r);clear t p n r;go_wp2_with fail
 refine (B.out _).mono ?_;rintro e w2 ⟨x,y,rfl,u,o,s,q⟩;have f:=ae u;have c:=ae q;have A:=ae (ag o s);clear u q o s;go_wp2;go_ret2;have G:=d.out.blt;have H:=d.out.Yz;have I:=f.out.blt;have J:=f.out.Yz;have K:=l.out.size;have M:=c.out.size;have E:=z.out;have F:=A.out;have g:GM w2 (w2.alloc (.cells #[v,x,(0:Int)] 215)):=(GQ _ w2).alloc _;refine ⟨⟨w2.heap.size,v,g1,x,y⟩,rfl,⟨?_,⟨_,(d.out.frame c.out id id).frame g id id,fun j=>by rw [nV];rfl⟩,⟨_,f.out.frame g id id,fun j=>by rw [nV,sB]⟩,
  fun a b _ h=>absurd rfl h,fun a h=>absurd rfl h,by show w2.heap.size≠g1;omega,by show w2.heap.size≠y;omega,by show v≠y;omega,by show x≠g1;omega,by show g1≠y;omega,by show v≠w2.heap.size;omega,by show x≠w2.heap.size;omega⟩,?_,(l.out.trans c.out (fun _ h=> .inl h)).trans g (fun _ h=> .inl h)⟩
 ·rw [cu (fun i _ _=>ld i)];exact aJ.new w2 _ _
 ·rintro k (h|h|h|h|h)<;>(rw [h];dsimp only;omega)
theorem D9{w w1 w2 w3:World}{L:cF}{W a n:Nat}{E:Nat->Nat}(h:eJ w L W E)(p:n≠0)(t:E a=0)(o:iB (ec E a n))(l:a+n<=W)
  (v:∃ws,dv w1 L.s L.gs W ws/\∀j,bA ws j=(dj E j||j==a)) (g:Fr (fun k=>k=L.gs) w w1)
  (x:∃ws,dv w2 L.e L.ge W ws/\∀j,bA ws j=(rD E j||j==a+n-1)) (c:Fr (fun k=>k=L.ge) w1 w2)
  (u:w3=w2.setCell ⟨L.m,2,none⟩ (.int .i64 ((Qb (dj E) 0 W:Nat)+1))):eJ w3 L W (ec E a n)/\Fr L.turns w w3:=by
 have d:Fr (fun k=>k=L.m) w2 w3:=by rw [u];exact (GQ (fun k=>k=L.m) w2).setCell ⟨L.m,2,none⟩ (.inl rfl) _
 refine ⟨⟨?_,?_,?_,o,?_,h.d1,h.d2,h.d3,h.d4,h.d5,h.d6,h.d7⟩,?_⟩
 ·have f:=((h.Qd.frame g h.d1).frame c h.d2).set 2 (.int .i64 ((Qb (dj E) 0 W:Nat)+1));rw [mQ p t (by omega),u];exact f
 ·obtain ⟨ws,q,r⟩:=v;exact ⟨ws,(q.frame c h.d3 h.d5).frame d h.d6 (fun e=>h.d1 e.symm),fun j=>by rw [r,vM p]⟩
 ·obtain ⟨ws,q,r⟩:=x;exact ⟨ws,q.frame d h.d7 (fun e=>h.d2 e.symm),fun j=>by rw [r,Cq p t]⟩
 ·intro b f;unfold ec at f ⊢;by_cases e:b=a
  ·subst e;rw [aG rfl];exact l
  ·rw [aE e] at f ⊢;exact h.top b f
 ·exact ((g.mono (S':=L.turns) (fun k i=> .inl (.inr (.inl i)))).trans c (fun k i=> .inl (.inr (.inr i)))).trans d (fun k i=> .inl (.inl i))
theorem yg{w:World}{L:cF}{W:Nat}{E:Nat->Nat}(h:eJ w L W E)(H:et w)(a n:Nat)(hn:1<=n)(l:a+n<=W)(y:∀s,s<=a->s+E s<=a)(I:∀s,a<=s->E s≠0->a+n<=s):
  Calls prog 218 #[L.m,(a:Int),(n:Int)] w fun e w'=>e= .returned (0:Int)/\eJ w' L W (ec E a n)/\Fr L.turns w w':=by
 have HN:=ae (gX h.Qd);have Q:=ae (gT h);have O:=h.small;have Z:=ae (j6 h H a (by omega));have HX:=ae (oS h H a (by omega));have S:E a=0:=by have:=y a (ak a);omega
 have v:iB (ec E a n):=vP h.apart (by omega) (fun s hs _=>y s (by omega)) I;have d:∀e w',gx E a w e w'->e= .returned (.tuple #[(0:Int),(0:Int),.bool false])/\w=w':=by
  rintro e w' ⟨⟨s,k,o,z,r,_⟩|⟨_,q⟩,p⟩
  ·have:=y s o;omega
  ·exact ⟨q,p⟩
 have f:∀e w',gZ E W a w e w'->((∃s k:Nat,a+n<=s/\s<=1048576/\e= .returned (.tuple #[(s:Int),(k:Int),.bool true]))\/e= .returned (.tuple #[(0:Int),(0:Int),.bool false]))/\w=w':=by
  rintro e w' ⟨⟨s,k,o,z,r⟩|⟨_,q⟩,p⟩
  ·exact ⟨.inl ⟨s,k,I s o.1 (eY.1 o.2.2.1),by have:=o.2.1;omega,r⟩,p⟩
  ·exact ⟨.inr q,p⟩
 have c0:=h.Qd.cell 0 rfl;obtain ⟨ws,v1,v2⟩:=h.sv;obtain ⟨we,X,Y⟩:=h.ev;have D:=ae (xy v1 (show a<W by omega));have u:=ae (fun w1 (hf:Fr (fun k=>k=L.gs) w w1)=>(⟨(h.Qd.frame hf h.d1).cell 1 rfl,xy (X.frame hf h.d4 (fun e=>h.d5 e.symm)) (show a+n-1<W by omega)⟩:_/\_));have F:=ae (fun w1 w2 (hf:Fr (fun k=>k=L.gs) w w1) (g:Fr (fun k=>k=L.ge) w1 w2)=>(⟨((h.Qd.frame hf h.d1).frame g h.d2).cell 2 rfl,((h.Qd.frame hf h.d1).frame g h.d2).free 2⟩:_/\_));have i:∀w1 w2 w3 b c,dv w1 L.s L.gs W b->(∀j,bA b j=(bA ws j||j==a))->Fr (fun k=>k=L.gs) w w1->dv w2 L.e L.ge W c->(∀j,bA c j=(bA we j||j==a+n-1))->Fr (fun k=>k=L.ge) w1 w2->
   w3=w2.setCell ⟨L.m,2,none⟩ (.int .i64 ((Qb (dj E) 0 W:Nat)+1))->eJ w3 L W (ec E a n)/\Fr L.turns w w3:=fun w1 w2 w3 b c h1 h2 K h3 h4 g p=>
  D9 h (by omega) S v l ⟨b,h1,fun j=>by rw [h2 j,v2]⟩ K ⟨c,h3,fun j=>by rw [h4 j,Y]⟩ g p
 have t:=ae i;have A:=ae d;have B:=ae f;have J:=dR (dj E) 0 W;generalize Qb (dj E) 0 W=N at*;have b1:(a:Int)<(W:Int):=by omega
 have b2:(n:Int)<=(W:Int)-(a:Int):=by omega
 have b3:(W:Int)<=1048576:=by omega
 have b4:(N:Int)<=1048576:=by omega
 have b5:(1:Int)<=(n:Int):=by omega
 have T:((a+n-1:Nat):Int)=(a:Int)+(n:Int)-1:=by omega
 rw [T] at u;clear h H y I v d f i v1 v2 X Y T O l J S hn
 go_enter func218,ntmps218
 go_wp2_with fail
 refine HN.out.mono ?_;rintro e w' ⟨rfl,rfl⟩;go_wp2_with fail
 refine Q.out.mono ?_;rintro e w' ⟨rfl,rfl⟩;go_wp2_with fail
 refine Q.out.mono ?_;rintro e w' ⟨rfl,rfl⟩;go_wp2_with fail
 refine Z.out.mono ?_;rintro e w' hp;obtain ⟨rfl,rfl⟩:=A.out _ _ hp;clear hp;go_wp2_with fail
 refine HX.out.mono ?_;rintro e w' hp;obtain ⟨M,rfl⟩:=B.out _ _ hp;clear hp;rcases M with ⟨s,k,hs,ad,rfl⟩|rfl
 all_goals
  first
   |have af:(a:Int)+(n:Int)<=(s:Int):=by omega
    have ah:(s:Int)<=1048576:=by omega
   |skip
  go_wp2_with fail
  refine D.out.mono ?_;rintro e w1 ⟨rfl,b,o,z,r⟩;obtain ⟨c1,R⟩:=u.out w1 r;have x:=ae (ag o (ag z r));have G:=ae R;clear o z r R;go_wp2_with fail
  refine G.out.mono ?_;rintro e w2 ⟨rfl,c,U,V,P⟩;obtain ⟨c2,c3⟩:=F.out w1 w2 x.out.2.2 P;have C:=ae (ag U (ag V P));clear U V P;go_wp2;go_ret;exact ⟨rfl,t.out w1 w2 _ b c x.out.1 x.out.2.1 x.out.2.2 C.out.1 C.out.2.1 C.out.2.2 rfl⟩
theorem eJ.drew{w:World}{L:cF}{W:Nat}{E:Nat->Nat}(h:eJ w L W E):eJ w.drew L W E:=h.frame (S:=fun _=>False) ((GQ _ w).drew) (fun _ _ h=>h)
theorem yI{w w1 w2 w3:World}{L:cF}{W:Nat}{E:Nat->Nat}(h:eJ w L W E)
  (p:∃ws,dv w1 L.s L.gs W ws/\∀j,bA ws j=false) (f:Fr (fun k=>k=L.gs) w w1)
  (q:∃ws,dv w2 L.e L.ge W ws/\∀j,bA ws j=false) (c:Fr (fun k=>k=L.ge) w1 w2)
  (o:w3=w2.setCell ⟨L.m,2,none⟩ (.int .i64 0)):eJ w3 L W (fun _=>0)/\Fr L.turns w w3:=by
 have d:Fr (fun k=>k=L.m) w2 w3:=by rw [o];exact (GQ (fun k=>k=L.m) w2).setCell ⟨L.m,2,none⟩ (.inl rfl) _
 refine ⟨⟨?_,?_,?_,fun a b _ h=>absurd rfl h,fun a h=>absurd rfl h,h.d1,h.d2,h.d3,h.d4,h.d5,h.d6,h.d7⟩,?_⟩
 ·have r:=((h.Qd.frame f h.d1).frame c h.d2).set 2 (.int .i64 0);rw [cu (fun i _ _=>ld i),o];exact r
 ·obtain ⟨ws,l,n⟩:=p;exact ⟨ws,(l.frame c h.d3 h.d5).frame d h.d6 (fun e=>h.d1 e.symm),fun j=>by rw [n,ld]⟩
 ·obtain ⟨ws,l,n⟩:=q;exact ⟨ws,l.frame d h.d7 (fun e=>h.d2 e.symm),fun j=>by rw [n,sB]⟩
 ·exact ((f.mono (S':=L.turns) (fun k g=> .inl (.inr (.inl g)))).trans c (fun k g=> .inl (.inr (.inr g)))).trans d (fun k g=> .inl (.inl g))
theorem wW{w:World}{L:cF}{W:Nat}{v:Value}(h:aJ w L.m [L.s,L.e,v] 215){ws:List Nat}(a:dv w L.s L.gs W ws):Calls prog 136 #[L.m] w fun e w'=>e= .returned (W:Int)/\w=w':=by
 have c:=ae (gX h);have d:=h.cell 0 rfl;have b:=ae (kY a);clear h a
 go_enter func136,ntmps136
 go_wp2_with fail
 refine c.out.mono ?_;rintro e w' ⟨rfl,rfl⟩;go_wp2_with fail
 refine b.out.mono ?_;rintro e w' ⟨rfl,rfl⟩;go_wp2;go_ret;exact ⟨rfl,rfl⟩
theorem sI{f:Nat->Bool}{W:Nat}(h:∀j,W<=j->f j=false)(j:Nat):(f j&& !(decide (0<=j)&&decide (j<W)))=false:=by
 by_cases a:j<W
 ·simp [a]
 ·rw [h j (by omega)];rfl
theorem Ac{w:World}{L:cF}{W:Nat}{E:Nat->Nat}(h:eJ w L W E):Calls prog 138 #[L.m] w fun e w'=>e= .returned (.tuple #[])/\eJ w' L W (fun _=>0)/\Fr L.turns w w':=by
 have N:=ae (gX h.Qd);obtain ⟨ws,v1,v2⟩:=h.sv;obtain ⟨we,M,S⟩:=h.ev;have v:=ae (gT h.drew);have i:∀x,x=w.drew->Calls prog 202 #[L.s,(0:Int),(W:Int)] x fun e w'=>(∃V,e= .returned (V:Int))/\(∃a,dv w' L.s L.gs W a/\∀j,bA a j=false)/\Fr (fun k=>k=L.gs) w w':=by
  rintro x rfl;refine (rM v1.drew (F:=0) (T:=W) (aF _) (ak _)).mono ?_;rintro e w' ⟨A,a,B,C,D⟩;exact ⟨A,⟨a,B,fun j=>by rw [C];exact sI v1.off j⟩,((GQ (fun k=>k=L.gs) w).drew).trans D (fun _ h=> .inl h)⟩
 have q:=ae i;have l:∀w1,Fr (fun k=>k=L.gs) w w1->(∃a,dv w1 L.s L.gs W a/\∀j,bA a j=false)->(w1.drew.cell? ⟨L.m,1,none⟩=some L.e)/\Calls prog 136 #[L.m] w1.drew (fun e w'=>e= .returned (W:Int)/\w1.drew=w')/\
   ∀x,x=w1.drew->Calls prog 202 #[L.e,(0:Int),(W:Int)] x fun e w'=>(∃V,e= .returned (V:Int))/\(∃a,dv w' L.e L.ge W a/\∀j,bA a j=false)/\Fr (fun k=>k=L.ge) w1 w':=by
  rintro w1 hf ⟨X,R,_⟩;have J:=(h.Qd.frame hf h.d1);refine ⟨J.drew.cell 1 rfl,wW J.drew R.drew,?_⟩;rintro x rfl;have K:=(M.frame hf h.d4 (fun e=>h.d5 e.symm));refine (rM K.drew (F:=0) (T:=W) (aF _) (ak _)).mono ?_;rintro e w' ⟨A,a,B,C,D⟩;exact ⟨A,⟨a,B,fun j=>by rw [C];exact sI K.off j⟩,((GQ (fun k=>k=L.ge) w1).drew).trans D (fun _ h=> .inl h)⟩
 have r:=ae l;have n:∀w1 w2,Fr (fun k=>k=L.gs) w w1->Fr (fun k=>k=L.ge) w1 w2->w2.frozen? ⟨L.m,2,none⟩=false/\∃z,w2.cell? ⟨L.m,2,none⟩=some (z:Int):=fun w1 w2 hf b=>⟨((h.Qd.frame hf h.d1).frame b h.d2).free 2,_,((h.Qd.frame hf h.d1).frame b h.d2).cell 2 rfl⟩
 have t:=ae n;have f:=ae (fun w1 w2 w3 g c o b d=>yI (w1:=w1) (w2:=w2) (w3:=w3) h g c o b d);have O:w.drew.cell? L.m=some L.s:=h.Qd.drew.cell 0 rfl;clear h v1 v2 M S i l n
 go_enter func138,ntmps138
 go_wp2_with fail
 refine N.out.mono ?_;rintro e w' ⟨rfl,rfl⟩;go_wp2;refine bR (fun w'=>w'=w.drew) 6 rfl ?_;simp only [ai,an,aj,ao];refine aV [L.m,L.m,L.m] ?_
 iterate 3 (refine aW rfl (fun U Q=>by go_simp) ?_;simp only [aa])
 refine aU ?_;refine aA L.s rfl (fun w d=>by subst d;go_simp) ?_;simp only [aa];refine aA L.m rfl (fun w d=>by go_simp) ?_;simp only [aa];refine bT (.int .i64 W) 136 #[L.m] rfl (fun w=>by go_simp) (fun w d=>by subst d;exact v.out.mono fun e w' h=>⟨h.1,h.2.symm⟩) ?_;simp only [aa];refine wpQuiet_nil ?_;rintro w2 rfl;go_wp2_with fail
 refine (q.out _ rfl).mono ?_;rintro e w1 ⟨⟨V,rfl⟩,g,c⟩;obtain ⟨P,I,H⟩:=r.out w1 c g;have p:=ae (ag g c);have y:=ae I;have u:=ae H;clear g c I H O;go_wp2;refine bR (fun w'=>w'=w1.drew) 6 rfl ?_;simp only [ai,an,aj,ao];refine aV [L.m,L.m,.pointer (some ⟨L.m,1,none⟩)] ?_
 iterate 3 (refine aW rfl (fun U Q=>by go_simp) ?_;simp only [aa])
 refine aU ?_;refine aA L.e rfl (fun w d=>by subst d;go_simp) ?_;simp only [aa];refine aA L.m rfl (fun w d=>by go_simp) ?_;simp only [aa];refine bT (.int .i64 W) 136 #[L.m] rfl (fun w=>by go_simp) (fun w d=>by subst d;exact y.out.mono fun e w' h=>⟨h.1,h.2.symm⟩) ?_;simp only [aa];refine wpQuiet_nil ?_;rintro w4 rfl;go_wp2_with fail
 refine (u.out _ rfl).mono ?_;rintro e w5 ⟨⟨Y,rfl⟩,o,b⟩;obtain ⟨Z,z,c4⟩:=t.out w1 w5 p.out.2 b;have G:=ae (ag o b);clear o b P;go_wp2;go_end0;exact ⟨rfl,f.out w1 w5 _ p.out.1 p.out.2 G.out.1 G.out.2 rfl⟩
section
open Go.RowKit Go.Shelf
theorem Fr.putObj{S:Nat->Prop}{a w:World}(h:Fr S a w)(l:Nat)(o:Obj)(b:S l\/a.heap.size<=l):Fr S a (w.putObj l o):=
 ⟨h.os,h.tape,h.output,by show a.heap.size<=(w.putObj l o).heap.size;rw [World.putObj];simp;exact h.size,fun k d c=>(World.putObj_heap_other (fun e=>by subst e;rcases b with b|b;exact c b;omega)).trans (h.block k d c)⟩
theorem ep{d:Nat}{P:Program}{f:FuncId}{args:Array Value}{w:World}{R:Ending->World->Prop}(h:Calls P f args w R):Fence.wide.fn f/\(Fence.wide.depth.isSome=true->1<=d)/\CallsIn Fence.wide (d-1) P f args w R:=
 ⟨trivial,(fun h=>by cases h),callsIn_wide.2 h⟩
theorem vd{d k:Nat}{P:Program}{f:FuncId}{args:Array Value}{w:World}{R:Ending->World->Prop}(h:Calls P f args w R):(Fence.wide.inRound k).fn f/\((Fence.wide.inRound k).depth.isSome=true->1<=d)/\CallsIn (Fence.wide.inRound k) (d-1) P f args w R:=
 ⟨trivial,(fun h=>by cases h),(callsIn_wide (n:=d-1)).2 h⟩
theorem FQ{d a k l:Nat}{P:Program}{f:FuncId}{tmps:Array Value}{assign body:Code}{w:World}{R:Ending->World->Prop}(h:RoundIn Fence.wide d P l f tmps assign body w R):((Fence.wide.inRound k).depth.isSome=true->1<=a)/\RoundIn (Fence.wide.inRound k) (a-1) P l f tmps assign body w R:=
 ⟨(fun h=>by cases h),h.1,fun c cs _=>h.2 c cs (room_wide _)⟩
def CT{α:Type}(J:List α->(Nat->Prop)->World->Prop)(pre:List α)(S:Nat->Prop)(W W':World):Prop:=
 ∃S':Nat->Prop,J pre S' W'/\Fr S W W'/\∀k,S' k->S k\/W.heap.size<=k
def gE{α:Type}(B:Nat)(J:List α->(Nat->Prop)->World->Prop):Prop:=
 ∀pre S W1 W2 (T:Nat->Prop),J pre S W1->Fr T W1 W2->(∀k,T k->B<=k/\¬S k)->J pre S W2
theorem gE.mono{α:Type}{B b:Nat}{J:List α->(Nat->Prop)->World->Prop}(h:gE B J)(f:B<=b):gE b J:=
 fun a S W1 e T g hf d=>h a S W1 e T g hf (fun k c=>⟨aZ f (d k c).1,(d k c).2⟩)
theorem gE.Fh{α:Type}{B:Nat}{J:List α->(Nat->Prop)->World->Prop}(h:gE B J){a:List α}{S:Nat->Prop}{W1 b:World}(c:J a S W1)(hf:GM W1 b):J a S b:=
 h a S W1 b _ c hf GN
def tH{α:Type}(gf:Nat)(lb:Array Value)(encs:α->Array Value)(xs:List α)(R:World->Prop):Prop:=
 ∀(d l:Nat) (J:List α->(Nat->Prop)->World->Prop) (S₀:Nat->Prop) (W:World),gE W.heap.size J->(∀pre S W1,J pre S W1->R W1)->
  (∀pre S x W1,J pre S W1->xs[pre.length]? =some x->YieldAt Fence.wide (d-1) prog l (encs x) W1 fun e W'=>e= .returned (.bool true)/\CT J (pre++[x]) S W1 W')->
  (∀k,S₀ k->k<W.heap.size)->J [] S₀ W->
  CallsIn Fence.wide d prog gf (#[.func (.yield l) #[] #[]]++lb) W fun e W'=>(∃v,e= .returned v)/\∃S,J xs S W'
theorem iO{α:Type}{g:Operand}{ps:Array Tmp}{assign body:Code}{Q:Exit->Act->World->Prop}{a:Act}{w:World}{d:Nat}{gf:Nat}{lb:Array Value}
  (hg:a.eval g= .func (.func gf) #[] lb) (eg:∀args w,(callFunc gf args).run prog w= .ok (.enter gf args) w) {encs:α->Array Value} (ax:∀x,(encs x).size=ps.size)
  {xs:List α} {R:World->Prop} (aj:tH gf lb encs xs R) (I:List α->(Nat->Prop)->World->Prop) (m:Nat->Prop) (V:gE w.heap.size I) (hR:∀f S W,I f S W->R W) (L:∀k,m k->k<w.heap.size) (h0:I [] m w)
  (a₁:α->Act)
  (r:∀(l:Nat) (x:α) (W:World) (K:Act->World->Prop),K (a₁ x) W->
   assign.wpIn (Fence.wide.inRound l) (d-1-1) prog (Exit.then K (fun _ _ _=>False)) {tmps:=(ps.zip (encs x)).foldl (fun t (p,v)=>t.setIfInBounds p v) a.tmps,defers:=[]} W)
  (N:∀(l:Nat) (f:List α) (S:Nat->Prop) (x:α) (W:World),I f S W->xs[f.length]? =some x->Fr m w W->(∀k,S k->m k\/w.heap.size<=k)->body.wpIn (Fence.wide.inRound l) (d-1-1) prog
   (fun e _ W'=>e= .normal/\CT I (f++[x]) S W W') (a₁ x) W)
  (O:∀(D:Nat) (S:Nat->Prop) (W:World),I xs S W->W.heap[D]? =some (.deferred (some []))->w.heap.size<=D->¬S D->Fr m w W->(∀k,S k->m k\/w.heap.size<=k)->Q .normal {a with defers:={target:= .collected D,args:= #[]}::a.defers} W):
  (Code.rangeFunc g ps assign body).wpIn Fence.wide d prog Q a w:=by
 refine wpIn_rangeFunc ?_;intro fn ao;obtain ⟨i,b⟩:∃i:LoopState->Option Code->Loop,i=fun st pe=>{state:=st,pending:=pe,fn,tmps:=a.tmps,params:=ps,assign,body,defers:=w.heap.size}:=⟨_,rfl⟩
 obtain ⟨W1,q⟩:∃W1,(w.alloc (.deferred (some []))).alloc (.loop (i .ready none))=W1:=⟨_,rfl⟩;have an:W1.heap[w.heap.size+1]? =some (.loop (i .ready none)):=by
  rw [<-q];have:=World.alloc_heap_new (w.alloc (.deferred (some []))) (.loop (i .ready none));rwa [World.size_alloc] at this
 have am:W1.heap[w.heap.size]? =some (.deferred (some [])):=by
  rw [<-q];exact (Below.heap_alloc _ _ _ (by simp)).trans (World.alloc_heap_new w _)
 have Y:GM w W1:=by rw [<-q];exact ((GQ _ w).alloc _).alloc _
 have az:W1.heap.size=w.heap.size+2:=by rw [<-q];simp
 have al:I [] m W1:=V.Fh h0 Y;refine ⟨w.heap.size+1,[{target:= .collected w.heap.size,args:= #[]}],W1,{target:= .fn (.func gf) lb,args:= #[.func (.yield (w.heap.size+1)) #[] #[]]},W1,gf,
  #[.func (.yield (w.heap.size+1)) #[] #[]]++lb,W1,?_,?_,fun _ _=>trivial,?_,(fun h=>by cases h),?_⟩
 ·rw [<-q,b];exact run_enterLoop_outer _ _ _ _ _
 ·simp only [resolve,hg];simp [go_sem]
 ·simp [invoke,go_sem,eg]
 ·refine (aj (d-1) (w.heap.size+1)
   (fun f S W=>I f S W/\(W.heap[w.heap.size+1]? =some (.loop (i .ready none))/\W.heap[w.heap.size]? =some (.deferred (some [])))/\(¬S (w.heap.size+1)/\¬S w.heap.size)/\Fr m w W/\∀k,S k->m k\/w.heap.size<=k) m
   W1 ?_ (fun f S W h=>hR f S W h.1) ?_ (fun k c=>by have:=L k c;omega) ⟨al,⟨an,am⟩,⟨fun h=>by have:=L _ h;omega,fun h=>by have:=L _ h;omega⟩,Y.mono GN,fun k c=> .inl c⟩).mono ?_
  ·rintro f S A B T ⟨hi,⟨J,c⟩,y,hf,F⟩ E X;exact ⟨V f S A B T hi E (fun k c=>⟨by have:=(X k c).1;omega,(X k c).2⟩),⟨E.heap J (fun h=>by have:=(X _ h).1;omega),E.heap c (fun h=>by have:=(X _ h).1;omega)⟩,y,
    hf.trans E (fun k c=> .inr (by have:=(X k c).1;omega)),F⟩
  ·rintro f S x W ⟨hi,⟨J,c⟩,y,hf,F⟩ ah;have aw:w.heap.size+1<W.heap.size:=(bH.1 J).1;have hy:=run_yield (P:=prog) (args:=encs x) J (by rw [b];exact ax x);rw [b] at hy;refine ⟨fn,_,assign,body,hy,roundIn_of_wpIn ao (r _ x W _ ⟨_,run_beginRound J (by rw [b]),?_⟩)⟩;obtain ⟨n,M⟩:∃n,W.putObj (w.heap.size+1) (.loop {i .ready none with state:= .busy})=n:=⟨_,rfl⟩;have s:Fr (fun k=>k=w.heap.size+1) W n:=by rw [<-M];exact (GQ _ W).putObj _ _ (.inl rfl)
   have av:n.heap[w.heap.size+1]? =some (.loop {i .ready none with state:= .busy}):=by rw [<-M];exact World.putObj_heap_same aw
   have ar:n.heap[w.heap.size]? =some (.deferred (some [])):=s.heap c (by omega);have ap:I f S n:=V f S W n _ hi s (fun k c=>by subst c;exact ⟨by omega,y.1⟩);have H:Fr m w n:=hf.trans s (fun k c=> .inr (by omega));rw [M];refine wpIn_mono (N _ f S x _ ap ah H F) ?_;rintro e a3 z ⟨rfl,S',aq,C,G⟩;have af:=C.heap av y.1;have au:=C.heap ar y.2;have hr:=run_endRound (P:=prog) none af;rw [b] at hr;have aB:=s.size;have ai:¬S' (w.heap.size+1)/\¬S' w.heap.size:=⟨fun h=>by rcases G _ h with h|h;exact y.1 h;omega,fun h=>by rcases G _ h with h|h;exact y.2 h;omega⟩;have ay:∀k,S' k->m k\/w.heap.size<=k:=fun k c=>by
    rcases G k c with h|h
    ·exact F k h
    ·have:=hf.size;exact .inr (by omega)
   have j:Fr (fun k=>k=w.heap.size+1) z (z.putObj (w.heap.size+1) (.loop {i .ready none with state:= .ready})):=(GQ _ z).putObj _ _ (.inl rfl);have ad:Fr m w z:=H.trans C F;have U:(z.putObj (w.heap.size+1) (.loop {i .ready none with state:= .ready})).heap[w.heap.size+1]? =some (.loop (i .ready none)):=by
    have:=World.putObj_heap_same (w:=z) (o:= .loop {i .ready none with state:= .ready}) (bH.1 af).1;rw [this,b]
   refine ⟨_,_,hr,rfl,S',⟨?_,⟨?_,?_⟩,ai,?_,ay⟩,?_,?_⟩
   ·have:=V (f++[x]) S' z _ _ aq j (fun k c=>by subst c;exact ⟨by omega,ai.1⟩);rw [b] at this;exact this
   ·rw [b] at U;rw [b];exact U
   ·have:=j.heap au (by omega);rw [b] at this;exact this
   ·have:=ad.trans j (fun k c=> .inr (by omega));rw [b] at this;exact this
   ·have u:Fr (fun k=>S k\/k=w.heap.size+1) W (z.putObj (w.heap.size+1) (.loop {i .ready none with state:= .ready})):=((s.mono (S':=fun k=>S k\/k=w.heap.size+1) (fun k c=> .inl (.inr c))).trans C (fun k c=> .inl (.inl c))).trans j (fun k c=> .inl (.inr c));have Z:Fr S W (z.putObj (w.heap.size+1) (.loop {i .ready none with state:= .ready})):=⟨u.os,u.tape,u.output,u.size,fun k c F=>by
     by_cases e:k=w.heap.size+1
     ·subst e;rw [U,J]
     ·exact u.block k c (fun h=>by rcases h with h|h;exact F h;exact e h)⟩
    rw [b] at Z;exact Z
   ·intro k c;rcases G k c with h|h
    ·exact .inl h
    ·exact .inr (by omega)
  ·rintro e n ⟨⟨v,rfl⟩,S,hi,⟨J,c⟩,y,hf,F⟩;have j:∀o,Fr (fun k=>k=w.heap.size+1) n (n.putObj (w.heap.size+1) o):=fun o=>(GQ _ n).putObj _ _ (.inl rfl)
   exact ⟨none,_,by have:=run_endLoop (P:=prog) J (by rw [b];simp);rw [b] at this;exact this,O _ S _ (V xs S n _ _ hi (j _) (fun k c=>by subst c;exact ⟨by omega,y.1⟩)) ((j _).heap c (by omega)) (ak _) y.2 (hf.trans (j _) (fun k c=> .inr (by omega))) F⟩
end
section
open Go.RowKit Go.Shelf
def dQ(f:Nat->Bool)(a n:Nat):List Nat:=(List.range' a (n-a)).filter f
theorem uf{a j n:Nat}(c:a<=j)(d:j<n):List.range' a (n-a)=List.range' a (j-a)++j::List.range' (j+1) (n-(j+1)):=by
 have b:n-a=(j-a)+(n-j):=by omega
 rw [b,<-List.range'_append_1,show a+(j-a)=j by omega,show n-j=(n-(j+1))+1 by omega,List.range'_succ]
theorem rV{f:Nat->Bool}{a n j:Nat}(h:lu f a n j):dQ f a n=j::dQ f (j+1) n:=by
 unfold dQ;rw [uf h.1 h.2.1,List.filter_append,List.filter_cons_of_pos h.2.2.1];have:(List.range' a (j-a)).filter f=[]:=iq.2 (fun x b=>by
  rw [jN] at b;rw [h.2.2.2 x b.1 (by omega)];exact eW)
 rw [this,bZ]
theorem rU{f:Nat->Bool}{a n:Nat}(h:∀j,a<=j->j<n->f j=false):dQ f a n=[]:=iq.2 (fun x b=>by
 rw [jN] at b;rw [h x b.1 (by omega)];exact eW)
theorem qH{f:Nat->Bool}{a n x:Nat}:x∈dQ f a n↔a<=x/\x<n/\f x=true:=by
 unfold dQ;rw [ja,jN];exact ⟨fun ⟨⟨b,d⟩,c⟩=>⟨b,by omega,c⟩,fun ⟨b,d,c⟩=>⟨⟨b,by omega⟩,c⟩⟩
def DQ(i:Nat):Array Value:= #[(i:Int)]
def Ew(b g n tb:Nat)(f:Nat->Bool)(W:World):Prop:=(∃ws,dv W b g n ws/\∀j,bA ws j=f j)/\et W/\aJ W tb [b] 211
theorem zt{b g n tb:Nat}{f:Nat->Bool}(Y:n<=1048576):tH 262 #[tb] DQ (dQ f 0 n) (Ew b g n tb f):=by
 intro d l J O W K v L E D;refine callsIn_of_wp func262 rfl trivial ?_ rfl;simp only [ntmps262,cU,bn,ch,Nat.reduceAdd,Nat.reduceSub,cH,cG,de,cQ,bZ,dd];obtain ⟨⟨ws,z,a⟩,y,o⟩:=v _ _ _ D;have V:=o.cell 0 rfl;have s:=ae (jW z y 0 (by omega));rw [show ((0:Nat):Int)=0 from rfl,funext a] at s;have T:=ae K;have M:=ae v;have N:=ae L;have I:=ae D;clear K v L D z a y o E;gi_wp2;refine ep (s.out.mono ?_);rintro e w' ⟨hp,rfl⟩;have w:Hid (∃(i:Nat) (is:Bool),e= .returned (.tuple #[(i:Int),.bool is])/\i<=1048576/\(is=true->dQ f 0 n=i::dQ f (i+1) n/\i<n)/\(is=false->dQ f 0 n=[])):=by
  rcases hp with ⟨j,m,rfl⟩|⟨m,rfl⟩
  ·exact ⟨j,true,rfl,by have:=m.2.1;omega,fun _=>⟨rV m,m.2.1⟩,(fun h=>by cases h)⟩
  ·exact ⟨0,false,rfl,by omega,(fun h=>by cases h),fun _=>rU m⟩
 clear hp s;obtain ⟨i,is,rfl,G,hp⟩:=w.out;have t:=ae hp;clear hp w;gi_wp2
 gi_loopw [3,4] (fun p q wr=>∃(i:Nat) (is:Bool),p= .int .i64 i/\q= .bool is/\i<=1048576/\Hid (∃c S,J c S wr/\(is=true->dQ f 0 n=c++i::dQ f (i+1) n/\i<n)/\(is=false->dQ f 0 n=c)))
  (fun p q _=>match q with| .bool true=>n+1-(intOf p).toNat|_=>0)
 case atStart=>exact ⟨i,is,rfl,rfl,G,⟨[],O,I.out,t.out.1,t.out.2⟩⟩
 case round=>
  clear t I G;obtain ⟨i,is,rfl,rfl,G,B⟩:=hrel
  cases is with
  |false=>
   obtain ⟨c,S,m,_,r⟩:=B.out;have A:Hid (∃S,J (dQ f 0 n) S wr):=⟨S,by rw [r rfl];exact m⟩;clear B m r;gi_wp2;refine ⟨fun f h=>(by cases h),?_⟩;gi_wp2;go_end0;exact ⟨⟨_,rfl⟩,A.out⟩
  |true=>
   obtain ⟨c,S,m,r,_⟩:=B.out;obtain ⟨r,P⟩:=r rfl;obtain ⟨fn,tmps,assign,body,R,v⟩:=N.out c S i wr m (by rw [r];simp);unfold DQ at R;have x:=ae v;have A:=ae r;clear B m r v;gi_wp2;refine ⟨(fun h=>by cases h),x.out.mono ?_⟩;rintro e U ⟨rfl,S',u,F,H⟩;obtain ⟨⟨ws,z,a⟩,y,o⟩:=M.out _ _ _ u;have X:=o.cell 0 rfl;have s:=ae (jW z y (i+1) (by omega));rw [show ((i+1:Nat):Int)=(i:Int)+1 by omega,funext a] at s;have C:=ae u;clear z a y o u F H x;gi_wp2;refine ep (s.out.mono ?_);rintro e w' ⟨hp,rfl⟩;have w:Hid (∃(k:Nat) (is:Bool),e= .returned (.tuple #[(k:Int),.bool is])/\k<=1048576/\(is=true->(dQ f 0 n=(c++[i])++k::dQ f (k+1) n/\k<n)/\i<k)/\(is=false->dQ f 0 n=c++[i])):=by
    rcases hp with ⟨j,m,rfl⟩|⟨m,rfl⟩
    ·exact ⟨j,true,rfl,by have:=m.2.1;omega,fun _=>⟨⟨by rw [A.out,rV m];simp,m.2.1⟩,by have:=m.1;omega⟩,(fun h=>by cases h)⟩
    ·exact ⟨0,false,rfl,by omega,(fun h=>by cases h),fun _=>by rw [A.out,rU m]⟩
   clear hp s;obtain ⟨k,is,rfl,Q,hp⟩:=w.out;have t:=ae hp;clear hp w;gi_wp2;refine ⟨⟨k,is,rfl,rfl,Q,⟨c++[i],S',C.out,fun h=>(t.out.1 h).1,t.out.2⟩⟩,?_⟩
   cases is with
   |false=>simp [intOf];omega
   |true=>have:=(t.out.1 rfl).2;simp [intOf];omega
end
section
open Go.RowKit Go.Shelf
theorem yJ(b:Nat)(w:World):Calls prog 221 #[b] w fun e w'=>e= .returned (.func (.func 262) #[] #[w.heap.size])/\w'=w.alloc (.cells #[b] 211):=by
 go_enter func221,ntmps221
 go_wp2;go_ret;exact ⟨rfl,rfl⟩
theorem jv(b:Nat)(w:World):Calls prog 154 #[b] w fun e w'=>e= .returned (.func (.func 220) #[] #[w.heap.size])/\w'=w.alloc (.cells #[b] 132):=by
 go_enter func154,ntmps154
 go_wp2;go_ret;exact ⟨rfl,rfl⟩
def cS(E:Nat->Nat)(W:Nat):List (Nat×Nat):=(dQ (dj E) 0 W).map fun s=>(s,E s)
def mC(x:Nat×Nat):Array Value:= #[((x.1:Int):Int),((x.2:Int):Int)]
def rK(L:cF)(tb W:Nat)(E:Nat->Nat)(w:World):Prop:=eJ w L W E/\et w/\aJ w tb [L.m] 132
theorem E6{f:Nat->Nat×Nat}{xs a:List Nat}{x:Nat}(h:xs[a.length]? =some x):(xs.map f)[(a.map f).length]? =some (f x):=by
 rw [bL,aR,h];rfl
def ry(J:List (Nat×Nat)->(Nat->Prop)->World->Prop)(E:Nat->Nat)(l yb ob s:Nat)(pre:List Nat)(S:Nat->Prop)(W:World):Prop:=
 J (pre.map fun s=>(s,E s)) S W/\aJ W yb [.func (.yield l) #[] #[]] 302/\aJ W ob [.pointer (some ⟨s,0,none⟩)] 211/\¬S yb/\¬S ob
theorem ry.stays{J:List (Nat×Nat)->(Nat->Prop)->World->Prop}{E:Nat->Nat}{l c b s B:Nat}(d:gE B J)(n:c<B)(o:b<B):gE B (ry J E l c b s):=by
 rintro e S W1 m T ⟨f,g,i,j,k⟩ hf a;exact ⟨d _ _ _ _ _ f hf a,g.frame hf (fun h=>by have:=(a _ h).1;omega),i.frame hf (fun h=>by have:=(a _ h).1;omega),j,k⟩
theorem ry.rnd{J:List (Nat×Nat)->(Nat->Prop)->World->Prop}{E:Nat->Nat}{l k e s x:Nat}{a:List Nat}{S:Nat->Prop}{W d:World}(h:ry J E l k e s a S W)(m:CT J ((a.map fun s=>(s,E s))++[(x,E x)]) S W d):CT (ry J E l k e s) (a++[x]) S W d:=by
 obtain ⟨q,f,g,i,j⟩:=h;obtain ⟨S',n,b,c⟩:=m;have p:=f.lt;have o:=g.lt;exact ⟨S',⟨by rw [bD];exact n,f.frame b i,g.frame b j,fun h=>by rcases c _ h with h|h;exact i h;omega,fun h=>by rcases c _ h with h|h;exact j h;omega⟩,b,c⟩
section
attribute [local go_sem] Oper.semAt_some
theorem jw{L:cF}{tb W:Nat}{E:Nat->Nat}(hn:W<=1048576):tH 220 #[tb] mC (cS E W) (rK L tb W E):=by
 intro d l J U c V F hY G h0;refine callsIn_of_wp_marks func220 rfl trivial ?_ rfl;simp only [ntmps220,cU,bn,ch,Nat.reduceAdd,Nat.reduceSub,cH,cG,de,cQ,bZ,dd];obtain ⟨W1,g⟩:∃W1,c.alloc (.cells #[.func (.yield l) #[] #[]] 302)=W1:=⟨_,rfl⟩;have X:GM c W1:=by rw [<-g];exact (GQ _ c).alloc _
 have I:aJ W1 c.heap.size [.func (.yield l) #[] #[]] 302:=by rw [<-g];exact aJ.new c _ _
 have o:W1.heap.size=c.heap.size+1:=by rw [<-g];simp
 have u:=V.Fh h0 X;obtain ⟨y,O,j⟩:=F _ _ _ u;have c0:=j.cell 0 rfl;have c1:=y.Qd.cell 0 rfl;have HN:=ae (gX y.Qd);have HO:=ae (yJ L.s W1);have HX:=ae y;have N:=ae V;have HR:=ae F;have HY:=ae hY;have HJ:=ae u;have HW:=ae g;have z:=ae (ag I (ag o G));clear V F hY h0 O j y u I o G;gi_wp2;clear g;refine ep (HN.out.mono ?_);rintro e w' ⟨rfl,rfl⟩;gi_wp2;refine ep (HO.out.mono ?_);rintro e A ⟨rfl,p⟩;have t:GM W1 A:=by rw [p];exact (GQ _ W1).alloc _
 have ad:aJ A W1.heap.size [L.s] 211:=by rw [p];exact aJ.new W1 _ _
 have ai:A.heap.size=W1.heap.size+1:=by rw [p];simp
 have o:=z.out.2.1;have r:ry J E l c.heap.size W1.heap.size L.s [] U A:=⟨N.out.Fh HJ.out t,z.out.1.frame t id,ad,fun h=>by have:=z.out.2.2 _ h;omega,fun h=>by have:=z.out.2.2 _ h;omega⟩;have b:gE A.heap.size (ry J E l c.heap.size W1.heap.size L.s):=ry.stays (N.out.mono (by omega)) (by omega) (by omega);have v:∀k,U k->k<A.heap.size:=fun k Y=>by have:=z.out.2.2 _ Y;omega
 have a:∀q S w,ry J E l c.heap.size W1.heap.size L.s q S w->Ew L.s L.gs W W1.heap.size (dj E) w:=fun q S w h=>by
  obtain ⟨h1,h2,_⟩:=HR.out _ _ _ h.1;exact ⟨h1.sv,h2,h.2.2.1⟩
 have aj:=ae o;clear p c0 c1 o ai;gi_wp2;refine iO (gf:=262) (lb:= #[W1.heap.size]) rfl (enters_of func262 (by kernel_rfl) rfl) (encs:=DQ) (fun _=>rfl) (zt (f:=dj E) hn) (ry J E l c.heap.size W1.heap.size L.s) U b a v r
  (fun s=>{tmps:= #[.func (.yield l) #[] #[],tb,c.heap.size,(s:Int),L.m,.bool false,L.m,L.m,L.m,L.s,.func (.func 262) #[] #[W1.heap.size],(s:Int),undef,undef,undef,undef,undef,undef,undef],defers:=[]}) ?assign ?body ?done
 case assign=>
  intro k x W K C;unfold DQ;gi_wp2;exact C
 case body=>
  clear r b v a;intro k q S x W B i hf hs;obtain ⟨H,M,af,al,am⟩:=id B;obtain ⟨y,O,j⟩:=HR.out _ _ _ H;have ah:E x≠0:=eY.1 (qH.1 (aD i)).2.2;obtain ⟨fn,tmps,assign,body,hy,F⟩:=HY.out _ S (x,E x) W.drew (N.out.Fh H ((GQ _ W).drew)) (E6 i);have T:=ae (qV y.drew O x ah);have R:=ae F;have c0:W.drew.cell? c.heap.size=some (.func (.yield l) #[] #[]):=M.drew.cell 0 rfl;have c1:W.drew.cell? tb=some L.m:=j.drew.cell 0 rfl;have HE:=ae (fun W' (P:CT J ((q.map fun s=>(s,E s))++[(x,E x)]) S W.drew W')=>(ry.rnd B (let ⟨S',r1,r2,r3⟩:=P;⟨S',r1,((GQ S W).drew).trans r2 (fun _ h=> .inl h),r3⟩)));unfold mC at hy;clear B H M af y O j i hf hs F;generalize E x=n at*;gi_wp2;refine wpIn_region_any (by kernel_rfl) ?_;change wpAnyIn _ _ _ _ _ _ _ _ _ (World.drew _);generalize W.drew=W at*
  iterate 7 (all_goals (
   first|refine wpAnyIn_ready (rs:=[0,1,2,3]) (by decide+kernel) (by simp) ?_|refine wpAnyIn_ready (rs:=[0,1,2]) (by decide+kernel) (by simp) ?_|refine wpAnyIn_ready (rs:=[0,1,3]) (by decide+kernel) (by simp) ?_|refine wpAnyIn_ready (rs:=[0,2,3]) (by decide+kernel) (by simp) ?_|refine wpAnyIn_ready (rs:=[1,2,3]) (by decide+kernel) (by simp) ?_|refine wpAnyIn_ready (rs:=[0,1,4]) (by decide+kernel) (by simp) ?_|refine wpAnyIn_ready (rs:=[0,1]) (by decide+kernel) (by simp) ?_|refine wpAnyIn_ready (rs:=[0,2]) (by decide+kernel) (by simp) ?_|refine wpAnyIn_ready (rs:=[0,3]) (by decide+kernel) (by simp) ?_|refine wpAnyIn_ready (rs:=[1,2]) (by decide+kernel) (by simp) ?_|refine wpAnyIn_ready (rs:=[1,3]) (by decide+kernel) (by simp) ?_|refine wpAnyIn_ready (rs:=[2,3]) (by decide+kernel) (by simp) ?_|refine wpAnyIn_ready (rs:=[0,4]) (by decide+kernel) (by simp) ?_|refine wpAnyIn_ready (rs:=[0]) (by decide+kernel) (by simp) ?_|refine wpAnyIn_ready (rs:=[1,4]) (by decide+kernel) (by simp) ?_|refine wpAnyIn_ready (rs:=[1]) (by decide+kernel) (by simp) ?_|refine wpAnyIn_ready (rs:=[2]) (by decide+kernel) (by simp) ?_|refine wpAnyIn_ready (rs:=[3]) (by decide+kernel) (by simp) ?_|refine wpAnyIn_ready (rs:=[4]) (by decide+kernel) (by simp) ?_|refine wpAnyIn_ready (rs:=[5]) (by decide+kernel) (by simp) ?_|refine wpAnyIn_ready (rs:=[6]) (by decide+kernel) (by simp) ?_
   repeat' (first|exact AllReadyIn.nil|refine AllReadyIn.cons rfl (fun K C=> ?_) ?_)
   all_goals (
    go_simp
    first|refine C _ _ ?_|(refine vd (T.out.mono ?_);rintro e w' ⟨rfl,rfl⟩;refine C _ _ ?_)|(refine FQ (R.out.mono ?_);rintro e W3 ⟨rfl,P⟩;have Q:=ae (HE.out _ P);clear P;refine C _ _ ?_)
    clear C K)))
  all_goals (
   refine wpAnyIn_done (by kernel_rfl) ?_ _;gi_wp2;exact Q.out)
 case done=>
  intro D S W B hD ak Z hf hs;have H:=B.1;clear B r b v a;gi_wp2;refine ⟨by simp,.inl ⟨_,_,rfl,run_takeDeferred hD,?_⟩⟩;refine ⟨_,results_none rfl _ _ _,⟨_,rfl⟩,S,?_⟩;exact N.out _ _ _ _ (fun k=>k=D) H ((GQ _ W).putObj _ _ (.inl rfl)) (fun k Y=>by subst Y;exact ⟨by have:=z.out.2.1;have:=t.size;omega,Z⟩)
end
end
section
open Go.RowKit Go.Shelf
theorem AZ:∀w,(Go.sizeOf 46).run prog w= .ok 1 w:=fun w=>by rw [show 46=46 from rfl];exact Tryz.sizeOf46 w
theorem va{w:World}{b g n:Nat}{ws:List Nat}(h:dv w b g n ws)(c:Nat):Calls prog 291 #[.slice (some g) ws.length c] w fun e w'=>∃g' c' rest,e= .returned (.slice (some ⟨g',0,none⟩) ws.length c')/\ws.length<=c'/\aJ w' g' (ez ws++rest) 46/\w.heap.size<=g'/\GM w w':=by
 obtain ⟨z,s,f,i,k⟩:=info_parts nJ;have C:=h.len;have D:=h.small;have B:=h.one;refine (Tryz.slices_Clone_f291 z (.int .u64 0) 1 8 s f i k rfl (by decide) AZ g 0 ws.length c (ez ws) w (by unfold ez;simp) (by unfold maxLen;omega) (by omega) ?_ ?_).mono ?_
 ·intro j u d;unfold ez at d;rw [aR] at d
  cases hx:ws[j]? with
  |none=>rw [hx] at d;cases d
  |some x=>
   rw [hx] at d
   cases d
   have:=h.at hx;rwa [show 0+j=j by omega]
 ·intro u o;unfold ez at o;obtain ⟨x,_,rfl⟩:=bu.1 o;rfl
 ·rintro e w' ⟨E,rfl,⟨m,y⟩,v,p⟩;rcases y with ⟨_,A⟩|⟨g',cap,cur,rfl,hg,r,t,l,q,a⟩
  ·omega
  ·refine ⟨g',cap,cur.toList.drop ws.length,rfl,t,?_,hg,Fr.Yr p⟩;unfold aJ;rw [fK] at a;have:cur=(ez ws++cur.toList.drop ws.length).toArray:=by
    rw [<-a];simp
   rw [<-this];exact r
theorem CE{w w1 W:World}{b g g' n c':Nat}{ws:List Nat}{rest:List Value}(h:dv w b g n ws)(d:ws.length<=c')(a:aJ w1 g' (ez ws++rest) 46)(hg:w.heap.size<=g')(hf:GM w w1)
  (c:W=w1.alloc (.cells #[.slice (some g') ws.length c',(n:Int)] 289)):dv W w1.heap.size g' n ws/\w.heap.size<=w1.heap.size/\w.heap.size<=g'/\GM w W:=by
 subst c;have:=a.lt;exact ⟨⟨⟨c',d,aJ.new w1 _ _⟩,⟨rest,a.alloc _⟩,by omega,h.len,h.lt,h.one,h.small,h.off⟩,hf.size,hg,hf.alloc _⟩
theorem yM{w:World}{b g n:Nat}{ws:List Nat}(h:dv w b g n ws):Calls prog 283 #[b] w fun e w'=>∃s g',e= .returned (.pointer (some ⟨s,0,none⟩))/\dv w' s g' n ws/\w.heap.size<=s/\w.heap.size<=g'/\GM w w':=by
 obtain ⟨C,x,A⟩:=h.drew.c0;have c1:=h.drew.c1;have m:=ae (va h.drew C);have f:=ae (fun w1 W g' c' rest l j hg hf y=>CE (w1:=w1) (W:=W) (g':=g') (c':=c') (rest:=rest) h.drew l j hg hf y);have o:=ae (fun w' (hf:GM w.drew w')=>(h.drew.frame hf id id).c1);have c:=ae (((GQ (fun _=>False) w).drew));generalize ws.length=k at*;clear h x
 go_enter func283,ntmps283
 go_wp2;refine wp_region_any (by kernel_rfl) ?_;change wpAny _ _ _ _ _ _ _ (World.drew _);generalize z:w.drew=wd at*;refine GP 0 b rfl ?_;refine GP 1 b rfl ?_;refine GP 2 b rfl ?_;refine GP 5 b rfl ?_;refine GP 6 b rfl ?_;refine GP 7 (.pointer (some ⟨b,1,none⟩)) rfl ?_;simp only [Act.put];refine wpAny_ready (rs:=[3,8]) (by kernel_rfl) (by simp) ?_;refine AllReady.cons rfl (fun K a=> ?_) (AllReady.cons rfl (fun K a=> ?_) AllReady.nil)
 ·go_simp;refine a _ _ ?_;clear a K;refine wpAny_ready (rs:=[4,8]) (by kernel_rfl) (by simp) ?_;refine AllReady.cons rfl (fun K a=> ?_) (AllReady.cons rfl (fun K a=> ?_) AllReady.nil)
  ·go_simp;refine m.out.mono ?_;rintro e w1 ⟨g',c',rest,rfl,l,j,hg,hf⟩;have p:=o.out _ hf;have d:=ae (ag l (ag j (ag hg hf)));clear l j hg hf m o;refine a _ _ ?_;clear a K;refine GO 8 rfl fun K a=> ?_;go_simp;refine a _ _ ?_;clear a K;refine GO 9 rfl fun K a=> ?_;go_simp;refine a _ _ ?_;clear a K;refine GO 10 rfl fun K a=> ?_;go_simp;refine a _ _ ?_;clear a K;refine GO 11 rfl fun K a=> ?_;go_simp;refine a _ _ ?_;clear a K;refine wpAny_done (by kernel_rfl) ?_ _;go_wp2;go_ret;obtain ⟨q,t,u,r⟩:=f.out _ _ _ _ _ d.out.1 d.out.2.1 d.out.2.2.1 d.out.2.2.2 rfl;exact ⟨_,_,rfl,q,by have:=c.out.size;omega,by have:=c.out.size;omega,c.out.trans r (fun _ h=> .inl h)⟩
  ·go_simp;refine a _ _ ?_;clear a K;refine GO 4 rfl fun K a=> ?_;go_simp;refine m.out.mono ?_;rintro e w1 ⟨g',c',rest,rfl,l,j,hg,hf⟩;have p:=o.out _ hf;have d:=ae (ag l (ag j (ag hg hf)));clear l j hg hf m o;refine a _ _ ?_;clear a K;refine GO 9 rfl fun K a=> ?_;go_simp;refine a _ _ ?_;clear a K;refine GO 10 rfl fun K a=> ?_;go_simp;refine a _ _ ?_;clear a K;refine GO 11 rfl fun K a=> ?_;go_simp;refine a _ _ ?_;clear a K;refine wpAny_done (by kernel_rfl) ?_ _;go_wp2;go_ret;obtain ⟨q,t,u,r⟩:=f.out _ _ _ _ _ d.out.1 d.out.2.1 d.out.2.2.1 d.out.2.2.2 rfl;exact ⟨_,_,rfl,q,by have:=c.out.size;omega,by have:=c.out.size;omega,c.out.trans r (fun _ h=> .inl h)⟩
 ·go_simp;refine a _ _ ?_;clear a K;refine GO 3 rfl fun K a=> ?_;go_simp;refine a _ _ ?_;clear a K;refine GO 4 rfl fun K a=> ?_;go_simp;refine m.out.mono ?_;rintro e w1 ⟨g',c',rest,rfl,l,j,hg,hf⟩;have p:=o.out _ hf;have d:=ae (ag l (ag j (ag hg hf)));clear l j hg hf m o;refine a _ _ ?_;clear a K;refine GO 9 rfl fun K a=> ?_;go_simp;refine a _ _ ?_;clear a K;refine GO 10 rfl fun K a=> ?_;go_simp;refine a _ _ ?_;clear a K;refine GO 11 rfl fun K a=> ?_;go_simp;refine a _ _ ?_;clear a K;refine wpAny_done (by kernel_rfl) ?_ _;go_wp2;go_ret;obtain ⟨q,t,u,r⟩:=f.out _ _ _ _ _ d.out.1 d.out.2.1 d.out.2.2.1 d.out.2.2.2 rfl;exact ⟨_,_,rfl,q,by have:=c.out.size;omega,by have:=c.out.size;omega,c.out.trans r (fun _ h=> .inl h)⟩
end
theorem iP:(prog.info? 3).map (fun i=>(i.zero,i.size,i.bytes))=some (some (.int .i64 0),1,8):=by kernel_rfl
def tF(w:World)(T:TypeId)(b:Nat)(v:Value)(xs:List Int)(Rm Hg:Int)(lost:Bool):Prop:=
 aJ w b [v,(Rm:Int),(Hg:Int),.bool lost] T/\w.ownsRow 0 3 1 v xs.length (xs.map (.int .i64))/\v.ownBlock≠some b
theorem fW{w:World}{e:TypeId}{v:Value}{n:Nat}{xs:List Value}(h:w.ownsRow 0 e 1 v n xs):∃p cap,v= .slice p n cap:=by
 rcases h.2 with ⟨rfl,rfl⟩|⟨g,cap,cur,rfl,_⟩
 ·exact ⟨_,_,rfl⟩
 ·exact ⟨_,_,rfl⟩
theorem EU(Rm:Int)(w:World)(a:1<=Rm)(b:Rm<=4096):
  Calls prog 137 #[(Rm:Int)] w fun e w'=>e= .returned (.tuple #[w.heap.size,(0:Int)])/\w'=w.alloc (.cells #[.slice none 0 0,(Rm:Int),(0:Int),.bool false] 291):=by
 go_enter func137,ntmps137
 go_wp2;go_ret2;exact ⟨rfl,rfl⟩
theorem zh(b:Nat)(v:Value)(xs:List Int)(Rm Hg a:Int)(lost:Bool)(w:World)(h:tF w 291 b v xs Rm Hg lost)(m:Rm<=xs.length):
  Calls prog 249 #[b,(a:Int)] w fun e w'=>e= .returned (.bool false)/\tF w' 291 b v xs Rm Hg true/\Fr (fun k=>k=b) w w':=by
 obtain ⟨c,f,d⟩:=h;obtain ⟨p,cap,rfl⟩:=fW f;obtain ⟨i,c1,_,j,_⟩:=GR c;have l:=c.free 3
 go_enter func249,ntmps249
 go_wp2
 go_quiet (fail)
 go_wp2;go_ret;have hf:Fr (fun k=>k=b) w ((w.drewN nq).setCell ⟨b,3,none⟩ (.bool true)):=((GQ (fun k=>k=b) w).drewN _).setCell _ (.inl rfl) _;exact ⟨rfl,⟨(c.drewN nq).set 3 _,aO f hf (fun k g e=>d (by rw [g,e])),d⟩,hf⟩
theorem zg(b:Nat)(v:Value)(xs:List Int)(Rm Hg a:Int)(lost:Bool)(w:World)(h:tF w 291 b v xs Rm Hg lost)(L:xs.length<Rm)(K:Rm<=4096):
  Calls prog 249 #[b,(a:Int)] w fun e w'=>e= .returned (.bool true)/\∃C,tF w' 291 b C (xs++[a]) Rm (max Hg (xs.length+1)) lost/\
   Fr (fun k=>k=b\/v.ownBlock=some k) w w'/\(∀k,C.ownBlock=some k->v.ownBlock=some k\/w.heap.size<=k):=by
 obtain ⟨o,B,n⟩:=h;obtain ⟨p,cap,rfl⟩:=fW B;obtain ⟨E,s,y,z,A⟩:=info_parts iP;obtain ⟨F,c1,_⟩:=GS o;have D:=o.lt
 go_enter func249,ntmps249
 go_wp2
 go_quiet (fail)
 go_wp2_with (at_builtin;refine Hid.out ?_)
 unfold Hid;have f:GM w (((w.alloc (.cells #[(a:Int)] 3))).drewN nq):=((GQ (fun _=>False) w).alloc _).drewN nq;refine fd rfl _ _ 123 rfl 3 E (.int .i64 0) 8 underlying123 s y z A rfl (.slice p xs.length cap) xs.length (xs.map (.int .i64)) rfl (aO B f (fun _ _ h=>h)) ⟨w.heap.size,0,none⟩ _ (.int .i64 a) rfl (((aJ.new w [(a:Int)] 3).drewN nq).cell 0 rfl) rfl (by unfold maxLen;omega) (by omega) ?_;intro g c w1 t j l;have d:=(o.frame f id).frame j n;obtain ⟨G,_,H,_⟩:=GT d;have I:=d.free 0;have J:=d.free 2;go_wp2;refine pr 13 (by kernel_rfl) (by kernel_rfl) ?_;simp only [ai,an,aj,ao]
 repeat still_step
 refine wpStill_nil ?_;go_wp2
 all_goals
  go_ret;have r:∀x,Fr (fun k=>k=b\/(Value.slice p xs.length cap).ownBlock=some k) w (((w1.setCell b (.slice (some g) (xs.length+1) c)).setCell ⟨b,2,none⟩ (.int .i64 x)).drew):=fun x=>
   ((((f.mono GN).trans j (fun i s=> .inl (.inr s))).setCell b (.inl (.inl rfl)) _).setCell ⟨b,2,none⟩ (.inl (.inl rfl)) _).drew
  have m:g≠b:=by
   rcases l with h|h
   ·intro e;exact n (by rw [h,e])
   ·intro e;simp at h;omega
  have u:∀x,(((w1.setCell b (.slice (some g) (xs.length+1) c)).setCell ⟨b,2,none⟩ (.int .i64 x)).drew).ownsRow 0 3 1 (.slice (some g) (xs.length+1) c) (xs++[a]).length ((xs++[a]).map (.int .i64)):=fun x=>by
   have hf:Fr (fun k=>k=b) w1 (((w1.setCell b (.slice (some g) (xs.length+1) c)).setCell ⟨b,2,none⟩ (.int .i64 x)).drew):=
    (((GQ (fun k=>k=b) w1).setCell b (.inl rfl) _).setCell ⟨b,2,none⟩ (.inl rfl) _).drew
   have:=aO t hf (fun k q e=>m (by simp [Value.ownBlock] at q;omega))
   simpa using this
  refine ⟨rfl,.slice (some g) (xs.length+1) c,⟨?_,u _,by simp [Value.ownBlock,m]⟩,r _,?_⟩
  ·have:=((d.set 0 (.slice (some g) (xs.length+1) c)).set 2 (.int .i64 (max Hg (xs.length+1)))).drew
   first
    |exact this
    |(rw [show max Hg ((xs.length:Int)+1)=(xs.length:Int)+1 by omega] at this ⊢;exact this)
    |(rw [show max Hg ((xs.length:Int)+1)=Hg by omega] at this ⊢;exact this)
  ·intro k q;simp only [Value.ownBlock,aL] at q;subst q;rcases l with h|h
   ·exact .inl h
   ·exact .inr (by simp at h;omega)
theorem uB(b:Nat)(v:Value)(xs:List Int)(Rm Hg:Int)(lost:Bool)(w:World)(h:tF w 291 b v xs Rm Hg lost):
  Calls prog 276 #[b] w fun e w'=>e= .returned (xs.length:Int)/\w=w':=by
 obtain ⟨a,d,c⟩:=h;obtain ⟨p,cap,rfl⟩:=fW d;have f:=a.cell 0 rfl
 go_enter func276,ntmps276
 go_wp2;go_ret;exact ⟨rfl,rfl⟩
theorem FK(b:Nat)(v:Value)(xs:List Int)(Rm Hg:Int)(lost:Bool)(w:World)(h:tF w 291 b v xs Rm Hg lost)(m:Int)(a:(xs.length:Int)=m):
  Calls prog 276 #[b] w fun e w'=>e= .returned (m:Int)/\w=w':=by
 subst a;exact uB b v xs Rm Hg lost w h
theorem zI(b:Nat)(v:Value)(xs:List Int)(Rm Hg:Int)(lost:Bool)(w:World)(h:tF w 291 b v xs Rm Hg lost):
  Calls prog 205 #[b] w fun e w'=>e= .returned (.bool lost)/\w=w':=by
 obtain ⟨a,f,c⟩:=h;have d:=a.cell 3 rfl
 go_enter func205,ntmps205
 go_wp2;go_ret;exact ⟨rfl,rfl⟩
theorem wN(b:Nat)(v:Value)(xs:List Int)(Rm Hg:Int)(lost:Bool)(w:World)(h:tF w 291 b v xs Rm Hg lost):
  Calls prog 206 #[b] w fun e w'=>e= .returned (.tuple #[])/\tF w' 291 b v xs Rm Hg false/\Fr (fun k=>k=b) w w':=by
 obtain ⟨c,f,a⟩:=h;have g:=c.cell 3 rfl;have i:=c.free 3
 go_enter func206,ntmps206
 go_wp2;go_end0;have hf:Fr (fun k=>k=b) w (w.setCell ⟨b,3,none⟩ (.bool false)):=(GQ (fun k=>k=b) w).setCell _ (.inl rfl) _;exact ⟨rfl,⟨c.set 3 _,aO f hf (fun k d e=>a (by rw [d,e])),a⟩,hf⟩
theorem Bj(b:Nat)(v:Value)(Rm Hg:Int)(lost:Bool)(w:World)(h:tF w 291 b v [] Rm Hg lost):
  Calls prog 250 #[b] w fun e w'=>e= .returned (.tuple #[(0:Int),.bool false])/\w=w':=by
 go_enter func250,ntmps250
 go_wp2_with (go_at_call 276;refine (uB b v [] Rm Hg lost _ h).mono ?_;rintro e w' ⟨rfl,rfl⟩)
 go_ret2;exact ⟨rfl,rfl⟩
theorem ks{w:World}{e:TypeId}{g n cap:Nat}{xs:List Value}{x:Value}(h:w.ownsRow 0 e 1 (.slice (some g) (n+1) cap) (n+1) (xs++[x])):
  w.ownsRow 0 e 1 (.slice (some g) n cap) n xs/\w.cell? ⟨g,n,none⟩=some x:=by
 have j:=h.1;have b:xs.length=n:=by simpa using j
 rcases h.2 with ⟨h,_⟩|⟨g',f,cur,m,i,hg,k,d,c,a⟩
 ·cases h
 ·cases m
  simp only [fK] at a c;refine ⟨⟨by simp [b],.inr ⟨g,cap,cur,rfl,i,hg,by omega,d,by simpa using c,?_⟩⟩,?_⟩
  ·have:=congrArg (List.take n) a;rw [lQ,show min n (n+1)=n by omega,kN b] at this
   simpa using this
  ·rw [cell_of_row w g n cur e (0,0) hg];have:=congrArg (fun l=>l[n]?) a;rw [<-b] at this ⊢
   simpa using this
theorem Bi(b:Nat)(v:Value)(xs:List Int)(x Rm Hg:Int)(lost:Bool)(w:World)(h:tF w 291 b v (xs++[x]) Rm Hg lost)(z:xs.length<4096):
  Calls prog 250 #[b] w fun e w'=>e= .returned (.tuple #[(x:Int),.bool true])/\∃m,tF w' 291 b m xs Rm Hg lost/\
   Fr (fun k=>k=b) w w'/\m.ownBlock=v.ownBlock:=by
 have n:=h;obtain ⟨d,c,a⟩:=h;simp only [aH,bn,ch,bD,cW,kF,br] at c;obtain ⟨g,cap,rfl⟩:∃g cap,v= .slice (some ⟨g,0,none⟩) (xs.length+1) cap:=by
  rcases c.2 with ⟨_,h⟩|⟨g,cap,cur,rfl,_⟩
  ·omega
  ·exact ⟨_,_,rfl⟩
 have i:xs.length+1<=cap/\cap<=maxLen:=by
  rcases c.2 with ⟨h,_⟩|⟨g',l,cur,s,_,_,o,p,_⟩
  ·cases h
  ·cases s;exact ⟨o,p⟩
 obtain ⟨q,f⟩:=i;unfold maxLen at f;obtain ⟨j,u⟩:=ks c;have t:=d.cell 0 rfl;have y:=d.free 0;have hp:0<=(xs.length:Int):=by omega
 have A:((((xs.length:Int)+1)==0)=false):=by rw [aT];omega
 go_enter func250,ntmps250
 go_wp2_with (go_at_call 276;refine (FK b _ _ Rm Hg lost _ n ((xs.length:Int)+1) (by simp)).mono ?_;rintro e w' ⟨rfl,rfl⟩)
 go_ret2;refine ⟨rfl,.slice (some g) xs.length cap,⟨d.set 0 _,?_,a⟩,(GQ (fun k=>k=b) w).setCell b (.inl rfl) _,rfl⟩;exact aO j ((GQ (fun k=>k=b) w).setCell b (.inl rfl) _) (fun k r e=>a (by subst e;exact r))
end Go.Proofs.YthahbijbpinneaaGreatDoor
