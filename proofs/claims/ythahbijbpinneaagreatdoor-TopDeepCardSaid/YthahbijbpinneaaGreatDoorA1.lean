import Derived.Test.YthahbijbpinneaaGreatDoorA0
import Derived.Laws.MakeOwn
import Derived.Shelf.Abstract
set_option maxRecDepth 100000
set_option maxHeartbeats 8000000
set_option linter.all false
namespace Go.Proofs.YthahbijbpinneaaGreatDoor
open Go.RowKit
def yj (n unit:Int):Prop:=aL unit=true∧unit<=1073741824∧0<=n∧n<=1152921504606846976
theorem eb (n:Int) (a:n<=9223372036854775807) (B:Bool) (b:aL n=B) (w:World):
  Calls Tryz.prog 235 #[.int .i64 n] w fun e w'=>e= .returned (.bool B)∧w=w':=by subst b;exact tl n a w
theorem zT {n a:Int} (h:¬yj n a):aL a=false∨(aL a=true∧1073741824<a)∨(aL a=true∧a<=1073741824∧n<0)∨(aL a=true∧a<=1073741824∧0<=n∧1152921504606846976<n):=by
 unfold yj at h
 cases hp:aL a with
 |false=>exact .inl rfl
 |true=>
  right;by_cases b:a<=1073741824
  ·by_cases c:0<=n
   ·exact .inr (.inr ⟨rfl,b,c,by simp only [hp,true_and] at h;omega⟩)
   ·exact .inr (.inl ⟨rfl,b,by omega⟩)
  ·exact .inl ⟨rfl,by omega⟩
theorem xo (n a:Int) (f:a<=9223372036854775807) (h:¬yj n a) (w:World):
  Calls Tryz.prog 270 #[.int .i64 n,.int .i64 a] w fun e w'=>e= .returned (.bool false)∧w=w':=by
 rcases zT h with h|⟨h,b⟩|⟨h,b,d⟩|⟨h,b,d,g⟩
 all_goals
  have c:=ae h;clear h
  go_enter Tryz.func270,Tryz.ntmps270
  go_wp2_with (go_at_call 235;refine (eb a f _ c.out _).mono ?_;rintro e w' ⟨rfl,rfl⟩)
  go_ret
  first|exact ⟨rfl,rfl⟩|exact ⟨by simp;omega,rfl⟩
theorem uI (n a:Int) (h:yj n a) (w:World):
  Calls Tryz.prog 270 #[.int .i64 n,.int .i64 a] w fun e w'=>e= .returned (.bool true)∧w=w':=by
 obtain ⟨h,c,d,f⟩:=h;have b:=ae h;clear h
 go_enter Tryz.func270,Tryz.ntmps270
 go_wp2_with (go_at_call 235;refine (eb a (by omega) _ b.out _).mono ?_;rintro e w' ⟨rfl,rfl⟩)
 go_ret
 first|exact ⟨rfl,rfl⟩|exact ⟨by simp;omega,rfl⟩
noncomputable def gC (n unit:Int) (up:Bool):Int:=
 open Classical in if yj n unit then (if up then (n+unit-1)/unit*unit else n/unit*unit) else-1
theorem tx {n a:Int} (h:yj n a):∃N k:Nat,n=N∧a=((2^k:Nat):Int)∧k<=30∧N<=1152921504606846976∧2^k<=1073741824∧1<=2^k:=by
 obtain ⟨h,f,d,g⟩:=h;obtain ⟨i,j,rfl⟩:=(dn a).1 h;obtain ⟨N,rfl⟩:=Int.eq_ofNat_of_zero_le d;have e:((2^i:Nat):Int)=2^i:=by simp
 have c:2^i<=1073741824:=by omega
 have b:i<=30:=by
  rcases Nat.lt_or_ge 30 i with h|h
  ·have:2^31<=2^i:=Nat.pow_le_pow_right (by decide) h;omega
  ·exact h
 exact ⟨N,i,rfl,e.symm,b,by omega,c,Nat.one_le_two_pow⟩
theorem zh (n a:Int) (i:a<=9223372036854775807) (w:World):
  Calls Tryz.prog 240 #[.int .i64 n,.int .i64 a] w fun e w'=>e= .returned (.int .i64 (gC n a true))∧w=w':=by
 by_cases h:yj n a
 ·have b:gC n a true=(n+a-1)/a*a:=by unfold gC;rw [if_pos h];rfl
  rw [b];have hf:=ae h;obtain ⟨N,k,rfl,rfl,f,j,hp,g⟩:=tx h;have c:=jV (N+2^k-1) (2^k-1) (by omega) (by omega);rw [me (N+2^k-1) k (by omega) f] at c;have d:(((N+2^k-1)/2^k*2^k:Nat):Int)=((N:Int)+(2^k:Nat)-1)/(2^k:Nat)*(2^k:Nat):=by
   rw [Int.natCast_mul,Int.natCast_ediv,show ((N+2^k-1:Nat):Int)=(N:Int)+(2^k:Nat)-1 by omega]
  rw [d,show ((N+2^k-1:Nat):Int)=(N:Int)+(2^k:Nat)-1 by omega,show ((2^k-1:Nat):Int)=((2^k:Nat):Int)-1 by omega] at c;clear b h d;generalize 2^k=u at*;generalize ((N:Int)+u-1)/u*u=r at*
  go_enter Tryz.func240,Tryz.ntmps240
  go_wp2_with (go_at_call 270;refine (uI _ _ hf.out _).mono ?_;rintro e w' ⟨rfl,rfl⟩)
  go_ret;exact ⟨rfl,rfl⟩
 ·have b:gC n a true= -1:=by unfold gC;rw [if_neg h]
  rw [b];have hf:=ae h;clear b h
  go_enter Tryz.func240,Tryz.ntmps240
  go_wp2_with (go_at_call 270;refine (xo _ _ i hf.out _).mono ?_;rintro e w' ⟨rfl,rfl⟩)
  go_ret;exact ⟨rfl,rfl⟩
def eJ (f:Nat->Bool) (a:Nat):Nat->Nat
 |0=>0
 |k+1=>eJ f a k+(if f (a+k) then 1 else 0)
def cnt (f:Nat->Bool) (a b:Nat):Nat:=eJ f a (b-a)
theorem bG (f:Nat->Bool) {a b:Nat} (h:b<=a):cnt f a b=0:=by unfold cnt;rw [show b-a=0 by omega];rfl
theorem aC (f:Nat->Bool) {a b:Nat} (h:a<=b):cnt f a (b+1)=cnt f a b+(if f b then 1 else 0):=by
 unfold cnt;rw [show b+1-a=(b-a)+1 by omega];show eJ f a (b-a)+(if f (a+(b-a)) then 1 else 0)=_
 rw [show a+(b-a)=b by omega]
theorem nA (f:Nat->Bool) (a k:Nat):∀m,eJ f a (k+m)=eJ f a k+eJ f (a+k) m
 |0=>rfl
 |m+1=>by
  show eJ f a (k+m)+(if f (a+(k+m)) then 1 else 0)=eJ f a k+(eJ f (a+k) m+(if f (a+k+m) then 1 else 0))
  rw [nA f a k m,Nat.add_assoc a k m,Nat.add_assoc]
theorem ay (f:Nat->Bool) {a m b:Nat} (c:a<=m) (d:m<=b):cnt f a b=cnt f a m+cnt f m b:=by
 unfold cnt;rw [show b-a=(m-a)+(b-m) by omega,nA,show a+(m-a)=m by omega]
theorem qW (f:Nat->Bool) (a:Nat):∀k,eJ f a k<=k
 |0=>Nat.le_refl _
 |k+1=>by
  have:=qW f a k;show eJ f a k+_<=_
  split<;>omega
theorem be (f:Nat->Bool) (a b:Nat):cnt f a b<=b-a:=qW f a (b-a)
theorem jJ {f g:Nat->Bool} {a:Nat}:∀k,(∀i,a<=i->i<a+k->f i=g i)->eJ f a k=eJ g a k
 |0,_=>rfl
 |k+1,h=>by
  show eJ f a k+(if f (a+k) then 1 else 0)=eJ g a k+(if g (a+k) then 1 else 0)
  rw [jJ k (fun i b c=>h i b (by omega)),h (a+k) (by omega) (by omega)]
theorem aK {f g:Nat->Bool} {a b:Nat} (h:∀i,a<=i->i<b->f i=g i):cnt f a b=cnt g a b:=
 jJ (b-a) (fun i c d=>h i c (by omega))
theorem cZ (f:Nat->Bool) {a b c:Nat} (h:b<=c):cnt f a b<=cnt f a c:=by
 by_cases d:a<=b
 ·rw [ay f d h];omega
 ·rw [bG f (by omega)];omega
theorem aE {f:Nat->Bool} {a b:Nat} (h:∀i,a<=i->i<b->f i=false):cnt f a b=0:=by
 rw [aK (g:=fun _=>false) h];unfold cnt;generalize b-a=k
 induction k with
 |zero=>rfl
 |succ k ih=>show eJ _ a k+_=0;rw [ih];rfl
theorem iF {f:Nat->Bool} {a b:Nat} (h:∀i,a<=i->i<b->f i=true):cnt f a b=b-a:=by
 rw [aK (g:=fun _=>true) h];unfold cnt;generalize b-a=k
 induction k with
 |zero=>rfl
 |succ k ih=>show eJ _ a k+_=k+1;rw [ih];rfl
theorem mz (f:Nat->Bool) (a:Nat):∀(b k:Nat),k<cnt f a b->∃i,a<=i∧i<b∧f i=true∧cnt f a i=k
 |0,k,h=>by rw [bG f (Nat.zero_le a)] at h;omega
 |b+1,k,h=>by
  by_cases c:a<=b
  ·rw [aC f c] at h;by_cases j:k<cnt f a b
   ·obtain ⟨i,d,l,e,g⟩:=mz f a b k j;exact ⟨i,d,by omega,e,g⟩
   ·split at h
    ·rename_i hf;exact ⟨b,c,by omega,hf,by omega⟩
    ·omega
  ·rw [bG f (by omega)] at h;omega
theorem ke {f:Nat->Bool} {a i j:Nat} (m:a<=i) (n:a<=j) (k:f i=true) (l:f j=true) (h:cnt f a i=cnt f a j):i=j:=by
 rcases Nat.lt_trichotomy i j with g|d|e
 ·have:=cZ f (a:=a) (b:=i+1) (c:=j) g;rw [aC f m,if_pos k] at this;omega
 ·exact d
 ·have:=cZ f (a:=a) (b:=j+1) (c:=i) e;rw [aC f n,if_pos l] at this;omega
theorem iE {f:Nat->Bool} {a i b:Nat} (g:a<=i) (e:i<b) (d:f i=true):cnt f a i<cnt f a b:=by
 have:=cZ f (a:=a) (b:=i+1) (c:=b) e;rw [aC f g,if_pos d] at this;omega
def fD (f:Nat->Bool) (a n i:Nat):Prop:=a<=i∧i<n∧f i=true∧∀j,a<=j->j<i->f j=false
def bB (ws:List Nat):List Value:=ws.map fun (x:Nat)=>Value.int .u64 x
def aw (ws:List Nat) (i:Nat):Bool:=(ws.getD (i/64) 0).testBit (i% 64)
structure aW (w:World) (b g n:Nat) (ws:List Nat):Prop where
 blk:∃c,ws.length<=c∧aj w b [.slice (some ⟨g,0,none⟩) ws.length c,.int .i64 n] 289
 row:∃rest,aj w g (bB ws++rest) 46
 ne:b≠g
 len:ws.length=(n+63)/64
 lt:∀x∈ws,x<18446744073709551616
 one:1<=n
 small:n<=1048576
 off:∀i,n<=i->aw ws i=false
theorem aW.frame {S:Nat->Prop} {w w':World} {b g n:Nat} {ws:List Nat} (h:aW w b g n ws) (hf:Fr S w w') (a:¬S b) (hg:¬S g):aW w' b g n ws:=
 ⟨let ⟨c,d,e⟩:=h.blk;⟨c,d,e.frame hf a⟩,let ⟨r,q⟩:=h.row;⟨r,q.frame hf hg⟩,h.ne,h.len,h.lt,h.one,h.small,h.off⟩
theorem aW.c0 {w:World} {b g n:Nat} {ws:List Nat} (h:aW w b g n ws):∃c,ws.length<=c∧w.cell? ⟨b,0,none⟩=some (.slice (some ⟨g,0,none⟩) ws.length c):=let ⟨c,a,d⟩:=h.blk;⟨c,a,d.cell 0 rfl⟩
theorem aW.c1 {w:World} {b g n:Nat} {ws:List Nat} (h:aW w b g n ws):w.cell? ⟨b,1,none⟩=some (.int .i64 n):=let ⟨_,_,a⟩:=h.blk;a.cell 1 rfl
theorem aW.at {w:World} {b g n K x:Nat} {ws:List Nat} (h:aW w b g n ws) (a:ws[K]? =some x):w.cell? ⟨g,K,none⟩=some (.int .u64 x):=by
 obtain ⟨r,q⟩:=h.row;have c:=(List.getElem?_eq_some_iff.1 a).1;exact q.cell K (by rw [List.getElem?_append_left (by unfold bB;rw [List.length_map];exact c)];unfold bB;rw [List.getElem?_map,a];rfl)
theorem aW.free {w:World} {b g n:Nat} {ws:List Nat} (h:aW w b g n ws) (K:Nat):w.frozen? ⟨g,K,none⟩=false:=let ⟨_,q⟩:=h.row;q.free K
theorem aW.blt {w:World} {b g n:Nat} {ws:List Nat} (h:aW w b g n ws):b<w.heap.size:=let ⟨_,_,a⟩:=h.blk;a.lt
theorem aW.glt {w:World} {b g n:Nat} {ws:List Nat} (h:aW w b g n ws):g<w.heap.size:=let ⟨_,q⟩:=h.row;q.lt
theorem aW.word {w:World} {b g n i:Nat} {ws:List Nat} (h:aW w b g n ws) (d:i<n):∃x,ws[i/64]? =some x∧x<18446744073709551616∧w.cell? ⟨g,i/64,none⟩=some (.int .u64 x)∧aw ws i=x.testBit (i% 64):=by
 have c:i/64<ws.length:=by rw [h.len];omega
 obtain ⟨x,a⟩:∃x,ws[i/64]? =some x:=⟨_,List.getElem?_eq_getElem c⟩;refine ⟨x,a,h.lt x (List.mem_of_getElem? a),h.at a,?_⟩;unfold aw;rw [List.getD_eq_getElem?_getD,a];rfl
theorem fO {w:World} {b g n:Nat} {ws:List Nat} (h:aW w b g n ws):Calls Tryz.prog 201 #[b] w fun e w'=>e= .returned (.int .i64 n)∧w=w':=by
 have c1:=h.c1;clear h
 go_enter Tryz.func201,Tryz.ntmps201
 go_wp2;go_ret;exact ⟨rfl,rfl⟩
def xL (n:Nat) (i:Int):Bool:=decide (0<=i∧i<n)
theorem kA {w:World} {b g n:Nat} {ws:List Nat} (h:aW w b g n ws) (i:Int):Calls Tryz.prog 285 #[b,.int .i64 i] w fun e w'=>e= .returned (.int .i64 (if xL n i then 0 else 11))∧w=w':=by
 have c1:=h.c1;clear h;by_cases c:i<0
 ·have a:(if xL n i then (0:Int) else 11)=11:=if_neg (by unfold xL;simp;omega);rw [a];clear a
  go_enter Tryz.func285,Tryz.ntmps285
  go_wp2;go_ret;exact ⟨rfl,rfl⟩
 ·by_cases d:(n:Int)<=i
  ·have a:(if xL n i then (0:Int) else 11)=11:=if_neg (by unfold xL;simp;omega);rw [a];clear a
   go_enter Tryz.func285,Tryz.ntmps285
   go_wp2;go_ret;exact ⟨rfl,rfl⟩
  ·have a:(if xL n i then (0:Int) else 11)=0:=if_pos (by unfold xL;simp;omega);rw [a];clear a
   go_enter Tryz.func285,Tryz.ntmps285
   go_wp2;go_ret;exact ⟨rfl,rfl⟩
theorem xa (x k:Nat) (b:x<18446744073709551616):(bits .and .u64 ((x:Int)/2^k) 1==1)=x.testBit k:=by
 have a:x/2^k<=x:=Nat.div_le_self _ _;have h:=u64_and_nat (x/2^k) 1 (by omega) (by decide);rw [Nat.and_one_is_mod] at h;have e:((x/2^k:Nat):Int)=(x:Int)/2^k:=by simp
 rw [e] at h;rw [show bits .and .u64 ((x:Int)/2^k) 1=((x/2^k% 2:Nat):Int) from h,Nat.testBit_eq_decide_div_mod_eq,Bool.eq_iff_iff,beq_iff_eq,decide_eq_true_eq];omega
theorem wy {w:World} {b g n i:Nat} {ws:List Nat} (h:aW w b g n ws) (f:i<n):Calls Tryz.prog 266 #[b,.int .i64 i] w fun e w'=>e= .returned (.bool (aw ws i))∧w=w':=by
 have d:=ae (kA h (i:Int));rw [if_pos (by unfold xL;simp;omega)] at d;obtain ⟨x,k,c,o,a⟩:=h.word f;obtain ⟨C,m,l⟩:=h.c0;have p:i/64<ws.length:=by rw [h.len];omega
 have j:=h.small;rw [a];generalize ws.length=L at*;clear h a k;have q:(i:Int).tdiv 64=((i/64:Nat):Int):=rfl;have r:(i:Int).tmod 64=((i% 64:Nat):Int):=rfl
 go_enter Tryz.func266,Tryz.ntmps266
 go_wp2_with fail
 refine (d.out).mono ?_;rintro e w' ⟨rfl,rfl⟩;go_wp2;go_ret;refine ⟨?_,rfl⟩;rw [<-xa x (i% 64) c];rfl
theorem ib:(Tryz.prog.info? 46).map (fun i=>(i.zero,i.size,i.bytes))=some (some (.int .u64 0),1,8):=by kernel_rfl
theorem ie (v:Value) (n:Nat):madeCells #[v] n=Array.replicate n v:=by
 apply Array.ext
 ·simp [madeCells]
 ·intro i a b;simp [madeCells,Nat.mod_one]
theorem og (k:Nat) (i:k<=16777216) (X:Int) (b:X=(k:Int)) (w:World):(Instr.makeSlice 98 (.int .i64 X) (.int .i64 X)).run Tryz.prog w= .ok (.slice (some ⟨w.heap.size,0,none⟩) k k) (w.alloc (.cells (bB (List.replicate k 0)).toArray 46)):=by
 obtain ⟨g,d,f,a,c⟩:=info_parts ib;subst b;have h:=run_makeSlice (P:=Tryz.prog) w 98 46 g (.int .u64 0) Tryz.underlying98 d f .i64 .i64 (k:Int) (k:Int) (by omega) (Int.le_refl _) (by rw [a,Int.toNat_natCast];omega) (by rw [c];omega) (by omega);rw [a,Int.toNat_natCast,Nat.mul_one,show (Value.int .u64 0).cells= #[.int .u64 0] from rfl,ie] at h;rw [h];have e:(bB (List.replicate k 0)).toArray=Array.replicate k (.int .u64 0):=by unfold bB;rw [List.map_replicate];simp
 rw [e]
theorem gN (k i:Nat):aw (List.replicate k 0) i=false:=by
 unfold aw;rw [List.getD_eq_getElem?_getD,List.getElem?_replicate];split<;>simp
theorem rK (n:Nat) (d:1<=n) (f:n<=1048576) (w:World):Calls Tryz.prog 134 #[.int .i64 n] w fun e w'=>∃b g,e= .returned (.tuple #[.pointer (some ⟨b,0,none⟩),.int .i64 0])∧aW w' b g n (List.replicate ((n+63)/64) 0)∧w.heap.size<=b∧w.heap.size<=g∧Fr (fun _=>False) w w':=by
 have l:((n:Int)+64-1).tdiv 64=(((n+63)/64:Nat):Int):=by
  rw [show (n:Int)+64-1=((n+63:Nat):Int) by omega];rfl
 have j:=og ((n+63)/64) (by omega) (((n:Int)+63)/64) (by omega);have c:∀W,W=(w.alloc (.cells (bB (List.replicate ((n+63)/64) 0)).toArray 46)).alloc (.cells #[.slice (some ⟨w.heap.size,0,none⟩) ((n+63)/64) ((n+63)/64),.int .i64 n] 289)->
   aW W (w.heap.size+1) w.heap.size n (List.replicate ((n+63)/64) 0)∧Fr (fun _=>False) w W:=by
  intro W h;subst h;refine ⟨⟨⟨(n+63)/64,by simp,?_⟩,⟨[],by rw [List.append_nil];exact (aj.new w _ _).alloc _⟩,by omega,by simp,fun x k=>by rw [List.eq_of_mem_replicate k];decide,d,f,fun i _=>gN _ i⟩,((Fr.refl _ w).alloc _).alloc _⟩;have:=aj.new (w.alloc (.cells (bB (List.replicate ((n+63)/64) 0)).toArray 46)) [.slice (some ⟨w.heap.size,0,none⟩) ((n+63)/64) ((n+63)/64),.int .i64 n] 289;rw [World.size_alloc] at this
  simpa using this
 have a:=ae c;clear c;generalize (bB (List.replicate ((n+63)/64) 0)).toArray=Z at*
 go_enter Tryz.func134,Tryz.ntmps134
 go_wp2;go_ret2;exact ⟨w.heap.size+1,w.heap.size,rfl,(a.out _ rfl).1,by omega,Nat.le_refl _,(a.out _ rfl).2⟩
theorem rF {ws:List Nat} {i x:Nat} (a:ws[i/64]? =some x) (j:Nat):aw (ws.set (i/64) (x|||2^(i% 64))) j=(aw ws j||j==i):=by
 unfold aw;rw [List.getD_eq_getElem?_getD,List.getD_eq_getElem?_getD,List.getElem?_set];have b:=(List.getElem?_eq_some_iff.1 a).1;by_cases e:i/64=j/64
 ·rw [if_pos e,if_pos b,<-e,a];show (x|||2^(i% 64)).testBit (j% 64)=(x.testBit (j% 64)||j==i)
  rw [Nat.testBit_or,Nat.testBit_two_pow];congr 1
  rw [Bool.eq_iff_iff,decide_eq_true_eq,beq_iff_eq];omega
 ·rw [if_neg e];have:(j==i)=false:=by rw [beq_eq_false_iff_ne];intro h;exact e (by rw [h])
  rw [this,Bool.or_false]
theorem xZ {w w':World} {b g n i x:Nat} {ws:List Nat} (h:aW w b g n ws) (t:i<n) (d:ws[i/64]? =some x) (V:Int) (f:V=((x|||2^(i% 64):Nat):Int)) (m:w'=(w.setCell ⟨g,i/64,none⟩ (.int .u64 V)).drew):
  aW w' b g n (ws.set (i/64) (x|||2^(i% 64)))∧Fr (fun k=>k=g) w w':=by
 subst m;subst f;have e:=h.lt x (List.mem_of_getElem? d);have hp:(2:Nat)^(i% 64)<18446744073709551616:=Nat.lt_of_lt_of_le (Nat.pow_lt_pow_right (by decide) (Nat.mod_lt _ (by decide))) (by decide);refine ⟨⟨?_,?_,h.ne,by rw [List.length_set];exact h.len,?_,h.one,h.small,?_⟩,((Fr.refl (fun k=>k=g) w).setCell ⟨g,i/64,none⟩ (.inl rfl) _).drew⟩
 ·rw [List.length_set];obtain ⟨c,p,s⟩:=h.blk;exact ⟨c,p,(s.setOther ⟨g,i/64,none⟩ _ h.ne).drew⟩
 ·obtain ⟨r,q⟩:=h.row;have:=(q.set (i/64) (.int .u64 ((x|||2^(i% 64):Nat):Int))).drew;rw [List.set_append_left _ _ (by unfold bB;rw [List.length_map];exact (List.getElem?_eq_some_iff.1 d).1)] at this;refine ⟨r,?_⟩;unfold bB at this ⊢;rw [List.map_set];exact this
 ·intro y o;rcases List.mem_or_eq_of_mem_set o with a|a
  ·exact h.lt y a
  ·rw [a];exact Nat.or_lt_two_pow (n:=64) e hp
 ·intro j l;rw [rF d,h.off j l];simp;omega
theorem rL {w:World} {b g n i:Nat} {ws:List Nat} (h:aW w b g n ws) (r:i<n):Calls Tryz.prog 260 #[b,.int .i64 i] w fun e w'=>e= .returned (.int .i64 0)∧∃f,aW w' b g n f∧(∀j,aw f j=(aw ws j||j==i))∧Fr (fun k=>k=g) w w':=by
 have p:=ae (kA h (i:Int));rw [if_pos (by unfold xL;simp;omega)] at p;obtain ⟨x,m,o,A,c⟩:=h.word r;obtain ⟨C,t,s⟩:=h.c0;have y:i/64<ws.length:=by rw [h.len];omega
 have v:=h.free (i/64);have z:=h.small;have d:bits .or .u64 (x:Int) (IntKind.u64.wrap (2^(i% 64)))=((x|||2^(i% 64):Nat):Int):=by
  have hp:(2:Nat)^(i% 64)<18446744073709551616:=Nat.lt_of_lt_of_le (Nat.pow_lt_pow_right (by decide) (Nat.mod_lt _ (by decide))) (by decide);have e:IntKind.u64.wrap (2^(i% 64))=((2^(i% 64):Nat):Int):=by
   have:((2^(i% 64):Nat):Int)=(2:Int)^(i% 64):=by simp
   rw [<-this,IntKind.wrap_u64];generalize (2:Nat)^(i% 64)=P at hp;omega
  rw [e];exact u64_or_nat x (2^(i% 64)) o hp
 have a:=ae (fun W u=>(xZ (w':=W) h r m _ d u));have l:=ae (fun j=>rF m j);clear d;obtain ⟨L,q⟩:∃L,ws.length=L:=⟨_,rfl⟩;rw [q] at s y t;clear h c m q;have F:(i:Int).tdiv 64=((i/64:Nat):Int):=rfl;have G:(i:Int).tmod 64=((i% 64:Nat):Int):=rfl;have B:(0:Int)<=(i:Int)/64:=by omega
 have D:(i:Int)/64<(L:Int):=by omega
 have E:((i:Int)/64).toNat=i/64:=by omega
 have w1:IntKind.i64.wrap ((i:Int)/64)=((i/64:Nat):Int):=by rw [IntKind.wrap_i64];omega
 have w2:IntKind.i64.wrap ((i:Int)% 64)=((i% 64:Nat):Int):=by rw [IntKind.wrap_i64];omega
 go_enter Tryz.func260,Tryz.ntmps260
 go_wp2_with fail
 refine (p.out).mono ?_;rintro e w' ⟨rfl,rfl⟩;go_wp2;refine jl 13 (by kernel_rfl) (by kernel_rfl) ?_;simp only [List.take_succ_cons,List.take_zero,List.drop_succ_cons,List.drop_zero]
 repeat still_step
 refine wpStill_nil ?_;go_wp2;go_ret;exact ⟨rfl,_,(a.out _ rfl).1,l.out,(a.out _ rfl).2⟩
theorem jf (f:Nat->Bool):∀(n a:Nat),(bH f a n=a+n∧∀j,a<=j->j<a+n->f j=false)∨(a<=bH f a n∧bH f a n<a+n∧f (bH f a n)=true∧∀j,a<=j->j<bH f a n->f j=false)
 |0,a=> .inl ⟨rfl,fun j c b=>by omega⟩
 |n+1,a=>by
  rw [bH]
  cases h:f a with
  |true=>exact .inr ⟨Nat.le_refl _,by simp,by simpa using h,fun j c b=>by simp at b;omega⟩
  |false=>
   simp only [Bool.false_eq_true,if_false];rcases jf f n (a+1) with ⟨c,b⟩|⟨c,b,d,g⟩
   ·exact .inl ⟨by omega,fun j d g=>by by_cases e:j=a;(subst e;exact h);exact b j (by omega) (by omega)⟩
   ·exact .inr ⟨by omega,by omega,d,fun j k i=>by by_cases e:j=a;(subst e;exact h);exact g j (by omega) i⟩
def gI (f:Nat->Bool) (n i:Nat) (w:World) (e:Ending) (w':World):Prop:=
 ((∃j:Nat,fD f i n j∧e= .returned (.tuple #[.int .i64 j,.bool true]))∨((∀j,i<=j->j<n->f j=false)∧e= .returned (.tuple #[.int .i64 0,.bool false])))∧w=w'
theorem qF {w:World} {b g n K F:Nat} {ws:List Nat} (h:aW w b g n ws) (k:K<ws.length) (r:F<64):∃x p:Nat,x<18446744073709551616∧w.cell? ⟨g,K,none⟩=some (.int .u64 x)∧bH (gU x (F:Int)) 0 64=p∧
  ((p=64∧∀j,64*K+F<=j->j<64*(K+1)->aw ws j=false)∨(p<64∧F<=p∧64*K+p<n∧aw ws (64*K+p)=true∧∀j,64*K+F<=j->j<64*K+p->aw ws j=false)):=by
 obtain ⟨x,d⟩:∃x,ws[K]? =some x:=⟨_,List.getElem?_eq_getElem k⟩;have c:∀q,q<64->aw ws (64*K+q)=x.testBit q:=fun q s=>by
  unfold aw;rw [show (64*K+q)/64=K by omega,show (64*K+q)% 64=q by omega,List.getD_eq_getElem?_getD,d];rfl
 refine ⟨x,_,h.lt x (List.mem_of_getElem? d),h.at d,rfl,?_⟩;rcases jf (gU x (F:Int)) 64 0 with ⟨i,e⟩|⟨i,e,a,f⟩
 ·refine .inl ⟨by omega,fun j a f=> ?_⟩;have:=e (j-64*K) (by omega) (by omega);rw [show j=64*K+(j-64*K) by omega,c _ (by omega)];unfold gU at this;rwa [decide_eq_true (by omega),Bool.true_and] at this
 ·generalize bH (gU x (F:Int)) 0 64=p at*;unfold gU at a;rw [Bool.and_eq_true,decide_eq_true_eq] at a;have hp:aw ws (64*K+p)=true:=by rw [c p (by omega)];exact a.2
  refine .inr ⟨by omega,by omega,?_,hp,fun j m o=> ?_⟩
  ·by_cases l:64*K+p<n
   ·exact l
   ·rw [h.off _ (by omega)] at hp;exact absurd hp (by decide)
  ·have:=f (j-64*K) (by omega) (by omega);rw [show j=64*K+(j-64*K) by omega,c _ (by omega)];unfold gU at this;rwa [decide_eq_true (by omega),Bool.true_and] at this
theorem eC {w:World} {b g n:Nat} {ws:List Nat} (h:aW w b g n ws) (A:bv w) (i:Nat) (Y:i<=1048576):Calls Tryz.prog 257 #[b,.int .i64 i] w (gI (aw ws) n i w):=by
 obtain ⟨C,W,I⟩:=h.c0;have c1:=h.c1;have S:=h.small;by_cases M:n<=i
 ·have c:∀e w',e= .returned (.tuple #[.int .i64 0,.bool false])->w=w'->gI (aw ws) n i w e w':=fun e w' a m=>⟨.inr ⟨fun j t V=>by omega,a⟩,m⟩
  have l:=ae c;clear c;generalize gI (aw ws) n i w=Q at*;clear h A
  go_enter Tryz.func257,Tryz.ntmps257
  go_wp2;exact l.out _ _ rfl rfl
 ·have O:(i:Int)<(n:Int):=by omega
  have P:max (i:Int) 0=(i:Int):=by omega
  have Z:(i:Int).tdiv 64=((i/64:Nat):Int):=rfl;have q2:(i:Int).tmod 64=((i% 64:Nat):Int):=rfl;have E:=ae h;have H:=ae A;have s:=h.len;obtain ⟨L,z⟩:∃L,ws.length=L:=⟨_,rfl⟩;rw [z] at I s;have G:=ae z;clear h A z
  go_enter Tryz.func257,Tryz.ntmps257
  go_wp2
  go_loopw [6,7] (fun k f wr=>∃K F:Nat,k= .int .i64 K∧f= .int .i64 F∧K<=L∧F<64∧wr=w∧Hid (i<=64*K+F∧∀j,i<=j->j<64*K+F->aw ws j=false)) (fun k _ _=>L-(intOf k).toNat)
  case atStart=>exact ⟨i/64,i% 64,rfl,rfl,by omega,by omega,rfl,by omega,fun j a m=>by omega⟩
  case round=>
   obtain ⟨K,F,rfl,rfl,X,J,rfl,d⟩:=hrel;by_cases N:K<L
   ·have D:(K:Int)<(L:Int):=by omega
    obtain ⟨x,p,T,U,hp,u⟩:=qF E.out (by rw [G.out];exact N) J;have y:=ae (vm x T (F:Int) _ H.out);rw [hp] at y;clear hp;rcases u with ⟨rfl,u⟩|⟨hp,B,o,q,r⟩
    ·have v:Hid (i<=64*(K+1)+0∧∀j,i<=j->j<64*(K+1)+0->aw ws j=false):=⟨by have:=d.out.1;omega,fun j a m=>by
      by_cases t:j<64*K+F
      ·exact d.out.2 j a t
      ·exact u j (by omega) (by omega)⟩
     clear u d;go_wp2_with fail
     refine (y.out).mono ?_;rintro e w' ⟨rfl,rfl⟩;go_wp2;go_roundw
     case rel=>exact ⟨K+1,0,by go_num,rfl,by omega,by omega,trivial,v⟩
     case measure=>show L-(intOf (.int .i64 ((K:Int)+1))).toNat<L-(intOf (.int .i64 K)).toNat;simp only [intOf];omega
    ·have v:Hid (fD (aw ws) i n (64*K+p)):=⟨by have:=d.out.1;omega,o,q,fun j a m=>by
      by_cases t:j<64*K+F
      ·exact d.out.2 j a t
      ·exact r j (by omega) (by omega)⟩
     have R:(p:Int)<64:=by omega
     clear B o q r d;go_wp2_with fail
     refine (y.out).mono ?_;rintro e w' ⟨rfl,rfl⟩;go_wp2;go_ret2;exact ⟨.inl ⟨64*K+p,v.out,rfl⟩,rfl⟩
   ·have D:(L:Int)<=(K:Int):=by omega
    go_wp2;go_ret2;exact ⟨.inr ⟨fun j a m=>d.out.2 j a (by omega),rfl⟩,rfl⟩
def qa (f:Nat->Bool) (n i:Nat):Prop:=i<n∧f i=true∧∀j,i<j->j<n->f j=false
theorem jW (f:Nat->Bool):∀n,(cF f n= -1∧∀j,j<n->f j=false)∨∃p:Nat,cF f n=(p:Int)∧p<n∧f p=true∧∀j,p<j->j<n->f j=false
 |0=> .inl ⟨rfl,fun j h=>by omega⟩
 |n+1=>by
  rw [cF]
  cases h:f n with
  |true=>exact .inr ⟨n,by simp,by omega,h,fun j a b=>by omega⟩
  |false=>
   simp only [Bool.false_eq_true,if_false];rcases jW f n with ⟨a,b⟩|⟨p,a,b,c,d⟩
   ·exact .inl ⟨a,fun j c=>by by_cases e:j=n;(subst e;exact h);exact b j (by omega)⟩
   ·exact .inr ⟨p,a,by omega,c,fun j g i=>by by_cases e:j=n;(subst e;exact h);exact d j g (by omega)⟩
def uf (f:Nat->Bool) (n:Nat) (w:World) (e:Ending) (w':World):Prop:=
 ((∃j:Nat,qa f n j∧e= .returned (.tuple #[.int .i64 j,.bool true]))∨((∀j,j<n->f j=false)∧e= .returned (.tuple #[.int .i64 0,.bool false])))∧w=w'
theorem tS {w:World} {b g n K m:Nat} {ws:List Nat} (h:aW w b g n ws) (l:K<ws.length) (t:64*K<m):∃(x:Nat) (r:Int),x<18446744073709551616∧w.cell? ⟨g,K,none⟩=some (.int .u64 x)∧cF (fo x ((m:Int)-64*K)) 64=r∧
  ((r= -1∧∀j,64*K<=j->j<m->j<64*(K+1)->aw ws j=false)∨∃p:Nat,r=(p:Int)∧p<64∧64*K+p<m∧aw ws (64*K+p)=true∧∀j,64*K+p<j->j<m->j<64*(K+1)->aw ws j=false):=by
 obtain ⟨x,f⟩:∃x,ws[K]? =some x:=⟨_,List.getElem?_eq_getElem l⟩;have e:∀q,q<64->aw ws (64*K+q)=x.testBit q:=fun q u=>by
  unfold aw;rw [show (64*K+q)/64=K by omega,show (64*K+q)% 64=q by omega,List.getD_eq_getElem?_getD,f];rfl
 refine ⟨x,_,h.lt x (List.mem_of_getElem? f),h.at f,rfl,?_⟩;rcases jW (fo x ((m:Int)-64*K)) 64 with ⟨d,a⟩|⟨p,d,a,c,i⟩
 ·refine .inl ⟨d,fun j c i k=> ?_⟩;have:=a (j-64*K) (by omega);rw [show j=64*K+(j-64*K) by omega,e _ (by omega)];unfold fo at this;rwa [decide_eq_true (by omega),Bool.true_and] at this
 ·unfold fo at c;rw [Bool.and_eq_true,decide_eq_true_eq] at c;refine .inr ⟨p,d,a,by omega,by rw [e p a];exact c.2,fun j k o s=> ?_⟩;have:=i (j-64*K) (by omega) (by omega);rw [show j=64*K+(j-64*K) by omega,e _ (by omega)];unfold fo at this;rwa [decide_eq_true (by omega),Bool.true_and] at this
theorem tN {w:World} {b g n:Nat} {ws:List Nat} (h:aW w b g n ws) (m:Nat) (H:1<=m) (S:m<=n):Calls Tryz.prog 272 #[b,.int .i64 m] w (uf (aw ws) m w):=by
 obtain ⟨C,Q,D⟩:=h.c0;have c1:=h.c1;have M:=h.small;have P:(0:Int)<(m:Int):=by omega
 have E:decide (m=0)=false:=decide_eq_false (by omega);have I:min (m:Int) (n:Int)=(m:Int):=by omega
 have T:((m:Int)-1).tdiv 64=(((m-1)/64:Nat):Int):=by rw [show (m:Int)-1=((m-1:Nat):Int) by omega];rfl
 have z:=ae h;have a:=h.len;obtain ⟨L,y⟩:∃L,ws.length=L:=⟨_,rfl⟩;rw [y] at D a;have B:=ae y;have A:=ae a;clear h y a
 go_enter Tryz.func272,Tryz.ntmps272
 go_wp2
 go_loopw [6] (fun k wr=>∃K:Nat,k= .int .i64 ((K:Int)-1)∧K<=L∧wr=w∧Hid (64*K<m+64∧∀j,64*K<=j->j<m->aw ws j=false)) (fun k _=>(intOf k+1).toNat)
 case atStart=>exact ⟨(m-1)/64+1,by go_num,by have:=A.out;omega,rfl,by omega,fun j f c=>by omega⟩
 case round=>
  obtain ⟨K,rfl,R,rfl,d⟩:=hrel;by_cases F:K=0
  ·subst F;go_wp2;go_ret2;exact ⟨.inr ⟨fun j f=>d.out.2 j (by omega) f,rfl⟩,rfl⟩
  ·obtain ⟨K,rfl⟩:∃k,K=k+1:=⟨K-1,by omega⟩;have q:((K+1:Nat):Int)-1=(K:Int):=by omega
   rw [q];clear q;have G:(K:Int)<(L:Int):=by omega
   have J:=d.out.1;obtain ⟨x,r,N,O,hp,s⟩:=tS (m:=m) (K:=K) z.out (by rw [B.out];omega) (by omega);have u:=ae (u9 x N ((m:Int)-64*K) wr);rw [hp] at u;clear hp;rcases s with ⟨rfl,s⟩|⟨p,rfl,hp,i,l,o⟩
   ·have t:Hid (64*K<m+64∧∀j,64*K<=j->j<m->aw ws j=false):=⟨by omega,fun j f c=>by
     by_cases v:64*(K+1)<=j
     ·exact d.out.2 j v c
     ·exact s j (by omega) c (by omega)⟩
    clear s d;go_wp2_with fail
    refine (u.out).mono ?_;rintro e w' ⟨rfl,rfl⟩;go_wp2;go_roundw
    case rel=>exact ⟨K,rfl,by omega,trivial,t⟩
    case measure=>simp [intOf]
   ·have t:Hid (qa (aw ws) m (64*K+p)):=⟨i,l,fun j f c=>by
     by_cases v:64*(K+1)<=j
     ·exact d.out.2 j v c
     ·exact o j f c (by omega)⟩
    clear i l o d;go_wp2_with fail
    refine (u.out).mono ?_;rintro e w' ⟨rfl,rfl⟩;go_wp2;go_ret2;exact ⟨.inl ⟨64*K+p,t.out,rfl⟩,rfl⟩
theorem jc (x m:Nat) (b:x<18446744073709551616) (a:m<18446744073709551616):∃y:Nat,y<18446744073709551616∧bits .andNot .u64 (x:Int) (m:Int)=(y:Int)∧∀q,q<64->y.testBit q=(x.testBit q&& !m.testBit q):=by
 refine ⟨x&&&(18446744073709551615-m),Nat.lt_of_le_of_lt Nat.and_le_left b,u64_andNot_nat x m b a,fun q c=> ?_⟩;rw [Nat.testBit_and];have:=Nat.testBit_two_pow_sub_succ (n:=64) a q;rw [show 2^64-(m+1)=18446744073709551615-m by omega,decide_eq_true c,Bool.true_and] at this;rw [this]
def cv (F T K:Nat):Nat:=gF (dV ((F:Int)-64*K) ((T:Int)-64*K)) 64
theorem ig (F T K:Nat):cv F T K<18446744073709551616:=ij _ (Nat.le_refl 64)
theorem jY (F T K q:Nat) (a:q<64):(cv F T K).testBit q=(decide (F<=64*K+q)&&decide (64*K+q<T)):=by
 unfold cv;rw [cz,decide_eq_true a,Bool.true_and];unfold dV;rw [Bool.eq_iff_iff];simp only [Bool.and_eq_true,decide_eq_true_eq];omega
theorem jF {ws:List Nat} {K x:Nat} (a:ws[K]? =some x) (q:Nat) (b:q<64):aw ws (64*K+q)=x.testBit q:=by
 unfold aw;rw [show (64*K+q)/64=K by omega,show (64*K+q)% 64=q by omega,List.getD_eq_getElem?_getD,a];rfl
theorem qU {ws:List Nat} {K x:Nat} (b:ws[K]? =some x) (y j:Nat):aw (ws.set K y) j=if j/64=K then y.testBit (j% 64) else aw ws j:=by
 have a:=(List.getElem?_eq_some_iff.1 b).1;unfold aw;rw [List.getD_eq_getElem?_getD,List.getD_eq_getElem?_getD,List.getElem?_set];by_cases e:K=j/64
 ·rw [if_pos e,if_pos a,if_pos e.symm];rfl
 ·rw [if_neg e,if_neg (fun h=>e h.symm)]
def fu (f:Nat->Bool) (F T K j:Nat):Bool:=f j||(decide (F<=j)&&decide (j<T)&&decide (j<64*K))
def fP (f:Nat->Bool) (F T K j:Nat):Bool:=f j&& !(decide (F<=j)&&decide (j<T)&&decide (j<64*K))
theorem so {ws:List Nat} {f:Nat->Bool} {F T K x:Nat} (a:ws[K]? =some x) (h:∀j,aw ws j=fu f F T K j) (j:Nat):aw (ws.set K (x|||cv F T K)) j=fu f F T (K+1) j:=by
 rw [qU a];by_cases e:j/64=K
 ·rw [if_pos e,Nat.testBit_or,jY _ _ _ _ (Nat.mod_lt _ (by decide)),<-jF a _ (Nat.mod_lt _ (by decide)),h];have:64*K+j% 64=j:=by omega
  rw [this];unfold fu;rw [decide_eq_false (show¬j<64*K by omega),decide_eq_true (show j<64*(K+1) by omega),Bool.and_false,Bool.or_false,Bool.and_true]
 ·rw [if_neg e,h];unfold fu;rw [show decide (j<64*(K+1))=decide (j<64*K) by rw [decide_eq_decide];omega]
theorem tQ {ws:List Nat} {f:Nat->Bool} {F T K x y:Nat} (a:ws[K]? =some x) (b:∀q,q<64->y.testBit q=(x.testBit q&& !(cv F T K).testBit q)) (h:∀j,aw ws j=fP f F T K j) (j:Nat):aw (ws.set K y) j=fP f F T (K+1) j:=by
 rw [qU a];by_cases e:j/64=K
 ·rw [if_pos e,b _ (Nat.mod_lt _ (by decide)),jY _ _ _ _ (Nat.mod_lt _ (by decide)),<-jF a _ (Nat.mod_lt _ (by decide)),h];have:64*K+j% 64=j:=by omega
  rw [this];unfold fP;rw [decide_eq_false (show¬j<64*K by omega),decide_eq_true (show j<64*(K+1) by omega),Bool.and_false,Bool.not_false,Bool.and_true,Bool.and_true]
 ·rw [if_neg e,h];unfold fP;rw [show decide (j<64*(K+1))=decide (j<64*K) by rw [decide_eq_decide];omega]
theorem rJ {w:World} {b g n K x:Nat} {ws:List Nat} (h:aW w b g n ws) (i:ws[K]? =some x) (y:Nat) (k:y<18446744073709551616) (a:∀j,n<=j->aw (ws.set K y) j=false) {w':World} (V:Int) (e:V=(y:Int)) (f:w'=w.setCell ⟨g,K,none⟩ (.int .u64 V)):aW w' b g n (ws.set K y):=by
 subst f;subst e;refine ⟨?_,?_,h.ne,by rw [List.length_set];exact h.len,?_,h.one,h.small,a⟩
 ·rw [List.length_set];obtain ⟨c,m,o⟩:=h.blk;exact ⟨c,m,o.setOther ⟨g,K,none⟩ _ h.ne⟩
 ·obtain ⟨r,q⟩:=h.row;have:=q.set K (.int .u64 y);rw [List.set_append_left _ _ (by unfold bB;rw [List.length_map];exact (List.getElem?_eq_some_iff.1 i).1)] at this;refine ⟨r,?_⟩;unfold bB at this ⊢;rw [List.map_set];exact this
 ·intro z l;rcases List.mem_or_eq_of_mem_set l with d|d
  ·exact h.lt z d
  ·rw [d];exact k
theorem uq (g:Nat->Bool) (a:Nat):∀k,eJ g a k=dh (fun q=>g (a+q)) k
 |0=>rfl
 |k+1=>by
  show eJ g a k+_=dh (fun q=>g (a+q)) k+_
  rw [uq g a k]
def cR (f:Nat->Bool) (F T j:Nat):Bool:=decide (F<=j)&&decide (j<T)&&f j
theorem po {ws:List Nat} {F T K x:Nat} (b:ws[K]? =some x):dh (rq (cv F T K&&&x) 0 64) 64=cnt (cR (aw ws) F T) (64*K) (64*(K+1)):=by
 unfold cnt;rw [show 64*(K+1)-64*K=64 by omega,uq];refine jK (fun q a=> ?_);unfold rq cR;rw [Nat.testBit_and,jY _ _ _ _ a,jF b _ a,decide_eq_true (show (0:Int)<=(q:Int) by omega),decide_eq_true (show (q:Int)<64 by omega),Bool.true_and,Bool.true_and]
theorem nE (f:Nat->Bool) {F T A B:Nat} (k:A<=F) (c:F<=T) (d:T<=B):cnt (cR f F T) A B=cnt f F T:=by
 rw [ay (cR f F T) k (Nat.le_trans c d),ay (cR f F T) c d,aE (a:=A) (b:=F) (fun i _ h=>by unfold cR;rw [decide_eq_false (by omega)];rfl),
  aE (a:=T) (b:=B) (fun i h _=>by unfold cR;rw [decide_eq_false (show¬i<T by omega),Bool.and_false];rfl),
  aK (f:=cR f F T) (g:=f) (fun i e j=>by unfold cR;rw [decide_eq_true e,decide_eq_true j];rfl)]
 omega
theorem eV {w w':World} {a:Addr} (h:w'.heap[a.block]? =w.heap[a.block]?):w'.frozen? a=w.frozen? a:=by
 unfold World.frozen?;rw [h]
theorem yP {w:World} {g K a:Nat} (x m:Nat) (V:Int) (p:x<18446744073709551616) (n:m<18446744073709551616) (j:w.cell? ⟨g,K,none⟩=some (.int .u64 x)) (hf:w.frozen? ⟨g,K,none⟩=false) (o:w.cell? ⟨a,0,none⟩=some (.int .i64 V)) (f:w.frozen? ⟨a,0,none⟩=false) (d:a≠g):
  Calls Tryz.prog 282 #[.pointer (some ⟨g,K,none⟩),.int .u64 m,.pointer (some ⟨a,0,none⟩)] w fun e w'=>e= .returned (.tuple #[])∧∃s,w'=((w.setCell ⟨a,0,none⟩ (.int .i64 s)).drew.setCell ⟨g,K,none⟩ (.int .u64 ((x|||m:Nat):Int))):=by
 obtain ⟨z,A,B,_⟩:=jc m x n p;have i:=ae (u64_or_nat x m p n);have q:=ae (iG z A 0 64);have y:=mh (rq z 0 64) 64;generalize dh (rq z 0 64) 64=cn at*;have C:w.drew.cell? ⟨g,K,none⟩=some (.int .u64 x):=j;have D:w.drew.cell? ⟨a,0,none⟩=some (.int .i64 V):=o;have E:w.drew.frozen? ⟨a,0,none⟩=false:=f;have k:∀u,(w.setCell ⟨a,0,none⟩ u).drew.cell? ⟨g,K,none⟩=some (.int .u64 x):=fun u=>(World.cell?_of_block (w:=w) (Below.heap_setCell _ _ _ _ (fun e=>d e.symm))).trans j
 have l:∀u,(w.setCell ⟨a,0,none⟩ u).drew.frozen? ⟨g,K,none⟩=false:=fun u=>(eV (w:=w) (Below.heap_setCell _ _ _ _ (fun e=>d e.symm))).trans hf
 clear j hf o f
 go_enter Tryz.func282,Tryz.ntmps282
 go_wp2;refine aA (fun w'=>w'=w.drew) 8 (by kernel_rfl) (by kernel_rfl) rfl ?_;simp only [List.take_succ_cons,List.take_zero,List.drop_succ_cons,List.drop_zero];refine ag (.int .i64 V) rfl (fun w b=>by subst b;go_simp) ?_;simp only [Act.put,aa,ab,ac];refine ag (.int .u64 m) rfl (fun w b=>by go_simp) ?_;simp only [Act.put,aa,ab,ac];refine ag (.pointer (some ⟨g,K,none⟩)) rfl (fun w b=>by go_simp) ?_;simp only [Act.put,aa,ab,ac];refine ag (.pointer (some ⟨g,K,none⟩)) rfl (fun w b=>by go_simp) ?_;simp only [Act.put,aa,ab,ac];refine ag (.int .u64 x) rfl (fun w b=>by subst b;go_simp) ?_;simp only [Act.put,aa,ab,ac];refine ag (.int .u64 z) rfl (fun w b=>by go_simp) ?_;simp only [Act.put,aa,ab,ac];refine az (.int .i64 cn) 247 #[.int .u64 z,.int .i64 0,.int .i64 64] rfl (fun w=>by go_simp) (fun w b=>(q.out w).mono fun e w' h=>⟨h.1,h.2▸b⟩) ?_;simp only [Act.put,aa,ab,ac];refine ag (.int .i64 (IntKind.i64.wrap (V+(cn:Int)))) rfl (fun w b=>by go_simp) ?_;simp only [Act.put,aa,ab,ac];refine wpQuiet_nil ?_;rintro w2 rfl
 go_upto_region 1 with fail
 obtain ⟨w3,c⟩:∃w3,(w.setCell ⟨a,0,none⟩ (.int .i64 (wrap64 (V+(cn:Int))))).drew=w3:=⟨_,rfl⟩;have t:=k (.int .i64 (wrap64 (V+(cn:Int))));have v:=l (.int .i64 (wrap64 (V+(cn:Int))));rw [c] at t v ⊢;clear k l;have r:=ae c;clear c;go_wp2;go_end0;exact ⟨rfl,_,by rw [r.out,i.out]⟩
theorem zi {w:World} {g K a:Nat} (x m:Nat) (V:Int) (v:x<18446744073709551616) (l:m<18446744073709551616) (i:w.cell? ⟨g,K,none⟩=some (.int .u64 x)) (hf:w.frozen? ⟨g,K,none⟩=false) (n:w.cell? ⟨a,0,none⟩=some (.int .i64 V)) (f:w.frozen? ⟨a,0,none⟩=false) (d:a≠g) (y:Nat) (F:bits .andNot .u64 (x:Int) (m:Int)=(y:Int)):
  Calls Tryz.prog 246 #[.pointer (some ⟨g,K,none⟩),.int .u64 m,.pointer (some ⟨a,0,none⟩)] w fun e w'=>e= .returned (.tuple #[])∧∃q,w'=((w.setCell ⟨a,0,none⟩ (.int .i64 q)).drew.setCell ⟨g,K,none⟩ (.int .u64 y)):=by
 have B:=u64_and_nat m x l v;have A:m&&&x<18446744073709551616:=Nat.lt_of_le_of_lt Nat.and_le_left l;generalize m&&&x=z at*;have o:=ae (iG z A 0 64);have t:=mh (rq z 0 64) 64;generalize dh (rq z 0 64) 64=cn at*;have C:w.drew.cell? ⟨g,K,none⟩=some (.int .u64 x):=i;have D:w.drew.cell? ⟨a,0,none⟩=some (.int .i64 V):=n;have E:w.drew.frozen? ⟨a,0,none⟩=false:=f;have j:∀u,(w.setCell ⟨a,0,none⟩ u).drew.cell? ⟨g,K,none⟩=some (.int .u64 x):=fun u=>(World.cell?_of_block (w:=w) (Below.heap_setCell _ _ _ _ (fun e=>d e.symm))).trans i
 have k:∀u,(w.setCell ⟨a,0,none⟩ u).drew.frozen? ⟨g,K,none⟩=false:=fun u=>(eV (w:=w) (Below.heap_setCell _ _ _ _ (fun e=>d e.symm))).trans hf
 clear i hf n f
 go_enter Tryz.func246,Tryz.ntmps246
 go_wp2;refine aA (fun w'=>w'=w.drew) 8 (by kernel_rfl) (by kernel_rfl) rfl ?_;simp only [List.take_succ_cons,List.take_zero,List.drop_succ_cons,List.drop_zero];refine ag (.int .i64 V) rfl (fun w b=>by subst b;go_simp) ?_;simp only [Act.put,aa,ab,ac];refine ag (.int .u64 m) rfl (fun w b=>by go_simp) ?_;simp only [Act.put,aa,ab,ac];refine ag (.pointer (some ⟨g,K,none⟩)) rfl (fun w b=>by go_simp) ?_;simp only [Act.put,aa,ab,ac];refine ag (.pointer (some ⟨g,K,none⟩)) rfl (fun w b=>by go_simp) ?_;simp only [Act.put,aa,ab,ac];refine ag (.int .u64 x) rfl (fun w b=>by subst b;go_simp) ?_;simp only [Act.put,aa,ab,ac];refine ag (.int .u64 z) rfl (fun w b=>by go_simp) ?_;simp only [Act.put,aa,ab,ac];refine az (.int .i64 cn) 247 #[.int .u64 z,.int .i64 0,.int .i64 64] rfl (fun w=>by go_simp) (fun w b=>(o.out w).mono fun e w' h=>⟨h.1,h.2▸b⟩) ?_;simp only [Act.put,aa,ab,ac];refine ag (.int .i64 (IntKind.i64.wrap (V+(cn:Int)))) rfl (fun w b=>by go_simp) ?_;simp only [Act.put,aa,ab,ac];refine wpQuiet_nil ?_;rintro w2 rfl
 go_upto_region 1 with fail
 obtain ⟨w3,c⟩:∃w3,(w.setCell ⟨a,0,none⟩ (.int .i64 (wrap64 (V+(cn:Int))))).drew=w3:=⟨_,rfl⟩;have r:=j (.int .i64 (wrap64 (V+(cn:Int))));have s:=k (.int .i64 (wrap64 (V+(cn:Int))));rw [c] at r s ⊢;clear j k;have p:=ae c;clear c;go_wp2;go_end0;exact ⟨rfl,_,by rw [p.out]⟩
theorem xg {w:World} {g K b:Nat} (x m:Nat) (V:Int) (l:x<18446744073709551616) (f:m<18446744073709551616) (d:w.cell? ⟨g,K,none⟩=some (.int .u64 x)) (i:w.cell? ⟨b,0,none⟩=some (.int .i64 V)) (c:w.frozen? ⟨b,0,none⟩=false) (s:0<=V∧V<=1048576):
  Calls Tryz.prog 292 #[.pointer (some ⟨g,K,none⟩),.int .u64 m,.pointer (some ⟨b,0,none⟩)] w fun e w'=>e= .returned (.tuple #[])∧w'=(w.setCell ⟨b,0,none⟩ (.int .i64 (V+(dh (rq (m&&&x) 0 64) 64:Nat)))).drew:=by
 have o:=u64_and_nat m x f l;have n:m&&&x<18446744073709551616:=Nat.lt_of_le_of_lt Nat.and_le_left f;generalize m&&&x=z at*;have j:=ae (iG z n 0 64);have k:=mh (rq z 0 64) 64;generalize dh (rq z 0 64) 64=cn at*;have p:w.drew.cell? ⟨g,K,none⟩=some (.int .u64 x):=d;have q:w.drew.cell? ⟨b,0,none⟩=some (.int .i64 V):=i;have r:w.drew.frozen? ⟨b,0,none⟩=false:=c;clear d i c
 go_enter Tryz.func292,Tryz.ntmps292
 go_wp2;refine aA (fun w'=>w'=w.drew) 8 (by kernel_rfl) (by kernel_rfl) rfl ?_;simp only [List.take_succ_cons,List.take_zero,List.drop_succ_cons,List.drop_zero];refine ag (.int .i64 V) rfl (fun w a=>by subst a;go_simp) ?_;simp only [Act.put,aa,ab,ac];refine ag (.int .u64 m) rfl (fun w a=>by go_simp) ?_;simp only [Act.put,aa,ab,ac];refine ag (.pointer (some ⟨g,K,none⟩)) rfl (fun w a=>by go_simp) ?_;simp only [Act.put,aa,ab,ac];refine ag (.pointer (some ⟨g,K,none⟩)) rfl (fun w a=>by go_simp) ?_;simp only [Act.put,aa,ab,ac];refine ag (.int .u64 x) rfl (fun w a=>by subst a;go_simp) ?_;simp only [Act.put,aa,ab,ac];refine ag (.int .u64 z) rfl (fun w a=>by go_simp) ?_;simp only [Act.put,aa,ab,ac];refine az (.int .i64 cn) 247 #[.int .u64 z,.int .i64 0,.int .i64 64] rfl (fun w=>by go_simp) (fun w a=>(j.out w).mono fun e w' h=>⟨h.1,h.2▸a⟩) ?_;simp only [Act.put,aa,ab,ac];refine ag (.int .i64 (IntKind.i64.wrap (V+(cn:Int)))) rfl (fun w a=>by go_simp) ?_;simp only [Act.put,aa,ab,ac];refine wpQuiet_nil ?_;rintro w2 rfl;go_wp2;go_end0;exact ⟨rfl,rfl⟩
theorem jN {w:World} {b g n L:Nat} (S:L=(n+63)/64) (f r F T:Nat) (eg:∀args w,(callFunc f args).run Tryz.prog w= .ok (.enter f args) w) (O:F<=T) (hT:T<=n) (hn:n<=1048576) (X:Int) (hX:min X (n:Int)=(T:Int)) (J:Nat->World->Prop)
  (t:∀K W,J K W->(∃C,L<=C∧W.cell? ⟨b,0,none⟩=some (.slice (some ⟨g,0,none⟩) L C))∧J K W.drew) (a:w.cell? ⟨b,1,none⟩=some (.int .i64 n))
  (d:∀K W,F/64<=K->F<T->K<=(T-1)/64->J K W->Calls Tryz.prog f #[.pointer (some ⟨g,K,none⟩),.int .u64 (cv F T K:Int),.pointer (some ⟨r,0,none⟩)] W fun e N=>e= .returned (.tuple #[])∧J (K+1) N)
  (E:J (F/64) w) (Q:Ending->World->Prop) (H:∀W,J (if F<T then (T-1)/64+1 else F/64) W->Q (.returned (.tuple #[])) W):
  Calls Tryz.prog 245 #[b,.int .i64 F,.int .i64 X,.func (.func f) #[] #[.pointer (some ⟨r,0,none⟩)]] w Q:=by
 have s:w.drew.cell? ⟨b,1,none⟩=some (.int .i64 n):=a;have y:max (F:Int) 0=(F:Int):=by omega
 have D:=ae t;have A:=ae d;have z:=ae (t _ _ E).2;have m:=ae H;clear t d E H
 go_enter Tryz.func245,Tryz.ntmps245
 go_wp2;refine au (fun w'=>w'=w.drew) (by kernel_rfl) (by kernel_rfl) rfl ?_;refine ag (.int .i64 F) rfl (fun w a=>by go_simp) ?_;simp only [Act.put,aa,ab,ac];refine ag (.int .i64 F) rfl (fun w a=>by go_simp) ?_;simp only [Act.put,aa,ab,ac];refine ag (.int .i64 X) rfl (fun w a=>by go_simp) ?_;simp only [Act.put,aa,ab,ac];refine ag (.pointer (some ⟨b,0,none⟩)) rfl (fun w a=>by go_simp) ?_;simp only [Act.put,aa,ab,ac];refine ag (.pointer (some ⟨b,0,none⟩)) rfl (fun w a=>by go_simp) ?_;simp only [Act.put,aa,ab,ac];refine ag (.pointer (some ⟨b,1,none⟩)) rfl (fun w a=>by go_simp) ?_;simp only [Act.put,aa,ab,ac];refine ag (.int .i64 n) rfl (fun w a=>by subst a;go_simp) ?_;simp only [Act.put,aa,ab,ac];refine ag (.int .i64 T) rfl (fun w a=>by go_simp) ?_;simp only [Act.put,aa,ab,ac];refine ag (.int .i64 F) rfl (fun w a=>by go_simp) ?_;simp only [Act.put,aa,ab,ac];refine ag (.int .i64 T) rfl (fun w a=>by go_simp) ?_;simp only [Act.put,aa,ab,ac];refine wpQuiet_nil ?_;rintro w2 rfl;clear s y hX;generalize w.drew=w0 at*;have q1:(F:Int).tdiv 64=((F/64:Nat):Int):=rfl;by_cases i:F<T
 ·obtain ⟨M,v⟩:∃M,(T-1)/64=M:=⟨_,rfl⟩;have q2:((T:Int)-1).tdiv 64=(M:Int):=by rw [<-v,show (T:Int)-1=((T-1:Nat):Int) by omega];rfl
  have j:decide (F<T)=true:=decide_eq_true i;have l:(F:Int)<(T:Int):=by omega
  have V:M<L:=by omega
  have U:F/64<=M+1:=by omega
  have c:=ae m.out;rw [if_pos i] at c;rw [v] at c A;have Z:(T:Int)<=1048576:=by omega
  have Y:(M:Int)<=1048576:=by omega
  clear m v S;go_wp2
  go_loopw [8] (fun k wr=>∃K:Nat,k= .int .i64 K∧F/64<=K∧K<=M+1∧Hid (J K wr)) (fun k _=>((M:Int)+1-intOf k).toNat)
  case atStart=>exact ⟨F/64,by go_num,by omega,by omega,z.out⟩
  case round=>
   obtain ⟨K,rfl,u,R,o⟩:=hrel;by_cases hk:K<=M
   ·have B:=ae (D.out K wr o.out).2;obtain ⟨C,hC,s⟩:=(D.out K _ B.out).1;have x:(K:Int)<=(M:Int):=by omega
    have ad:(K:Int)<(L:Int):=by omega
    have p:=ae (A.out K wr.drew u i hk B.out);go_wp2;refine aA (fun w'=>w'=wr.drew) 16 (by kernel_rfl) (by kernel_rfl) rfl ?_;simp only [List.take_succ_cons,List.take_zero,List.drop_succ_cons,List.drop_zero];refine ag (.func (.func f) #[] #[.pointer (some ⟨r,0,none⟩)]) rfl (fun w a=>by go_simp) ?_;simp only [Act.put,aa,ab,ac];refine ag (.pointer (some ⟨b,0,none⟩)) rfl (fun w a=>by go_simp) ?_;simp only [Act.put,aa,ab,ac];refine ag (.pointer (some ⟨b,0,none⟩)) rfl (fun w a=>by go_simp) ?_;simp only [Act.put,aa,ab,ac];refine ag (.pointer (some ⟨b,0,none⟩)) rfl (fun w a=>by go_simp) ?_;simp only [Act.put,aa,ab,ac];refine ag (.slice (some ⟨g,0,none⟩) L C) rfl (fun w a=>by subst a;go_simp) ?_;simp only [Act.put,aa,ab,ac];refine ag (.int .i64 K) rfl (fun w a=>by go_simp) ?_;simp only [Act.put,aa,ab,ac];refine ag (.pointer (some ⟨g,K,none⟩)) rfl (fun w a=>by go_simp) ?_;simp only [Act.put,aa,ab,ac];refine ag (.int .i64 F) rfl (fun w a=>by go_simp) ?_;simp only [Act.put,aa,ab,ac];refine ag (.int .i64 K) rfl (fun w a=>by go_simp) ?_;simp only [Act.put,aa,ab,ac];refine ag (.int .i64 (64*(K:Int))) rfl (fun w a=>by go_simp;rw [IntKind.wrap_i64];omega) ?_;simp only [Act.put,aa,ab,ac];refine ag (.int .i64 ((F:Int)-64*(K:Int))) rfl (fun w a=>by go_simp;rw [IntKind.wrap_i64];omega) ?_;simp only [Act.put,aa,ab,ac];refine ag (.int .i64 T) rfl (fun w a=>by go_simp) ?_;simp only [Act.put,aa,ab,ac];refine ag (.int .i64 K) rfl (fun w a=>by go_simp) ?_;simp only [Act.put,aa,ab,ac];refine ag (.int .i64 (64*(K:Int))) rfl (fun w a=>by go_simp;rw [IntKind.wrap_i64];omega) ?_;simp only [Act.put,aa,ab,ac];refine ag (.int .i64 ((T:Int)-64*(K:Int))) rfl (fun w a=>by go_simp;rw [IntKind.wrap_i64];omega) ?_;simp only [Act.put,aa,ab,ac];refine az (.int .u64 (cv F T K:Int)) 274 #[.int .i64 ((F:Int)-64*(K:Int)),.int .i64 ((T:Int)-64*(K:Int))] rfl (fun w=>by go_simp) (fun w a=>(ju _ _ w).mono fun e w' h=>⟨h.1,h.2▸a⟩) ?_;simp only [Act.put,aa,ab,ac];refine wpQuiet_nil ?_;rintro w2 rfl;clear s o;go_wp2_with fail
    refine (p.out).mono ?_;rintro e w3 ⟨rfl,G⟩;have I:=ae G;clear G;go_wp2;go_roundw
    case rel=>exact ⟨K+1,by go_num,by omega,by omega,I.out⟩
    case measure=>simp [intOf];omega
   ·obtain rfl:K=M+1:=by omega
    have x:¬((M+1:Nat):Int)<=(M:Int):=by omega
    have q:=ae (c.out wr o.out);clear o;go_wp2;go_end0;exact q.out
 ·have c:=ae m.out;rw [if_neg i] at c;have j:decide (F<T)=false:=decide_eq_false i;have l:¬(F:Int)<(T:Int):=by omega
  have q:=ae (c.out w0 z.out);have P:(F:Int)<=1048576:=by omega
  clear m c;go_wp2
  go_loopw [8] (fun k wr=>k= .int .i64 ((F/64:Nat):Int)∧wr=w0) (fun _ _=>0)
  case atStart=>exact ⟨by go_num,rfl⟩
  case round=>
   obtain ⟨rfl,rfl⟩:=hrel;go_wp2;go_end0;exact q.out
def mR (w:World) (b g n cb F T:Nat) (f:Nat->Bool) (K:Nat) (W:World):Prop:=
 ∃ws V,aW W b g n ws∧(∀j,aw ws j=fu f F T K j)∧aj W cb [.int .i64 V] 3∧Fr (fun k=>k=g∨k=cb) w W
def nh (w:World) (b g n cb F T:Nat) (f:Nat->Bool) (K:Nat) (W:World):Prop:=
 ∃ws V,aW W b g n ws∧(∀j,aw ws j=fP f F T K j)∧aj W cb [.int .i64 V] 3∧Fr (fun k=>k=g∨k=cb) w W
def iw (w:World) (b g n cb F T:Nat) (ws:List Nat) (K:Nat) (W:World):Prop:=
 aW W b g n ws∧aj W cb [.int .i64 ((cnt (cR (aw ws) F T) (64*(F/64)) (64*K):Nat):Int)] 3∧Fr (fun k=>k=cb) w W
theorem pE {f:Nat->Bool} {F T j:Nat}:fu f F T (F/64) j=f j:=by
 unfold fu;have:(decide (F<=j)&&decide (j<T)&&decide (j<64*(F/64)))=false:=by
  rw [Bool.eq_false_iff];simp only [ne_eq,Bool.and_eq_true,decide_eq_true_eq];omega
 rw [this,Bool.or_false]
theorem qE {f:Nat->Bool} {F T j:Nat}:fP f F T (F/64) j=f j:=by
 unfold fP;have:(decide (F<=j)&&decide (j<T)&&decide (j<64*(F/64)))=false:=by
  rw [Bool.eq_false_iff];simp only [ne_eq,Bool.and_eq_true,decide_eq_true_eq];omega
 rw [this,Bool.not_false,Bool.and_true]
theorem uH {f:Nat->Bool} {F T j:Nat}:fu f F T (if F<T then (T-1)/64+1 else F/64) j=(f j||(decide (F<=j)&&decide (j<T))):=by
 unfold fu;congr 1
 rw [Bool.eq_iff_iff];simp only [Bool.and_eq_true,decide_eq_true_eq];split<;>omega
theorem wA {f:Nat->Bool} {F T j:Nat}:fP f F T (if F<T then (T-1)/64+1 else F/64) j=(f j&& !(decide (F<=j)&&decide (j<T))):=by
 unfold fP;congr 2
 rw [Bool.eq_iff_iff];simp only [Bool.and_eq_true,decide_eq_true_eq];split<;>omega
theorem pD {w W p:World} {b g n a F T K:Nat} {f:Nat->Bool} (z:T<=n) (hf:∀j,n<=j->f j=false) (d:a≠g) (u:b≠a) {ws:List Nat} {x:Nat} (q:aW W b g n ws) (r:∀j,aw ws j=fu f F T K j) {V:Int} (s:aj W a [.int .i64 V] 3) (t:Fr (fun k=>k=g∨k=a) w W)
  (m:ws[K]? =some x) (h:Int) (i:p=(W.setCell ⟨a,0,none⟩ (.int .i64 h)).drew.setCell ⟨g,K,none⟩ (.int .u64 ((x|||cv F T K:Nat):Int))):mR w b g n a F T f (K+1) p:=by
 have c:=so (F:=F) (T:=T) m r;have l:Fr (fun k=>k=a) W (W.setCell ⟨a,0,none⟩ (.int .i64 h)).drew:=((Fr.refl (fun k=>k=a) W).setCell ⟨a,0,none⟩ (.inl rfl) _).drew;have y:=q.frame l u (fun e=>d e.symm);have o:=q.lt x (List.mem_of_getElem? m);refine ⟨_,h,rJ y m (x|||cv F T K) (Nat.or_lt_two_pow (n:=64) o (ig _ _ _)) (fun j v=> ?_) _ rfl i,c,?_,?_⟩
 ·rw [c];unfold fu;rw [hf j v,decide_eq_false (show¬j<T by omega),Bool.and_false,Bool.false_and,Bool.or_false]
 ·rw [i];exact (s.set 0 (.int .i64 h)).drew.setOther _ _ d
 ·rw [i];exact (((t.setCell ⟨a,0,none⟩ (.inl (.inr rfl)) _).drew).setCell ⟨g,K,none⟩ (.inl (.inl rfl)) _)
theorem qD {w W m:World} {b g n a F T K y:Nat} {f:Nat->Bool} (hf:∀j,n<=j->f j=false) (d:a≠g) (u:b≠a) {ws:List Nat} {x:Nat} (p:aW W b g n ws) (r:∀j,aw ws j=fP f F T K j) {V:Int} (s:aj W a [.int .i64 V] 3) (t:Fr (fun k=>k=g∨k=a) w W)
  (o:ws[K]? =some x) (B:y<18446744073709551616) (z:∀q,q<64->y.testBit q=(x.testBit q&& !(cv F T K).testBit q)) (h:Int) (i:m=(W.setCell ⟨a,0,none⟩ (.int .i64 h)).drew.setCell ⟨g,K,none⟩ (.int .u64 y)):nh w b g n a F T f (K+1) m:=by
 have c:=tQ (F:=F) (T:=T) o z r;have l:Fr (fun k=>k=a) W (W.setCell ⟨a,0,none⟩ (.int .i64 h)).drew:=((Fr.refl (fun k=>k=a) W).setCell ⟨a,0,none⟩ (.inl rfl) _).drew;have A:=p.frame l u (fun e=>d e.symm);refine ⟨_,h,rJ A o y B (fun j v=> ?_) _ rfl i,c,?_,?_⟩
 ·rw [c];unfold fP;rw [hf j v,Bool.false_and]
 ·rw [i];exact (s.set 0 (.int .i64 h)).drew.setOther _ _ d
 ·rw [i];exact (((t.setCell ⟨a,0,none⟩ (.inl (.inr rfl)) _).drew).setCell ⟨g,K,none⟩ (.inl (.inl rfl)) _)
theorem kC {w:World} {b g n K:Nat} {ws:List Nat} (h:aW w b g n ws) (d:64*K<n):∃x,ws[K]? =some x∧x<18446744073709551616∧w.cell? ⟨g,K,none⟩=some (.int .u64 x):=by
 have c:K<ws.length:=by rw [h.len];omega
 obtain ⟨x,a⟩:∃x,ws[K]? =some x:=⟨_,List.getElem?_eq_getElem c⟩;exact ⟨x,a,h.lt x (List.mem_of_getElem? a),h.at a⟩
theorem qC {w:World} {b g n:Nat} {ws:List Nat} (h:aW w b g n ws):∃c,(n+63)/64<=c∧w.cell? ⟨b,0,none⟩=some (.slice (some ⟨g,0,none⟩) ((n+63)/64) c):=by
 have:=h.c0;rwa [h.len] at this
theorem aW.drew {w:World} {b g n:Nat} {ws:List Nat} (h:aW w b g n ws):aW w.drew b g n ws:=h.frame (S:=fun _=>False) ((Fr.refl _ w).drew) (fun h=>h) (fun h=>h)
theorem tM {w:World} {b g n F T:Nat} {ws:List Nat} (h:aW w b g n ws) (r:F<=T) (B:T<=n):Calls Tryz.prog 258 #[b,.int .i64 F,.int .i64 T] w fun e w'=>(∃V,e= .returned (.int .i64 V))∧∃a,aW w' b g n a∧(∀j,aw a j=(aw ws j||(decide (F<=j)&&decide (j<T))))∧Fr (fun k=>k=g) w w':=by
 have u:=h.glt;have t:=h.blt;have L:(w.alloc (.cells #[.int .i64 0] 3)).heap.size=w.heap.size+1:=by simp
 have m:Fr (fun k=>k=g∨k=w.heap.size) w (w.alloc (.cells #[.int .i64 0] 3)):=(Fr.refl _ w).alloc _;have y:mR w b g n w.heap.size F T (aw ws) (F/64) (w.alloc (.cells #[.int .i64 0] 3)):=⟨ws,0,h.frame (S:=fun _=>False) ((Fr.refl _ w).alloc _) (fun h=>h) (fun h=>h),fun j=>pE.symm,aj.new w _ _,m⟩;have D:=ae (jN (w:=w.alloc (.cells #[.int .i64 0] 3)) (b:=b) (g:=g) (n:=n) rfl 282 w.heap.size F T (enters_of Tryz.func282 (by kernel_rfl) rfl) r B h.small (T:Int) (by omega) (mR w b g n w.heap.size F T (aw ws))
  (fun K W ⟨a,V,d,o,f,p⟩=>⟨qC d,a,V,d.drew,o,f.drew,p.drew⟩) ((h.frame (S:=fun _=>False) ((Fr.refl _ w).alloc _) (fun h=>h) (fun h=>h)).c1)
  (fun K W G H I ⟨a,V,d,o,f,p⟩=>by
   obtain ⟨x,M,v,J⟩:=kC (K:=K) d (by omega);refine (yP x (cv F T K) V v (ig _ _ _) J (d.free K) (f.cell 0 rfl) (f.free 0) (by omega)).mono ?_;rintro e N ⟨rfl,E,s⟩;exact ⟨rfl,pD B h.off (by omega) (by omega) d o f p M E s⟩) y
  (fun e W=>e= .returned (.tuple #[])∧mR w b g n w.heap.size F T (aw ws) (if F<T then (T-1)/64+1 else F/64) W) (fun W s=>⟨rfl,s⟩))
 have c:∀W,mR w b g n w.heap.size F T (aw ws) (if F<T then (T-1)/64+1 else F/64) W->(∃V,W.cell? ⟨w.heap.size,0,none⟩=some (.int .i64 V))∧∃a,aW W b g n a∧(∀j,aw a j=(aw ws j||(decide (F<=j)&&decide (j<T))))∧Fr (fun k=>k=g) w W:=fun W ⟨a,V,d,o,f,p⟩=>
  ⟨⟨V,f.cell 0 rfl⟩,a,d,fun j=>by rw [o,uH],p.mono (fun i q=>by rcases q with q|q;exact .inl q;exact .inr (by omega))⟩
 have l:=ae c;clear c y m h u t
 go_enter Tryz.func258,Tryz.ntmps258
 go_wp2_with fail
 refine (D.out).mono ?_;rintro e w' ⟨rfl,z⟩;obtain ⟨⟨V,O⟩,A⟩:=l.out _ z;have C:=ae A;clear z A;go_wp2;go_ret;exact ⟨⟨V,rfl⟩,C.out⟩
theorem lQ {w:World} {b g n F T:Nat} {ws:List Nat} (h:aW w b g n ws) (s:F<=T) (M:T<=n):Calls Tryz.prog 202 #[b,.int .i64 F,.int .i64 T] w fun e w'=>(∃V,e= .returned (.int .i64 V))∧∃a,aW w' b g n a∧(∀j,aw a j=(aw ws j&& !(decide (F<=j)&&decide (j<T))))∧Fr (fun k=>k=g) w w':=by
 have v:=h.glt;have u:=h.blt;have O:(w.alloc (.cells #[.int .i64 0] 3)).heap.size=w.heap.size+1:=by simp
 have m:Fr (fun k=>k=g∨k=w.heap.size) w (w.alloc (.cells #[.int .i64 0] 3)):=(Fr.refl _ w).alloc _;have B:nh w b g n w.heap.size F T (aw ws) (F/64) (w.alloc (.cells #[.int .i64 0] 3)):=⟨ws,0,h.frame (S:=fun _=>False) ((Fr.refl _ w).alloc _) (fun h=>h) (fun h=>h),fun j=>qE.symm,aj.new w _ _,m⟩;have G:=ae (jN (w:=w.alloc (.cells #[.int .i64 0] 3)) (b:=b) (g:=g) (n:=n) rfl 246 w.heap.size F T (enters_of Tryz.func246 (by kernel_rfl) rfl) s M h.small (T:Int) (by omega) (nh w b g n w.heap.size F T (aw ws))
  (fun K W ⟨a,V,d,p,f,q⟩=>⟨qC d,a,V,d.drew,p,f.drew,q.drew⟩) ((h.frame (S:=fun _=>False) ((Fr.refl _ w).alloc _) (fun h=>h) (fun h=>h)).c1)
  (fun K W I J L ⟨a,V,d,p,f,q⟩=>by
   obtain ⟨x,P,o,N⟩:=kC (K:=K) d (by omega);obtain ⟨y,Q,z,A⟩:=jc x (cv F T K) o (ig _ _ _);refine (zi x (cv F T K) V o (ig _ _ _) N (d.free K) (f.cell 0 rfl) (f.free 0) (by omega) y z).mono ?_;rintro e R ⟨rfl,H,t⟩;exact ⟨rfl,qD h.off (by omega) (by omega) d p f q P Q A H t⟩) B
  (fun e W=>e= .returned (.tuple #[])∧nh w b g n w.heap.size F T (aw ws) (if F<T then (T-1)/64+1 else F/64) W) (fun W t=>⟨rfl,t⟩))
 have c:∀W,nh w b g n w.heap.size F T (aw ws) (if F<T then (T-1)/64+1 else F/64) W->(∃V,W.cell? ⟨w.heap.size,0,none⟩=some (.int .i64 V))∧∃a,aW W b g n a∧(∀j,aw a j=(aw ws j&& !(decide (F<=j)&&decide (j<T))))∧Fr (fun k=>k=g) w W:=fun W ⟨a,V,d,p,f,q⟩=>
  ⟨⟨V,f.cell 0 rfl⟩,a,d,fun j=>by rw [p,wA],q.mono (fun i r=>by rcases r with r|r;exact .inl r;exact .inr (by omega))⟩
 have l:=ae c;clear c B m h v u
 go_enter Tryz.func202,Tryz.ntmps202
 go_wp2_with fail
 refine (G.out).mono ?_;rintro e w' ⟨rfl,C⟩;obtain ⟨⟨V,U⟩,D⟩:=l.out _ C;have E:=ae D;clear C D;go_wp2;go_ret;exact ⟨⟨V,rfl⟩,E.out⟩
theorem nD {w W d:World} {b g n a F T K:Nat} {ws:List Nat} (f:a≠g) (p:b≠a) (s:F/64<=K) (h:iw w b g n a F T ws K W) {x:Nat} (r:ws[K]? =some x)
  (j:d=(W.setCell ⟨a,0,none⟩ (.int .i64 (((cnt (cR (aw ws) F T) (64*(F/64)) (64*K):Nat):Int)+(dh (rq (cv F T K&&&x) 0 64) 64:Nat)))).drew):iw w b g n a F T ws (K+1) d:=by
 obtain ⟨l,m,o⟩:=h;have c:Fr (fun k=>k=a) W d:=by rw [j];exact ((Fr.refl (fun k=>k=a) W).setCell ⟨a,0,none⟩ (.inl rfl) _).drew
 refine ⟨l.frame c p (fun e=>f e.symm),?_,o.trans c (fun i q=> .inl q)⟩;rw [j];have:=(m.set 0 (.int .i64 (((cnt (cR (aw ws) F T) (64*(F/64)) (64*K):Nat):Int)+(dh (rq (cv F T K&&&x) 0 64) 64:Nat)))).drew;rw [po r] at this ⊢;have e:cnt (cR (aw ws) F T) (64*(F/64)) (64*(K+1))=cnt (cR (aw ws) F T) (64*(F/64)) (64*K)+cnt (cR (aw ws) F T) (64*K) (64*(K+1)):=ay _ (by omega) (by omega);rw [e];exact this
theorem kB {w:World} {b g n F T:Nat} {ws:List Nat} (h:aW w b g n ws) (j:F<=T) (E:T<=n) (X:Int) (G:min X (n:Int)=(T:Int)):Calls Tryz.prog 284 #[b,.int .i64 F,.int .i64 X] w fun e w'=>e= .returned (.int .i64 ((cnt (aw ws) F T:Nat):Int))∧Fr (fun _=>False) w w':=by
 have t:=h.glt;have s:=h.blt;have I:=h.small;have v:iw w b g n w.heap.size F T ws (F/64) (w.alloc (.cells #[.int .i64 0] 3)):=⟨h.frame (S:=fun _=>False) ((Fr.refl _ w).alloc _) (fun h=>h) (fun h=>h),by rw [bG _ (Nat.le_refl _)];exact aj.new w _ _,(Fr.refl _ w).alloc _⟩;have l:∀K,cnt (cR (aw ws) F T) (64*(F/64)) (64*K)<=1048576:=fun K=>by
  by_cases M:64*K<=T
  ·have:=be (cR (aw ws) F T) (64*(F/64)) (64*K);omega
  ·by_cases o:64*(F/64)<=T
   ·rw [ay (cR (aw ws) F T) o (show T<=64*K by omega),aE (a:=T) (b:=64*K) (fun i h _=>by unfold cR;rw [decide_eq_false (show¬i<T by omega),Bool.and_false];rfl)];have:=be (cR (aw ws) F T) (64*(F/64)) T;omega
   ·omega
 have B:=ae (jN (w:=w.alloc (.cells #[.int .i64 0] 3)) (b:=b) (g:=g) (n:=n) rfl 292 w.heap.size F T (enters_of Tryz.func292 (by kernel_rfl) rfl) j E h.small X G (iw w b g n w.heap.size F T ws)
  (fun K W ⟨m,d,p⟩=>⟨qC m,m.drew,d.drew,p.drew⟩) ((h.frame (S:=fun _=>False) ((Fr.refl _ w).alloc _) (fun h=>h) (fun h=>h)).c1)
  (fun K W q C D z=>by
   obtain ⟨m,d,p⟩:=id z;obtain ⟨x,J,u,H⟩:=kC (K:=K) m (by omega);refine (xg x (cv F T K) _ u (ig _ _ _) H (d.cell 0 rfl) (d.free 0) ⟨by omega,by have:=l K;omega⟩).mono ?_;rintro e L ⟨rfl,r⟩;exact ⟨rfl,nD (by omega) (by omega) q z J r⟩) v
  (fun e W=>e= .returned (.tuple #[])∧iw w b g n w.heap.size F T ws (if F<T then (T-1)/64+1 else F/64) W) (fun W r=>⟨rfl,r⟩))
 have c:∀W,iw w b g n w.heap.size F T ws (if F<T then (T-1)/64+1 else F/64) W->W.cell? ⟨w.heap.size,0,none⟩=some (.int .i64 ((cnt (aw ws) F T:Nat):Int))∧Fr (fun _=>False) w W:=fun W ⟨m,d,p⟩=>by
  refine ⟨?_,p.mono (fun i P=> .inr (by omega))⟩;have:=d.cell 0 rfl;by_cases k:F<T
  ·rw [if_pos k,nE _ (by omega) j (by omega)] at this;exact this
  ·rw [if_neg k,bG _ (Nat.le_refl _)] at this;rw [bG _ (show T<=F by omega)];exact this
 have f:=ae c;generalize cnt (aw ws) F T=N at*;clear c v h t s l
 go_enter Tryz.func284,Tryz.ntmps284
 go_wp2_with fail
 refine (B.out).mono ?_;rintro e w' ⟨rfl,o⟩;obtain ⟨O,y⟩:=f.out _ o;have A:=ae y;clear o y;go_wp2;go_ret;exact ⟨rfl,A.out⟩
def di (E:Nat->Nat):Prop:=∀a b,a<b->E a≠0->E b≠0->a+E a<=b
def aU (E:Nat->Nat) (a:Nat):Bool:=E a !=0
def kP (E:Nat->Nat) (e:Nat):Bool:=(List.range (e+1)).any fun s=>E s !=0&&s+E s==e+1
def ai (E:Nat->Nat) (a:Nat):Bool:=(List.range (a+1)).any fun s=>decide (a<s+E s)
theorem aQ {E:Nat->Nat} {a:Nat}:ai E a=true↔∃s,s<=a∧a<s+E s:=by
 unfold ai;simp only [List.any_eq_true,List.mem_range,decide_eq_true_eq];exact ⟨fun ⟨s,c,b⟩=>⟨s,by omega,b⟩,fun ⟨s,c,b⟩=>⟨s,by omega,b⟩⟩
theorem gQ {E:Nat->Nat} {e:Nat}:kP E e=true↔∃s,E s≠0∧s+E s=e+1:=by
 unfold kP;simp only [List.any_eq_true,List.mem_range,Bool.and_eq_true,bne_iff_ne,beq_iff_eq];exact ⟨fun ⟨s,_,a,b⟩=>⟨s,a,b⟩,fun ⟨s,a,b⟩=>⟨s,by omega,a,b⟩⟩
theorem bJ {E:Nat->Nat} {a:Nat}:aU E a=true↔E a≠0:=by unfold aU;exact bne_iff_ne
theorem di.owner {E:Nat->Nat} (h:di E) {s t a:Nat} (g:s<=a) (e:a<s+E s) (i:t<=a) (f:a<t+E t):s=t:=by
 rcases Nat.lt_trichotomy s t with d|b|c
 ·have:=h s t d (by omega) (by omega);omega
 ·exact b
 ·have:=h t s c (by omega) (by omega);omega
theorem di.end_of {E:Nat->Nat} (h:di E) {s:Nat} (d:E s≠0):kP E (s+E s-1)=true∧∀j,s<=j->j<s+E s-1->kP E j=false:=by
 refine ⟨gQ.2 ⟨s,d,by omega⟩,fun j f g=> ?_⟩
 cases hj:kP E j with
 |false=>rfl
 |true=>
  obtain ⟨t,e,i⟩:=gQ.1 hj;rcases Nat.lt_trichotomy s t with c|a|b
  ·have:=h s t c d e;omega
  ·subst a;omega
  ·have:=h t s b e d;omega
theorem ic {E:Nat->Nat} {s i:Nat} (a:i<E s):ai E (s+i)=true:=aQ.2 ⟨s,by omega,by omega⟩
theorem yM {E:Nat->Nat} {s i:Nat} (e:i<=E s):cnt (ai E) 0 (s+i)=cnt (ai E) 0 s+i:=by
 rw [ay (ai E) (Nat.zero_le s) (Nat.le_add_right s i),iF (a:=s) (b:=s+i) (fun j c d=>by
  have:=ic (E:=E) (s:=s) (i:=j-s) (by omega);rwa [show s+(j-s)=j by omega] at this)]
 omega
theorem zP {E:Nat->Nat} {a b:Nat} (h:∀s,E s≠0->s+E s<=a∨b<=s):∀j,a<=j->j<b->ai E j=false:=by
 intro j e f
 cases hj:ai E j with
 |false=>rfl
 |true=>
  obtain ⟨s,c,d⟩:=aQ.1 hj;rcases h s (by omega) with h|h<;>omega
def goes (E:Nat->Nat) (Ba a:Nat):Nat:=Ba+cnt (ai E) 0 a
theorem js {E:Nat->Nat} {Ba s i:Nat} (a:i<=E s):goes E Ba (s+i)=goes E Ba s+i:=by unfold goes;rw [yM a];omega
theorem ez {E:Nat->Nat} {Ba a b:Nat} (h:a<=b):goes E Ba a<=goes E Ba b:=by
 unfold goes;have:=cZ (ai E) (a:=0) h;omega
theorem lj {E:Nat->Nat} {Ba a:Nat} (h:∀s,E s≠0->Ba<=s) (c:Ba<=a):goes E Ba a<=a:=by
 unfold goes;rw [ay (ai E) (Nat.zero_le Ba) c,aE (a:=0) (b:=Ba) (fun j _ f=>by
  cases hj:ai E j with
  |false=>rfl
  |true=>
   obtain ⟨s,d,e⟩:=aQ.1 hj;have:=h s (by omega);omega)]
 have:=be (ai E) Ba a;omega
def br (E:Nat->Nat) (s n:Nat):Nat->Nat:=fun a=>if a=s then n else E a
theorem qq {E:Nat->Nat} (h:di E) {s n:Nat} (k:n≠0) (i:∀a,a<s->E a≠0->a+E a<=s) (j:∀b,s<=b->E b≠0->s+n<=b):di (br E s n):=by
 intro a b c e d;unfold br at*;by_cases f:a=s
 ·subst f;rw [if_pos rfl];rw [if_neg (by omega)] at d;exact j b (by omega) d
 ·rw [if_neg f] at e ⊢;by_cases g:b=s
  ·subst g;exact i a c e
  ·rw [if_neg g] at d;exact h a b c e d
end Go.Proofs.YthahbijbpinneaaGreatDoor
