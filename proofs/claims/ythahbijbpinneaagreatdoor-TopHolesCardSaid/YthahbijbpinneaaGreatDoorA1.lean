import Derived.Test.YthahbijbpinneaaGreatDoorA0
import Derived.Test.YthahbijbpinneaaGreatDoorShelf
import Derived.Laws.MakeOwn
set_option maxRecDepth 100000
set_option maxHeartbeats 8000000
set_option linter.all false
namespace Go.Proofs.YthahbijbpinneaaGreatDoor
open Go.RowKit
theorem lv (n:Int) (A:Nat) (hA:min (max n 0) 64=(A:Int)) (w:World):
  Calls Tryz.prog 289 #[.int .i64 n] w fun e w'=>e= .returned (.int .i64 A)∧w=w':=by
 by_cases h1:n<0
 ·have e:A=0:=by omega
  subst e
  go_enter Tryz.func289,Tryz.ntmps289
  go_wp2;go_ret;exact ⟨rfl,rfl⟩
 ·by_cases h2:64<n
  ·have e:A=64:=by omega
   subst e
   go_enter Tryz.func289,Tryz.ntmps289
   go_wp2;go_ret;exact ⟨rfl,rfl⟩
  ·have e:n=A:=by omega
   subst e;have h3:A≤64:=by omega
   clear h1 h2 hA
   go_enter Tryz.func289,Tryz.ntmps289
   go_wp2;go_ret;exact ⟨congrArg (fun z=>Ending.returned (.int .i64 z)) (by omega:min (A:Int) 64=A),rfl⟩
theorem qb (n:Int):∃A:Nat,min (max n 0) 64=(A:Int)∧A≤64∧∀j:Nat,j<64→((n≤(j:Int))↔A≤j)∧(((j:Int)<n)↔j<A):=
 ⟨(min (max n 0) 64).toNat,by omega,by omega,fun j hj=>⟨by omega,by omega⟩⟩
theorem iY (a b:Int) (w:World):
  Calls Tryz.prog 274 #[.int .i64 a,.int .i64 b] w fun e w'=>e= .returned (.int .u64 ((gh (dJ a b) 64:Nat):Int))∧w=w':=by
 obtain ⟨A,hA,lA,fA⟩:=qb a;obtain ⟨B,hB,lB,fB⟩:=qb b;have HA:=ae hA;have HB:=ae hB;have hf:gh (dJ a b) 64=gh (fun j=>decide (A≤j)&&decide (j<B)) 64:=rR (fun j hj=>by
  unfold dJ;rw [Bool.eq_iff_iff];simp only [Bool.and_eq_true,decide_eq_true_eq,(fA j hj).1,(fB j hj).2])
 rw [hf];clear hA hB fA fB hf;by_cases hlt:A<B
 ·have hr:=wC A B hlt lB;generalize hv:gh (fun j=>decide (A≤j)&&decide (j<B)) 64=v at*;clear hv;have Hr:=ae hr;clear hr
  go_enter Tryz.func274,Tryz.ntmps274
  go_wp2_with fail
  refine (lv a A HA.out _).mono ?_;rintro e w' ⟨rfl,rfl⟩;go_wp2_with fail
  refine (lv b B HB.out _).mono ?_;rintro e w' ⟨rfl,rfl⟩;go_wp2;go_ret;exact ⟨congrArg (fun z=>Ending.returned (.int .u64 z)) Hr.out,rfl⟩
 ·have h0:gh (fun j=>decide (A≤j)&&decide (j<B)) 64=0:=by
   apply Nat.eq_of_testBit_eq;intro j;rw [cm,Nat.zero_testBit,Bool.eq_false_iff];simp only [ne_eq,Bool.and_eq_true,decide_eq_true_eq];omega
  rw [h0]
  go_enter Tryz.func274,Tryz.ntmps274
  go_wp2_with fail
  refine (lv a A HA.out _).mono ?_;rintro e w' ⟨rfl,rfl⟩;go_wp2_with fail
  refine (lv b B HB.out _).mono ?_;rintro e w' ⟨rfl,rfl⟩;go_wp2;go_ret;exact ⟨rfl,rfl⟩
theorem ic (x:Nat) (hx:x<18446744073709551616) (a b:Int) (w:World):
  Calls Tryz.prog 247 #[.int .u64 x,.int .i64 a,.int .i64 b] w fun e w'=>e= .returned (.int .i64 ((cW (qr x a b) 64:Nat):Int))∧w=w':=by
 have hv:=gJ (dJ a b) (Nat.le_refl 64);have ha:=u64_and_nat x (gh (dJ a b) 64) hx hv;have hlt:x&&&gh (dJ a b) 64<18446744073709551616:=Nat.lt_of_le_of_lt Nat.and_le_left hx;have hc:cW (qr x a b) 64=cW (fun j=>(x&&&gh (dJ a b) 64).testBit j) 64:=jm (fun j hj=>by
  rw [Nat.testBit_and,cm];unfold qr dJ;simp only [hj,decide_true,Bool.true_and]
  cases x.testBit j<;>simp)
 rw [hc];have hr:=iY a b w;generalize gh (dJ a b) 64=v at*;generalize x&&&v=y at*;clear hc hv;have Hr:=ae hr;clear hr
 go_enter Tryz.func247,Tryz.ntmps247
 go_wp2_with fail
 refine (Hr.out).mono ?_;rintro e w' ⟨rfl,rfl⟩;go_wp2_with fail
 refine (ut y hlt _).mono ?_;rintro e w' ⟨rfl,rfl⟩;go_wp2;go_ret;exact ⟨rfl,rfl⟩
def wF:List Nat:=[0,1,56,2,57,49,28,3,61,58,42,50,38,29,17,4,62,47,59,36,45,43,51,22,53,39,33,30,24,18,12,5,63,55,48,27,60,41,37,16,46,35,44,21,52,32,23,11,54,26,40,15,34,20,31,10,25,14,19,9,13,8,7,6]
def bu (w:World):Prop:=∀(i k:Nat),wF[i]? =some k→w.cell? ⟨1,i,none⟩=some (.int .u8 k)
theorem xP:∀k,k<64→wF[2^k*285870213051353865% 18446744073709551616/288230376151711744]? =some k:=by decide+kernel
theorem xS (x k:Nat) (hx:x<18446744073709551616) (m:Nat) (h:x=2^k*(2*m+1)):
  IntKind.u64.wrap (bits BinOp.and IntKind.u64 (x:Int) (IntKind.u64.wrap (-(x:Int)))*285870213051353865)/288230376151711744=((2^k*285870213051353865% 18446744073709551616/288230376151711744:Nat):Int):=by
 have hpos:0<x:=by rw [h];exact Nat.mul_pos (Nat.two_pow_pos k) (by omega)
 have e1:IntKind.u64.wrap (-(x:Int))=((18446744073709551616-x:Nat):Int):=by rw [IntKind.wrap_u64];omega
 have e2:x&&&(18446744073709551616-x)=2^k:=by
  have:=Lib.and_neg 64 k m (by rw [←h];exact hx);rw [←h] at this;exact this
 rw [e1,u64_and_nat x _ hx (by omega),e2,IntKind.wrap_u64];omega
theorem yA (x:Nat) (hx:x<18446744073709551616) (h0:x≠0):∃k br:Nat,bD (fun j=>x.testBit j) 0 64=k∧k<64∧br<64∧wF[br]? =some k∧
  IntKind.u64.wrap (bits BinOp.and IntKind.u64 (x:Int) (IntKind.u64.wrap (-(x:Int)))*285870213051353865)/288230376151711744=(br:Int):=by
 obtain ⟨k,m,hk,hxk,hf⟩:=rp x hx h0;have hi:=xP k hk;have hlt:=(List.getElem?_eq_some_iff.1 hi).1;exact ⟨k,_,hf,hk,hlt,hi,xS x k hx m hxk⟩
theorem wH (x k br:Nat) (w:World) (hz:((x:Int)==0)=false) (hk:k<64) (hlt:br<64) (hcell:w.cell? ⟨1,br,none⟩=some (.int .u8 k))
  (key:IntKind.u64.wrap (bits BinOp.and IntKind.u64 (x:Int) (IntKind.u64.wrap (-(x:Int)))*285870213051353865)/288230376151711744=(br:Int)):
  Calls Tryz.prog 290 #[.int .u64 x] w fun e w'=>e= .returned (.int .i64 k)∧w=w':=by
 go_enter Tryz.func290,Tryz.ntmps290
 go_wp2_with (simp only [key])
 go_ret;exact ⟨rfl,rfl⟩
theorem wI (w:World):
  Calls Tryz.prog 290 #[.int .u64 0] w fun e w'=>e= .returned (.int .i64 64)∧w=w':=by
 go_enter Tryz.func290,Tryz.ntmps290
 go_wp2;go_ret;exact ⟨rfl,rfl⟩
theorem xR (x:Nat) (hx:x<18446744073709551616) (w:World) (hT:bu w):
  Calls Tryz.prog 290 #[.int .u64 x] w fun e w'=>e= .returned (.int .i64 ((bD (fun j=>x.testBit j) 0 64:Nat):Int))∧w=w':=by
 by_cases h0:x=0
 ·subst h0;rw [iH (fun j _ _=>Nat.zero_testBit j)];exact wI w
 ·obtain ⟨k,br,hf,hk,hlt,hi,key⟩:=yA x hx h0;rw [hf];exact wH x k br w (by rw [beq_eq_false_iff_ne];omega) hk hlt (hT br k hi) key
theorem uk (x:Nat) (hx:x<18446744073709551616) (a:Int) (w:World) (hT:bu w):
  Calls Tryz.prog 281 #[.int .u64 x,.int .i64 a] w fun e w'=>e= .returned (.int .i64 ((bD (gA x a) 0 64:Nat):Int))∧w=w':=by
 have hv:=gJ (dJ a 64) (Nat.le_refl 64);have ha:=u64_and_nat x (gh (dJ a 64) 64) hx hv;have hlt:x&&&gh (dJ a 64) 64<18446744073709551616:=Nat.lt_of_le_of_lt Nat.and_le_left hx;have hc:bD (gA x a) 0 64=bD (fun j=>(x&&&gh (dJ a 64) 64).testBit j) 0 64:=gx 64 0 (fun j _ hj=>by
  rw [Nat.testBit_and,cm];unfold gA dJ;simp only [show j<64 by omega,show (j:Int)<64 by omega,decide_true,Bool.true_and,Bool.and_true]
  cases x.testBit j<;>simp)
 rw [hc];have hr:=iY a 64 w;generalize gh (dJ a 64) 64=v at*;generalize x&&&v=y at*;clear hc hv;have Hr:=ae hr;clear hr;have HT:=ae hT;clear hT
 go_enter Tryz.func281,Tryz.ntmps281
 go_wp2_with fail
 refine (Hr.out).mono ?_;rintro e w' ⟨rfl,rfl⟩;go_wp2_with fail
 refine (xR y hlt _ HT.out).mono ?_;rintro e w' ⟨rfl,rfl⟩;go_wp2;go_ret;exact ⟨rfl,rfl⟩
theorem tZ (x:Nat) (hx:x<18446744073709551616) (b:Int) (w:World):
  Calls Tryz.prog 288 #[.int .u64 x,.int .i64 b] w fun e w'=>e= .returned (.int .i64 (cr (eQ x b) 64))∧w=w':=by
 have hv:=gJ (dJ 0 b) (Nat.le_refl 64);have ha:=u64_and_nat x (gh (dJ 0 b) 64) hx hv;have hlt:x&&&gh (dJ 0 b) 64<18446744073709551616:=Nat.lt_of_le_of_lt Nat.and_le_left hx;have hc:cr (eQ x b) 64=cr (fun j=>(x&&&gh (dJ 0 b) 64).testBit j) 64:=mV (fun j hj=>by
  rw [Nat.testBit_and,cm];unfold eQ dJ;simp only [hj,show (0:Int)≤(j:Int) by omega,decide_true,Bool.true_and]
  cases x.testBit j<;>simp)
 rw [hc];have hr:=iY 0 b w;generalize gh (dJ 0 b) 64=v at*;generalize x&&&v=y at*;rw [mq y 64 hlt];clear hc hv;have Hr:=ae hr;clear hr;have hl:=Tryz.bits_Len64 (y:Int) w (by omega) (by omega);rw [Int.toNat_natCast] at hl;change Calls Tryz.prog 269 #[.int .u64 y] w (fun e w'=>e= .returned (.int .i64 (Lib.bitLenAux 64 y:Nat))∧w'=w) at hl;have hb:Lib.bitLenAux 64 y≤64:=by
  have:∀n z,Lib.bitLenAux n z≤n:=by
   intro n
   induction n with
   |zero=>intro z;simp [Lib.bitLenAux]
   |succ n ih=>intro z;rw [Lib.bitLenAux];split;omega;have:=ih (z/2);omega
  exact this 64 y
 generalize Lib.bitLenAux 64 y=n at*;have Hl:=ae hl;clear hl
 go_enter Tryz.func288,Tryz.ntmps288
 go_wp2_with fail
 refine (Hr.out).mono ?_;rintro e w' ⟨rfl,rfl⟩;go_wp2_with fail
 refine (Hl.out).mono ?_;rintro e w' ⟨rfl,hw⟩;subst hw;go_wp2;go_ret;exact ⟨rfl,rfl⟩
theorem sc (n:Int) (h1:n≤9223372036854775807) (w:World):
  Calls Tryz.prog 235 #[.int .i64 n] w fun e w'=>e= .returned (.bool (aK n))∧w=w':=by
 by_cases hn:n≤0
 ·have hp:aK n=false:=by
   rw [Bool.eq_false_iff,ne_eq,cZ];rintro ⟨i,_,h⟩;have:(0:Int)<2^i:=Int.pow_pos (by decide);omega
  rw [hp]
  go_enter Tryz.func235,Tryz.ntmps235
  go_wp2;go_ret;exact ⟨rfl,rfl⟩
 ·obtain ⟨m,rfl⟩:=Int.eq_ofNat_of_zero_le (show 0≤n by omega);have hm:0<m:=by omega
  have hm2:m<9223372036854775808:=by omega
  have hp:aK (m:Int)=((((m&&&(m-1):Nat):Int))==0):=by
   rw [Bool.eq_iff_iff,cZ,beq_iff_eq,Int.natCast_eq_zero,wy m hm hm2];constructor
   ·rintro ⟨i,hi,h⟩;exact ⟨i,hi,by
     have:((2^i:Nat):Int)=2^i:=by simp
     omega⟩
   ·rintro ⟨i,hi,h⟩;exact ⟨i,hi,by subst h;simp⟩
  have e1:bits .and .i64 (m:Int) ((m:Int)-1)=((m&&&(m-1):Nat):Int):=by
   rw [show (m:Int)-1=((m-1:Nat):Int) by omega];exact iK m (m-1) hm2 (by omega)
  rw [hp];generalize m&&&(m-1)=q at*;clear hp hn
  go_enter Tryz.func235,Tryz.ntmps235
  go_wp2;go_ret;exact ⟨rfl,rfl⟩
def wM (n unit:Int):Prop:=aK unit=true∧unit≤1073741824∧0≤n∧n≤1152921504606846976
theorem dR (n:Int) (h1:n≤9223372036854775807) (B:Bool) (hB:aK n=B) (w:World):
  Calls Tryz.prog 235 #[.int .i64 n] w fun e w'=>e= .returned (.bool B)∧w=w':=by subst hB;exact sc n h1 w
theorem yB {n unit:Int} (h:¬wM n unit):aK unit=false∨(aK unit=true∧1073741824<unit)∨(aK unit=true∧unit≤1073741824∧n<0)∨(aK unit=true∧unit≤1073741824∧0≤n∧1152921504606846976<n):=by
 unfold wM at h
 cases hp:aK unit with
 |false=>exact .inl rfl
 |true=>
  right;by_cases h1:unit≤1073741824
  ·by_cases h2:0≤n
   ·exact .inr (.inr ⟨rfl,h1,h2,by simp only [hp,true_and] at h;omega⟩)
   ·exact .inr (.inl ⟨rfl,h1,by omega⟩)
  ·exact .inl ⟨rfl,by omega⟩
theorem vR (n unit:Int) (hu:unit≤9223372036854775807) (h:¬wM n unit) (w:World):
  Calls Tryz.prog 270 #[.int .i64 n,.int .i64 unit] w fun e w'=>e= .returned (.bool false)∧w=w':=by
 rcases yB h with h|⟨h,h1⟩|⟨h,h1,h2⟩|⟨h,h1,h2,h3⟩
 all_goals
  have HB:=ae h;clear h
  go_enter Tryz.func270,Tryz.ntmps270
  go_wp2_with (go_at_call 235;refine (dR unit hu _ HB.out _).mono ?_;rintro e w' ⟨rfl,rfl⟩)
  go_ret
  first|exact ⟨rfl,rfl⟩|exact ⟨by simp;omega,rfl⟩
theorem tG (n unit:Int) (h:wM n unit) (w:World):
  Calls Tryz.prog 270 #[.int .i64 n,.int .i64 unit] w fun e w'=>e= .returned (.bool true)∧w=w':=by
 obtain ⟨h,h1,h2,h3⟩:=h;have HB:=ae h;clear h
 go_enter Tryz.func270,Tryz.ntmps270
 go_wp2_with (go_at_call 235;refine (dR unit (by omega) _ HB.out _).mono ?_;rintro e w' ⟨rfl,rfl⟩)
 go_ret
 first|exact ⟨rfl,rfl⟩|exact ⟨by simp;omega,rfl⟩
noncomputable def gc (n unit:Int) (up:Bool):Int:=
 open Classical in if wM n unit then (if up then (n+unit-1)/unit*unit else n/unit*unit) else-1
theorem sj {n unit:Int} (h:wM n unit):∃N k:Nat,n=N∧unit=((2^k:Nat):Int)∧k≤30∧N≤1152921504606846976∧2^k≤1073741824∧1≤2^k:=by
 obtain ⟨h,h1,h2,h3⟩:=h;obtain ⟨i,hi,rfl⟩:=(cZ unit).1 h;obtain ⟨N,rfl⟩:=Int.eq_ofNat_of_zero_le h2;have e:((2^i:Nat):Int)=2^i:=by simp
 have h30:2^i≤1073741824:=by omega
 have hi30:i≤30:=by
  rcases Nat.lt_or_ge 30 i with h|h
  ·have:2^31≤2^i:=Nat.pow_le_pow_right (by decide) h;omega
  ·exact h
 exact ⟨N,i,rfl,e.symm,hi30,by omega,h30,Nat.one_le_two_pow⟩
theorem xT (n unit:Int) (hu:unit≤9223372036854775807) (w:World):
  Calls Tryz.prog 240 #[.int .i64 n,.int .i64 unit] w fun e w'=>e= .returned (.int .i64 (gc n unit true))∧w=w':=by
 by_cases h:wM n unit
 ·have hr:gc n unit true=(n+unit-1)/unit*unit:=by unfold gc;rw [if_pos h];rfl
  rw [hr];have hf:=ae h;obtain ⟨N,k,rfl,rfl,hk,hN,hp,hp1⟩:=sj h;have e1:=jw (N+2^k-1) (2^k-1) (by omega) (by omega);rw [lq (N+2^k-1) k (by omega) hk] at e1;have e2:(((N+2^k-1)/2^k*2^k:Nat):Int)=((N:Int)+(2^k:Nat)-1)/(2^k:Nat)*(2^k:Nat):=by
   rw [Int.natCast_mul,Int.natCast_ediv,show ((N+2^k-1:Nat):Int)=(N:Int)+(2^k:Nat)-1 by omega]
  rw [e2,show ((N+2^k-1:Nat):Int)=(N:Int)+(2^k:Nat)-1 by omega,show ((2^k-1:Nat):Int)=((2^k:Nat):Int)-1 by omega] at e1;clear hr h e2;generalize 2^k=u at*;generalize ((N:Int)+u-1)/u*u=r at*
  go_enter Tryz.func240,Tryz.ntmps240
  go_wp2_with (go_at_call 270;refine (tG _ _ hf.out _).mono ?_;rintro e w' ⟨rfl,rfl⟩)
  go_ret;exact ⟨rfl,rfl⟩
 ·have hr:gc n unit true= -1:=by unfold gc;rw [if_neg h]
  rw [hr];have hf:=ae h;clear hr h
  go_enter Tryz.func240,Tryz.ntmps240
  go_wp2_with (go_at_call 270;refine (vR _ _ hu hf.out _).mono ?_;rintro e w' ⟨rfl,rfl⟩)
  go_ret;exact ⟨rfl,rfl⟩
def ez (f:Nat→Bool) (a:Nat):Nat→Nat
 |0=>0
 |k+1=>ez f a k+(if f (a+k) then 1 else 0)
def cnt (f:Nat→Bool) (a b:Nat):Nat:=ez f a (b-a)
theorem bC (f:Nat→Bool) {a b:Nat} (h:b≤a):cnt f a b=0:=by unfold cnt;rw [show b-a=0 by omega];rfl
theorem aC (f:Nat→Bool) {a b:Nat} (h:a≤b):cnt f a (b+1)=cnt f a b+(if f b then 1 else 0):=by
 unfold cnt;rw [show b+1-a=(b-a)+1 by omega];show ez f a (b-a)+(if f (a+(b-a)) then 1 else 0)=_
 rw [show a+(b-a)=b by omega]
theorem my (f:Nat→Bool) (a k:Nat):∀m,ez f a (k+m)=ez f a k+ez f (a+k) m
 |0=>rfl
 |m+1=>by
  show ez f a (k+m)+(if f (a+(k+m)) then 1 else 0)=ez f a k+(ez f (a+k) m+(if f (a+k+m) then 1 else 0))
  rw [my f a k m,Nat.add_assoc a k m,Nat.add_assoc]
theorem aw (f:Nat→Bool) {a m b:Nat} (h1:a≤m) (h2:m≤b):cnt f a b=cnt f a m+cnt f m b:=by
 unfold cnt;rw [show b-a=(m-a)+(b-m) by omega,my,show a+(m-a)=m by omega]
theorem qc (f:Nat→Bool) (a:Nat):∀k,ez f a k≤k
 |0=>Nat.le_refl _
 |k+1=>by
  have:=qc f a k;show ez f a k+_≤_
  split<;>omega
theorem be (f:Nat→Bool) (a b:Nat):cnt f a b≤b-a:=qc f a (b-a)
theorem jl {f g:Nat→Bool} {a:Nat}:∀k,(∀i,a≤i→i<a+k→f i=g i)→ez f a k=ez g a k
 |0,_=>rfl
 |k+1,h=>by
  show ez f a k+(if f (a+k) then 1 else 0)=ez g a k+(if g (a+k) then 1 else 0)
  rw [jl k (fun i h1 h2=>h i h1 (by omega)),h (a+k) (by omega) (by omega)]
theorem aJ {f g:Nat→Bool} {a b:Nat} (h:∀i,a≤i→i<b→f i=g i):cnt f a b=cnt g a b:=
 jl (b-a) (fun i h1 h2=>h i h1 (by omega))
theorem cQ (f:Nat→Bool) {a b c:Nat} (h:b≤c):cnt f a b≤cnt f a c:=by
 by_cases hab:a≤b
 ·rw [aw f hab h];omega
 ·rw [bC f (by omega)];omega
theorem aD {f:Nat→Bool} {a b:Nat} (h:∀i,a≤i→i<b→f i=false):cnt f a b=0:=by
 rw [aJ (g:=fun _=>false) h];unfold cnt;generalize b-a=k
 induction k with
 |zero=>rfl
 |succ k ih=>show ez _ a k+_=0;rw [ih];rfl
theorem ib {f:Nat→Bool} {a b:Nat} (h:∀i,a≤i→i<b→f i=true):cnt f a b=b-a:=by
 rw [aJ (g:=fun _=>true) h];unfold cnt;generalize b-a=k
 induction k with
 |zero=>rfl
 |succ k ih=>show ez _ a k+_=k+1;rw [ih];rfl
theorem lI (f:Nat→Bool) (a:Nat):∀(b k:Nat),k<cnt f a b→∃i,a≤i∧i<b∧f i=true∧cnt f a i=k
 |0,k,h=>by rw [bC f (Nat.zero_le a)] at h;omega
 |b+1,k,h=>by
  by_cases hab:a≤b
  ·rw [aC f hab] at h;by_cases hk:k<cnt f a b
   ·obtain ⟨i,h1,h2,h3,h4⟩:=lI f a b k hk;exact ⟨i,h1,by omega,h3,h4⟩
   ·split at h
    ·rename_i hf;exact ⟨b,hab,by omega,hf,by omega⟩
    ·omega
  ·rw [bC f (by omega)] at h;omega
theorem jH {f:Nat→Bool} {a i j:Nat} (hi:a≤i) (hj:a≤j) (fi:f i=true) (fj:f j=true) (h:cnt f a i=cnt f a j):i=j:=by
 rcases Nat.lt_trichotomy i j with hlt|heq|hgt
 ·have:=cQ f (a:=a) (b:=i+1) (c:=j) hlt;rw [aC f hi,if_pos fi] at this;omega
 ·exact heq
 ·have:=cQ f (a:=a) (b:=j+1) (c:=i) hgt;rw [aC f hj,if_pos fj] at this;omega
theorem ia {f:Nat→Bool} {a i b:Nat} (hi:a≤i) (hb:i<b) (fi:f i=true):cnt f a i<cnt f a b:=by
 have:=cQ f (a:=a) (b:=i+1) (c:=b) hb;rw [aC f hi,if_pos fi] at this;omega
def eW (f:Nat→Bool) (a n i:Nat):Prop:=a≤i∧i<n∧f i=true∧∀j,a≤j→j<i→f j=false
def bz (ws:List Nat):List Value:=ws.map fun (x:Nat)=>Value.int .u64 x
def au (ws:List Nat) (i:Nat):Bool:=(ws.getD (i/64) 0).testBit (i% 64)
structure aV (w:World) (b g n:Nat) (ws:List Nat):Prop where
 blk:∃c,ws.length≤c∧ak w b [.slice (some ⟨g,0,none⟩) ws.length c,.int .i64 n] 289
 row:∃rest,ak w g (bz ws++rest) 46
 ne:b≠g
 len:ws.length=(n+63)/64
 lt:∀x∈ws,x<18446744073709551616
 one:1≤n
 small:n≤1048576
 off:∀i,n≤i→au ws i=false
theorem aV.frame {S:Nat→Prop} {w w':World} {b g n:Nat} {ws:List Nat} (h:aV w b g n ws) (hf:Fr S w w') (hb:¬S b) (hg:¬S g):aV w' b g n ws:=
 ⟨let ⟨c,q1,q2⟩:=h.blk;⟨c,q1,q2.frame hf hb⟩,let ⟨r,q⟩:=h.row;⟨r,q.frame hf hg⟩,h.ne,h.len,h.lt,h.one,h.small,h.off⟩
theorem aV.c0 {w:World} {b g n:Nat} {ws:List Nat} (h:aV w b g n ws):∃c,ws.length≤c∧w.cell? ⟨b,0,none⟩=some (.slice (some ⟨g,0,none⟩) ws.length c):=let ⟨c,q1,q2⟩:=h.blk;⟨c,q1,q2.cell 0 rfl⟩
theorem aV.c1 {w:World} {b g n:Nat} {ws:List Nat} (h:aV w b g n ws):w.cell? ⟨b,1,none⟩=some (.int .i64 n):=let ⟨_,_,q2⟩:=h.blk;q2.cell 1 rfl
theorem aV.at {w:World} {b g n K x:Nat} {ws:List Nat} (h:aV w b g n ws) (hx:ws[K]? =some x):w.cell? ⟨g,K,none⟩=some (.int .u64 x):=by
 obtain ⟨r,q⟩:=h.row;have hl:=(List.getElem?_eq_some_iff.1 hx).1;exact q.cell K (by rw [List.getElem?_append_left (by unfold bz;rw [List.length_map];exact hl)];unfold bz;rw [List.getElem?_map,hx];rfl)
theorem aV.free {w:World} {b g n:Nat} {ws:List Nat} (h:aV w b g n ws) (K:Nat):w.frozen? ⟨g,K,none⟩=false:=let ⟨_,q⟩:=h.row;q.free K
theorem aV.blt {w:World} {b g n:Nat} {ws:List Nat} (h:aV w b g n ws):b<w.heap.size:=let ⟨_,_,q2⟩:=h.blk;q2.lt
theorem aV.glt {w:World} {b g n:Nat} {ws:List Nat} (h:aV w b g n ws):g<w.heap.size:=let ⟨_,q⟩:=h.row;q.lt
theorem aV.word {w:World} {b g n i:Nat} {ws:List Nat} (h:aV w b g n ws) (hi:i<n):∃x,ws[i/64]? =some x∧x<18446744073709551616∧w.cell? ⟨g,i/64,none⟩=some (.int .u64 x)∧au ws i=x.testBit (i% 64):=by
 have hl:i/64<ws.length:=by rw [h.len];omega
 obtain ⟨x,hx⟩:∃x,ws[i/64]? =some x:=⟨_,List.getElem?_eq_getElem hl⟩;refine ⟨x,hx,h.lt x (List.mem_of_getElem? hx),h.at hx,?_⟩;unfold au;rw [List.getD_eq_getElem?_getD,hx];rfl
theorem fq {w:World} {b g n:Nat} {ws:List Nat} (h:aV w b g n ws):Calls Tryz.prog 201 #[b] w fun e w'=>e= .returned (.int .i64 n)∧w=w':=by
 have c1:=h.c1;clear h
 go_enter Tryz.func201,Tryz.ntmps201
 go_wp2;go_ret;exact ⟨rfl,rfl⟩
def wl (n:Nat) (i:Int):Bool:=decide (0≤i∧i<n)
theorem jW {w:World} {b g n:Nat} {ws:List Nat} (h:aV w b g n ws) (i:Int):Calls Tryz.prog 285 #[b,.int .i64 i] w fun e w'=>e= .returned (.int .i64 (if wl n i then 0 else 11))∧w=w':=by
 have c1:=h.c1;clear h;by_cases h0:i<0
 ·have hr:(if wl n i then (0:Int) else 11)=11:=if_neg (by unfold wl;simp;omega);rw [hr];clear hr
  go_enter Tryz.func285,Tryz.ntmps285
  go_wp2;go_ret;exact ⟨rfl,rfl⟩
 ·by_cases h1:(n:Int)≤i
  ·have hr:(if wl n i then (0:Int) else 11)=11:=if_neg (by unfold wl;simp;omega);rw [hr];clear hr
   go_enter Tryz.func285,Tryz.ntmps285
   go_wp2;go_ret;exact ⟨rfl,rfl⟩
  ·have hr:(if wl n i then (0:Int) else 11)=0:=if_pos (by unfold wl;simp;omega);rw [hr];clear hr
   go_enter Tryz.func285,Tryz.ntmps285
   go_wp2;go_ret;exact ⟨rfl,rfl⟩
theorem vF (x k:Nat) (hx:x<18446744073709551616):(bits .and .u64 ((x:Int)/2^k) 1==1)=x.testBit k:=by
 have hd:x/2^k≤x:=Nat.div_le_self _ _;have h:=u64_and_nat (x/2^k) 1 (by omega) (by decide);rw [Nat.and_one_is_mod] at h;have e:((x/2^k:Nat):Int)=(x:Int)/2^k:=by simp
 rw [e] at h;rw [show bits .and .u64 ((x:Int)/2^k) 1=((x/2^k% 2:Nat):Int) from h,Nat.testBit_eq_decide_div_mod_eq,Bool.eq_iff_iff,beq_iff_eq,decide_eq_true_eq];omega
theorem vd {w:World} {b g n i:Nat} {ws:List Nat} (h:aV w b g n ws) (hi:i<n):Calls Tryz.prog 266 #[b,.int .i64 i] w fun e w'=>e= .returned (.bool (au ws i))∧w=w':=by
 have HC:=ae (jW h (i:Int));rw [if_pos (by unfold wl;simp;omega)] at HC;obtain ⟨x,hx,hxl,hc,hbit⟩:=h.word hi;obtain ⟨C,hC,c0⟩:=h.c0;have hl:i/64<ws.length:=by rw [h.len];omega
 have hsm:=h.small;rw [hbit];generalize ws.length=L at*;clear h hbit hx;have q1:(i:Int).tdiv 64=((i/64:Nat):Int):=rfl;have q2:(i:Int).tmod 64=((i% 64:Nat):Int):=rfl
 go_enter Tryz.func266,Tryz.ntmps266
 go_wp2_with fail
 refine (HC.out).mono ?_;rintro e w' ⟨rfl,rfl⟩;go_wp2;go_ret;refine ⟨?_,rfl⟩;rw [←vF x (i% 64) hxl];rfl
theorem gD:(Tryz.prog.info? 46).map (fun i=>(i.zero,i.size,i.bytes))=some (some (.int .u64 0),1,8):=by kernel_rfl
theorem gG (v:Value) (n:Nat):madeCells #[v] n=Array.replicate n v:=by
 apply Array.ext
 ·simp [madeCells]
 ·intro i h1 h2;simp [madeCells,Nat.mod_one]
theorem nc (k:Nat) (hk:k≤16777216) (X:Int) (hX:X=(k:Int)) (w:World):(Instr.makeSlice 98 (.int .i64 X) (.int .i64 X)).run Tryz.prog w= .ok (.slice (some ⟨w.heap.size,0,none⟩) k k) (w.alloc (.cells (bz (List.replicate k 0)).toArray 46)):=by
 obtain ⟨i0,hi,hz,hs,hb⟩:=info_parts gD;subst hX;have h:=run_makeSlice (P:=Tryz.prog) w 98 46 i0 (.int .u64 0) Tryz.underlying98 hi hz .i64 .i64 (k:Int) (k:Int) (by omega) (Int.le_refl _) (by rw [hs,Int.toNat_natCast];omega) (by rw [hb];omega) (by omega);rw [hs,Int.toNat_natCast,Nat.mul_one,show (Value.int .u64 0).cells= #[.int .u64 0] from rfl,gG] at h;rw [h];have e:(bz (List.replicate k 0)).toArray=Array.replicate k (.int .u64 0):=by unfold bz;rw [List.map_replicate];simp
 rw [e]
theorem gq (k i:Nat):au (List.replicate k 0) i=false:=by
 unfold au;rw [List.getD_eq_getElem?_getD,List.getElem?_replicate];split<;>simp
theorem qJ (n:Nat) (h1:1≤n) (h2:n≤1048576) (w:World):Calls Tryz.prog 134 #[.int .i64 n] w fun e w'=>∃b g,e= .returned (.tuple #[.pointer (some ⟨b,0,none⟩),.int .i64 0])∧aV w' b g n (List.replicate ((n+63)/64) 0)∧w.heap.size≤b∧w.heap.size≤g∧Fr (fun _=>False) w w':=by
 have q1:((n:Int)+64-1).tdiv 64=(((n+63)/64:Nat):Int):=by
  rw [show (n:Int)+64-1=((n+63:Nat):Int) by omega];rfl
 have hmk:=nc ((n+63)/64) (by omega) (((n:Int)+63)/64) (by omega);have hend:∀W,W=(w.alloc (.cells (bz (List.replicate ((n+63)/64) 0)).toArray 46)).alloc (.cells #[.slice (some ⟨w.heap.size,0,none⟩) ((n+63)/64) ((n+63)/64),.int .i64 n] 289)→
   aV W (w.heap.size+1) w.heap.size n (List.replicate ((n+63)/64) 0)∧Fr (fun _=>False) w W:=by
  intro W hW;subst hW;refine ⟨⟨⟨(n+63)/64,by simp,?_⟩,⟨[],by rw [List.append_nil];exact (ak.new w _ _).alloc _⟩,by omega,by simp,fun x hx=>by rw [List.eq_of_mem_replicate hx];decide,h1,h2,fun i _=>gq _ i⟩,((Fr.refl _ w).alloc _).alloc _⟩;have:=ak.new (w.alloc (.cells (bz (List.replicate ((n+63)/64) 0)).toArray 46)) [.slice (some ⟨w.heap.size,0,none⟩) ((n+63)/64) ((n+63)/64),.int .i64 n] 289;rw [World.size_alloc] at this
  simpa using this
 have HEND:=ae hend;clear hend;generalize (bz (List.replicate ((n+63)/64) 0)).toArray=Z at*
 go_enter Tryz.func134,Tryz.ntmps134
 go_wp2;go_ret2;exact ⟨w.heap.size+1,w.heap.size,rfl,(HEND.out _ rfl).1,by omega,Nat.le_refl _,(HEND.out _ rfl).2⟩
theorem qE {ws:List Nat} {i x:Nat} (hx:ws[i/64]? =some x) (j:Nat):au (ws.set (i/64) (x|||2^(i% 64))) j=(au ws j||j==i):=by
 unfold au;rw [List.getD_eq_getElem?_getD,List.getD_eq_getElem?_getD,List.getElem?_set];have hl:=(List.getElem?_eq_some_iff.1 hx).1;by_cases e:i/64=j/64
 ·rw [if_pos e,if_pos hl,←e,hx];show (x|||2^(i% 64)).testBit (j% 64)=(x.testBit (j% 64)||j==i)
  rw [Nat.testBit_or,Nat.testBit_two_pow];congr 1
  rw [Bool.eq_iff_iff,decide_eq_true_eq,beq_iff_eq];omega
 ·rw [if_neg e];have:(j==i)=false:=by rw [beq_eq_false_iff_ne];intro h;exact e (by rw [h])
  rw [this,Bool.or_false]
theorem wD {w w':World} {b g n i x:Nat} {ws:List Nat} (h:aV w b g n ws) (hi:i<n) (hx:ws[i/64]? =some x) (V:Int) (hV:V=((x|||2^(i% 64):Nat):Int)) (hw:w'=(w.setCell ⟨g,i/64,none⟩ (.int .u64 V)).drew):
  aV w' b g n (ws.set (i/64) (x|||2^(i% 64)))∧Fr (fun k=>k=g) w w':=by
 subst hw;subst hV;have hxl:=h.lt x (List.mem_of_getElem? hx);have hp:(2:Nat)^(i% 64)<18446744073709551616:=Nat.lt_of_lt_of_le (Nat.pow_lt_pow_right (by decide) (Nat.mod_lt _ (by decide))) (by decide);refine ⟨⟨?_,?_,h.ne,by rw [List.length_set];exact h.len,?_,h.one,h.small,?_⟩,((Fr.refl (fun k=>k=g) w).setCell ⟨g,i/64,none⟩ (.inl rfl) _).drew⟩
 ·rw [List.length_set];obtain ⟨c,q1,q2⟩:=h.blk;exact ⟨c,q1,(q2.setOther ⟨g,i/64,none⟩ _ h.ne).drew⟩
 ·obtain ⟨r,q⟩:=h.row;have:=(q.set (i/64) (.int .u64 ((x|||2^(i% 64):Nat):Int))).drew;rw [List.set_append_left _ _ (by unfold bz;rw [List.length_map];exact (List.getElem?_eq_some_iff.1 hx).1)] at this;refine ⟨r,?_⟩;unfold bz at this ⊢;rw [List.map_set];exact this
 ·intro y hy;rcases List.mem_or_eq_of_mem_set hy with h2|h2
  ·exact h.lt y h2
  ·rw [h2];exact Nat.or_lt_two_pow (n:=64) hxl hp
 ·intro j hj;rw [qE hx,h.off j hj];simp;omega
theorem qK {w:World} {b g n i:Nat} {ws:List Nat} (h:aV w b g n ws) (hi:i<n):Calls Tryz.prog 260 #[b,.int .i64 i] w fun e w'=>e= .returned (.int .i64 0)∧∃ws',aV w' b g n ws'∧(∀j,au ws' j=(au ws j||j==i))∧Fr (fun k=>k=g) w w':=by
 have HC:=ae (jW h (i:Int));rw [if_pos (by unfold wl;simp;omega)] at HC;obtain ⟨x,hx,hxl,hc,hbit⟩:=h.word hi;obtain ⟨C,hC,c0⟩:=h.c0;have hl:i/64<ws.length:=by rw [h.len];omega
 have hfz:=h.free (i/64);have hsm:=h.small;have hor:bits .or .u64 (x:Int) (IntKind.u64.wrap (2^(i% 64)))=((x|||2^(i% 64):Nat):Int):=by
  have hp:(2:Nat)^(i% 64)<18446744073709551616:=Nat.lt_of_lt_of_le (Nat.pow_lt_pow_right (by decide) (Nat.mod_lt _ (by decide))) (by decide);have e:IntKind.u64.wrap (2^(i% 64))=((2^(i% 64):Nat):Int):=by
   have:((2^(i% 64):Nat):Int)=(2:Int)^(i% 64):=by simp
   rw [←this,IntKind.wrap_u64];generalize (2:Nat)^(i% 64)=P at hp;omega
  rw [e];exact u64_or_nat x (2^(i% 64)) hxl hp
 have HEND:=ae (fun W hW=>(wD (w':=W) h hi hx _ hor hW));have HSB:=ae (fun j=>qE hx j);clear hor;obtain ⟨L,hL⟩:∃L,ws.length=L:=⟨_,rfl⟩;rw [hL] at c0 hl hC;clear h hbit hx hL;have q1:(i:Int).tdiv 64=((i/64:Nat):Int):=rfl;have q2:(i:Int).tmod 64=((i% 64:Nat):Int):=rfl;have k0:(0:Int)≤(i:Int)/64:=by omega
 have k1:(i:Int)/64<(L:Int):=by omega
 have k2:((i:Int)/64).toNat=i/64:=by omega
 have w1:IntKind.i64.wrap ((i:Int)/64)=((i/64:Nat):Int):=by rw [IntKind.wrap_i64];omega
 have w2:IntKind.i64.wrap ((i:Int)% 64)=((i% 64:Nat):Int):=by rw [IntKind.wrap_i64];omega
 go_enter Tryz.func260,Tryz.ntmps260
 go_wp2_with fail
 refine (HC.out).mono ?_;rintro e w' ⟨rfl,rfl⟩;go_wp2;refine iQ 13 (by kernel_rfl) (by kernel_rfl) ?_;simp only [List.take_succ_cons,List.take_zero,List.drop_succ_cons,List.drop_zero]
 repeat still_step
 refine wpStill_nil ?_;go_wp2;go_ret;exact ⟨rfl,_,(HEND.out _ rfl).1,HSB.out,(HEND.out _ rfl).2⟩
theorem iI (f:Nat→Bool):∀(n a:Nat),(bD f a n=a+n∧∀j,a≤j→j<a+n→f j=false)∨(a≤bD f a n∧bD f a n<a+n∧f (bD f a n)=true∧∀j,a≤j→j<bD f a n→f j=false)
 |0,a=> .inl ⟨rfl,fun j h1 h2=>by omega⟩
 |n+1,a=>by
  rw [bD]
  cases h:f a with
  |true=>exact .inr ⟨Nat.le_refl _,by simp,by simpa using h,fun j h1 h2=>by simp at h2;omega⟩
  |false=>
   simp only [Bool.false_eq_true,if_false];rcases iI f n (a+1) with ⟨h1,h2⟩|⟨h1,h2,h3,h4⟩
   ·exact .inl ⟨by omega,fun j h3 h4=>by by_cases e:j=a;(subst e;exact h);exact h2 j (by omega) (by omega)⟩
   ·exact .inr ⟨by omega,by omega,h3,fun j h5 h6=>by by_cases e:j=a;(subst e;exact h);exact h4 j (by omega) h6⟩
def gl (f:Nat→Bool) (n i:Nat) (w:World) (e:Ending) (w':World):Prop:=
 ((∃j:Nat,eW f i n j∧e= .returned (.tuple #[.int .i64 j,.bool true]))∨((∀j,i≤j→j<n→f j=false)∧e= .returned (.tuple #[.int .i64 0,.bool false])))∧w=w'
theorem pN {w:World} {b g n K F:Nat} {ws:List Nat} (h:aV w b g n ws) (hK:K<ws.length) (hF:F<64):∃x p:Nat,x<18446744073709551616∧w.cell? ⟨g,K,none⟩=some (.int .u64 x)∧bD (gA x (F:Int)) 0 64=p∧
  ((p=64∧∀j,64*K+F≤j→j<64*(K+1)→au ws j=false)∨(p<64∧F≤p∧64*K+p<n∧au ws (64*K+p)=true∧∀j,64*K+F≤j→j<64*K+p→au ws j=false)):=by
 obtain ⟨x,hx⟩:∃x,ws[K]? =some x:=⟨_,List.getElem?_eq_getElem hK⟩;have hb:∀q,q<64→au ws (64*K+q)=x.testBit q:=fun q hq=>by
  unfold au;rw [show (64*K+q)/64=K by omega,show (64*K+q)% 64=q by omega,List.getD_eq_getElem?_getD,hx];rfl
 refine ⟨x,_,h.lt x (List.mem_of_getElem? hx),h.at hx,rfl,?_⟩;rcases iI (gA x (F:Int)) 64 0 with ⟨h1,h2⟩|⟨h1,h2,h3,h4⟩
 ·refine .inl ⟨by omega,fun j h3 h4=> ?_⟩;have:=h2 (j-64*K) (by omega) (by omega);rw [show j=64*K+(j-64*K) by omega,hb _ (by omega)];unfold gA at this;rwa [decide_eq_true (by omega),Bool.true_and] at this
 ·generalize bD (gA x (F:Int)) 0 64=p at*;unfold gA at h3;rw [Bool.and_eq_true,decide_eq_true_eq] at h3;have hp:au ws (64*K+p)=true:=by rw [hb p (by omega)];exact h3.2
  refine .inr ⟨by omega,by omega,?_,hp,fun j h5 h6=> ?_⟩
  ·by_cases hn:64*K+p<n
   ·exact hn
   ·rw [h.off _ (by omega)] at hp;exact absurd hp (by decide)
  ·have:=h4 (j-64*K) (by omega) (by omega);rw [show j=64*K+(j-64*K) by omega,hb _ (by omega)];unfold gA at this;rwa [decide_eq_true (by omega),Bool.true_and] at this
theorem en {w:World} {b g n:Nat} {ws:List Nat} (h:aV w b g n ws) (hT:bu w) (i:Nat) (hi:i≤1048576):Calls Tryz.prog 257 #[b,.int .i64 i] w (gl (au ws) n i w):=by
 obtain ⟨C,hC,c0⟩:=h.c0;have c1:=h.c1;have hsm:=h.small;by_cases hin:n≤i
 ·have hend:∀e w',e= .returned (.tuple #[.int .i64 0,.bool false])→w=w'→gl (au ws) n i w e w':=fun e w' h1 h2=>⟨.inr ⟨fun j h3 h4=>by omega,h1⟩,h2⟩
  have HEND:=ae hend;clear hend;generalize gl (au ws) n i w=Q at*;clear h hT
  go_enter Tryz.func257,Tryz.ntmps257
  go_wp2;exact HEND.out _ _ rfl rfl
 ·have hlt:(i:Int)<(n:Int):=by omega
  have hmx:max (i:Int) 0=(i:Int):=by omega
  have q1:(i:Int).tdiv 64=((i/64:Nat):Int):=rfl;have q2:(i:Int).tmod 64=((i% 64:Nat):Int):=rfl;have HB:=ae h;have HT:=ae hT;have hlen:=h.len;obtain ⟨L,hL⟩:∃L,ws.length=L:=⟨_,rfl⟩;rw [hL] at c0 hlen;have HL:=ae hL;clear h hT hL
  go_enter Tryz.func257,Tryz.ntmps257
  go_wp2
  go_loopw [6,7] (fun k f wr=>∃K F:Nat,k= .int .i64 K∧f= .int .i64 F∧K≤L∧F<64∧wr=w∧Hid (i≤64*K+F∧∀j,i≤j→j<64*K+F→au ws j=false)) (fun k _ _=>L-(intOf k).toNat)
  case atStart=>exact ⟨i/64,i% 64,rfl,rfl,by omega,by omega,rfl,by omega,fun j h1 h2=>by omega⟩
  case round=>
   obtain ⟨K,F,rfl,rfl,hK,hF,rfl,hr⟩:=hrel;by_cases hk:K<L
   ·have hki:(K:Int)<(L:Int):=by omega
    obtain ⟨x,p,hx,cx,hp,hc⟩:=pN HB.out (by rw [HL.out];exact hk) hF;have HN:=ae (uk x hx (F:Int) _ HT.out);rw [hp] at HN;clear hp;rcases hc with ⟨rfl,hc⟩|⟨hp,hc1,hc2,hc3,hc4⟩
    ·have HC:Hid (i≤64*(K+1)+0∧∀j,i≤j→j<64*(K+1)+0→au ws j=false):=⟨by have:=hr.out.1;omega,fun j h1 h2=>by
      by_cases h3:j<64*K+F
      ·exact hr.out.2 j h1 h3
      ·exact hc j (by omega) (by omega)⟩
     clear hc hr;go_wp2_with fail
     refine (HN.out).mono ?_;rintro e w' ⟨rfl,rfl⟩;go_wp2;go_roundw
     case rel=>exact ⟨K+1,0,by go_num,rfl,by omega,by omega,trivial,HC⟩
     case measure=>show L-(intOf (.int .i64 ((K:Int)+1))).toNat<L-(intOf (.int .i64 K)).toNat;simp only [intOf];omega
    ·have HC:Hid (eW (au ws) i n (64*K+p)):=⟨by have:=hr.out.1;omega,hc2,hc3,fun j h1 h2=>by
      by_cases h3:j<64*K+F
      ·exact hr.out.2 j h1 h3
      ·exact hc4 j (by omega) (by omega)⟩
     have hpi:(p:Int)<64:=by omega
     clear hc1 hc2 hc3 hc4 hr;go_wp2_with fail
     refine (HN.out).mono ?_;rintro e w' ⟨rfl,rfl⟩;go_wp2;go_ret2;exact ⟨.inl ⟨64*K+p,HC.out,rfl⟩,rfl⟩
   ·have hki:(L:Int)≤(K:Int):=by omega
    go_wp2;go_ret2;exact ⟨.inr ⟨fun j h1 h2=>hr.out.2 j h1 (by omega),rfl⟩,rfl⟩
def pf (f:Nat→Bool) (n i:Nat):Prop:=i<n∧f i=true∧∀j,i<j→j<n→f j=false
theorem jx (f:Nat→Bool):∀n,(cr f n= -1∧∀j,j<n→f j=false)∨∃p:Nat,cr f n=(p:Int)∧p<n∧f p=true∧∀j,p<j→j<n→f j=false
 |0=> .inl ⟨rfl,fun j h=>by omega⟩
 |n+1=>by
  rw [cr]
  cases h:f n with
  |true=>exact .inr ⟨n,by simp,by omega,h,fun j h1 h2=>by omega⟩
  |false=>
   simp only [Bool.false_eq_true,if_false];rcases jx f n with ⟨h1,h2⟩|⟨p,h1,h2,h3,h4⟩
   ·exact .inl ⟨h1,fun j h3=>by by_cases e:j=n;(subst e;exact h);exact h2 j (by omega)⟩
   ·exact .inr ⟨p,h1,by omega,h3,fun j h5 h6=>by by_cases e:j=n;(subst e;exact h);exact h4 j h5 (by omega)⟩
def sY (f:Nat→Bool) (n:Nat) (w:World) (e:Ending) (w':World):Prop:=
 ((∃j:Nat,pf f n j∧e= .returned (.tuple #[.int .i64 j,.bool true]))∨((∀j,j<n→f j=false)∧e= .returned (.tuple #[.int .i64 0,.bool false])))∧w=w'
theorem sI {w:World} {b g n K m:Nat} {ws:List Nat} (h:aV w b g n ws) (hK:K<ws.length) (hm:64*K<m):∃(x:Nat) (r:Int),x<18446744073709551616∧w.cell? ⟨g,K,none⟩=some (.int .u64 x)∧cr (eQ x ((m:Int)-64*K)) 64=r∧
  ((r= -1∧∀j,64*K≤j→j<m→j<64*(K+1)→au ws j=false)∨∃p:Nat,r=(p:Int)∧p<64∧64*K+p<m∧au ws (64*K+p)=true∧∀j,64*K+p<j→j<m→j<64*(K+1)→au ws j=false):=by
 obtain ⟨x,hx⟩:∃x,ws[K]? =some x:=⟨_,List.getElem?_eq_getElem hK⟩;have hb:∀q,q<64→au ws (64*K+q)=x.testBit q:=fun q hq=>by
  unfold au;rw [show (64*K+q)/64=K by omega,show (64*K+q)% 64=q by omega,List.getD_eq_getElem?_getD,hx];rfl
 refine ⟨x,_,h.lt x (List.mem_of_getElem? hx),h.at hx,rfl,?_⟩;rcases jx (eQ x ((m:Int)-64*K)) 64 with ⟨h1,h2⟩|⟨p,h1,h2,h3,h4⟩
 ·refine .inl ⟨h1,fun j h3 h4 h5=> ?_⟩;have:=h2 (j-64*K) (by omega);rw [show j=64*K+(j-64*K) by omega,hb _ (by omega)];unfold eQ at this;rwa [decide_eq_true (by omega),Bool.true_and] at this
 ·unfold eQ at h3;rw [Bool.and_eq_true,decide_eq_true_eq] at h3;refine .inr ⟨p,h1,h2,by omega,by rw [hb p h2];exact h3.2,fun j h5 h6 h7=> ?_⟩;have:=h4 (j-64*K) (by omega) (by omega);rw [show j=64*K+(j-64*K) by omega,hb _ (by omega)];unfold eQ at this;rwa [decide_eq_true (by omega),Bool.true_and] at this
theorem sD {w:World} {b g n:Nat} {ws:List Nat} (h:aV w b g n ws) (m:Nat) (hm0:1≤m) (hm:m≤n):Calls Tryz.prog 272 #[b,.int .i64 m] w (sY (au ws) m w):=by
 obtain ⟨C,hC,c0⟩:=h.c0;have c1:=h.c1;have hsm:=h.small;have h0:(0:Int)<(m:Int):=by omega
 have hd0:decide (m=0)=false:=decide_eq_false (by omega);have hmn:min (m:Int) (n:Int)=(m:Int):=by omega
 have q1:((m:Int)-1).tdiv 64=(((m-1)/64:Nat):Int):=by rw [show (m:Int)-1=((m-1:Nat):Int) by omega];rfl
 have HB:=ae h;have hlen:=h.len;obtain ⟨L,hL⟩:∃L,ws.length=L:=⟨_,rfl⟩;rw [hL] at c0 hlen;have HL:=ae hL;have HE:=ae hlen;clear h hL hlen
 go_enter Tryz.func272,Tryz.ntmps272
 go_wp2
 go_loopw [6] (fun k wr=>∃K:Nat,k= .int .i64 ((K:Int)-1)∧K≤L∧wr=w∧Hid (64*K<m+64∧∀j,64*K≤j→j<m→au ws j=false)) (fun k _=>(intOf k+1).toNat)
 case atStart=>exact ⟨(m-1)/64+1,by go_num,by have:=HE.out;omega,rfl,by omega,fun j h1 h2=>by omega⟩
 case round=>
  obtain ⟨K,rfl,hK,rfl,hr⟩:=hrel;by_cases hk:K=0
  ·subst hk;go_wp2;go_ret2;exact ⟨.inr ⟨fun j h1=>hr.out.2 j (by omega) h1,rfl⟩,rfl⟩
  ·obtain ⟨K,rfl⟩:∃k,K=k+1:=⟨K-1,by omega⟩;have hkk:((K+1:Nat):Int)-1=(K:Int):=by omega
   rw [hkk];clear hkk;have hki:(K:Int)<(L:Int):=by omega
   have hr0:=hr.out.1;obtain ⟨x,r,hx,cx,hp,hc⟩:=sI (m:=m) (K:=K) HB.out (by rw [HL.out];omega) (by omega);have HN:=ae (tZ x hx ((m:Int)-64*K) wr);rw [hp] at HN;clear hp;rcases hc with ⟨rfl,hc⟩|⟨p,rfl,hp,hc2,hc3,hc4⟩
   ·have HC:Hid (64*K<m+64∧∀j,64*K≤j→j<m→au ws j=false):=⟨by omega,fun j h1 h2=>by
     by_cases h3:64*(K+1)≤j
     ·exact hr.out.2 j h3 h2
     ·exact hc j (by omega) h2 (by omega)⟩
    clear hc hr;go_wp2_with fail
    refine (HN.out).mono ?_;rintro e w' ⟨rfl,rfl⟩;go_wp2;go_roundw
    case rel=>exact ⟨K,rfl,by omega,trivial,HC⟩
    case measure=>simp [intOf]
   ·have HC:Hid (pf (au ws) m (64*K+p)):=⟨hc2,hc3,fun j h1 h2=>by
     by_cases h3:64*(K+1)≤j
     ·exact hr.out.2 j h3 h2
     ·exact hc4 j h1 h2 (by omega)⟩
    clear hc2 hc3 hc4 hr;go_wp2_with fail
    refine (HN.out).mono ?_;rintro e w' ⟨rfl,rfl⟩;go_wp2;go_ret2;exact ⟨.inl ⟨64*K+p,HC.out,rfl⟩,rfl⟩
theorem iD (x m:Nat) (hx:x<18446744073709551616) (hm:m<18446744073709551616):∃y:Nat,y<18446744073709551616∧bits .andNot .u64 (x:Int) (m:Int)=(y:Int)∧∀q,q<64→y.testBit q=(x.testBit q&& !m.testBit q):=by
 refine ⟨x&&&(18446744073709551615-m),Nat.lt_of_le_of_lt Nat.and_le_left hx,u64_andNot_nat x m hx hm,fun q hq=> ?_⟩;rw [Nat.testBit_and];have:=Nat.testBit_two_pow_sub_succ (n:=64) hm q;rw [show 2^64-(m+1)=18446744073709551615-m by omega,decide_eq_true hq,Bool.true_and] at this;rw [this]
def ci (F T K:Nat):Nat:=gh (dJ ((F:Int)-64*K) ((T:Int)-64*K)) 64
theorem gH (F T K:Nat):ci F T K<18446744073709551616:=gJ _ (Nat.le_refl 64)
theorem jz (F T K q:Nat) (hq:q<64):(ci F T K).testBit q=(decide (F≤64*K+q)&&decide (64*K+q<T)):=by
 unfold ci;rw [cm,decide_eq_true hq,Bool.true_and];unfold dJ;rw [Bool.eq_iff_iff];simp only [Bool.and_eq_true,decide_eq_true_eq];omega
theorem jh {ws:List Nat} {K x:Nat} (hx:ws[K]? =some x) (q:Nat) (hq:q<64):au ws (64*K+q)=x.testBit q:=by
 unfold au;rw [show (64*K+q)/64=K by omega,show (64*K+q)% 64=q by omega,List.getD_eq_getElem?_getD,hx];rfl
theorem qa {ws:List Nat} {K x:Nat} (hx:ws[K]? =some x) (y j:Nat):au (ws.set K y) j=if j/64=K then y.testBit (j% 64) else au ws j:=by
 have hl:=(List.getElem?_eq_some_iff.1 hx).1;unfold au;rw [List.getD_eq_getElem?_getD,List.getD_eq_getElem?_getD,List.getElem?_set];by_cases e:K=j/64
 ·rw [if_pos e,if_pos hl,if_pos e.symm];rfl
 ·rw [if_neg e,if_neg (fun h=>e h.symm)]
def eT (f:Nat→Bool) (F T K j:Nat):Bool:=f j||(decide (F≤j)&&decide (j<T)&&decide (j<64*K))
def ft (f:Nat→Bool) (F T K j:Nat):Bool:=f j&& !(decide (F≤j)&&decide (j<T)&&decide (j<64*K))
theorem ro {ws:List Nat} {f:Nat→Bool} {F T K x:Nat} (hx:ws[K]? =some x) (h:∀j,au ws j=eT f F T K j) (j:Nat):au (ws.set K (x|||ci F T K)) j=eT f F T (K+1) j:=by
 rw [qa hx];by_cases e:j/64=K
 ·rw [if_pos e,Nat.testBit_or,jz _ _ _ _ (Nat.mod_lt _ (by decide)),←jh hx _ (Nat.mod_lt _ (by decide)),h];have:64*K+j% 64=j:=by omega
  rw [this];unfold eT;rw [decide_eq_false (show¬j<64*K by omega),decide_eq_true (show j<64*(K+1) by omega),Bool.and_false,Bool.or_false,Bool.and_true]
 ·rw [if_neg e,h];unfold eT;rw [show decide (j<64*(K+1))=decide (j<64*K) by rw [decide_eq_decide];omega]
theorem sG {ws:List Nat} {f:Nat→Bool} {F T K x y:Nat} (hx:ws[K]? =some x) (hy:∀q,q<64→y.testBit q=(x.testBit q&& !(ci F T K).testBit q)) (h:∀j,au ws j=ft f F T K j) (j:Nat):au (ws.set K y) j=ft f F T (K+1) j:=by
 rw [qa hx];by_cases e:j/64=K
 ·rw [if_pos e,hy _ (Nat.mod_lt _ (by decide)),jz _ _ _ _ (Nat.mod_lt _ (by decide)),←jh hx _ (Nat.mod_lt _ (by decide)),h];have:64*K+j% 64=j:=by omega
  rw [this];unfold ft;rw [decide_eq_false (show¬j<64*K by omega),decide_eq_true (show j<64*(K+1) by omega),Bool.and_false,Bool.not_false,Bool.and_true,Bool.and_true]
 ·rw [if_neg e,h];unfold ft;rw [show decide (j<64*(K+1))=decide (j<64*K) by rw [decide_eq_decide];omega]
theorem qI {w:World} {b g n K x:Nat} {ws:List Nat} (h:aV w b g n ws) (hx:ws[K]? =some x) (y:Nat) (hy:y<18446744073709551616) (hoff:∀j,n≤j→au (ws.set K y) j=false) {w':World} (V:Int) (hV:V=(y:Int)) (hw:w'=w.setCell ⟨g,K,none⟩ (.int .u64 V)):aV w' b g n (ws.set K y):=by
 subst hw;subst hV;refine ⟨?_,?_,h.ne,by rw [List.length_set];exact h.len,?_,h.one,h.small,hoff⟩
 ·rw [List.length_set];obtain ⟨c,q1,q2⟩:=h.blk;exact ⟨c,q1,q2.setOther ⟨g,K,none⟩ _ h.ne⟩
 ·obtain ⟨r,q⟩:=h.row;have:=q.set K (.int .u64 y);rw [List.set_append_left _ _ (by unfold bz;rw [List.length_map];exact (List.getElem?_eq_some_iff.1 hx).1)] at this;refine ⟨r,?_⟩;unfold bz at this ⊢;rw [List.map_set];exact this
 ·intro z hz;rcases List.mem_or_eq_of_mem_set hz with h2|h2
  ·exact h.lt z h2
  ·rw [h2];exact hy
theorem ti (g:Nat→Bool) (a:Nat):∀k,ez g a k=cW (fun q=>g (a+q)) k
 |0=>rfl
 |k+1=>by
  show ez g a k+_=cW (fun q=>g (a+q)) k+_
  rw [ti g a k]
def cK (f:Nat→Bool) (F T j:Nat):Bool:=decide (F≤j)&&decide (j<T)&&f j
theorem ot {ws:List Nat} {F T K x:Nat} (hx:ws[K]? =some x):cW (qr (ci F T K&&&x) 0 64) 64=cnt (cK (au ws) F T) (64*K) (64*(K+1)):=by
 unfold cnt;rw [show 64*(K+1)-64*K=64 by omega,ti];refine jm (fun q hq=> ?_);unfold qr cK;rw [Nat.testBit_and,jz _ _ _ _ hq,jh hx _ hq,decide_eq_true (show (0:Int)≤(q:Int) by omega),decide_eq_true (show (q:Int)<64 by omega),Bool.true_and,Bool.true_and]
theorem mC (f:Nat→Bool) {F T A B:Nat} (hA:A≤F) (hFT:F≤T) (hB:T≤B):cnt (cK f F T) A B=cnt f F T:=by
 rw [aw (cK f F T) hA (Nat.le_trans hFT hB),aw (cK f F T) hFT hB,aD (a:=A) (b:=F) (fun i _ h=>by unfold cK;rw [decide_eq_false (by omega)];rfl),
  aD (a:=T) (b:=B) (fun i h _=>by unfold cK;rw [decide_eq_false (show¬i<T by omega),Bool.and_false];rfl),
  aJ (f:=cK f F T) (g:=f) (fun i h1 h2=>by unfold cK;rw [decide_eq_true h1,decide_eq_true h2];rfl)]
 omega
theorem eH {w w':World} {a:Addr} (h:w'.heap[a.block]? =w.heap[a.block]?):w'.frozen? a=w.frozen? a:=by
 unfold World.frozen?;rw [h]
theorem xy {w:World} {g K cb:Nat} (x m:Nat) (V:Int) (hx:x<18446744073709551616) (hm:m<18446744073709551616) (hc:w.cell? ⟨g,K,none⟩=some (.int .u64 x)) (hf:w.frozen? ⟨g,K,none⟩=false) (hv:w.cell? ⟨cb,0,none⟩=some (.int .i64 V)) (hvf:w.frozen? ⟨cb,0,none⟩=false) (hne:cb≠g):
  Calls Tryz.prog 282 #[.pointer (some ⟨g,K,none⟩),.int .u64 m,.pointer (some ⟨cb,0,none⟩)] w fun e w'=>e= .returned (.tuple #[])∧∃V',w'=((w.setCell ⟨cb,0,none⟩ (.int .i64 V')).drew.setCell ⟨g,K,none⟩ (.int .u64 ((x|||m:Nat):Int))):=by
 obtain ⟨z,hz,hzb,_⟩:=iD m x hm hx;have HOR:=ae (u64_or_nat x m hx hm);have HC:=ae (ic z hz 0 64);have hcn:=lw (qr z 0 64) 64;generalize cW (qr z 0 64) 64=cn at*;have d1:w.drew.cell? ⟨g,K,none⟩=some (.int .u64 x):=hc;have d2:w.drew.cell? ⟨cb,0,none⟩=some (.int .i64 V):=hv;have d3:w.drew.frozen? ⟨cb,0,none⟩=false:=hvf;have e1:∀u,(w.setCell ⟨cb,0,none⟩ u).drew.cell? ⟨g,K,none⟩=some (.int .u64 x):=fun u=>(World.cell?_of_block (w:=w) (Below.heap_setCell _ _ _ _ (fun e=>hne e.symm))).trans hc
 have e2:∀u,(w.setCell ⟨cb,0,none⟩ u).drew.frozen? ⟨g,K,none⟩=false:=fun u=>(eH (w:=w) (Below.heap_setCell _ _ _ _ (fun e=>hne e.symm))).trans hf
 clear hc hf hv hvf
 go_enter Tryz.func282,Tryz.ntmps282
 go_wp2;refine aB (fun w'=>w'=w.drew) 8 (by kernel_rfl) (by kernel_rfl) rfl ?_;simp only [List.take_succ_cons,List.take_zero,List.drop_succ_cons,List.drop_zero];refine ag (.int .i64 V) rfl (fun w hw=>by subst hw;go_simp) ?_;simp only [Act.put,aa,ab,ac];refine ag (.int .u64 m) rfl (fun w hw=>by go_simp) ?_;simp only [Act.put,aa,ab,ac];refine ag (.pointer (some ⟨g,K,none⟩)) rfl (fun w hw=>by go_simp) ?_;simp only [Act.put,aa,ab,ac];refine ag (.pointer (some ⟨g,K,none⟩)) rfl (fun w hw=>by go_simp) ?_;simp only [Act.put,aa,ab,ac];refine ag (.int .u64 x) rfl (fun w hw=>by subst hw;go_simp) ?_;simp only [Act.put,aa,ab,ac];refine ag (.int .u64 z) rfl (fun w hw=>by go_simp) ?_;simp only [Act.put,aa,ab,ac];refine aA (.int .i64 cn) 247 #[.int .u64 z,.int .i64 0,.int .i64 64] rfl (fun w=>by go_simp) (fun w hw=>(HC.out w).mono fun e w' h=>⟨h.1,h.2▸hw⟩) ?_;simp only [Act.put,aa,ab,ac];refine ag (.int .i64 (IntKind.i64.wrap (V+(cn:Int)))) rfl (fun w hw=>by go_simp) ?_;simp only [Act.put,aa,ab,ac];refine wpQuiet_nil ?_;rintro w2 rfl
 go_upto_region 1 with fail
 obtain ⟨w3,hw3⟩:∃w3,(w.setCell ⟨cb,0,none⟩ (.int .i64 (wrap64 (V+(cn:Int))))).drew=w3:=⟨_,rfl⟩;have e3:=e1 (.int .i64 (wrap64 (V+(cn:Int))));have e4:=e2 (.int .i64 (wrap64 (V+(cn:Int))));rw [hw3] at e3 e4 ⊢;clear e1 e2;have HW:=ae hw3;clear hw3;go_wp2;go_end0;exact ⟨rfl,_,by rw [HW.out,HOR.out]⟩
theorem xU {w:World} {g K cb:Nat} (x m:Nat) (V:Int) (hx:x<18446744073709551616) (hm:m<18446744073709551616) (hc:w.cell? ⟨g,K,none⟩=some (.int .u64 x)) (hf:w.frozen? ⟨g,K,none⟩=false) (hv:w.cell? ⟨cb,0,none⟩=some (.int .i64 V)) (hvf:w.frozen? ⟨cb,0,none⟩=false) (hne:cb≠g) (y:Nat) (hy:bits .andNot .u64 (x:Int) (m:Int)=(y:Int)):
  Calls Tryz.prog 246 #[.pointer (some ⟨g,K,none⟩),.int .u64 m,.pointer (some ⟨cb,0,none⟩)] w fun e w'=>e= .returned (.tuple #[])∧∃V',w'=((w.setCell ⟨cb,0,none⟩ (.int .i64 V')).drew.setCell ⟨g,K,none⟩ (.int .u64 y)):=by
 have hzb:=u64_and_nat m x hm hx;have hz:m&&&x<18446744073709551616:=Nat.lt_of_le_of_lt Nat.and_le_left hm;generalize m&&&x=z at*;have HC:=ae (ic z hz 0 64);have hcn:=lw (qr z 0 64) 64;generalize cW (qr z 0 64) 64=cn at*;have d1:w.drew.cell? ⟨g,K,none⟩=some (.int .u64 x):=hc;have d2:w.drew.cell? ⟨cb,0,none⟩=some (.int .i64 V):=hv;have d3:w.drew.frozen? ⟨cb,0,none⟩=false:=hvf;have e1:∀u,(w.setCell ⟨cb,0,none⟩ u).drew.cell? ⟨g,K,none⟩=some (.int .u64 x):=fun u=>(World.cell?_of_block (w:=w) (Below.heap_setCell _ _ _ _ (fun e=>hne e.symm))).trans hc
 have e2:∀u,(w.setCell ⟨cb,0,none⟩ u).drew.frozen? ⟨g,K,none⟩=false:=fun u=>(eH (w:=w) (Below.heap_setCell _ _ _ _ (fun e=>hne e.symm))).trans hf
 clear hc hf hv hvf
 go_enter Tryz.func246,Tryz.ntmps246
 go_wp2;refine aB (fun w'=>w'=w.drew) 8 (by kernel_rfl) (by kernel_rfl) rfl ?_;simp only [List.take_succ_cons,List.take_zero,List.drop_succ_cons,List.drop_zero];refine ag (.int .i64 V) rfl (fun w hw=>by subst hw;go_simp) ?_;simp only [Act.put,aa,ab,ac];refine ag (.int .u64 m) rfl (fun w hw=>by go_simp) ?_;simp only [Act.put,aa,ab,ac];refine ag (.pointer (some ⟨g,K,none⟩)) rfl (fun w hw=>by go_simp) ?_;simp only [Act.put,aa,ab,ac];refine ag (.pointer (some ⟨g,K,none⟩)) rfl (fun w hw=>by go_simp) ?_;simp only [Act.put,aa,ab,ac];refine ag (.int .u64 x) rfl (fun w hw=>by subst hw;go_simp) ?_;simp only [Act.put,aa,ab,ac];refine ag (.int .u64 z) rfl (fun w hw=>by go_simp) ?_;simp only [Act.put,aa,ab,ac];refine aA (.int .i64 cn) 247 #[.int .u64 z,.int .i64 0,.int .i64 64] rfl (fun w=>by go_simp) (fun w hw=>(HC.out w).mono fun e w' h=>⟨h.1,h.2▸hw⟩) ?_;simp only [Act.put,aa,ab,ac];refine ag (.int .i64 (IntKind.i64.wrap (V+(cn:Int)))) rfl (fun w hw=>by go_simp) ?_;simp only [Act.put,aa,ab,ac];refine wpQuiet_nil ?_;rintro w2 rfl
 go_upto_region 1 with fail
 obtain ⟨w3,hw3⟩:∃w3,(w.setCell ⟨cb,0,none⟩ (.int .i64 (wrap64 (V+(cn:Int))))).drew=w3:=⟨_,rfl⟩;have e3:=e1 (.int .i64 (wrap64 (V+(cn:Int))));have e4:=e2 (.int .i64 (wrap64 (V+(cn:Int))));rw [hw3] at e3 e4 ⊢;clear e1 e2;have HW:=ae hw3;clear hw3;go_wp2;go_end0;exact ⟨rfl,_,by rw [HW.out]⟩
theorem vJ {w:World} {g K cb:Nat} (x m:Nat) (V:Int) (hx:x<18446744073709551616) (hm:m<18446744073709551616) (hc:w.cell? ⟨g,K,none⟩=some (.int .u64 x)) (hv:w.cell? ⟨cb,0,none⟩=some (.int .i64 V)) (hvf:w.frozen? ⟨cb,0,none⟩=false) (hV:0≤V∧V≤1048576):
  Calls Tryz.prog 292 #[.pointer (some ⟨g,K,none⟩),.int .u64 m,.pointer (some ⟨cb,0,none⟩)] w fun e w'=>e= .returned (.tuple #[])∧w'=(w.setCell ⟨cb,0,none⟩ (.int .i64 (V+(cW (qr (m&&&x) 0 64) 64:Nat)))).drew:=by
 have hzb:=u64_and_nat m x hm hx;have hz:m&&&x<18446744073709551616:=Nat.lt_of_le_of_lt Nat.and_le_left hm;generalize m&&&x=z at*;have HC:=ae (ic z hz 0 64);have hcn:=lw (qr z 0 64) 64;generalize cW (qr z 0 64) 64=cn at*;have d1:w.drew.cell? ⟨g,K,none⟩=some (.int .u64 x):=hc;have d2:w.drew.cell? ⟨cb,0,none⟩=some (.int .i64 V):=hv;have d3:w.drew.frozen? ⟨cb,0,none⟩=false:=hvf;clear hc hv hvf
 go_enter Tryz.func292,Tryz.ntmps292
 go_wp2;refine aB (fun w'=>w'=w.drew) 8 (by kernel_rfl) (by kernel_rfl) rfl ?_;simp only [List.take_succ_cons,List.take_zero,List.drop_succ_cons,List.drop_zero];refine ag (.int .i64 V) rfl (fun w hw=>by subst hw;go_simp) ?_;simp only [Act.put,aa,ab,ac];refine ag (.int .u64 m) rfl (fun w hw=>by go_simp) ?_;simp only [Act.put,aa,ab,ac];refine ag (.pointer (some ⟨g,K,none⟩)) rfl (fun w hw=>by go_simp) ?_;simp only [Act.put,aa,ab,ac];refine ag (.pointer (some ⟨g,K,none⟩)) rfl (fun w hw=>by go_simp) ?_;simp only [Act.put,aa,ab,ac];refine ag (.int .u64 x) rfl (fun w hw=>by subst hw;go_simp) ?_;simp only [Act.put,aa,ab,ac];refine ag (.int .u64 z) rfl (fun w hw=>by go_simp) ?_;simp only [Act.put,aa,ab,ac];refine aA (.int .i64 cn) 247 #[.int .u64 z,.int .i64 0,.int .i64 64] rfl (fun w=>by go_simp) (fun w hw=>(HC.out w).mono fun e w' h=>⟨h.1,h.2▸hw⟩) ?_;simp only [Act.put,aa,ab,ac];refine ag (.int .i64 (IntKind.i64.wrap (V+(cn:Int)))) rfl (fun w hw=>by go_simp) ?_;simp only [Act.put,aa,ab,ac];refine wpQuiet_nil ?_;rintro w2 rfl;go_wp2;go_end0;exact ⟨rfl,rfl⟩
theorem jp {w:World} {b g n L:Nat} (hL:L=(n+63)/64) (f cb F T:Nat) (eg:∀args w,(callFunc f args).run Tryz.prog w= .ok (.enter f args) w) (hFT:F≤T) (hT:T≤n) (hn:n≤1048576) (X:Int) (hX:min X (n:Int)=(T:Int)) (J:Nat→World→Prop)
  (hJ:∀K W,J K W→(∃C,L≤C∧W.cell? ⟨b,0,none⟩=some (.slice (some ⟨g,0,none⟩) L C))∧J K W.drew) (hw:w.cell? ⟨b,1,none⟩=some (.int .i64 n))
  (hcall:∀K W,F/64≤K→F<T→K≤(T-1)/64→J K W→Calls Tryz.prog f #[.pointer (some ⟨g,K,none⟩),.int .u64 (ci F T K:Int),.pointer (some ⟨cb,0,none⟩)] W fun e W'=>e= .returned (.tuple #[])∧J (K+1) W')
  (h0:J (F/64) w) (Q:Ending→World→Prop) (hQ:∀W,J (if F<T then (T-1)/64+1 else F/64) W→Q (.returned (.tuple #[])) W):
  Calls Tryz.prog 245 #[b,.int .i64 F,.int .i64 X,.func (.func f) #[] #[.pointer (some ⟨cb,0,none⟩)]] w Q:=by
 have d0:w.drew.cell? ⟨b,1,none⟩=some (.int .i64 n):=hw;have hm1:max (F:Int) 0=(F:Int):=by omega
 have HJ:=ae hJ;have HC:=ae hcall;have H0:=ae (hJ _ _ h0).2;have HQ:=ae hQ;clear hJ hcall h0 hQ
 go_enter Tryz.func245,Tryz.ntmps245
 go_wp2;refine ar (fun w'=>w'=w.drew) (by kernel_rfl) (by kernel_rfl) rfl ?_;refine ag (.int .i64 F) rfl (fun w hw=>by go_simp) ?_;simp only [Act.put,aa,ab,ac];refine ag (.int .i64 F) rfl (fun w hw=>by go_simp) ?_;simp only [Act.put,aa,ab,ac];refine ag (.int .i64 X) rfl (fun w hw=>by go_simp) ?_;simp only [Act.put,aa,ab,ac];refine ag (.pointer (some ⟨b,0,none⟩)) rfl (fun w hw=>by go_simp) ?_;simp only [Act.put,aa,ab,ac];refine ag (.pointer (some ⟨b,0,none⟩)) rfl (fun w hw=>by go_simp) ?_;simp only [Act.put,aa,ab,ac];refine ag (.pointer (some ⟨b,1,none⟩)) rfl (fun w hw=>by go_simp) ?_;simp only [Act.put,aa,ab,ac];refine ag (.int .i64 n) rfl (fun w hw=>by subst hw;go_simp) ?_;simp only [Act.put,aa,ab,ac];refine ag (.int .i64 T) rfl (fun w hw=>by go_simp) ?_;simp only [Act.put,aa,ab,ac];refine ag (.int .i64 F) rfl (fun w hw=>by go_simp) ?_;simp only [Act.put,aa,ab,ac];refine ag (.int .i64 T) rfl (fun w hw=>by go_simp) ?_;simp only [Act.put,aa,ab,ac];refine wpQuiet_nil ?_;rintro w2 rfl;clear d0 hm1 hX;generalize w.drew=w0 at*;have q1:(F:Int).tdiv 64=((F/64:Nat):Int):=rfl;by_cases hlt:F<T
 ·obtain ⟨M,hM⟩:∃M,(T-1)/64=M:=⟨_,rfl⟩;have q2:((T:Int)-1).tdiv 64=(M:Int):=by rw [←hM,show (T:Int)-1=((T-1:Nat):Int) by omega];rfl
  have hltd:decide (F<T)=true:=decide_eq_true hlt;have hlti:(F:Int)<(T:Int):=by omega
  have hML:M<L:=by omega
  have hMF:F/64≤M+1:=by omega
  have HQ2:=ae HQ.out;rw [if_pos hlt] at HQ2;rw [hM] at HQ2 HC;have hTn:(T:Int)≤1048576:=by omega
  have hMn:(M:Int)≤1048576:=by omega
  clear HQ hM hL;go_wp2
  go_loopw [8] (fun k wr=>∃K:Nat,k= .int .i64 K∧F/64≤K∧K≤M+1∧Hid (J K wr)) (fun k _=>((M:Int)+1-intOf k).toNat)
  case atStart=>exact ⟨F/64,by go_num,by omega,by omega,H0.out⟩
  case round=>
   obtain ⟨K,rfl,hK1,hK2,hr⟩:=hrel;by_cases hk:K≤M
   ·have HD:=ae (HJ.out K wr hr.out).2;obtain ⟨C,hC,d0⟩:=(HJ.out K _ HD.out).1;have hki:(K:Int)≤(M:Int):=by omega
    have hkl:(K:Int)<(L:Int):=by omega
    have HCC:=ae (HC.out K wr.drew hK1 hlt hk HD.out);go_wp2;refine aB (fun w'=>w'=wr.drew) 16 (by kernel_rfl) (by kernel_rfl) rfl ?_;simp only [List.take_succ_cons,List.take_zero,List.drop_succ_cons,List.drop_zero];refine ag (.func (.func f) #[] #[.pointer (some ⟨cb,0,none⟩)]) rfl (fun w hw=>by go_simp) ?_;simp only [Act.put,aa,ab,ac];refine ag (.pointer (some ⟨b,0,none⟩)) rfl (fun w hw=>by go_simp) ?_;simp only [Act.put,aa,ab,ac];refine ag (.pointer (some ⟨b,0,none⟩)) rfl (fun w hw=>by go_simp) ?_;simp only [Act.put,aa,ab,ac];refine ag (.pointer (some ⟨b,0,none⟩)) rfl (fun w hw=>by go_simp) ?_;simp only [Act.put,aa,ab,ac];refine ag (.slice (some ⟨g,0,none⟩) L C) rfl (fun w hw=>by subst hw;go_simp) ?_;simp only [Act.put,aa,ab,ac];refine ag (.int .i64 K) rfl (fun w hw=>by go_simp) ?_;simp only [Act.put,aa,ab,ac];refine ag (.pointer (some ⟨g,K,none⟩)) rfl (fun w hw=>by go_simp) ?_;simp only [Act.put,aa,ab,ac];refine ag (.int .i64 F) rfl (fun w hw=>by go_simp) ?_;simp only [Act.put,aa,ab,ac];refine ag (.int .i64 K) rfl (fun w hw=>by go_simp) ?_;simp only [Act.put,aa,ab,ac];refine ag (.int .i64 (64*(K:Int))) rfl (fun w hw=>by go_simp;rw [IntKind.wrap_i64];omega) ?_;simp only [Act.put,aa,ab,ac];refine ag (.int .i64 ((F:Int)-64*(K:Int))) rfl (fun w hw=>by go_simp;rw [IntKind.wrap_i64];omega) ?_;simp only [Act.put,aa,ab,ac];refine ag (.int .i64 T) rfl (fun w hw=>by go_simp) ?_;simp only [Act.put,aa,ab,ac];refine ag (.int .i64 K) rfl (fun w hw=>by go_simp) ?_;simp only [Act.put,aa,ab,ac];refine ag (.int .i64 (64*(K:Int))) rfl (fun w hw=>by go_simp;rw [IntKind.wrap_i64];omega) ?_;simp only [Act.put,aa,ab,ac];refine ag (.int .i64 ((T:Int)-64*(K:Int))) rfl (fun w hw=>by go_simp;rw [IntKind.wrap_i64];omega) ?_;simp only [Act.put,aa,ab,ac];refine aA (.int .u64 (ci F T K:Int)) 274 #[.int .i64 ((F:Int)-64*(K:Int)),.int .i64 ((T:Int)-64*(K:Int))] rfl (fun w=>by go_simp) (fun w hw=>(iY _ _ w).mono fun e w' h=>⟨h.1,h.2▸hw⟩) ?_;simp only [Act.put,aa,ab,ac];refine wpQuiet_nil ?_;rintro w2 rfl;clear d0 hr;go_wp2_with fail
    refine (HCC.out).mono ?_;rintro e w3 ⟨rfl,h3⟩;have H3:=ae h3;clear h3;go_wp2;go_roundw
    case rel=>exact ⟨K+1,by go_num,by omega,by omega,H3.out⟩
    case measure=>simp [intOf];omega
   ·obtain rfl:K=M+1:=by omega
    have hki:¬((M+1:Nat):Int)≤(M:Int):=by omega
    have HE:=ae (HQ2.out wr hr.out);clear hr;go_wp2;go_end0;exact HE.out
 ·have HQ2:=ae HQ.out;rw [if_neg hlt] at HQ2;have hltd:decide (F<T)=false:=decide_eq_false hlt;have hlti:¬(F:Int)<(T:Int):=by omega
  have HE:=ae (HQ2.out w0 H0.out);have hFn:(F:Int)≤1048576:=by omega
  clear HQ HQ2;go_wp2
  go_loopw [8] (fun k wr=>k= .int .i64 ((F/64:Nat):Int)∧wr=w0) (fun _ _=>0)
  case atStart=>exact ⟨by go_num,rfl⟩
  case round=>
   obtain ⟨rfl,rfl⟩:=hrel;go_wp2;go_end0;exact HE.out
end Go.Proofs.YthahbijbpinneaaGreatDoor
