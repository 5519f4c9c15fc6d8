import Derived.Test.YthahbijbpinneaaGreatDoorA7
import Derived.Test.YthahbijbpinneaaGreatDoorA8
import Derived.Test.YthahbijbpinneaaGreatDoorA9
import Derived.Test.YthahbijbpinneaaGreatDoorA14
import Derived.Deep.RegionHeld
set_option maxRecDepth 100000
set_option maxHeartbeats 8000000
set_option linter.all false
namespace Go.Proofs.YthahbijbpinneaaGreatDoor
open Go.RowKit
structure sJ (m Pg W Fs Us Hg:Nat) (mp:Nat→Bool) (kb wb:Nat) (M:Nat→Nat) (f:Nat→Option Nat) (n top:Nat) (S:Nat→Prop) (w:World):Prop where
 blk:ak w kb [.pointer (some ⟨m,0,none⟩),.map (some wb),.int .i64 top] 230
 mem:bi m Pg W Fs Us Hg mp M S w
 went:bK w wb n f
 d1:¬S kb
 d2:¬S wb
 d3:kb≠wb
section
variable {m Pg W Fs Us Hg:Nat} {mp:Nat→Bool} {kb wb:Nat} {M:Nat→Nat} {f:Nat→Option Nat} {n top:Nat} {S:Nat→Prop} {w w':World}
theorem sJ.Fh (h:sJ m Pg W Fs Us Hg mp kb wb M f n top S w) (hf:Fr (fun _=>False) w w'):sJ m Pg W Fs Us Hg mp kb wb M f n top S w':=
 ⟨h.blk.frame hf (fun h=>h),h.mem.keep hf,h.went.frame hf (fun h=>h),h.d1,h.d2,h.d3⟩
theorem ox (kb:Nat) (w:World):Calls Tryz.prog 146 #[kb,.int .i64 0] w fun e w'=>e= .returned (.int .i64 0)∧w=w':=by
 go_enter Tryz.func146,Tryz.ntmps146
 go_wp2;go_ret;exact ⟨rfl,rfl⟩
theorem tt (h:sJ m Pg W Fs Us Hg mp kb wb M f n top S w) (a z:Nat) (ha:1≤a) (haW:a<4611686018427387904) (hz:f a=some z):Calls Tryz.prog 146 #[kb,.int .i64 a] w fun e w'=>e= .returned (.int .i64 z)∧w=w':=by
 have hl:=h.went.look_ok a haW;rw [hz] at hl;simp only [Option.getD_some,Option.isSome_some] at hl;have c1:=h.blk.cell 1 rfl;have h0:¬(a:Int)=0:=by omega
 clear h hz
 go_enter Tryz.func146,Tryz.ntmps146
 go_wp2;go_ret;exact ⟨rfl,rfl⟩
theorem rj (h:sJ m Pg W Fs Us Hg mp kb wb M f n top S w) (a p t g:Nat) (ha:1≤a) (haW:a<1048576) (hf0:f a=none) (ho:d9 M a p t g) (hd1:∀k,a≤k→k<a+(1+(p+t+g))→aX W Pg mp k∧M k<18446744073709551616) (ht1:1≤top) (htW:top<1048576) (hd2:∀k,top≤k→k<top+(1+(p+t+g))→aX W Pg mp k) (hn:n<1048576):
  Calls Tryz.prog 146 #[kb,.int .i64 a] w fun e w'=>e= .returned (.int .i64 top)∧∃S',sJ m Pg W Fs Us Hg mp kb wb (gR M a top (1+(p+t+g))) (dg f a top) (n+1) (top+(1+(p+t+g))) S' w'∧Fr (fun k=>S k∨k=kb∨k=wb) w w'∧∀k,S' k→S k∨w.heap.size≤k:=by
 have hl:=h.went.look_ok a (by omega);rw [hf0] at hl;simp only [Option.getD_none,Option.isSome_none] at hl;rw [show ((0:Nat):Int)=0 from rfl] at hl;have c0:=h.blk.cell 0 rfl;have c1:=h.blk.cell 1 rfl;have h0:¬(a:Int)=0:=by omega
 have hsz:p+t+g<256:=by have:=ho.2;unfold bw at this;omega
 have HS3:Hid ((Tryz.prog.info? 31).map (·.size)=some 3):=by show _=_;kernel_rfl
 have HRD:=ae (fC h.mem a p t g ha (hd1 a (Nat.le_refl _) (by omega)).1 ho);have HSZ:=ae (fun w1=>cY p t g w1);have hs3:cu p t g=((1+(p+t+g):Nat):Int):=by unfold cu;rw [if_pos ho.2];push_cast;omega
 rw [hs3] at HSZ;have HCP:=ae (fun w2 S2 (hm:bi m Pg W Fs Us Hg mp M S2 w2)=>uo (aR m Pg W Fs Us Hg mp) (aF m Pg W Fs Us Hg mp) (jB m Pg W Fs Us Hg mp) hm a top p t g ha ht1 (by omega) (by omega) ho hd1 hd2);have H0:=ae h;have hkb:=h.blk.lt;have hwb:=h.went.lt;obtain ⟨z,hz⟩:∃z,z=1+(p+t+g):=⟨_,rfl⟩;rw [←hz] at HSZ HCP ⊢;have hz1:z≤256:=by omega
 unfold dN bP at*;have HNO:Hid ((f a).isSome=false):=by show _=_;rw [hf0];rfl
 clear h hd1 hd2 ho hf0 hs3 hz hsz
 go_enter Tryz.func146,Tryz.ntmps146
 go_wp2_with fail
 refine (HRD.out).mono ?_;rintro e w1 ⟨rfl,S1,m1,r1,s1⟩;clear HRD hl c0 c1;have hkS:¬S1 kb:=fun hh=>by rcases s1 _ hh with h|h;exact H0.out.d1 h;omega
 have hwS:¬S1 wb:=fun hh=>by rcases s1 _ hh with h|h;exact H0.out.d2 h;omega
 have hz1':=r1.size;have hS1:=(aF m Pg W Fs Us Hg mp).lt _ _ _ m1;have hb1:=H0.out.blk.frame r1 H0.out.d1;obtain ⟨W2,hW2⟩:∃W2,W2=w1.alloc (.cells #[.int .i64 p,.int .i64 t,.int .i64 g] 31):=⟨_,rfl⟩;have hfa:Fr (fun _=>False) w1 W2:=by rw [hW2];exact (Fr.refl _ w1).alloc _
 have hbh:ak W2 w1.heap.size [.int .i64 p,.int .i64 t,.int .i64 g] 31:=by rw [hW2];exact ak.new w1 _ _
 have hb2:=hb1.frame hfa (fun h=>h);have HW2:=ae hW2;have e0:=hb2.cell 0 rfl;have e1:=hb2.cell 1 rfl;have e2:=hb2.cell 2 rfl;have HC2:=ae (HCP.out W2 S1 (m1.keep hfa));have HB:=ae (af hfa (af hbh (af hb2 (af m1 (af r1 s1)))));clear hfa hbh hb2 hb1 m1 r1 HCP hW2
 go_upto_region 7 with fail
 rw [←HW2.out];clear HW2;go_wp2_with fail
 refine (HC2.out).mono ?_;rintro e w3 ⟨rfl,S3,m3,r3,s3⟩;obtain ⟨hfa,hbh,hb2,m1,r1,s1⟩:=HB.out;have hz2:=hfa.size;have hkS3:¬S3 kb:=fun hh=>by rcases s3 _ hh with h|h;exact hkS h;omega
 have hwS3:¬S3 wb:=fun hh=>by rcases s3 _ hh with h|h;exact hwS h;omega
 have hb3:=hb2.frame r3 hkS;have hh3:=hbh.frame r3 (fun hh=>by have:=hS1 _ hh;omega);have hfw3:Fr S w w3:=(r1.trans hfa (fun _ h=>h.elim)).trans r3 s1;have hwe3:=H0.out.went.frame hfw3 H0.out.d2;obtain ⟨w4,u1,u2,u3⟩:=hwe3.put a top (by omega) (by omega) (by omega);have hnone:(f a).isSome=false:=HNO.out;rw [hnone] at u2;simp only [Bool.false_eq_true,if_false] at u2;have hb4:=hb3.frame u3 H0.out.d3;have hh4:=hh3.frame u3 (fun e=>by omega);have c1:=hb3.cell 1 rfl;have hrow:=hh4.drew;have HEND:Hid (∀w5,Fr (fun _=>False) w4 w5→(w5.cell? ⟨kb,2,none⟩=some (.int .i64 top)∧w5.frozen? ⟨kb,2,none⟩=false∧ak w5 w1.heap.size [.int .i64 p,.int .i64 t,.int .i64 g] 31)∧∀w6,w5.setCell ⟨kb,2,none⟩ (.int .i64 ((top+z:Nat):Int))=w6→∃S',sJ m Pg W Fs Us Hg mp kb wb (gR M a top z) (dg f a top) (n+1) (top+z) S' w6∧Fr (fun k=>S k∨k=kb∨k=wb) w w6∧∀k,S' k→S k∨w.heap.size≤k):=by
  show∀w5,_
  intro w5 hf5;have hb5:=hb4.frame hf5 (fun h=>h);refine ⟨⟨hb5.cell 2 rfl,hb5.free 2,hh4.frame hf5 (fun h=>h)⟩,?_⟩;rintro w6 rfl;have f6:Fr (fun k=>k=kb) w5 (w5.setCell ⟨kb,2,none⟩ (.int .i64 ((top+z:Nat):Int))):=(Fr.refl (fun k=>k=kb) w5).setCell ⟨kb,2,none⟩ (.inl rfl) _;refine ⟨S3,⟨hb5.set 2 _,aR _ _ _ _ _ _ _ _ _ _ _ _ ((aR _ _ _ _ _ _ _ _ _ _ _ _ m3 u3 (fun k hk e=>hwS3 (e▸hk))).keep hf5) f6 (fun k hk e=>hkS3 (e▸hk)),(u2.frame hf5 (fun h=>h)).frame f6 (fun e=>H0.out.d3 e.symm),hkS3,hwS3,H0.out.d3⟩,?_,fun k hk=> ?_⟩
  ·exact (((hfw3.mono (S':=fun k=>S k∨k=kb∨k=wb) (fun k h=> .inl (.inl h))).trans u3 (fun k h=> .inl (.inr (.inr h)))).trans hf5 (fun _ h=>h.elim)).trans f6 (fun k h=> .inl (.inr (.inl h)))
  ·rcases s3 k hk with h|h
   ·exact s1 k h
   ·exact .inr (by omega)
 clear hfa hbh hb2 m1 r1 s1 hz2 hb3 hh3 hfw3 hwe3 u2 u3 hb4 hh4 m3 r3 s3 hkS3 hwS3 hkS hwS hS1 HB H0 HC2 HNO hkb hwb hz1' e0 e1 e2 hrow hnone;go_wp2;refine aB (fun w'=>Fr (fun _=>False) w4 w') 9 (by kernel_rfl) (by kernel_rfl) ((Fr.refl _ w4).drew) ?_;simp only [List.take_succ_cons,List.take_zero,List.drop_succ_cons,List.drop_zero];refine ag (.pointer (some ⟨kb,0,none⟩)) rfl (fun w' hw=>by go_simp) ?_;simp only [Act.put,aa,ab,ac];refine ag (.pointer (some ⟨kb,0,none⟩)) rfl (fun w' hw=>by go_simp) ?_;simp only [Act.put,aa,ab,ac];refine ag (.pointer (some ⟨kb,2,none⟩)) rfl (fun w' hw=>by go_simp) ?_;simp only [Act.put,aa,ab,ac];refine ag (.int .i64 top) rfl (fun w' hw=>by obtain ⟨⟨k1,_,_⟩,_⟩:=HEND.out w' hw;go_simp) ?_;simp only [Act.put,aa,ab,ac];refine ag (.agg #[.int .i64 p,.int .i64 t,.int .i64 g]) rfl (fun w' hw=>du rfl w1.heap.size rfl 31 _ (0,0) _ (HEND.out w' hw).1.2.2 Tryz.underlying31 rfl HS3.out) ?_;simp only [Act.put,aa,ab,ac];refine aA (.int .i64 z) 54 #[.agg #[.int .i64 p,.int .i64 t,.int .i64 g]] rfl (fun w'=>by go_simp) (fun w' hw=>(HSZ.out w').mono fun e w2 h=>⟨h.1,hw.trans h.2 (fun _ h=>h.elim)⟩) ?_;simp only [Act.put,aa,ab,ac];refine ag (.int .i64 ((top:Int)+(z:Int))) rfl (fun w' hw=>by go_simp;rw [IntKind.wrap_i64];omega) ?_;simp only [Act.put,aa,ab,ac];refine ag (.pointer (some ⟨kb,0,none⟩)) rfl (fun w' hw=>by go_simp) ?_;simp only [Act.put,aa,ab,ac];refine ag (.pointer (some ⟨kb,2,none⟩)) rfl (fun w' hw=>by go_simp) ?_;simp only [Act.put,aa,ab,ac];refine wpQuiet_nil ?_;intro w5 hw5;obtain ⟨⟨k1,k2,_⟩,hq⟩:=HEND.out w5 hw5;have HQ:=ae (hq _ rfl);rw [show ((top+z:Nat):Int)=(top:Int)+(z:Int) by push_cast;rfl] at HQ;clear hq HEND hw5;go_wp2;go_ret;exact ⟨rfl,HQ.out⟩
end
structure cV where
 M:Nat→Nat
 f:Nat→Option Nat
 n:Nat
 top:Nat
def cV.take (sz:Nat→Nat) (s:cV) (x:Nat):cV×Nat:=
 if x=0 then (s,0) else match s.f x with
  |some z=>(s,z)
  |none=>(⟨gR s.M x s.top (sz x),dg s.f x s.top,s.n+1,s.top+sz x⟩,s.top)
def cV.Ok (dom:Nat→Prop) (sz:Nat→Nat) (s:cV) (x:Nat):Prop:=
 x≠0→x<1048576∧(s.f x=none→∃p t g,d9 s.M x p t g∧sz x=1+(p+t+g)∧(∀k,x≤k→k<x+sz x→dom k∧s.M k<18446744073709551616)∧1≤s.top∧s.top<1048576∧(∀k,s.top≤k→k<s.top+sz x→dom k)∧s.n<1048576)
section
variable {m Pg W Fs Us Hg:Nat} {mp:Nat→Bool} {kb wb:Nat} {S S0:Nat→Prop} {w w' w0:World} {s:cV} {sz:Nat→Nat}
def fK (m Pg W Fs Us Hg:Nat) (mp:Nat→Bool) (kb wb:Nat) (S0:Nat→Prop) (w0:World) (s:cV) (w:World):Prop:=
 ∃S,sJ m Pg W Fs Us Hg mp kb wb s.M s.f s.n s.top S w∧Fr (fun k=>S0 k∨k=kb∨k=wb) w0 w∧∀k,S k→S0 k∨w0.heap.size≤k
theorem fK.Fh (h:fK m Pg W Fs Us Hg mp kb wb S0 w0 s w) (hf:Fr (fun _=>False) w w'):fK m Pg W Fs Us Hg mp kb wb S0 w0 s w':=by
 obtain ⟨S,q1,q2,q3⟩:=h;exact ⟨S,q1.Fh hf,q2.trans hf (fun _ h=>h.elim),q3⟩
theorem mD (h:fK m Pg W Fs Us Hg mp kb wb S0 w0 s w) (x:Nat) (hx:s.Ok (aX W Pg mp) sz x):
  Calls Tryz.prog 146 #[kb,.int .i64 x] w fun e w'=>e= .returned (.int .i64 (((s.take sz x).2:Nat):Int))∧fK m Pg W Fs Us Hg mp kb wb S0 w0 (s.take sz x).1 w':=by
 unfold cV.take;by_cases h0:x=0
 ·subst h0;rw [if_pos rfl];refine (ox kb w).mono ?_;rintro e w' ⟨rfl,rfl⟩;exact ⟨rfl,h⟩
 ·rw [if_neg h0];obtain ⟨hx1,hx2⟩:=hx h0
  cases hf:s.f x with
  |some z=>
   obtain ⟨S,q1,q2,q3⟩:=id h;refine (tt q1 x z (by omega) (by omega) hf).mono ?_;rintro e w' ⟨rfl,rfl⟩;exact ⟨rfl,h⟩
  |none=>
   obtain ⟨S,q1,q2,q3⟩:=h;obtain ⟨p,t,g,o1,o2,o3,o4,o5,o6,o7⟩:=hx2 hf;rw [o2] at o3 o6;refine (rj q1 x p t g (by omega) hx1 hf o1 o3 o4 o5 o6 o7).mono ?_;rintro e w' ⟨rfl,S',r1,r2,r3⟩;have hz:=q2.size;refine ⟨rfl,S',?_,q2.trans r2 (fun k hk=> ?_),fun k hk=> ?_⟩
   ·rw [o2];exact r1
   ·rcases hk with h|h
    ·exact (q3 k h).imp .inl id
    ·exact .inl (.inr h)
   ·rcases r3 k hk with h|h
    ·exact q3 k h
    ·exact .inr (by omega)
end
def cV.turn1 (sz:Nat→Nat) (a:Nat) (s:cV) (i:Nat):cV:=
 ⟨bG (s.take sz (s.M (a+1+i))).1.M (a+1+i) (s.take sz (s.M (a+1+i))).2,(s.take sz (s.M (a+1+i))).1.f,(s.take sz (s.M (a+1+i))).1.n,(s.take sz (s.M (a+1+i))).1.top⟩
def cV.turnN (sz:Nat→Nat) (a:Nat) (s:cV):Nat→cV
 |0=>s
 |i+1=>(cV.turnN sz a s i).turn1 sz a i
section
variable {m Pg W Fs Us Hg:Nat} {mp:Nat→Bool} {kb wb:Nat} {S S0:Nat→Prop} {w w' w0:World} {s:cV} {sz:Nat→Nat}
theorem fK.sp (h:sJ m Pg W Fs Us Hg mp kb wb s.M s.f s.n s.top S w) (q2:Fr (fun k=>S0 k∨k=kb∨k=wb) w0 w) (q3:∀k,S k→S0 k∨w0.heap.size≤k) {M':Nat→Nat} (hp:dM (bi m Pg W Fs Us Hg mp) M' S w w'):fK m Pg W Fs Us Hg mp kb wb S0 w0 ⟨M',s.f,s.n,s.top⟩ w':=by
 obtain ⟨S',r1,r2,r3⟩:=hp;have hz:=q2.size;have k1:=h.blk.lt;have k2:=h.went.lt;refine ⟨S',⟨h.blk.frame r2 h.d1,r1,h.went.frame r2 h.d2,fun hh=> ?_,fun hh=> ?_,h.d3⟩,q2.trans r2 (fun k hk=>(q3 k hk).imp .inl id),fun k hk=> ?_⟩
 ·rcases r3 _ hh with h9|h9
  ·exact h.d1 h9
  ·omega
 ·rcases r3 _ hh with h9|h9
  ·exact h.d2 h9
  ·omega
 ·rcases r3 k hk with h9|h9
  ·exact q3 k h9
  ·exact .inr (by omega)
structure cV.Ok1 (dom:Nat→Prop) (sz:Nat→Nat) (a p t g:Nat) (s:cV) (i:Nat):Prop where
 ok:s.Ok dom sz (s.M (a+1+i))
 hd1:d9 s.M a p t g
 hd2:d9 (s.take sz (s.M (a+1+i))).1.M a p t g
 x:s.M (a+1+i)<2147483648
 z:(s.take sz (s.M (a+1+i))).2<2147483648
 d:dom (a+1+i)
theorem tq (a p t g:Nat) (ha:1≤a) (hA:a<1048576) (hda:aX W Pg mp a) (h:fK m Pg W Fs Us Hg mp kb wb S0 w0 s w) (i:Nat) (hi:i<p) (ho:cV.Ok1 (aX W Pg mp) sz a p t g s i):
  (Calls Tryz.prog 87 #[.iface 112 (.pointer (some ⟨m,0,none⟩)),.int .i64 a,.int .i64 i] w fun e w'=>e= .returned (.tuple #[.int .i64 ((s.M (a+1+i):Nat):Int),.int .i64 0])∧fK m Pg W Fs Us Hg mp kb wb S0 w0 s w')∧
  (∀w1,fK m Pg W Fs Us Hg mp kb wb S0 w0 (s.take sz (s.M (a+1+i))).1 w1→Calls Tryz.prog 61 #[.iface 112 (.pointer (some ⟨m,0,none⟩)),.int .i64 a,.int .i64 i,.int .i64 (((s.take sz (s.M (a+1+i))).2:Nat):Int)] w1 fun e w'=>e= .returned (.int .i64 0)∧fK m Pg W Fs Us Hg mp kb wb S0 w0 (s.turn1 sz a i) w'):=by
 have hH:=ho.hd1.2;unfold bw at hH;have hk:cJ p t g i=1:=by
  unfold cJ;rw [cu,if_pos ho.hd1.2,if_neg (by omega),if_pos (by omega)]
 constructor
 ·obtain ⟨S,q1,q2,q3⟩:=h;refine (iO (aF m Pg W Fs Us Hg mp) q1.mem a i p t g _ ha (by omega) (by omega) hda ho.hd1 hk ho.d rfl ho.x).mono ?_;rintro e w' ⟨rfl,hp⟩;exact ⟨rfl,fK.sp q1 q2 q3 hp⟩
 ·rintro w1 ⟨S,q1,q2,q3⟩;refine (jJ (aF m Pg W Fs Us Hg mp) (jB m Pg W Fs Us Hg mp) q1.mem a i p t g _ ha (by omega) (by omega) hda ho.hd2 hk ho.d ho.z).mono ?_;rintro e w' ⟨rfl,hp⟩;exact ⟨rfl,fK.sp q1 q2 q3 hp⟩
end
section
variable {m Pg W Fs Us Hg:Nat} {mp:Nat→Bool} {kb wb:Nat} {S S0:Nat→Prop} {w w' w0:World} {s:cV} {sz:Nat→Nat}
theorem fK.anchor (h:fK m Pg W Fs Us Hg mp kb wb S0 w0 s w):∃S1,sJ m Pg W Fs Us Hg mp kb wb s.M s.f s.n s.top S1 w∧(∀s' w',fK m Pg W Fs Us Hg mp kb wb S1 w s' w'→fK m Pg W Fs Us Hg mp kb wb S0 w0 s' w')∧(∀k,S1 k→k<w.heap.size)∧kb<w.heap.size∧wb<w.heap.size:=by
 obtain ⟨S1,q1,q2,q3⟩:=h;refine ⟨S1,q1,?_,(aF m Pg W Fs Us Hg mp).lt _ _ _ q1.mem,q1.blk.lt,q1.went.lt⟩;rintro s' w' ⟨S2,r1,r2,r3⟩;have hz:=q2.size;refine ⟨S2,r1,q2.trans r2 (fun k hk=> ?_),fun k hk=> ?_⟩
 ·rcases hk with h|h
  ·exact (q3 k h).imp .inl id
  ·exact .inl (.inr h)
 ·rcases r3 k hk with h|h
  ·exact q3 k h
  ·exact .inr (by omega)
def yR (m Pg W Fs Us Hg:Nat) (mp:Nat→Bool) (kb wb:Nat) (S0:Nat→Prop) (w0:World) (s:cV) (x:Nat) (e:Ending) (w':World):Prop:=e= .returned (.int .i64 x)∧fK m Pg W Fs Us Hg mp kb wb S0 w0 s w'
theorem tu (h:fK m Pg W Fs Us Hg mp kb wb S0 w0 s w) (a p t g:Nat) (ha:1≤a) (hA:a<1048576) (hda:aX W Pg mp a) (ho:d9 s.M a p t g) (hok:∀i,i<p→cV.Ok1 (aX W Pg mp) sz a p t g (cV.turnN sz a s i) i):
  Calls Tryz.prog 147 #[kb,.int .i64 a] w (yR m Pg W Fs Us Hg mp kb wb S0 w0 (cV.turnN sz a s p) (a+(1+(p+t+g)))):=by
 have hH:=ho.2;unfold bw at hH;have hsz:p+t+g<256:=by omega
 have HS3:Hid ((Tryz.prog.info? 31).map (·.size)=some 3):=by show _=_;kernel_rfl
 have HRD:Hid (Calls Tryz.prog 88 #[.iface 112 (.pointer (some ⟨m,0,none⟩)),.int .i64 a] w fun e w'=>e= .returned (.tuple #[bP p t g,.int .i64 0])∧fK m Pg W Fs Us Hg mp kb wb S0 w0 s w'):=by
  show Calls _ _ _ _ _
  obtain ⟨S1,q1,q2,q3⟩:=h;refine (fC q1.mem a p t g ha hda ho).mono ?_;rintro e w' ⟨rfl,hp⟩;obtain ⟨S2,r1,r2,r3⟩:=hp;exact ⟨rfl,fK.sp q1 q2 q3 ⟨S2,r1,r2,r3⟩⟩
 have hs3:cu p t g=((1+(p+t+g):Nat):Int):=by unfold cu;rw [if_pos ho.2];push_cast;omega
 have HSZ:=ae (fun w1=>cY p t g w1);rw [hs3] at HSZ;have c0:w.cell? ⟨kb,0,none⟩=some (.pointer (some ⟨m,0,none⟩)):=by
  obtain ⟨S1,q1,_⟩:=h;exact q1.blk.cell 0 rfl
 have HAN:=ae (fun w1 (h1:fK m Pg W Fs Us Hg mp kb wb S0 w0 s w1)=>h1.anchor);have HST:=ae (fun S1 wa wr i (hi:i<p) (hh:fK m Pg W Fs Us Hg mp kb wb S1 wa (cV.turnN sz a s i) wr)=>af (tq a p t g ha hA hda hh i hi (hok i hi)) (fun w1 (hh1:fK m Pg W Fs Us Hg mp kb wb S1 wa (cV.turnN sz a s i) w1)=>mD (sz:=sz) hh1 ((cV.turnN sz a s i).M (a+1+i)) (hok i hi).ok));have HC0:=ae (fun S1 wa s' wr (hh:fK m Pg W Fs Us Hg mp kb wb S1 wa s' wr)=>(show wr.cell? ⟨kb,0,none⟩=some (.pointer (some ⟨m,0,none⟩)) from by
  obtain ⟨S2,q1,_⟩:=hh;exact q1.blk.cell 0 rfl))
 unfold dN bP at*;have hz1:1+(p+t+g)≤256:=by omega
 rw [show ((a+(1+(p+t+g)):Nat))=a+(1+(p+t+g)) from rfl];clear h hok ho hs3 hH
 go_enter Tryz.func147,Tryz.ntmps147
 go_wp2_with fail
 refine (HRD.out).mono ?_;rintro e w1 ⟨rfl,hg1⟩;obtain ⟨S1,a1,a2,a3,a4,a5⟩:=HAN.out w1 hg1;obtain ⟨W2,hW2⟩:∃W2,W2=w1.alloc (.cells #[.int .i64 p,.int .i64 t,.int .i64 g] 31):=⟨_,rfl⟩;have hfa:Fr (fun _=>False) w1 W2:=by rw [hW2];exact (Fr.refl _ w1).alloc _
 have hbh:ak W2 w1.heap.size [.int .i64 p,.int .i64 t,.int .i64 g] 31:=by rw [hW2];exact ak.new w1 _ _
 have HW2:=ae hW2;have hz2:W2.heap.size=w1.heap.size+1:=by rw [hW2];exact Array.size_push _
 have hG2:fK m Pg W Fs Us Hg mp kb wb S1 W2 s W2:=⟨S1,a1.Fh hfa,Fr.refl _ _,fun _ h=> .inl h⟩;have HEN:Hid (∀s' w',fK m Pg W Fs Us Hg mp kb wb S1 W2 s' w'→fK m Pg W Fs Us Hg mp kb wb S0 w0 s' w'):=by
  show∀s' w',_
  rintro s' w' ⟨S2,r1,r2,r3⟩;exact a2 s' w' ⟨S2,r1,(hfa.mono (fun _ h=>h.elim)).trans r2 (fun k h=> .inl h),fun k hk=>(r3 k hk).imp id (fun h=>by omega)⟩
 have HB:=ae (fun s' wr (hh:fK m Pg W Fs Us Hg mp kb wb S1 W2 s' wr)=>(show ak wr w1.heap.size [.int .i64 p,.int .i64 t,.int .i64 g] 31 from by
  obtain ⟨S2,_,r2,_⟩:=hh;exact hbh.frame r2 (fun h=>by
   rcases h with h|h|h
   ·have:=a3 _ h;omega
   ·omega
   ·omega)))
 have H0:=ae hG2;have k0:=hbh.cell 0 rfl;clear hg1 a1 a2 a3 a4 a5 hW2 hfa hbh hz2 hG2 HAN HRD c0
 go_upto_region 2 with fail
 rw [←HW2.out];clear HW2;go_wp2
 go_loopw [22] (fun x wr=>∃i:Nat,x= .int .i64 i∧i≤p∧Hid (fK m Pg W Fs Us Hg mp kb wb S1 W2 (cV.turnN sz a s i) wr)) (fun x _=>(p-intOf x).toNat)
 case atStart=>exact ⟨0,rfl,Nat.zero_le _,H0⟩
 case round=>
  clear H0 k0;obtain ⟨i,rfl,hi,hr⟩:=hrel;have hbr:=HB.out _ wr hr.out;have c0:=HC0.out S1 W2 _ wr hr.out;by_cases hlt:i<p
  ·obtain ⟨⟨g1,g2⟩,g3⟩:=HST.out S1 W2 wr i hlt hr.out;have G1:=ae g1;have G2:=ae g2;have G3:=ae g3;have c1:(i:Int)<(p:Int):=by omega
   clear g1 g2 g3 hr HST hbr HB HEN;obtain ⟨sg,hsg⟩:∃sg,sg=cV.turnN sz a s i:=⟨_,rfl⟩;rw [←hsg] at G1 G2 G3;have HSG:=ae hsg;clear hsg;generalize hX:sg.M (a+1+i)=X at*;have HX:=ae hX;clear hX;go_wp2_with fail
   refine (G1.out).mono ?_;rintro e w3 ⟨rfl,q3⟩;have c3:=HC0.out S1 W2 _ w3 q3;have HT:=ae (G3.out w3.drew (q3.Fh ((Fr.refl _ w3).drew)));clear G1 q3 c0;go_wp2
   go_region_held (fun w'=>w'.cell? ⟨kb,0,none⟩=some (.pointer (some ⟨m,0,none⟩))) (first|assumption|go_keep) (first
    |(refine (HT.out).mono ?_;rintro e w4 ⟨rfl,q4⟩;have c4:=HC0.out S1 W2 _ w4 q4)
    |(refine (G2.out _ q4).mono ?_;rintro e w5 ⟨rfl,q5⟩;have c5:=HC0.out S1 W2 _ w5 q5))
   have HN1:=ae q5;clear q5 q4 c4 HT G2 G3 c3;go_wp2;refine ⟨⟨i+1,by simp,by omega,?_⟩,by unfold intOf;simp only [];omega⟩;have hn:=HN1.out;rw [HSG.out] at hn;exact hn
  ·have hip:i=p:=by omega
   subst hip;have HE2:=ae (HEN.out _ wr hr.out);have c1:¬(i:Int)<(i:Int):=by omega
   have HBR:=ae hbr;clear HEN HST HC0 HB hbr c0 hr;go_wp2_with (refine wpList_load_row rfl 31 _ rfl w1.heap.size rfl 31 #[.int .i64 i,.int .i64 t,.int .i64 g] _ _ HBR.out Tryz.underlying31 rfl HS3.out ?_)
   refine (HSZ.out _).mono ?_;rintro e w5 ⟨rfl,hf5⟩;have HE3:=ae (HE2.out.Fh hf5);clear hf5 HE2 HBR HSZ HS3;go_wp2;go_ret;refine ⟨?_,HE3.out⟩;congr 2
end
def fH (sz:Nat→Nat) (l:List Nat):Nat:=(l.map sz).sum
theorem fI (sz:Nat→Nat) (l l':List Nat):fH sz (l++l')=fH sz l+fH sz l':=by unfold fH;rw [List.map_append,List.sum_append]
theorem iZ (sz:Nat→Nat) (x:Nat):fH sz [x]=sz x:=by simp [fH]
theorem nU {sz:Nat→Nat} {l:List Nat} {j x:Nat} (h:l[j]? =some x):fH sz (l.take j)+sz x≤fH sz l:=by
 have h1:l.take (j+1)=l.take j++[x]:=by rw [List.take_add_one,h];rfl
 have h2:=fI sz (l.take (j+1)) (l.drop (j+1));rw [List.take_append_drop,h1,fI,iZ] at h2;omega
structure er (L:Nat→Nat) (sz np:Nat→Nat) (To:Nat) (ord:List Nat) (cur:Nat) (s:cV):Prop where
 nd:ord.Nodup
 went:∀x z,s.f x=some z↔∃j,ord[j]? =some x∧z=To+fH sz (ord.take j)
 num:s.n=ord.length
 top:s.top=To+fH sz ord
 still:∀k,k<To∨s.top≤k→s.M k=L k
 old:∀x z i,s.f x=some z→i<sz x→(cur≤z+i∨i=0∨np x<i)→s.M (z+i)=L (x+i)
 new:∀x z i,s.f x=some z→z+i<cur→1≤i→i≤np x→i<sz x→(L (x+i)=0∧s.M (z+i)=0)∨s.f (L (x+i))=some (s.M (z+i))
section
variable {L sz np:Nat→Nat} {To cur:Nat} {ord:List Nat} {s:cV}
theorem er.fits (h:er L sz np To ord cur s) {x z:Nat} (hz:s.f x=some z):To≤z∧z+sz x≤s.top:=by
 obtain ⟨j,h1,rfl⟩:=(h.went x z).1 hz;have:=nU (sz:=sz) h1;have:=h.top;omega
theorem er.Fh (h:er L sz np To ord cur s) {x:Nat}:s.f x=none↔x∉ord:=by
 constructor
 ·intro h1 h2;obtain ⟨j,hj⟩:=List.mem_iff_getElem?.1 h2;have:=(h.went x _).2 ⟨j,hj,rfl⟩;rw [h1] at this;exact absurd this (by simp)
 ·intro h1
  cases hx:s.f x with
  |none=>rfl
  |some z=>
   obtain ⟨j,h2,_⟩:=(h.went x z).1 hx;exact absurd (List.mem_of_getElem? h2) h1
theorem er.goes (h:er L sz np To ord cur s) {x:Nat} (h0:x≠0) (hf:s.f x=none) (hcur:cur≤s.top) (hlies:∀k,x≤k→k<x+sz x→k<To∨s.top≤k):
  er L sz np To (ord++[x]) cur (s.take sz x).1∧(s.take sz x).2=s.top∧(s.take sz x).1.top=s.top+sz x∧(s.take sz x).1.f x=some s.top∧(∀y z,s.f y=some z→(s.take sz x).1.f y=some z):=by
 have hni:=h.Fh.1 hf;have ht:s.take sz x=(⟨gR s.M x s.top (sz x),dg s.f x s.top,s.n+1,s.top+sz x⟩,s.top):=by
  unfold cV.take;rw [if_neg h0,hf]
 have htop:=h.top;rw [ht];have hkeep:∀y z,s.f y=some z→dg s.f x s.top y=some z:=by
  intro y z hy;have hne:y≠x:=by rintro rfl;rw [hf] at hy;exact absurd hy (by simp)
  unfold dg;rw [if_neg hne];exact hy
 have hnew:dg s.f x s.top x=some s.top:=by unfold dg;rw [if_pos rfl]
 have hcase:∀y z,dg s.f x s.top y=some z→(y=x∧z=s.top)∨(y≠x∧s.f y=some z):=by
  intro y z hy;unfold dg at hy;by_cases hyx:y=x
  ·rw [if_pos hyx] at hy;exact .inl ⟨hyx,(Option.some.inj hy).symm⟩
  ·rw [if_neg hyx] at hy;exact .inr ⟨hyx,hy⟩
 refine ⟨⟨?_,?_,?_,?_,?_,?_,?_⟩,rfl,rfl,hnew,hkeep⟩
 ·rw [List.nodup_append];refine ⟨h.nd,by simp,?_⟩;intro a ha b hb;rw [List.mem_singleton.1 hb];rintro rfl;exact hni ha
 ·intro y z;constructor
  ·intro hy;rcases hcase y z hy with ⟨rfl,rfl⟩|⟨hne,h1⟩
   ·refine ⟨ord.length,by simp,?_⟩;rw [List.take_left' rfl];exact htop
   ·obtain ⟨j,h2,h3⟩:=(h.went y z).1 h1;have hj:=(List.getElem?_eq_some_iff.1 h2).1;refine ⟨j,by rw [List.getElem?_append_left hj];exact h2,?_⟩;rw [List.take_append_of_le_length (by omega)];exact h3
  ·rintro ⟨j,h2,h3⟩;rcases Nat.lt_or_ge j ord.length with hj|hj
   ·rw [List.getElem?_append_left hj] at h2;rw [List.take_append_of_le_length (by omega)] at h3;exact hkeep y z ((h.went y z).2 ⟨j,h2,h3⟩)
   ·have hj2:j=ord.length:=by
     have:=(List.getElem?_eq_some_iff.1 h2).1;rw [List.length_append] at this;simp at this;omega
    subst hj2;rw [List.getElem?_append_right (Nat.le_refl _),Nat.sub_self] at h2;rw [List.take_left' rfl] at h3;have:x=y:=by simpa using h2
    subst this;rw [h3,←htop];exact hnew
 ·show s.n+1=_
  rw [h.num,List.length_append];rfl
 ·show s.top+sz x=_
  rw [fI,iZ,htop];omega
 ·intro k hk;show gR s.M x s.top (sz x) k=_
  unfold gR;change k<To∨s.top+sz x≤k at hk;rw [if_neg (by omega)];exact h.still k (by omega)
 ·intro y z i hy hi hor;show gR s.M x s.top (sz x) (z+i)=_
  unfold gR;rcases hcase y z hy with ⟨rfl,rfl⟩|⟨hne,h1⟩
  ·rw [if_pos (by omega),show y+(s.top+i-s.top)=y+i by omega];exact h.still _ (hlies _ (by omega) (by omega))
  ·have:=h.fits h1;rw [if_neg (by omega)];exact h.old y z i h1 hi hor
 ·intro y z i hy hc h1i hip hi;show (_∧gR s.M x s.top (sz x) (z+i)=0)∨dg s.f x s.top _=some (gR s.M x s.top (sz x) (z+i))
  unfold gR;rcases hcase y z hy with ⟨rfl,rfl⟩|⟨hne,h1⟩
  ·omega
  ·have:=h.fits h1;rw [if_neg (by omega)];rcases h.new y z i h1 hc h1i hip hi with h2|h2
   ·exact .inl h2
   ·exact .inr (hkeep _ _ h2)
end
theorem ld {sz:Nat→Nat} {l:List Nat} {j j' x:Nat} (h:l[j]? =some x) (hj:j<j'):fH sz (l.take j)+sz x≤fH sz (l.take j'):=by
 have h1:(l.take j')[j]? =some x:=by rw [List.getElem?_take_of_lt hj];exact h
 have h2:=nU (sz:=sz) h1;rwa [List.take_take,Nat.min_eq_left (Nat.le_of_lt hj)] at h2
section
variable {L sz np:Nat→Nat} {To cur:Nat} {ord:List Nat} {s:cV}
theorem er.apart (h:er L sz np To ord cur s) {x y z a q:Nat} (hx:s.f x=some z) (hy:s.f y=some a) (h1:z≤q) (h2:q<z+sz x) (h3:a≤q) (h4:q<a+sz y):x=y∧z=a:=by
 obtain ⟨j,g1,g2⟩:=(h.went x z).1 hx;obtain ⟨j',g3,g4⟩:=(h.went y a).1 hy;rcases Nat.lt_trichotomy j j' with hj|hj|hj
 ·have:=ld (sz:=sz) g1 hj;omega
 ·subst hj;rw [g1] at g3;exact ⟨Option.some.inj g3,by omega⟩
 ·have:=ld (sz:=sz) g3 hj;omega
theorem er.skip (h:er L sz np To ord cur s) {cur':Nat} (hc:cur≤cur') (hn:∀x z i,s.f x=some z→i<sz x→cur≤z+i→z+i<cur'→i=0∨np x<i):er L sz np To ord cur' s:=by
 refine ⟨h.nd,h.went,h.num,h.top,h.still,fun x z i h1 h2 h3=>h.old x z i h1 h2 ?_,fun x z i h1 h2 h3 h4 h5=> ?_⟩
 ·rcases h3 with h3|h3
  ·exact .inl (by omega)
  ·exact .inr h3
 ·rcases Nat.lt_or_ge (z+i) cur with h6|h6
  ·exact h.new x z i h1 h6 h3 h4 h5
  ·have:=hn x z i h1 h5 h6 h2;omega
theorem er.put (h:er L sz np To ord cur s) {y a i v:Nat} (hy:s.f y=some a) (hc:cur=a+1+i) (hi:i<np y) (hsz:np y<sz y) (hv:(L (y+1+i)=0∧v=0)∨s.f (L (y+1+i))=some v):er L sz np To ord (cur+1) ⟨bG s.M cur v,s.f,s.n,s.top⟩:=by
 have hf:=h.fits hy;refine ⟨h.nd,h.went,h.num,h.top,fun k hk=> ?_,fun x z j h1 h2 h3=> ?_,fun x z j h1 h2 h3 h4 h5=> ?_⟩
 ·show bG s.M cur v k=_
  unfold bG;change k<To∨s.top≤k at hk;rw [if_neg (by omega)];exact h.still k hk
 ·show bG s.M cur v (z+j)=_
  unfold bG;by_cases hq:z+j=cur
  ·obtain ⟨rfl,rfl⟩:=h.apart (q:=cur) h1 hy (by omega) (by omega) (by omega) (by omega);omega
  ·rw [if_neg hq];refine h.old x z j h1 h2 ?_;rcases h3 with h3|h3
   ·exact .inl (by omega)
   ·exact .inr h3
 ·show (_∧bG s.M cur v (z+j)=0)∨s.f _=some (bG s.M cur v (z+j))
  unfold bG;by_cases hq:z+j=cur
  ·obtain ⟨rfl,rfl⟩:=h.apart (q:=cur) h1 hy (by omega) (by omega) (by omega) (by omega);rw [if_pos hq];have hj:x+j=x+1+i:=by omega
   rw [hj];exact hv
  ·rw [if_neg hq];exact h.new x z j h1 (by omega) h3 h4 h5
theorem er.turn1 (h:er L sz np To ord cur s) {y a i:Nat} (hy:s.f y=some a) (hc:cur=a+1+i) (hi:i<np y) (hsz:np y<sz y)
  (hlies:L (y+1+i)≠0→s.f (L (y+1+i))=none→∀k,L (y+1+i)≤k→k<L (y+1+i)+sz (L (y+1+i))→k<To∨s.top≤k):
  ∃ord',er L sz np To ord' (cur+1) (s.turn1 sz a i)∧(ord'=ord∨(L (y+1+i)≠0∧L (y+1+i)∉ord∧ord'=ord++[L (y+1+i)]))∧(∀x z,s.f x=some z→(s.turn1 sz a i).f x=some z):=by
 have hf:=h.fits hy;have hw:s.M (a+1+i)=L (y+1+i):=by
  have:=h.old y a (1+i) hy (by omega) (.inl (by omega));rwa [←Nat.add_assoc,←Nat.add_assoc] at this
 unfold cV.turn1;rw [hw];generalize hX:L (y+1+i)=X at*;rw [←hc];by_cases h0:X=0
 ·have ht:s.take sz X=(s,0):=by unfold cV.take;rw [if_pos h0]
  rw [ht];exact ⟨ord,h.put hy hc hi hsz (.inl ⟨by rw [hX];exact h0,rfl⟩),.inl rfl,fun _ _ h=>h⟩
 ·cases hfx:s.f X with
  |some z=>
   have ht:s.take sz X=(s,z):=by unfold cV.take;rw [if_neg h0,hfx]
   rw [ht];exact ⟨ord,h.put hy hc hi hsz (.inr (by rw [hX];exact hfx)),.inl rfl,fun _ _ h=>h⟩
  |none=>
   obtain ⟨g1,g2,g3,g4,g5⟩:=h.goes h0 hfx (by omega) (hlies h0 hfx);refine ⟨_,g1.put (g5 y a hy) hc hi hsz (.inr ?_),.inr ⟨h0,h.Fh.1 hfx,rfl⟩,g5⟩;rw [hX,g2];exact g4
end
structure sP (L:Nat→Nat) (sz np:Nat→Nat) (To Li:Nat) (R:Nat→Prop):Prop where
 some:∀x,R x→x≠0∧np x<sz x
 out:∀x,R x→∀k,x≤k→k<x+sz x→k<To∨Li≤k
 next:∀x,R x→∀i,i<np x→L (x+1+i)=0∨R (L (x+1+i))
 fit:∀l:List Nat,l.Nodup→(∀x∈l,R x)→To+fH sz l≤Li
section
variable {L sz np:Nat→Nat} {To Li cur:Nat} {R:Nat→Prop} {ord:List Nat} {s:cV}
theorem er.turnN (hR:sP L sz np To Li R) (h:er L sz np To ord cur s) (ho:∀x∈ord,R x) {y a:Nat} (hy:s.f y=some a) (hc:cur=a) (hRy:R y):∀i,i≤np y→
  ∃ord',er L sz np To ord' (a+1+i) (cV.turnN sz a s i)∧(∀x∈ord',R x)∧ord<+:ord'∧(∀x z,s.f x=some z→(cV.turnN sz a s i).f x=some z):=by
 intro i
 induction i with
 |zero=>
  intro _;have hs:=(hR.some y hRy).2;refine ⟨ord,h.skip (by omega) (fun x z j h1 h2 h3 h4=> ?_),ho,List.prefix_refl _,fun _ _ h=>h⟩;obtain ⟨rfl,rfl⟩:=h.apart (q:=z+j) h1 hy (by omega) (by omega) (by omega) (by omega);exact .inl (by omega)
 |succ i ih=>
  intro hi;obtain ⟨o1,g1,g2,g3,g4⟩:=ih (by omega);have hs:=(hR.some y hRy).2;have hnx:=hR.next y hRy i (by omega);have ht:=hR.fit o1 g1.nd g2;have htop:=g1.top;obtain ⟨o2,q1,q2,q3⟩:=g1.turn1 (g4 y a hy) rfl (by omega) hs (fun h0 _ k k1 k2=>by
   have:=hR.out _ (hnx.resolve_left h0) k k1 k2;omega)
  refine ⟨o2,q1,?_,?_,fun x z hx=>q3 x z (g4 x z hx)⟩
  ·rcases q2 with rfl|⟨r1,r2,rfl⟩
   ·exact g2
   ·intro x hx;rcases List.mem_append.1 hx with hx|hx
    ·exact g2 x hx
    ·rw [List.mem_singleton.1 hx];exact hnx.resolve_left r1
  ·rcases q2 with rfl|⟨r1,r2,rfl⟩
   ·exact g3
   ·exact g3.trans (List.prefix_append _ _)
theorem er.turned (hR:sP L sz np To Li R) (h:er L sz np To ord cur s) (ho:∀x∈ord,R x) {c y:Nat} (hy:ord[c]? =some y) (hc:cur=To+fH sz (ord.take c)):
  ∃ord',er L sz np To ord' (cur+sz y) (cV.turnN sz cur s (np y))∧(∀x∈ord',R x)∧ord<+:ord'∧cur+sz y=To+fH sz (ord'.take (c+1))∧(∀x z,s.f x=some z→(cV.turnN sz cur s (np y)).f x=some z):=by
 have hRy:=ho y (List.mem_of_getElem? hy);have hfy:=(h.went y cur).2 ⟨c,hy,hc⟩;have hs:=(hR.some y hRy).2;obtain ⟨o1,g1,g2,g3,g4⟩:=h.turnN hR ho hfy rfl hRy (np y) (Nat.le_refl _);obtain ⟨l2,rfl⟩:=id g3;have hcl:=(List.getElem?_eq_some_iff.1 hy).1;refine ⟨_,g1.skip (by omega) (fun x z j h1 h2 h3 h4=> ?_),g2,g3,?_,g4⟩
 ·obtain ⟨rfl,rfl⟩:=g1.apart (q:=z+j) h1 (g4 _ _ hfy) (by omega) (by omega) (by omega) (by omega);exact .inr (by omega)
 ·rw [List.take_append_of_le_length (by omega),List.take_add_one,hy,hc];show _=To+fH sz (ord.take c++[y])
  rw [fI,iZ];omega
end
structure wK (L:Nat→Nat) (sz np:Nat→Nat) (To Li:Nat) (R:Nat→Prop) (dom:Nat→Prop):Prop where
 hd:∀x,R x→∃p t g,d9 L x p t g∧sz x=1+(p+t+g)∧np x=p
 lies:∀x,R x→x<1048576∧∀k,x≤k→k<x+sz x→dom k∧L k<18446744073709551616
 Rm:∀k,To≤k→k<Li→dom k
 low:1≤To
 Hg:Li<1048576
section
variable {L sz np:Nat→Nat} {To Li cur:Nat} {R dom:Nat→Prop} {ord:List Nat} {s:cV}
theorem jV {sz:Nat→Nat}:∀l:List Nat,(∀x∈l,1≤sz x)→l.length≤fH sz l
 |[],_=>Nat.zero_le _
 |x::l,h=>by
  have h1:=jV l (fun y hy=>h y (List.mem_cons_of_mem _ hy));have h2:=h x (List.mem_cons_self);have h3:fH sz (x::l)=sz x+fH sz l:=by simp [fH]
  rw [h3,List.length_cons];omega
theorem er.ok (hR:sP L sz np To Li R) (hD:wK L sz np To Li R dom) (h:er L sz np To ord cur s) (ho:∀x∈ord,R x) (x:Nat) (hx:x=0∨R x):s.Ok dom sz x:=by
 intro h0;have hRx:=hx.resolve_left h0;obtain ⟨l1,l2⟩:=hD.lies x hRx;refine ⟨l1,fun hf=> ?_⟩;obtain ⟨p,t,g,h1,h2,h3⟩:=hD.hd x hRx;have hni:=h.Fh.1 hf;have hft:=hR.fit (ord++[x]) (by
  rw [List.nodup_append];refine ⟨h.nd,by simp,?_⟩;intro a ha b hb;rw [List.mem_singleton.1 hb];rintro rfl;exact hni ha) (fun y hy=>by
  rcases List.mem_append.1 hy with hy|hy
  ·exact ho y hy
  ·rw [List.mem_singleton.1 hy];exact hRx)
 rw [fI,iZ] at hft;have htop:=h.top;have hlow:=hD.low;have hhigh:=hD.Hg;have hlen:=jV (sz:=sz) ord (fun y hy=>by have:=(hR.some y (ho y hy)).2;omega);have hst:∀k,x≤k→k<x+sz x→s.M k=L k:=fun k k1 k2=>h.still k (by have:=hR.out x hRx k k1 k2;omega)
 have hs0:=(hR.some x hRx).2;refine ⟨p,t,g,⟨by rw [hst x (Nat.le_refl _) (by omega)];exact h1.1,h1.2⟩,h2,fun k k1 k2=>⟨(l2 k k1 k2).1,by rw [hst k k1 k2];exact (l2 k k1 k2).2⟩,by omega,by omega,fun k k1 k2=>hD.Rm k (by omega) (by omega),by rw [h.num];omega⟩
theorem er.taken (hR:sP L sz np To Li R) (h:er L sz np To ord cur s) (ho:∀x∈ord,R x) (hcur:cur≤s.top) (x:Nat) (hx:x=0∨R x):
  ∃ord',er L sz np To ord' cur (s.take sz x).1∧(∀y∈ord',R y)∧ord<+:ord'∧(∀y z,s.f y=some z→(s.take sz x).1.f y=some z)∧((x=0∧(s.take sz x).2=0)∨(s.take sz x).1.f x=some (s.take sz x).2):=by
 by_cases h0:x=0
 ·have ht:s.take sz x=(s,0):=by unfold cV.take;rw [if_pos h0]
  rw [ht];exact ⟨ord,h,ho,List.prefix_refl _,fun _ _ h=>h,.inl ⟨h0,rfl⟩⟩
 ·have hRx:=hx.resolve_left h0
  cases hfx:s.f x with
  |some z=>
   have ht:s.take sz x=(s,z):=by unfold cV.take;rw [if_neg h0,hfx]
   rw [ht];exact ⟨ord,h,ho,List.prefix_refl _,fun _ _ h=>h,.inr hfx⟩
  |none=>
   have hft:=hR.fit ord h.nd ho;have htop:=h.top;obtain ⟨g1,g2,g3,g4,g5⟩:=h.goes h0 hfx hcur (fun k k1 k2=>by have:=hR.out x hRx k k1 k2;omega);refine ⟨_,g1,fun y hy=> ?_,List.prefix_append _ _,g5,.inr (by rw [g2];exact g4)⟩;rcases List.mem_append.1 hy with hy|hy
   ·exact ho y hy
   ·rw [List.mem_singleton.1 hy];exact hRx
theorem er.ok1 (hR:sP L sz np To Li R) (hD:wK L sz np To Li R dom) (h:er L sz np To ord cur s) (ho:∀x∈ord,R x) {y a i p t g:Nat} (hy:s.f y=some a) (hc:cur=a+1+i) (hi:i<p) (hRy:R y) (hh:d9 L y p t g) (hsz:sz y=1+(p+t+g)) (hnp:np y=p):cV.Ok1 dom sz a p t g s i:=by
 have hf:=h.fits hy;have hft:=hR.fit ord h.nd ho;have htop:=h.top;have hhigh:=hD.Hg;have hw:s.M (a+1+i)=L (y+1+i):=by
  have:=h.old y a (1+i) hy (by omega) (.inl (by omega));rwa [←Nat.add_assoc,←Nat.add_assoc] at this
 have hnx:=hR.next y hRy i (by omega);have hlt:L (y+1+i)<1048576:=by
  rcases hnx with h0|h0
  ·omega
  ·exact (hD.lies _ h0).1
 obtain ⟨o1,g1,g2,g3,g4,g5⟩:=h.taken hR ho (by omega) _ hnx;refine ⟨by rw [hw];exact h.ok hR hD ho _ hnx,⟨?_,hh.2⟩,⟨?_,hh.2⟩,by omega,?_,hD.Rm _ (by omega) (by omega)⟩
 ·have:=h.old y a 0 hy (by omega) (.inr (.inl rfl));rw [Nat.add_zero,Nat.add_zero] at this;rw [this];exact hh.1
 ·rw [hw];have h9:(s.take sz (L (y+1+i))).1.M a=L y:=g1.old y a 0 (g4 y a hy) (by omega) (.inr (.inl rfl));rw [h9];exact hh.1
 ·rw [hw];rcases g5 with ⟨_,h5⟩|h5
  ·omega
  ·have h6:=g1.fits h5;have h7:=hR.fit o1 g1.nd g2;have h8:=g1.top;omega
end
section
variable {m Pg W Fs Us Hg:Nat} {mp:Nat→Bool} {kb wb:Nat} {S0:Nat→Prop} {w w0:World} {L sz np:Nat→Nat} {To Li cur:Nat} {R:Nat→Prop} {ord:List Nat} {s:cV}
def xW (m Pg W Fs Us Hg:Nat) (mp:Nat→Bool) (kb wb:Nat) (S0:Nat→Prop) (w0:World) (L sz np:Nat→Nat) (To:Nat) (R:Nat→Prop) (ord:List Nat) (cur:Nat) (s:cV) (w:World):Prop:=
 fK m Pg W Fs Us Hg mp kb wb S0 w0 s w∧er L sz np To ord cur s∧∀x∈ord,R x
theorem vN (hR:sP L sz np To Li R) (hD:wK L sz np To Li R (aX W Pg mp)) (h:xW m Pg W Fs Us Hg mp kb wb S0 w0 L sz np To R ord cur s w) (hcur:cur≤s.top) (x:Nat) (hx:x=0∨R x):
  Calls Tryz.prog 146 #[kb,.int .i64 x] w fun e w'=>∃(z:Nat) (ord':List Nat) (s':cV),e= .returned (.int .i64 z)∧xW m Pg W Fs Us Hg mp kb wb S0 w0 L sz np To R ord' cur s' w'∧ord<+:ord'∧(∀y q,s.f y=some q→s'.f y=some q)∧((x=0∧z=0)∨s'.f x=some z):=by
 obtain ⟨h1,h2,h3⟩:=h;obtain ⟨o1,g1,g2,g3,g4,g5⟩:=h2.taken hR h3 hcur x hx;refine (mD h1 x (h2.ok hR hD h3 x hx)).mono ?_;rintro e w' ⟨rfl,q⟩;exact ⟨_,o1,_,rfl,⟨q,g1,g2⟩,g3,g4,g5⟩
theorem vO (hR:sP L sz np To Li R) (hD:wK L sz np To Li R (aX W Pg mp)) (h:xW m Pg W Fs Us Hg mp kb wb S0 w0 L sz np To R ord cur s w) {c y:Nat} (hy:ord[c]? =some y) (hc:cur=To+fH sz (ord.take c)):
  Calls Tryz.prog 147 #[kb,.int .i64 cur] w fun e w'=>∃(ord':List Nat) (s':cV),e= .returned (.int .i64 ((cur+sz y:Nat):Int))∧xW m Pg W Fs Us Hg mp kb wb S0 w0 L sz np To R ord' (cur+sz y) s' w'∧ord<+:ord'∧cur+sz y=To+fH sz (ord'.take (c+1))∧∀x q,s.f x=some q→s'.f x=some q:=by
 obtain ⟨h1,h2,h3⟩:=h;have hRy:=h3 y (List.mem_of_getElem? hy);have hfy:=(h2.went y cur).2 ⟨c,hy,hc⟩;obtain ⟨p,t,g,d1,d2,d3⟩:=hD.hd y hRy;obtain ⟨o1,g1,g2,g3,g4,g5⟩:=h2.turned hR h3 hy hc;have hf:=h2.fits hfy;have hft:=hR.fit ord h2.nd h3;have htop:=h2.top;have hhigh:=hD.Hg;have hlow:=hD.low;have h9:s.M cur=L y:=h2.old y cur 0 hfy (by omega) (.inr (.inl rfl));rw [d3] at g1 g5;refine (tu (sz:=sz) h1 cur p t g (by omega) (by omega) (hD.Rm cur (by omega) (by omega)) ⟨by rw [h9];exact d1.1,d1.2⟩ (fun i hi=> ?_)).mono ?_
 ·obtain ⟨o2,q1,q2,q3,q4⟩:=h2.turnN hR h3 hfy rfl hRy i (by omega);exact q1.ok1 hR hD q2 (q4 y cur hfy) rfl hi hRy d1 d2 d3
 ·rintro e w' ⟨rfl,q⟩;rw [←d2];exact ⟨o1,_,rfl,⟨q,g1,g2⟩,g3,g4,g5⟩
end
theorem aP.copied {A:AG} {rs:List Nat} {φ L:Nat→Nat} {lo hi To:Nat} {sz np:Nat→Nat} {ord:List Nat} {s:cV} (h:aP A rs φ L lo hi) (hj:er L sz np To ord s.top s) (h1:1≤To) (hf0:s.f 0=none) (hsz:∀x,Reach A.gr rs x→sz (φ x)=A.sz x∧np (φ x)=A.np x) (hin:∀x,Reach A.gr rs x→φ x∈ord):
  aP A rs (fun x=>(s.f (φ x)).getD 0) s.M To s.top:=by
 have hgo:∀x,Reach A.gr rs x→s.f (φ x)=some ((s.f (φ x)).getD 0):=by
  intro x hx;obtain ⟨j,h2⟩:=List.mem_iff_getElem?.1 (hin x hx);have h3:=(hj.went (φ x) _).2 ⟨j,h2,rfl⟩;rw [h3];rfl
 have hone:∀x,1≤A.sz x:=fun x=>by unfold AG.sz;omega
 refine ⟨?_,h1,fun x hx=> ?_,fun x y hx hy hxy=> ?_,fun x hx=>⟨?_,(h.head x hx).2⟩,fun x hx i hi=> ?_,fun x hx i hi1 hi2=> ?_⟩
 ·show (s.f (φ 0)).getD 0=0
  rw [h.zero,hf0];rfl
 ·have:=hj.fits (hgo x hx);rw [(hsz x hx).1] at this;exact this
 ·have g1:=hgo x hx;have g2:=hgo y hy;generalize (s.f (φ x)).getD 0=z at*;generalize (s.f (φ y)).getD 0=a at*;have e1:=(hsz x hx).1;have e2:=(hsz y hy).1;have o1:=hone x;have o2:=hone y;have hne:φ x≠φ y:=fun e=>hxy (h.inj hx hy e)
  show z+A.sz x≤a∨a+A.sz y≤z
  rcases Nat.lt_or_ge a (z+A.sz x) with q1|q1
  ·rcases Nat.lt_or_ge z (a+A.sz y) with q2|q2
   ·rcases Nat.le_total z a with q3|q3
    ·exact absurd (hj.apart (q:=a) g1 g2 q3 (by omega) (Nat.le_refl _) (by omega)).1 hne
    ·exact absurd (hj.apart (q:=z) g1 g2 (Nat.le_refl _) (by omega) q3 (by omega)).1 hne
   ·exact .inr q2
  ·exact .inl q1
 ·have o1:=hone x;have h9:s.M ((s.f (φ x)).getD 0)=L (φ x):=hj.old (φ x) _ 0 (hgo x hx) (by rw [(hsz x hx).1];omega) (.inr (.inl rfl));show s.M ((s.f (φ x)).getD 0)=_
  rw [h9];exact (h.head x hx).1
 ·have hz:1+i<A.sz x:=by unfold AG.sz;omega
  have hfit:=hj.fits (hgo x hx);rw [(hsz x hx).1] at hfit;have h9:=hj.new (φ x) _ (1+i) (hgo x hx) (by omega) (by omega) (by rw [(hsz x hx).2];omega) (by rw [(hsz x hx).1];exact hz);rw [←ea φ,h.ptr x hx i hi] at h9;show s.M ((s.f (φ x)).getD 0+1+i)=(s.f (φ (A.fld x i))).getD 0
  rw [Nat.add_assoc];rcases h9 with ⟨g1,g2⟩|g1
  ·rw [g1,hf0,g2];rfl
  ·rw [g1];rfl
 ·have hz:1+i<A.sz x:=by unfold AG.sz;omega
  have h9:=hj.old (φ x) _ (1+i) (hgo x hx) (by rw [(hsz x hx).1];exact hz) (.inr (.inr (by rw [(hsz x hx).2];omega)));rw [←ea φ] at h9;show s.M ((s.f (φ x)).getD 0+1+i)=_∧_
  rw [Nat.add_assoc,h9];exact h.val x hx i hi1 hi2
theorem aP.shut {A:AG} {rs:List Nat} {φ L:Nat→Nat} {lo hi To:Nat} {sz np:Nat→Nat} {ord:List Nat} {s:cV} (h:aP A rs φ L lo hi) (hj:er L sz np To ord s.top s) (hsz:∀x,Reach A.gr rs x→sz (φ x)=A.sz x∧np (φ x)=A.np x) (hroot:∀x∈rs,x≠0→φ x∈ord):∀x,Reach A.gr rs x→φ x∈ord:=by
 intro x hx
 induction hx with
 |root h1 h2=>exact hroot _ h1 h2
 | @step a p h0 h1 h2 ih=>
  obtain ⟨i,hi,rfl⟩:=List.mem_map.1 h1;have hi2:=List.mem_range.1 hi;obtain ⟨j,h3⟩:=List.mem_iff_getElem?.1 ih;have h4:=(hj.went (φ a) _).2 ⟨j,h3,rfl⟩;have hz:1+i<A.sz a:=by unfold AG.sz;omega
  have hfit:=hj.fits h4;rw [(hsz a h0).1] at hfit;have h9:=hj.new (φ a) _ (1+i) h4 (by omega) (by omega) (by rw [(hsz a h0).2];omega) (by rw [(hsz a h0).1];exact hz);rw [←ea φ,h.ptr a h0 i hi2] at h9;have h5:=h.pos (.step h0 h1 h2);rcases h9 with ⟨g1,_⟩|g1
  ·omega
  ·obtain ⟨j',h6,_⟩:=(hj.went _ _).1 g1;exact List.mem_of_getElem? h6
theorem aP.cpr {A:AG} {rs:List Nat} {φ L:Nat→Nat} {lo hi To Li:Nat} {sz np:Nat→Nat} (h:aP A rs φ L lo hi) (hsz:∀x,Reach A.gr rs x→sz (φ x)=A.sz x∧np (φ x)=A.np x) (hout:hi≤To∨Li≤lo) (hfit:∀l:List Nat,l.Nodup→(∀a∈l,∃x,Reach A.gr rs x∧φ x=a)→To+fH sz l≤Li):
  sP L sz np To Li (fun a=>∃x,Reach A.gr rs x∧φ x=a):=by
 refine ⟨?_,?_,?_,hfit⟩
 ·rintro a ⟨x,hx,rfl⟩;have h1:=h.pos hx;rw [(hsz x hx).1,(hsz x hx).2];exact ⟨by omega,by unfold AG.sz;omega⟩
 ·rintro a ⟨x,hx,rfl⟩ k k1 k2;rw [(hsz x hx).1] at k2;have h1:=h.lies x hx;omega
 ·rintro a ⟨x,hx,rfl⟩ i hi;rw [(hsz x hx).2] at hi;rw [h.ptr x hx i hi];by_cases h0:A.fld x i=0
  ·rw [h0];exact .inl h.zero
  ·exact .inr ⟨_,AG.ptr_reach hx hi h0,rfl⟩
theorem er.none (L sz np:Nat→Nat) (To:Nat):er L sz np To [] To ⟨L,fun _=>Option.none,0,To⟩:=by
 refine ⟨List.nodup_nil,fun x z=> ?_,rfl,rfl,fun _ _=>rfl,fun x z i h=> ?_,fun x z i h=> ?_⟩
 ·constructor
  ·intro h;exact absurd h (by simp)
  ·rintro ⟨j,h,_⟩;exact absurd h (by simp)
 ·exact absurd h (by simp)
 ·exact absurd h (by simp)
theorem qH (sz:Nat→Nat) (N:Nat):∀(l:List Nat) (f:Nat→Bool),l.Nodup→(∀a∈l,a+sz a≤N∧∀k,a≤k→k<a+sz a→f k=true)→(∀a∈l,∀b∈l,a≠b→a+sz a≤b∨b+sz b≤a)→fH sz l≤cnt f 0 N
 |[],_,_,_,_=>Nat.zero_le _
 |x::l,f,hn,h1,h2=>by
  obtain ⟨hx,hl⟩:=List.nodup_cons.1 hn;obtain ⟨a1,a2⟩:=h1 x (List.mem_cons_self);have ih:=qH sz N l (fun k=>f k&& !(decide (x≤k)&&decide (k<x+sz x))) hl (fun a ha=>by
   obtain ⟨b1,b2⟩:=h1 a (List.mem_cons_of_mem _ ha);refine ⟨b1,fun k k1 k2=> ?_⟩;have h3:=h2 a (List.mem_cons_of_mem _ ha) x (List.mem_cons_self) (fun e=>hx (e▸ha));have h4:(decide (x≤k)&&decide (k<x+sz x))=false:=by rw [Bool.and_eq_false_iff,decide_eq_false_iff_not,decide_eq_false_iff_not];omega
   show (f k&& !(decide (x≤k)&&decide (k<x+sz x)))=true
   rw [b2 k k1 k2,h4];rfl) (fun a ha b hb=>h2 a (List.mem_cons_of_mem _ ha) b (List.mem_cons_of_mem _ hb))
  have e1:=aw f (a:=0) (m:=x) (b:=N) (by omega) (by omega);have e2:=aw f (a:=x) (m:=x+sz x) (b:=N) (by omega) (by omega);have e3:cnt f x (x+sz x)=sz x:=by rw [ib a2];omega
  generalize hg:(fun k=>f k&& !(decide (x≤k)&&decide (k<x+sz x)))=g at ih;have hgk:∀k,g k=(f k&& !(decide (x≤k)&&decide (k<x+sz x))):=fun k=>by rw [←hg]
  have hout:∀k,k<x∨x+sz x≤k→g k=f k:=fun k hk=>by
   have h4:(decide (x≤k)&&decide (k<x+sz x))=false:=by rw [Bool.and_eq_false_iff,decide_eq_false_iff_not,decide_eq_false_iff_not];omega
   rw [hgk,h4];simp
  have e4:=aw g (a:=0) (m:=x) (b:=N) (by omega) (by omega);have e5:=aw g (a:=x) (m:=x+sz x) (b:=N) (by omega) (by omega);have e6:cnt g 0 x=cnt f 0 x:=aJ (fun i _ h=>hout i (.inl h));have e7:cnt g (x+sz x) N=cnt f (x+sz x) N:=aJ (fun i h _=>hout i (.inr h));have e9:cnt g x (x+sz x)=0:=aD (fun k k1 k2=>by rw [hgk,decide_eq_true k1,decide_eq_true k2];simp);have e8:fH sz (x::l)=sz x+fH sz l:=by simp [fH]
  omega
section
variable {m Pg W Fs Us Hg:Nat} {mp:Nat→Bool} {kb wb g:Nat} {S0:Nat→Prop} {w w1 w0:World} {s:cV}
def xa (m Pg W Fs Us Hg:Nat) (mp:Nat→Bool) (kb wb g:Nat) (S0:Nat→Prop) (w0:World) (s:cV) (w:World):Prop:=
 ∃S,sJ m Pg W Fs Us Hg mp kb wb s.M s.f s.n s.top S w∧Fr (fun k=>S0 k∨k=kb∨k=wb∨k=g) w0 w∧∀k,S k→S0 k∨w0.heap.size≤k
theorem xa.step (h:xa m Pg W Fs Us Hg mp kb wb g S0 w0 s w):∃S,fK m Pg W Fs Us Hg mp kb wb S w s w∧(∀k,S k→S0 k∨w0.heap.size≤k)∧∀s' w',fK m Pg W Fs Us Hg mp kb wb S w s' w'→xa m Pg W Fs Us Hg mp kb wb g S0 w0 s' w':=by
 obtain ⟨S,q1,q2,q3⟩:=h;have hz:=q2.size;refine ⟨S,⟨S,q1,Fr.refl _ _,fun _ h=> .inl h⟩,q3,?_⟩;rintro s' w' ⟨S',r1,r2,r3⟩;refine ⟨S',r1,q2.trans r2 (fun k hk=> ?_),fun k hk=> ?_⟩
 ·rcases hk with h|h|h
  ·exact (q3 k h).imp .inl id
  ·exact .inl (.inr (.inl h))
  ·exact .inl (.inr (.inr (.inl h)))
 ·rcases r3 k hk with h|h
  ·exact q3 k h
  ·exact .inr (by omega)
theorem xa.row (h:xa m Pg W Fs Us Hg mp kb wb g S0 w0 s w) (hg:g<w0.heap.size) (h0:¬S0 g) (hk:kb≠g) (hw:wb≠g) (hf:Fr (fun k=>k=g) w w1):xa m Pg W Fs Us Hg mp kb wb g S0 w0 s w1:=by
 obtain ⟨S,q1,q2,q3⟩:=h;refine ⟨S,⟨q1.blk.frame hf hk,aR _ _ _ _ _ _ _ _ _ _ _ _ q1.mem hf (fun k hS e=> ?_),q1.went.frame hf hw,q1.d1,q1.d2,q1.d3⟩,q2.trans hf (fun k hk=> .inl (.inr (.inr (.inr hk)))),q3⟩;rcases q3 k hS with h|h
 ·exact h0 (e▸h)
 ·omega
end
section
variable {m Pg W Fs Us Hg:Nat} {mp:Nat→Bool} {kb wb b g:Nat} {S0:Nat→Prop} {w w0:World} {L sz np:Nat→Nat} {To Li:Nat} {R:Nat→Prop} {ls:List Nat}
def vg (m Pg W Fs Us Hg:Nat) (mp:Nat→Bool) (kb wb g:Nat) (S0:Nat→Prop) (w0:World) (L sz np:Nat→Nat) (To:Nat) (R:Nat→Prop) (ls rs:List Nat) (w:World):Prop:=
 ∃(ord:List Nat) (s:cV),xa m Pg W Fs Us Hg mp kb wb g S0 w0 s w∧er L sz np To ord To s∧(∀x∈ord,R x)∧rs.length≤ls.length∧∀i a,i<rs.length→ls[i]? =some a→(a=0∧rs[i]? =some 0)∨(∃z,s.f a=some z∧rs[i]? =some z)
theorem vg.more {s s':cV} {rs:List Nat} {a x:Nat} (ha:ls[rs.length]? =some a) (hs:∀y q,s.f y=some q→s'.f y=some q) (h:∀i a,i<rs.length→ls[i]? =some a→(a=0∧rs[i]? =some 0)∨(∃z,s.f a=some z∧rs[i]? =some z)) (hx:(a=0∧x=0)∨s'.f a=some x):
  (rs++[x]).length≤ls.length∧∀i a,i<(rs++[x]).length→ls[i]? =some a→(a=0∧(rs++[x])[i]? =some 0)∨(∃z,s'.f a=some z∧(rs++[x])[i]? =some z):=by
 have hl:=(List.getElem?_eq_some_iff.1 ha).1;rw [List.length_append,List.length_singleton];refine ⟨by omega,fun i c hi hc=> ?_⟩;rcases Nat.lt_or_ge i rs.length with h1|h1
 ·rw [List.getElem?_append_left h1];rcases h i c h1 hc with h2|⟨z,h2,h3⟩
  ·exact .inl h2
  ·exact .inr ⟨z,hs _ _ h2,h3⟩
 ·have:i=rs.length:=by omega
  subst this;rw [ha] at hc
  cases hc
  rw [List.getElem?_append_right (Nat.le_refl _),Nat.sub_self];rcases hx with ⟨h2,rfl⟩|h2
  ·exact .inl ⟨h2,rfl⟩
  ·exact .inr ⟨x,h2,rfl⟩
theorem rh (hR:sP L sz np To Li R) (hD:wK L sz np To Li R (aX W Pg mp)) (h0:vg m Pg W Fs Us Hg mp kb wb g S0 w0 L sz np To R ls [] w) (hr:aW w b g ls) (hls:∀a∈ls,a=0∨R a) (hg:g<w0.heap.size) (hb:b<w0.heap.size) (hSg:¬S0 g) (hSb:¬S0 b) (hk:kb≠g∧wb≠g∧kb≠b∧wb≠b):
  Calls Tryz.prog 145 #[b,.func (.func 146) #[.pointer (some ⟨kb,0,none⟩)] #[]] w (vC (vg m Pg W Fs Us Hg mp kb wb g S0 w0 L sz np To R ls) b g ls):=by
 refine iu 146 #[kb] #[] (enters_of Tryz.func146 (by kernel_rfl) rfl) _ hr h0 ?_ ?_ ?_
 ·rintro rs w1 w2 ⟨ord,s,q1,q2,q3,q4,q5⟩ hf;exact ⟨ord,s,q1.row hg hSg hk.1 hk.2.1 hf,q2,q3,q4,q5⟩
 ·rintro rs w1 ⟨ord,s,q1,q2,q3,q4,q5⟩ ha;obtain ⟨g1,g2⟩:=vg.more (s:=s) (s':=s) (ls:=ls) ha (fun _ _ h=>h) q5 (.inl ⟨rfl,rfl⟩);exact ⟨ord,s,q1,q2,q3,g1,g2⟩
 ·rintro rs a w1 hr1 ⟨ord,s,q1,q2,q3,q4,q5⟩ ha hne;obtain ⟨S,c1,c2,c3⟩:=q1.step;have htop:=q2.top;refine (vN hR hD ⟨c1,q2,q3⟩ (by omega) a (hls a (List.mem_of_getElem? ha))).mono ?_;rintro e w2 ⟨z,ord',s',rfl,⟨d1,d2,d3⟩,d4,d5,d6⟩;obtain ⟨g1,g2⟩:=vg.more (s:=s) (s':=s') (ls:=ls) ha d5 q5 d6;obtain ⟨S',f1,f2,f3⟩:=id d1;refine ⟨z,rfl,hr1.frame f2 (fun hh=> ?_) (fun hh=> ?_),ord',s',c3 s' w2 d1,d2,d3,g1,g2⟩
  ·rcases hh with hh|hh|hh
   ·rcases c2 _ hh with h9|h9
    ·first|exact hSb h9|exact hSg h9
    ·omega
   ·first|exact hk.2.2.1 hh.symm|exact hk.1 hh.symm
   ·first|exact hk.2.2.2 hh.symm|exact hk.2.1 hh.symm
  ·rcases hh with hh|hh|hh
   ·rcases c2 _ hh with h9|h9
    ·first|exact hSb h9|exact hSg h9
    ·omega
   ·first|exact hk.2.2.1 hh.symm|exact hk.1 hh.symm
   ·first|exact hk.2.2.2 hh.symm|exact hk.2.1 hh.symm
end
theorem kJ {w:World} {m Pg W Rm Us Hg:Nat} {S:Nat→Prop} {mp:Nat→Bool} {M:Nat→Nat} (h:bl w m S Pg W Rm Us Hg mp M) (a u:Nat) (hau:u≤a) (hu:u≤W):Calls Tryz.prog 144 #[m,.int .i64 a,.int .i64 u] w fun e w'=>e= .returned (.int .i64 0)∧Fr (fun _=>False) w w':=by
 obtain ⟨W1,hW1⟩:∃W1,w.alloc (.cells #[m] 112)=W1:=⟨_,rfl⟩;have hf1:Fr (fun _=>False) w W1:=by rw [←hW1];exact (Fr.refl _ w).alloc _
 have hb1:ak W1 w.heap.size [.pointer (some ⟨m,0,none⟩)] 112:=by rw [←hW1];exact ak.new w _ _
 have HN:=ae (bO (h.keep hf1));obtain ⟨p,g,vw,vt,vb,ws,tk,bk,Tm,x0,x1,c2,x3⟩:=(h.keep hf1).ptrs;have k0:=hb1.cell 0 rfl;have HF:=ae hf1;have d1:¬(a:Int)<0:=by omega
 have d2:¬(W:Int)<(u:Int):=by omega
 have d3:(u:Int)≤(a:Int):=by omega
 have n2:¬W<u:=by omega
 clear h hf1 hb1 x0 x1 x3 hu
 go_enter Tryz.func144,Tryz.ntmps144
 go_wp2_with fail
 refine (HN.out).mono ?_;rintro e w2 ⟨rfl,rfl⟩;clear HN;go_wp2;go_ret;exact ⟨rfl,HF.out⟩
end Go.Proofs.YthahbijbpinneaaGreatDoor
