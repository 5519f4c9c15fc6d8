import Derived.Test.YthahbijbpinneaaGreatDoorA4
import Derived.Test.YthahbijbpinneaaGreatDoorA11
import Derived.Test.YthahbijbpinneaaGreatDoorA14
import Derived.Test.YthahbijbpinneaaGreatDoorA15
set_option maxRecDepth 100000
set_option maxHeartbeats 8000000
set_option linter.all false
namespace Go.Proofs.YthahbijbpinneaaGreatDoor
open Go.RowKit
section
variable {m Pg W Fs Us Hg:Nat} {mp:Nat→Bool} {L:Nat→Nat} {S:Nat→Prop} {w w1:World}
theorem rO (h:bi m Pg W Fs Us Hg mp L S w) (a u:Nat) (hu:u≤W) (hin:∀q,a/Pg≤q→q≤(u-1)/Pg→a<u→mp q=true):Calls Tryz.prog 144 #[m,.int .i64 a,.int .i64 u] w fun e w'=>e= .returned (.int .i64 0)∧∃S' Hg',bi m Pg W Fs Us Hg' mp L S' w'∧Fr S w w'∧∀k,S' k→S k∨w.heap.size≤k:=by
 obtain ⟨M,h1,h2⟩:=h;rcases Nat.lt_or_ge a u with hau|hau
 ·have hc:cnt (bR mp) (a/Pg) ((u-1)/Pg+1)=0:=aD (fun i q1 q2=>by unfold bR;rw [hin i q1 (by omega) hau];rfl);refine (gK h1 a u hau hu (by rw [hc];exact h1.at.2.2.2.2.1)).mono ?_;rintro e w' ⟨rfl,S',Hg',mp',M',q1,q2,q3,q4,q5⟩;have he:mp'=mp:=by
   funext q;rw [q2];by_cases hq:a/Pg≤q∧q≤(u-1)/Pg
   ·rw [hin q hq.1 hq.2 hau];rfl
   ·have:(decide (a/Pg≤q)&&decide (q≤(u-1)/Pg))=false:=by rw [Bool.and_eq_false_iff,decide_eq_false_iff_not,decide_eq_false_iff_not];omega
    rw [this,Bool.or_false]
  rw [hc,Nat.add_zero,he] at q1;exact ⟨rfl,S',Hg',⟨M',q1,fun b hb=>by rw [q3 b hb.1 hb.2];exact h2 b hb⟩,q4,q5⟩
 ·refine (kJ h1 a u hau hu).mono ?_;rintro e w' ⟨rfl,hf⟩;exact ⟨rfl,S,Hg,⟨M,h1.keep hf,h2⟩,hf.mono (fun _ h=>h.elim),fun _ h=> .inl h⟩
def wS (EL:aI) (fl fh c5 c15 b g tb k:Nat):Prop:=EL.has k∨(fl≤k∧k<fh)∨k=c5∨k=c15∨k=b∨k=g∨k=aN∨k=tb
def pT (m Pg W Fs Us Hg:Nat) (mp:Nat→Bool) (L:Nat→Nat) (E np:Nat→Nat) (lo:Nat) (EL:aI) (fl fh p c5 c15 b g tb:Nat) (ls:List Nat) (pre:List (Nat×Nat)) (S:Nat→Prop) (w:World):Prop:=
 (∀k,S k→¬wS EL fl fh c5 c15 b g tb k)∧pre=(aO E W).take pre.length∧j6 EL tb W E w∧cB fl fh w p W 64 E lo∧ak w c5 [.pointer (some ⟨m,0,none⟩)] 112∧ak w c15 [.pointer (some ⟨p,0,none⟩)] 235∧aW w b g ls∧
  ∃Mc,bi m Pg W Fs Us Hg mp Mc S w∧wQ L (goes E lo) np (goes E lo) pre Mc
section
variable {E np:Nat→Nat} {lo fl fh p c5 c15 b g tb:Nat} {EL:aI} {ls:List Nat} {pre:List (Nat×Nat)} {T:Nat→Prop}
theorem pT.rest {R:Prop} (h:(∀k,S k→¬wS EL fl fh c5 c15 b g tb k)∧pre=(aO E W).take pre.length∧j6 EL tb W E w∧cB fl fh w p W 64 E lo∧ak w c5 [.pointer (some ⟨m,0,none⟩)] 112∧ak w c15 [.pointer (some ⟨p,0,none⟩)] 235∧aW w b g ls∧R) (hf:Fr T w w1) (hT:∀k,T k→¬wS EL fl fh c5 c15 b g tb k):
  j6 EL tb W E w1∧cB fl fh w1 p W 64 E lo∧ak w1 c5 [.pointer (some ⟨m,0,none⟩)] 112∧ak w1 c15 [.pointer (some ⟨p,0,none⟩)] 235∧aW w1 b g ls:=by
 obtain ⟨_,_,⟨q3,q4,q5⟩,q6,q7,q8,q9,_⟩:=h;refine ⟨⟨q3.frame hf (fun k hk ht=>hT k ht (.inl hk)),an q4 hf (fun ht=>hT _ ht (.inr (.inr (.inr (.inr (.inr (.inr (.inl rfl)))))))),q5.frame hf (fun ht=>hT _ ht (.inr (.inr (.inr (.inr (.inr (.inr (.inr rfl))))))))⟩,q6.frame hf (fun i hi=> ?_),q7.frame hf (fun ht=>hT _ ht (.inr (.inr (.inl rfl)))),q8.frame hf (fun ht=>hT _ ht (.inr (.inr (.inr (.inl rfl))))),q9.frame hf (fun ht=>hT _ ht (.inr (.inr (.inr (.inr (.inl rfl)))))) (fun ht=>hT _ ht (.inr (.inr (.inr (.inr (.inr (.inl rfl)))))))⟩;by_cases hx:fl≤i∧i<fh
 ·exact absurd (.inr (.inl hx)) (hT i hi)
 ·omega
theorem pT.stays {B:Nat} (hB:∀k,wS EL fl fh c5 c15 b g tb k→k<B):cq B (pT m Pg W Fs Us Hg mp L E np lo EL fl fh p c5 c15 b g tb ls):=by
 rintro pre S W1 W2 T h hf hT;have hr:=pT.rest h hf (fun k hk hx=>by have:=(hT k hk).1;have:=hB k hx;omega);obtain ⟨q1,q2,_,_,_,_,_,Mc,q8,q9⟩:=h;obtain ⟨r1,r2,r3,r4,r5⟩:=hr;exact ⟨q1,q2,r1,r2,r3,r4,r5,Mc,aR _ _ _ _ _ _ _ _ _ _ _ _ q8 hf (fun k hk ht=>(hT k ht).2 hk),q9⟩
theorem pT.move {ls0:List Nat} {G:Gr} {top s n:Nat} (h:pT m Pg W Fs Us Hg mp L E np lo EL fl fh p c5 c15 b g tb ls pre S w) (hx:(aO E W)[pre.length]? =some (s,n)) (hX:∀k,wS EL fl fh c5 c15 b g tb k→k<w.heap.size)
  (hG:cg G ls0 top) (hO:∀a,G.size a≠0→dy L (aX W Pg mp) G a) (hlo:∀a,G.size a≠0→lo≤a) (hlp:lo% Pg=0) (hp1:1≤Pg) (h1:1≤lo) (h2:lo≤top) (htop:top≤W) (hW:W≤524288) (hmp:∀q,mp q=(decide (lo≤q*Pg)&&decide (q*Pg<top)))
  (hL:∀a,G.size a≠0→∀i,i<G.size a→L (a+i)<18446744073709551616) (hE1:∀a,E a≠0↔Reach G ls0 a) (hE2:∀a,E a≠0→E a=G.size a∧G.size a≠0) (hU:lo+cnt (aj E) 0 W≤top) (hnp:∀a,np a=(G.ptrs a).length):
  Calls Tryz.prog 155 #[m,.pointer (some ⟨p,0,none⟩),.int .i64 s,.int .i64 n] w fun e w'=>e= .returned (.tuple #[])∧s8 (pT m Pg W Fs Us Hg mp L E np lo EL fl fh p c5 c15 b g tb ls) (pre++[(s,n)]) S w w':=by
 have hh:=h;obtain ⟨i1,i2,i3,i4,i5,i6,i7,Mc,i8,i9⟩:=h;obtain ⟨m1,m2,m3⟩:=bh.1 (List.mem_of_getElem? hx);dsimp only at m1 m2 m3;obtain ⟨e1,e2⟩:=hE2 s m2;obtain ⟨pp,f,g',o1,o2,o3,o4,o5⟩:=hO s e2;have hap:=i3.1.apart;have htops:=i3.1.top;have hpre:∀y∈pre,y.1<s∧y.2=E y.1∧E y.1≠0:=fun y hy=>by
  rw [i2] at hy;have h3:=bh.1 (List.mem_of_mem_take hy);exact ⟨eD hx hy,h3.2.2,h3.2.1⟩
 have hst:∀k,s≤k→Mc k=L k:=fun k hk=>i9.still k (fun y hy=>by
  obtain ⟨q1,q2,q3⟩:=hpre y hy;have:=hap y.1 s q1 q3 m2;omega)
 have hls:=hlo s e2;have hgd:goes E lo s≤s:=kA (fun a ha=>hlo a (hE2 a ha).2) hls;have hpl:np s=pp:=by rw [hnp,o3];simp
 have hzn:goes E lo s+n≤lo+cnt (aj E) 0 W:=by
  rw [m3,←iV (Nat.le_refl (E s))];exact eh (htops s m2)
 have hzl:lo≤goes E lo s:=by unfold goes;omega
 have hlq:lo=lo/Pg*Pg:=by have:=Nat.div_add_mod lo Pg;rw [Nat.mul_comm];omega
 have hfin:=fun Mc' S' w' (r1:bi m Pg W Fs Us Hg mp Mc' S' w') (r2:Fr S w w') (r3:∀k,S' k→S k∨w.heap.size≤k) (r4:wQ L (goes E lo) np (goes E lo) (pre++[(s,n)]) Mc')=>
  (let hr:=pT.rest hh r2 (fun k hk hx=>i1 k hk hx)
   (⟨S',⟨fun k hk hx2=>by
    rcases r3 k hk with h3|h3
    ·exact i1 k h3 hx2
    ·have:=hX k hx2;omega,ix i2 hx,hr.1,hr.2.1,hr.2.2.1,hr.2.2.2.1,hr.2.2.2.2,Mc',r1,r4⟩,r2,r3⟩:s8 (pT m Pg W Fs Us Hg mp L E np lo EL fl fh p c5 c15 b g tb ls) (pre++[(s,n)]) S w w'))
 refine (sa i8 i4 (fun j hj=>by
  by_cases hx2:fl≤j∧j<fh
  ·exact absurd (.inr (.inl hx2)) (i1 j hj)
  ·omega) (by omega) s n (goes E lo s) pp f g' (by omega) ⟨by rw [hst s (Nat.le_refl _)];exact o1.1,o1.2⟩ (by omega) (by omega) rfl hgd (by have:=htops s m2;omega) hW (fun j q1 q2=>⟨o4 j q1 (by omega),?_⟩) (fun j q1 q2=> ?_) (fun i q1 q2 q3=> ?_)).mono ?_
 ·rw [hst j q1];have:=hL s e2 (j-s) (by omega);rwa [show s+(j-s)=j by omega] at this
 ·refine ⟨by omega,?_⟩;rw [hmp,Bool.and_eq_true,decide_eq_true_eq,decide_eq_true_eq];have h6:=Nat.div_mul_le_self j Pg;have h7:=Nat.mul_le_mul_right Pg (Nat.div_le_div_right (c:=Pg) (show lo≤j by omega));omega
 ·rw [hst (s+i) (by omega)] at q3 ⊢;have h6:L (s+i)∈G.ptrs s:=by
   rw [o3];exact List.mem_map.2 ⟨i-1,List.mem_range.2 (by omega),by congr 1;omega⟩
  have h7:E (L (s+i))≠0:=(hE1 _).2 (.step ((hE1 s).1 m2) h6 q3);have h8:=gE (E:=E) (s:=L (s+i)) (i:=0) (by omega);have h9:=htops _ h7;exact ⟨by rwa [Nat.add_zero] at h8,by omega⟩
 ·rintro e w' ⟨rfl,S',r1,r2,r3⟩;refine ⟨rfl,hfin _ S' w' r1 r2 r3 ?_⟩;have h6:=i9.step (x:=(s,n)) (fun y hy=>by
   obtain ⟨q1,q2,q3⟩:=hpre y hy;have:=hap y.1 s q1 q3 m2;show y.1+y.2≤s
   omega) (fun y hy=>by
   obtain ⟨q1,q2,q3⟩:=hpre y hy;have:=hap y.1 s q1 q3 m2;show goes E lo y.1+y.2≤goes E lo s
   rw [q2,←iV (Nat.le_refl (E y.1))];exact eh this) hgd
  dsimp only at h6;rw [hpl] at h6;exact h6
end
def lV (m Pg W Fs:Nat) (mp:Nat→Bool) (Mc:Nat→Nat) (U:Nat) (S9:Nat→Prop) (w10:World) (q:Nat) (wr:World):Prop:=
 ∃Us Hg mpq S',bi m Pg W Fs Us Hg mpq Mc S' wr∧(∀r,mpq r=(mp r&& !(decide (r<q)&&decide (U≤r*Pg))))∧Fr S9 w10 wr∧∀k,S' k→S9 k∨w10.heap.size≤k
section
variable {Mc:Nat→Nat} {U q:Nat} {S9:Nat→Prop} {w10 wr:World}
theorem lV.Fh (h:lV m Pg W Fs mp Mc U S9 w10 q wr) (hf:Fr (fun _=>False) wr w1):lV m Pg W Fs mp Mc U S9 w10 q w1:=by
 obtain ⟨Us,Hg,mpq,S',h1,h2,h3,h4⟩:=h;exact ⟨Us,Hg,mpq,S',h1.keep hf,h2,h3.trans hf (fun _ h=>h.elim),h4⟩
theorem lV.pg (h:lV m Pg W Fs mp Mc U S9 w10 q wr):Calls Tryz.prog 148 #[m] wr fun e w'=>e= .returned (.int .i64 Pg)∧wr=w':=by
 obtain ⟨Us,Hg,mpq,S',⟨M,h1,_⟩,_⟩:=h;exact dv h1
theorem lV.skip (h:lV m Pg W Fs mp Mc U S9 w10 q wr) (hq:q*Pg<U):lV m Pg W Fs mp Mc U S9 w10 (q+1) wr:=by
 obtain ⟨Us,Hg,mpq,S',h1,h2,h3⟩:=h;refine ⟨Us,Hg,mpq,S',h1,fun r=> ?_,h3⟩;rw [h2];by_cases e:r=q
 ·subst e;rw [decide_eq_false (show¬U≤r*Pg by omega),Bool.and_false,Bool.and_false]
 ·congr 3
  rw [decide_eq_decide];omega
theorem lV.drop (h:lV m Pg W Fs mp Mc U S9 w10 q wr) (hq:U≤q*Pg) (hm:mp q=true) (hqW:q<W/Pg):Calls Tryz.prog 149 #[m,.int .i64 q] wr fun e w'=>e= .returned (.int .i64 0)∧lV m Pg W Fs mp Mc U S9 w10 (q+1) w':=by
 obtain ⟨Us,Hg,mpq,S',⟨M,h1,h5⟩,h2,h3,h4⟩:=h;refine (fD h1 q hqW (by rw [h2,hm,decide_eq_false (Nat.lt_irrefl q)];rfl)).mono ?_;rintro e w' ⟨rfl,S2,high2,M2,p1,p2,p3,p4⟩;have hz:=h3.size;refine ⟨rfl,Us-1,high2,_,S2,⟨M2,p1,fun b hb=> ?_⟩,fun r=> ?_,h3.trans p3 h4,fun k hk=> ?_⟩
 ·have hb2:mpq (b/Pg)=true:=by have:=hb.2;rw [Bool.and_eq_true] at this;exact this.1
  rw [p2 b hb.1 hb2 hb.2];exact h5 b ⟨hb.1,hb2⟩
 ·show (mpq r&& !(r==q))=_
  rw [h2];by_cases e:r=q
  ·subst e;rw [beq_self_eq_true,decide_eq_true (Nat.lt_succ_self r),decide_eq_true hq];simp
  ·rw [beq_eq_false_iff_ne.2 e,Bool.not_false,Bool.and_true];congr 3
   rw [decide_eq_decide];omega
 ·rcases p4 k hk with h6|h6
  ·exact h4 k h6
  ·exact .inr (by omega)
end
def wR (m b g Pg W Fs Us:Nat) (L:Nat→Nat) (S:Nat→Prop) (G:Gr) (ls:List Nat) (lo:Nat) (w:World) (e:Ending) (w':World):Prop:=
 ∃(E L':Nat→Nat) (S':Nat→Prop) (used' Hg':Nat) (mp':Nat→Bool),e= .returned (.tuple #[.int .i64 ((lo+cnt (aj E) 0 W:Nat):Int),.int .i64 0])∧bi m Pg W Fs used' Hg' mp' L' S' w'∧(∀q,mp' q=(decide (lo≤q*Pg)&&decide (q*Pg<lo+cnt (aj E) 0 W)))∧(∀a,E a≠0↔Reach G ls a)∧bU G ls E∧
  (∀a,E a≠0→∀i,i<E a→L' (goes E lo a+i)=gB L (goes E lo) a (G.ptrs a).length i)∧aW w' b g (ls.map (kN (goes E lo) id))∧bu w'∧(∀k,S' k→S k∨w.heap.size≤k)∧Fr (fun k=>S k∨k=g) w w'
attribute [local go_sem] Oper.semAt_some
theorem uE (d:Nat) {b g:Nat} {ls:List Nat} {G:Gr} (h:bi m Pg W Fs Us Hg mp L S w) (hr:aW w b g ls) (hT:bu w) (hSt:¬S aN) (hSr:¬S b∧¬S g) (lo top Rm:Nat) (hG:cg G ls top) (hO:∀a,G.size a≠0→dy L (aX W Pg mp) G a) (hlo:∀a,G.size a≠0→lo≤a) (h1:1≤lo) (h2:lo≤top) (htop:top≤W) (h4:1≤Rm) (h5:Rm≤4096)
  (hmp:∀q,mp q=(decide (lo≤q*Pg)&&decide (q*Pg<top))) (hlp:lo% Pg=0) (hLs:∀a,G.size a≠0→∀i,i<G.size a→L (a+i)<18446744073709551616) (hgt:g≠aN):
  CallsIn Fence.wide d Tryz.prog 74 #[m,.pointer (some ⟨b,0,none⟩),.int .i64 lo,.int .i64 top,.int .i64 Rm] w (wR m b g Pg W Fs Us L S G ls lo w):=by
 refine callsIn_of_wp_marks Tryz.func74 rfl trivial ?_ rfl;simp only [Tryz.ntmps74,List.size_toArray,List.length_cons,List.length_nil,Nat.reduceAdd,Nat.reduceSub,Array.replicate_succ,Array.replicate_zero,List.push_toArray,List.append_toArray,List.nil_append,List.cons_append];obtain ⟨W1,hW1⟩:∃W1,w.alloc (.cells #[m] 112)=W1:=⟨_,rfl⟩;have hf1:Fr (fun _=>False) w W1:=by rw [←hW1];exact (Fr.refl _ w).alloc _
 have hb1:ak W1 w.heap.size [.pointer (some ⟨m,0,none⟩)] 112:=by rw [←hW1];exact ak.new w _ _
 have hi1:=h.keep hf1;have hr1:=hr.frame hf1 (fun h=>h) (fun h=>h);have hT1:=an hT hf1 (fun h=>h);have HCK:=ae (pA (M:=hi1.choose) hi1.choose_spec.1 hr1 lo top Rm h1 h2 htop h4 h5);have HRE:=ae (lO hi1 hr1 hT1 hSt lo top Rm hG hO hlo htop h4 h5);have k0:=hb1.cell 0 rfl;gi_wp2;refine bt ((HCK.out).mono ?_);rintro e w2 ⟨rfl,rfl⟩;clear HCK;gi_wp2;refine bt ((HRE.out).mono ?_);rintro e w2 ⟨EL,E,S2,rfl,p1,p2,p3,p5,p6,p7,p8,p9⟩;clear HRE;have hsm:=p5.small;have htl:aN<w.heap.size:=aE (hT 0 0 rfl);have hz1:W1.heap.size=w.heap.size+1:=by rw [←hW1];exact Array.size_push _
 have hnS:¬S w.heap.size:=fun hh=>by have:=(aF m Pg W Fs Us Hg mp).lt _ _ _ h _ hh;omega
 have hb2:=hb1.frame p9 hnS;have hT2:=an hT1 p9 hSt;have HFN:=ae (ql (d-1) (k:=64) p5 hT2 (by decide) (by decide) (by decide) lo (by omega));have HB2:=ae hb2;rw [show ((64:Nat):Int)=64 from rfl] at HFN;clear k0;gi_wp2;refine ⟨trivial,(fun h=>by cases h),(HFN.out).mono ?_⟩;rintro e w3 ⟨p,rfl,q1,q2⟩;have HB3:=ae (HB2.out.frame q2 (fun h=>h));clear HFN HB2 hb2;obtain ⟨W4,hW4⟩:∃W4,w3.alloc (.cells #[p] 235)=W4:=⟨_,rfl⟩;have hf4:Fr (fun _=>False) w3 W4:=by rw [←hW4];exact (Fr.refl _ w3).alloc _
 have hc4:ak W4 w3.heap.size [.pointer (some ⟨p,0,none⟩)] 235:=by rw [←hW4];exact ak.new w3 _ _
 have HC4:=ae hc4;have HF4:=ae hf4;clear hf4 hc4;have hz3:=q2.size;obtain ⟨U,hU⟩:∃U:Nat,U=lo+cnt (aj E) 0 W:=⟨_,rfl⟩;have hlen:cnt (aj E) 0 W≤1048576:=bx hsm.2;have hW5:W≤524288:=by obtain ⟨M,hh,_⟩:=p1;exact hh.at.2.2.1
 have hp1:1≤Pg:=by obtain ⟨M,hh,_⟩:=p1;exact hh.at.1
 have hEG:∀a,E a≠0→E a=G.size a∧G.size a≠0:=fun a ha=>⟨(p7 a ha).2,by rw [←(p7 a ha).2];exact ha⟩
 have hUt:U≤top:=by
  rw [hU];have e1:goes E lo W=lo+cnt (aj E) 0 W:=rfl;have e2:goes E lo W=goes E lo top:=by
   unfold goes;rw [aw (aj E) (Nat.zero_le top) htop,aD (a:=top) (b:=W) (fun i q1 _=>by
    rw [Bool.eq_false_iff];intro hl;obtain ⟨s,s1,s2⟩:=aQ.1 hl;have:=hEG s (by omega);have:=hG.top s this.2;omega),Nat.add_zero]
  have e3:=kA (E:=E) (Ba:=lo) (a:=top) (fun s hs=>hlo s (hEG s hs).2) h2;omega
 have HTOP:=ae (fun w' (hf:Fr (fun _=>False) W4 w')=>ef (q1.keep (HF4.out.trans hf (fun _ h=>h.elim))) (by omega));rw [←hU] at HTOP;have HND:=ae (fun w' (hf:Fr (fun _=>False) W4 w')=>rO (p1.keep (((q2.trans HF4.out (fun _ h=>h.elim))).trans hf (fun _ h=>h.elim))) lo U (by omega) (fun q a1 a2 a3=>by
  rw [hmp,Bool.and_eq_true,decide_eq_true_eq,decide_eq_true_eq];have h6:q*Pg≤U-1:=Nat.le_trans (Nat.mul_le_mul_right Pg a2) (Nat.div_mul_le_self _ _);have h7:lo=lo/Pg*Pg:=by have:=Nat.div_add_mod lo Pg;rw [Nat.mul_comm];omega
  have h8:=Nat.mul_le_mul_right Pg a1;omega))
 have HC:=ae (fun w' (hf:Fr (fun _=>False) W4 w')=>af ((HB3.out.frame (HF4.out.trans hf (fun _ h=>h.elim)) (fun h=>h)).cell 0 rfl) ((HC4.out.frame hf (fun h=>h)).cell 0 rfl));have HA1:=ae (af p1 (af p2 (af p3 (af p5 (af p6 (af p7 (af p8 p9)))))));have HA2:=ae (af q1 (af q2 (af hT2 (af hr1 (af hf1 (af hEG (af hU hUt)))))));have HA3:=ae (af h (af hG (af hO (af hlo (af hmp (af hlp (af hLs hgt)))))));have HA4:=ae (af hSt (af hSr (af hnS (af htl (af hz1 (af hz3 (af hp1 (af h1 (af h2 htop)))))))));have HA5:=ae (af hsm (af hW5 hlen));have HA6:=ae (af hr hT);clear p1 p2 p3 p5 p6 p7 p8 p9 q1 q2 hT2 hr1 hf1 hEG hU hUt h hG hO hlo hmp hlp hLs hgt hSt hSr hnS htl hz1 hz3 hp1 h1 h2 htop hsm hW5 hlen hr hT h4 h5 hi1 hT1 hb1 hW1;gi_wp2;clear hW4;refine wpIn_wide.2 ?_;refine aB (fun w'=>Fr (fun _=>False) W4 w') 4 (by kernel_rfl) (by kernel_rfl) ((Fr.refl _ W4).drew) ?_;simp only [List.take_succ_cons,List.take_zero,List.drop_succ_cons,List.drop_zero];refine ag (.pointer (some ⟨m,0,none⟩)) rfl (fun w' hw=>by obtain ⟨k1,k2⟩:=HC.out w' hw;go_simp) ?_;simp only [Act.put,aa,ab,ac];refine ag (.int .i64 lo) rfl (fun w' hw=>by go_simp) ?_;simp only [Act.put,aa,ab,ac];refine ag (.pointer (some ⟨p,0,none⟩)) rfl (fun w' hw=>by obtain ⟨k1,k2⟩:=HC.out w' hw;go_simp) ?_;simp only [Act.put,aa,ab,ac];refine aA (.int .i64 U) 153 #[p] rfl (fun w'=>by go_simp) (fun w' hw=>(HTOP.out w' hw).mono fun e w2 h=>⟨h.1,hw.trans h.2 (fun _ h=>h.elim)⟩) ?_;simp only [Act.put,aa,ab,ac];refine wpQuiet_nil ?_;intro w5 hw5;have HN5:=ae (HND.out w5 hw5);have HF5:=ae hw5;clear HND hw5 HTOP;go_wp2_with fail
 refine (HN5.out).mono ?_;rintro e w6 ⟨rfl,S6,high6,n1,n2,n3⟩;have HA:=ae (dB EL.m w6);have HN6:=ae (af n1 (af n2 n3));clear n1 n2 n3 HN5;go_wp2;gi_wp2;refine bt ((HA.out).mono ?_);rintro e W7 ⟨rfl,hW7⟩;have hf7:Fr (fun _=>False) w6 W7:=by rw [hW7];exact (Fr.refl _ w6).alloc _
 have htb:ak W7 w6.heap.size [.pointer (some ⟨EL.m,0,none⟩)] 132:=by rw [hW7];exact ak.new w6 _ _
 have hz7:W7.heap.size=w6.heap.size+1:=by rw [hW7];exact Array.size_push _
 clear hW7 HA;obtain ⟨np,hnp⟩:∃np:Nat→Nat,∀a,np a=(G.ptrs a).length:=⟨_,fun _=>rfl⟩;obtain ⟨p1,p2,p3,p5,p6,p7,p8,p9⟩:=HA1.out;obtain ⟨q1,q2,hT2,hr1,hf1,hEG,hU,hUt⟩:=HA2.out;obtain ⟨h,hG,hO,hlo,hmp,hlp,hLs,hgt⟩:=HA3.out;obtain ⟨hSt,hSr,hnS,htl,hz1,hz3,hp1,h1,h2,htop⟩:=HA4.out;obtain ⟨hsm,hW5,hlen⟩:=HA5.out;obtain ⟨hr,hT⟩:=HA6.out;obtain ⟨n1,n2,n3⟩:=HN6.out;have hrb:=hr.blk.lt;have hrg:=hr.row.lt;have hS2:=(aF m Pg W Fs Us Hg mp).lt _ _ _ p1;have hS6:=(aF m Pg W Fs Us high6 mp).lt _ _ _ n1;have hzf4:=HC4.out.lt;have hz5:=HF5.out.size;have hz6:=n2.size;have hz9:=p9.size;have hELt:=p5.lt;have hX6:∀k,wS EL w2.heap.size w3.heap.size w.heap.size w3.heap.size b g w6.heap.size k→k<W7.heap.size:=by
  rintro k (h|h|h|h|h|h|h|h)
  ·have:=hELt k h;omega
  all_goals omega
 have hd6:∀k,S6 k→¬wS EL w2.heap.size w3.heap.size w.heap.size w3.heap.size b g w6.heap.size k:=by
  intro k hk hx;have hk6:=hS6 k hk;rcases n3 k hk with hk2|hk2
  ·have hk3:=hS2 k hk2;rcases hx with h|h|h|h|h|h|h|h
   ·exact p3 k hk2 h
   ·omega
   ·rcases p2 k hk2 with h4|h4
    ·exact hnS (h▸h4)
    ·omega
   ·omega
   ·rcases p2 k hk2 with h4|h4
    ·exact hSr.1 (h▸h4)
    ·omega
   ·rcases p2 k hk2 with h4|h4
    ·exact hSr.2 (h▸h4)
    ·omega
   ·rcases p2 k hk2 with h4|h4
    ·exact hSt (h▸h4)
    ·omega
   ·omega
  ·rcases hx with h|h|h|h|h|h|h|h
   ·have:=hELt k h;omega
   all_goals omega
 have hf46:Fr S2 W4 w6:=(HF5.out.mono (fun _ h=>h.elim)).trans n2 (fun k h=> .inl h);have hf27:Fr S2 w2 W7:=(((q2.trans HF4.out (fun _ h=>h.elim)).mono (fun _ h=>h.elim)).trans hf46 (fun k h=> .inl h)).trans hf7 (fun _ h=>h.elim);have hf37:Fr S2 w3 W7:=((HF4.out.mono (fun _ h=>h.elim)).trans hf46 (fun k h=> .inl h)).trans hf7 (fun _ h=>h.elim);have hf47:Fr S2 W4 W7:=hf46.trans hf7 (fun _ h=>h.elim);have hn2:∀k,w.heap.size≤k→k≠w.heap.size→S2 k→W1.heap.size≤k:=fun k h _ _=>by omega
 have hS2b:¬S2 b∧¬S2 g∧¬S2 aN∧¬S2 w.heap.size:=by
  refine ⟨fun h=> ?_,fun h=> ?_,fun h=> ?_,fun h=> ?_⟩
  ·rcases p2 _ h with h4|h4
   ·exact hSr.1 h4
   ·omega
  ·rcases p2 _ h with h4|h4
   ·exact hSr.2 h4
   ·omega
  ·rcases p2 _ h with h4|h4
   ·exact hSt h4
   ·omega
  ·rcases p2 _ h with h4|h4
   ·exact hnS h4
   ·omega
 have hI0:pT m Pg W Fs Us high6 mp L E np lo EL w2.heap.size w3.heap.size p w.heap.size w3.heap.size b g w6.heap.size ls [] S6 W7:=
  ⟨hd6,rfl,⟨p5.frame hf27 (fun k hk hs=>p3 k hs hk),an hT2 hf27 hS2b.2.2.1,htb⟩,q1.frame hf37 (fun i hi=> .inl (hS2 i hi)),HB3.out.frame hf37 hS2b.2.2.2,HC4.out.frame hf47 (fun hs=>by have:=hS2 _ hs;omega),(hr1.frame p9 hSr.1 hSr.2).frame hf27 hS2b.1 hS2b.2.1,L,n1.keep hf7,wQ.none _ _ _ _⟩
 have HU2:=ae hU;rw [hU] at hUt;have HMV:=ae (fun (pre:List (Nat×Nat)) S9 s n w9 (hj:pT m Pg W Fs Us high6 mp L E np lo EL w2.heap.size w3.heap.size p w.heap.size w3.heap.size b g w6.heap.size ls pre S9 w9) (hx:(aO E W)[pre.length]? =some (s,n)) (hz:W7.heap.size≤w9.heap.size)=>
  pT.move hj hx (fun k hk=>by have:=hX6 k hk;omega) hG hO hlo hlp hp1 h1 h2 htop hW5 hmp hLs p6 hEG hUt hnp)
 have HW7:=ae (af hf27 (af hf37 (af hf47 (af hX6 (af hnp (af hS2b (af hrb (af hrg (af hz7 (af hz5 (af hz6 (af hz9 hzf4))))))))))));have hsm2:=hsm.2;clear p1 p2 p3 p5 p6 p7 p8 p9 q1 q2 hT2 hr1 hf1 hEG hU hUt h hG hO hlo hmp hlp hLs hgt hSt hSr hnS htl hz1 hz3 hp1 h1 h2 htop hsm hW5 hlen hr hT n1 n2 n3 hrb hrg hS2 hzf4 hz5 hz6 hz9 hELt hd6 hf46 hf27 hf37 hf47 hn2 hS2b hf7 htb hnp;gi_wp2;refine df (gf:=220) (lb:= #[w6.heap.size]) rfl (enters_of Tryz.func220 (by kernel_rfl) rfl) (encs:=fM) (fun _=>rfl) (dz (L:=EL) (tb:=w6.heap.size) (E:=E) hsm2) (pT m Pg W Fs Us high6 mp L E np lo EL w2.heap.size w3.heap.size p w.heap.size w3.heap.size b g w6.heap.size ls) S6 (pT.stays hX6) (fun _ _ _ h=>h.2.2.1) (fun k hk=>by have:=hS6 k hk;omega) hI0
  ?a1 ?assign ?body ?done
 case assign=>
  intro k x W K hK;unfold fM;gi_wp2;exact hK
 case body=>
  intro l pre S9 x W9 hI hlen hf hs;obtain ⟨s,n⟩:=x;have HM:=ae (HMV.out pre S9 s n W9 hI hlen hf.size);have c5:=hI.2.2.2.2.1.cell 0 rfl;have c15:=hI.2.2.2.2.2.1.cell 0 rfl;clear hf hs hI hlen hI0 HMV hX6 hS6 hz7;gi_wp2;refine mu ((HM.out).mono ?_);rintro e w10 ⟨rfl,hr⟩;have HR:=ae hr;clear hr HM c5 c15;gi_wp2;exact HR.out
 case done=>
  intro D S9 W9 hI hD hlt hns hf hs;clear HMV hI0;obtain ⟨p1,p2,p3,p5,p6,p7,p8,p9⟩:=HA1.out;obtain ⟨q1,q2,hT2,hr1,hf1,hEG,hU,hUt⟩:=HA2.out;obtain ⟨h,hG,hO,hlo,hmp,hlp,hLs,hgt⟩:=HA3.out;obtain ⟨hSt,hSr,hnS,htl,hz1,hz3,hp1,h1,h2,htop⟩:=HA4.out;obtain ⟨hsm,hW5,hlen⟩:=HA5.out;obtain ⟨g1,g2,g3,g4,hnp,g6,hrb,hrg,_,g7,g8,g9,g10⟩:=HW7.out;obtain ⟨hr,hT⟩:=HA6.out;have hmf:∀(fn:Fn) (first cap:Array Value) (w:World),(Instr.makeFunc fn first cap).run Tryz.prog w= .ok (.func fn first cap) w:=fun _ _ _ _=>rfl
  have hzw:=hf.size;obtain ⟨i1,i2,⟨i3,i31,i32⟩,i4,i5,i6,i7,Mc,i8,i9⟩:=hI;have hgfl:∀k,k=g→k<w2.heap.size∨w3.heap.size≤k:=fun k hk=>by omega
  have hfinT:∀rs:List Nat,rs.length=ls.length→rs=(ls.take rs.length).map (kN (goes E lo) id)→rs=ls.map (kN (goes E lo) id):=fun rs e1 e2=>by
   rw [e2,e1,List.take_length]
  have HTU:=ae (iu 156 #[] #[w3.heap.size] (enters_of Tryz.func156 (by kernel_rfl) rfl) (fun rs w'=>rs=(ls.take rs.length).map (kN (goes E lo) id)∧Fr (fun k=>k=g) W9 w') i7 ⟨rfl,Fr.refl _ _⟩
   (fun rs wa wb ⟨j1,j2⟩ hfr=>⟨j1,j2.trans hfr (fun _ h=> .inl h)⟩)
   (fun rs wa ⟨j1,j2⟩ hz=>⟨by
    have hlt:=(List.getElem?_eq_some_iff.1 hz).1;rw [List.length_append,List.length_singleton,List.take_add_one,hz];rw [List.map_append,←j1];rfl,j2⟩)
   (fun rs a wa hrt ⟨j1,j2⟩ ha h0=>by
    have hmem:=List.mem_of_getElem? ha;have hEa:E a≠0:=(p6 a).2 (.root hmem h0);have hla:=gE (E:=E) (s:=a) (i:=0) (by omega);rw [Nat.add_zero] at hla;have htopa:=p5.top a hEa;refine (wv (i4.frame j2 hgfl) (by omega) w3.heap.size a (i6.frame j2 (fun e=>by omega)) hla (by omega)).mono ?_;rintro e wb ⟨rfl,hfb⟩;refine ⟨goes E lo a,rfl,hrt.frame hfb (fun h=>h) (fun h=>h),?_,j2.trans hfb (fun _ h=>h.elim)⟩;rw [List.length_append,List.length_singleton,List.take_add_one,ha,List.map_append,←j1];show _=rs++[kN (goes E lo) id a]
    unfold kN;rw [if_neg h0];rfl))
  have hnX:∀k,wS EL w2.heap.size w3.heap.size w.heap.size w3.heap.size b g w6.heap.size k→¬S9 k:=fun k hx hk=>i1 k hk hx
  have hS9:=(aF m Pg W Fs Us high6 mp).lt _ _ _ i8;have HB:=ae (fun (w10:World) (q:Nat) (wr:World) (hf10:Fr (fun k=>k=g) W9 w10) (hu:lV m Pg W Fs mp Mc U S9 w10 q wr)=>
   (let hfu:Fr S9 w10 wr:=hu.choose_spec.choose_spec.choose_spec.choose_spec.2.2.1
    af (((i5.frame hf10 (fun e=>by omega)).frame hfu (hnX _ (.inr (.inr (.inl rfl))))).cell 0 rfl) (af (((i6.frame hf10 (fun e=>by omega)).frame hfu (hnX _ (.inr (.inr (.inr (.inl rfl)))))).cell 0 rfl)
    (ef (((i4.frame hf10 hgfl)).frame hfu (fun i hi=>by
     by_cases hx:w2.heap.size≤i∧i<w3.heap.size
     ·exact absurd hi (hnX i (.inr (.inl hx)))
     ·omega)) (by omega)))))
  rw [←hU] at HB;have HU0:Hid (∀w10,Fr (fun k=>k=g) W9 w10→lV m Pg W Fs mp Mc U S9 w10 (lo/Pg) w10):=by
   show∀w10,_
   intro w10 hf10;refine ⟨Us,high6,mp,S9,aR _ _ _ _ _ _ _ _ _ _ _ _ i8 hf10 (fun k hk e=>hnX g (.inr (.inr (.inr (.inr (.inr (.inl rfl)))))) (e▸hk)),fun r=> ?_,Fr.refl _ _,fun _ h=> .inl h⟩;by_cases e:r<lo/Pg
   ·have h6:mp r=false:=by
     rw [hmp,Bool.and_eq_false_iff,decide_eq_false_iff_not];left;have:=(Nat.lt_div_iff_mul_lt (show 0<Pg by omega)).1 e;have h7:r*Pg<lo:=by
      have h8:lo=lo/Pg*Pg:=by have:=Nat.div_add_mod lo Pg;rw [Nat.mul_comm];omega
      rw [h8];exact Nat.mul_lt_mul_of_pos_right e (by omega)
     omega
    rw [h6];rfl
   ·rw [decide_eq_false e];simp
  have HMPQ:=ae (fun q (a1:lo/Pg≤q) (a2:q*Pg<top)=>(show mp q=true∧q<W/Pg from by
   have h8:lo=lo/Pg*Pg:=by have:=Nat.div_add_mod lo Pg;rw [Nat.mul_comm];omega
   have h9:=Nat.mul_le_mul_right Pg a1;refine ⟨by rw [hmp,decide_eq_true (show lo≤q*Pg by omega),decide_eq_true a2];rfl,?_⟩;obtain ⟨M8,hh,_⟩:=i8;have hWp:=hh.at.2.2.2.1;exact (Nat.lt_div_iff_mul_lt' ⟨W/Pg,by have:=Nat.div_add_mod W Pg;omega⟩ q).2 (by rw [Nat.mul_comm];omega)))
  have HD1:=ae (fun (w10:World) (q:Nat) (wr:World) (hf10:Fr (fun k=>k=g) W9 w10) (hu:lV m Pg W Fs mp Mc U S9 w10 q wr)=>
   (let hfu:Fr S9 w10 wr:=hu.choose_spec.choose_spec.choose_spec.choose_spec.2.2.1
    (hfu.heap (hf10.heap hD (fun e=>by omega)) hns:wr.heap[D]? =some (Obj.deferred (some [])))))
  have HFT:=ae hfinT;have HEND:Hid (∀(w10 w11:World) rs q,rs.length=ls.length→aW w10 b g rs→rs=(ls.take rs.length).map (kN (goes E lo) id)→Fr (fun k=>k=g) W9 w10→lo/Pg≤q→top≤q*Pg→lV m Pg W Fs mp Mc U S9 w10 q w11→wR m b g Pg W Fs Us L S G ls lo w (.returned (.tuple #[.int .i64 U,.int .i64 0])) (w11.putObj D (.deferred none))):=by
   show∀(w10 w11:World) rs q,_
   intro w10 w11 rs q a1 a2 a3 a4 aq a5 ⟨used',Hg',mpq,S',u1,u2,u3,u4⟩;have hDl:D<w11.heap.size:=(Array.getElem?_eq_some_iff.1 (u3.heap (a4.heap hD (fun e=>by omega)) hns)).1;have hS':¬S' D:=fun hh=>by
    rcases u4 D hh with h6|h6
    ·exact hns h6
    ·have:=(Array.getElem?_eq_some_iff.1 (a4.heap hD (fun e=>by omega))).1;omega
   have hfD:Fr (fun k=>k=D) w11 (w11.putObj D (.deferred none)):=(Fr.refl _ w11).putObj _ _ (.inl rfl);have hz10:=a4.size;refine ⟨E,Mc,S',used',Hg',mpq,by rw [hU],aR _ _ _ _ _ _ _ _ _ _ _ _ u1 hfD (fun k hk e=>hS' (e▸hk)),fun r=> ?_,p6,p7,fun a ha i hi=> ?_,?_,?_,fun k hk=> ?_,?_⟩
   ·rw [u2,hmp,←hU];by_cases e:r<q
    ·rw [decide_eq_true e,Bool.true_and];by_cases e2:U≤r*Pg
     ·rw [decide_eq_true e2,decide_eq_false (show¬r*Pg<U by omega)];simp
     ·rw [decide_eq_false e2,decide_eq_true (show r*Pg<U by omega),decide_eq_true (show r*Pg<top by omega)];simp
    ·have h6:=Nat.mul_le_mul_right Pg (show q≤r by omega);rw [decide_eq_false e,decide_eq_false (show¬r*Pg<top by omega),decide_eq_false (show¬r*Pg<U by omega)];simp
   ·have h6:=i9.went (a,E a) (by
     have h7:(a,E a)∈aO E W:=bh.2 ⟨by have:=p5.top a ha;omega,ha,rfl⟩;exact h7) i hi
    dsimp only at h6;rw [hnp] at h6;exact h6
   ·rw [←hfinT rs a1 a3];exact (a2.frame u3 (hnX _ (.inr (.inr (.inr (.inr (.inl rfl)))))) (hnX _ (.inr (.inr (.inr (.inr (.inr (.inl rfl)))))))).frame hfD (fun e=>by omega) (fun e=>by omega)
   ·exact an (an (an i31 a4 (fun e=>hgt e.symm)) u3 (hnX _ (.inr (.inr (.inr (.inr (.inr (.inr (.inl rfl))))))))) hfD (fun e=>by unfold aN at htl;omega)
   ·rcases u4 k hk with h6|h6
    ·rcases hs k h6 with h7|h7
     ·rcases (HN6.out.2.2) k h7 with h8|h8
      ·rcases p2 k h8 with h9|h9
       ·exact .inl h9
       ·exact .inr (by omega)
      ·exact .inr (by omega)
     ·exact .inr (by omega)
    ·exact .inr (by omega)
   ·have f1:Fr S w w6:=(((hf1.mono (fun _ h=>h.elim)).trans p9 (fun k h=> .inl h)).trans q2 (fun _ h=>h.elim)).trans ((HF4.out.mono (S':=S2) (fun _ h=>h.elim)).trans ((HF5.out.mono (S':=S2) (fun _ h=>h.elim)).trans HN6.out.2.1 (fun k h=> .inl h)) (fun k h=> .inl h)) (fun k h=>by
     rcases p2 k h with h9|h9
     ·exact .inl h9
     ·exact .inr (by omega))
    have f2:Fr S w W7:=by
     have:Fr S2 w2 W7:=g1;exact (((hf1.mono (S':=S) (fun _ h=>h.elim)).trans p9 (fun k h=> .inl h))).trans this (fun k h=>by
      rcases p2 k h with h9|h9
      ·exact .inl h9
      ·exact .inr (by omega))
    have f3:Fr S w W9:=f2.trans hf (fun k h=>by
     rcases HN6.out.2.2 k h with h8|h8
     ·rcases p2 k h8 with h9|h9
      ·exact .inl h9
      ·exact .inr (by omega)
     ·exact .inr (by omega))
    refine (((f3.mono (S':=fun k=>S k∨k=g) (fun k h=> .inl (.inl h))).trans a4 (fun k h=> .inl (.inr h))).trans u3 (fun k h=> ?_)).trans hfD (fun k h=> .inr (by omega));rcases hs k h with h7|h7
    ·rcases HN6.out.2.2 k h7 with h8|h8
     ·rcases p2 k h8 with h9|h9
      ·exact .inl (.inl h9)
      ·exact .inr (by omega)
     ·exact .inr (by omega)
    ·exact .inr (by omega)
  have b1:(lo:Int)≤524288:=by omega
  have b2:(Pg:Int)≤524288:=by have:=i8.choose_spec.1.at.2.1;omega
  have b3:(top:Int)≤524288:=by omega
  have b4:Pg≤256:=i8.choose_spec.1.at.2.1;have htW:top≤524288:=by omega
  have hqlo:lo/Pg≤W:=Nat.le_trans (Nat.div_le_self _ _) (by omega);have hdv:(lo:Int).tdiv (Pg:Int)=((lo/Pg:Nat):Int):=bV _ _;have hkz:¬Pg=0:=by omega
  have hWW:W/Pg≤W:=Nat.div_le_self _ _;generalize lo/Pg=A at HU0 HMPQ HEND hqlo hdv;clear p1 p2 p3 p5 p6 p7 p8 p9 q1 q2 hT2 hr1 hf1 hEG hU hUt h hG hO hlo hmp hlp hLs hgt hSt hSr hnS htl hz1 hz3 hp1 h1 h2 htop hsm hlen g1 g2 g3 g4 hnp g6 hrb hrg g7 g8 g9 g10 hr hT i1 i2 i3 i31 i32 i4 i5 i6 i7 i8 i9 hgfl hfinT hnX hS9 hS6 hX6 hD hlt hns hf hs hz7 hzw hsm2 HA1 HA2 HA3 HA4 HA5 HA6 HN6 HW7 HB3 HC4 HF4 HF5 HC HU2;gi_wp2;refine bt ((HTU.out).mono ?_);rintro e w10 ⟨rfl,rs,hrl,hrt,hrs,hf10⟩;have hu0:=HU0.out w10 hf10;have HP0:=ae hu0.pg;obtain ⟨k1,k2,_⟩:=HB.out w10 _ w10 hf10 hu0;have HB1:=ae (fun q wr hu=>HB.out w10 q wr hf10 hu);have HE1:=ae (fun w11 q aq a5 hu=>HEND.out w10 w11 rs q hrl hrt hrs hf10 aq a5 hu);have HD2:=ae (fun q wr hu=>HD1.out w10 q wr hf10 hu);have HU1:=ae hu0;clear hu0 hrl hrt hrs hf10 HB HEND HD1 HU0 HTU HFT hmf;gi_wp2;refine bt ((HP0.out).mono ?_);rintro e w' ⟨rfl,rfl⟩;clear HP0 k1 k2;gi_wp2
  gi_loopw [20] (fun x wr=>∃q:Nat,x= .int .i64 q∧A≤q∧q≤W∧Hid (lV m Pg W Fs mp Mc U S9 w10 q wr)) (fun x _=>(W+1-intOf x).toNat)
  case atStart=>exact ⟨A,by go_num,Nat.le_refl _,hqlo,HU1⟩
  case round=>
   clear HU1;obtain ⟨q,rfl,hq1,hq2,hr⟩:=hrel;obtain ⟨k1,k2,hT⟩:=HB1.out q wr hr.out;have HP1:=ae hr.out.pg;have hX:q*Pg≤134217728:=Nat.le_trans (Nat.mul_le_mul hq2 b4) (by omega);have hXX:(q:Int)*(Pg:Int)=((q*Pg:Nat):Int):=by push_cast;rfl
   have hw:IntKind.i64.wrap ((q:Int)*(Pg:Int))=((q*Pg:Nat):Int):=by rw [hXX,IntKind.wrap_i64];omega
   have HDR:=ae (fun (w1:World) (hf:Fr (fun _=>False) wr w1) h hm hq=>lV.drop (q:=q) (hr.out.Fh hf) h hm hq);have HMQ:=ae (fun h=>HMPQ.out q hq1 h);have HEQ:=ae (fun h (w7:World) (hf:Fr (fun _=>False) wr w7)=>af (HE1.out w7 q hq1 h (hr.out.Fh hf)) (HD2.out q w7 (hr.out.Fh hf)));have HSF:=ae (fun h (w7:World) (hf:Fr (fun _=>False) wr w7)=>(lV.skip (q:=q) hr.out h).Fh hf);have HT:=ae hT;have HFS:=ae (fun (w1:World) (hf:Fr (fun _=>False) wr w1)=>af (af (HB1.out q w1 (hr.out.Fh hf)).1 (HB1.out q w1 (hr.out.Fh hf)).2.1) (af (HB1.out q w1 (hr.out.Fh hf)).2.2 (hr.out.Fh hf).pg));have hq3:(q:Int)≤524288:=by omega
   obtain ⟨X,hXe⟩:∃X,X=q*Pg:=⟨_,rfl⟩;have HXE:=ae hXe;rw [←hXe] at hw HSF HDR HMQ HEQ hX;clear hr hT hXX hXe HB1 HE1 HD2 HMPQ;gi_wp2;refine bt ((HP1.out).mono ?_);rintro e w' ⟨rfl,rfl⟩;clear HP1;by_cases hlt:X<top
   ·have c1:(X:Int)<(top:Int):=by omega
    obtain ⟨mq1,mq2⟩:=HMQ.out hlt;have hqW:q<W:=by omega
    clear HEQ HMQ;gi_wp2;refine wpIn_wide.2 ?_;refine ar (fun w'=>Fr (fun _=>False) wr w') (by kernel_rfl) (by kernel_rfl) ((Fr.refl _ wr).drew) ?_;refine ag (.int .i64 q) rfl (fun w' hw=>by go_simp) ?_;simp only [Act.put,aa,ab,ac];refine ag (.pointer (some ⟨m,0,none⟩)) rfl (fun w' hw=>by obtain ⟨⟨k1,k2⟩,k3⟩:=HFS.out w' hw;go_simp) ?_;simp only [Act.put,aa,ab,ac];refine aA (.int .i64 Pg) 148 #[.pointer (some ⟨m,0,none⟩)] rfl (fun w'=>by go_simp) (fun w' hw=>((HFS.out w' hw).2.2).mono fun e w2 h=>⟨h.1,h.2▸hw⟩) ?_;simp only [Act.put,aa,ab,ac];refine ag (.int .i64 X) rfl (fun w' hw=>by go_simp) ?_;simp only [Act.put,aa,ab,ac];refine ag (.pointer (some ⟨p,0,none⟩)) rfl (fun w' hw=>by obtain ⟨⟨k1,k2⟩,k3⟩:=HFS.out w' hw;go_simp) ?_;simp only [Act.put,aa,ab,ac];refine aA (.int .i64 U) 153 #[.pointer (some ⟨p,0,none⟩)] rfl (fun w'=>by go_simp) (fun w' hw=>((HFS.out w' hw).2.1).mono fun e w2 h=>⟨h.1,hw.trans h.2 (fun _ h=>h.elim)⟩) ?_;simp only [Act.put,aa,ab,ac];refine ag (.bool (decide (U≤X))) rfl (fun w' hw=>by go_simp) ?_;simp only [Act.put,aa,ab,ac];refine wpQuiet_nil ?_;intro w5 hw5;obtain ⟨⟨k1,k2⟩,_⟩:=HFS.out w5 hw5;by_cases hge:U≤X
    ·have HD5:=ae (HDR.out w5 hw5 hge mq1 mq2);rw [decide_eq_true hge];clear HFS HSF hw5 HT HDR mq1 mq2;gi_wp2;refine bt ((HD5.out).mono ?_);rintro e w6 ⟨rfl,hu⟩;have HU6:=ae hu;clear hu HD5 k1 k2;gi_wp2;go_roundw
     case rel=>exact ⟨q+1,by go_num,by omega,by omega,HU6⟩
     case measure=>simp [intOf];omega
    ·rw [decide_eq_false hge];have HU6:=ae (HSF.out (by omega) w5 hw5);clear HFS HSF hw5 HT HDR mq1 mq2;gi_wp2;go_roundw
     case rel=>exact ⟨q+1,by go_num,by omega,by omega,HU6⟩
     case measure=>simp [intOf];omega
   ·have c1:¬(X:Int)<(top:Int):=by omega
    have HEQ2:=ae (HEQ.out (by omega));clear HFS HSF HDR HMQ HEQ;gi_wp2;refine bt ((HT.out).mono ?_);rintro e w7 ⟨rfl,hf7⟩;obtain ⟨z1,z2⟩:=HEQ2.out w7 hf7;have HZ1:=ae z1;have HZ2:=ae z2;clear z1 z2 hf7 HEQ2 HT k1 k2;gi_wp2;refine ⟨by simp,.inl ⟨_,_,rfl,run_takeDeferred HZ2.out,?_⟩⟩;refine ⟨_,results_tmp2 rfl _ _ _,?_⟩;exact HZ1.out
end
section
variable {m Pg W Fs Us Hg:Nat} {mp:Nat→Bool} {L:Nat→Nat} {S:Nat→Prop} {w w1:World}
theorem rN (h:bi m Pg W Fs Us Hg mp L S w) (a u:Nat) (hu:u≤W) (hr:Us+cnt (bR mp) (a/Pg) ((u-1)/Pg+1)≤Fs):
  Calls Tryz.prog 144 #[m,.int .i64 a,.int .i64 u] w fun e w'=>e= .returned (.int .i64 0)∧∃S' used' Hg' mp' L',bi m Pg W Fs used' Hg' mp' L' S' w'∧(∀q,mp' q=(mp q||(decide (a<u)&&decide (a/Pg≤q)&&decide (q≤(u-1)/Pg))))∧(∀b,aX W Pg mp b→L' b=L b)∧Fr S w w'∧∀k,S' k→S k∨w.heap.size≤k:=by
 obtain ⟨M,h1,h2⟩:=h;rcases Nat.lt_or_ge a u with hlt|hge
 ·refine (gK h1 a u hlt hu hr).mono ?_;rintro e w' ⟨rfl,S',Hg',mp',M',q1,q2,q3,q4,q5⟩;refine ⟨rfl,S',_,Hg',mp',M',⟨M',q1,fun _ _=>rfl⟩,fun q=> ?_,fun b hb=> ?_,q4,q5⟩
  ·rw [q2,decide_eq_true hlt,Bool.true_and]
  ·rw [q3 b hb.1 hb.2];exact h2 b hb
 ·refine (kJ h1 a u hge hu).mono ?_;rintro e w' ⟨rfl,hf⟩;refine ⟨rfl,S,Us,Hg,mp,L,⟨M,h1.keep hf,h2⟩,fun q=> ?_,fun _ _=>rfl,hf.mono (fun _ h=>h.elim),fun _ h=> .inl h⟩;rw [decide_eq_false (show¬a<u by omega)];simp
end
def lX (m Pg W Fs:Nat) (mp:Nat→Bool) (Mc:Nat→Nat) (q0:Nat) (S9:Nat→Prop) (w10:World) (q:Nat) (wr:World):Prop:=
 ∃Us Hg mpq S',bi m Pg W Fs Us Hg mpq Mc S' wr∧(∀r,mpq r=(mp r&& !(decide (q0≤r)&&decide (r<q))))∧Fr S9 w10 wr∧∀k,S' k→S9 k∨w10.heap.size≤k
section
variable {m Pg W Fs Us Hg:Nat} {mp:Nat→Bool} {Mc:Nat→Nat} {q0 q:Nat} {S9:Nat→Prop} {w10 wr w1:World}
theorem lX.start (h:bi m Pg W Fs Us Hg mp Mc S9 w10):lX m Pg W Fs mp Mc q0 S9 w10 q0 w10:=by
 refine ⟨Us,Hg,mp,S9,h,fun r=> ?_,Fr.refl _ _,fun _ h=> .inl h⟩;have:(decide (q0≤r)&&decide (r<q0))=false:=by rw [Bool.and_eq_false_iff,decide_eq_false_iff_not,decide_eq_false_iff_not];omega
 rw [this];simp
theorem lX.Fh (h:lX m Pg W Fs mp Mc q0 S9 w10 q wr) (hf:Fr (fun _=>False) wr w1):lX m Pg W Fs mp Mc q0 S9 w10 q w1:=by
 obtain ⟨Us,Hg,mpq,S',h1,h2,h3,h4⟩:=h;exact ⟨Us,Hg,mpq,S',h1.keep hf,h2,h3.trans hf (fun _ h=>h.elim),h4⟩
theorem lX.pg (h:lX m Pg W Fs mp Mc q0 S9 w10 q wr):Calls Tryz.prog 148 #[m] wr fun e w'=>e= .returned (.int .i64 Pg)∧wr=w':=by
 obtain ⟨Us,Hg,mpq,S',⟨M,h1,_⟩,_⟩:=h;exact dv h1
theorem lX.drop (h:lX m Pg W Fs mp Mc q0 S9 w10 q wr) (hm:mp q=true) (hqW:q<W/Pg) (hq0:q0≤q):Calls Tryz.prog 149 #[m,.int .i64 q] wr fun e w'=>e= .returned (.int .i64 0)∧lX m Pg W Fs mp Mc q0 S9 w10 (q+1) w':=by
 obtain ⟨Us,Hg,mpq,S',⟨M,h1,h5⟩,h2,h3,h4⟩:=h;refine (fD h1 q hqW (by rw [h2,hm,decide_eq_false (Nat.lt_irrefl q)];simp)).mono ?_;rintro e w' ⟨rfl,S2,high2,M2,p1,p2,p3,p4⟩;have hz:=h3.size;refine ⟨rfl,Us-1,high2,_,S2,⟨M2,p1,fun b hb=> ?_⟩,fun r=> ?_,h3.trans p3 h4,fun k hk=> ?_⟩
 ·have hb2:mpq (b/Pg)=true:=by have:=hb.2;rw [Bool.and_eq_true] at this;exact this.1
  rw [p2 b hb.1 hb2 hb.2];exact h5 b ⟨hb.1,hb2⟩
 ·show (mpq r&& !(r==q))=_
  rw [h2];by_cases e:r=q
  ·subst e;rw [beq_self_eq_true,decide_eq_true (Nat.lt_succ_self r),decide_eq_true hq0];simp
  ·rw [beq_eq_false_iff_ne.2 e,Bool.not_false,Bool.and_true];congr 3
   rw [decide_eq_decide];omega
 ·rcases p4 k hk with h6|h6
  ·exact h4 k h6
  ·exact .inr (by omega)
end
theorem oq {Pg F Tp T Li n q:Nat} (hp:1≤Pg) (hF:F% Pg=0) (hT:T% Pg=0) (hT1:Pg≤T) (hn:T+n≤Li) (hap:Li≤F∨(Tp+Pg-1)/Pg*Pg≤T) (hq:Tp≤q*Pg) (hq2:q*Pg<Tp+Pg) (r:Nat):
  (((decide (F≤r*Pg)&&decide (r*Pg<Tp))||(decide (T<T+n)&&decide (T/Pg≤r)&&decide (r≤(T+n-1)/Pg)))&& !(decide (F/Pg≤r)&&decide (r<q)))=(decide (T≤r*Pg)&&decide (r*Pg<T+n)):=by
 have e1:F/Pg≤r↔F≤r*Pg:=by
  have h1:F=F/Pg*Pg:=by have:=Nat.div_add_mod F Pg;rw [Nat.mul_comm];omega
  constructor
  ·intro h;rw [h1];exact Nat.mul_le_mul_right Pg h
  ·intro h;rw [h1] at h;exact Nat.le_of_mul_le_mul_right h hp
 have e2:T/Pg≤r↔T≤r*Pg:=by
  have h1:T=T/Pg*Pg:=by have:=Nat.div_add_mod T Pg;rw [Nat.mul_comm];omega
  constructor
  ·intro h;rw [h1];exact Nat.mul_le_mul_right Pg h
  ·intro h;rw [h1] at h;exact Nat.le_of_mul_le_mul_right h hp
 have e3:r≤(T+n-1)/Pg↔r*Pg≤T+n-1:=Nat.le_div_iff_mul_le hp;have e4:r<q↔r*Pg<q*Pg:=(Nat.mul_lt_mul_right hp).symm;have e5:q*Pg≤(Tp+Pg-1)/Pg*Pg:=Nat.mul_le_mul_right Pg ((Nat.le_div_iff_mul_le hp).2 (by omega));rw [Bool.eq_iff_iff];simp only [Bool.and_eq_true,Bool.or_eq_true,Bool.not_eq_true',decide_eq_true_eq,Bool.and_eq_false_iff,decide_eq_false_iff_not,e1,e2,e3,e4];generalize r*Pg=x at*;generalize q*Pg=y at*;generalize (Tp+Pg-1)/Pg*Pg=C at*;omega
theorem re {Pg T Li n:Nat} {mp:Nat→Bool} (hp:1≤Pg) (hT:T% Pg=0) (hT1:Pg≤T) (hL:Li% Pg=0) (hn:T+n≤Li):cnt (bR mp) (T/Pg) ((T+n-1)/Pg+1)≤(Li-T)/Pg:=by
 refine Nat.le_trans (be _ _ _) ?_;have h1:(T+n-1)/Pg+1≤Li/Pg:=by
  have h2:(T+n-1)/Pg<Li/Pg:=by
   rw [Nat.div_lt_iff_lt_mul hp];have h3:Li=Li/Pg*Pg:=by have:=Nat.div_add_mod Li Pg;rw [Nat.mul_comm];omega
   omega
  omega
 have h4:(Li-T)/Pg=Li/Pg-T/Pg:=by
  obtain ⟨t,ht⟩:∃t,T=t*Pg:=⟨T/Pg,by have:=Nat.div_add_mod T Pg;rw [Nat.mul_comm];omega⟩;obtain ⟨l,hl⟩:∃l,Li=l*Pg:=⟨Li/Pg,by have:=Nat.div_add_mod Li Pg;rw [Nat.mul_comm];omega⟩;rw [ht,hl,←Nat.sub_mul,Nat.mul_div_cancel _ hp,Nat.mul_div_cancel _ hp,Nat.mul_div_cancel _ hp]
 omega
section
variable {A:AG} {rs:List Nat} {φ L:Nat→Nat} {lo hi:Nat}
theorem aP.w64 (h:aP A rs φ L lo hi) (hh:hi≤2147483648) {x:Nat} (hx:Reach A.gr rs x):∀k,φ x≤k→k<φ x+A.sz x→L k<18446744073709551616:=by
 intro k h1 h2;rcases Nat.lt_or_ge (φ x) k with h3|h3
 ·obtain ⟨i,rfl⟩:∃i,k=φ x+1+i:=⟨k-φ x-1,by omega⟩;rcases Nat.lt_or_ge i (A.np x) with h4|h4
  ·rw [h.ptr x hx i h4];by_cases h0:A.fld x i=0
   ·rw [h0,h.zero];omega
   ·have h5:=h.lies _ (AG.ptr_reach hx h4 h0);omega
  ·have h5:=h.val x hx i h4 (by unfold AG.sz at h2;omega);rw [h5.1];exact h5.2
 ·have:k=φ x:=by omega
  rw [this];obtain ⟨q1,q2⟩:=h.head x hx;rw [q1];unfold bw at q2;exact tP (by omega) (by omega) (by omega)
theorem aP.cpd2 {To Li:Nat} {sz np:Nat→Nat} {dom:Nat→Prop} (h:aP A rs φ L lo hi) (hsz:∀x,Reach A.gr rs x→sz (φ x)=A.sz x∧np (φ x)=A.np x) (hd:∀k,lo≤k→k<hi→dom k) (hroom:∀k,To≤k→k<Li→dom k) (h1:1≤To) (h2:Li<1048576) (h3:hi<1048576):
  wK L sz np To Li (fun a=>∃x,Reach A.gr rs x∧φ x=a) dom:=by
 refine ⟨?_,?_,hroom,h1,h2⟩
 ·rintro a ⟨x,hx,rfl⟩;exact ⟨_,_,_,h.head x hx,(hsz x hx).1,(hsz x hx).2⟩
 ·rintro a ⟨x,hx,rfl⟩;have h4:=h.lies x hx;have h5:1≤A.sz x:=by unfold AG.sz;omega
  refine ⟨by omega,fun k k1 k2=> ?_⟩;rw [(hsz x hx).1] at k2;exact ⟨hd k (by omega) (by omega),h.w64 (by omega) hx k k1 k2⟩
theorem mY:∀ord:List Nat,(∀a∈ord,∃x,Reach A.gr rs x∧φ x=a)→∃l:List Nat,ord=l.map φ∧∀x∈l,Reach A.gr rs x
 |[],_=>⟨[],rfl,fun x hx=>absurd hx List.not_mem_nil⟩
 |a::t,h=>by
  obtain ⟨x,hx,rfl⟩:=h a (List.mem_cons_self);obtain ⟨l,h1,h2⟩:=mY t (fun b hb=>h b (List.mem_cons_of_mem _ hb));refine ⟨x::l,by rw [h1];rfl,fun y hy=> ?_⟩;rcases List.mem_cons.1 hy with rfl|hy
  ·exact hx
  ·exact h2 y hy
theorem aP.lives_ord (h:aP A rs φ L lo hi) {sz:Nat→Nat} (hsz:∀x,Reach A.gr rs x→sz (φ x)=A.sz x) {ord:List Nat} (hn:ord.Nodup) (ho:∀a∈ord,∃x,Reach A.gr rs x∧φ x=a) (hin:∀x,Reach A.gr rs x→φ x∈ord):∃l,aL A rs l∧A.Wd l=fH sz ord:=by
 obtain ⟨l,h1,h2⟩:=mY ord ho;refine ⟨l,⟨?_,fun x=>⟨fun hx=>h2 x hx,fun hx=> ?_⟩⟩,?_⟩
 ·rw [h1] at hn;exact List.Pairwise.of_map φ (fun a b h e=>h (congrArg φ e)) hn
 ·have h3:=hin x hx;rw [h1] at h3;obtain ⟨y,h4,h5⟩:=List.mem_map.1 h3;rw [←h.inj (h2 y h4) hx h5];exact h4
 ·unfold AG.Wd fH;rw [h1,List.map_map];congr 1
  exact List.map_congr_left (fun x hx=>(hsz x (h2 x hx)).symm)
end
section
variable {m Pg W Fs Us Hg:Nat} {mp:Nat→Bool} {kb wb g:Nat} {S0:Nat→Prop} {w w0 w1:World} {L sz np:Nat→Nat} {To Li:Nat} {R:Nat→Prop} {ls rs:List Nat} {cur:Nat}
def wL (m Pg W Fs Us Hg:Nat) (mp:Nat→Bool) (kb wb:Nat) (S0:Nat→Prop) (w0:World) (L sz np:Nat→Nat) (To:Nat) (R:Nat→Prop) (ls rs:List Nat) (cur:Nat) (w:World):Prop:=
 ∃(ord:List Nat) (s:cV) (c:Nat),xW m Pg W Fs Us Hg mp kb wb S0 w0 L sz np To R ord cur s w∧cur=To+fH sz (ord.take c)∧c≤ord.length∧rs.length=ls.length∧∀(i a:Nat),ls[i]? =some a→(a=0∧rs[i]? =some 0)∨(∃z:Nat,s.f a=some z∧rs[i]? =some z)
theorem vg.loop (h:vg m Pg W Fs Us Hg mp kb wb g S0 w0 L sz np To R ls rs w) (hl:rs.length=ls.length):∃S,wL m Pg W Fs Us Hg mp kb wb S w L sz np To R ls rs To w∧(∀k,S k→S0 k∨w0.heap.size≤k)∧Fr (fun k=>S0 k∨k=kb∨k=wb∨k=g) w0 w:=by
 obtain ⟨ord,s,q1,q2,q3,q4,q5⟩:=h;obtain ⟨S,c1,c2,c3⟩:=q1.step;obtain ⟨S',d1,d2,d3⟩:=q1;exact ⟨S,⟨ord,s,0,⟨c1,q2,q3⟩,by simp [fH],Nat.zero_le _,hl,fun i a ha=>q5 i a (by rw [hl];exact (List.getElem?_eq_some_iff.1 ha).1) ha⟩,c2,d2⟩
theorem wL.next (hR:sP L sz np To Li R) (hD:wK L sz np To Li R (aX W Pg mp)) (h:wL m Pg W Fs Us Hg mp kb wb S0 w0 L sz np To R ls rs cur w):
  ∃top:Nat,ak w kb [.pointer (some ⟨m,0,none⟩),.map (some wb),.int .i64 top] 230∧cur≤top∧top≤Li∧
   (cur<top→Calls Tryz.prog 147 #[kb,.int .i64 cur] w fun e w'=>∃cur':Nat,cur<cur'∧e= .returned (.int .i64 (cur':Int))∧wL m Pg W Fs Us Hg mp kb wb S0 w0 L sz np To R ls rs cur' w')∧
   (¬cur<top→∃(ord:List Nat) (s:cV),s.top=top∧xW m Pg W Fs Us Hg mp kb wb S0 w0 L sz np To R ord s.top s w∧rs.length=ls.length∧∀(i a:Nat),ls[i]? =some a→(a=0∧rs[i]? =some 0)∨(∃z:Nat,s.f a=some z∧rs[i]? =some z)):=by
 obtain ⟨ord,s,c,q1,q2,q3,q4,q5⟩:=h;obtain ⟨⟨S,d1,d2,d3⟩,j,ho⟩:=id q1;have htop:=j.top;have hfit:=hR.fit ord j.nd ho;have hsp:fH sz ord=fH sz (ord.take c)+fH sz (ord.drop c):=by rw [←fI,List.take_append_drop]
 refine ⟨s.top,d1.blk,by omega,by omega,fun hlt=> ?_,fun hge=> ?_⟩
 ·have hc:c<ord.length:=by
   rcases Nat.lt_or_ge c ord.length with h1|h1
   ·exact h1
   ·rw [List.take_of_length_le h1] at q2;omega
  have hy:ord[c]? =some ord[c]:=List.getElem?_eq_getElem hc;refine (vO hR hD q1 hy q2).mono ?_;rintro e w' ⟨ord',s',rfl,k1,k2,k3,k4⟩;have hpos:=(hR.some _ (ho _ (List.getElem_mem hc))).2;refine ⟨cur+sz ord[c],by omega,rfl,ord',s',c+1,k1,k3,?_,q4,fun i a ha=> ?_⟩
  ·have:=k2.length_le;omega
  ·rcases q5 i a ha with h1|⟨z,h1,h2⟩
   ·exact .inl h1
   ·exact .inr ⟨z,k4 _ _ h1,h2⟩
 ·have:cur=s.top:=by omega
  exact ⟨ord,s,rfl,by rw [←this];exact q1,q4,q5⟩
theorem oo {A:AG} {rsN:List Nat} {φ:Nat→Nat} {lo hi:Nat} {ord:List Nat} {s:cV} (h:aP A rsN φ L lo hi) (hsz:∀x,Reach A.gr rsN x→sz (φ x)=A.sz x∧np (φ x)=A.np x) (h1:1≤To)
  (hj:er L sz np To ord s.top s) (ho:∀a∈ord,∃x,Reach A.gr rsN x∧φ x=a) (hl:rs.length=(rsN.map φ).length) (hr:∀(i a:Nat),(rsN.map φ)[i]? =some a→(a=0∧rs[i]? =some 0)∨(∃z:Nat,s.f a=some z∧rs[i]? =some z)):
  ∃(φ':Nat→Nat) (l:List Nat),aP A rsN φ' s.M To s.top∧rs=rsN.map φ'∧aL A rsN l∧s.top=To+A.Wd l:=by
 have hf0:s.f 0=none:=by
  refine hj.Fh.2 (fun hm=> ?_);obtain ⟨x,q1,q2⟩:=ho 0 hm;have:=h.pos q1;omega
 have hroot:∀x∈rsN,x≠0→φ x∈ord:=by
  intro x hx h0;obtain ⟨i,hi⟩:=List.mem_iff_getElem?.1 hx;have hp:=h.pos (.root hx h0);rcases hr i (φ x) (by rw [List.getElem?_map,hi];rfl) with ⟨q1,_⟩|⟨z,q1,_⟩
  ·omega
  ·obtain ⟨j,q2,_⟩:=(hj.went _ _).1 q1;exact List.mem_of_getElem? q2
 have hin:=h.shut hj hsz hroot;obtain ⟨l,l1,l2⟩:=h.lives_ord (fun x hx=>(hsz x hx).1) hj.nd ho hin;refine ⟨fun x=>(s.f (φ x)).getD 0,l,h.copied hj h1 hf0 hsz hin,?_,l1,by rw [l2];exact hj.top⟩;refine List.ext_getElem? (fun i=> ?_);rw [List.getElem?_map]
 cases hi:rsN[i]? with
 |none=>
  have h2:=List.getElem?_eq_none_iff.1 hi;rw [List.length_map] at hl;exact List.getElem?_eq_none_iff.2 (by omega)
 |some x=>
  rcases hr i (φ x) (by rw [List.getElem?_map,hi];rfl) with ⟨q1,q2⟩|⟨z,q1,q2⟩
  ·rw [q2];show _=some ((s.f (φ x)).getD 0)
   rw [q1,hf0];rfl
  ·rw [q2];show _=some ((s.f (φ x)).getD 0)
   rw [q1];rfl
end
theorem yy (n:Nat):da (List.replicate n false)=fun _=>false:=by
 funext k;unfold da;rw [List.getD_eq_getElem?_getD,List.getElem?_replicate];split<;>rfl
theorem uv (s:bg) (M:Nat→Nat):∃L:Nat→Nat,∀a,aj s.E a=true→L (s.F a)=gT s.E s.hp M s.F a:=by
 classical
 refine ⟨fun k=>if h:∃a,aj s.E a=true∧s.F a=k then gT s.E s.hp M s.F h.choose else 0,fun a ha=> ?_⟩;have he:∃b,aj s.E b=true∧s.F b=s.F a:=⟨a,ha,rfl⟩;show (if h:∃b,aj s.E b=true∧s.F b=s.F a then gT s.E s.hp M s.F h.choose else 0)=_
 rw [dif_pos he];have h2:s.to_+br s.E he.choose=s.to_+br s.E a:=he.choose_spec.2;rw [lE he.choose_spec.1 ha (by omega)]
theorem rV {s:bg} (ho:bT s) {M:Nat→Nat} {mp:Nat→Bool} (hm:∀q,q<s.W/s.P→mp q=eB s.P (aj s.E) (fun _=>false) q)
  (hpt:∀a,aj s.E a=true→1≤a-aT s.E a→a-aT s.E a≤s.hp (aT s.E a)→M a≠0→aj s.E (M a)=true∧M a<s.W) (hs:∀a,aj s.E a=true→M a<18446744073709551616) (hr:cnt (eB s.P (aj s.E) (fun _=>false)) 0 (s.W/s.P)≤s.R):
  ∃L,fu s L M mp (fun _=>false) 0 0 s.nb (s.to_+s.N)∧∀a,aj s.E a=true→L (s.F a)=gT s.E s.hp M s.F a:=by
 obtain ⟨L,hL⟩:=uv s M;have hb:aY s.B (fun _=>false)=fun _=>false:=rfl
 have hto:∀q,fO s.P s.N (fun _=>false) q=false:=fun q=>(fF ho.P1).2 (fun a _=>Bool.and_false _)
 have hbe:∀q,eK s (s.to_+s.N) q=false:=fun q=>(fF ho.P1).2 (fun a _=>by rw [Bool.and_eq_false_iff,decide_eq_false_iff_not,decide_eq_false_iff_not];omega)
 have h0:cnt (fun _=>false) 0 s.nb=0:=aD (fun _ _ _=>rfl);refine ⟨L,⟨fun a _ _ h=>absurd h Bool.false_ne_true,fun a _ h2 _=>(hL a h2).symm,fun a _ h2 _=>hpt a h2,fun a _ h2 _=>hs a h2,fun k h1 h2=>absurd h1 (by omega),fun q hq=> ?_,⟨fun k hk=>absurd hk (Nat.not_lt_zero k),Nat.zero_le _,fun _=>rfl⟩,fun _ _=>rfl,⟨h0.symm,Nat.zero_le _⟩,(by rw [h0,Nat.add_zero]),fun _=>false,fun _ h=>absurd h Bool.false_ne_true,?_⟩,hL⟩
 ·rw [hm q hq,hb];unfold cU;rw [hb,hto,hbe];simp
 ·rw [hb];unfold gz;rw [aD (f:=fun r=>fO s.P s.N (fun _=>false) r||eK s (s.to_+s.N) r) (fun i _ _=>by rw [hto,hbe];rfl),Nat.add_zero];exact hr
section
variable {A:AG} {rs:List Nat} {φ M E hp:Nat→Nat} {lo hi:Nat}
theorem aP.own (h:aP A rs φ M lo hi) (hE:eM A rs φ E) {a:Nat} (ha:aj E a=true):∃x i,Reach A.gr rs x∧aT E a=φ x∧a=φ x+i∧i<A.sz x:=by
 have h1:=bX ha;obtain ⟨x,hx,e⟩:=hE.some (aT E a) (by omega);rw [←e,hE.size x hx] at h1;exact ⟨x,a-φ x,hx,e.symm,by omega,by omega⟩
theorem aP.live (h:aP A rs φ M lo hi) (hE:eM A rs φ E) {x i:Nat} (hx:Reach A.gr rs x) (hi:i<A.sz x):aj E (φ x+i)=true:=
 aQ.2 ⟨φ x,by omega,by rw [hE.size x hx];omega⟩
theorem aP.opn_ptr (h:aP A rs φ M lo hi) (hE:eM A rs φ E) (hhp:∀x,Reach A.gr rs x→hp (φ x)=A.np x) {W:Nat} (hW:hi≤W):∀a,aj E a=true→1≤a-aT E a→a-aT E a≤hp (aT E a)→M a≠0→aj E (M a)=true∧M a<W:=by
 intro a ha h1 h2 h0;obtain ⟨x,i,hx,e1,e2,e3⟩:=h.own hE ha;rw [e1,hhp x hx] at h2;rw [e1] at h1;obtain ⟨j,rfl⟩:∃j,i=1+j:=⟨i-1,by omega⟩;have h3:=h.ptr x hx j (by omega);rw [ea,←e2] at h3;rw [h3] at h0 ⊢;have hy:=AG.ptr_reach hx (show j<A.np x by omega) (fun e=>h0 (by rw [e];exact h.zero));have h4:=h.lies _ hy;have h5:1≤A.sz (A.fld x j):=by unfold AG.sz;omega
 have h6:=h.live hE hy (i:=0) (by omega);exact ⟨h6,by omega⟩
theorem aP.opn_small (h:aP A rs φ M lo hi) (hE:eM A rs φ E) (hh:hi≤2147483648):∀a,aj E a=true→M a<18446744073709551616:=by
 intro a ha;obtain ⟨x,i,hx,e1,e2,e3⟩:=h.own hE ha;exact h.w64 hh hx a (by omega) (by omega)
theorem aP.opn_laid (h:aP A rs φ M lo hi) (hE:eM A rs φ E) (hap:cX E) (hhp:∀x,Reach A.gr rs x→hp (φ x)=A.np x) {T:Nat} (hT:1≤T) {L:Nat→Nat} (hL:∀a,aj E a=true→L (goes E T a)=gT E hp M (goes E T) a):
  aP A rs (kN (goes E T) φ) L T (T+cnt (aj E) 0 hi):=by
 refine h.slide hE hT (fun x hx i hi=> ?_);have h1:=hL _ (h.live hE hx hi);have h2:=hE.size x hx;rw [iV (by omega)] at h1;rw [h1];unfold gT;rw [lK hap (s:=φ x) (by omega) (by omega),hhp x hx,Nat.add_sub_cancel_left]
end
theorem rd {f:Nat→Bool} {n:Nat} (h:n≤cnt f 0 n) {i:Nat} (hi:i<n):f i=true:=by
 cases hf:f i with
 |true=>rfl
 |false=>
  have h1:=aw f (Nat.zero_le (i+1)) (show i+1≤n from hi);have h2:=aC f (Nat.zero_le i);have h3:=be f 0 i;have h4:=be f (i+1) n;rw [hf] at h2;simp at h2;omega
theorem bl.off {S:Nat→Prop} {w:World} {m Pg W Rm Us Hg:Nat} {mp:Nat→Bool} {M:Nat→Nat} (h:bl w m S Pg W Rm Us Hg mp M) {q:Nat} (hq:W/Pg≤q):mp q=false:=by
 obtain ⟨p,vw,vt,vb,ws,tk,bk,Tm,g,gt,ts,fr,n,q1,q2,q3,q4,q5,q6,q7,q8,q9,q10⟩:=h;rw [q8];unfold bB;rw [q3.off q hq];rfl
theorem fu.done {s:bg} {L M:Nat→Nat} {mp:Nat→Bool} {mvd:Nat→Bool} {fr ah top:Nat} (ho:bT s) (h:fu s L M mp mvd fr ah 0 top) (h1:top≤s.to_+s.R*s.P):
  (∀a,s.to_≤a→a<top→M a=L a)∧∀q,q<s.W/s.P→s.to_+s.N≤top→mp q=(decide (s.to_≤q*s.P)&&decide (q*s.P<top)):=by
 have hP:=ho.P1;have hB:=ho.B1;have hall:∀k,k<s.nb→mvd k=true:=fun k hk=>rd (by have:=h.left;omega) hk
 have hix:∀i,i<s.N→mvd (i/s.B)=true:=fun i hi=>hall _ ((Nat.div_lt_iff_lt_mul (by omega)).2 (Nat.lt_of_lt_of_le hi (pw hB)))
 have hlive:∀a,aj s.E a=true→a<s.W∧mvd (br s.E a/s.B)=true:=fun a ha=>
  ⟨(ho.from_ a ha).1,hix _ (dX ha (ho.from_ a ha).1)⟩
 refine ⟨fun a ha1 ha2=> ?_,fun q hq h2=> ?_⟩
 ·rcases Nat.lt_or_ge a (s.to_+s.N) with haN|haN
  ·obtain ⟨b,b1,b2,b3⟩:=o0 (E:=s.E) (W:=s.W) (i:=a-s.to_) (by have:s.N=cnt (aj s.E) 0 s.W:=rfl;omega);have hFb:s.F b=a:=by show s.to_+br s.E b=a;omega
   have:=h.moved b b1 b2 (hlive b b2).2;rwa [hFb] at this
  ·exact h.behind a haN ha2
 ·have hfr:eB s.P (aj s.E) (aY s.B mvd) q=false:=(fF hP).2 (fun a _=>by
   cases hl:aj s.E a with
   |false=>rfl
   |true=>
    show (!(mvd (br s.E a/s.B)))=false
    rw [(hlive a hl).2];rfl)
  rw [h.pages q hq,hfr,Bool.false_or];unfold cU;by_cases hq1:s.to_/s.P≤q
  ·have e0:=ho.toq;have e1:s.to_/s.P*s.P≤q*s.P:=Nat.mul_le_mul_right _ hq1;have e2:(q-s.to_/s.P)*s.P=q*s.P-s.to_/s.P*s.P:=Nat.sub_mul _ _ _;rw [decide_eq_true hq1,decide_eq_true (show s.to_≤q*s.P by omega),Bool.true_and,Bool.true_and,Bool.eq_iff_iff];simp only [Bool.and_eq_true,Bool.or_eq_true,decide_eq_true_eq];unfold fO eK;rw [aH hP,aH hP];constructor
   ·rintro ⟨_,h5⟩;have h6:∃i,i/s.P=q-s.to_/s.P∧s.to_+i<top:=by
     rcases h5 with ⟨i,i1,i2⟩|⟨i,i1,i2⟩
     ·rw [Bool.and_eq_true,decide_eq_true_eq] at i2;exact ⟨i,i1,by omega⟩
     ·rw [Bool.and_eq_true,decide_eq_true_eq,decide_eq_true_eq] at i2;exact ⟨i,i1,i2.2⟩
    obtain ⟨i,i1,i2⟩:=h6;have h7:(q-s.to_/s.P)*s.P≤i:=by rw [←i1];exact Nat.div_mul_le_self _ _
    omega
   ·intro h5;have h6:(q-s.to_/s.P)*s.P/s.P=q-s.to_/s.P:=Nat.mul_div_cancel _ hP;refine ⟨?_,?_⟩
    ·rcases Nat.lt_or_ge q (s.to_/s.P+s.R) with h7|h7
     ·exact h7
     ·have h8:=Nat.mul_le_mul_right s.P h7;rw [Nat.add_mul] at h8;omega
    ·rcases Nat.lt_or_ge ((q-s.to_/s.P)*s.P) s.N with h7|h7
     ·exact .inl ⟨_,h6,by
       rw [decide_eq_true h7,Bool.true_and];exact hix _ h7⟩
     ·exact .inr ⟨_,h6,by rw [decide_eq_true h7,decide_eq_true (show s.to_+(q-s.to_/s.P)*s.P<top by omega)];rfl⟩
  ·have e1:¬s.to_≤q*s.P:=fun h=>hq1 (by
    have:=Nat.div_le_div_right (c:=s.P) h;rwa [Nat.mul_div_cancel _ hP] at this)
   rw [decide_eq_false hq1,decide_eq_false e1];rfl
end Go.Proofs.YthahbijbpinneaaGreatDoor
