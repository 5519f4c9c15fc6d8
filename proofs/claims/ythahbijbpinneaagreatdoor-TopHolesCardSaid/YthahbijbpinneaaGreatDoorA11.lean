import Derived.Test.YthahbijbpinneaaGreatDoorA2
import Derived.Test.YthahbijbpinneaaGreatDoorA5
import Derived.Test.YthahbijbpinneaaGreatDoorA7
import Derived.Test.YthahbijbpinneaaGreatDoorA8
import Derived.Test.YthahbijbpinneaaGreatDoorA10
import Derived.Maps.OwnSet
import Derived.Maps.OwnOps
set_option maxRecDepth 100000
set_option maxHeartbeats 8000000
set_option linter.all false
namespace Go.Proofs.YthahbijbpinneaaGreatDoor
open Go.RowKit
section
variable {m Pg W Fs Us Hg:Nat} {mp:Nat→Bool} {L:Nat→Nat} {S:Nat→Prop} {w w1:World}
def xp (m Pg W Fs Us Hg:Nat) (mp:Nat→Bool) (L:Nat→Nat) (S:Nat→Prop) (w:World) (e:Ending) (w':World):Prop:=e= .returned (.tuple #[])∧∃S':Nat→Prop,bi m Pg W Fs Us Hg mp L S' w'∧Fr S w w'∧∀k,S' k→S k∨w.heap.size≤k
def qT (m Pg W Fs Us Hg:Nat) (mp:Nat→Bool) (L:Nat→Nat) (S1:Nat→Prop) (w w3 wr:World) (S:Nat→Prop) (q:Nat) (cs:List Value):Prop:=bi m Pg W Fs Us Hg mp L S1 wr∧Fr S1 w3 wr∧Fr S w wr∧ak wr q cs 31∧¬S1 q∧∀k,S1 k→S k∨w.heap.size≤k
theorem qT.Fh {S1:Nat→Prop} {w3 wr:World} {q:Nat} {cs:List Value} (h:qT m Pg W Fs Us Hg mp L S1 w w3 wr S q cs) (hf:Fr (fun _=>False) wr w1):qT m Pg W Fs Us Hg mp L S1 w w3 w1 S q cs:=
 ⟨h.1.keep hf,h.2.1.trans hf (fun _ h=>h.elim),h.2.2.1.trans hf (fun _ h=>h.elim),h.2.2.2.1.frame hf (fun h=>h),h.2.2.2.2⟩
theorem qT.put {L2:Nat→Nat} {S1:Nat→Prop} {w3 wr:World} {q:Nat} {cs:List Value} (h:qT m Pg W Fs Us Hg mp L S1 w w3 wr S q cs) (hm:bi m Pg W Fs Us Hg mp L2 S1 w1) (hf:Fr S1 wr w1):qT m Pg W Fs Us Hg mp L2 S1 w w3 w1 S q cs:=
 ⟨hm,h.2.1.trans hf (fun _ h=> .inl h),h.2.2.1.trans hf (fun k hk=>h.2.2.2.2.2 k hk),h.2.2.2.1.frame hf h.2.2.2.2.1,h.2.2.2.2⟩
theorem sa {lo hi p k Ba:Nat} {E:Nat→Nat} (h:bi m Pg W Fs Us Hg mp L S w) (hF:cB lo hi w p W k E Ba) (hav:∀j,S j→j<lo∨hi≤j) (hb:Ba≤1048576) (a n z np nf ng:Nat) (ha:1≤a) (ho:d9 L a np nf ng) (hn:n=1+(np+nf+ng)) (hE:E a=n) (hz:goes E Ba a=z) (hza:z≤a) (haW:a+n≤W) (hW:W≤524288)
  (hd:∀j,a≤j→j<a+n→aX W Pg mp j∧L j<18446744073709551616) (hdz:∀j,z≤j→j<z+n→aX W Pg mp j) (hp:∀i,1≤i→i≤np→L (a+i)≠0→aj E (L (a+i))=true∧L (a+i)<W):
  Calls Tryz.prog 155 #[m,.pointer (some ⟨p,0,none⟩),.int .i64 a,.int .i64 n] w (xp m Pg W Fs Us Hg mp (kM L (goes E Ba) a z np n) S w):=by
 have hN:np+nf+ng<256:=by have:=ho.2;unfold bw at this;omega
 have hsl:∀j,S j→j<w.heap.size:=fun j hj=>(aF m Pg W Fs Us Hg mp).lt _ _ _ h j hj
 have HRD:=ae (fC h a np nf ng ha (hd a (Nat.le_refl _) (by omega)).1 ho);have HTO:=ae (fun (w1:World) (x:Nat) (hf:Fr S w w1) (hx:aj E x=true) (hxW:x<W)=>lC (hF.frame hf hav) hb x hx hxW);have hla:aj E a=true:=by have:=gE (E:=E) (s:=a) (i:=0) (by omega);rwa [Nat.add_zero] at this
 have hT0:=ae (fun w1 hf=>HTO.out w1 a hf hla (by omega));rw [hz] at hT0;have HKD:=ae (fun (i:Int) w1=>ik np nf ng i ho.2 w1);have HLD:=ae (fun (S1:Nat→Prop) w3 q cs i wr (hi2:i<n) (hr:qT m Pg W Fs Us Hg mp (kM L (goes E Ba) a z np i) S1 w w3 wr S q cs)=>(rM hr.1 (a+i) (hd _ (by omega) (by omega)).1).mono (fun e w' ⟨h1,h2⟩=>(⟨by rw [h1,rT L _ np i hza (Nat.le_refl _)],hr.Fh h2⟩:e=Ending.returned (.tuple #[.int .u64 ((L (a+i):Nat):Int),.int .i64 0])∧qT m Pg W Fs Us Hg mp (kM L (goes E Ba) a z np i) S1 w w3 w' S q cs)));have hgl:∀i,i<n→gB L (goes E Ba) a np i<18446744073709551616:=by
  intro i hi2;unfold gB;split
  ·rename_i hc;have h1:=hp i hc.1 hc.2.1 hc.2.2;have h2:=bW (aj E) (L (a+i));unfold goes;omega
  ·exact (hd _ (by omega) (by omega)).2
 have HST:=ae (fun (S1:Nat→Prop) w3 q cs i wr (hi2:i<n) (hr:qT m Pg W Fs Us Hg mp (kM L (goes E Ba) a z np i) S1 w w3 wr S q cs)=>(pn hr.1 (z+i) (gB L (goes E Ba) a np i) (hdz _ (by omega) (by omega)) (hgl i hi2)).mono (fun e w' ⟨h1,h2,h3⟩=>(⟨h1,by rw [ui] at h2;exact hr.put h2 h3⟩:e=Ending.returned (.int .i64 0)∧qT m Pg W Fs Us Hg mp (kM L (goes E Ba) a z np (i+1)) S1 w w3 w' S q cs)));have HK1:∀i:Nat,1≤i→i≤np→cJ np nf ng ((i:Int)-1)=1:=fun i h1 h2=>by
  unfold cJ;rw [cu,if_pos ho.2,if_neg (by omega),if_pos (by omega)]
 have HK0:∀i:Nat,¬(1≤i∧i≤np)→¬cJ np nf ng ((i:Int)-1)=1:=fun i h1=>by
  unfold cJ;split
  ·decide
  ·rw [if_neg (by omega)];split<;>decide
 have HKY:=ae (fun (i:Nat) w1 (h1:1≤i) (h2:i≤np)=>by have:=HKD.out ((i:Int)-1) w1;rw [HK1 i h1 h2] at this;exact this);have HKN:=ae (fun (i:Nat) w1 (h1:¬(1≤i∧i≤np))=>(⟨_,HK0 i h1,HKD.out ((i:Int)-1) w1⟩:∃K:Int,¬K=1∧Calls Tryz.prog 195 #[bP np nf ng,.int .i64 ((i:Int)-1)] w1 (dN w1 K)));have HTP:=ae (fun (w1:World) (i:Nat) (hf:Fr S w w1) (h1:1≤i∧i≤np) (h2:L (a+i)≠0)=>HTO.out w1 (L (a+i)) hf (hp i h1.1 h1.2 h2).1 (hp i h1.1 h1.2 h2).2);have HLW:=ae (fun (i:Nat) (h1:1≤i∧i≤np) (h2:L (a+i)≠0)=>(hp i h1.1 h1.2 h2).2);have HGS:=ae (fun (i:Nat) (h1:1≤i∧i≤np) (h2:L (a+i)≠0)=>(show goes E Ba (L (a+i))≤2097152 from by
  have h3:=(hp i h1.1 h1.2 h2).2;have h4:=bW (aj E) (L (a+i));unfold goes;omega))
 have HS3:Hid ((Tryz.prog.info? 31).map (·.size)=some 3):=by show _=_;kernel_rfl
 have HEND:Hid (∀S1 w3 wr q cs,qT m Pg W Fs Us Hg mp (kM L (goes E Ba) a z np n) S1 w w3 wr S q cs→xp m Pg W Fs Us Hg mp (kM L (goes E Ba) a z np n) S w (.returned (.tuple #[])) wr):=by
  show∀S1 w3 wr q cs,_
  exact fun S1 w3 wr q cs hr=>⟨rfl,S1,hr.1,hr.2.2.1,hr.2.2.2.2.2⟩
 have hn256:n≤256:=by omega
 have hz2:z≤1048576:=by omega
 have ha2:a≤1048576:=by omega
 have hk0:=(fun S2 (w2:World) (h2:bi m Pg W Fs Us Hg mp L S2 w2)=>(aF m Pg W Fs Us Hg mp).lt _ _ _ h2);have HLT:=ae hk0;unfold dN at*;generalize (xp m Pg W Fs Us Hg mp (kM L (goes E Ba) a z np n) S w)=Q at*;clear h hF hav hb ho hn hE hz hza haW hd hdz hp hN hla HKD HK1 HK0 hgl hk0 HTO;unfold bP at*
 go_enter Tryz.func155,Tryz.ntmps155
 go_wp2_with fail
 refine (HRD.out).mono ?_;rintro e W2 ⟨rfl,S1,g1,g2,g3⟩;have hH:∀W3,W3=W2.alloc (.cells #[.int .i64 np,.int .i64 nf,.int .i64 ng] 31)→qT m Pg W Fs Us Hg mp (kM L (goes E Ba) a z np 0) S1 w W3 W3 S W2.heap.size [.int .i64 np,.int .i64 nf,.int .i64 ng]:=by
  rintro W3 rfl;have hf:Fr (fun _=>False) W2 (W2.alloc (.cells #[.int .i64 np,.int .i64 nf,.int .i64 ng] 31)):=(Fr.refl _ _).alloc _;exact ⟨by rw [uj];exact g1.keep hf,Fr.refl _ _,g2.trans hf (fun _ h=>h.elim),ak.new W2 _ _,fun h=>by have:=HLT.out _ _ g1 _ h;omega,g3⟩
 have HH:=ae hH;clear g1 g2 g3 hH HRD HLT
 go_upto_region 1 with fail
 have h0:=HH.out _ rfl;generalize W2.alloc (.cells #[.int .i64 np,.int .i64 nf,.int .i64 ng] 31)=W3 at*;have HT3:=ae (hT0.out W3 h0.2.2.1);have H0:=ae h0;clear h0 HH hT0;generalize W2.heap.size=q at*;clear W2;go_wp2_with fail
 refine (HT3.out).mono ?_;rintro e w4 ⟨rfl,hf4⟩;have H1:=ae (H0.out.Fh hf4);clear hf4 H0 HT3;go_wp2
 go_loopw [31] (fun x wr=>∃(i:Nat),x= .int .i64 i∧i≤n∧Hid (qT m Pg W Fs Us Hg mp (kM L (goes E Ba) a z np i) S1 w W3 wr S q [.int .i64 np,.int .i64 nf,.int .i64 ng])) (fun x _=>(n-intOf x).toNat)
 case atStart=>exact ⟨0,rfl,by omega,H1⟩
 case round=>
  clear H1;obtain ⟨i,rfl,h1,hr⟩:=hrel;by_cases hlt:i<n
  ·have hlti:(i:Int)<(n:Int):=by omega
   have hw1:IntKind.i64.wrap ((a:Int)+(i:Int))=(a:Int)+(i:Int):=by rw [IntKind.wrap_i64];omega
   have hw2:IntKind.i64.wrap ((i:Int)-1)=(i:Int)-1:=by rw [IntKind.wrap_i64];omega
   have hw3:IntKind.i64.wrap ((z:Int)+(i:Int))=(z:Int)+(i:Int):=by rw [IntKind.wrap_i64];omega
   have HL1:=HLD.out S1 W3 q _ i wr hlt hr.out;rw [show ((a+i:Nat):Int)=(a:Int)+(i:Int) by push_cast;rfl] at HL1;have HL2:=ae HL1;clear HL1 hr;go_wp2_with fail
   refine (HL2.out).mono ?_;rintro e w5 ⟨rfl,hp5⟩;have HB5:=ae hp5.2.2.2.1;have HP5:=ae hp5;clear hp5 HL2;by_cases hptr:1≤i∧i≤np
   ·have HK5:=ae (HKY.out i w5 hptr.1 hptr.2);by_cases h0:L (a+i)=0
    ·rw [h0];go_wp2_with (refine wpList_load_row rfl 31 _ rfl q rfl 31 #[.int .i64 np,.int .i64 nf,.int .i64 ng] _ _ HB5.out Tryz.underlying31 rfl HS3.out ?_)
     refine (HK5.out).mono ?_;rintro e w6 ⟨rfl,hf6⟩;have HS6:=HST.out S1 W3 q _ i w6 hlt (HP5.out.Fh hf6);rw [show ((z+i:Nat):Int)=(z:Int)+(i:Int) by push_cast;rfl,show gB L (goes E Ba) a np i=0 by unfold gB;rw [if_neg (fun hh=>hh.2.2 h0),h0],show ((0:Nat):Int)=0 from rfl] at HS6;have HS7:=ae HS6;clear HS6 hf6 HP5 HB5 HK5;go_wp2_with fail
     refine (HS7.out).mono ?_;rintro e w7 ⟨rfl,hp7⟩;have HP7:=ae hp7;clear hp7 HS7;go_wp2;go_roundw
     case rel=>exact ⟨i+1,by go_num,by omega,HP7⟩
     case measure=>simp [intOf];omega
    ·have hxW:=HLW.out i hptr h0;have HT5:=ae (fun w6 hf=>HTP.out w6 i hf hptr h0);have hgw:gB L (goes E Ba) a np i=goes E Ba (L (a+i)):=by unfold gB;rw [if_pos ⟨hptr.1,hptr.2,h0⟩]
     have hgs:goes E Ba (L (a+i))≤2097152:=HGS.out i hptr h0;have HST2:=ae (fun w6 h=>HST.out S1 W3 q [.int .i64 np,.int .i64 nf,.int .i64 ng] i w6 hlt h);rw [show ((z+i:Nat):Int)=(z:Int)+(i:Int) by push_cast;rfl,hgw] at HST2;have hx0:¬((L (a+i):Nat):Int)=0:=by omega
     have hx1:IntKind.i64.wrap ((L (a+i):Nat):Int)=((L (a+i):Nat):Int):=by rw [IntKind.wrap_i64];omega
     have hx2:IntKind.u64.wrap ((goes E Ba (L (a+i)):Nat):Int)=((goes E Ba (L (a+i)):Nat):Int):=by rw [IntKind.wrap_u64];omega
     clear hgw;generalize goes E Ba (L (a+i))=Y at*;generalize L (a+i)=X at*;go_wp2_with (refine wpList_load_row rfl 31 _ rfl q rfl 31 #[.int .i64 np,.int .i64 nf,.int .i64 ng] _ _ HB5.out Tryz.underlying31 rfl HS3.out ?_)
     refine (HK5.out).mono ?_;rintro e w6 ⟨rfl,hf6⟩;have HP6:=ae (HP5.out.Fh hf6);have HT6:=ae (HT5.out w6 HP6.out.2.2.1);clear hf6 HP5 HB5 HK5 HT5;go_wp2_with fail
     refine (HT6.out).mono ?_;rintro e w6b ⟨rfl,hf6⟩;have HS6:=HST2.out _ (HP6.out.Fh hf6);have HS7:=ae HS6;clear HS6 hf6 HP6 HT6 HST2;go_wp2_with fail
     refine (HS7.out).mono ?_;rintro e w7 ⟨rfl,hp7⟩;have HP7:=ae hp7;clear hp7 HS7;go_wp2;go_roundw
     case rel=>exact ⟨i+1,by go_num,by omega,HP7⟩
     case measure=>simp [intOf];omega
   ·obtain ⟨K,hK,hKc⟩:=HKN.out i w5 hptr;have HK5:=ae hKc;clear hKc;go_wp2_with (refine wpList_load_row rfl 31 _ rfl q rfl 31 #[.int .i64 np,.int .i64 nf,.int .i64 ng] _ _ HB5.out Tryz.underlying31 rfl HS3.out ?_)
    refine (HK5.out).mono ?_;rintro e w6 ⟨rfl,hf6⟩;have HS6:=HST.out S1 W3 q _ i w6 hlt (HP5.out.Fh hf6);rw [show ((z+i:Nat):Int)=(z:Int)+(i:Int) by push_cast;rfl,show gB L (goes E Ba) a np i=L (a+i) by unfold gB;rw [if_neg (fun hh=>hptr ⟨hh.1,hh.2.1⟩)]] at HS6;have HS7:=ae HS6;clear HS6 hf6 HP5 HB5 HK5;go_wp2_with fail
    refine (HS7.out).mono ?_;rintro e w7 ⟨rfl,hp7⟩;have HP7:=ae hp7;clear hp7 HS7;go_wp2;go_roundw
    case rel=>exact ⟨i+1,by go_num,by omega,HP7⟩
    case measure=>simp [intOf];omega
  ·have hiN:i=n:=by omega
   have hni:¬(i:Int)<(n:Int):=by omega
   have HQ:=ae (HEND.out S1 W3 wr q _ (by rw [hiN] at hr;exact hr.out));clear hr h1 hlt hiN;go_wp2;go_end0;exact HQ.out
end
theorem wv {lo hi:Nat} {w:World} {p W k Ba:Nat} {E:Nat→Nat} (hF:cB lo hi w p W k E Ba) (hb:Ba≤1048576) (c a:Nat) (hc:ak w c [.pointer (some ⟨p,0,none⟩)] 235) (ha:aj E a=true) (haW:a<W):
  Calls Tryz.prog 156 #[.int .i64 a,.pointer (some ⟨c,0,none⟩)] w fun e w'=>e= .returned (.int .i64 ((goes E Ba a:Nat):Int))∧Fr (fun _=>False) w w':=by
 have HT:=ae (lC hF hb a ha haW);have c0:=hc.cell 0 rfl;generalize goes E Ba a=Y at*;clear hF hb hc ha haW
 go_enter Tryz.func156,Tryz.ntmps156
 go_wp2_with fail
 refine (HT.out).mono ?_;rintro e w1 ⟨rfl,hf⟩;have HF:=ae hf;clear hf HT c0;go_wp2;go_ret;exact ⟨rfl,HF.out⟩
structure wQ (L F:Nat→Nat) (np:Nat→Nat) (go:Nat→Nat) (pre:List (Nat×Nat)) (M:Nat→Nat):Prop where
 went:∀x∈pre,∀i,i<x.2→M (go x.1+i)=gB L F x.1 (np x.1) i
 still:∀k,(∀x∈pre,x.1+x.2≤k)→M k=L k
theorem wQ.none (L F np go:Nat→Nat):wQ L F np go [] L:=⟨fun _ h=>absurd h (List.not_mem_nil),fun _ _=>rfl⟩
theorem wQ.step {L F np go M:Nat→Nat} {pre:List (Nat×Nat)} {x:Nat×Nat} (h:wQ L F np go pre M) (h1:∀y∈pre,y.1+y.2≤x.1) (h2:∀y∈pre,go y.1+y.2≤go x.1) (h3:go x.1≤x.1):
  wQ L F np go (pre++[x]) (kM M F x.1 (go x.1) (np x.1) x.2):=by
 have hs:∀i,M (x.1+i)=L (x.1+i):=fun i=>h.still _ (fun y hy=>by have:=h1 y hy;omega)
 constructor
 ·intro y hy i hi;rcases List.mem_append.1 hy with hy|hy
  ·have h4:=h2 y hy;unfold kM;rw [if_neg (by omega)];exact h.went y hy i hi
  ·rw [List.mem_singleton.1 hy] at hi ⊢;unfold kM;rw [if_pos (by omega),show go x.1+i-go x.1=i by omega];unfold gB;rw [hs]
 ·intro k hk;have h4:=hk x (List.mem_append_right _ (List.mem_singleton.2 rfl));unfold kM;rw [if_neg (by omega)];exact h.still k (fun y hy=>hk y (List.mem_append_left _ hy))
structure AG where
 np:Nat→Nat
 nf:Nat→Nat
 ng:Nat→Nat
 fld:Nat→Nat→Nat
def AG.sz (A:AG) (x:Nat):Nat:=1+(A.np x+A.nf x+A.ng x)
def AG.gr (A:AG):Gr:=⟨A.sz,fun x=>(List.range (A.np x)).map (A.fld x)⟩
structure aP (A:AG) (rs:List Nat) (φ L:Nat→Nat) (lo hi:Nat):Prop where
 zero:φ 0=0
 one:1≤lo
 lies:∀x,Reach A.gr rs x→lo≤φ x∧φ x+A.sz x≤hi
 apart:∀x y,Reach A.gr rs x→Reach A.gr rs y→x≠y→φ x+A.sz x≤φ y∨φ y+A.sz y≤φ x
 head:∀x,Reach A.gr rs x→d9 L (φ x) (A.np x) (A.nf x) (A.ng x)
 ptr:∀x,Reach A.gr rs x→∀i,i<A.np x→L (φ x+1+i)=φ (A.fld x i)
 val:∀x,Reach A.gr rs x→∀i,A.np x≤i→i<A.np x+A.nf x+A.ng x→L (φ x+1+i)=A.fld x i∧A.fld x i<18446744073709551616
section
variable {A:AG} {rs:List Nat} {φ L:Nat→Nat} {lo hi:Nat}
theorem ea (φ:Nat→Nat) (y k:Nat):φ y+1+k=φ y+(1+k):=Nat.add_assoc _ _ _
theorem aP.inj (h:aP A rs φ L lo hi) {x y:Nat} (hx:Reach A.gr rs x) (hy:Reach A.gr rs y) (e:φ x=φ y):x=y:=by
 rcases Nat.lt_or_ge 0 1 with _|_
 ·by_cases hxy:x=y
  ·exact hxy
  ·have h1:1≤A.sz x:=by unfold AG.sz;omega
   have h2:1≤A.sz y:=by unfold AG.sz;omega
   rcases h.apart x y hx hy hxy with h3|h3<;>omega
 ·omega
theorem AG.ptr_reach {x i:Nat} (hx:Reach A.gr rs x) (hi:i<A.np x) (h0:A.fld x i≠0):Reach A.gr rs (A.fld x i):=
 .step hx (List.mem_map.2 ⟨i,List.mem_range.2 hi,rfl⟩) h0
theorem aP.pos (h:aP A rs φ L lo hi) {x:Nat} (hx:Reach A.gr rs x):1≤φ x:=by have:=(h.lies x hx).1;have:=h.one;omega
structure cv (A:AG) (rs:List Nat) (φ:Nat→Nat) (G:Gr):Prop where
 size:∀x,Reach A.gr rs x→G.size (φ x)=A.sz x
 some:∀a,G.size a≠0→∃x,Reach A.gr rs x∧φ x=a
 ptrs:∀x,Reach A.gr rs x→G.ptrs (φ x)=(List.range (A.np x)).map (fun i=>φ (A.fld x i))
theorem aP.conc (h:aP A rs φ L lo hi):∃G,cv A rs φ G:=by
 classical
 refine ⟨⟨fun a=>if h:∃x,Reach A.gr rs x∧φ x=a then A.sz h.choose else 0,fun a=>if h:∃x,Reach A.gr rs x∧φ x=a then (List.range (A.np h.choose)).map (fun i=>φ (A.fld h.choose i)) else []⟩,fun x hx=> ?_,fun a ha=> ?_,fun x hx=> ?_⟩
 ·have he:∃y,Reach A.gr rs y∧φ y=φ x:=⟨x,hx,rfl⟩;show (if h:∃y,Reach A.gr rs y∧φ y=φ x then A.sz h.choose else 0)=_
  rw [dif_pos he,h.inj he.choose_spec.1 hx he.choose_spec.2]
 ·by_cases he:∃y,Reach A.gr rs y∧φ y=a
  ·exact he
  ·exact absurd (dif_neg he) ha
 ·have he:∃y,Reach A.gr rs y∧φ y=φ x:=⟨x,hx,rfl⟩;show (if h:∃y,Reach A.gr rs y∧φ y=φ x then (List.range (A.np h.choose)).map (fun i=>φ (A.fld h.choose i)) else [])=_
  rw [dif_pos he,h.inj he.choose_spec.1 hx he.choose_spec.2]
variable {G:Gr}
theorem cv.reach (h:aP A rs φ L lo hi) (hc:cv A rs φ G) (a:Nat):Reach G (rs.map φ) a↔∃x,Reach A.gr rs x∧φ x=a:=by
 constructor
 ·intro hr
  induction hr with
  |root h1 h2=>
   obtain ⟨x,hx,rfl⟩:=List.mem_map.1 h1;exact ⟨x,.root hx (fun e=>h2 (by rw [e];exact h.zero)),rfl⟩
  |step _ h1 h2 ih=>
   obtain ⟨x,hx,rfl⟩:=ih;rw [hc.ptrs x hx] at h1;obtain ⟨i,hi,rfl⟩:=List.mem_map.1 h1;exact ⟨_,AG.ptr_reach hx (List.mem_range.1 hi) (fun e=>h2 (by rw [e];exact h.zero)),rfl⟩
 ·rintro ⟨x,hx,rfl⟩
  induction hx with
  |root h1 h2=>exact .root (List.mem_map.2 ⟨_,h1,rfl⟩) (by have:=h.pos (.root h1 h2);omega)
  | @step a p h0 h1 h2 ih=>
   obtain ⟨i,hi,rfl⟩:=List.mem_map.1 h1;exact .step ih (by rw [hc.ptrs a h0];exact List.mem_map.2 ⟨i,hi,rfl⟩) (by have:=h.pos (.step h0 h1 h2);omega)
theorem cv.sound (h:aP A rs φ L lo hi) (hc:cv A rs φ G):cg G (rs.map φ) hi:=by
 have hs:∀x,Reach A.gr rs x→G.size (φ x)≠0:=fun x hx=>by rw [hc.size x hx];unfold AG.sz;omega
 refine ⟨fun a b hab ha hb=> ?_,fun a ha=> ?_,fun a ha h0=> ?_,fun a ha p hp h0=> ?_⟩
 ·obtain ⟨x,hx,rfl⟩:=hc.some a ha;obtain ⟨y,hy,rfl⟩:=hc.some b hb;rw [hc.size x hx];rcases h.apart x y hx hy (fun e=>by subst e;omega) with h1|h1
  ·exact h1
  ·have:1≤A.sz y:=by unfold AG.sz;omega
   omega
 ·obtain ⟨x,hx,rfl⟩:=hc.some a ha;rw [hc.size x hx];exact (h.lies x hx).2
 ·obtain ⟨x,hx,rfl⟩:=(cv.reach h hc a).1 (.root ha h0);exact hs x hx
 ·obtain ⟨x,hx,rfl⟩:=hc.some a ha;obtain ⟨y,hy,rfl⟩:=(cv.reach h hc p).1 (.step ((cv.reach h hc _).2 ⟨x,hx,rfl⟩) hp h0);exact hs y hy
theorem cv.obj (h:aP A rs φ L lo hi) (hc:cv A rs φ G) {dom:Nat→Prop} (hd:∀a,lo≤a→a<hi→dom a) (hh:hi≤2147483648) (a:Nat) (ha:G.size a≠0):dy L dom G a:=by
 obtain ⟨x,hx,rfl⟩:=hc.some a ha;have hl:=h.lies x hx;refine ⟨A.np x,A.nf x,A.ng x,h.head x hx,hc.size x hx,?_,fun k h1 h2=>hd k (by omega) (by rw [hc.size x hx] at h2;omega),fun i hi=> ?_⟩
 ·rw [hc.ptrs x hx];exact List.map_congr_left (fun i hi=>(h.ptr x hx i (List.mem_range.1 hi)).symm)
 ·rw [h.ptr x hx i hi];by_cases h0:A.fld x i=0
  ·rw [h0,h.zero];omega
  ·have h1:=h.lies _ (AG.ptr_reach hx hi h0);have:1≤A.sz (A.fld x i):=by unfold AG.sz;omega
   omega
theorem cv.low (h:aP A rs φ L lo hi) (hc:cv A rs φ G) (a:Nat) (ha:G.size a≠0):lo≤a:=by
 obtain ⟨x,hx,rfl⟩:=hc.some a ha;exact (h.lies x hx).1
structure eM (A:AG) (rs:List Nat) (φ E:Nat→Nat):Prop where
 size:∀x,Reach A.gr rs x→E (φ x)=A.sz x
 some:∀a,E a≠0→∃x,Reach A.gr rs x∧φ x=a
theorem cv.ext (h:aP A rs φ L lo hi) (hc:cv A rs φ G) {E:Nat→Nat} (h1:∀a,E a≠0↔Reach G (rs.map φ) a) (h2:bU G (rs.map φ) E):eM A rs φ E:=
 ⟨fun x hx=>by rw [(h2 (φ x) ((h1 _).2 ((cv.reach h hc _).2 ⟨x,hx,rfl⟩))).2];exact hc.size x hx,fun a ha=>(cv.reach h hc a).1 ((h1 a).1 ha)⟩
def kN (F φ:Nat→Nat) (x:Nat):Nat:=if x=0 then 0 else F (φ x)
theorem aP.slide (h:aP A rs φ L lo hi) {E L':Nat→Nat} (hE:eM A rs φ E) {Ba:Nat} (hb:1≤Ba) (hL:∀x,Reach A.gr rs x→∀i,i<A.sz x→L' (goes E Ba (φ x)+i)=gB L (goes E Ba) (φ x) (A.np x) i):
  aP A rs (kN (goes E Ba) φ) L' Ba (Ba+cnt (aj E) 0 hi):=by
 have hm:∀x,Reach A.gr rs x→kN (goes E Ba) φ x=goes E Ba (φ x):=fun x hx=>if_neg hx.pos
 have hg:∀x,Reach A.gr rs x→goes E Ba (φ x)+A.sz x=goes E Ba (φ x+A.sz x):=fun x hx=>by
  rw [←hE.size x hx];exact (iV (Nat.le_refl _)).symm
 refine ⟨if_pos rfl,hb,fun x hx=> ?_,fun x y hx hy hxy=> ?_,fun x hx=> ?_,fun x hx i hi=> ?_,fun x hx i h1 h2=> ?_⟩
 ·rw [hm x hx];refine ⟨by unfold goes;omega,?_⟩;rw [hg x hx];exact eh (h.lies x hx).2
 ·rw [hm x hx,hm y hy,hg x hx,hg y hy];rcases h.apart x y hx hy hxy with h1|h1
  ·exact .inl (eh h1)
  ·exact .inr (eh h1)
 ·rw [hm x hx];have h1:=hL x hx 0 (by unfold AG.sz;omega);have h2:=h.head x hx;refine ⟨?_,h2.2⟩;rw [Nat.add_zero] at h1;rw [h1];unfold gB;rw [if_neg (by omega),Nat.add_zero];exact h2.1
 ·rw [hm x hx];have h1:=hL x hx (1+i) (by unfold AG.sz;omega);have h2:=h.ptr x hx i hi;rw [←Nat.add_assoc] at h1;rw [h1];unfold gB;rw [←Nat.add_assoc,h2];unfold kN;by_cases h0:A.fld x i=0
  ·rw [h0,h.zero,if_neg (by omega),if_pos rfl]
  ·have h3:=h.pos (AG.ptr_reach hx hi h0);rw [if_pos (by omega),if_neg h0]
 ·rw [hm x hx];have h3:=hL x hx (1+i) (by unfold AG.sz;omega);rw [←Nat.add_assoc] at h3;rw [h3];unfold gB;rw [if_neg (by omega),←Nat.add_assoc];exact h.val x hx i h1 h2
def aL (A:AG) (rs l:List Nat):Prop:=l.Nodup∧∀x,x∈l↔Reach A.gr rs x
def AG.Wd (A:AG) (l:List Nat):Nat:=(l.map A.sz).sum
theorem kH {A:AG} {φ:Nat→Nat} {N:Nat}:∀(l:List Nat) (E:Nat→Nat),l.Nodup→(∀x∈l,E (φ x)=A.sz x)→(∀a,E a≠0→∃x∈l,φ x=a)→(∀x∈l,∀y∈l,x≠y→φ x+A.sz x≤φ y∨φ y+A.sz y≤φ x)→(∀x∈l,φ x+A.sz x≤N)→
  cnt (aj E) 0 N=A.Wd l∧cnt (aU E) 0 N=l.length
 |[],E,_,_,h2,_,_=>by
  have h0:∀a,E a=0:=fun a=>by
   by_cases h:E a=0
   ·exact h
   ·obtain ⟨x,hx,_⟩:=h2 a h;exact absurd hx List.not_mem_nil
  refine ⟨aD (fun i _ _=> ?_),aD (fun i _ _=> ?_)⟩
  ·rw [Bool.eq_false_iff];intro h;obtain ⟨s,q1,q2⟩:=aQ.1 h;rw [h0] at q2;omega
  ·rw [Bool.eq_false_iff];intro h;exact bH.1 h (h0 i)
 |x::t,E,hn,h1,h2,h3,h4=>by
  obtain ⟨hnx,hnt⟩:=List.nodup_cons.1 hn;have hsz:∀y,1≤A.sz y:=fun y=>by unfold AG.sz;omega
  have hne:∀y∈t,φ y≠φ x:=fun y hy e=>by
   have h5:x≠y:=fun e=>hnx (e▸hy)
   have:=hsz x;have:=hsz y;rcases h3 x (List.mem_cons_self) y (List.mem_cons_of_mem _ hy) h5 with h6|h6<;>omega
  obtain ⟨E',hE'⟩:∃E',E'=fun a=>if a=φ x then 0 else E a:=⟨_,rfl⟩
  have hx1:=h1 x List.mem_cons_self;have hEE:E=bq E' (φ x) (A.sz x):=by
   funext a;unfold bq;split
   ·next e=>rw [e];exact hx1
   ·next e=>rw [hE'];exact (if_neg e).symm
  have hE0:E' (φ x)=0:=by rw [hE'];exact if_pos rfl
  have hEt:∀y∈t,E' (φ y)=A.sz y:=fun y hy=>by rw [hE'];show (if _ then _ else _)=_;rw [if_neg (hne y hy)];exact h1 y (List.mem_cons_of_mem _ hy)
  have hEs:∀a,E' a≠0→∃y∈t,φ y=a:=fun a ha=>by
   rw [hE'] at ha;have e:a≠φ x:=fun e=>ha (if_pos e)
   obtain ⟨y,hy,rfl⟩:=h2 a (fun h0=>ha (by show (if _ then _ else _)=_;rw [if_neg e];exact h0));rcases List.mem_cons.1 hy with rfl|hy
   ·exact absurd rfl e
   ·exact ⟨y,hy,rfl⟩
  obtain ⟨q1,q2⟩:=kH t E' hnt hEt hEs (fun y hy z hz=>h3 y (List.mem_cons_of_mem _ hy) z (List.mem_cons_of_mem _ hz)) (fun y hy=>h4 y (List.mem_cons_of_mem _ hy));have hx4:=h4 x List.mem_cons_self;have hxs:=hsz x;rw [hEE];constructor
  ·rw [mZ (by omega) (fun s hs=> ?_) (fun s hs h0=> ?_) hx4,q1]
   ·unfold AG.Wd;rw [List.map_cons,List.sum_cons];omega
   ·by_cases h0:E' s=0
    ·omega
    ·obtain ⟨y,hy,rfl⟩:=hEs s h0;rw [hEt y hy];have:=hsz y;rcases h3 x List.mem_cons_self y (List.mem_cons_of_mem _ hy) (fun e=>hnx (e▸hy)) with h6|h6<;>omega
   ·obtain ⟨y,hy,rfl⟩:=hEs s h0;have:=hsz y;rcases h3 x List.mem_cons_self y (List.mem_cons_of_mem _ hy) (fun e=>hnx (e▸hy)) with h6|h6<;>omega
  ·rw [gd (by omega) hE0 (by omega),q2,List.length_cons]
theorem aL.cnt (h:aP A rs φ L lo hi) {E:Nat→Nat} (hE:eM A rs φ E) {l:List Nat} (hl:aL A rs l):Go.Proofs.YthahbijbpinneaaGreatDoor.cnt (aj E) 0 hi=A.Wd l∧Go.Proofs.YthahbijbpinneaaGreatDoor.cnt (aU E) 0 hi=l.length:=
 kH l E hl.1 (fun x hx=>hE.size x ((hl.2 x).1 hx)) (fun a ha=>let ⟨x,h1,h2⟩:=hE.some a ha;⟨x,(hl.2 x).2 h1,h2⟩) (fun x hx y hy=>h.apart x y ((hl.2 x).1 hx) ((hl.2 y).1 hy)) (fun x hx=>(h.lies x ((hl.2 x).1 hx)).2)
theorem aP.less (h:aP A rs φ L lo hi) {rs':List Nat} (hr:∀z,Reach A.gr rs' z→Reach A.gr rs z):aP A rs' φ L lo hi:=
 ⟨h.zero,h.one,fun x hx=>h.lies x (hr x hx),fun x y hx hy=>h.apart x y (hr x hx) (hr y hy),fun x hx=>h.head x (hr x hx),fun x hx=>h.ptr x (hr x hx),fun x hx=>h.val x (hr x hx)⟩
theorem sh {G:Gr} {rs:List Nat} {i r z:Nat} (h0:r=0∨Reach G rs r) (h:Reach G (rs.set i r) z):Reach G rs z:=by
 induction h with
 |root h1 h2=>
  rcases List.mem_or_eq_of_mem_set h1 with h3|h3
  ·exact .root h3 h2
  ·subst h3;rcases h0 with h0|h0
   ·exact absurd h0 h2
   ·exact h0
 |step _ h1 h2 ih=>exact .step ih h1 h2
theorem aP.congr (h:aP A rs φ L lo hi) {L':Nat→Nat} (hL:∀k,lo≤k→k<hi→L' k=L k):aP A rs φ L' lo hi:=by
 have hk:∀x,Reach A.gr rs x→∀i,i<A.sz x→L' (φ x+i)=L (φ x+i):=fun x hx i hi=>by have:=h.lies x hx;exact hL _ (by omega) (by omega)
 refine ⟨h.zero,h.one,h.lies,h.apart,fun x hx=> ?_,fun x hx i hi=> ?_,fun x hx i h1 h2=> ?_⟩
 ·have:=h.head x hx;exact ⟨by have h1:L' (φ x)=L (φ x):=hk x hx 0 (by unfold AG.sz;omega);rw [h1];exact this.1,this.2⟩
 ·rw [ea,hk x hx (1+i) (by unfold AG.sz;omega),←ea φ _ _];exact h.ptr x hx i hi
 ·rw [ea,hk x hx (1+i) (by unfold AG.sz;omega),←ea φ _ _];exact h.val x hx i h1 h2
theorem aP.wide (h:aP A rs φ L lo hi) {hi':Nat} (h1:hi≤hi'):aP A rs φ L lo hi':=⟨h.zero,h.one,fun x hx=>⟨(h.lies x hx).1,by have:=(h.lies x hx).2;omega⟩,h.apart,h.head,h.ptr,h.val⟩
def AG.put (A:AG) (x i v:Nat):AG:={A with fld:=fun y k=>if y=x∧k=i then v else A.fld y k}
theorem AG.put_reach {x i v z:Nat} (hx:Reach A.gr rs x) (h0:A.np x≤i∨v=0∨Reach A.gr rs v) (h:Reach (A.put x i v).gr rs z):Reach A.gr rs z:=by
 induction h with
 |root h1 h2=>exact .root h1 h2
 | @step a p _ h1 h2 ih=>
  obtain ⟨k,hk,rfl⟩:=List.mem_map.1 h1;have hk:=List.mem_range.1 hk;by_cases e:a=x∧k=i
  ·have h3:(A.put x i v).fld a k=v:=if_pos e;rw [h3] at h2 ⊢;obtain ⟨rfl,rfl⟩:=e;rcases h0 with h0|h0|h0
   ·exact absurd (show k<A.np a from hk) (by omega)
   ·exact absurd h0 h2
   ·exact h0
  ·have h3:(A.put x i v).fld a k=A.fld a k:=if_neg e;rw [h3] at h2 ⊢;exact AG.ptr_reach ih hk h2
theorem aP.put_ptr (h:aP A rs φ L lo hi) {x i v:Nat} (hx:Reach A.gr rs x) (hix:i<A.np x) (h0:v=0∨Reach A.gr rs v):aP (A.put x i v) rs φ (bG L (φ x+1+i) (φ v)) lo hi:=by
 have hr:∀z,Reach (A.put x i v).gr rs z→Reach A.gr rs z:=fun z hz=>AG.put_reach hx (.inr h0) hz
 have hs:∀z,(A.put x i v).sz z=A.sz z:=fun z=>rfl
 have hu:∀y k,Reach A.gr rs y→k<A.sz y→¬(y=x∧k=1+i)→bG L (φ x+1+i) (φ v) (φ y+k)=L (φ y+k):=fun y k hy hk hne=>by
  unfold bG;refine if_neg (fun e=> ?_);by_cases hxy:y=x
  ·subst hxy;exact hne ⟨rfl,by omega⟩
  ·have:1+i<A.sz x:=by unfold AG.sz;omega
   rcases h.apart x y hx hy (Ne.symm hxy) with h1|h1<;>omega
 refine ⟨h.zero,h.one,fun y hy=>h.lies y (hr y hy),fun y z hy hz=>h.apart y z (hr y hy) (hr z hz),fun y hy=> ?_,fun y hy k hk=> ?_,fun y hy k h1 h2=> ?_⟩
 ·have h3:=h.head y (hr y hy);refine ⟨?_,h3.2⟩;have h4:bG L (φ x+1+i) (φ v) (φ y)=L (φ y):=hu y 0 (hr y hy) (by unfold AG.sz;omega) (by omega);rw [h4];exact h3.1
 ·by_cases e:y=x∧k=i
  ·obtain ⟨rfl,rfl⟩:=e;rw [show (A.put y k v).fld y k=v from if_pos ⟨rfl,rfl⟩];exact if_pos rfl
  ·rw [show (A.put x i v).fld y k=A.fld y k from if_neg e,ea φ y k,hu y (1+k) (hr y hy) (by have:k<A.np y:=hk;unfold AG.sz;omega) (by omega),←ea φ _ _];exact h.ptr y (hr y hy) k hk
 ·have h1':A.np y≤k:=h1;have h2':k<A.np y+A.nf y+A.ng y:=h2;have hne:¬(y=x∧k=i):=fun e=>by obtain ⟨rfl,rfl⟩:=e;omega
  rw [show (A.put x i v).fld y k=A.fld y k from if_neg hne,ea φ y k,hu y (1+k) (hr y hy) (by unfold AG.sz;omega) (by omega),←ea φ _ _];exact h.val y (hr y hy) k h1' h2'
def AG.new (A:AG) (n p f g:Nat):AG:=⟨fun y=>if y=n then p else A.np y,fun y=>if y=n then f else A.nf y,fun y=>if y=n then g else A.ng y,fun y k=>if y=n then 0 else A.fld y k⟩
theorem AG.new_other {n p f g y:Nat} (h:y≠n):(A.new n p f g).np y=A.np y∧(A.new n p f g).nf y=A.nf y∧(A.new n p f g).ng y=A.ng y∧(A.new n p f g).fld y=A.fld y∧(A.new n p f g).sz y=A.sz y:=by
 have h1:(A.new n p f g).np y=A.np y:=if_neg h;have h2:(A.new n p f g).nf y=A.nf y:=if_neg h;have h3:(A.new n p f g).ng y=A.ng y:=if_neg h;exact ⟨h1,h2,h3,funext fun k=>if_neg h,by unfold AG.sz;rw [h1,h2,h3]⟩
theorem AG.new_self (A:AG) (n p f g:Nat):(A.new n p f g).np n=p∧(A.new n p f g).nf n=f∧(A.new n p f g).ng n=g∧(∀k,(A.new n p f g).fld n k=0)∧(A.new n p f g).sz n=1+(p+f+g):=by
 have h1:(A.new n p f g).np n=p:=if_pos rfl;have h2:(A.new n p f g).nf n=f:=if_pos rfl;have h3:(A.new n p f g).ng n=g:=if_pos rfl;exact ⟨h1,h2,h3,fun k=>if_pos rfl,by unfold AG.sz;rw [h1,h2,h3]⟩
theorem AG.new_reach {n p f g s z:Nat} (hn:¬Reach A.gr rs n) (h:Reach (A.new n p f g).gr (rs.set s n) z):z=n∨Reach A.gr rs z:=by
 induction h with
 |root h1 h2=>
  rcases List.mem_or_eq_of_mem_set h1 with h3|h3
  ·exact .inr (.root h3 h2)
  ·exact .inl h3
 | @step a q _ h1 h2 ih=>
  obtain ⟨k,hk,rfl⟩:=List.mem_map.1 h1;rcases ih with rfl|ih
  ·exact absurd ((AG.new_self A a p f g).2.2.2.1 k) h2
  ·have hne:a≠n:=fun e=>hn (e▸ih)
   obtain ⟨e1,_,_,e4,_⟩:=AG.new_other (A:=A) (p:=p) (f:=f) (g:=g) hne;rw [e4] at h2 ⊢;exact .inr (AG.ptr_reach ih (by have:=List.mem_range.1 hk;rwa [e1] at this) h2)
theorem aP.new (h:aP A rs φ L lo hi) {n p f g s a hi':Nat} (h0:n≠0) (hn:¬Reach A.gr rs n) (hlo:lo≤hi) (ha:hi≤a) (hh:a+(1+(p+f+g))≤hi') (ho:bw p f g):
  aP (A.new n p f g) (rs.set s n) (fun y=>if y=n then a else φ y) (gI L a (eI p f g) (p+f+g)) lo hi':=by
 have hr:∀z,Reach (A.new n p f g).gr (rs.set s n) z→z≠n→Reach A.gr rs z:=fun z hz hne=>(AG.new_reach hn hz).resolve_left hne
 have hl:∀y k,Reach A.gr rs y→k<A.sz y→gI L a (eI p f g) (p+f+g) (φ y+k)=L (φ y+k):=fun y k hy hk=>by
  have:=(h.lies y hy).2;unfold gI;rw [if_neg (by omega),if_neg (by omega)]
 have self:=AG.new_self A n p f g;obtain ⟨s1,s2,s3,s4,s5⟩:=self;have hpos:=h.one;refine ⟨by rw [if_neg (Ne.symm h0)];exact h.zero,h.one,fun y hy=> ?_,fun y z hy hz hyz=> ?_,fun y hy=> ?_,fun y hy k hk=> ?_,fun y hy k h1 h2=> ?_⟩
 ·by_cases e:y=n
  ·subst e;rw [if_pos rfl,s5];omega
  ·obtain ⟨_,_,_,_,e5⟩:=AG.new_other (A:=A) (p:=p) (f:=f) (g:=g) e;rw [if_neg e,e5];have:=h.lies y (hr y hy e);omega
 ·by_cases e:y=n
  ·subst e;obtain ⟨_,_,_,_,e5⟩:=AG.new_other (A:=A) (p:=p) (f:=f) (g:=g) (Ne.symm hyz);rw [if_pos rfl,if_neg (Ne.symm hyz),e5];have:=h.lies z (hr z hz (Ne.symm hyz));right;omega
  ·obtain ⟨_,_,_,_,e5⟩:=AG.new_other (A:=A) (p:=p) (f:=f) (g:=g) e;rw [if_neg e,e5];have h1:=h.lies y (hr y hy e);by_cases e':z=n
   ·rw [if_pos e'];left;omega
   ·obtain ⟨_,_,_,_,e6⟩:=AG.new_other (A:=A) (p:=p) (f:=f) (g:=g) e';rw [if_neg e',e6];exact h.apart y z (hr y hy e) (hr z hz e') hyz
 ·by_cases e:y=n
  ·subst e;rw [if_pos rfl,s1,s2,s3];exact ⟨if_pos rfl,ho⟩
  ·obtain ⟨e1,e2,e3,_,_⟩:=AG.new_other (A:=A) (p:=p) (f:=f) (g:=g) e;rw [if_neg e,e1,e2,e3];have h1:=h.head y (hr y hy e);have h2:gI L a (eI p f g) (p+f+g) (φ y)=L (φ y):=hl y 0 (hr y hy e) (by unfold AG.sz;omega);exact ⟨by rw [h2];exact h1.1,h1.2⟩
 ·by_cases e:y=n
  ·subst e;rw [if_pos rfl,s4,if_neg (Ne.symm h0),h.zero];rw [s1] at hk;unfold gI;rw [if_neg (by omega),if_pos (by omega)]
  ·obtain ⟨e1,_,_,e4,_⟩:=AG.new_other (A:=A) (p:=p) (f:=f) (g:=g) e;rw [e1] at hk;have hry:=hr y hy e;rw [if_neg e,e4,ea φ y k,hl y (1+k) hry (by unfold AG.sz;omega),←ea φ _ _,h.ptr y hry k hk];have hne:A.fld y k≠n:=fun e'=>hn (e'▸AG.ptr_reach hry hk (by rw [e'];exact h0))
   rw [if_neg hne]
 ·by_cases e:y=n
  ·subst e;rw [if_pos rfl,s4];rw [s1,s2,s3] at h2;rw [s1] at h1;refine ⟨?_,by omega⟩;unfold gI;rw [if_neg (by omega),if_pos (by omega)]
  ·obtain ⟨e1,e2,e3,e4,_⟩:=AG.new_other (A:=A) (p:=p) (f:=f) (g:=g) e;rw [e1,e2,e3] at h2;rw [e1] at h1;have hry:=hr y hy e;rw [if_neg e,e4,ea φ y k,hl y (1+k) hry (by unfold AG.sz;omega),←ea φ _ _];exact h.val y hry k h1 h2
end
section
open Go.RowKit Go.Maps
theorem dP:Keyed Tryz.prog 3:=int_keyed (q:= .i64) Tryz.underlying3
def kI (q:Nat):Lit:= .int .i64 q
theorem wX {q:Nat} (h:q<4611686018427387904):(kI q).wf=true:=WalkArith.wf_i64 (by omega)
theorem fX {q:Nat} (h:q<4611686018427387904):keyOf Tryz.prog 3 (.int .i64 q)=some (kI q):=keyOf_int_mk Tryz.underlying3 (wX h)
theorem mU {q r:Nat} (h:q≠r):kI q≠kI r:=fun e=>by unfold kI at e;simp only [Lit.int.injEq,true_and] at e;omega
theorem tX {q:Nat} (h:q<4611686018427387904):WideAt.IsKeyLit (kI q):=dP.key (fX h)
section
variable {w w':World} {b n:Nat} {f:Nat→Option Nat}
def bK (w:World) (b n:Nat) (f:Nat→Option Nat):Prop:=
 ∃D:DataW Unit,w.ownsMap Tryz.prog 3 (plainElem Tryz.prog 3) b n D∧∀q,q<4611686018427387904→Maps.has D (kI q)=(f q).isSome∧D.atKey (kI q) (.lit (.int .i64 0))= .lit (.int .i64 (((f q).getD 0:Nat):Int))
theorem kT {k:TypeId} {R:Value→Option (DataW Unit×List MemPlace)} {D:DataW Unit} {T:Nat→Prop} (h:w.ownsMap Tryz.prog k R b n D) (hf:Fr T w w') (hn:¬T b):w'.ownsMap Tryz.prog k R b n D:=by
 obtain ⟨es,clock,hb,r⟩:=h;exact ⟨es,clock,hf.heap hb hn,r⟩
theorem bK.frame {T:Nat→Prop} (h:bK w b n f) (hf:Fr T w w') (hn:¬T b):bK w' b n f:=let ⟨D,h1,h2⟩:=h;⟨D,kT h1 hf hn,h2⟩
theorem bK.lt (h:bK w b n f):b<w.heap.size:=let ⟨_,h1,_⟩:=h;h1.lt
theorem im (w:World):bK (w.alloc (.map #[] 0)) w.heap.size 0 (fun _=>none):=
 ⟨.map [],World.ownsMap_made _ _ _ _,fun _ _=>⟨rfl,rfl⟩⟩
theorem nV (w:World):(zeroValue 3).run Tryz.prog w= .ok (.int .i64 0) w:=by kernel_rfl
theorem bK.look (h:bK w b n f) (q:Nat) (hq:q<4611686018427387904):(Instr.lookup 33 (.map (some b)) (.int .i64 q) false).run Tryz.prog w= .ok (.int .i64 (((f q).getD 0:Nat):Int)) w:=by
 obtain ⟨D,h1,h2⟩:=h;obtain ⟨c,hrun,hat,_⟩:=h1.lookup_int dP Tryz.underlying33 Tryz.underlying3 (nV w) (fX hq);rw [(h2 q hq).2] at hat;simp only [DataW.lit.injEq,Lit.int.injEq,true_and] at hat;rw [hrun,hat]
theorem bK.look_ok (h:bK w b n f) (q:Nat) (hq:q<4611686018427387904):(Instr.lookup 33 (.map (some b)) (.int .i64 q) true).run Tryz.prog w= .ok (.tuple #[.int .i64 (((f q).getD 0:Nat):Int),.bool (f q).isSome]) w:=by
 obtain ⟨D,h1,h2⟩:=h;obtain ⟨v,ps,hrun,hv⟩:=h1.look_ok dP Tryz.underlying33 (nV w) (plainElem_int Tryz.underlying3 (by decide)) (fX hq);rw [(h2 q hq).2] at hv;obtain ⟨a,rfl,h3,_⟩:=plainElem_int_inv Tryz.underlying3 hv;simp only [Prod.mk.injEq,DataW.lit.injEq,Lit.int.injEq,true_and] at h3;rw [hrun,(h2 q hq).1,h3.1]
def dg {α:Type} (f:Nat→Option α) (q:Nat) (x:α) (r:Nat):Option α:=if r=q then some x else f r
theorem bK.put (h:bK w b n f) (q x:Nat) (hq:q<4611686018427387904) (hx:x<4611686018427387904) (hn:n<4611686018427387904):
  ∃w',(Instr.mapUpdate 33 (.map (some b)) (.int .i64 q) (.int .i64 x)).run Tryz.prog w= .ok () w'∧bK w' b (if (f q).isSome then n else n+1) (dg f q x)∧Fr (fun k=>k=b) w w':=by
 obtain ⟨D,h1,h2⟩:=h;obtain ⟨w',hrun,r1,r2⟩:=h1.update dP Tryz.underlying33 (by unfold maxLen;omega) (fX hq) (plainElem_int Tryz.underlying3 (wX hx));refine ⟨w',hrun,⟨D.put (kI q) (.lit (kI x)),?_,fun r hr=> ?_⟩,(Fr.of_grown r2).mono (fun k hk=> .inl (by simpa using hk.symm))⟩
 ·obtain ⟨es,clock,e1,e2,e3,e4⟩:=r1;refine ⟨es,clock,e1,e2,?_,e4⟩;have e5:D.put (kI q) (.lit (kI x))=_:=e4;have hs1:Maps.size (D.put (kI q) (.lit (kI x)))=es.size:=by rw [e5];simp [Maps.size,length_sorted]
  have hs2:=size_put (h1.tidy dP) (k:=kI q) (.lit (kI x));have hs3:=h1.size_le;have hs4:=(h2 q hq).1;rw [hs4] at hs2;split<;>rename_i hc<;>simp only [hc,if_true,if_false,Bool.false_eq_true] at hs2<;>omega
 ·unfold dg;by_cases e:r=q
  ·subst e;rw [if_pos rfl];exact ⟨has_put_same h1.isMap (tX hq) _,atKey_put_same h1.isMap (tX hq) _ _⟩
  ·rw [if_neg e,has_put_other (mU e),atKey_put_other (mU e)];exact h2 r hr
end
def yI (v:Value):Option (DataW Unit×List MemPlace):=
 match v with
 | .agg a=>
  match a.toList with
  |[.int .i64 p,.int .i64 f,.int .i64 g]=>some (.agg [.lit (.int .i64 p),.lit (.int .i64 f),.lit (.int .i64 g)],[])
  |_=>none
 |_=>none
theorem tO (p f g:Int):yI (bP p f g)=some (.agg [.lit (.int .i64 p),.lit (.int .i64 f),.lit (.int .i64 g)],[]):=rfl
theorem vT {v:Value} {p f g:Int} {ps:List MemPlace} (h:yI v=some (.agg [.lit (.int .i64 p),.lit (.int .i64 f),.lit (.int .i64 g)],ps)):v=bP p f g:=by
 unfold yI at h;split at h
 ·rename_i a;split at h
  ·rename_i p' f' g' e;simp only [Option.some.injEq,Prod.mk.injEq,DataW.agg.injEq,List.cons.injEq,DataW.lit.injEq,Lit.int.injEq,true_and,and_true] at h;obtain ⟨⟨rfl,rfl,rfl⟩,_⟩:=h;unfold bP;rw [←e]
  ·cases h
 ·cases h
section
variable {w w':World} {b n:Nat} {f:Nat→Option (Nat×Nat×Nat)}
def nW (o:Option (Nat×Nat×Nat)):Nat×Nat×Nat:=o.getD (0,0,0)
def cN (w:World) (b n:Nat) (f:Nat→Option (Nat×Nat×Nat)):Prop:=
 ∃D:DataW Unit,w.ownsMap Tryz.prog 3 yI b n D∧∀q,q<4611686018427387904→D.atKey (kI q) (.agg [.lit (.int .i64 0),.lit (.int .i64 0),.lit (.int .i64 0)])= .agg [.lit (.int .i64 ((nW (f q)).1:Int)),.lit (.int .i64 ((nW (f q)).2.1:Int)),.lit (.int .i64 ((nW (f q)).2.2:Int))]
theorem cN.frame {T:Nat→Prop} (h:cN w b n f) (hf:Fr T w w') (hn:¬T b):cN w' b n f:=let ⟨D,h1,h2⟩:=h;⟨D,kT h1 hf hn,h2⟩
theorem cN.lt (h:cN w b n f):b<w.heap.size:=let ⟨_,h1,_⟩:=h;h1.lt
theorem rB (w:World):cN (w.alloc (.map #[] 0)) w.heap.size 0 (fun _=>none):=
 ⟨.map [],World.ownsMap_made _ _ _ _,fun _ _=>rfl⟩
theorem vf (w:World):(zeroValue 31).run Tryz.prog w= .ok (bP 0 0 0) w:=by kernel_rfl
theorem cN.look (h:cN w b n f) (q:Nat) (hq:q<4611686018427387904):(Instr.lookup 208 (.map (some b)) (.int .i64 q) false).run Tryz.prog w= .ok (bP ((nW (f q)).1:Int) ((nW (f q)).2.1:Int) ((nW (f q)).2.2:Int)) w:=by
 obtain ⟨D,h1,h2⟩:=h;obtain ⟨v,ps,hrun,hv⟩:=h1.lookup dP Tryz.underlying208 (vf w) (tO 0 0 0) (fX hq);rw [h2 q hq] at hv;rw [hrun,vT hv]
theorem cN.put (h:cN w b n f) (q p t g:Nat) (hq:q<4611686018427387904) (hn:n<4611686018427387904):
  ∃w',(Instr.mapUpdate 208 (.map (some b)) (.int .i64 q) (bP p t g)).run Tryz.prog w= .ok () w'∧cN w' b (n+1) (dg f q (p,t,g))∧Fr (fun k=>k=b) w w':=by
 obtain ⟨D,h1,h2⟩:=h;obtain ⟨w',hrun,r1,r2⟩:=h1.update dP Tryz.underlying208 (by unfold maxLen;omega) (fX hq) (tO p t g);refine ⟨w',hrun,⟨_,r1,fun r hr=> ?_⟩,(Fr.of_grown r2).mono (fun k hk=> .inl (by simpa using hk.symm))⟩;unfold dg;by_cases e:r=q
 ·subst e;rw [if_pos rfl];exact atKey_put_same h1.isMap (tX hq) _ _
 ·rw [if_neg e,atKey_put_other (mU e)];exact h2 r hr
end
end
theorem qs {a:Nat} {motive:(b:Nat)→a≤b→Prop} (Ba:motive a (Nat.le_refl a)) (succ:∀b (hb:a≤b),motive b hb→motive (b+1) (Nat.le_succ_of_le hb)):∀b (hab:a≤b),motive b hab:=by
 intro b hab
 induction hab with
 |refl=>exact Ba
 |step h ih=>exact succ _ h ih
theorem bc (f:Nat→Bool) (a:Nat):cnt f a a=0:=bC f (Nat.le_refl a)
theorem lz {f g:Nat→Bool} {a:Nat}:∀{b:Nat},a≤b→(∀i,a≤i→i<b→f i=true→g i=true)→cnt f a b≤cnt g a b:=by
 intro b hab
 induction b,hab using qs with
 |Ba=>intro _;rw [bc,bc];exact Nat.le_refl _
 |succ b hb ih=>
  intro h;rw [aC f hb,aC g hb];have h1:=ih (fun i h1 h2=>h i h1 (by omega));have h2:=h b hb (Nat.lt_succ_self b)
  cases hf:f b with
  |false=>simp only [Bool.false_eq_true,if_false];omega
  |true=>rw [h2 hf];simp only [if_true];omega
theorem ly {f g h:Nat→Bool} {a:Nat}:∀{b:Nat},a≤b→(∀i,a≤i→i<b→f i=(g i||h i))→(∀i,a≤i→i<b→g i=true→h i=false)→cnt f a b=cnt g a b+cnt h a b:=by
 intro b hab
 induction b,hab using qs with
 |Ba=>intro _ _;rw [bc,bc,bc]
 |succ b hb ih=>
  intro h1 h2;rw [aC f hb,aC g hb,aC h hb,ih (fun i q1 q2=>h1 i q1 (by omega)) (fun i q1 q2=>h2 i q1 (by omega)),h1 b hb (Nat.lt_succ_self b)];have h3:=h2 b hb (Nat.lt_succ_self b)
  cases hg:g b with
  |false=>
   cases hh:h b<;>simp
   omega
  |true=>
   rw [h3 hg];simp;omega
theorem vG {f:Nat→Bool} {a:Nat}:∀{b:Nat},a≤b→(∀i j,a≤i→i<j→j<b→f i=true→f j=true→False)→cnt f a b≤1:=by
 intro b hab
 induction b,hab using qs with
 |Ba=>intro _;rw [bc];omega
 |succ b hb ih=>
  intro h;rw [aC f hb]
  cases hf:f b with
  |false=>simp only [Bool.false_eq_true,if_false];exact ih (fun i j q1 q2 q3=>h i j q1 q2 (by omega))
  |true=>
   have h0:cnt f a b=0:=aD (fun i q1 q2=>by
    rw [Bool.eq_false_iff];exact fun hi=>h i b q1 q2 (Nat.lt_succ_self b) hi hf)
   rw [h0];simp
def eL (P:Nat) (f:Nat→Bool) (q:Nat):Bool:=(List.range P).any fun i=>f (q*P+i)
theorem aH {P:Nat} {f:Nat→Bool} {q:Nat} (hP:1≤P):eL P f q=true↔∃a,a/P=q∧f a=true:=by
 unfold eL;simp only [List.any_eq_true,List.mem_range];constructor
 ·rintro ⟨i,h1,h2⟩;refine ⟨q*P+i,?_,h2⟩;rw [Nat.mul_comm,Nat.mul_add_div (by omega),Nat.div_eq_of_lt h1,Nat.add_zero]
 ·rintro ⟨a,rfl,h⟩;refine ⟨a% P,Nat.mod_lt _ (by omega),?_⟩;rw [Nat.mul_comm,Nat.div_add_mod];exact h
theorem fF {P:Nat} {f:Nat→Bool} {q:Nat} (hP:1≤P):eL P f q=false↔∀a,a/P=q→f a=false:=by
 rw [Bool.eq_false_iff,ne_eq,aH hP];constructor
 ·intro h a ha;rw [Bool.eq_false_iff];exact fun hf=>h ⟨a,ha,hf⟩
 ·rintro h ⟨a,ha,hf⟩;rw [h a ha] at hf;cases hf
theorem qe (P:Nat) (f:Nat→Bool) (hP:1≤P):∀m,cnt f 0 (m*P)≤P*cnt (eL P f) 0 m
 |0=>by rw [Nat.zero_mul,bc];omega
 |m+1=>by
  have ih:=qe P f hP m;rw [Nat.succ_mul,aw f (Nat.zero_le (m*P)) (show m*P≤m*P+P by omega),aC (eL P f) (Nat.zero_le m),Nat.mul_add];have h1:=be f (m*P) (m*P+P)
  cases h:eL P f m with
  |true=>simp only [if_true];omega
  |false=>
   rw [aD (f:=f) (a:=m*P) (b:=m*P+P) (fun i q1 q2=>(fF hP).1 h i (by
    rw [show i=P*m+(i-m*P) by rw [Nat.mul_comm];omega,Nat.mul_add_div (by omega),Nat.div_eq_of_lt (by omega),Nat.add_zero]))]
   simp only [Bool.false_eq_true,if_false];omega
theorem mz (P:Nat) (f g:Nat→Bool):∀m,(∀r,r<m→g r=true→∀i,i<P→f (r*P+i)=true)→P*cnt g 0 m≤cnt f 0 (m*P)
 |0,_=>by rw [bc];omega
 |m+1,h=>by
  have ih:=mz P f g m (fun r hr=>h r (by omega));rw [Nat.succ_mul,aw f (Nat.zero_le (m*P)) (show m*P≤m*P+P by omega),aC g (Nat.zero_le m),Nat.mul_add]
  cases hg:g m with
  |false=>simp only [Bool.false_eq_true,if_false];omega
  |true=>
   rw [ib (f:=f) (a:=m*P) (b:=m*P+P) (fun i q1 q2=>by
    have:=h m (Nat.lt_succ_self m) hg (i-m*P) (by omega);rwa [show m*P+(i-m*P)=i by omega] at this)]
   simp only [if_true];omega
theorem qd (live D:Nat→Bool):∀m,cnt (fun a=>live a&&D (cnt live 0 a)) 0 m=cnt D 0 (cnt live 0 m)
 |0=>by rw [bc,bc,bc]
 |m+1=>by
  rw [aC _ (Nat.zero_le m),aC live (Nat.zero_le m),qd live D m]
  cases h:live m with
  |false=>simp
  |true=>
   simp only [Bool.true_and,if_true];rw [aC D (Nat.zero_le _)]
def eB (P:Nat) (live X:Nat→Bool):Nat→Bool:=eL P fun a=>live a&& !X (cnt live 0 a)
def fO (P N:Nat) (X:Nat→Bool):Nat→Bool:=eL P fun i=>decide (i<N)&&X i
def gz (P Q R N:Nat) (live X A:Nat→Bool):Nat:=cnt (eB P live X) 0 Q+cnt (fun r=>fO P N X r||A r) 0 R
theorem oK {P Q R N g:Nat} {live X A:Nat→Bool} (hP:1≤P) (hN:cnt live 0 (Q*P)=N) (hg:g≤N):
  gz P Q R N live (fun i=>X i||decide (i<g)) A≤gz P Q R N live X A+2:=by
 obtain ⟨X',hX'⟩:∃X':Nat→Bool,X'=fun i=>X i||decide (i<g):=⟨_,rfl⟩
 obtain ⟨D,hD⟩:∃D:Nat→Bool,D=fun i=>decide (i<g)&& !X i:=⟨_,rfl⟩
 rw [←hX'];have hXi:∀i,X' i=(X i||decide (i<g)):=fun i=>by rw [hX']
 have hDi:∀i,D i=(decide (i<g)&& !X i):=fun i=>by rw [hD]
 unfold gz;obtain ⟨nT,hnT⟩:∃nT:Nat→Bool,nT=fun r=>fO P N X' r&& !(fO P N X r||A r):=⟨_,rfl⟩
 have hnTi:∀r,nT r=(fO P N X' r&& !(fO P N X r||A r)):=fun r=>by rw [hnT]
 have hXX:∀i,X i=true→X' i=true:=fun i h=>by rw [hXi,h];rfl
 have htt:∀r,fO P N X r=true→fO P N X' r=true:=fun r h=>by
  obtain ⟨a,h1,h2⟩:=(aH hP).1 h;rw [Bool.and_eq_true] at h2;exact (aH hP).2 ⟨a,h1,by rw [Bool.and_eq_true];exact ⟨h2.1,hXX a h2.2⟩⟩
 have e1:cnt (fun r=>fO P N X' r||A r) 0 R=cnt (fun r=>fO P N X r||A r) 0 R+cnt nT 0 R:=by
  refine ly (Nat.zero_le R) (fun r _ _=> ?_) (fun r _ _ h=> ?_)
  ·rw [hnTi];have:=htt r
   cases h1:fO P N X r<;>cases h2:fO P N X' r<;>cases h3:A r<;>simp_all
  ·rw [hnTi,h];simp
 have hff:∀q,eB P live X' q=true→eB P live X q=true:=fun q h=>by
  obtain ⟨a,h1,h2⟩:=(aH hP).1 h;rw [Bool.and_eq_true,Bool.not_eq_true'] at h2;refine (aH hP).2 ⟨a,h1,?_⟩;rw [Bool.and_eq_true,Bool.not_eq_true'];refine ⟨h2.1,?_⟩;rw [Bool.eq_false_iff];exact fun h3=>by have:=hXX _ h3;rw [h2.2] at this;cases this
 obtain ⟨dr,hdr⟩:∃dr:Nat→Bool,dr=fun q=>eB P live X q&& !eB P live X' q:=⟨_,rfl⟩
 have hdri:∀q,dr q=(eB P live X q&& !eB P live X' q):=fun q=>by rw [hdr]
 have e2:cnt (eB P live X) 0 Q=cnt (eB P live X') 0 Q+cnt dr 0 Q:=by
  refine ly (Nat.zero_le Q) (fun q _ _=> ?_) (fun q _ _ h=> ?_)
  ·rw [hdri];have:=hff q
   cases h1:eB P live X q<;>cases h2:eB P live X' q<;>simp_all
  ·rw [hdri,h];simp
 obtain ⟨tc,htc⟩:∃tc:Nat→Bool,tc=eL P (fun a=>live a&&D (cnt live 0 a)):=⟨_,rfl⟩;have e3:cnt D 0 N≤P*cnt tc 0 Q:=by
  rw [←hN,←qd live D,htc];exact qe P _ hP Q
 obtain ⟨bd,hbd⟩:∃bd:Nat→Bool,bd=fun q=>tc q&& !dr q:=⟨_,rfl⟩
 have e4:cnt tc 0 Q≤cnt dr 0 Q+1:=by
  have h1:cnt tc 0 Q≤cnt (fun q=>dr q||bd q) 0 Q:=lz (Nat.zero_le Q) (fun q _ _ h=>by
   rw [hbd];show (dr q||(tc q&& !dr q))=true
   rw [h]
   cases dr q<;>rfl)
  have h2:cnt (fun q=>dr q||bd q) 0 Q=cnt dr 0 Q+cnt bd 0 Q:=ly (Nat.zero_le Q) (fun q _ _=>rfl) (fun q _ _ h=>by rw [hbd];show (tc q&& !dr q)=false;rw [h];simp);have h3:cnt bd 0 Q≤1:=by
   refine vG (Nat.zero_le Q) (fun i j _ hij _ hi hj=> ?_);rw [hbd] at hi hj;have hi2:tc i=true∧dr i=false:=by simpa using hi
   have hj1:tc j=true:=by
    have:tc j=true∧dr j=false:=by simpa using hj
    exact this.1
   rw [htc] at hi2 hj1;obtain ⟨a,a1,a2⟩:=(aH hP).1 hi2.1;obtain ⟨c,c1,c2⟩:=(aH hP).1 hj1;rw [Bool.and_eq_true,hDi,Bool.and_eq_true,decide_eq_true_eq] at a2 c2;have hfi:eB P live X i=true:=(aH hP).2 ⟨a,a1,by rw [Bool.and_eq_true];exact ⟨a2.1,a2.2.2⟩⟩;have hdi:=hi2.2;rw [hdri,hfi] at hdi;have hfi':eB P live X' i=true:=by simpa using hdi
   obtain ⟨b,b1,b2⟩:=(aH hP).1 hfi';rw [Bool.and_eq_true,hXi,Bool.not_eq_true',Bool.or_eq_false_iff,decide_eq_false_iff_not] at b2;have hbc:b≤c:=by
    rcases Nat.lt_or_ge c b with h|h
    ·have:=Nat.div_le_div_right (c:=P) (Nat.le_of_lt h);omega
    ·exact h
   have:=cQ live (a:=0) hbc;omega
  omega
 have e5:P*cnt nT 0 R≤cnt D 0 N+P:=by
  obtain ⟨m,hm⟩:∃m,g/P=m:=⟨_,rfl⟩;have hm1:m*P≤g:=by rw [←hm];exact Nat.div_mul_le_self g P
  have hoff:∀r,m<r→nT r=false:=fun r hr=>by
   rw [hnTi]
   cases h1:fO P N X' r with
   |false=>rfl
   |true=>
    obtain ⟨a,a1,a2⟩:=(aH hP).1 h1;rw [Bool.and_eq_true,hXi,Bool.or_eq_true,decide_eq_true_eq,decide_eq_true_eq] at a2;have hga:g≤a:=by
     rcases Nat.lt_or_ge a g with h|h
     ·have:=Nat.div_le_div_right (c:=P) (Nat.le_of_lt h);omega
     ·exact h
    have h2:fO P N X r=true:=(aH hP).2 ⟨a,a1,by
     rw [Bool.and_eq_true,decide_eq_true_eq];exact ⟨a2.1,by rcases a2.2 with h|h;exact h;omega⟩⟩
    rw [h2];simp
  have h1:cnt nT 0 R≤cnt nT 0 m+1:=by
   rcases Nat.lt_or_ge m R with h|h
   ·rw [aw nT (Nat.zero_le (m+1)) (show m+1≤R from h),aD (f:=nT) (a:=m+1) (b:=R) (fun i q1 _=>hoff i q1),aC nT (Nat.zero_le m)];split<;>omega
   ·have:=cQ nT (a:=0) h;omega
  have h2:P*cnt nT 0 m≤cnt D 0 (m*P):=by
   refine mz P D nT m (fun r hr h i hi=> ?_);have hri:r*P+i<m*P:=by
    have:(r+1)*P≤m*P:=Nat.mul_le_mul_right P hr;rw [Nat.succ_mul] at this;omega
   rw [hnTi] at h;have h3:fO P N X r=false:=by
    have:fO P N X' r=true∧(fO P N X r=false∧A r=false):=by simpa using h
    exact this.2.1
   have h4:=(fF hP).1 h3 (r*P+i) (by rw [Nat.mul_comm,Nat.mul_add_div (by omega),Nat.div_eq_of_lt hi,Nat.add_zero]);rw [show decide (r*P+i<N)=true from decide_eq_true (by omega),Bool.true_and] at h4;rw [hDi,h4,decide_eq_true (by omega:r*P+i<g)];rfl
  have h3:=cQ D (a:=0) (show m*P≤N by omega);have h4:P*cnt nT 0 R≤P*(cnt nT 0 m+1):=Nat.mul_le_mul_left P h1;rw [Nat.mul_add] at h4;omega
 have e6:P*cnt nT 0 R≤P*(cnt dr 0 Q+2):=by
  have h1:P*cnt tc 0 Q≤P*(cnt dr 0 Q+1):=Nat.mul_le_mul_left P e4;rw [Nat.mul_add] at h1 ⊢;omega
 have e7:=Nat.le_of_mul_le_mul_left e6 (by omega);omega
def pu (B P:Nat):Nat:=max (B/P) 1
def ec (B P N k:Nat) (r:Nat):Bool:=eL P (fun i=>decide (i<N)&&decide (i/B=k)) r
theorem ra {f:Nat→Bool} {R u v:Nat} (h:∀r,f r=true→u≤r∧r<v):cnt f 0 R≤v-u:=by
 rcases Nat.lt_or_ge u R with h1|h1
 ·rw [aw f (Nat.zero_le u) (Nat.le_of_lt h1),aD (f:=f) (a:=0) (b:=u) (fun i _ h2=>by rw [Bool.eq_false_iff];exact fun hf=>by have:=(h i hf).1;omega)];rcases Nat.lt_or_ge v R with h2|h2
  ·rcases Nat.lt_or_ge v u with h3|h3
   ·rw [aD (f:=f) (a:=u) (b:=R) (fun i q1 _=>by rw [Bool.eq_false_iff];exact fun hf=>by have:=h i hf;omega)];omega
   ·rw [aw f h3 (Nat.le_of_lt h2),aD (f:=f) (a:=v) (b:=R) (fun i q1 _=>by rw [Bool.eq_false_iff];exact fun hf=>by have:=h i hf;omega)];have:=be f u v;omega
  ·have:=be f u R;omega
 ·rw [aD (f:=f) (a:=0) (b:=R) (fun i _ q2=>by rw [Bool.eq_false_iff];exact fun hf=>by have:=h i hf;omega)];omega
theorem ji {B P N k r:Nat} (hP:1≤P) (hB:1≤B) (hd:P∣B∨B∣P) (h:ec B P N k r=true):k*B/P≤r∧r<k*B/P+pu B P:=by
 obtain ⟨i,h1,h2⟩:=(aH hP).1 h;rw [Bool.and_eq_true,decide_eq_true_eq,decide_eq_true_eq] at h2;have h3:k*B≤i:=by rw [←h2.2];exact Nat.div_mul_le_self i B
 have h4:i<k*B+B:=by
  have h5:=Nat.div_add_mod i B;have h6:=Nat.mod_lt i (show 0<B by omega);rw [h2.2,Nat.mul_comm] at h5;omega
 refine ⟨by rw [←h1];exact Nat.div_le_div_right h3,?_⟩;unfold pu;rcases hd with ⟨c,rfl⟩|⟨c,rfl⟩
 ·rw [Nat.mul_div_cancel_left c (by omega),show k*(P*c)=P*(k*c) by rw [Nat.mul_left_comm],Nat.mul_div_cancel_left _ (by omega),←h1];have h5:i<P*(k*c+c):=by rw [Nat.mul_add];rw [show k*(P*c)=P*(k*c) by rw [Nat.mul_left_comm]] at h4;exact h4
  have:=Nat.div_lt_of_lt_mul h5;omega
 ·have h5:i/(B*c)=k/c:=by rw [←Nat.div_div_eq_div_mul,h2.2]
  have h6:k*B/(B*c)=k/c:=by rw [←Nat.div_div_eq_div_mul,Nat.mul_div_cancel _ (by omega)]
  rw [h6,←h5,h1];omega
theorem qY {B P N k R:Nat} (hP:1≤P) (hB:1≤B) (hd:P∣B∨B∣P):cnt (ec B P N k) 0 R≤pu B P:=by
 have:=ra (f:=ec B P N k) (R:=R) (u:=k*B/P) (v:=k*B/P+pu B P) (fun r h=>ji hP hB hd h);omega
theorem kt (f g:Nat→Bool):∀R,cnt (fun r=>f r||g r) 0 R≤cnt f 0 R+cnt g 0 R
 |0=>by rw [bc];omega
 |R+1=>by
  have:=kt f g R;rw [aC _ (Nat.zero_le R),aC f (Nat.zero_le R),aC g (Nat.zero_le R)]
  cases f R<;>cases g R<;>simp<;>omega
theorem ru {P Q R N B:Nat} {live A:Nat→Bool} {X:Nat→Bool} {mv:Nat→Bool} (hP:1≤P) (hB:1≤B) (hd:P∣B∨B∣P) (f:Nat):∀n,f≤n→
  gz P Q R N live (fun i=>X i||(decide (f≤i/B)&&decide (i/B<n)&&mv (i/B))) A≤gz P Q R N live X A+pu B P*cnt mv f n:=by
 intro n hn
 induction n,hn using qs with
 |Ba=>
  have:(fun i=>X i||(decide (f≤i/B)&&decide (i/B<f)&&mv (i/B)))=X:=by
   funext i;have:(decide (f≤i/B)&&decide (i/B<f))=false:=by
    rw [Bool.and_eq_false_iff,decide_eq_false_iff_not,decide_eq_false_iff_not];omega
   rw [this,Bool.false_and,Bool.or_false]
  rw [this];omega
 |succ n hn ih=>
  rw [aC mv hn,Nat.mul_add];have hx:∀i,(X i||(decide (f≤i/B)&&decide (i/B<n+1)&&mv (i/B)))=((X i||(decide (f≤i/B)&&decide (i/B<n)&&mv (i/B)))||(decide (i/B=n)&&mv n)):=fun i=>by
   by_cases e:i/B=n
   ·rw [e];simp [hn]
   ·have h1:decide (i/B<n+1)=decide (i/B<n):=by rw [decide_eq_decide];omega
    rw [h1,decide_eq_false e,Bool.false_and,Bool.or_false]
  cases hm:mv n with
  |false=>
   have:(fun i=>X i||(decide (f≤i/B)&&decide (i/B<n+1)&&mv (i/B)))=(fun i=>X i||(decide (f≤i/B)&&decide (i/B<n)&&mv (i/B))):=by
    funext i;rw [hx,hm,Bool.and_false,Bool.or_false]
   rw [this];simp only [Bool.false_eq_true,if_false,Nat.mul_zero,Nat.add_zero];exact ih
  |true=>
   simp only [if_true,Nat.mul_one];obtain ⟨Y,hY⟩:∃Y:Nat→Bool,Y=(fun i=>X i||(decide (f≤i/B)&&decide (i/B<n)&&mv (i/B))):=⟨_,rfl⟩;have hZ:(fun i=>X i||(decide (f≤i/B)&&decide (i/B<n+1)&&mv (i/B)))=fun i=>Y i||decide (i/B=n):=by
    funext i;rw [hx,hm,Bool.and_true,hY]
   rw [hZ];rw [←hY] at ih;have h1:cnt (eB P live (fun i=>Y i||decide (i/B=n))) 0 Q≤cnt (eB P live Y) 0 Q:=lz (Nat.zero_le Q) (fun q _ _ h=>by
    obtain ⟨a,a1,a2⟩:=(aH hP).1 h;rw [Bool.and_eq_true,Bool.not_eq_true',Bool.or_eq_false_iff] at a2;exact (aH hP).2 ⟨a,a1,by rw [Bool.and_eq_true,Bool.not_eq_true'];exact ⟨a2.1,a2.2.1⟩⟩)
   have h2:cnt (fun r=>fO P N (fun i=>Y i||decide (i/B=n)) r||A r) 0 R≤cnt (fun r=>(fO P N Y r||A r)||ec B P N n r) 0 R:=lz (Nat.zero_le R) (fun r _ _ h=>by
    rw [Bool.or_eq_true] at h;rcases h with h|h
    ·obtain ⟨a,a1,a2⟩:=(aH hP).1 h;rw [Bool.and_eq_true,Bool.or_eq_true] at a2;rcases a2.2 with h3|h3
     ·have:fO P N Y r=true:=(aH hP).2 ⟨a,a1,by rw [Bool.and_eq_true];exact ⟨a2.1,h3⟩⟩;rw [this];rfl
     ·have:ec B P N n r=true:=(aH hP).2 ⟨a,a1,by rw [Bool.and_eq_true];exact ⟨a2.1,h3⟩⟩;rw [this,Bool.or_true]
    ·rw [h,Bool.or_true,Bool.true_or])
   have h3:cnt (fun r=>(fO P N Y r||A r)||ec B P N n r) 0 R≤cnt (fun r=>fO P N Y r||A r) 0 R+cnt (ec B P N n) 0 R:=kt _ _ R;have h4:=qY (N:=N) (k:=n) (R:=R) hP hB hd;unfold gz at ih ⊢;omega
structure Cy where
 y:Nat
 m:Nat
 from_:Nat
 top:Nat
 to_:Nat
 Lm:Nat
 B:Nat
 stack:Nat
 Ah:Nat
 pl:Nat
 EL:aI
 mv:Nat
 nb:Nat
 wb:Nat
 sb:Nat
 lo:Nat
 hi:Nat
def Cy.cells (c:Cy) (left fr ah:Nat):List Value:=[.pointer (some ⟨c.m,0,none⟩),.int .i64 (c.from_:Int),.int .i64 (c.top:Int),.int .i64 (c.to_:Int),.int .i64 (c.Lm:Int),.int .i64 (c.B:Int),.int .i64 (c.stack:Int),.int .i64 (c.Ah:Int),.pointer (some ⟨c.pl,0,none⟩),.pointer (some ⟨c.EL.m,0,none⟩),.slice (some ⟨c.mv,0,none⟩) c.nb c.nb,.int .i64 left,.int .i64 fr,.int .i64 ah,.map (some c.wb),.map (some c.sb)]
def sK (w:World) (c:Cy) (left fr ah:Nat):Prop:=ak w c.y (c.cells left fr ah) 210
section
variable {w:World} {c:Cy} {left fr ah:Nat}
theorem ss (h:sK w c left fr ah):Calls Tryz.prog 80 #[c.y] w fun e w'=>e= .returned (.int .i64 left)∧w=w':=by
 have c0:=h.cell 11 rfl;clear h
 go_enter Tryz.func80,Tryz.ntmps80
 go_wp2;go_ret;exact ⟨rfl,rfl⟩
theorem nG (h:sK w c left fr ah):Calls Tryz.prog 81 #[c.y] w fun e w'=>e= .returned (.int .i64 (c.nb:Int))∧w=w':=by
 have c0:=h.cell 10 rfl;clear h
 go_enter Tryz.func81,Tryz.ntmps81
 go_wp2;go_ret;exact ⟨rfl,rfl⟩
theorem sq (h:sK w c left fr ah):Calls Tryz.prog 132 #[c.y] w fun e w'=>e= .returned (.bool (decide (left=0)))∧w=w':=by
 have HL:=ae (ss h);have hd:((left:Int)==0)=decide (left=0):=by
  by_cases h0:left=0
  ·subst h0;rfl
  ·rw [decide_eq_false h0,beq_eq_false_iff_ne];omega
 clear h
 go_enter Tryz.func132,Tryz.ntmps132
 go_wp2_with fail
 refine (HL.out).mono ?_;rintro e w' ⟨rfl,rfl⟩;go_wp2;go_ret;exact ⟨rfl,rfl⟩
variable {E:Nat→Nat} {W:Nat}
theorem uZ (h:sK w c left fr ah) (hp:ca c.lo c.hi w c.pl W c.B E c.to_) (hb:c.to_≤1048576):Calls Tryz.prog 130 #[c.y] w fun e w'=>e= .returned (.int .i64 ((c.to_+cnt (aj E) 0 W:Nat):Int))∧Fr (fun _=>False) w w':=by
 have HF:=ae (dt hp);have HT:=ae (fun p (h:cB c.lo c.hi w p W c.B E c.to_)=>ef h hb);have c0:=h.cell 8 rfl;clear h hp
 go_enter Tryz.func130,Tryz.ntmps130
 go_wp2_with fail
 refine (HF.out).mono ?_;rintro e w' ⟨⟨p,rfl,hq⟩,rfl⟩;have HT2:=ae (HT.out p hq);clear hq HT HF;go_wp2_with fail
 refine (HT2.out).mono ?_;rintro e w' ⟨rfl,hf⟩;have H:=ae hf;clear hf HT2;go_wp2;go_ret;exact ⟨rfl,H.out⟩
theorem qF (h:sK w c left fr ah) (hp:ca c.lo c.hi w c.pl W c.B E c.to_) (hb:c.to_≤1048576) (a:Nat) (ha:aj E a=true) (haW:a<W):Calls Tryz.prog 194 #[c.y,.int .i64 a] w fun e w'=>e= .returned (.int .i64 ((goes E c.to_ a:Nat):Int))∧Fr (fun _=>False) w w':=by
 have HF:=ae (dt hp);have HT:=ae (fun p (h:cB c.lo c.hi w p W c.B E c.to_)=>lC h hb a ha haW);have c0:=h.cell 8 rfl;clear h hp;generalize goes E c.to_ a=Y at*
 go_enter Tryz.func194,Tryz.ntmps194
 go_wp2_with fail
 refine (HF.out).mono ?_;rintro e w' ⟨⟨p,rfl,hq⟩,rfl⟩;have HT2:=ae (HT.out p hq);clear hq HT HF;go_wp2_with fail
 refine (HT2.out).mono ?_;rintro e w' ⟨rfl,hf⟩;have H:=ae hf;clear hf HT2;go_wp2;go_ret;exact ⟨rfl,H.out⟩
theorem lS (p f g:Nat) (ho:bw p f g) (i:Nat) (hi:i<1048576) (w:World):Calls Tryz.prog 273 #[bP p f g,.int .i64 i] w fun e w'=>e= .returned (.bool (decide (1≤i∧i≤p)))∧Fr (fun _=>False) w w':=by
 have HK:=ae (fun w1=>ik p f g ((i:Int)-1) ho w1);have hk:(cJ p f g ((i:Int)-1)==1)=decide (1≤i∧i≤p):=by
  unfold cJ;rw [cu,if_pos ho];by_cases h1:1≤i∧i≤p
  ·rw [if_neg (by omega),if_pos (by omega),decide_eq_true h1];rfl
  ·rw [decide_eq_false h1];split
   ·rfl
   ·rw [if_neg (by omega)];split<;>rfl
 have hw:IntKind.i64.wrap ((i:Int)-1)=(i:Int)-1:=by rw [IntKind.wrap_i64];omega
 unfold dN bP at*;generalize cJ p f g ((i:Int)-1)=K at*;generalize decide (1≤i∧i≤p)=D at*;clear ho hi
 go_enter Tryz.func273,Tryz.ntmps273
 go_wp2_with fail
 refine (HK.out _).mono ?_;rintro e w1 ⟨rfl,hf⟩;have H:=ae hf;clear hf HK;go_wp2;go_ret;exact ⟨by rw [←hk];rfl,((Fr.refl _ w).alloc _).trans H.out (fun _ h=>h.elim)⟩
end
end Go.Proofs.YthahbijbpinneaaGreatDoor
