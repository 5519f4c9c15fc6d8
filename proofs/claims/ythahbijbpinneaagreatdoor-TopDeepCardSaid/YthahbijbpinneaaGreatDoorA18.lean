import Derived.Test.YthahbijbpinneaaGreatDoorA2
import Derived.Test.YthahbijbpinneaaGreatDoorA8
import Derived.Test.YthahbijbpinneaaGreatDoorA13
import Derived.Test.YthahbijbpinneaaGreatDoorA16
import Derived.Test.YthahbijbpinneaaGreatDoorA17
import Derived.OrdersIn
import Derived.TacticsIn
set_option maxRecDepth 100000
set_option maxHeartbeats 8000000
set_option linter.all false
namespace Go.Proofs.YthahbijbpinneaaGreatDoor
open Go.RowKit
theorem vc {w:World} {a:Addr} {x:Option Addr} (h:w.cell? a=some (.pointer x)):(loadVar 132 a).run Tryz.prog w= .ok (.pointer x) w:=by
 go_simp
section
variable {m b g Pg W Fs Us Hg:Nat} {S:Nat->Prop} {mp:Nat->Bool} {L:Nat->Nat} {ls:List Nat} {G:Gr} {w:World}
attribute [local go_sem] Oper.semAt_some
theorem oJ (d:Nat) (hi:bm m Pg W Fs Us Hg mp L S w) (hr:aV w b g ls) (hT:bv w) (c0:¬S aN) (F Tp T O B Rm P:Nat) (hc:gw Pg W F Tp T O B Rm P) (hG:cu G ls Tp) (hO:∀a,G.size a≠0->dL L (aY W Pg mp) G a) (c8:∀a,G.size a≠0->F<=a):
  CallsIn Fence.wide d Tryz.prog 189 #[m,.pointer (some ⟨b,0,none⟩),cP F Tp T O B Rm P] w (zZ m Pg W Fs Us Hg mp L S G ls w):=by
 refine callsIn_of_wp_marks Tryz.func189 rfl trivial ?_ rfl;simp only [Tryz.ntmps189,List.size_toArray,List.length_cons,List.length_nil,Nat.reduceAdd,Nat.reduceSub,Array.replicate_succ,Array.replicate_zero,List.push_toArray,List.append_toArray,List.nil_append,List.cons_append];have d6:Hid (∀F Tp T O B J P:Nat,cP F Tp T O B J P= .agg #[.int .i64 F,.int .i64 Tp,.int .i64 T,.int .i64 O,.int .i64 B,.int .i64 J,.int .i64 P]):=by
  show∀F Tp T O B J P:Nat,_
  intros;rfl
 have ap:=aF m Pg W Fs Us Hg mp;obtain ⟨e1,e2,e3,e4,e5,e6,e7,e8,es⟩:=hi.choose_spec.1.at;clear e1 e2 e4 e5 e6 e7 e8;have dm:=ap.lt _ _ _ hi;have dk:=hr.small;obtain ⟨W1,z⟩:∃W1,((w.alloc (.cells #[.int .i64 F,.int .i64 Tp,.int .i64 T,.int .i64 O,.int .i64 B,.int .i64 Rm,.int .i64 P] 143)).alloc (.cells #[.pointer none] 132)).alloc (.cells #[.int .i64 0] 28)=W1:=⟨_,rfl⟩;have am:Fr (fun _=>False) w W1:=by rw [<-z];exact (((Fr.refl _ w).alloc _).alloc _).alloc _
 have y:Hid (W1.heap.size=w.heap.size+3):=by
  show _=_
  rw [<-z,World.size_alloc,World.size_alloc,World.size_alloc]
 have t:aj W1 w.heap.size [.int .i64 F,.int .i64 Tp,.int .i64 T,.int .i64 O,.int .i64 B,.int .i64 Rm,.int .i64 P] 143:=by rw [<-z];exact ((aj.new w _ _).alloc _).alloc _
 have bj:aj W1 (w.heap.size+1) [.pointer none] 132∧aj W1 (w.heap.size+1+1) [.int .i64 0] 28:=by
  rw [<-z];refine ⟨?_,?_⟩
  ·have:=(aj.new (w.alloc (.cells #[.int .i64 F,.int .i64 Tp,.int .i64 T,.int .i64 O,.int .i64 B,.int .i64 Rm,.int .i64 P] 143)) [.pointer none] 132).alloc (.cells #[.int .i64 0] 28);rwa [World.size_alloc] at this
  ·have:=aj.new ((w.alloc (.cells #[.int .i64 F,.int .i64 Tp,.int .i64 T,.int .i64 O,.int .i64 B,.int .i64 Rm,.int .i64 P] 143)).alloc (.cells #[.pointer none] 132)) [.int .i64 0] 28;rwa [World.size_alloc,World.size_alloc] at this
 have U:=ae bj;clear bj;have c9:=hr.frame am (fun h=>h) (fun h=>h);have cy:=ae (cL (hi.choose_spec.1.keep am));unfold cP;have av:=ae am;have ct:=ae c9;have cx:=ae (ak hT am (fun h=>h));have d3:=ae t;have j:=ae (af hi (af hr (af hT (af c0 (af hc (af hG (af hO (af c8 (af hc (af ap (af dm dk)))))))))));have e0:W<=1048576:=by omega
 have k0:=t.cell 0 rfl;have k1:=t.cell 1 rfl;have k2:=t.cell 2 rfl;have k3:=t.cell 3 rfl;have k4:=t.cell 4 rfl;have k5:=t.cell 5 rfl;have k6:=t.cell 6 rfl;clear hi hr hT c0 hc hG hO c8 ap dm dk am t c9 d6 e3 k0 k1 k2 k3 k4 k5 k6;gi_wp2;clear z;refine bx ((cy.out).mono ?_);rintro e w' ⟨rfl,rfl⟩;have cs:=ae (gR W es e0 W1);have v:=ae (Fr.refl (fun _=>False) W1);clear cy;gi_wp2;refine bx ((cs.out).mono ?_);rintro e w2 ⟨EL,rfl,he,hn,hf⟩;clear cs;have u:=ae (af he (af hn hf));have c:=v.out.trans hf (fun _ h=>h.elim);have cf:=ae (d3.out.frame c (fun h=>h));have V:=ae (fun w' (hf:Fr (fun _=>False) w2 w')=>(cf.out.frame hf (fun h=>h)).cell 5 rfl);have cd:=ae (fun w' (hf:Fr (fun _=>False) w2 w')=>io ((ct.out.frame c (fun h=>h) (fun h=>h)).frame hf (fun h=>h) (fun h=>h)));have bs:=ae (vi (EL:=EL) (w2:=w2) (Rm:=Rm) (G:=G) (ls:=ls) (Tp:=Tp) j.out.1 j.out.2.2.1 j.out.2.2.2.1 j.out.2.2.2.2.2.1 j.out.2.2.2.2.2.2.1 j.out.2.2.2.2.1.F3 j.out.2.2.2.2.1.s1 j.out.2.2.2.2.1.s2 ((av.out).trans c (fun _ h=>h.elim)) he (fun k p=>by have Q:=hn k p;have h2:W1.heap.size=w.heap.size+3:=y.out;have h3:=v.out.size;omega) (j.out.2.2.2.2.2.2.2.2.2.2.2) w.heap.size (by have Q:W1.heap.size=w.heap.size+3:=y.out;have h2:=c.size;omega));have X:=ae ((Fr.refl (fun _=>False) w2).drew);have Y:=ae (fun o=>((Fr.refl (fun _=>False) w2).alloc o).drew);have q:=ae (show (∀k,S k->k<w2.heap.size)∧(∀k,EL.has k->k<w2.heap.size)∧w2.heap.size≥w.heap.size+3 from ⟨fun k p=>by have Q:k<w.heap.size:=j.out.2.2.2.2.2.2.2.2.2.2.1 k p;have h2:=av.out.size;have h3:=c.size;omega,fun k p=>he.lt k p,by have h2:W1.heap.size=w.heap.size+3:=y.out;have h3:=c.size;omega⟩);have cp:Hid (w2.heap.size≠w.heap.size):=ae (by have Q:=aD (V.out w2 (Fr.refl _ _));exact Nat.ne_of_gt Q);have N:=ae (show¬S w.heap.size∧¬EL.has w.heap.size from af (fun h=>by have Q:w.heap.size<w.heap.size:=j.out.2.2.2.2.2.2.2.2.2.2.1 _ h;omega) (fun h=>by have Q:=hn _ h;have h2:W1.heap.size=w.heap.size+3:=y.out;have h3:=v.out.size;omega));clear he hn hf c;gi_wp2;refine wpIn_wide.2 ?_
 go_cut [10,11] from 14 to 50 (fun fa fh wx=>∃(sb:Nat) (J:dC),fa= .pointer (some ⟨sb,0,none⟩)∧fh= .int .i64 0∧Hid (zU m Pg W Fs Us Hg mp L S EL G ls w2 sb J wx))
 case first=>
  refine gv ?_
  go_region_held3 (fun w'=>w'.cell? ⟨w.heap.size,5,none⟩=some (.int .i64 Rm)) (with_reducible first
   |assumption
   |exact V.out _ X.out
   |exact V.out _ (Y.out _)
   |(refine (World.cell?_alloc_lt _ _ _ (World.block_lt_of_cell? _ _ (by assumption))).trans (by assumption))
   |((iterate 4 (refine (World.cell?_setCell_far _ _ _ _ (by first|exact Nat.ne_of_gt (World.block_lt_of_cell? _ _ A)|exact Nat.ne_of_lt (World.block_lt_of_cell? _ _ A)|exact Nat.ne_of_gt (World.block_lt_of_cell? _ _ ad)|exact Nat.ne_of_lt (World.block_lt_of_cell? _ _ ad)|exact cp.out)).trans ?_));assumption)) (first
   |(go_at_call 69;refine (cd.out _ (by with_reducible first|exact X.out|exact Y.out _)).mono ?_;rintro e w3 ⟨rb,rc,rfl,r1,r2,r3,bb⟩;(have I:Fr (fun _=>False) w2 w3:=by with_reducible first|exact X.out.trans bb (fun _ h=>h.elim)|exact (Y.out _).trans bb (fun _ h=>h.elim));(have d0:w2.heap.size<=rb:=by with_reducible first|exact Nat.le_trans X.out.size r1|exact Nat.le_trans (Y.out _).size r1);have A:=V.out w3 I;(try (have c3:aj w3 w2.heap.size [.int .i64 0,.int .i64 0,.int .i64 0,.int .i64 0] 136:=aj.frame (by with_reducible exact aj.drew (aj.new w2 _ _)) bb (fun h=>h)));clear bb r1)
   |(go_at_call 68;with_reducible refine (bs.out w3 I rb rc d0 r2 r3).mono ?_;rintro e w4 ⟨J,nr,nv,rfl,b9,Z,bd⟩;have ad:=Z _ N.out.1 N.out.2 A;(try (have f:=b9 _ _ _ (Nat.le_refl _) c3;have k0:=f.cell 0 rfl;have k1:=f.cell 1 rfl;have k2:=f.cell 2 rfl;have k3:=f.cell 3 rfl;have l0:=f.free 0;have l1:=f.free 1;have l2:=f.free 2;have l3:=f.free 3));clear Z)
   |(go_at_call 68;refine (bs.out (w3.alloc _) (I.alloc _) rb rc d0 (by rw [World.size_alloc];omega) (fun i a ha=>(World.cell?_alloc_lt _ _ _ (World.block_lt_of_cell? _ _ (r3 i a ha))).trans (r3 i a ha))).mono ?_;rintro e w4 ⟨J,nr,nv,rfl,b9,Z,bd⟩;have ad:=Z _ N.out.1 N.out.2 ((World.cell?_alloc_lt _ _ _ (World.block_lt_of_cell? _ _ A)).trans A);have f:=b9 _ _ _ I.size (aj.new w3 [.int .i64 0,.int .i64 0,.int .i64 0,.int .i64 0] 136);have k0:=f.cell 0 rfl;have k1:=f.cell 1 rfl;have k2:=f.cell 2 rfl;have k3:=f.cell 3 rfl;have l0:=f.free 0;have l1:=f.free 1;have l2:=f.free 2;have l3:=f.free 3;clear Z))
  ·go_wp2;go_meet
   case rel=>exact ⟨_,J,rfl,rfl,ae (ra bd I)⟩
  ·go_wp2;go_meet
   case rel=>exact ⟨_,J,rfl,rfl,ae (jq bd (I.alloc _) q.out.1 q.out.2.1 I.size (by rw [World.size_alloc];omega) f)⟩
  ·go_wp2;go_meet
   case rel=>exact ⟨_,J,rfl,rfl,ae (jq bd I q.out.1 q.out.2.1 (Nat.le_refl _) c3.lt f)⟩
 case rest=>
  clear V cd bs X Y cp;obtain ⟨sb,J,rfl,rfl,hm⟩:=hcut;obtain ⟨z1,⟨nr,nv,zb⟩,S',z2,z3,z4,z5,z6,z7,R⟩:=hm.out;have ck:=ae (cf.out.frame R (fun h=>h.elim N.out.1 N.out.2));have HA:=ae (dN EL.m wc);gi_wp2;refine bx ((HA.out).mono ?_);rintro e W7 ⟨rfl,ax⟩;have C:Fr (fun _=>False) wc W7:=by rw [ax];exact (Fr.refl _ wc).alloc _
  have ds:aj W7 wc.heap.size [.pointer (some ⟨EL.m,0,none⟩)] 132:=by rw [ax];exact aj.new wc _ _
  have cb:W7.heap.size=wc.heap.size+1:=by rw [ax];exact Array.size_push _
  clear ax HA;obtain ⟨a1,a2,a3,a4,a5,a6,a7,a8,a9,d7,eg,ei⟩:=j.out;obtain ⟨e1,e2,e3⟩:=u.out;have c:=v.out.trans e3 (fun _ h=>h.elim);have ey:aN<w.heap.size:=aD (a3 0 0 rfl);have c1:bv W7:=ak (ak (ak cx.out c (fun h=>h)) R (fun h=>h.elim a4 (fun h=>by have h5:=e2 aN h;have h6:=v.out.size;have h7:W1.heap.size=w.heap.size+3:=y.out;omega))) C (fun h=>h);have b3:wD EL wc.heap.size W w.heap.size [.int .i64 F,.int .i64 Tp,.int .i64 T,.int .i64 O,.int .i64 B,.int .i64 Rm,.int .i64 P] J.E [] (fun _=>False) W7:=
   ⟨⟨z4.frame C (fun _ _ h=>h),c1,ds⟩,ck.out.frame C (fun h=>h),fun _ h=>h⟩
  have dx:=R.size;have M:cE W7.heap.size (wD EL wc.heap.size W w.heap.size [.int .i64 F,.int .i64 Tp,.int .i64 T,.int .i64 O,.int .i64 B,.int .i64 Rm,.int .i64 P] J.E):=
   wD.stays (fun k p=>by have:=q.out.2.1 k p;omega) (by omega) (by have:=q.out.2.2;omega) (by have:=q.out.2.2;omega)
  have b1:=ae (fun (s n:Nat) (cc:List (Nat×Nat)) (hx:(aP J.E W)[cc.length]? =some (s,n))=>(show F<=s∧s+n<=Tp∧Tp<=524288 from by
   obtain ⟨m1,m2,m3⟩:=bi.1 (List.mem_of_getElem? hx);dsimp only at m1 m2 m3;have Q:=z5 s m2;have h2:G.size s≠0:=by rw [<-Q.2];exact m2
   exact ⟨a8 s h2,by rw [m3,Q.2];exact a6.top s h2,by have:=a5.F3;have:=a1.choose_spec.1.at.2.2.1;omega⟩))
  have dr:=z4.small.2;have b2:=ae zb;have b0:=ae (af z1 (af z2 (af z3 (af z5 (af z6 (af z7 (af R (af C (af cb c)))))))));clear a1 a2 a3 a4 a5 a6 a7 a8 a9 d7 eg ei e1 e2 e3 ey c1 dx z1 z2 z3 z4 z5 z6 z7 R zb hm ds c;gi_wp2;refine dv (gf:=220) (lb:= #[wc.heap.size]) rfl (enters_of Tryz.func220 (by kernel_rfl) rfl) (encs:=gm) (fun _=>rfl) (dM (L:=EL) (tb:=wc.heap.size) (E:=J.E) dr) (wD EL wc.heap.size W w.heap.size [.int .i64 F,.int .i64 Tp,.int .i64 T,.int .i64 O,.int .i64 B,.int .i64 Rm,.int .i64 P] J.E) (fun _=>False) M (fun _ _ _ h=>h.1) (fun _ h=>h.elim) b3
   ?a1 ?assign ?body ?done
  case assign=>
   intro k x W K hK;unfold gm;gi_wp2;exact hK
  case body=>
   intro l cc S9 x W9 hI bk hf hs;obtain ⟨s,n⟩:=x;obtain ⟨o1,o2,o3⟩:=b1.out s n cc bk;have k0:=hI.2.1.cell 0 rfl;have k1:=hI.2.1.cell 1 rfl;have d1:decide ((s:Int)<(F:Int))=false:=by rw [decide_eq_false_iff_not];omega
   have d2:decide ((Tp:Int)<(s:Int)+(n:Int))=false:=by rw [decide_eq_false_iff_not];omega
   have fl:IntKind.i64.wrap ((s:Int)+(n:Int))=(s:Int)+(n:Int):=by rw [IntKind.wrap_i64];omega
   have HI:=ae hI;clear hI bk hf hs b3 M b1 b0 b2 j u;gi_wp2;exact ⟨S9,HI.out,Fr.refl _ _,fun _ h=> .inl h⟩
  case done=>
   intro D S9 W9 hI hD em eq c4 ev;obtain ⟨z1,z2,z3,z5,z6,z7,R,C,cb,c⟩:=b0.out;have r:=C.trans c4 (fun _ h=>h.elim);have e9:=b2.out.frame r (fun h=>h);have ex:=q.out;have H:¬(S (w.heap.size+1)∨EL.has (w.heap.size+1))∧¬(S (w.heap.size+1+1)∨EL.has (w.heap.size+1+1)):=by
    have Q:=j.out.2.2.2.2.2.2.2.2.2.2.1;have h2:=u.out.2.1;have h3:=v.out.size;have h4:W1.heap.size=w.heap.size+3:=y.out;refine ⟨fun h=> ?_,fun h=> ?_⟩
    ·rcases h with h|h
     ·have:=Q _ h;omega
     ·have:=h2 _ h;omega
    ·rcases h with h|h
     ·have:=Q _ h;omega
     ·have:=h2 _ h;omega
   have b6:=((U.out.1.frame c (fun h=>h)).frame R H.1).frame r (fun h=>h);have b7:=((U.out.2.frame c (fun h=>h)).frame R H.2).frame r (fun h=>h);have c6:=b6.cell 0 rfl;have c7:=b7.cell 0 rfl;have f6:=b6.free 0;have f7:=b7.free 0;have bo:w.heap.size+1≠sb∧w.heap.size+1+1≠sb∧w.heap.size+1≠w.heap.size+1+1:=by omega
   have cn:Hid (∀w',Fr (fun k=>k=w.heap.size+1∨k=w.heap.size+1+1∨k=D) W9 w'->zZ m Pg W Fs Us Hg mp L S G ls w (.returned (.tuple #[.pointer (some ⟨EL.m,0,none⟩),.int .i64 0])) w'):=by
    show∀w',_
    intro w' b5;have fs:=R.size;have fj:=c.size;have h4:W1.heap.size=w.heap.size+3:=y.out;have c2:Fr S w w':=by
     have q1:Fr S w w2:=(av.out.mono (fun _ h=>h.elim)).trans c (fun _ h=>h.elim);have q2:Fr S w wc:=q1.trans R (fun k p=>by
      rcases p with p|p
      ·exact .inl p
      ·have:=u.out.2.1 k p;have:=v.out.size;exact .inr (by omega))
     have q3:Fr S w W9:=q2.trans r (fun _ h=>h.elim);exact q3.trans b5 (fun k p=>by rcases p with rfl|rfl|rfl<;>exact .inr (by omega))
    have fi:Fr (fun _=>False) wc W9:=r;refine ⟨EL,J.E,S',rfl,(aR m Pg W Fs Us Hg mp) _ _ _ _ _ ((aF m Pg W Fs Us Hg mp).keep z2 r) b5 (fun k p h=> ?_),fun k p=>(z3 k p).imp id (fun h=>by omega),fun k p h=> ?_,hI.1.1.frame b5 (fun k p h=> ?_),z7,z5,fun k p=>by have:=u.out.2.1 k p;omega,c2⟩
    rotate_left
    ·rcases z3 k p with h5|h5
     ·have h6:k<w.heap.size:=j.out.2.2.2.2.2.2.2.2.2.2.1 k h5;have:=u.out.2.1 k h;omega
     ·have:=q.out.2.1 k h;omega
    ·have h5:=u.out.2.1 k p;have h6:=q.out.2.1 k p;rcases h with rfl|rfl|rfl<;>omega
    have fk:=(aF m Pg W Fs Us Hg mp).lt _ _ _ z2 k p;have fr:=C.size;rcases h with rfl|rfl|rfl
    ·rcases z3 _ p with h|h
     ·exact H.1 (.inl h)
     ·omega
    ·rcases z3 _ p with h|h
     ·exact H.2 (.inl h)
     ·omega
    ·omega
   have HD:=ae hD;have aq:=ae (show D≠w.heap.size+1∧D≠w.heap.size+1+1 from by have:=R.size;omega);have d4:=ae b6;have d5:=ae b7;clear hI hD em eq c4 ev z1 z2 z3 z5 z6 z7 R C cb c r e9 ex H b6 b7 b3 M b1 b0 b2 j u ck U av v ct cx q y;gi_wp2;obtain ⟨Wf,a0⟩:∃Wf,(W9.setCell ⟨w.heap.size+1,0,none⟩ (.pointer (some ⟨EL.m,0,none⟩))).setCell ⟨w.heap.size+1+1,0,none⟩ (.int .i64 0)=Wf:=⟨_,rfl⟩;rw [a0];have c5:Fr (fun k=>k=w.heap.size+1∨k=w.heap.size+1+1) W9 Wf:=by
    rw [<-a0];exact ((Fr.refl _ W9).setCell ⟨w.heap.size+1,0,none⟩ (.inl (.inl rfl)) _).setCell ⟨w.heap.size+1+1,0,none⟩ (.inl (.inr rfl)) _
   have h6:aj Wf (w.heap.size+1) [.pointer (some ⟨EL.m,0,none⟩)] 132:=by
    rw [<-a0];exact (d4.out.set 0 _).setOther _ _ bo.2.2
   have h7:aj Wf (w.heap.size+1+1) [.int .i64 0] 28:=by
    rw [<-a0];exact (d5.out.setOther _ _ (Ne.symm bo.2.2)).set 0 _
   have ej:Wf.heap[D]? =some (.deferred (some [])):=c5.heap HD.out (fun h=>h.elim aq.out.1 aq.out.2);have b4:Fr (fun k=>k=D) Wf (Wf.putObj D (.deferred none)):=(Fr.refl _ Wf).putObj _ _ (.inl rfl);refine ⟨by simp,.inl ⟨_,_,rfl,run_takeDeferred ej,?_⟩⟩;refine ⟨_,fJ rfl _ _ ⟨w.heap.size+1,0,none⟩ ⟨w.heap.size+1+1,0,none⟩ rfl rfl (vc ((h6.frame b4 (Ne.symm aq.out.1)).cell 0 rfl)) (jX ((h7.frame b4 (Ne.symm aq.out.2)).cell 0 rfl)),?_⟩;exact cn.out _ ((c5.mono (fun k p=> .inl (p.elim .inl (fun h=> .inr (.inl h))))).trans b4 (fun k p=> .inl (.inr (.inr p))))
end
def gB (E:Nat->Nat) (P t q:Nat):Nat:=cnt (fun a=>ai E a&&decide (a/P=q)) 0 t
section
variable {E:Nat->Nat} {P W t u a q:Nat}
theorem vG:gB E P 0 q=0:=bc _ _
theorem vF (b:ai E a=true):gB E P (a+1) q=gB E P a q+(if q=a/P then 1 else 0):=by
 unfold gB;rw [aC _ (Nat.zero_le a),b,Bool.true_and];by_cases e:a/P=q
 ·subst e;simp
 ·rw [decide_eq_false e,if_neg Bool.false_ne_true,if_neg (Ne.symm e)]
theorem vE (h:t<=u) (e:∀i,t<=i->i<u->ai E i=false):gB E P u q=gB E P t q:=by
 unfold gB;rw [ay _ (Nat.zero_le t) h,aE (a:=t) (b:=u) (fun i c d=>by rw [e i c d];rfl),Nat.add_zero]
theorem y9:gB E P t q<=t:=by
 have:=be (fun a=>ai E a&&decide (a/P=q)) 0 t;unfold gB;omega
theorem mr (d:1<=P) {i:Nat}:i/P=q↔q*P<=i∧i<q*P+P:=by
 constructor
 ·rintro rfl;have b:=Nat.div_add_mod i P;have c:=Nat.mod_lt i (show 0<P by omega);rw [Nat.mul_comm] at b;omega
 ·rintro ⟨b,c⟩;exact ft (i:=i-q*P) d (by omega) (by omega)
theorem rD {s:bh} (d:1<=s.P) (c:∀a,ai s.E a=true->a<s.W) (q:Nat):gB s.E s.P s.W q=jm s (fun _=>false) q:=by
 unfold gB jm;have f:∀N,s.W<=N->q*s.P+s.P<=N->cnt (fun a=>ai s.E a&&decide (a/s.P=q)) 0 N=cnt (fun a=>ai s.E a&& !false) (q*s.P) (q*s.P+s.P):=fun N _ j=>by
  rw [ay _ (Nat.zero_le (q*s.P)) (show q*s.P<=N by omega),ay _ (show q*s.P<=q*s.P+s.P by omega) j,
   aE (a:=0) (b:=q*s.P) (fun i _ h=>by rw [decide_eq_false (fun e=>by have:=(mr d).1 e;omega),Bool.and_false]),
   aE (a:=q*s.P+s.P) (b:=N) (fun i h _=>by rw [decide_eq_false (fun e=>by have:=(mr d).1 e;omega),Bool.and_false]),Nat.zero_add,Nat.add_zero]
  exact aK (fun i k l=>by rw [decide_eq_true ((mr d).2 ⟨k,l⟩)];rfl)
 have g:∀N,s.W<=N->cnt (fun a=>ai s.E a&&decide (a/s.P=q)) 0 N=cnt (fun a=>ai s.E a&&decide (a/s.P=q)) 0 s.W:=fun N h=>by
  rw [ay _ (Nat.zero_le s.W) h,aE (a:=s.W) (b:=N) (fun i n _=>by
   have:ai s.E i=false:=by
    rw [Bool.eq_false_iff];intro m;have:=c i m;omega
   rw [this];rfl),Nat.add_zero]
 rw [<-g (s.W+(q*s.P+s.P)) (by omega)];exact f _ (by omega) (by omega)
theorem mA {k j:Nat} {x y:Nat×Nat} (b:(aP E W)[k]? =some x) (c:(aP E W)[j]? =some y) (h:j<k):y.1<x.1:=
 eP b (List.mem_iff_getElem?.2 ⟨j,by rw [List.getElem?_take,if_pos h];exact c⟩)
def vn (E:Nat->Nat) (W k:Nat):Nat:=match (aP E W)[k]? with|some x=>x.1|none=>W
theorem vo {k:Nat} {x:Nat×Nat} (b:(aP E W)[k]? =some x):vn E W k=x.1:=by unfold vn;rw [b]
theorem xI:vn E W (aP E W).length=W:=by unfold vn;rw [List.getElem?_eq_none (Nat.le_refl _)]
theorem rz (w:di E) (l:∀s,E s≠0->s+E s<=W) {k m:Nat} (p:∀j x,j<k->(aP E W)[j]? =some x->x.1+x.2<=m):∀i,m<=i->i<vn E W k->ai E i=false:=by
 intro i v h;rw [Bool.eq_false_iff];intro o;obtain ⟨s,y,z⟩:=aQ.1 o;have g:E s≠0:=by omega
 have r:=l s g;obtain ⟨j,c⟩:=List.mem_iff_getElem?.1 (bi.2 ⟨show s<W by omega,g,rfl⟩:(s,E s)∈aP E W);rcases Nat.lt_or_ge j k with b|b
 ·have:=p j _ b c;dsimp only at this;omega
 ·have e:k<(aP E W).length:=Nat.lt_of_le_of_lt b (List.getElem?_eq_some_iff.1 c).1;have d:=List.getElem?_eq_getElem e;rw [vo d] at h;rcases Nat.lt_or_ge k j with f|n
  ·have:=mA c d f;dsimp only at this;omega
  ·obtain rfl:j=k:=by omega
   rw [d] at c;have:=congrArg Prod.fst (Option.some.inj c);dsimp only at this;omega
theorem vp (e:di E) {k:Nat} {x:Nat×Nat} (c:(aP E W)[k]? =some x):∀j y,j<k+1->(aP E W)[j]? =some y->y.1+y.2<=x.1+x.2:=by
 intro j y i b;rcases Nat.lt_or_ge j k with h|h
 ·have d:=mA c b h;obtain ⟨_,g,m⟩:=bi.1 (List.mem_of_getElem? b);obtain ⟨_,f,l⟩:=bi.1 (List.mem_of_getElem? c);have:=e y.1 x.1 d g f;omega
 ·obtain rfl:j=k:=by omega
  rw [c] at b;rw [Option.some.inj b];exact Nat.le_refl _
end
section
variable {A:AG} {rs:List Nat} {φ L:Nat->Nat} {lo hi:Nat}
theorem aO.heads (h:aO A rs φ L lo hi):∃hp hf hg:Nat->Nat,∀x,Reach A.gr rs x->hp (φ x)=A.np x∧hf (φ x)=A.nf x∧hg (φ x)=A.ng x:=by
 classical
 refine ⟨fun a=>if h:∃x,Reach A.gr rs x∧φ x=a then A.np h.choose else 0,fun a=>if h:∃x,Reach A.gr rs x∧φ x=a then A.nf h.choose else 0,fun a=>if h:∃x,Reach A.gr rs x∧φ x=a then A.ng h.choose else 0,fun x c=> ?_⟩;have b:∃y,Reach A.gr rs y∧φ y=φ x:=⟨x,c,rfl⟩;have e:b.choose=x:=h.inj b.choose_spec.1 c b.choose_spec.2;refine ⟨?_,?_,?_⟩
 ·show (if h:∃y,Reach A.gr rs y∧φ y=φ x then A.np h.choose else 0)=_
  rw [dif_pos b,e]
 ·show (if h:∃y,Reach A.gr rs y∧φ y=φ x then A.nf h.choose else 0)=_
  rw [dif_pos b,e]
 ·show (if h:∃y,Reach A.gr rs y∧φ y=φ x then A.ng h.choose else 0)=_
  rw [dif_pos b,e]
theorem aO.congr2 (h:aO A rs φ L lo hi) {L':Nat->Nat} (c:∀x,Reach A.gr rs x->∀i,i<A.sz x->L' (φ x+i)=L (φ x+i)):aO A rs φ L' lo hi:=by
 refine ⟨h.zero,h.one,h.lies,h.apart,fun x a=> ?_,fun x a i hi=> ?_,fun x a i b d=> ?_⟩
 ·have:=h.head x a;exact ⟨by have b:L' (φ x)=L (φ x):=c x a 0 (by unfold AG.sz;omega);rw [b];exact this.1,this.2⟩
 ·rw [dF,c x a (1+i) (by unfold AG.sz;omega),<-dF φ _ _];exact h.ptr x a i hi
 ·rw [dF,c x a (1+i) (by unfold AG.sz;omega),<-dF φ _ _];exact h.val x a i b d
theorem eK {f:Nat->Bool} {M a R:Nat} (h:∀i,i<M->f i=true->a<=i∧i<a+R):cnt f 0 M<=R:=by
 have d:∀b c,c<=M->(c<=a∨a+R<=b)->cnt f b c=0:=fun b c k l=>aE (fun i e g=>by
  cases hf:f i with
  |false=>rfl
  |true=>have:=h i (by omega) hf;omega)
 rcases Nat.lt_or_ge a M with e|e
 ·rcases Nat.lt_or_ge (a+R) M with g|g
  ·have j:=be f a (a+R);rw [ay f (Nat.zero_le a) (show a<=M by omega),ay f (show a<=a+R by omega) (show a+R<=M by omega),d 0 a (by omega) (.inl (Nat.le_refl _)),d (a+R) M (Nat.le_refl _) (.inr (Nat.le_refl _))];omega
  ·have j:=be f a M;rw [ay f (Nat.zero_le a) (show a<=M by omega),d 0 a (by omega) (.inl (Nat.le_refl _))];omega
 ·rw [d 0 M (Nat.le_refl _) (.inl e)];exact Nat.zero_le _
theorem aO.lives (h:aO A rs φ L lo hi) {E:Nat->Nat} (c:fe A rs φ E) {W:Nat} (i:∀a,E a≠0->a<W):∃l,aJ A rs l:=by
 have k:((aP E W).map Prod.fst).Nodup:=by
  unfold aP;rw [List.map_map];have e:(Prod.fst∘fun s=>(s,E s))=id:=rfl;rw [e,List.map_id];exact (jj _ _ _).imp (fun h=>Nat.ne_of_lt h)
 have m:∀a∈(aP E W).map Prod.fst,∃x,Reach A.gr rs x∧φ x=a:=fun a j=>by
  obtain ⟨x,b,rfl⟩:=List.mem_map.1 j;exact c.some _ (bi.1 b).2.1
 have d:∀x,Reach A.gr rs x->φ x∈(aP E W).map Prod.fst:=fun x b=>by
  have f:E (φ x)≠0:=by rw [c.size x b];unfold AG.sz;omega
  exact List.mem_map.2 ⟨(φ x,E (φ x)),bi.2 ⟨i _ f,f,rfl⟩,rfl⟩
 obtain ⟨l,g,_⟩:=h.lives_ord (sz:=E) (fun x b=>c.size x b) k m d;exact ⟨l,g⟩
end
section
variable {P:Program}
theorem qQ {F:Fence} {m:Nat} {c:Array Oper} {md:Region.Mode} {Q:Exit->Act->World->Prop}:∀(f:Nat) (b:Array Bool) (a:Act) (w:World),pi (wpOpIn F m P c Q) md c Q f b a w->wpAnyIn F m P md c Q f b a w
 |0,_,_,_,h=>h
 |f+1,_,_,_,h=>⟨h.1,fun i d=>wpOpIn_mono (fun a w h=>qQ f _ a w h) (h.2 i d)⟩
theorem bO.wpR {o:Oper} {a:Act} {w:World} {b:Value->World->Prop} {Q:Exit->Act->World->Prop} {k m:Nat} (i:∀c,o.op≠ .defer c) (h:bO P a.eval o w b):o.wpIn (Fence.wide.inRound k) m P a w (fun g w'=>∃v,g=a.put o.dst v∧b v w') Q:=by
 refine ⟨fun _ _=>trivial,?_⟩;rw [show (Fence.wide.inRound k).round=some k from rfl,Oper.semAt_some k a.eval o i];unfold bO at h;generalize (execOp a.eval o).run P w=r at*
 cases r with
 |halt x w'=>exact h.elim
 |ok n w'=>
  cases n<;>simp only [Oper.uponIn] at h ⊢
  case value v=>exact ⟨v,rfl,h⟩
  case skip=>exact ⟨_,rfl,h⟩
  case enter f args=>
   refine ⟨(fun h=>by cases h),(ny (d:=m) (Calls.mono h ?_)).2.2⟩;rintro e j ⟨v,rfl,hp⟩;exact ⟨v,rfl,hp⟩
theorem kS {U k m:Nat} {Q:Exit->Act->World->Prop} {a:Act} {w:World} {l:List Oper} (n d:Nat) (R R1:World->World->Prop) (ps:List (Value->World->Prop)) (nw:Nat->Bool) (M:P.follows .mixedOrders=true) (G:ek l=true) (p:dq l=true)
  (A:(decide (n=l.length)&&Region.seqB .any l.toArray 0 n (eA l.length n))=true) (c:ps.length=n)
  (s:∀w,R1 w w) (g:∀w w',R1 w w'->R w w') (x:∀w1 w2 w3,R1 w1 w2->R1 w2 w3->R1 w1 w3) (y:∀w1 w2 w3,R w1 w2->R1 w2 w3->R w1 w3) (z:∀w1 w2 w3,R1 w1 w2->R w2 w3->R w1 w3) (T:∀w w',R w w'->w.heap.size<=w'.heap.size) (u:lN R1 ps) (E:oL R d 0 ps)
  (h:∀F:(Nat->Value)->Act,(F=fun vs=>{a with tmps:=bg vs 0 (l.take n) a.tmps})->d9 P (bC l d) F w.drew d R R1 (il ps) nw 0 (l.take n)∧∀vs w',R w.drew w'->rU vs w' 0 ps->(∀i j,nw i=true->nw j=true->i<n->j<n->i≠j->cX (vs i)≠cX (vs j))->Q .normal (F vs) w'):
  (Code.region U l.toArray true).wpIn (Fence.wide.inRound k) m P Q a w:=by
 obtain ⟨r,q⟩:=h _ rfl;rw [Bool.and_eq_true,decide_eq_true_eq] at A;obtain ⟨N,C⟩:=A;subst N;refine wpIn_region_any M ?_;have b:∀j,(Array.replicate l.toArray.size false).getD j true=true->¬j<l.length:=fun j c e=>by
  have A:(Array.replicate l.toArray.size false).getD j true=false:=getD_in (by simpa using e) (getD_replicate_false _ _);rw [A] at c;cases c
 have S:(qA l.length (Array.replicate l.toArray.size false)).length=l.length:=by
  unfold qA;rw [List.filter_eq_self.2 (fun j e=> ?_),List.length_range];have:=List.mem_range.1 e
  cases c:(Array.replicate l.toArray.size false).getD j true with
  |false=>rfl
  |true=>exact absurd (show j<l.length by omega) (b j c)
 have f:=eR G p;have:=lK (W1:=wpOpIn (Fence.wide.inRound k) m P l.toArray Q) (nw:=nw) (n:=l.length) (d:=d) (R:=R) (R1:=R1) (Ps:=il ps) (a0:=a) (w0:=w.drew) (Q:=Q) f (fun i K X a w h p=>wpOpIn_mono h p) (fun i o a w I B hp=>by
  unfold wpOpIn;simp only [show l.toArray[i]? =some o by simpa using B];rw [if_pos (by unfold Region.wanted;rw [f.guard i o B])];exact hp.wpR (f.dfr i o B)) (Nat.le_refl _) (fun D t G p=>absurd p (by omega)) g x y z (fun j=>ir j u) (fun j v w w' e hp O=>ku 0 j E (by omega) v w w' hp O) T r (fun vs w' V J _ W=> ?_) l.length (Array.replicate l.toArray.size false) (fun _=>undef) a w.drew S ⟨fun j _ e c=>absurd (show j<l.length by omega) (b j c),fun i j _ _ Y _ c _ _=>absurd (show i<l.length by omega) (b i c),by simp,fun j L e=>absurd e (by omega),fun k i H=>absurd H.1 (b k H.2),rfl,g _ _ (s _),fun _=>s _,fun j e c=>absurd (show j<l.length by omega) (b j c),fun j o d e c _=>absurd (List.getElem?_eq_some_iff.1 e).1 (b j c),fun t _=>rfl⟩
 ·rw [Nat.sub_self,Nat.add_zero] at this;have L:=qQ _ _ _ _ this;rwa [show l.toArray.size=l.length by simp]
 ·rw [Nat.sub_self];refine ⟨by simpa [Region.seqB] using C,J|>fun _=>q vs w' V (jp ps 0 (fun j e=> ?_)) W⟩;rw [Nat.zero_add];exact J j (by omega)
end
structure zn where
 c3:Nat
 c5:Nat
 c13:Nat
 tb:Nat
 b:Nat
 g:Nat
def Cy.conf (c:Cy):List Value:=[.int .i64 (c.from_:Int),.int .i64 (c.top:Int),.int .i64 (c.to_:Int),.int .i64 (c.Lm:Int),.int .i64 (c.B:Int),.int .i64 (c.stack:Int),.int .i64 (c.Ah:Int)]
structure ym (c:Cy) (x:zn) (W:Nat) (E:Nat->Nat) (ls:List Nat) (w:World):Prop where
 all:kH c.EL x.tb W E w
 b3:aj w x.c3 [.pointer (some ⟨c.m,0,none⟩)] 112
 b5:aj w x.c5 c.conf 143
 b13:aj w x.c13 [.pointer (some ⟨c.y,0,none⟩)] 115
 y:tU w c c.nb 0 0
 mv:aj w c.mv (pj (List.replicate c.nb false)) 4
 plan:cl c.lo c.hi w c.pl W c.B E c.to_
 roots:aV w x.b x.g ls
def qK (c:Cy) (x:zn) (k:Nat):Prop:=c.EL.has k∨k=x.tb∨k=x.c3∨k=x.c5∨k=x.c13∨k=c.y∨k=c.mv∨(c.lo<=k∧k<c.hi)∨k=x.b∨k=x.g∨k=aN
section
variable {c:Cy} {x:zn} {W:Nat} {E:Nat->Nat} {ls:List Nat} {w w':World} {T:Nat->Prop}
theorem ym.frame (h:ym c x W E ls w) (hf:Fr T w w') (b:∀k,T k->¬qK c x k):ym c x W E ls w':=by
 have n:∀k,qK c x k->¬T k:=fun k a e=>b k e a
 obtain ⟨g,j,l⟩:=h.all;exact ⟨⟨g.frame hf (fun k a=>n k (.inl a)),ak j hf (n _ (.inr (.inr (.inr (.inr (.inr (.inr (.inr (.inr (.inr (.inr rfl))))))))))),l.frame hf (n _ (.inr (.inl rfl)))⟩,
  h.b3.frame hf (n _ (.inr (.inr (.inl rfl)))),h.b5.frame hf (n _ (.inr (.inr (.inr (.inl rfl))))),h.b13.frame hf (n _ (.inr (.inr (.inr (.inr (.inl rfl)))))),aj.frame h.y hf (n _ (.inr (.inr (.inr (.inr (.inr (.inl rfl))))))),h.mv.frame hf (n _ (.inr (.inr (.inr (.inr (.inr (.inr (.inl rfl)))))))),
  h.plan.frame hf (fun i d=>by
   by_cases f:c.lo<=i∧i<c.hi
   ·exact absurd d (n i (.inr (.inr (.inr (.inr (.inr (.inr (.inr (.inl f)))))))))
   ·omega),
  h.roots.frame hf (n _ (.inr (.inr (.inr (.inr (.inr (.inr (.inr (.inr (.inl rfl)))))))))) (n _ (.inr (.inr (.inr (.inr (.inr (.inr (.inr (.inr (.inr (.inl rfl)))))))))))⟩
end
def kU (m Pg W Fs Us Hg:Nat) (mp:Nat->Bool) (L:Nat->Nat) (E hp hf hg:Nat->Nat) (c:Cy) (t:Nat) (pre:List (Nat×Nat)) (S:Nat->Prop) (w:World):Prop:=
 ∃Sm fw n ns f,(∀k,S k↔(Sm k∨k=c.wb∨k=c.sb))∧¬Sm c.wb∧¬Sm c.sb∧c.wb≠c.sb∧bm m Pg W Fs Us Hg mp L Sm w∧cI w c.wb n fw∧(∀q,(fw q).getD 0=gB E Pg t q)∧n<=t∧cV w c.sb ns f∧ns<=pre.length∧∀x∈pre,oT (f x.1)=(hp x.1,hf x.1,hg x.1)
section
variable {m Pg W Fs Us Hg:Nat} {mp:Nat->Bool} {L E hp hf hg:Nat->Nat} {c:Cy} {x:zn} {t:Nat} {pre:List (Nat×Nat)} {ls:List Nat} {S T:Nat->Prop} {w w':World}
theorem kU.frame (h:kU m Pg W Fs Us Hg mp L E hp hf hg c t pre S w) (d:Fr T w w') (b:∀k,S k->¬T k):kU m Pg W Fs Us Hg mp L E hp hf hg c t pre S w':=by
 obtain ⟨i,j,n,o,f,a,p,q,r,s,u,v,y,z,e,g⟩:=h;exact ⟨i,j,n,o,f,a,p,q,r,(aR m Pg W Fs Us Hg mp) _ _ _ _ _ s d (fun k l=>b k ((a k).2 (.inl l))),u.frame d (b _ ((a _).2 (.inr (.inl rfl)))),v,y,z.frame d (b _ ((a _).2 (.inr (.inr rfl)))),e,g⟩
theorem kU.lt (h:kU m Pg W Fs Us Hg mp L E hp hf hg c t pre S w):∀k,S k->k<w.heap.size:=by
 obtain ⟨l,o,n,p,f,b,q,r,s,g,i,u,v,j,d,e⟩:=h;intro k a;rcases (b k).1 a with h|h|h
 ·exact (aF m Pg W Fs Us Hg mp).lt _ _ _ g k h
 ·rw [h];exact i.lt
 ·rw [h];exact j.lt
def yH (m Pg W Fs Us Hg:Nat) (mp:Nat->Bool) (L E hp hf hg:Nat->Nat) (c:Cy) (x:zn) (ls:List Nat) (pre:List (Nat×Nat)) (S:Nat->Prop) (w:World):Prop:=
 (∀k,S k->¬qK c x k)∧ym c x W E ls w∧kU m Pg W Fs Us Hg mp L E hp hf hg c (vn E W pre.length) pre S w
theorem yH.stays {B:Nat} (e:∀k,qK c x k->k<B):cE B (yH m Pg W Fs Us Hg mp L E hp hf hg c x ls):=by
 rintro pre S W1 l T ⟨h,i,j⟩ d b;exact ⟨h,i.frame d (fun k a f=>by have:=(b k a).1;have:=e k f;omega),j.frame d (fun k a g=>(b k g).2 a)⟩
theorem kU.head {e d:Nat->Prop} {g:Nat->Option Nat} {j l s n:Nat} {f:Nat->Option (Nat×Nat×Nat)} (p:¬e c.wb) (D:¬e c.sb) (r:c.wb≠c.sb) (u:cI w c.wb j g) (F:∀q,(g q).getD 0=gB E Pg s q) (G:j<=s) (C:l<=pre.length) (o:∀x∈pre,oT (f x.1)=(hp x.1,hf x.1,hg x.1)) (a:∀x∈pre,x.1<s)
  (b:∀k,d k->e k∨w.heap.size<=k) (i:Fr (fun k=>e k∨k=c.sb) w w') (z:bm m Pg W Fs Us Hg mp L d w') (v:cV w' c.sb (l+1) (dB f s (hp s,hf s,hg s))) (y:c.sb<w.heap.size):
  kU m Pg W Fs Us Hg mp L E hp hf hg c s (pre++[(s,n)]) (fun k=>d k∨k=c.wb∨k=c.sb) w':=by
 have A:=u.lt;refine ⟨d,g,j,l+1,_,fun k=>Iff.rfl,fun h=>(b _ h).elim p (fun h=>by omega),fun h=>(b _ h).elim D (fun h=>by omega),r,z,u.frame i (fun h=>h.elim p r),F,G,v,by rw [List.length_append,List.length_singleton];omega,fun x B=> ?_⟩;rcases List.mem_append.1 B with h|h
 ·have:=a x h;unfold dB;rw [if_neg (by omega)];exact o x h
 ·rw [List.mem_singleton.1 h];unfold dB;rw [if_pos rfl];rfl
theorem kU.word {a:Nat} (h:kU m Pg W Fs Us Hg mp L E hp hf hg c a pre S w) (s:ai E a=true) (I:a<1048576) (v:1<=Pg):∃V:Nat,V<=a∧(Instr.lookup 33 (.map (some c.wb)) (.int .i64 ((a/Pg:Nat):Int)) false).run Tryz.prog w= .ok (.int .i64 V) w∧
  ∃w',(Instr.mapUpdate 33 (.map (some c.wb)) (.int .i64 ((a/Pg:Nat):Int)) (.int .i64 ((V+1:Nat):Int))).run Tryz.prog w= .ok () w'∧kU m Pg W Fs Us Hg mp L E hp hf hg c (a+1) pre S w'∧Fr (fun k=>k=c.wb) w w':=by
 obtain ⟨r,H,n,z,f,A,j,B,l,C,o,p,J,D,b,d⟩:=h;have i:a/Pg<4611686018427387904:=by have:=Nat.div_le_self a Pg;omega
 have y:=y9 (E:=E) (P:=Pg) (t:=a) (q:=a/Pg);refine ⟨gB E Pg a (a/Pg),y,?_,?_⟩
 ·have:=o.look (a/Pg) i;rwa [p] at this
 ·obtain ⟨w',F,G,g⟩:=o.put (a/Pg) (gB E Pg a (a/Pg)+1) i (by omega) (by omega);refine ⟨w',F,⟨r,_,_,z,f,A,j,B,l,(aR m Pg W Fs Us Hg mp) _ _ _ _ _ C g (fun k u e=>j (e▸u)),G,fun q=> ?_,?_,D.frame g (Ne.symm l),b,d⟩,g⟩
  ·rw [vF s];unfold dB;by_cases e:q=a/Pg
   ·rw [if_pos e,if_pos e,e];rfl
   ·rw [if_neg e,if_neg e,p,Nat.add_zero]
  ·split<;>omega
theorem kU.skip {a:Nat} (h:kU m Pg W Fs Us Hg mp L E hp hf hg c t pre S w) (g:t<=a) (e:∀i,t<=i->i<a->ai E i=false):kU m Pg W Fs Us Hg mp L E hp hf hg c a pre S w:=by
 obtain ⟨b,d,n,j,f,k,l,o,p,r,s,u,y,v⟩:=h;exact ⟨b,d,n,j,f,k,l,o,p,r,s,fun q=>by rw [vE g e];exact u q,by omega,v⟩
end
def jo (m Pg W Fs:Nat) (mp:Nat->Bool) (Mc:Nat->Nat) (dr:Nat->Bool) (q0:Nat) (S9:Nat->Prop) (w10:World) (q:Nat) (wr:World):Prop:=
 ∃Us Hg mpq S',bm m Pg W Fs Us Hg mpq Mc S' wr∧(∀r,mpq r=(mp r&& !(decide (q0<=r)&&decide (r<q)&&dr r)))∧Fr S9 w10 wr∧∀k,S' k->S9 k∨w10.heap.size<=k
section
variable {m Pg W Fs Us Hg:Nat} {mp:Nat->Bool} {Mc:Nat->Nat} {dr:Nat->Bool} {q0 q:Nat} {S9:Nat->Prop} {w10 wr w1:World}
theorem jo.start (h:bm m Pg W Fs Us Hg mp Mc S9 w10):jo m Pg W Fs mp Mc dr q0 S9 w10 q0 w10:=by
 refine ⟨Us,Hg,mp,S9,h,fun r=> ?_,Fr.refl _ _,fun _ h=> .inl h⟩;have:(decide (q0<=r)&&decide (r<q0))=false:=by rw [Bool.and_eq_false_iff,decide_eq_false_iff_not,decide_eq_false_iff_not];omega
 rw [this];simp
theorem jo.Fh (h:jo m Pg W Fs mp Mc dr q0 S9 w10 q wr) (hf:Fr (fun _=>False) wr w1):jo m Pg W Fs mp Mc dr q0 S9 w10 q w1:=by
 obtain ⟨Us,Hg,a,S',b,c,d,e⟩:=h;exact ⟨Us,Hg,a,S',b.keep hf,c,d.trans hf (fun _ h=>h.elim),e⟩
theorem jo.pg (h:jo m Pg W Fs mp Mc dr q0 S9 w10 q wr):Calls Tryz.prog 148 #[m] wr fun e w'=>e= .returned (.int .i64 Pg)∧wr=w':=by
 obtain ⟨Us,Hg,b,S',⟨M,a,_⟩,_⟩:=h;exact dJ a
theorem jo.skip (h:jo m Pg W Fs mp Mc dr q0 S9 w10 q wr) (f:dr q=false):jo m Pg W Fs mp Mc dr q0 S9 w10 (q+1) wr:=by
 obtain ⟨Us,Hg,a,S',b,c,d⟩:=h;refine ⟨Us,Hg,a,S',b,fun r=> ?_,d⟩;rw [c];by_cases e:r=q
 ·subst e;rw [f,Bool.and_false,Bool.and_false]
 ·congr 4
  rw [decide_eq_decide];omega
theorem jo.drop (h:jo m Pg W Fs mp Mc dr q0 S9 w10 q wr) (s:dr q=true) (u:mp q=true) (g:q<W/Pg) (f:q0<=q):Calls Tryz.prog 149 #[m,.int .i64 q] wr fun e w'=>e= .returned (.int .i64 0)∧jo m Pg W Fs mp Mc dr q0 S9 w10 (q+1) w':=by
 obtain ⟨Us,Hg,c,S',⟨M,o,p⟩,i,j,l⟩:=h;refine (fW o q g (by rw [i,u,decide_eq_false (Nat.lt_irrefl q)];simp)).mono ?_;rintro e w' ⟨rfl,S2,high2,M2,v,w,x,y⟩;have z:=j.size;refine ⟨rfl,Us-1,high2,_,S2,⟨M2,v,fun b d=> ?_⟩,fun r=> ?_,j.trans x l,fun k t=> ?_⟩
 ·have a:c (b/Pg)=true:=by have:=d.2;rw [Bool.and_eq_true] at this;exact this.1
  rw [w b d.1 a d.2];exact p b ⟨d.1,a⟩
 ·show (c r&& !(r==q))=_
  rw [i];by_cases e:r=q
  ·subst e;rw [beq_self_eq_true,decide_eq_true (Nat.lt_succ_self r),decide_eq_true f,s];simp
  ·rw [beq_eq_false_iff_ne.2 e,Bool.not_false,Bool.and_true];congr 4
   rw [decide_eq_decide];omega
 ·rcases y k t with n|n
  ·exact l k n
  ·exact .inr (by omega)
end
def jz (m b g Pg W Fs:Nat) (A:AG) (rs:List Nat) (T Li B ah:Nat) (S:Nat->Prop) (w:World) (e:Ending) (w':World):Prop:=
 ∃(c:Cy) (s:bh) (hf hg φ' L':Nat->Nat) (S':Nat->Prop) (l:List Nat),e= .returned (.tuple #[.pointer (some ⟨c.y,0,none⟩),.int .i64 0])∧c.m=m∧s.to_=T∧s.P=Pg∧s.W=W∧s.R=(Li-T)/Pg∧s.B=B∧s.Ah=ah∧qJ c s hf hg Fs (T+A.Wd l)∧eo c s hf hg Fs (T+A.Wd l) (List.replicate s.nb false) s.nb 0 0 L' S' w'∧aJ A rs l∧aO A rs φ' L' T (T+A.Wd l)∧T+A.Wd l<=Li∧aV w' b g (rs.map φ')∧bv w'∧(∀k,S' k->S k∨w.heap.size<=k)∧Fr (fun k=>S k∨k=g) w w'∧w.heap.size<w'.heap.size∧cnt (ai s.E) 0 s.W=A.Wd l
section
variable {m b g Pg W Fs Us Hg:Nat} {S Sm:Nat->Prop} {mp mpq:Nat->Bool} {L M:Nat->Nat} {w wz:World} {A:AG} {rs:List Nat} {φ E hp hf hg:Nat->Nat} {F Tp T Li B Rm ah:Nat}
theorem td (o:gw Pg W F Tp T Li B Rm ah) (n:1<=Pg) (a3:W% Pg=0) (a0:W<=524288) (J:Pg∣B∨B∣Pg) (z:aO A rs φ L F Tp) (j:fe A rs φ E) (I:di E) (K:∀x,Reach A.gr rs x->hp (φ x)=A.np x∧hf (φ x)=A.nf x∧hg (φ x)=A.ng x) (bb:Tp-F<=Li-T) (a6:∀q,mp q=(decide (F<=q*Pg)&&decide (q*Pg<Tp)))
  (a5:Fs=(Li-T)/Pg+(ah+2)*(qk B Pg+3)) {q:Nat} (b2:Tp<=q*Pg) (Q:∀r,mpq r=(mp r&& !(decide (F/Pg<=r)&&decide (r<q)&&decide (gB E Pg W r=0)))) (hM:∀a,aY W Pg mpq a->M a=L a):
  ∃(L':Nat->Nat) (l:List Nat),fQ ⟨E,hp,T,W,Pg,B,(Li-T)/Pg,ah⟩ L' M mpq (fun _=>false) 0 0 (iv (cnt (ai E) 0 W) B) (T+A.Wd l)∧aJ A rs l∧cnt (ai E) 0 W=A.Wd l∧T+A.Wd l<=Li∧aO A rs (lD (goes E T) φ) L' T (T+A.Wd l)∧b8 ⟨E,hp,T,W,Pg,B,(Li-T)/Pg,ah⟩∧(∀a,E a≠0->bl (hp a) (hf a) (hg a)):=by
 have bd:=o.F1;have Z:=o.F2;have H:=o.F3;have bs:=o.T1;have b0:=o.T2;have b1:=o.T3;have ax:=o.T4;have bk:=o.L4;have bj:=o.F4;have ad:F=F/Pg*Pg:=by have:=Nat.div_add_mod F Pg;rw [Nat.mul_comm];omega
 have aq:(Li-T)/Pg*Pg=Li-T:=by
  have k:(Li-T)% Pg=0:=by
   obtain ⟨a,f⟩:∃a,T=a*Pg:=⟨T/Pg,by have:=Nat.div_add_mod T Pg;rw [Nat.mul_comm];omega⟩;obtain ⟨c,a4⟩:∃c,Li=c*Pg:=⟨Li/Pg,by have:=Nat.div_add_mod Li Pg;rw [Nat.mul_comm];omega⟩;rw [f,a4,<-Nat.sub_mul];exact Nat.mul_mod_left _ _
  have:=Nat.div_add_mod (Li-T) Pg;rw [Nat.mul_comm];omega
 obtain ⟨R,hR⟩:∃R,R=(Li-T)/Pg:=⟨_,rfl⟩;rw [<-hR] at aq a5 ⊢;have Y:∀a,E a≠0->∃x,Reach A.gr rs x∧φ x=a∧E a=A.sz x∧F<=a∧a+E a<=Tp:=fun a f=>by
  obtain ⟨x,p,e⟩:=j.some a f;have k:=j.size x p;have u:=z.lies x p;rw [e] at k u;exact ⟨x,p,e,k,u.1,by omega⟩
 have d:∀a,ai E a=true->F<=a∧a<Tp:=fun a f=>by
  obtain ⟨s,s1,s2⟩:=aQ.1 f;obtain ⟨x,p,e,k,u,t⟩:=Y s (by omega);omega
 have bo:cnt (ai E) 0 W=cnt (ai E) 0 Tp:=by
  rw [ay (ai E) (Nat.zero_le Tp) H,aE (a:=Tp) (b:=W) (fun i hi _=>by
   cases h:ai E i with
   |false=>rfl
   |true=>have:=d i h;omega),Nat.add_zero]
 obtain ⟨l,P⟩:=z.lives j (W:=W) (fun a f=>by obtain ⟨x,_,_,k,u,t⟩:=Y a f;omega);have a8:=(aJ.cnt z j P).1;have a9:A.Wd l<=Li-T:=by
  have k:cnt (ai E) 0 Tp<=Tp-F:=by
   rw [ay (ai E) (Nat.zero_le F) Z,aE (a:=0) (b:=F) (fun i _ hi=>by
    cases h:ai E i with
    |false=>rfl
    |true=>have:=d i h;omega),Nat.zero_add]
   exact be _ _ _
  omega
 have ho:b8 ⟨E,hp,T,W,Pg,B,R,ah⟩:=by
  refine ⟨I,n,o.B1,J,a3,a0,ax,?_,?_,fun a f=> ?_⟩
  ·show T+R*Pg<=W
   omega
  ·show cnt (ai E) 0 W<=R*Pg
   omega
  ·obtain ⟨k,u⟩:=d a f;refine ⟨by show a<W;omega,?_⟩;show a<T∨T+R*Pg<=a
   rcases o.ap with t|t
   ·right;omega
   ·left;have v:=Nat.div_add_mod (Tp+Pg-1) Pg;have V:=Nat.mod_lt (Tp+Pg-1) (show 0<Pg by omega);rw [Nat.mul_comm] at v;omega
 have U:∀r,r<W/Pg->mpq r=eM Pg (ai E) (fun _=>false) r:=fun r hr=>by
  have k:=jt (s:=⟨E,hp,T,W,Pg,B,R,ah⟩) n (fun _=>false) r;have u:=rD (s:=⟨E,hp,T,W,Pg,B,R,ah⟩) n (fun a f=>by have:=d a f;show a<W;omega) r;rw [<-u] at k;have G:gB E Pg W r≠0↔eM Pg (ai E) (fun _=>false) r=true:=k;rw [Q,a6]
  cases hf:eM Pg (ai E) (fun _=>false) r with
  |true=>
   have t:=G.2 hf;unfold eM at hf;obtain ⟨a,C,D⟩:=(aH n).1 hf;rw [Bool.and_eq_true] at D;obtain ⟨v,V⟩:=d a D.1;have X:F/Pg<=r:=by rw [<-C];exact Nat.div_le_div_right v
   have h7:=Nat.mul_le_mul_right Pg X;have h8:r*Pg<=a:=by rw [<-C];exact Nat.div_mul_le_self _ _
   rw [decide_eq_true (show F<=r*Pg by omega),decide_eq_true (show r*Pg<Tp by omega),decide_eq_false t];simp
  |false=>
   have t:gB E Pg W r=0:=by
    by_cases v:gB E Pg W r=0
    ·exact v
    ·rw [G.1 v] at hf;cases hf
   rw [t];by_cases V:F<=r*Pg∧r*Pg<Tp
   ·have X:F/Pg<=r:=by
     have:=Nat.div_le_div_right (c:=Pg) V.1;rwa [Nat.mul_div_cancel _ (by omega)] at this
    have h7:r<q:=by
     rcases Nat.lt_or_ge r q with h|h
     ·exact h
     ·have:=Nat.mul_le_mul_right Pg h;omega
    rw [decide_eq_true X,decide_eq_true h7];simp
   ·have:(decide (F<=r*Pg)&&decide (r*Pg<Tp))=false:=by rw [Bool.and_eq_false_iff,decide_eq_false_iff_not,decide_eq_false_iff_not];omega
    rw [this];rfl
 have av:∀a,ai E a=true->M a=L a:=fun a f=>by
  obtain ⟨k,u⟩:=d a f;have t:a/Pg<W/Pg:=by
   rw [Nat.div_lt_iff_lt_mul (by omega)];have:W=W/Pg*Pg:=by have:=Nat.div_add_mod W Pg;rw [Nat.mul_comm];omega
   omega
  refine hM a ⟨by omega,?_⟩;rw [U _ t];exact (aH n).2 ⟨a,rfl,by rw [f];rfl⟩
 have y:aO A rs φ M F Tp:=z.congr2 (fun x p i hi=>av _ (z.live j p hi));have O:∀x,Reach A.gr rs x->hp (φ x)=A.np x:=fun x p=>(K x p).1
 have a7:=ta ho (M:=M) (mp:=mpq) U (y.opn_ptr j O (show Tp<=W from H)) (y.opn_small j (by omega)) (eK (a:=F/Pg) (fun r hr hf=>by
  obtain ⟨a,C,D⟩:=(aH n).1 hf;rw [Bool.and_eq_true] at D;obtain ⟨v,V⟩:=d a D.1;refine ⟨by rw [<-C];exact Nat.div_le_div_right v,?_⟩;rw [<-C];show a/Pg<F/Pg+R
  rw [Nat.div_lt_iff_lt_mul (by omega),Nat.add_mul,<-ad];omega))
 obtain ⟨L',hP,am⟩:=a7;have hN:(⟨E,hp,T,W,Pg,B,R,ah⟩:bh).N=A.Wd l:=by
  show cnt (ai E) 0 W=_
  omega
 refine ⟨L',l,?_,P,by omega,by omega,?_,ho,fun a f=> ?_⟩
 ·have:=hP;rw [hN] at this;exact this
 ·have:=y.opn_laid j I O (T:=T) (by omega) (L:=L') (fun a f=>am a f);rw [a8] at this;exact this
 ·obtain ⟨x,p,e,_⟩:=Y a f;have k:=K x p;rw [e] at k;rw [k.1,k.2.1,k.2.2];exact (z.head x p).2
end
section
variable {P:Program}
theorem om (ps:List PK):il (ps.map PK.post)=fun j=>(fE ps j).post:=funext fun j=>by
 unfold il fE;rw [List.getD_eq_getElem?_getD,List.getD_eq_getElem?_getD,List.getElem?_map]
 cases ps[j]? <;>rfl
theorem gc {R:World->World->Prop}:∀{ps:List PK},ip R ps->lN R (ps.map PK.post)
 |[],_=>trivial
 | .c _::l,h=>⟨fun _ _ _ h _=>h,gc (ps:=l) h⟩
 | .p _::l,h=>⟨h.1,gc (ps:=l) h.2⟩
 | .w _ _::l,h=>⟨fun _ w w' hp a=>⟨hp.1,h.1 w w' hp.2 a⟩,gc (ps:=l) h.2⟩
theorem eS {R:World->World->Prop} {d:Nat}:∀{ps:List PK} (k:Nat),fM R d k ps->oL R d k (ps.map PK.post)
 |[],_,_=>trivial
 | .c _::l,k,h=>⟨.inr (fun _ _ _ h _=>h),eS (ps:=l) (k+1) h⟩
 | .p _::l,k,h=>⟨h.1,eS (ps:=l) (k+1) h.2⟩
 | .w _ _::l,k,h=>⟨h.1.imp id (fun h _ w w' hp a=>⟨hp.1,h w w' hp.2 a⟩),eS (ps:=l) (k+1) h.2⟩
theorem qP {vs:Nat->Value} {w:World}:∀(ps:List (Value->World->Prop)) (k:Nat),rU vs w k ps->∀j,j<ps.length->il ps j (vs (k+j)) w
 |_::_,_,h,0,_=>h.1
 |_::l,k,h,j+1,hj=>by
  have:=qP l (k+1) h.2 j (Nat.lt_of_succ_lt_succ hj);rw [show k+(j+1)=k+1+j by omega];exact this
theorem fI {J k m:Nat} {Q:Exit->Act->World->Prop} {a:Act} {w:World} {l:List Oper} (n d:Nat) (R R1:World->World->Prop) (ps:List PK) (nw:Nat->Bool) (G:P.follows .mixedOrders=true) (u:ek l=true) (v:dq l=true)
  (x:(decide (n=l.length)&&Region.seqB .any l.toArray 0 n (eA l.length n))=true) (y:ps.length=n)
  (s:∀w,R1 w w) (q:∀w w',R1 w w'->R w w') (f:∀w1 w2 w3,R1 w1 w2->R1 w2 w3->R1 w1 w3) (g:∀w1 w2 w3,R w1 w2->R1 w2 w3->R w1 w3) (o:∀w1 w2 w3,R1 w1 w2->R w2 w3->R w1 w3) (I:∀w w',R w w'->w.heap.size<=w'.heap.size) (e:ip R1 ps) (t:fM R d 0 ps)
  (h:∀F:(Nat->Value)->Act,(F=fun vs=>{a with tmps:=cU vs 0 ps (l.take n) a.tmps})->gK P (bC l d) F w.drew d R R1 ps nw 0 (l.take n)∧∀vs w',R w.drew w'->pa vs w' 0 ps->(∀i j,nw i=true->nw j=true->i<n->j<n->i≠j->cX (vs i)≠cX (vs j))->Q .normal (F vs) w'):
  (Code.region J l.toArray true).wpIn (Fence.wide.inRound k) m P Q a w:=by
 have B:=x;rw [Bool.and_eq_true,decide_eq_true_eq] at B;have b:ps.length=(l.take n).length:=by rw [y,List.length_take];omega
 have r:∀vs,cU vs 0 ps (l.take n) a.tmps=bg (iK ps vs) 0 (l.take n) a.tmps:=fun vs=>oy ps (l.take n) 0 _ b (fun j=>by rw [Nat.zero_add])
 obtain ⟨z,A⟩:=h _ rfl;simp only [r] at z A;refine kS n d R R1 (ps.map PK.post) nw G u v x (by rw [List.length_map];exact y) s q f g o I (gc e) (eS 0 t) (fun F C=> ?_);subst C;rw [om];refine ⟨iC (eR u v) _ 0 (fun j=>by rw [Nat.zero_add]) z,fun vs w' H hp D=> ?_⟩;have c:∀j,j<n->(fE ps j).post (vs j) w':=fun j p=>by
  have:=qP _ _ hp j (by rw [List.length_map];omega);rw [om,Nat.zero_add] at this;exact this
 have E:iK ps vs=vs:=funext fun j=>by
  rcases Nat.lt_or_ge j n with p|p
  ·exact PK.val_post (c j p)
  ·unfold iK fE;rw [List.getD_eq_getElem?_getD,List.getElem?_eq_none (by omega)];rfl
 have:=A vs w' H (mb ps 0 (fun j p=>by rw [Nat.zero_add];exact c j (by omega))) D;rwa [E] at this
end
end Go.Proofs.YthahbijbpinneaaGreatDoor
