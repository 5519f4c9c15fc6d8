import Derived.Test.YthahbijbpinneaaGreatDoorA2
import Derived.Test.YthahbijbpinneaaGreatDoorA3
import Derived.Test.YthahbijbpinneaaGreatDoorA4
import Derived.Test.YthahbijbpinneaaGreatDoorA8
import Derived.Test.YthahbijbpinneaaGreatDoorA9
import Derived.Maps.OwnIn
import Derived.Laws.OwnMore
set_option maxRecDepth 100000
set_option maxHeartbeats 8000000
set_option linter.all false
namespace Go.Proofs.YthahbijbpinneaaGreatDoor
open Go.RowKit
def dT (l:List (Nat×Nat)):List Value:=l.map fun x=> .int .i64 (x.1:Int)
theorem jI (E:Nat→Nat) (W:Nat):(aO E W).length≤W:=by
 unfold aO bf;rw [List.length_map];have h1:=List.length_filter_le (aU E) (List.range' 0 (W-0));rw [List.length_range'] at h1;omega
def td (E:Nat→Nat) (W:Nat) (w:World) (e:Ending) (w':World):Prop:=
 ∃v,e= .returned v∧w'.ownsRow (w.heap.size+2) 3 1 v (aO E W).length (dT (aO E W))∧Fr (fun _=>False) w w'
def xq (L:aI) (W:Nat) (E:Nat→Nat) (tb c:Nat) (pre:List (Nat×Nat)) (S:Nat→Prop) (W':World):Prop:=
 ∃sl,S=(fun k=>k=c∨sl.ownBlock=some k)∧j6 L tb W E W'∧ak W' c [sl] 123∧W'.ownsRow (tb+1) 3 1 sl pre.length (dT pre)
theorem xq.stays {L:aI} {W:Nat} {E:Nat→Nat} {tb c B:Nat} (hL:∀k,L.has k→k<B) (h1:tb<B) (h4:aN<B):cq B (xq L W E tb c):=by
 rintro pre S W1 W2 T ⟨sl,rfl,⟨q1,q2,q3⟩,q4,q5⟩ hf hT;have hno:∀i,i<B→¬T i:=fun i hi h=>by have:=(hT i h).1;omega
 exact ⟨sl,rfl,⟨q1.frame hf (fun k hk=>hno k (hL k hk)),an q2 hf (hno _ h4),q3.frame hf (hno _ h1)⟩,q4.frame hf (fun h=>(hT _ h).2 (.inl rfl)),bm q5 hf (fun k hk h=>(hT _ h).2 (.inr hk))⟩
section
attribute [local go_sem] Oper.semAt_some
theorem pr (d:Nat) {w:World} {kb:Nat} {L:aI} {W:Nat} {E:Nat→Nat} (hk:w.cell? ⟨kb,1,none⟩=some (.pointer (some ⟨L.m,0,none⟩))) (h:bA w L W E) (hT:bu w):CallsIn Fence.wide d Tryz.prog 207 #[kb] w (td E W w):=by
 refine callsIn_of_wp_marks Tryz.func207 rfl trivial ?_ rfl;simp only [Tryz.ntmps207,List.size_toArray,List.length_cons,List.length_nil,Nat.reduceAdd,Nat.reduceSub,Array.replicate_succ,Array.replicate_zero,List.push_toArray,List.append_toArray,List.nil_append,List.cons_append];obtain ⟨hW1,hW2⟩:=h.small;have HX:=ae h;have HT:=ae hT;obtain ⟨i0,hi,hz0,hz1,hz2⟩:=info_parts dD;have hk2:∀o,(w.alloc o).cell? ⟨kb,1,none⟩=some (.pointer (some ⟨L.m,0,none⟩)):=fun o=>by
  have hf:Fr (fun _=>False) w (w.alloc o):=(Fr.refl _ w).alloc o;exact (World.cell?_of_block (w:=w) (hf.block _ (aE hk) (fun h=>h))).trans hk
 have hlt:=aE hk;clear h hT;obtain ⟨W2,hW2d⟩:∃W2,w.alloc (.cells #[.slice none 0 0] 123)=W2:=⟨_,rfl⟩;have hf2:Fr (fun _=>False) w W2:=by rw [←hW2d];exact (Fr.refl _ w).alloc _
 have hcb:ak W2 w.heap.size [.slice none 0 0] 123:=by rw [←hW2d];exact ak.new w _ _
 have hz2':W2.heap.size=w.heap.size+1:=by rw [←hW2d];exact Array.size_push _
 have HA:=ae (dB L.m W2);have hk3:W2.cell? ⟨kb,1,none⟩=some (.pointer (some ⟨L.m,0,none⟩)):=by rw [←hW2d];exact hk2 _
 have HF2:=ae (af hf2 (af hcb hz2'));clear hf2 hcb hz2' hk hk2;gi_wp2;clear hW2d hk3;refine bt ((HA.out).mono ?_);rintro e W3 ⟨rfl,hW3⟩;have hf3:Fr (fun _=>False) W2 W3:=by rw [hW3];exact (Fr.refl _ W2).alloc _
 have htb:ak W3 W2.heap.size [.pointer (some ⟨L.m,0,none⟩)] 132:=by rw [hW3];exact ak.new W2 _ _
 have hz3:W3.heap.size=W2.heap.size+1:=by rw [hW3];exact Array.size_push _
 obtain ⟨hf2,hcb,hz2'⟩:=HF2.out;have hfw3:Fr (fun _=>False) w W3:=hf2.trans hf3 (fun _ h=>h.elim);have htl:aN<w.heap.size:=aE (HT.out 0 0 rfl);have hI0:xq L W E W2.heap.size w.heap.size [] (fun k=>k=w.heap.size∨(Value.slice none 0 0).ownBlock=some k) W3:=⟨_,rfl,⟨HX.out.frame hfw3 (fun _ _ h=>h),an HT.out hfw3 (fun h=>h),htb⟩,hcb.frame hf3 (fun h=>h),World.ownsRow_nil _ _ _ _⟩;have hstay:cq W3.heap.size (xq L W E W2.heap.size w.heap.size):=xq.stays (fun k hk=>by have:=HX.out.lt k hk;omega) (by omega) (by omega);have HF3:=ae (af hfw3 (af hz3 (af hz2' htl)));clear hW3 hf3 htb hcb hf2 HF2 HA hz3 hz2' htl hfw3;gi_wp2;refine df (gf:=220) (lb:= #[W2.heap.size]) rfl (enters_of Tryz.func220 (by kernel_rfl) rfl) (encs:=fM) (fun _=>rfl) (dz (L:=L) (tb:=W2.heap.size) (E:=E) hW2) (xq L W E W2.heap.size w.heap.size) _ hstay (fun _ _ _ h=>h.choose_spec.2.1) (fun k hk=>by have:=HF3.out.2.1;have:=HF3.out.2.2.1;rcases hk with h|h;omega;simp [Value.ownBlock] at h) hI0
  ?a1 ?assign ?body ?done
 case assign=>
  intro k x W K hK;unfold fM;gi_wp2;exact hK
 case body=>
  intro l pre S x W' hI hlen hf hs;obtain ⟨sl,rfl,q1,q4,q5⟩:=hI;obtain ⟨s,n⟩:=x;have c0:=q4.cell 0 rfl;have hz:=HF3.out;have hlp:pre.length<1048576:=by
   have h1:=(List.getElem?_eq_some_iff.1 hlen).1;have h2:=jI E W;omega
  have HB:=ae (af q1 (af q4 q5));have hsz:=hf.size;clear hf hs hlen hI0 hstay q1 q4 q5;gi_wp2_with (gi_at_builtin;refine Hid.out ?_)
  unfold Hid;have hfa:Fr (fun _=>False) W' (W'.alloc (.cells #[.int .i64 s] 3)):=(Fr.refl _ W').alloc _;have hnew:ak (W'.alloc (.cells #[.int .i64 s] 3)) W'.heap.size [.int .i64 s] 3:=ak.new W' _ _;have hza:(W'.alloc (.cells #[.int .i64 s] 3)).heap.size=W'.heap.size+1:=Array.size_push _;have hoa:=bm HB.out.2.2 hfa (fun _ _ h=>h);refine wpListIn_append_own_at _ rfl _ _ 123 rfl (W2.heap.size+1) 3 i0 _ 1 8 Tryz.underlying123 hi hz0 hz1 hz2 rfl (by decide) sl pre.length (dT pre) rfl hoa ⟨W'.heap.size,0,none⟩ 1 1 [.int .i64 s] rfl rfl ?_ ?_ (by unfold maxLen;omega) (by omega) (by omega) ?_
  ·intro j u' hj;have:=hnew.cell j hj;rwa [show ((⟨W'.heap.size,0,none⟩:Addr).add j)=⟨W'.heap.size,j,none⟩ by unfold Addr.add;split<;>simp_all]
  ·intro u' hu';rw [List.mem_singleton.1 hu'];rfl
  ·intro v' w3 ho2 hg _ hv;obtain ⟨g,cap,rfl⟩:∃g cap,v'= .slice (some ⟨g,0,none⟩) (pre.length+1) cap:=by
    rcases ho2.2 with ⟨_,h⟩|⟨g,cap,_,h,_⟩
    ·omega
    ·exact ⟨g,cap,h⟩
   obtain ⟨⟨q1,q2,q3⟩,q4,q5⟩:=HB.out;have hlts:=fun k (hk:sl.ownBlock=some k)=>q5.lt k hk
   have hf3:Fr (fun k=>sl.ownBlock=some k) W' w3:=(hfa.mono (S':=fun k=>sl.ownBlock=some k) (fun _ h=>h.elim)).trans (Fr.of_grown hg) (fun i hi=> .inl hi);have hb3:=q4.frame hf3 (fun h=>by have:=(hlts _ h).1;omega);have c3:=hb3.cell 0 rfl;have f3:=hb3.free 0;have HE:Hid (∀w4,w4=w3.setCell ⟨w.heap.size,0,none⟩ (.slice (some ⟨g,0,none⟩) (pre.length+1) cap)→s8 (xq L W E W2.heap.size w.heap.size) (pre++[(s,n)]) (fun k=>k=w.heap.size∨sl.ownBlock=some k) W' w4):=by
    show∀w4,_
    rintro w4 rfl;have hf4:Fr (fun k=>k=w.heap.size∨sl.ownBlock=some k) W' (w3.setCell ⟨w.heap.size,0,none⟩ (.slice (some ⟨g,0,none⟩) (pre.length+1) cap)):=(hf3.mono (fun k hk=> .inl (.inr hk))).setCell ⟨w.heap.size,0,none⟩ (.inl (.inl rfl)) _;have hno:∀k,k<w.heap.size+2→k≠w.heap.size→(∀j,sl.ownBlock=some j→j≠k)→¬(k=w.heap.size∨sl.ownBlock=some k):=fun k _ h1 h2 h=>by
     rcases h with h|h
     ·exact h1 h
     ·exact h2 k h rfl
    refine ⟨_,⟨.slice (some ⟨g,0,none⟩) (pre.length+1) cap,rfl,⟨q1.frame hf4 ?_,an q2 hf4 ?_,q3.frame hf4 ?_⟩,hb3.set 0 _,?_⟩,hf4,?_⟩
    ·rintro k hk (h|h)
     ·have:=HX.out.lt k hk;omega
     ·have:=HX.out.lt k hk;have:=(hlts k h).1;omega
    ·rintro (h|h)
     ·have:=hz.2.2.2;unfold aN at this;omega
     ·have:=hz.2.2.2;have:=(hlts _ h).1;unfold aN at*;omega
    ·rintro (h|h)
     ·omega
     ·have:=(hlts _ h).1;omega
    ·rw [List.length_append,show dT (pre++[(s,n)])=dT pre++[.int .i64 s] by simp [dT]];exact bm ho2 ((Fr.refl (fun k=>k=w.heap.size) w3).setCell ⟨w.heap.size,0,none⟩ (.inl rfl) _) (fun k hk e=>by have:=(ho2.lt k hk).1;omega)
    ·rintro k (h|h)
     ·exact .inl (.inl h)
     ·rcases hv with e|e
      ·exact .inl (.inr (by rw [←e];exact h))
      ·rw [e] at h;simp only [Option.some.injEq] at h;exact .inr (by omega)
   clear hfa hnew hza hoa ho2 hg hv q1 q2 q3 q4 q5 hlts hf3 hb3 HB c0 hsz hz hlp;gi_wp2;exact HE.out _ rfl
 case done=>
  intro D S W' hI hD hlt' hns hf hs;obtain ⟨sl,rfl,q1,q4,q5⟩:=hI;have c0:=q4.cell 0 rfl;have hz:=HF3.out;have hsz:=hz.1.size;have hfw:Fr (fun _=>False) w W':=hz.1.trans hf (fun k hk=> .inr (by
   rcases hk with h|h
   ·omega
   ·simp [Value.ownBlock] at h))
  have HD:=ae hD;have hQ:td E W w (.returned sl) (W'.putObj D (.deferred none)):=by
   have hfd:Fr (fun k=>k=D) W' (W'.putObj D (.deferred none)):=(Fr.refl _ W').putObj _ _ (.inl rfl);refine ⟨sl,rfl,?_,hfw.trans hfd (fun k hk=> .inr (by omega))⟩;rw [←show W2.heap.size+1=w.heap.size+2 by omega];exact bm q5 hfd (fun k hk e=>hns (.inr (by rw [←e];exact hk)))
  have HQ:=ae hQ;clear hf hs q1 q4 q5 hz hsz hfw hQ hI0 hstay hD hns hlt';gi_wp2;refine ⟨by simp,.inl ⟨_,_,rfl,run_takeDeferred HD.out,?_⟩⟩;exact ⟨_,results_tmp (t:=2) rfl _ _ _,HQ.out⟩
end
structure kl (G:Gr) (rs:List Nat) (N Rm no0:Nat) (pend:Nat→Prop) (st:dl):Prop where
 inv:dV G rs N Rm st
 xs:st.xs=[]
 all:∀b,st.E b≠0→qN G st.E b∨st.lost=true∨pend b
 lost:st.lost=true→no0<st.no
 le:no0≤st.no
section
variable {G:Gr} {rs:List Nat} {N Rm no0:Nat} {pend pend':Nat→Prop} {st st1 cur:dl}
theorem kl.go (h:kl G rs N Rm no0 pend st) (hm:eG st st1) (hp:∀b,pend b→st1.E b≠0→pend' b∨qN G st1.E b) (hd:kh G rs N Rm st1 cur []) (hx:cur.xs=[]):
  kl G rs N Rm no0 pend' cur∧∀b,st1.E b≠0→cur.E b≠0:=by
 refine ⟨⟨hd.inv,hx,fun b hb=> ?_,fun e=> ?_,Nat.le_trans h.le (Nat.le_trans hm.no hd.no)⟩,hd.mono⟩
 ·rcases hd.all b hb with h1|h1|h1|h1|⟨h1,h2⟩
  ·exact .inl h1
  ·rw [hx] at h1;exact absurd h1 (List.not_mem_nil)
  ·exact absurd h1 (List.not_mem_nil)
  ·exact .inr (.inl h1)
  ·rcases hm.new b h1 with h3|h3|h3
   ·rcases h.all b h3 with h4|h4|h4
    ·exact .inl (fun p hp h0=>hd.mono p (hm.mono p (h4 p hp h0)))
    ·exact .inr (.inl (hd.lost (hm.lost h4)))
    ·rcases hp b h4 h1 with h5|h5
     ·exact .inr (.inr h5)
     ·exact .inl (fun p hp h0=>hd.mono p (h5 p hp h0))
   ·exact absurd h3 h2
   ·exact .inr (.inl (hd.lost h3))
 ·have:=hm.no;have:=hd.no;have:=h.le;rcases hd.lost' e with h1|h1
  ·rcases hm.lost' h1 with h2|h2
   ·have:=h.lost h2;omega
   ·omega
  ·omega
theorem kl.again (h:kl G rs N Rm no0 (fun _=>False) st) {W:Nat} (hW:N≤W) (hG:cg G rs N):kl G rs N Rm st.no (fun b=>b∈(aO st.E W).map (·.1)) {st with lost:=false}:=
 ⟨⟨h.inv.marked,h.inv.no,h.inv.nw,h.inv.xs,h.inv.rm⟩,h.xs,fun b hb=> .inr (.inr (List.mem_map.2 ⟨(b,st.E b),bh.2 ⟨by
  have h1:=(h.inv.marked b hb);have h2:=hG.top b (by rw [←h1.2];exact hb);have h3:st.E b≠0:=hb;rw [←h1.2] at h2;show b<W
  omega,hb,rfl⟩,rfl⟩)),(fun h=>by cases h),Nat.le_refl _⟩
theorem kl.done (h:kl G rs N Rm no0 (fun _=>False) st) (hl:st.lost=false) (hr:∀a∈rs,a≠0→st.E a≠0) (a:Nat):st.E a≠0↔Reach G rs a:=
 pi h.inv.marked hr (fun b hb=>by
  rcases h.all b hb with h1|h1|h1
  ·exact h1
  ·rw [hl] at h1;cases h1
  ·exact h1.elim) a
end
section
variable {I:dW} {t:TypeId} {v wk:Value} {L:Nat→Nat} {EL:aI} {W kb sb Rm:Nat} {S0:Nat→Prop} {w0:World} {PB:Nat→Prop} {wp:World} {S S1:Nat→Prop} {sv sv1:Value} {Hg high1 nr nv:Int} {st:dl} {w w1:World} {fl:Nat} {r:Value} {dom:Nat→Prop} {G:Gr} {rs:List Nat} {N:Nat}
theorem eJ.fresh_ (hs:ba t v fl r I dom) (h:eJ I t v wk L EL W kb sb Rm S0 w0 PB wp S sv Hg nr nv st w) (hf:Fr (fun _=>False) w w1):eJ I t v wk L EL W kb sb Rm S0 w0 PB wp S sv Hg nr nv st w1:=
 ⟨hs.keep h.sp hf,h.blk.frame hf (fun h=>h),h.ext.frame hf (fun _ _ h=>h),h.stk.keep hf (fun h=>h) (fun _ _ h=>h),an h.tab hf (fun h=>h),h.s0,h.sv0,h.fr.trans hf (fun _ h=>h.elim),fun k hk=>by
  obtain ⟨p1,p2,p3,p4,p5⟩:=h.prot k hk;have:=hf.size;exact ⟨p1,by omega,p3,p4,(hf.block k p2 (fun h=>h)).trans p5⟩⟩
theorem eJ.protect (hs:ba t v fl r I dom) (h:eJ I t v wk L EL W kb sb Rm S0 w0 PB wp S sv Hg nr nv st w) (hf:Fr (fun _=>False) w w1) {P:Nat→Prop} (hP:∀g,P g→w.heap.size≤g∧g<w1.heap.size):eJ I t v wk L EL W kb sb Rm S0 w0 P w1 S sv Hg nr nv st w1:=by
 have h':=h.fresh_ hs hf;have hsz:=h.size;refine ⟨h'.sp,h'.blk,h'.ext,h'.stk,h'.tab,h'.s0,h'.sv0,h'.fr,fun k hk=> ?_⟩;obtain ⟨h1,h2⟩:=hP k hk;exact ⟨by omega,h2,fun hk=>by have:=hs.lt _ _ _ h.sp k hk;omega,fun hk=>by have:=h.svlt k hk;omega,rfl⟩
theorem dh.unprotect (h:dh I t v wk L EL W kb sb Rm S0 w0 PB wp st w) (wq:World):dh I t v wk L EL W kb sb Rm S0 w0 (fun _=>False) wq st w:=by
 obtain ⟨S,sv,Hg,nr,nv,h⟩:=h;exact ⟨S,sv,Hg,nr,nv,h.sp,h.blk,h.ext,h.stk,h.tab,h.s0,h.sv0,h.fr,fun _ h=>h.elim⟩
end
def uV:dl:={E:=fun _=>0,xs:=[],lost:=false,no:=0,nw:=0}
section
variable {I:dW} {t:TypeId} {v wk:Value} {L:Nat→Nat} {EL:aI} {W kb sb Rm:Nat} {S0:Nat→Prop} {w0:World} {PB:Nat→Prop} {wp:World} {S S1:Nat→Prop} {sv sv1:Value} {Hg high1 nr nv:Int} {st:dl} {w w1:World} {fl:Nat} {r:Value} {dom:Nat→Prop} {G:Gr} {rs:List Nat} {N:Nat}
def pV (I:dW) (t:TypeId) (v wk:Value) (L:Nat→Nat) (EL:aI) (W kb sb Rm:Nat) (S0:Nat→Prop) (w0:World) (G:Gr) (rs:List Nat) (N:Nat) (e:Ending) (w':World):Prop:=
 e= .returned (.tuple #[])∧∃st:dl,dh I t v wk L EL W kb sb Rm S0 w0 (fun _=>False) w0 st w'∧dV G rs N Rm st∧∀a,st.E a≠0↔Reach G rs a
def yP (I:dW) (t:TypeId) (v wk:Value) (L:Nat→Nat) (EL:aI) (W kb sb Rm:Nat) (S0:Nat→Prop) (w0:World) (G:Gr) (rs:List Nat) (N i:Nat) (w':World):Prop:=
 ∃st:dl,dh I t v wk L EL W kb sb Rm S0 w0 (fun _=>False) w0 st w'∧kl G rs N Rm 0 (fun _=>False) st∧∀(j a:Nat),j<i→rs[j]? =some a→a≠0→st.E a≠0
def yo (I:dW) (t:TypeId) (v wk:Value) (L:Nat→Nat) (EL:aI) (W kb sb Rm:Nat) (S0:Nat→Prop) (w0:World) (G:Gr) (rs:List Nat) (N:Nat) (w':World) (m:Nat):Prop:=
 ∃(st:dl) (n0:Nat),dh I t v wk L EL W kb sb Rm S0 w0 (fun _=>False) w0 st w'∧kl G rs N Rm n0 (fun _=>False) st∧(∀a∈rs,a≠0→st.E a≠0)∧2*(N-st.no)+(if st.lost then 1 else 0)≤m
def yc (I:dW) (t:TypeId) (v wk:Value) (L:Nat→Nat) (EL:aI) (W kb sb Rm:Nat) (S0:Nat→Prop) (w0:World) (PB:Nat→Prop) (wp:World) (G:Gr) (rs:List Nat) (N n0:Nat) (l:List (Nat×Nat)) (i:Nat) (w':World):Prop:=
 ∃st:dl,dh I t v wk L EL W kb sb Rm S0 w0 PB wp st w'∧kl G rs N Rm n0 (fun b=>b∈(l.drop i).map (·.1)) st∧(∀a∈rs,a≠0→st.E a≠0)∧(∀x∈l,st.E x.1≠0)
theorem yc.close {PB:Nat→Prop} {n0 m0:Nat} {l:List (Nat×Nat)} {i:Nat} (h:yc I t v wk L EL W kb sb Rm S0 w0 PB wp G rs N n0 l i w) (hi:i=l.length) (hm:2*(N-n0)+1≤m0):∃m,m<m0∧yo I t v wk L EL W kb sb Rm S0 w0 G rs N w m:=by
 obtain ⟨st,h1,h2,h3,_⟩:=h;have h4:kl G rs N Rm n0 (fun _=>False) st:=⟨h2.inv,h2.xs,fun b hb=>by
  rcases h2.all b hb with h|h|h
  ·exact .inl h
  ·exact .inr (.inl h)
  ·rw [hi,List.drop_length] at h;exact absurd h (List.not_mem_nil),h2.lost,h2.le⟩
 have h5:=h2.inv.small;have h6:=h2.le;refine ⟨2*(N-st.no)+(if st.lost then 1 else 0),?_,st,n0,h1.unprotect w0,h4,h3,Nat.le_refl _⟩
 cases hl:st.lost with
 |false=>rw [if_neg (by decide)];omega
 |true=>have:=h2.lost hl;rw [if_pos rfl];omega
theorem uh (hs:ba t v fl r I dom) (hS:sL EL kb sb w0.heap.size S0) (hG:cg G rs N) (hW:N≤W) (hO:∀a,G.size a≠0→dy L dom G a) (h:dh I t v wk L EL W kb sb Rm S0 w0 (fun _=>False) w0 uV w) (hroom:Rm≤4096)
  (rb rc:Nat) (hrb:rb<w0.heap.size∧¬S0 rb∧¬EL.has rb∧rb≠kb∧rb≠sb) (hrs:∀(i a:Nat),rs[i]? =some a→w0.cell? ⟨rb,i,none⟩=some (.int .i64 a)) (hrl:rs.length≤1048576):
  Calls Tryz.prog 140 #[kb,.slice (some ⟨rb,0,none⟩) rs.length rc] w (pV I t v wk L EL W kb sb Rm S0 w0 G rs N):=by
 have hroot:∀a,a∈rs→a≠0→Reach G rs a:=fun a h1 h2=> .root h1 h2
 have HRE:=ae (fun (i:Nat) w1 (a:Nat) st1 (hi:rs[i]? =some a) (hb:dh I t v wk L EL W kb sb Rm S0 w0 (fun _=>False) w0 st1 w1) (hr:kl G rs N Rm 0 (fun _=>False) st1)=>by
  have hsm:=hr.inv.small;have hsm2:N≤1048576:=by obtain ⟨_,_,_,_,_,hd⟩:=hb;have:=hd.ext.small.2;omega
  exact kK hs hS hG hW hO hb hr.inv.marked a (fun h0=>hroot a (List.mem_of_getElem? hi) h0) (by omega) (by omega) hroom)
 have HDR:=ae (fun PB wp w1 st1 (hb:dh I t v wk L EL W kb sb Rm S0 w0 PB wp st1 w1) (hi:dV G rs N Rm st1)=>pj hs hS hG hW hO hb hi hroom);have HVI:=ae (fun PB wp w1 st1 a (hb:dh I t v wk L EL W kb sb Rm S0 w0 PB wp st1 w1) (hi:dV G rs N Rm st1) (ha:Reach G rs a)=>jG hs hS hG hW hO hb hi a ha hroom);have HMI:=ae (fun (i a:Nat) st1 (hi:rs[i]? =some a) (hr:kl G rs N Rm 0 (fun _=>False) st1)=>jF (Rm:=Rm) hG hr.inv (fun h0=>hroot a (List.mem_of_getElem? hi) h0));have HMV:=ae (fun (l:List (Nat×Nat)) (i:Nat) x n0 st1 (hi:l[i]? =some x) (hr:kl G rs N Rm n0 (fun b=>b∈(l.drop i).map (·.1)) st1) (hl:∀x∈l,st1.E x.1≠0)=>af (hr.inv.marked _ (hl x (List.mem_of_getElem? hi))).1 (ip (Rm:=Rm) hG hr.inv (hr.inv.marked _ (hl x (List.mem_of_getElem? hi))).1).1);have HN1:=ae (fun (i a:Nat) w2 st1 (hi:rs[i]? =some a) (hr:kl G rs N Rm 0 (fun _=>False) st1) (hj:∀(j a:Nat),j<i→rs[j]? =some a→a≠0→st1.E a≠0) cur (hb:dh I t v wk L EL W kb sb Rm S0 w0 (fun _=>False) w0 cur w2) (hd:kh G rs N Rm (bE G Rm st1 a) cur []) (hx:cur.xs=[])=>by
  have h1:=iL (G:=G) (Rm:=Rm) st1 a (fun h0=>hG.reach (hroot a (List.mem_of_getElem? hi) h0));obtain ⟨q1,q2⟩:=hr.go h1.1 (fun b hb _=>hb.elim) hd hx;exact (show yP I t v wk L EL W kb sb Rm S0 w0 G rs N (i+1) w2 from ⟨cur,hb,q1,fun j b hj2 hb2 h0=>by
   rcases Nat.lt_or_ge j i with h|h
   ·exact q2 _ (h1.1.mono _ (hj j b h hb2 h0))
   ·have:j=i:=by omega
    subst this;rw [hi] at hb2;simp only [Option.some.injEq] at hb2;subst hb2;exact q2 _ (h1.2 h0)⟩))
 have HN3:=ae (fun (PB:Nat→Prop) (wp:World) n0 (l:List (Nat×Nat)) (i:Nat) x w2 st1 (hi:l[i]? =some x) (hr:kl G rs N Rm n0 (fun b=>b∈(l.drop i).map (·.1)) st1) (hrt:∀a∈rs,a≠0→st1.E a≠0) (hl:∀x∈l,st1.E x.1≠0) cur (hb:dh I t v wk L EL W kb sb Rm S0 w0 PB wp cur w2) (hd:kh G rs N Rm (cj G Rm st1 x.1) cur []) (hx:cur.xs=[])=>by
  have hx1:=hl x (List.mem_of_getElem? hi);have h1:=ip (Rm:=Rm) hG hr.inv (hr.inv.marked _ hx1).1;have hdr:l.drop i=x::l.drop (i+1):=(List.getElem?_eq_some_iff.1 hi).2▸(List.drop_eq_getElem_cons (List.getElem?_eq_some_iff.1 hi).1);obtain ⟨q1,q2⟩:=hr.go (pend':=fun b=>b∈(l.drop (i+1)).map (·.1)) h1.2.1 (fun b hb _=>by
   rw [hdr,List.map_cons] at hb;rcases List.mem_cons.1 hb with e|e
   ·rw [e];exact .inr h1.2.2
   ·exact .inl e) hd hx
  exact (show yc I t v wk L EL W kb sb Rm S0 w0 PB wp G rs N n0 l (i+1) w2 from ⟨cur,hb,q1,fun a ha h0=>q2 _ (h1.2.1.mono _ (hrt a ha h0)),fun x hx=>q2 _ (h1.2.1.mono _ (hl x hx))⟩))
 have hRC:∀wr st1,dh I t v wk L EL W kb sb Rm S0 w0 (fun _=>False) w0 st1 wr→∀(i a:Nat),rs[i]? =some a→wr.cell? ⟨rb,i,none⟩=some (.int .i64 a):=by
  intro wr st1 hb i a hi;obtain ⟨_,_,_,_,_,hd⟩:=hb;exact (World.cell?_of_block (w:=w0) (w':=wr) (a:=⟨rb,i,none⟩) (hd.fr.block rb hrb.1 (fun h=>by
   rcases h with h|h|h|h|h
   ·exact hrb.2.1 h
   ·exact hrb.2.2.1 h
   ·exact hrb.2.2.2.1 h
   ·exact hrb.2.2.2.2 h
   ·have:=hrb.1;omega))).trans (hrs i a hi)
 have HRC:=ae hRC;clear hRC;have HCE:=ae (fun PB wp w1 w2 S sv Hg nr nv st1 nr1 (hb:eJ I t v wk L EL W kb sb Rm S0 w0 PB wp S sv Hg nr nv st1 w1) he hf=>hb.cells_ (w1:=w2) (no:=st1.no) (nw:=st1.nw) (nr1:=nr1) (nv1:=nv) hs hS he hf);have HLO:=ae (fun w1 S sv Hg nr nv st1 (hb:eJ I t v wk L EL W kb sb Rm S0 w0 (fun _=>False) w0 S sv Hg nr nv st1 w1)=>rI sb sv _ Rm Hg st1.lost w1 hb.stk);have HFO:=ae (fun w1 S sv Hg nr nv st1 (hb:eJ I t v wk L EL W kb sb Rm S0 w0 (fun _=>False) w0 S sv Hg nr nv st1 w1)=>(oI sb sv _ Rm Hg st1.lost w1 hb.stk).mono (fun e w2 ⟨q1,q2,q3⟩=>(⟨q1,hb.stk_ hs hS (xs:=st1.xs) q2 (q3.mono (fun k hk=> .inl (.inl hk))) (fun k hk=> .inl hk)⟩:e=Ending.returned (.tuple #[])∧dh I t v wk L EL W kb sb Rm S0 w0 (fun _=>False) w0 {st1 with lost:=false} w2)));have HSTA:=ae (fun w1 S sv Hg nr nv st1 (hb:eJ I t v wk L EL W kb sb Rm S0 w0 (fun _=>False) w0 S sv Hg nr nv st1 w1)=>callsIn_wide.1 (pr 0 (hb.blk.cell 1 rfl) hb.ext hb.tab));have HPR:=ae (fun w1 w2 S sv Hg nr nv st1 (P:Nat→Prop) (hb:eJ I t v wk L EL W kb sb Rm S0 w0 (fun _=>False) w0 S sv Hg nr nv st1 w1) (hf:Fr (fun _=>False) w1 w2) (hP:∀g,P g→w1.heap.size≤g∧g<w2.heap.size)=>hb.protect hs hf hP);have HAG:=ae (fun n0 st1 (hr:kl G rs N Rm n0 (fun _=>False) st1)=>hr.again hW hG);have hend:∀w' st n0,dh I t v wk L EL W kb sb Rm S0 w0 (fun _=>False) w0 st w'→kl G rs N Rm n0 (fun _=>False) st→(∀a∈rs,a≠0→st.E a≠0)→st.lost=false→pV I t v wk L EL W kb sb Rm S0 w0 G rs N (.returned (.tuple #[])) w':=fun w' st n0 h1 h2 h3 h4=>⟨rfl,st,h1,h2.inv,fun a=>h2.done h4 h3 a⟩
 have HEND:=ae hend;generalize (pV I t v wk L EL W kb sb Rm S0 w0 G rs N)=Q at*;have hr0:kl G rs N Rm 0 (fun _=>False) uV:=⟨⟨bU.none G rs,by
  show 0=cnt _ 0 N
  exact (aD (fun i _ _=>rfl)).symm,by
  show 0=cnt _ 0 N
  exact (aD (fun i _ _=>by rw [Bool.eq_false_iff];intro hh;obtain ⟨s,h1,h2⟩:=aQ.1 hh;simp only [uV] at h2;omega)).symm,fun x hx=>absurd hx (List.not_mem_nil),Nat.zero_le _⟩,rfl,fun b hb=>absurd rfl hb,(fun h=>by cases h),Nat.le_refl _⟩
 obtain ⟨S,sv,Hg,nr,nv,hd⟩:=h;have k6:=hd.blk.cell 6 rfl;have f6:=hd.blk.free 6;have HX:Hid (∀w8,w8=w.setCell ⟨kb,6,none⟩ (.int .i64 1)→yP I t v wk L EL W kb sb Rm S0 w0 G rs N 0 w8):=by
  show∀w8,_
  rintro w8 rfl;exact ⟨uV,⟨_,_,_,_,_,HCE.out _ _ _ _ _ _ _ _ _ _ 1 hd (hd.blk.set 6 (.int .i64 1)) ((Fr.refl (fun k=>k=kb) w).setCell ⟨kb,6,none⟩ (.inl rfl) _)⟩,hr0,fun j a hj=>by omega⟩
 clear hs hS hG hW hO hroom hrb hrs hroot hend hr0 hd;unfold gW vn at*
 go_enter Tryz.func140,Tryz.ntmps140
 go_upto_region 1 with fail
 have HX1:=ae (HX.out _ rfl);generalize w.setCell ⟨kb,6,none⟩ (.int .i64 1)=w1 at*;clear HX k6 f6;go_wp2
 go_loopw [14] (fun x wr=>∃(i:Nat),x= .int .i64 i∧i≤rs.length∧Hid (yP I t v wk L EL W kb sb Rm S0 w0 G rs N i wr)) (fun x _=>(rs.length-intOf x).toNat)
 case atStart=>exact ⟨0,rfl,by omega,HX1⟩
 case round=>
  clear HX1;obtain ⟨i,rfl,h1,hr⟩:=hrel;by_cases hlt:i<rs.length
  ·have hlti:(i:Int)<(rs.length:Int):=by omega
   obtain ⟨a,ha⟩:∃a,rs[i]? =some a:=⟨_,List.getElem?_eq_getElem hlt⟩;obtain ⟨st1,q1,q2,q3⟩:=hr.out;have ck:=HRC.out wr st1 q1 i a ha;have HR1:=ae (HRE.out i wr a st1 ha q1 q2);have HN:=ae (fun w4 cur=>HN1.out i a w4 st1 ha q2 q3 cur);have HIV:=ae (HMI.out i a st1 ha q2);clear hr q1 q2 q3 ha;go_wp2_with fail
   refine (HR1.out).mono ?_;rintro e w3 ⟨rfl,hb3⟩;have HD3:=ae (HDR.out _ _ _ _ hb3 HIV.out);clear hb3 HR1 ck HIV;go_wp2_with fail
   refine (HD3.out).mono ?_;rintro e w4 ⟨rfl,cur,b1,b2,b3⟩;have HN4:=ae (HN.out w4 cur b1 b2 b3);clear b1 b2 b3 HD3 HN;go_wp2;go_roundw
   case rel=>exact ⟨i+1,by go_num,by omega,HN4⟩
   case measure=>simp [intOf];omega
  ·have hni:¬(i:Int)<(rs.length:Int):=by omega
   have hiN:i=rs.length:=by omega
   obtain ⟨M,hM⟩:∃M,Hid (yo I t v wk L EL W kb sb Rm S0 w0 G rs N wr M):=by
    obtain ⟨st1,q1,q2,q3⟩:=hr.out;exact ⟨_,⟨st1,0,q1,q2,fun a ha h0=>by
     obtain ⟨j,hj,e⟩:=List.getElem_of_mem ha;exact q3 j a (by omega) (by rw [←e];exact List.getElem?_eq_getElem hj) h0,Nat.le_refl _⟩⟩
   clear hr h1 hlt hiN HN1 HRE HRC;go_wp2
   go_loopw [] (fun wr=>∃m,Hid (yo I t v wk L EL W kb sb Rm S0 w0 G rs N wr m)) (fun wr=>dE (yo I t v wk L EL W kb sb Rm S0 w0 G rs N wr))
   case atStart=>exact ⟨M,hM⟩
   case round=>
    clear hM hni;obtain ⟨m,hm⟩:=hrel;obtain ⟨hr,_⟩:=bS hm.out;clear hm;generalize hm0:dE (yo I t v wk L EL W kb sb Rm S0 w0 G rs N _)=m0 at hr;have HM0:=ae hm0;clear hm0;obtain ⟨st1,n0,q1,q2,q3,q4⟩:=hr;obtain ⟨S1,sv1,high1,nr1,nv1,hd1⟩:=id q1;have k2:=hd1.blk.cell 2 rfl;have HL1:=ae (HLO.out _ _ _ _ _ _ _ hd1)
    cases hls:st1.lost with
    |false=>
     have HQ:=ae (HEND.out _ _ _ q1 q2 q3 hls);rw [hls] at HL1;clear q1 q2 q3 q4 hd1 hls HM0;go_wp2_with fail
     refine (HL1.out).mono ?_;rintro e w2 ⟨rfl,rfl⟩;go_wp2;go_end0;exact HQ.out
    |true=>
     have HF1:=ae (HFO.out _ _ _ _ _ _ _ hd1);have HA1:=ae (af (HAG.out _ _ q2) q3);have hm1:2*(N-st1.no)+1≤m0:=by rw [hls,if_pos rfl] at q4;exact q4
     rw [hls] at HL1;clear q1 q2 q3 q4 hd1 hls;go_wp2_with fail
     refine (HL1.out).mono ?_;rintro e w2 ⟨rfl,rfl⟩;go_wp2_with fail
     refine (HF1.out).mono ?_;rintro e w2 ⟨rfl,hb2⟩;obtain ⟨S2,sv2,high2,nr2,nv2,hd2⟩:=hb2;have k6:=hd2.blk.cell 6 rfl;have f6:=hd2.blk.free 6;have HX:Hid (∀x w8,w8=w2.setCell ⟨kb,6,none⟩ (.int .i64 x)→eJ I t v wk L EL W kb sb Rm S0 w0 (fun _=>False) w0 S2 sv2 high2 x nv2 {st1 with lost:=false} w8):=by
      show∀x w8,_
      rintro x w8 rfl;exact HCE.out _ _ _ _ _ _ _ _ _ _ x hd2 (hd2.blk.set 6 (.int .i64 x)) ((Fr.refl (fun k=>k=kb) w2).setCell ⟨kb,6,none⟩ (.inl rfl) _)
     clear hd2 HF1 HL1 k2
     go_upto_region 10 with fail
     have nW:=HX.out (wrap64 (nr2+1)) _ rfl;generalize w2.setCell ⟨kb,6,none⟩ (.int .i64 (wrap64 (nr2+1)))=w3 at*;generalize wrap64 (nr2+1)=nr3 at*;clear HX k6 f6;have HS3:=ae (HSTA.out _ _ _ _ _ _ _ nW);have HD3:=ae nW;clear nW;go_wp2_with fail
     refine (HS3.out).mono ?_;rintro e w4 ⟨sl,rfl,ho,hf⟩;obtain ⟨l,hl⟩:∃l,l=aO st1.E W:=⟨_,rfl⟩;have hll:l.length≤1048576:=by
      have h1:=jI st1.E W;obtain ⟨_,h2⟩:=HD3.out.ext.small;rw [hl];omega
     have hlm:∀x∈l,st1.E x.1≠0:=fun x hx=>by rw [hl] at hx;exact (bh.1 hx).2.1
     have ho':w4.ownsRow (w3.heap.size+2) 3 1 sl l.length (dT l):=by rw [hl];exact ho
     have hA:=HA1.out.1;rw [←hl] at hA;clear ho hl;obtain ⟨p,cap,hsl⟩:∃p cap,sl= .slice p l.length cap:=by
      rcases ho'.2 with ⟨h1,h2⟩|⟨g,cap,cur,h1,_⟩
      ·exact ⟨none,0,by rw [h1,h2]⟩
      ·exact ⟨_,cap,h1⟩
     have hd4:=HPR.out _ _ _ _ _ _ _ _ (fun k=>sl.ownBlock=some k) HD3.out hf (fun g hg=>by have:=ho'.lt g hg;omega);have HC3:Hid (∀wr st2,dh I t v wk L EL W kb sb Rm S0 w0 (fun k=>sl.ownBlock=some k) w4 st2 wr→∀(i:Nat) x,l[i]? =some x→∃g,p=some ⟨g,0,none⟩∧wr.cell? ⟨g,i,none⟩=some (.int .i64 (x.1:Int))):=by
      show∀wr st2,_
      rintro wr st2 ⟨_,_,_,_,_,hdx⟩ i x hi;have hil:=(List.getElem?_eq_some_iff.1 hi).1;rcases ho'.2 with ⟨h1,h2⟩|⟨g,cap2,cur,h1,_⟩
      ·omega
      ·have hp:p=some ⟨g,0,none⟩:=by rw [h1] at hsl;cases hsl;rfl
       refine ⟨g,hp,?_⟩;have hpr:=(hdx.prot g (by rw [h1];rfl)).2.2.2.2;have hc:=ho';rw [h1] at hc;have hc2:=hc.cellAt i (by omega);rw [(World.cell?_of_block (w:=w4) (w':=wr) (a:=⟨g,i,none⟩) hpr),hc2];unfold dT;rw [List.getElem?_map,hi];rfl
     have H30:Hid (yc I t v wk L EL W kb sb Rm S0 w0 (fun k=>sl.ownBlock=some k) w4 G rs N st1.no l 0 w4):=⟨{st1 with lost:=false},⟨_,_,_,_,_,hd4⟩,hA,HA1.out.2,hlm⟩;have HCL:=ae (fun i wr (h:yc I t v wk L EL W kb sb Rm S0 w0 (fun k=>sl.ownBlock=some k) w4 G rs N st1.no l i wr) hi=>h.close hi hm1);have HHN3:=ae (HN3.out (fun k=>sl.ownBlock=some k) w4 st1.no l);have HMV3:=ae (HMV.out l);generalize (fun k=>sl.ownBlock=some k)=PB at*;generalize st1.no=n1 at*;clear hd4 hA hlm ho' hf HD3 HA1 HS3 hm1 HN3 HMV HAG HPR HSTA HFO HLO HCE HMI;subst hsl;go_wp2
     go_loopw [46] (fun x wr=>∃(i:Nat),x= .int .i64 i∧i≤l.length∧Hid (yc I t v wk L EL W kb sb Rm S0 w0 PB w4 G rs N n1 l i wr)) (fun x _=>(l.length-intOf x).toNat)
     case atStart=>exact ⟨0,rfl,by omega,H30⟩
     case round=>
      clear H30;obtain ⟨j,rfl,h1,hr⟩:=hrel;by_cases hlt:j<l.length
      ·have hlti:(j:Int)<(l.length:Int):=by omega
       obtain ⟨x,hx⟩:∃x,l[j]? =some x:=⟨_,List.getElem?_eq_getElem hlt⟩;obtain ⟨st2,q1,q2,q3,q5⟩:=hr.out;obtain ⟨g,hp,ck⟩:=HC3.out _ _ q1 j x hx;obtain ⟨hrx,hiv⟩:=HMV3.out j x _ st2 hx q2 q5;have HV3:=ae (HVI.out _ _ _ _ _ q1 q2.inv hrx);have HIV:=ae hiv;have HN:=ae (fun w6 cur=>HHN3.out j x w6 st2 hx q2 q3 q5 cur);clear hr q1 q2 q3 q5 hrx hiv hx;subst hp;go_wp2_with fail
       refine (HV3.out).mono ?_;rintro e w5 ⟨rfl,hb5⟩;have HD5:=ae (HDR.out _ _ _ _ hb5 HIV.out);clear hb5 HV3 ck HIV;go_wp2_with fail
       refine (HD5.out).mono ?_;rintro e w6 ⟨rfl,cur,b1,b2,b3⟩;have HN6:=ae (HN.out w6 cur b1 b2 b3);clear b1 b2 b3 HD5 HN;go_wp2;go_roundw
       case rel=>exact ⟨j+1,by go_num,by omega,HN6⟩
       case measure=>simp [intOf];omega
      ·have hni:¬(j:Int)<(l.length:Int):=by omega
       obtain ⟨m2,hm2,hr2⟩:=HCL.out j _ hr.out (by omega);have HR2:=ae hr2;clear hr hr2 h1 hlt HCL HC3 HHN3 HMV3;go_wp2;go_roundw
       case rel=>exact ⟨m2,HR2⟩
       case measure=>exact Nat.lt_of_le_of_lt (bS HR2.out).2 (by first|exact hm2|(rw [HM0.out];exact hm2))
end
section
variable {I:dW} {t:TypeId} {v wk:Value} {L:Nat→Nat} {EL:aI} {W kb sb Rm:Nat} {S0:Nat→Prop} {w0:World} {PB:Nat→Prop} {wp:World} {S S1:Nat→Prop} {sv sv1:Value} {Hg high1 nr nv:Int} {st:dl} {w w1:World} {fl:Nat} {r:Value} {dom:Nat→Prop} {G:Gr} {rs:List Nat} {N:Nat}
def ym (I:dW) (t:TypeId) (v:Value) (L:Nat→Nat) (EL:aI) (W kb sb Rm:Nat) (S:Nat→Prop) (G:Gr) (rs:List Nat) (N:Nat) (w1 w2:World):Prop:=
 ∃(st:dl) (nr nv:Int) (wk:Value) (S':Nat→Prop),I L S' w2∧(∀k,S' k→S k∨w1.heap.size≤k)∧bA w2 EL W st.E∧ak w2 kb [.iface t v,.pointer (some ⟨EL.m,0,none⟩),.pointer (some ⟨sb,0,none⟩),wk,.int .i64 (st.no:Int),.int .i64 (st.nw:Int),.int .i64 nr,.int .i64 nv] 225∧
  dV G rs N Rm st∧(∀a,st.E a≠0↔Reach G rs a)∧Fr (fun k=>S k∨EL.has k∨k=kb∨k=sb∨w1.heap.size≤k) w1 w2
theorem rQ (hs:ba t v fl r I dom) (hi:I L S w) (hG:cg G rs N) (hW:N≤W) (hO:∀a,G.size a≠0→dy L dom G a) (hroom:Rm≤4096) (hS:sL EL kb sb w.heap.size S)
  (hk:ak w kb [.iface t v,.pointer (some ⟨EL.m,0,none⟩),.pointer (some ⟨sb,0,none⟩),.pointer none,.int .i64 0,.int .i64 0,.int .i64 0,.int .i64 0] 225) (he:bA w EL W (fun _=>0)) (Hg:Int) (hst:ln w 291 sb (.slice none 0 0) [] Rm Hg false) (hT:bu w)
  (rb rc:Nat) (hrb:rb<w.heap.size∧¬S rb∧¬EL.has rb∧rb≠kb∧rb≠sb) (hrs:∀(i a:Nat),rs[i]? =some a→w.cell? ⟨rb,i,none⟩=some (.int .i64 a)) (hrl:rs.length≤1048576)
  (b c1 c2:Nat) (h1:ak w c1 [.pointer (some ⟨kb,0,none⟩)] 223) (h2:ak w c2 [.slice (some ⟨rb,0,none⟩) rs.length rc] 123):
  Calls Tryz.prog 139 #[b,.pointer (some ⟨c1,0,none⟩),.pointer (some ⟨c2,0,none⟩)] w fun e w'=>e= .returned (.tuple #[])∧ym I t v L EL W kb sb Rm S G rs N w w':=by
 have k3:=hk.cell 3 rfl;have f3:=hk.free 3;have e1:=h1.cell 0 rfl;have e2:=h2.cell 0 rfl;have hck:c2≠kb:=fun e=>by subst e;have:=h2.symm.trans hk;simp at this
 have hck1:c1≠kb:=fun e=>by subst e;have:=h1.symm.trans hk;simp at this
 obtain ⟨W1,hW1⟩:∃W1,w.setCell ⟨kb,3,none⟩ (.pointer (some ⟨b,0,none⟩))=W1:=⟨_,rfl⟩;have hf:Fr (fun k=>k=kb) w W1:=by rw [←hW1];exact (Fr.refl (fun k=>k=kb) w).setCell ⟨kb,3,none⟩ (.inl rfl) _
 have hz:W1.heap.size=w.heap.size:=by rw [←hW1];exact World.size_setCell _ _ _
 have hd:eJ I t v (.pointer (some ⟨b,0,none⟩)) L EL W kb sb Rm S W1 (fun _=>False) W1 S (.slice none 0 0) Hg 0 0 uV W1:=
  ⟨hs.stays _ _ _ _ _ hi hf (fun k hk e=>(hS.s k hk).2.1 e) (fun e=>hS.d2 e.symm),by rw [←hW1];exact hk.set 3 _,he.frame hf (fun k hk e=>(hS.e k hk).1 e),hst.keep hf (fun e=>hS.d1 e.symm) (fun k hk=>by simp [Value.ownBlock] at hk),an hT hf (fun e=>hS.d2 e.symm),fun k hk=> .inl hk,fun k hk=>by simp [Value.ownBlock] at hk,Fr.refl _ _,fun _ h=>h.elim⟩
 have HR:=ae (uh (w0:=W1) (w:=W1) hs (by rw [hz];exact hS) hG hW hO ⟨_,_,_,_,_,hd⟩ hroom rb rc (by rw [hz];exact hrb) (fun i a ha=>(World.cell?_of_block (w:=w) (w':=W1) (a:=⟨rb,i,none⟩) (hf.block rb hrb.1 hrb.2.2.2.1)).trans (hrs i a ha)) hrl);have g1:=(h1.frame hf hck1).cell 0 rfl;have g2:=(h2.frame hf hck).cell 0 rfl;have HE:Hid (∀w' st,dh I t v (.pointer (some ⟨b,0,none⟩)) L EL W kb sb Rm S W1 (fun _=>False) W1 st w'→dV G rs N Rm st→(∀a,st.E a≠0↔Reach G rs a)→ym I t v L EL W kb sb Rm S G rs N w w'):=by
  show∀w' st,_
  rintro w' st ⟨S',sv',Hg',nr',nv',hd'⟩ hm hr;refine ⟨st,nr',nv',_,S',hd'.sp,fun k hk=>by have:=hd'.s0 k hk;rw [hz] at this;exact this,hd'.ext,hd'.blk,hm,hr,(hf.mono (fun k hk=> .inl (.inr (.inr (.inl hk))))).trans hd'.fr (fun k hk=> .inl ?_)⟩;unfold yV at hk;rw [hz] at hk;exact hk
 generalize (ym I t v L EL W kb sb Rm S G rs N w)=Q at*;unfold pV at HR;clear hs hi hG hW hO hroom hS hk he hst hT hrb hrs h1 h2 hck hck1 hf hd hz
 go_enter Tryz.func139,Tryz.ntmps139
 go_upto_region 1 with fail
 clear hW1 k3 f3 e1 e2;go_wp2_with fail
 refine (HR.out).mono ?_;rintro e w2 ⟨rfl,st,hb,hm,hr⟩;have hq:=HE.out _ _ hb hm hr;clear HR HE g1 g2 hb hm hr;go_wp2;go_end0;exact ⟨rfl,hq⟩
def n7 (I:dW) (L:Nat→Nat) (EL:aI) (W Rm:Nat) (S:Nat→Prop) (G:Gr) (rs:List Nat) (N:Nat) (w:World) (e:Ending) (w':World):Prop:=
 ∃(st:dl) (nr nv:Int) (S':Nat→Prop),e= .returned (.tuple #[.agg #[.int .i64 (st.no:Int),.int .i64 (st.nw:Int),.int .i64 nr,.int .i64 nv],.int .i64 0])∧I L S' w'∧(∀k,S' k→S k∨w.heap.size≤k)∧bA w' EL W st.E∧dV G rs N Rm st∧(∀a,st.E a≠0↔Reach G rs a)∧Fr (fun k=>S k∨EL.has k) w w'
theorem uc (hs:ba t v fl r I dom) (htl:aN<w.heap.size) (hS1:∀k,S k→k<w.heap.size) (hE1:∀k,EL.has k→k<w.heap.size) {W5 W6:World} {c1:Nat} {e:Ending}
  (hz:w.heap.size+2≤sb∧sb<kb∧kb<c1∧c1<W5.heap.size) (hf5:Fr EL.has w W5) (h1:ak W5 c1 [.pointer (some ⟨kb,0,none⟩)] 223) (h3:ak W5 (w.heap.size+1) [.int .i64 0,.int .i64 0,.int .i64 0,.int .i64 0] 136)
  (h:gY W5 (ym I t v L EL W kb sb Rm S G rs N) e W6):
  e= .returned (.agg #[.int .i64 0,.int .i64 0])∧∃(st:dl) (nr nv:Int) (wk:Value),ak W6 c1 [.pointer (some ⟨kb,0,none⟩)] 223∧ak W6 kb [.iface t v,.pointer (some ⟨EL.m,0,none⟩),.pointer (some ⟨sb,0,none⟩),wk,.int .i64 (st.no:Int),.int .i64 (st.nw:Int),.int .i64 nr,.int .i64 nv] 225∧ak W6 (w.heap.size+1) [.int .i64 0,.int .i64 0,.int .i64 0,.int .i64 0] 136∧
   ∀W7,Fr (fun _=>False) W6 W7→∀W8,W8=W7.setCells (w.heap.size+1) 0 [.int .i64 (st.no:Int),.int .i64 (st.nw:Int),.int .i64 nr,.int .i64 nv]→ak W8 (w.heap.size+1) [.int .i64 (st.no:Int),.int .i64 (st.nw:Int),.int .i64 nr,.int .i64 nv] 136∧n7 I L EL W Rm S G rs N w (.returned (.tuple #[.agg #[.int .i64 (st.no:Int),.int .i64 (st.nw:Int),.int .i64 nr,.int .i64 nv],.int .i64 0])) W8:=by
 obtain ⟨rfl,w1,w2,f1,⟨st,nr,nv,wk,S',q1,q2,q3,q4,q5,q6,q7⟩,f3⟩:=h;have s1:=f1.size;have s5:=hf5.size;have s7:=q7.size;have hn:∀k,k<W5.heap.size→(w.heap.size≤k)→k≠kb→k≠sb→¬(S k∨EL.has k∨k=kb∨k=sb∨w1.heap.size≤k):=fun k h1 h2 h3 h4 h=>by
  rcases h with h|h|h|h|h
  ·have:=hS1 k h;omega
  ·have:=hE1 k h;omega
  ·exact h3 h
  ·exact h4 h
  ·omega
 have hn3:∀k,k<W5.heap.size→¬(W5.heap.size≤k∧k<w1.heap.size):=fun k h1 h=>by omega
 have b1:=((h1.frame f1 (fun h=>h)).frame q7 (hn c1 hz.2.2.2 (by omega) (by omega) (by omega))).frame f3 (hn3 _ hz.2.2.2);have b2:=q4.frame f3 (hn3 _ (by omega));have b3:=((h3.frame f1 (fun h=>h)).frame q7 (hn _ (by omega) (by omega) (by omega) (by omega))).frame f3 (hn3 _ (by omega));refine ⟨rfl,st,nr,nv,wk,b1,b2,b3,?_⟩;rintro W7 hf7 W8 rfl;have b7:=b3.frame hf7 (fun h=>h);refine ⟨(((b7.set 0 _).set 1 _).set 2 _).set 3 _,st,nr,nv,S',rfl,?_,fun k hk=> ?_,?_,q5,q6,?_⟩
 ·have hfs:Fr (fun k=>(W5.heap.size≤k∧k<w1.heap.size)∨k=w.heap.size+1) w2 (W7.setCells (w.heap.size+1) 0 [.int .i64 (st.no:Int),.int .i64 (st.nw:Int),.int .i64 nr,.int .i64 nv]):=
   (((((f3.mono (fun k h=> .inl (.inl h))).trans hf7 (fun _ h=>h.elim)).setCell ⟨w.heap.size+1,0,none⟩ (.inl (.inr rfl)) _).setCell ⟨w.heap.size+1,1,none⟩ (.inl (.inr rfl)) _).setCell ⟨w.heap.size+1,2,none⟩ (.inl (.inr rfl)) _).setCell ⟨w.heap.size+1,3,none⟩ (.inl (.inr rfl)) _
  refine hs.stays _ _ _ _ _ q1 hfs (fun k hk h=> ?_) (fun h=>by omega);rcases q2 k hk with h2|h2
  ·have:=hS1 k h2;omega
  ·omega
 ·rcases q2 k hk with h2|h2
  ·exact .inl h2
  ·exact .inr (by omega)
 ·have hfs:Fr (fun k=>(W5.heap.size≤k∧k<w1.heap.size)∨k=w.heap.size+1) w2 (W7.setCells (w.heap.size+1) 0 [.int .i64 (st.no:Int),.int .i64 (st.nw:Int),.int .i64 nr,.int .i64 nv]):=
   (((((f3.mono (fun k h=> .inl (.inl h))).trans hf7 (fun _ h=>h.elim)).setCell ⟨w.heap.size+1,0,none⟩ (.inl (.inr rfl)) _).setCell ⟨w.heap.size+1,1,none⟩ (.inl (.inr rfl)) _).setCell ⟨w.heap.size+1,2,none⟩ (.inl (.inr rfl)) _).setCell ⟨w.heap.size+1,3,none⟩ (.inl (.inr rfl)) _
  exact q3.frame hfs (fun k hk h=>by have:=hE1 k hk;omega)
 ·have hfw:=((((hf5.trans f1 (fun _ h=>h.elim)).mono (S':=fun k=>S k∨EL.has k) (fun k h=> .inl (.inr h))).trans q7 (fun k h=>by
   rcases h with h|h|h|h|h
   ·exact .inl (.inl h)
   ·exact .inl (.inr h)
   ·exact .inr (by omega)
   ·exact .inr (by omega)
   ·exact .inr (by omega))).trans f3 (fun k h=> .inr (by omega))).trans hf7 (fun _ h=>h.elim)
  exact (((hfw.setCell ⟨w.heap.size+1,0,none⟩ (.inr (Nat.le_succ _)) _).setCell ⟨w.heap.size+1,1,none⟩ (.inr (Nat.le_succ _)) _).setCell ⟨w.heap.size+1,2,none⟩ (.inr (Nat.le_succ _)) _).setCell ⟨w.heap.size+1,3,none⟩ (.inr (Nat.le_succ _)) _
theorem rL (hs:ba t v fl r I dom) (hi:I L S w) (hG:cg G rs N) (hW:N≤W) (hO:∀a,G.size a≠0→dy L dom G a) (hroom:Rm≤4096) (hT:bu w) (hE1:∀k,EL.has k→k<w.heap.size)
  (hS1:∀k,S k→¬EL.has k∧k≠aN) (hS2:¬EL.has aN) (rb rc:Nat) (hrb:rb<w.heap.size∧¬S rb∧¬EL.has rb) (hrs:∀(i a:Nat),rs[i]? =some a→w.cell? ⟨rb,i,none⟩=some (.int .i64 a)) (hrl:rs.length≤1048576)
  {W5:World} {c1 c2:Nat} (hf:Fr EL.turns w W5) (he:bA W5 EL W (fun _=>0)) (hz:w.heap.size≤sb∧w.heap.size≤kb∧kb≠sb) (hst:ln W5 291 sb (.slice none 0 0) [] Rm 0 false)
  (hk:ak W5 kb [.iface t v,.pointer (some ⟨EL.m,0,none⟩),.pointer (some ⟨sb,0,none⟩),.pointer none,.int .i64 0,.int .i64 0,.int .i64 0,.int .i64 0] 225)
  (h1:ak W5 c1 [.pointer (some ⟨kb,0,none⟩)] 223) (h2:ak W5 c2 [.slice (some ⟨rb,0,none⟩) rs.length rc] 123):
  Calls Tryz.prog 126 #[.iface t v,.func (.func 139) #[] #[.pointer (some ⟨c1,0,none⟩),.pointer (some ⟨c2,0,none⟩)]] W5 (gY W5 (ym I t v L EL W kb sb Rm S G rs N)):=by
 have hsl:=hs.lt _ _ _ hi;have htl:aN<w.heap.size:=aE (hT 0 0 rfl);have hz5:=hf.size;have hi5:I L S W5:=hs.stays _ _ _ _ _ hi hf (fun k hk h=>(hS1 k hk).1 (aI.turns_has h)) (fun h=>hS2 (aI.turns_has h));have hkl:=hk.lt;have hsbl:=hst.1.lt;refine lT t v 139 _ (enters_of Tryz.func139 (by kernel_rfl) rfl) W5 _ (fun b w1 hf1 hb hb1 hbk=> ?_);have hs1:=hf1.size;refine (rQ hs (hs.keep hi5 hf1) hG hW hO hroom ?_ (hk.frame hf1 (fun h=>h)) (he.frame hf1 (fun _ _ h=>h)) 0 (hst.keep hf1 (fun h=>h) (fun _ _ h=>h)) (an (an hT hf (fun h=>hS2 (aI.turns_has h))) hf1 (fun h=>h)) rb rc ?_ ?_ hrl b c1 c2 (h1.frame hf1 (fun h=>h)) (h2.frame hf1 (fun h=>h))).mono ?_
 ·exact ⟨fun k hk=>⟨(hS1 k hk).1,by have:=hsl k hk;omega,by have:=hsl k hk;omega,(hS1 k hk).2,by have:=hsl k hk;omega⟩,fun k hk=>⟨by have:=hE1 k hk;omega,by have:=hE1 k hk;omega,fun e=>hS2 (e▸hk),by have:=hE1 k hk;omega⟩,by omega,by omega,by omega,by omega,by omega,by omega⟩
 ·exact ⟨by omega,hrb.2.1,hrb.2.2,by omega,by omega⟩
 ·intro i a ha;have h5:=(World.cell?_of_block (w:=w) (w':=W5) (a:=⟨rb,i,none⟩) (hf.block rb hrb.1 (fun h=>hrb.2.2 (aI.turns_has h)))).trans (hrs i a ha);exact (World.cell?_of_block (w:=W5) (w':=w1) (a:=⟨rb,i,none⟩) (hf1.block rb (by have:=hrb.1;show rb<_;omega) (fun h=>h))).trans h5
 ·rintro e w2 ⟨rfl,hr⟩;refine ⟨rfl,hr,_,fun k hk=> ?_,hr.choose_spec.choose_spec.choose_spec.choose_spec.choose_spec.2.2.2.2.2.2⟩;rcases hk with h|h|h|h|h
  ·have:=hsl k h;exact .inr (.inl (by omega))
  ·have:=hE1 k h;exact .inr (.inl (by omega))
  ·exact .inr (.inl (by omega))
  ·exact .inr (.inl (by omega))
  ·exact .inr (.inr h)
theorem fY {E0:Nat→Nat} (hs:ba t v fl r I dom) (hi:I L S w) (hG:cg G rs N) (hW:N≤W) (hO:∀a,G.size a≠0→dy L dom G a) (hroom1:1≤Rm) (hroom:Rm≤4096) (he:bA w EL W E0) (hT:bu w)
  (hS1:∀k,S k→¬EL.has k∧k≠aN) (hS2:¬EL.has aN) (rb rc:Nat) (hrb:rb<w.heap.size∧¬S rb∧¬EL.has rb) (hrs:∀(i a:Nat),rs[i]? =some a→w.cell? ⟨rb,i,none⟩=some (.int .i64 a)) (hrl:rs.length≤1048576):
  Calls Tryz.prog 68 #[.iface t v,.slice (some ⟨rb,0,none⟩) rs.length rc,.pointer (some ⟨EL.m,0,none⟩),.int .i64 Rm] w (n7 I L EL W Rm S G rs N w):=by
 have hmf:∀(fn:Fn) (first cap:Array Value) (w:World),(Instr.makeFunc fn first cap).run Tryz.prog w= .ok (.func fn first cap) w:=fun _ _ _ _=>rfl
 obtain ⟨hW1,hW2⟩:=he.small;have HWD:=ae (fun w1 (hf:Fr (fun _=>False) w w1)=>cC (he.frame hf (fun _ _ h=>h)));have HNW:=ae (fun w1=>xJ (Rm:Int) w1 (by omega) (by omega));have HWI:=ae (fun w1 (hf:Fr (fun _=>False) w w1)=>rk (he.frame hf (fun _ _ h=>h)));have hW0:((W:Int)==0)=false:=by rw [beq_eq_false_iff_ne];omega
 have hE1:=he.lt;have hsl:=hs.lt _ _ _ hi;have HTR:=ae (fun W5 kb sb c1 c2 (hf:Fr EL.turns w W5) (he:bA W5 EL W (fun _=>0)) (hz:w.heap.size≤sb∧w.heap.size≤kb∧kb≠sb) hst hk h1 h2=>rL (kb:=kb) (sb:=sb) (c1:=c1) (c2:=c2) (W5:=W5) hs hi hG hW hO hroom hT hE1 hS1 hS2 rb rc hrb hrs hrl hf he hz hst hk h1 h2);have HFI:=ae (fun W5 W6 kb sb c1 e hz hf5 h1 h3 h=>uc (I:=I) (t:=t) (v:=v) (L:=L) (EL:=EL) (W:=W) (Rm:=Rm) (S:=S) (G:=G) (rs:=rs) (N:=N) (w:=w) (W5:=W5) (W6:=W6) (kb:=kb) (sb:=sb) (c1:=c1) (e:=e) hs (aE (hT 0 0 rfl)) hsl hE1 hz hf5 h1 h3 h);have HEM:=ae (fun k (h:EL.turns k)=>hE1 k (aI.turns_has h));clear hs hi hG hW hO hroom1 hroom he hT hS1 hS2 hrb hrs hE1 hsl hW2
 go_enter Tryz.func68,Tryz.ntmps68
 go_upto_region 1 with fail
 obtain ⟨W1,hW1⟩:∃W1,(w.alloc (.cells #[.slice (some ⟨rb,0,none⟩) rs.length rc] 123)).alloc (.cells #[.int .i64 0,.int .i64 0,.int .i64 0,.int .i64 0] 136)=W1:=⟨_,rfl⟩;have hz0:(w.alloc (.cells #[.slice (some ⟨rb,0,none⟩) rs.length rc] 123)).heap.size=w.heap.size+1:=Array.size_push _;have hz1:W1.heap.size=w.heap.size+2:=by rw [←hW1];exact (Array.size_push _).trans (congrArg (· +1) hz0)
 have hF1:Fr (fun _=>False) w W1:=by rw [←hW1];exact ((Fr.refl _ w).alloc _).alloc _
 have hC1:ak W1 w.heap.size [.slice (some ⟨rb,0,none⟩) rs.length rc] 123:=by rw [←hW1];exact (ak.new w [.slice (some ⟨rb,0,none⟩) rs.length rc] 123).alloc _
 have hR1:ak W1 (w.heap.size+1) [.int .i64 0,.int .i64 0,.int .i64 0,.int .i64 0] 136:=by
  have h:=ak.new (w.alloc (.cells #[.slice (some ⟨rb,0,none⟩) rs.length rc] 123)) [.int .i64 0,.int .i64 0,.int .i64 0,.int .i64 0] 136;rw [hz0] at h;rw [←hW1];exact h
 have HW1:=ae (HWD.out W1 hF1);clear hz0
 go_upto_region 3 with (refine (HW1.out).mono ?_;rintro e w' ⟨rfl,rfl⟩)
 clear hW1 HWD hW0;have HF1:=ae (af hF1 (af hC1 (af hR1 hz1)));have HN1:=ae (HNW.out W1);clear hF1 hC1 hR1 hz1 HW1 HNW;go_wp2_with fail
 refine (HN1.out).mono ?_;rintro e W2 ⟨rfl,hW2⟩;have hf2:Fr (fun _=>False) W1 W2:=by rw [hW2];exact (Fr.refl _ _).alloc _
 have hB2:ak W2 W1.heap.size [.slice none 0 0,.int .i64 Rm,.int .i64 0,.bool false] 291:=by rw [hW2];exact ak.new W1 _ _
 have hz2:W2.heap.size=W1.heap.size+1:=by rw [hW2];exact Array.size_push _
 have HW2:=ae (HWI.out W2 (HF1.out.1.trans hf2 (fun _ h=>h.elim)));have HF2:=ae (af hf2 (af hB2 hz2));clear hW2 hf2 hB2 hz2 HWI HN1;go_wp2_with fail
 refine (HW2.out).mono ?_;rintro e W3 ⟨rfl,he3,hf3⟩;have HF3:=ae (af he3 hf3);clear he3 hf3 HW2
 go_upto_region 8 with fail
 obtain ⟨W4,hW4⟩:∃W4,W3.alloc (.cells #[.iface t v,.pointer (some ⟨EL.m,0,none⟩),.pointer (some ⟨W1.heap.size,0,none⟩),.pointer none,.int .i64 0,.int .i64 0,.int .i64 0,.int .i64 0] 225)=W4:=⟨_,rfl⟩;obtain ⟨W5,hW5⟩:∃W5,W4.alloc (.cells #[W3.heap.size] 223)=W5:=⟨_,rfl⟩;have hz4:W4.heap.size=W3.heap.size+1:=by rw [←hW4];exact Array.size_push _
 have hz5:W5.heap.size=W3.heap.size+2:=by rw [←hW5];exact (Array.size_push _).trans (congrArg (· +1) hz4)
 have hf4:Fr (fun _=>False) W3 W4:=by rw [←hW4];exact (Fr.refl _ _).alloc _
 have hf5:Fr (fun _=>False) W4 W5:=by rw [←hW5];exact (Fr.refl _ _).alloc _
 have hk4:ak W4 W3.heap.size [.iface t v,.pointer (some ⟨EL.m,0,none⟩),.pointer (some ⟨W1.heap.size,0,none⟩),.pointer none,.int .i64 0,.int .i64 0,.int .i64 0,.int .i64 0] 225:=by rw [←hW4];exact ak.new W3 _ _
 have hc5:ak W5 (W3.heap.size+1) [.pointer (some ⟨W3.heap.size,0,none⟩)] 223:=by rw [←hz4,←hW5];exact ak.new W4 _ _
 rw [hW4,hW5];clear hW4 hW5;obtain ⟨g1,g2,g3,g4⟩:=HF1.out;obtain ⟨g5,g6,g7⟩:=HF2.out;obtain ⟨g8,g9⟩:=HF3.out;have z1:=g1.size;have z9:=g9.size;have hno:∀k,w.heap.size≤k→¬EL.turns k:=fun k h1 h=>by have:=HEM.out k h;omega
 have f45:Fr (fun _=>False) W3 W5:=hf4.trans hf5 (fun _ h=>h.elim);have b1:ak W5 W1.heap.size [.slice none 0 0,.int .i64 Rm,.int .i64 0,.bool false] 291:=(g6.frame g9 (hno _ (by omega))).frame f45 (fun h=>h);have b2:=((g2.frame g5 (fun h=>h)).frame g9 (hno _ (Nat.le_refl _))).frame f45 (fun h=>h);have b3:=((g3.frame g5 (fun h=>h)).frame g9 (hno _ (Nat.le_succ _))).frame f45 (fun h=>h);have bk:=hk4.frame hf5 (fun h=>h);have hfw:Fr EL.turns w W5:=(((g1.trans g5 (fun _ h=>h.elim)).mono (S':=EL.turns) (fun _ h=>h.elim)).trans g9 (fun k h=> .inl h)).trans f45 (fun _ h=>h.elim);have HTR5:=ae (HTR.out W5 W3.heap.size W1.heap.size (W3.heap.size+1) w.heap.size hfw (g8.frame f45 (fun _ _ h=>h)) ⟨by omega,by omega,by omega⟩ ⟨b1,World.ownsRow_nil _ _ _ _,by simp [Value.ownBlock]⟩ bk hc5 b2);have HFI5:=ae (fun W6 e h=>HFI.out W5 W6 W3.heap.size W1.heap.size (W3.heap.size+1) e ⟨by omega,by omega,by omega,by omega⟩ (hfw.mono (fun k h=> .inl (aI.turns_has h))) hc5 b3 h);clear g1 g2 g3 g4 g5 g6 g7 g8 g9 z1 z9 hno f45 b1 b2 b3 bk hfw hf4 hf5 hk4 hc5 hz4 hz5 HF1 HF2 HF3 HTR HFI HEM;generalize W1.heap.size=sb at*;generalize W3.heap.size=kb at*;clear W1 W2 W3 W4;go_wp2_with fail
 refine (HTR5.out).mono ?_;intro e W6 hp;obtain ⟨rfl,st,nr,nv,wk,hc6,hk6,hr6,hfin⟩:=HFI5.out _ _ hp;clear hp HTR5 HFI5;have HC6:=ae (af hc6 (af hk6 (af hr6 hfin)));clear hc6 hk6 hr6 hfin
 go_upto_region 9 with fail
 obtain ⟨W7,hW7⟩:∃W7,W6.alloc (.cells #[.int .i64 0,.int .i64 0] 197)=W7:=⟨_,rfl⟩;rw [hW7];obtain ⟨hc6,hk6,hr6,hfin⟩:=HC6.out;have hf7:Fr (fun _=>False) W6 W7:=by rw [←hW7];exact (Fr.refl _ _).alloc _
 have hq7:ak W7 W6.heap.size [.int .i64 0,.int .i64 0] 197:=by rw [←hW7];exact ak.new W6 _ _
 have k1:=hq7.cell 0 rfl;have k2:=(hc6.frame hf7 (fun h=>h)).cell 0 rfl;have HK7:=ae (hk6.frame hf7 (fun h=>h));have hr7:=hr6.frame hf7 (fun h=>h);have HT:Hid (W7.there (w.heap.size+1) 0 4):=by
  show W7.there _ _ _
  intro i hi
  match i,hi with
  |0,_=>exact ⟨by rw [hr7.cell 0 rfl];rfl,hr7.free 0⟩
  |1,_=>exact ⟨by rw [hr7.cell 1 rfl];rfl,hr7.free 1⟩
  |2,_=>exact ⟨by rw [hr7.cell 2 rfl];rfl,hr7.free 2⟩
  |3,_=>exact ⟨by rw [hr7.cell 3 rfl];rfl,hr7.free 3⟩
 have HFN:=ae (hfin W7 hf7);have HS4:Hid ((Tryz.prog.info? 136).map (·.size)=some 4):=by show _=_;kernel_rfl
 clear hfin hc6 hk6 hr6 hf7 hq7 hr7 HC6 hW7;have HRG:Hid (W7.rangeAt kb 4 [.int .i64 (st.no:Int),.int .i64 (st.nw:Int),.int .i64 nr,.int .i64 nv]):=by
  show W7.rangeAt _ _ _
  intro i u hu
  match i,hu with
  |0,hu=>simp only [List.getElem?_cons_zero,Option.some.injEq] at hu;subst hu;exact HK7.out.cell 4 rfl
  |1,hu=>simp only [List.getElem?_cons_zero,List.getElem?_cons_succ,Option.some.injEq] at hu;subst hu;exact HK7.out.cell 5 rfl
  |2,hu=>simp only [List.getElem?_cons_zero,List.getElem?_cons_succ,Option.some.injEq] at hu;subst hu;exact HK7.out.cell 6 rfl
  |3,hu=>simp only [List.getElem?_cons_zero,List.getElem?_cons_succ,Option.some.injEq] at hu;subst hu;exact HK7.out.cell 7 rfl
  |(n+4),hu=>simp at hu
 have HON:Hid ((#[Value.int .i64 (st.no:Int),.int .i64 (st.nw:Int),.int .i64 nr,.int .i64 nv].all (·.oneCell'))=true):=by show _=_;exact Go.all_oneCell_toArray (cs:=[.int .i64 (st.no:Int),.int .i64 (st.nw:Int),.int .i64 nr,.int .i64 nv]) (fun v hv=>by simp only [List.mem_cons,List.not_mem_nil,or_false] at hv;rcases hv with rfl|rfl|rfl|rfl<;>rfl)
 go_wp2_with (first|refine wpList_load_mid rfl 136 _ rfl kb 4 rfl [.int .i64 (st.no:Int),.int .i64 (st.nw:Int),.int .i64 nr,.int .i64 nv] _ HRG.out Tryz.underlying136 rfl HS4.out ?_|refine wpList_store_mid rfl 136 _ _ rfl (w.heap.size+1) 0 #[.int .i64 (st.no:Int),.int .i64 (st.nw:Int),.int .i64 nr,.int .i64 nv] rfl rfl HT.out HS4.out HON.out ?_)
 obtain ⟨hq,hpost⟩:=HFN.out _ rfl;refine bodyPost_ret (di rfl _ _ _ _ _ _ _ rfl hq Tryz.underlying136 rfl HS4.out) rfl ?_;exact hpost
end
theorem oz {w:World} {L:aI} {W:Nat} {E:Nat→Nat} (h:bA w L W E) (hT:bu w) (a:Nat) (ha:a≤W) (hE:∀s,E s≠0→s+E s≤a):Calls Tryz.prog 216 #[L.m,.int .i64 a,.int .i64 W] w fun e w'=>e= .returned (.int .i64 0)∧w=w':=by
 have hW:=h.small;have HN:=ae (cH h.blk);have HWD:=ae (cC h);have HF:=ae (ee h hT a (by omega));have HX:=ae (ig h hT a (by omega));have HFI:Hid (∀e w',ce E a w e w'→e= .returned (.tuple #[.int .i64 0,.int .i64 0,.bool false])∧w=w'):=by
  show∀e w',_
  rintro e w' ⟨⟨s,n,h1,h2,h3,_⟩|⟨_,h1⟩,h2⟩
  ·have:=hE s (by omega);omega
  ·exact ⟨h1,h2⟩
 have HNI:Hid (∀e w',cF E W a w e w'→e= .returned (.tuple #[.int .i64 0,.int .i64 0,.bool false])∧w=w'):=by
  show∀e w',_
  intro e w' hp;rcases hp with ⟨⟨s,n,h1,h2,h3⟩|⟨_,h1⟩,h2⟩
  ·have h4:=bH.1 h1.2.2.1;have:=hE s h4;have:=h1.1;omega
  ·exact ⟨h1,h2⟩
 have m1:max (a:Int) 0=(a:Int):=by omega
 have m2:min (W:Int) (W:Int)=(W:Int):=by omega
 clear h hT hE hW
 go_enter Tryz.func216,Tryz.ntmps216
 go_wp2_with fail
 refine (HN.out).mono ?_;rintro e w1 ⟨rfl,rfl⟩;go_wp2_with fail
 refine (HWD.out).mono ?_;rintro e w1 ⟨rfl,rfl⟩;go_wp2_with fail
 refine (HF.out).mono ?_;intro e w1 hp;obtain ⟨rfl,rfl⟩:=HFI.out _ _ hp;clear hp;go_wp2_with fail
 refine (HX.out).mono ?_;intro e w1 hp;obtain ⟨rfl,rfl⟩:=HNI.out _ _ hp;clear hp HN HWD HF HX HFI HNI m1 m2;go_wp2
 go_loopw [7,13] (fun n p wr=>n= .int .i64 0∧p= .bool false∧wr=w) (fun _ _ _=>0)
 case atStart=>exact ⟨rfl,rfl,by first|trivial|rfl⟩
 case round=>
  obtain ⟨rfl,rfl,rfl⟩:=hrel;go_wp2;go_ret;exact ⟨rfl,rfl⟩
def yG (m Pg W Fs Us Hg:Nat) (mp:Nat→Bool) (L:Nat→Nat) (S:Nat→Prop) (G:Gr) (ls:List Nat) (w:World) (e:Ending) (w':World):Prop:=
 ∃(EL:aI) (E:Nat→Nat) (S':Nat→Prop),e= .returned (.tuple #[.pointer (some ⟨EL.m,0,none⟩),.int .i64 0])∧bi m Pg W Fs Us Hg mp L S' w'∧(∀k,S' k→S k∨w.heap.size≤k)∧(∀k,S' k→¬EL.has k)∧bA w' EL W E∧(∀a,E a≠0↔Reach G ls a)∧bU G ls E∧(∀k,EL.has k→w.heap.size≤k)∧Fr S w w'
theorem lO {w:World} {m b g Pg W Fs Us Hg:Nat} {S:Nat→Prop} {mp:Nat→Bool} {L:Nat→Nat} {ls:List Nat} {G:Gr} (hi:bi m Pg W Fs Us Hg mp L S w) (hr:aW w b g ls) (hT:bu w) (hSt:¬S aN) (lo top Rm:Nat) (hG:cg G ls top) (hO:∀a,G.size a≠0→dy L (aX W Pg mp) G a) (hlo:∀a,G.size a≠0→lo≤a) (htop:top≤W) (h4:1≤Rm) (h5:Rm≤4096):
  Calls Tryz.prog 151 #[m,.pointer (some ⟨b,0,none⟩),.int .i64 lo,.int .i64 top,.int .i64 Rm] w (yG m Pg W Fs Us Hg mp L S G ls w):=by
 have hlaw:=aF m Pg W Fs Us Hg mp;have HW:=ae (fun w1 (S1:Nat→Prop) (hi1:bi m Pg W Fs Us Hg mp L S1 w1)=>cD hi1.choose_spec.1);obtain ⟨e1,e2,e3,e4,e5,e6,e7,e8,hW1⟩:=hi.choose_spec.1.at;clear e1 e2 e4 e5 e6 e7 e8;have hsl:=hlaw.lt _ _ _ hi;have HNW:=ae (gw W hW1 (by omega) w);have HAL:=ae (fun w1 (hf:Fr (fun _=>False) w w1)=>gN (hr.frame hf (fun h=>h) (fun h=>h)));have hrl:=hr.small;have HMK:=ae (fun (w1 w2:World) (EL:aI) (hf:Fr (fun _=>False) w w1) (hn:∀k,EL.has k→w.heap.size≤k) (he:bA w1 EL W (fun _=>0)) (hf2:Fr (fun _=>False) w1 w2) rb rc (hrb:w1.heap.size≤rb∧rb<w2.heap.size) (hrs:∀(i a:Nat),ls[i]? =some a→w2.cell? ⟨rb,i,none⟩=some (.int .i64 a))=>
  fY (w:=w2) (Rm:=Rm) hlaw (hlaw.keep (hlaw.keep hi hf) hf2) hG htop hO h4 h5 (he.frame hf2 (fun _ _ h=>h)) (an (an hT hf (fun h=>h)) hf2 (fun h=>h)) (fun k hk=>⟨fun h=>by have:=hsl k hk;have:=hn k h;omega,fun e=>hSt (e▸hk)⟩) (fun h=>by have h1:=hn _ h;have h2:aN<w.heap.size:=aE (hT 0 0 rfl);omega) rb rc ⟨hrb.2,fun h=>by have:=hsl _ h;have:=hf.size;omega,fun h=>by have:=he.lt _ h;omega⟩ hrs (by omega))
 have HW0:=ae (HW.out _ _ hi);have HEN:Hid (∀w1 w2 w3 EL e,Fr (fun _=>False) w w1→(∀k,EL.has k→w.heap.size≤k)→bA w1 EL W (fun _=>0)→Fr (fun _=>False) w1 w2→n7 (bi m Pg W Fs Us Hg mp) L EL W Rm S G ls top w2 e w3→∃(st:dl) (nr nv:Int),e= .returned (.tuple #[.agg #[.int .i64 (st.no:Int),.int .i64 (st.nw:Int),.int .i64 nr,.int .i64 nv],.int .i64 0])∧bA w3 EL W st.E∧bu w3∧(∃S',bi m Pg W Fs Us Hg mp L S' w3)∧(∀s,st.E s≠0→lo≤s∧s+st.E s≤top)∧∀w4,Fr (fun _=>False) w3 w4→yG m Pg W Fs Us Hg mp L S G ls w (.returned (.tuple #[.pointer (some ⟨EL.m,0,none⟩),.int .i64 0])) w4):=by
  show∀w1 w2 w3 EL e,_
  rintro w1 w2 w3 EL e hf hn he hf2 ⟨st,nr,nv,S',rfl,q1,q2,q3,q4,q5,q6⟩;have z1:=hf.size;have z2:=hf2.size;have hel:=he.lt;have htl:aN<w.heap.size:=aE (hT 0 0 rfl);refine ⟨st,nr,nv,rfl,q3,an (an (an hT hf (fun h=>h)) hf2 (fun h=>h)) q6 (fun h=> ?_),⟨S',q1⟩,fun s hs=> ?_,?_⟩
  ·rcases h with h|h
   ·exact hSt h
   ·have:=hn _ h;unfold aN at htl;omega
  ·have h1:=q4.marked s hs;have h2:G.size s≠0:=by rw [←h1.2];exact hs
   exact ⟨hlo s h2,by rw [h1.2];exact hG.top s h2⟩
  ·intro w4 hf4;refine ⟨EL,st.E,S',rfl,hlaw.keep q1 hf4,fun k hk=> ?_,fun k hk h=> ?_,q3.frame hf4 (fun _ _ h=>h),q5,q4.marked,hn,?_⟩
   ·rcases q2 k hk with h|h
    ·exact .inl h
    ·exact .inr (by omega)
   ·rcases q2 k hk with h1|h1
    ·have:=hsl k h1;have:=hn k h;omega
    ·have:=hel k h;omega
   ·exact ((((hf.trans hf2 (fun _ h=>h.elim)).mono (S':=S) (fun _ h=>h.elim)).trans q6 (fun k h=>by
     rcases h with h|h
     ·exact .inl h
     ·exact .inr (hn k h)))).trans hf4 (fun _ h=>h.elim)
 clear hi hr hT hSt hG hO h4 h5 hsl hlaw hlo
 go_enter Tryz.func151,Tryz.ntmps151
 go_wp2_with fail
 refine (HW0.out).mono ?_;rintro e w1 ⟨rfl,rfl⟩;clear HW0;go_wp2_with fail
 refine (HNW.out).mono ?_;rintro e w1 ⟨EL,rfl,he,hn,hf⟩;have HA1:=ae (HAL.out w1 hf);clear HNW HAL;go_wp2_with fail
 refine (HA1.out).mono ?_;rintro e w2 ⟨rb,rc,rfl,r1,r2,r3,hf2⟩;have HM2:=ae (HMK.out w1 w2 EL hf hn he hf2 rb rc ⟨r1,r2⟩ r3);have HE2:=ae (fun w3 e h=>HEN.out w1 w2 w3 EL e hf hn he hf2 h);clear r1 r2 r3 hf2 hf hn he HA1 HMK HEN;go_wp2_with fail
 refine (HM2.out).mono ?_;intro e w3 hp;obtain ⟨st,nr,nv,rfl,g1,g2,⟨S3,g3⟩,g4,g5⟩:=HE2.out _ _ hp;clear hp HM2 HE2;have HNX:=ae (fun w4 (hf:Fr (fun _=>False) w3 w4)=>ig (g1.frame hf (fun _ _ h=>h)) (an g2 hf (fun h=>h)) 0 (by omega));have HLV:=ae (fun w4 (hf:Fr (fun _=>False) w3 w4)=>oz (g1.frame hf (fun _ _ h=>h)) (an g2 hf (fun h=>h)) top htop (fun s hs=>(g4 s hs).2));have HWW:=ae (fun w4 (hf:Fr (fun _=>False) w3 w4)=>HW.out w4 S3 ((aF m Pg W Fs Us Hg mp).keep g3 hf));have HLO:Hid (∀w4 e w5,cF st.E W 0 w4 e w5→w4=w5∧∃(s n:Int) (is:Bool),e= .returned (.tuple #[.int .i64 s,.int .i64 n,.bool is])∧(is&&decide (s<(lo:Int)))=false):=by
  show∀w4 e w5,_
  intro w4 e w5 hp;unfold cF at hp;rcases hp with ⟨⟨s,n,h1,h5,h3⟩|⟨_,h1⟩,h2⟩
  ·have h4:=(g4 s (bH.1 h1.2.2.1)).1;exact ⟨h2,_,_,_,h3,by rw [Bool.true_and,decide_eq_false_iff_not];omega⟩
  ·exact ⟨h2,_,_,_,h1,rfl⟩
 have HQ:=ae g5;clear g1 g2 g3 g4 g5 HW;obtain ⟨A,hA⟩:∃A,A=w3.alloc (.cells #[.int .i64 (st.no:Int),.int .i64 (st.nw:Int),.int .i64 nr,.int .i64 nv] 136):=⟨_,rfl⟩;have hfA:Fr (fun _=>False) w3 A:=by rw [hA];exact (Fr.refl _ _).alloc _
 have HN4:=ae (HNX.out A hfA);have HL4:=ae (HLV.out A hfA);have HW4:=ae (HWW.out A hfA);have HQ4:=ae (HQ.out A hfA);clear hfA HNX HLV HWW HQ;rw [show ((0:Nat):Int)=0 from rfl] at HN4
 go_upto_region 3 with fail
 rw [←hA];clear hA;go_wp2_with fail
 refine (HN4.out).mono ?_;intro e w5 hp;obtain ⟨rfl,s,n,is,rfl,hsl⟩:=HLO.out _ _ _ hp;clear hp HN4 HLO
 cases is with
 |false=>
  clear hsl;go_wp2_with fail
  refine (HW4.out).mono ?_;rintro e w6 ⟨rfl,rfl⟩;go_wp2_with fail
  refine (HL4.out).mono ?_;rintro e w7 ⟨rfl,rfl⟩;clear HW4 HL4;go_wp2;refine bodyPost_ret (results_tmp2 rfl _ _ _) rfl ?_;exact HQ4.out
 |true=>
  rw [Bool.true_and,decide_eq_false_iff_not] at hsl;go_wp2_with fail
  refine (HW4.out).mono ?_;rintro e w6 ⟨rfl,rfl⟩;go_wp2_with fail
  refine (HL4.out).mono ?_;rintro e w7 ⟨rfl,rfl⟩;clear HW4 HL4;go_wp2;refine bodyPost_ret (results_tmp2 rfl _ _ _) rfl ?_;exact HQ4.out
def gB (L F:Nat→Nat) (a np i:Nat):Nat:=if 1≤i∧i≤np∧L (a+i)≠0 then F (L (a+i)) else L (a+i)
def kM (L F:Nat→Nat) (a z np n:Nat):Nat→Nat:=fun k=>if z≤k∧k<z+n then gB L F a np (k-z) else L k
theorem uj (L F:Nat→Nat) (a z np:Nat):kM L F a z np 0=L:=by
 funext k;unfold kM;rw [if_neg (by omega)]
theorem ui (L F:Nat→Nat) (a z np n:Nat):bG (kM L F a z np n) (z+n) (gB L F a np n)=kM L F a z np (n+1):=by
 funext k;show (if k=z+n then gB L F a np n else if z≤k∧k<z+n then gB L F a np (k-z) else L k)=if z≤k∧k<z+(n+1) then gB L F a np (k-z) else L k
 by_cases h:k=z+n
 ·subst h;rw [if_pos rfl,if_pos (by omega),show z+n-z=n by omega]
 ·rw [if_neg h];by_cases h3:z≤k∧k<z+n
  ·rw [if_pos h3,if_pos (by omega)]
  ·rw [if_neg h3,if_neg (by omega)]
theorem rT (L F:Nat→Nat) {a z:Nat} (np n:Nat) (hz:z≤a) {k:Nat} (hk:a+n≤k):kM L F a z np n k=L k:=by
 unfold kM;rw [if_neg (by omega)]
section
variable {m Pg W Fs Us Hg:Nat} {mp:Nat→Bool} {L:Nat→Nat} {S:Nat→Prop} {w w1:World}
theorem bi.keep (h:bi m Pg W Fs Us Hg mp L S w) (hf:Fr (fun _=>False) w w1):bi m Pg W Fs Us Hg mp L S w1:=(aF m Pg W Fs Us Hg mp).keep h hf
theorem rM (h:bi m Pg W Fs Us Hg mp L S w) (a:Nat) (ha:aX W Pg mp a):Calls Tryz.prog 223 #[m,.int .i64 a] w fun e w'=>e= .returned (.tuple #[.int .u64 ((L a:Nat):Int),.int .i64 0])∧Fr (fun _=>False) w w':=by
 obtain ⟨M,h1,h2⟩:=h;exact (dH h1 a ha.1 ha.2).mono (fun e w' ⟨h3,h4⟩=>⟨by rw [h3,h2 a ha],h4⟩)
theorem pn (h:bi m Pg W Fs Us Hg mp L S w) (a x:Nat) (ha:aX W Pg mp a) (hx:x<18446744073709551616):Calls Tryz.prog 224 #[m,.int .i64 a,.int .u64 x] w fun e w'=>e= .returned (.int .i64 0)∧bi m Pg W Fs Us Hg mp (bG L a x) S w'∧Fr S w w':=by
 obtain ⟨M,h1,h2⟩:=h;exact (io h1 a x ha.1 ha.2 hx).mono (fun e w' ⟨h3,h4,h5⟩=>⟨h3,⟨bG M a x,h4,fun b hb=>by
  unfold bG;split
  ·rfl
  ·exact h2 b hb⟩,h5⟩)
theorem fC (h:bi m Pg W Fs Us Hg mp L S w) (a p f g:Nat) (ha:1≤a) (hd:aX W Pg mp a) (ho:d9 L a p f g):Calls Tryz.prog 88 #[.iface 112 (.pointer (some ⟨m,0,none⟩)),.int .i64 a] w fun e w'=>e= .returned (.tuple #[bP p f g,.int .i64 0])∧∃S',bi m Pg W Fs Us Hg mp L S' w'∧Fr S w w'∧∀k,S' k→S k∨w.heap.size≤k:=
 (eZ (aF m Pg W Fs Us Hg mp) h a p f g ha hd ho).mono (fun _ _ ⟨h1,S2,h2,h3,h4⟩=>⟨h1,S2,h2,h3,h4⟩)
end
end Go.Proofs.YthahbijbpinneaaGreatDoor
