import Derived.Test.YthahbijbpinneaaGreatDoorA2
import Derived.Test.YthahbijbpinneaaGreatDoorA4
import Derived.Test.YthahbijbpinneaaGreatDoorA7
import Derived.Test.YthahbijbpinneaaGreatDoorA8
import Derived.Test.YthahbijbpinneaaGreatDoorA9
import Derived.Laws.OwnMore
set_option maxRecDepth 100000
set_option maxHeartbeats 8000000
set_option linter.all false
namespace Go.Proofs.YthahbijbpinneaaGreatDoor
open Go.RowKit
def wi:dC:={E:=fun _=>0,xs:=[],lost:=false,no:=0,nw:=0}
section
variable {I:dZ} {t:TypeId} {v wk:Value} {L:Nat->Nat} {EL:aI} {W kb sb Rm:Nat} {S0:Nat->Prop} {w0:World} {PB:Nat->Prop} {wp:World} {S S1:Nat->Prop} {sv sv1:Value} {Hg high1 nr nv:Int} {st:dC} {w w1:World} {fl:Nat} {r:Value} {dom:Nat->Prop} {G:Gr} {rs:List Nat} {N:Nat}
def qM (I:dZ) (t:TypeId) (v wk:Value) (L:Nat->Nat) (EL:aI) (W kb sb Rm:Nat) (S0:Nat->Prop) (w0:World) (G:Gr) (rs:List Nat) (N:Nat) (e:Ending) (w':World):Prop:=
 e= .returned (.tuple #[])∧∃st:dC,dy I t v wk L EL W kb sb Rm S0 w0 (fun _=>False) w0 st w'∧ef G rs N Rm st∧∀a,st.E a≠0↔Reach G rs a
def Aj (I:dZ) (t:TypeId) (v wk:Value) (L:Nat->Nat) (EL:aI) (W kb sb Rm:Nat) (S0:Nat->Prop) (w0:World) (G:Gr) (rs:List Nat) (N i:Nat) (w':World):Prop:=
 ∃st:dC,dy I t v wk L EL W kb sb Rm S0 w0 (fun _=>False) w0 st w'∧kV G rs N Rm 0 (fun _=>False) st∧∀(j a:Nat),j<i->rs[j]? =some a->a≠0->st.E a≠0
def zF (I:dZ) (t:TypeId) (v wk:Value) (L:Nat->Nat) (EL:aI) (W kb sb Rm:Nat) (S0:Nat->Prop) (w0:World) (G:Gr) (rs:List Nat) (N:Nat) (w':World) (m:Nat):Prop:=
 ∃(st:dC) (n0:Nat),dy I t v wk L EL W kb sb Rm S0 w0 (fun _=>False) w0 st w'∧kV G rs N Rm n0 (fun _=>False) st∧(∀a∈rs,a≠0->st.E a≠0)∧2*(N-st.no)+(if st.lost then 1 else 0)<=m
def zp (I:dZ) (t:TypeId) (v wk:Value) (L:Nat->Nat) (EL:aI) (W kb sb Rm:Nat) (S0:Nat->Prop) (w0:World) (PB:Nat->Prop) (wp:World) (G:Gr) (rs:List Nat) (N n0:Nat) (l:List (Nat×Nat)) (i:Nat) (w':World):Prop:=
 ∃st:dC,dy I t v wk L EL W kb sb Rm S0 w0 PB wp st w'∧kV G rs N Rm n0 (fun b=>b∈(l.drop i).map (·.1)) st∧(∀a∈rs,a≠0->st.E a≠0)∧(∀x∈l,st.E x.1≠0)
theorem zp.close {PB:Nat->Prop} {n0 c:Nat} {l:List (Nat×Nat)} {i:Nat} (h:zp I t v wk L EL W kb sb Rm S0 w0 PB wp G rs N n0 l i w) (j:i=l.length) (o:2*(N-n0)+1<=c):∃m,m<c∧zF I t v wk L EL W kb sb Rm S0 w0 G rs N w m:=by
 obtain ⟨st,d,a,e,_⟩:=h;have f:kV G rs N Rm n0 (fun _=>False) st:=⟨a.inv,a.xs,fun b g=>by
  rcases a.all b g with h|h|h
  ·exact .inl h
  ·exact .inr (.inl h)
  ·rw [j,List.drop_length] at h;exact absurd h (List.not_mem_nil),a.lost,a.le⟩
 have k:=a.inv.small;have n:=a.le;refine ⟨2*(N-st.no)+(if st.lost then 1 else 0),?_,st,n0,d.unprotect w0,f,e,Nat.le_refl _⟩
 cases hl:st.lost with
 |false=>rw [if_neg (by decide)];omega
 |true=>have:=a.lost hl;rw [if_pos rfl];omega
theorem vj (hs:aX t v fl r I dom) (hS:tV EL kb sb w0.heap.size S0) (hG:cu G rs N) (hW:N<=W) (hO:∀a,G.size a≠0->dL L dom G a) (h:dy I t v wk L EL W kb sb Rm S0 w0 (fun _=>False) w0 wi w) (y:Rm<=4096)
  (rb rc:Nat) (A:rb<w0.heap.size∧¬S0 rb∧¬EL.has rb∧rb≠kb∧rb≠sb) (c5:∀(i a:Nat),rs[i]? =some a->w0.cell? ⟨rb,i,none⟩=some (.int .i64 a)) (ei:rs.length<=1048576):
  Calls Tryz.prog 140 #[kb,.slice (some ⟨rb,0,none⟩) rs.length rc] w (qM I t v wk L EL W kb sb Rm S0 w0 G rs N):=by
 have z:∀a,a∈rs->a≠0->Reach G rs a:=fun a n h2=> .root n h2
 have b7:=ae (fun (i:Nat) w1 (a:Nat) c (o:rs[i]? =some a) (d:dy I t v wk L EL W kb sb Rm S0 w0 (fun _=>False) w0 c w1) (f:kV G rs N Rm 0 (fun _=>False) c)=>by
  have ej:=f.inv.small;have d5:N<=1048576:=by obtain ⟨_,_,_,_,_,H⟩:=d;have:=H.ext.small.2;omega
  exact ly hs hS hG hW hO d f.inv.marked a (fun K=>z a (List.mem_of_getElem? o) K) (by omega) (by omega) y)
 have a6:=ae (fun PB wp w1 c (d:dy I t v wk L EL W kb sb Rm S0 w0 PB wp c w1) (o:ef G rs N Rm c)=>qd hs hS hG hW hO d o y);have c9:=ae (fun PB wp w1 c a (d:dy I t v wk L EL W kb sb Rm S0 w0 PB wp c w1) (o:ef G rs N Rm c) (T:Reach G rs a)=>j9 hs hS hG hW hO d o a T y);have bj:=ae (fun (i a:Nat) c (o:rs[i]? =some a) (f:kV G rs N Rm 0 (fun _=>False) c)=>j8 (Rm:=Rm) hG f.inv (fun K=>z a (List.mem_of_getElem? o) K));have bk:=ae (fun (l:List (Nat×Nat)) (i:Nat) x n0 c (o:l[i]? =some x) (f:kV G rs N Rm n0 (fun b=>b∈(l.drop i).map (·.1)) c) (X:∀x∈l,c.E x.1≠0)=>af (f.inv.marked _ (X x (List.mem_of_getElem? o))).1 (iR (Rm:=Rm) hG f.inv (f.inv.marked _ (X x (List.mem_of_getElem? o))).1).1);have bo:=ae (fun (i a:Nat) w2 c (o:rs[i]? =some a) (f:kV G rs N Rm 0 (fun _=>False) c) (hj:∀(j a:Nat),j<i->rs[j]? =some a->a≠0->c.E a≠0) cur (d:dy I t v wk L EL W kb sb Rm S0 w0 (fun _=>False) w0 cur w2) (H:kT G rs N Rm (bI G Rm c a) cur []) (B:cur.xs=[])=>by
  have n:=jh (G:=G) (Rm:=Rm) c a (fun K=>hG.reach (z a (List.mem_of_getElem? o) K));obtain ⟨u,q⟩:=f.go n.1 (fun b d _=>d.elim) H B;exact (show Aj I t v wk L EL W kb sb Rm S0 w0 G rs N (i+1) w2 from ⟨cur,d,u,fun j b d7 F K=>by
   rcases Nat.lt_or_ge j i with h|h
   ·exact q _ (n.1.mono _ (hj j b h F K))
   ·have:j=i:=by omega
    subst this;rw [o] at F;simp only [Option.some.injEq] at F;subst F;exact q _ (n.2 K)⟩))
 have bs:=ae (fun (PB:Nat->Prop) (wp:World) n0 (l:List (Nat×Nat)) (i:Nat) x w2 c (o:l[i]? =some x) (f:kV G rs N Rm n0 (fun b=>b∈(l.drop i).map (·.1)) c) (d0:∀a∈rs,a≠0->c.E a≠0) (X:∀x∈l,c.E x.1≠0) cur (d:dy I t v wk L EL W kb sb Rm S0 w0 PB wp cur w2) (H:kT G rs N Rm (cw G Rm c x.1) cur []) (B:cur.xs=[])=>by
  have d1:=X x (List.mem_of_getElem? o);have n:=iR (Rm:=Rm) hG f.inv (f.inv.marked _ d1).1;have dm:l.drop i=x::l.drop (i+1):=(List.getElem?_eq_some_iff.1 o).2▸(List.drop_eq_getElem_cons (List.getElem?_eq_some_iff.1 o).1);obtain ⟨u,q⟩:=f.go (pend':=fun b=>b∈(l.drop (i+1)).map (·.1)) n.2.1 (fun b d _=>by
   rw [dm,List.map_cons] at d;rcases List.mem_cons.1 d with e|e
   ·rw [e];exact .inr n.2.2
   ·exact .inl e) H B
  exact (show zp I t v wk L EL W kb sb Rm S0 w0 PB wp G rs N n0 l (i+1) w2 from ⟨cur,d,u,fun a T K=>q _ (n.2.1.mono _ (d0 a T K)),fun x B=>q _ (n.2.1.mono _ (X x B))⟩))
 have cd:∀wr c,dy I t v wk L EL W kb sb Rm S0 w0 (fun _=>False) w0 c wr->∀(i a:Nat),rs[i]? =some a->wr.cell? ⟨rb,i,none⟩=some (.int .i64 a):=by
  intro wr c d i a o;obtain ⟨_,_,_,_,_,H⟩:=d;exact (World.cell?_of_block (w:=w0) (w':=wr) (a:=⟨rb,i,none⟩) (H.fr.block rb A.1 (fun h=>by
   rcases h with h|h|h|h|h
   ·exact A.2.1 h
   ·exact A.2.2.1 h
   ·exact A.2.2.2.1 h
   ·exact A.2.2.2.2 h
   ·have:=A.1;omega))).trans (c5 i a o)
 have b6:=ae cd;clear cd;have av:=ae (fun PB wp w1 w2 S sv Hg nr nv c nr1 (d:fb I t v wk L EL W kb sb Rm S0 w0 PB wp S sv Hg nr nv c w1) he hf=>d.cells_ (w1:=w2) (no:=c.no) (nw:=c.nw) (nr1:=nr1) (nv1:=nv) hs hS he hf);have bb:=ae (fun w1 S sv Hg nr nv c (d:fb I t v wk L EL W kb sb Rm S0 w0 (fun _=>False) w0 S sv Hg nr nv c w1)=>sO sb sv _ Rm Hg c.lost w1 d.stk);have a9:=ae (fun w1 S sv Hg nr nv c (d:fb I t v wk L EL W kb sb Rm S0 w0 (fun _=>False) w0 S sv Hg nr nv c w1)=>(pG sb sv _ Rm Hg c.lost w1 d.stk).mono (fun e w2 ⟨u,q,C⟩=>(⟨u,d.stk_ hs hS (xs:=c.xs) q (C.mono (fun k hk=> .inl (.inl hk))) (fun k hk=> .inl hk)⟩:e=Ending.returned (.tuple #[])∧dy I t v wk L EL W kb sb Rm S0 w0 (fun _=>False) w0 {c with lost:=false} w2)));have am:=ae (fun w1 S sv Hg nr nv c (d:fb I t v wk L EL W kb sb Rm S0 w0 (fun _=>False) w0 S sv Hg nr nv c w1)=>callsIn_wide.1 (qj 0 (d.blk.cell 1 rfl) d.ext d.tab));have b0:=ae (fun w1 w2 S sv Hg nr nv c (P:Nat->Prop) (d:fb I t v wk L EL W kb sb Rm S0 w0 (fun _=>False) w0 S sv Hg nr nv c w1) (hf:Fr (fun _=>False) w1 w2) (hP:∀g,P g->w1.heap.size<=g∧g<w2.heap.size)=>d.protect hs hf hP);have a2:=ae (fun n0 c (f:kV G rs N Rm n0 (fun _=>False) c)=>f.again hW hG);have ap:∀w' st n0,dy I t v wk L EL W kb sb Rm S0 w0 (fun _=>False) w0 st w'->kV G rs N Rm n0 (fun _=>False) st->(∀a∈rs,a≠0->st.E a≠0)->st.lost=false->qM I t v wk L EL W kb sb Rm S0 w0 G rs N (.returned (.tuple #[])) w':=fun w' st n0 n h2 h3 h4=>⟨rfl,st,n,h2.inv,fun a=>h2.done h4 h3 a⟩
 have a7:=ae ap;generalize (qM I t v wk L EL W kb sb Rm S0 w0 G rs N)=Q at*;have c3:kV G rs N Rm 0 (fun _=>False) wi:=⟨⟨ca.none G rs,by
  show 0=cnt _ 0 N
  exact (aE (fun i _ _=>rfl)).symm,by
  show 0=cnt _ 0 N
  exact (aE (fun i _ _=>by rw [Bool.eq_false_iff];intro hh;obtain ⟨s,n,h2⟩:=aQ.1 hh;simp only [wi] at h2;omega)).symm,fun x B=>absurd B (List.not_mem_nil),Nat.zero_le _⟩,rfl,fun b d=>absurd rfl d,(fun h=>by cases h),Nat.le_refl _⟩
 obtain ⟨S,sv,Hg,nr,nv,H⟩:=h;have k6:=H.blk.cell 6 rfl;have f6:=H.blk.free 6;have HX:Hid (∀w8,w8=w.setCell ⟨kb,6,none⟩ (.int .i64 1)->Aj I t v wk L EL W kb sb Rm S0 w0 G rs N 0 w8):=by
  show∀w8,_
  rintro w8 rfl;exact ⟨wi,⟨_,_,_,_,_,av.out _ _ _ _ _ _ _ _ _ _ 1 H (H.blk.set 6 (.int .i64 1)) ((Fr.refl (fun k=>k=kb) w).setCell ⟨kb,6,none⟩ (.inl rfl) _)⟩,c3,fun j a hj=>by omega⟩
 clear hs hS hG hW hO y A c5 z ap c3 H;unfold iy wM at*
 go_enter Tryz.func140,Tryz.ntmps140
 go_upto_region 1 with fail
 have cc:=ae (HX.out _ rfl);generalize w.setCell ⟨kb,6,none⟩ (.int .i64 1)=w1 at*;clear HX k6 f6;go_wp2
 go_loopw [14] (fun x wr=>∃(i:Nat),x= .int .i64 i∧i<=rs.length∧Hid (Aj I t v wk L EL W kb sb Rm S0 w0 G rs N i wr)) (fun x _=>(rs.length-intOf x).toNat)
 case atStart=>exact ⟨0,rfl,by omega,cc⟩
 case round=>
  clear cc;obtain ⟨i,rfl,n,f⟩:=hrel;by_cases Y:i<rs.length
  ·have cx:(i:Int)<(rs.length:Int):=by omega
   obtain ⟨a,T⟩:∃a,rs[i]? =some a:=⟨_,List.getElem?_eq_getElem Y⟩;obtain ⟨c,u,q,C⟩:=f.out;have ck:=b6.out wr c u i a T;have b4:=ae (b7.out i wr a c T u q);have HN:=ae (fun w4 cur=>bo.out i a w4 c T q C cur);have O:=ae (bj.out i a c T q);clear f u q C T;go_wp2_with fail
   refine (b4.out).mono ?_;rintro e w3 ⟨rfl,cf⟩;have D:=ae (a6.out _ _ _ _ cf O.out);clear cf b4 ck O;go_wp2_with fail
   refine (D.out).mono ?_;rintro e w4 ⟨rfl,cur,b1,b2,b3⟩;have c7:=ae (HN.out w4 cur b1 b2 b3);clear b1 b2 b3 D HN;go_wp2;go_roundw
   case rel=>exact ⟨i+1,by go_num,by omega,c7⟩
   case measure=>simp [intOf];omega
  ·have c2:¬(i:Int)<(rs.length:Int):=by omega
   have ds:i=rs.length:=by omega
   obtain ⟨M,hM⟩:∃M,Hid (zF I t v wk L EL W kb sb Rm S0 w0 G rs N wr M):=by
    obtain ⟨c,u,q,C⟩:=f.out;exact ⟨_,⟨c,0,u,q,fun a T K=>by
     obtain ⟨j,hj,e⟩:=List.getElem_of_mem T;exact C j a (by omega) (by rw [<-e];exact List.getElem?_eq_getElem hj) K,Nat.le_refl _⟩⟩
   clear f n Y ds bo b7 b6;go_wp2
   go_loopw [] (fun wr=>∃m,Hid (zF I t v wk L EL W kb sb Rm S0 w0 G rs N wr m)) (fun wr=>dR (zF I t v wk L EL W kb sb Rm S0 w0 G rs N wr))
   case atStart=>exact ⟨M,hM⟩
   case round=>
    clear hM c2;obtain ⟨m,hm⟩:=hrel;obtain ⟨f,_⟩:=bY hm.out;clear hm;generalize cy:dR (zF I t v wk L EL W kb sb Rm S0 w0 G rs N _)=m0 at f;have bd:=ae cy;clear cy;obtain ⟨c,n0,u,q,C,q4⟩:=f;obtain ⟨S1,sv1,high1,nr1,nv1,U⟩:=id u;have k2:=U.blk.cell 2 rfl;have R:=ae (bb.out _ _ _ _ _ _ _ U)
    cases hls:c.lost with
    |false=>
     have HQ:=ae (a7.out _ _ _ u q C hls);rw [hls] at R;clear u q C q4 U hls bd;go_wp2_with fail
     refine (R.out).mono ?_;rintro e w2 ⟨rfl,rfl⟩;go_wp2;go_end0;exact HQ.out
    |true=>
     have a8:=ae (a9.out _ _ _ _ _ _ _ U);have aq:=ae (af (a2.out _ _ q) C);have c0:2*(N-c.no)+1<=m0:=by rw [hls,if_pos rfl] at q4;exact q4
     rw [hls] at R;clear u q C q4 U hls;go_wp2_with fail
     refine (R.out).mono ?_;rintro e w2 ⟨rfl,rfl⟩;go_wp2_with fail
     refine (a8.out).mono ?_;rintro e w2 ⟨rfl,F⟩;obtain ⟨S2,d3,high2,a0,d2,V⟩:=F;have k6:=V.blk.cell 6 rfl;have f6:=V.blk.free 6;have HX:Hid (∀x w8,w8=w2.setCell ⟨kb,6,none⟩ (.int .i64 x)->fb I t v wk L EL W kb sb Rm S0 w0 (fun _=>False) w0 S2 d3 high2 x d2 {c with lost:=false} w8):=by
      show∀x w8,_
      rintro x w8 rfl;exact av.out _ _ _ _ _ _ _ _ _ _ x V (V.blk.set 6 (.int .i64 x)) ((Fr.refl (fun k=>k=kb) w2).setCell ⟨kb,6,none⟩ (.inl rfl) _)
     clear V a8 R k2
     go_upto_region 10 with fail
     have oT:=HX.out (wrap64 (a0+1)) _ rfl;generalize w2.setCell ⟨kb,6,none⟩ (.int .i64 (wrap64 (a0+1)))=w3 at*;generalize wrap64 (a0+1)=nr3 at*;clear HX k6 f6;have b9:=ae (am.out _ _ _ _ _ _ _ oT);have D:=ae oT;clear oT;go_wp2_with fail
     refine (b9.out).mono ?_;rintro e w4 ⟨sl,rfl,ho,hf⟩;obtain ⟨l,X⟩:∃l,l=aP c.E W:=⟨_,rfl⟩;have eg:l.length<=1048576:=by
      have n:=kf c.E W;obtain ⟨_,h2⟩:=D.out.ext.small;rw [X];omega
     have ct:∀x∈l,c.E x.1≠0:=fun x B=>by rw [X] at B;exact (bi.1 B).2.1
     have Z:w4.ownsRow (w3.heap.size+2) 3 1 sl l.length (ed l):=by rw [X];exact ho
     have hA:=aq.out.1;rw [<-X] at hA;clear ho X;obtain ⟨p,cap,ax⟩:∃p cap,sl= .slice p l.length cap:=by
      rcases Z.2 with ⟨n,h2⟩|⟨g,cap,cur,n,_⟩
      ·exact ⟨none,0,by rw [n,h2]⟩
      ·exact ⟨_,cap,n⟩
     have cp:=b0.out _ _ _ _ _ _ _ _ (fun k=>sl.ownBlock=some k) D.out hf (fun g hg=>by have:=Z.lt g hg;omega);have a3:Hid (∀wr J,dy I t v wk L EL W kb sb Rm S0 w0 (fun k=>sl.ownBlock=some k) w4 J wr->∀(i:Nat) x,l[i]? =some x->∃g,p=some ⟨g,0,none⟩∧wr.cell? ⟨g,i,none⟩=some (.int .i64 (x.1:Int))):=by
      show∀wr J,_
      rintro wr J ⟨_,_,_,_,_,dr⟩ i x o;have d6:=(List.getElem?_eq_some_iff.1 o).1;rcases Z.2 with ⟨n,h2⟩|⟨g,d4,cur,n,_⟩
      ·omega
      ·have hp:p=some ⟨g,0,none⟩:=by rw [n] at ax;cases ax;rfl
       refine ⟨g,hp,?_⟩;have dx:=(dr.prot g (by rw [n];rfl)).2.2.2.2;have hc:=Z;rw [n] at hc;have dk:=hc.cellAt i (by omega);rw [(World.cell?_of_block (w:=w4) (w':=wr) (a:=⟨g,i,none⟩) dx),dk];unfold ed;rw [List.getElem?_map,o];rfl
     have a1:Hid (zp I t v wk L EL W kb sb Rm S0 w0 (fun k=>sl.ownBlock=some k) w4 G rs N c.no l 0 w4):=⟨{c with lost:=false},⟨_,_,_,_,_,cp⟩,hA,aq.out.2,ct⟩;have a4:=ae (fun i wr (h:zp I t v wk L EL W kb sb Rm S0 w0 (fun k=>sl.ownBlock=some k) w4 G rs N c.no l i wr) o=>h.close o c0);have ad:=ae (bs.out (fun k=>sl.ownBlock=some k) w4 c.no l);have ah:=ae (bk.out l);generalize (fun k=>sl.ownBlock=some k)=PB at*;generalize c.no=n1 at*;clear cp hA ct Z hf D aq b9 c0 bs bk a2 b0 am a9 bb av bj;subst ax;go_wp2
     go_loopw [46] (fun x wr=>∃(i:Nat),x= .int .i64 i∧i<=l.length∧Hid (zp I t v wk L EL W kb sb Rm S0 w0 PB w4 G rs N n1 l i wr)) (fun x _=>(l.length-intOf x).toNat)
     case atStart=>exact ⟨0,rfl,by omega,a1⟩
     case round=>
      clear a1;obtain ⟨j,rfl,n,f⟩:=hrel;by_cases Y:j<l.length
      ·have cx:(j:Int)<(l.length:Int):=by omega
       obtain ⟨x,B⟩:∃x,l[j]? =some x:=⟨_,List.getElem?_eq_getElem Y⟩;obtain ⟨J,u,q,C,q5⟩:=f.out;obtain ⟨g,hp,ck⟩:=a3.out _ _ u j x B;obtain ⟨c6,cs⟩:=ah.out j x _ J B q q5;have cb:=ae (c9.out _ _ _ _ _ u q.inv c6);have O:=ae cs;have HN:=ae (fun w6 cur=>ad.out j x w6 J B q C q5 cur);clear f u q C q5 c6 cs B;subst hp;go_wp2_with fail
       refine (cb.out).mono ?_;rintro e w5 ⟨rfl,cn⟩;have a5:=ae (a6.out _ _ _ _ cn O.out);clear cn cb ck O;go_wp2_with fail
       refine (a5.out).mono ?_;rintro e w6 ⟨rfl,cur,b1,b2,b3⟩;have c8:=ae (HN.out w6 cur b1 b2 b3);clear b1 b2 b3 a5 HN;go_wp2;go_roundw
       case rel=>exact ⟨j+1,by go_num,by omega,c8⟩
       case measure=>simp [intOf];omega
      ·have c2:¬(j:Int)<(l.length:Int):=by omega
       obtain ⟨m2,c1,c4⟩:=a4.out j _ f.out (by omega);have b5:=ae c4;clear f c4 n Y a4 a3 ad ah;go_wp2;go_roundw
       case rel=>exact ⟨m2,b5⟩
       case measure=>exact Nat.lt_of_le_of_lt (bY b5.out).2 (by first|exact c1|(rw [bd.out];exact c1))
end
section
variable {I:dZ} {t:TypeId} {v wk:Value} {L:Nat->Nat} {EL:aI} {W kb sb Rm:Nat} {S0:Nat->Prop} {w0:World} {PB:Nat->Prop} {wp:World} {S S1:Nat->Prop} {sv sv1:Value} {Hg high1 nr nv:Int} {st:dC} {w w1:World} {fl:Nat} {r:Value} {dom:Nat->Prop} {G:Gr} {rs:List Nat} {N:Nat}
def zD (I:dZ) (t:TypeId) (v:Value) (L:Nat->Nat) (EL:aI) (W kb sb Rm:Nat) (S:Nat->Prop) (G:Gr) (rs:List Nat) (N:Nat) (w1 w2:World):Prop:=
 ∃(st:dC) (nr nv:Int) (wk:Value) (S':Nat->Prop),I L S' w2∧(∀k,S' k->S k∨w1.heap.size<=k)∧bD w2 EL W st.E∧aj w2 kb [.iface t v,.pointer (some ⟨EL.m,0,none⟩),.pointer (some ⟨sb,0,none⟩),wk,.int .i64 (st.no:Int),.int .i64 (st.nw:Int),.int .i64 nr,.int .i64 nv] 225∧
  ef G rs N Rm st∧(∀a,st.E a≠0↔Reach G rs a)∧Fr (fun k=>S k∨EL.has k∨k=kb∨k=sb∨w1.heap.size<=k) w1 w2
theorem sW (F:aX t v fl r I dom) (X:I L S w) (M:cu G rs N) (R:N<=W) (O:∀a,G.size a≠0->dL L dom G a) (f:Rm<=4096) (o:tV EL kb sb w.heap.size S)
  (c:aj w kb [.iface t v,.pointer (some ⟨EL.m,0,none⟩),.pointer (some ⟨sb,0,none⟩),.pointer none,.int .i64 0,.int .i64 0,.int .i64 0,.int .i64 0] 225) (V:bD w EL W (fun _=>0)) (Hg:Int) (u:lZ w 291 sb (.slice none 0 0) [] Rm Hg false) (P:bv w)
  (g Y:Nat) (l:g<w.heap.size∧¬S g∧¬EL.has g∧g≠kb∧g≠sb) (q:∀(i a:Nat),rs[i]? =some a->w.cell? ⟨g,i,none⟩=some (.int .i64 a)) (D:rs.length<=1048576)
  (b c1 c2:Nat) (y:aj w c1 [.pointer (some ⟨kb,0,none⟩)] 223) (z:aj w c2 [.slice (some ⟨g,0,none⟩) rs.length Y] 123):
  Calls Tryz.prog 139 #[b,.pointer (some ⟨c1,0,none⟩),.pointer (some ⟨c2,0,none⟩)] w fun e w'=>e= .returned (.tuple #[])∧zD I t v L EL W kb sb Rm S G rs N w w':=by
 have k3:=c.cell 3 rfl;have f3:=c.free 3;have e1:=y.cell 0 rfl;have e2:=z.cell 0 rfl;have p:c2≠kb:=fun e=>by subst e;have:=z.symm.trans c;simp at this
 have n:c1≠kb:=fun e=>by subst e;have:=y.symm.trans c;simp at this
 obtain ⟨W1,j⟩:∃W1,w.setCell ⟨kb,3,none⟩ (.pointer (some ⟨b,0,none⟩))=W1:=⟨_,rfl⟩;have hf:Fr (fun k=>k=kb) w W1:=by rw [<-j];exact (Fr.refl (fun k=>k=kb) w).setCell ⟨kb,3,none⟩ (.inl rfl) _
 have x:W1.heap.size=w.heap.size:=by rw [<-j];exact World.size_setCell _ _ _
 have U:fb I t v (.pointer (some ⟨b,0,none⟩)) L EL W kb sb Rm S W1 (fun _=>False) W1 S (.slice none 0 0) Hg 0 0 wi W1:=
  ⟨F.stays _ _ _ _ _ X hf (fun k c e=>(o.s k c).2.1 e) (fun e=>o.d2 e.symm),by rw [<-j];exact c.set 3 _,V.frame hf (fun k c e=>(o.e k c).1 e),u.keep hf (fun e=>o.d1 e.symm) (fun k c=>by simp [Value.ownBlock] at c),ak P hf (fun e=>o.d2 e.symm),fun k c=> .inl c,fun k c=>by simp [Value.ownBlock] at c,Fr.refl _ _,fun _ h=>h.elim⟩
 have C:=ae (vj (w0:=W1) (w:=W1) F (by rw [x];exact o) M R O ⟨_,_,_,_,_,U⟩ f g Y (by rw [x];exact l) (fun i a ha=>(World.cell?_of_block (w:=w) (w':=W1) (a:=⟨g,i,none⟩) (hf.block g l.1 l.2.2.2.1)).trans (q i a ha)) D);have g1:=(y.frame hf n).cell 0 rfl;have g2:=(z.frame hf p).cell 0 rfl;have K:Hid (∀w' st,dy I t v (.pointer (some ⟨b,0,none⟩)) L EL W kb sb Rm S W1 (fun _=>False) W1 st w'->ef G rs N Rm st->(∀a,st.E a≠0↔Reach G rs a)->zD I t v L EL W kb sb Rm S G rs N w w'):=by
  show∀w' st,_
  rintro w' st ⟨S',ad,Z,H,J,d⟩ A B;refine ⟨st,H,J,_,S',d.sp,fun k c=>by have:=d.s0 k c;rw [x] at this;exact this,d.ext,d.blk,A,B,(hf.mono (fun k c=> .inl (.inr (.inr (.inl c))))).trans d.fr (fun k c=> .inl ?_)⟩;unfold At at c;rw [x] at c;exact c
 generalize (zD I t v L EL W kb sb Rm S G rs N w)=Q at*;unfold qM at C;clear F X M R O f o c V u P l q y z p n hf U x
 go_enter Tryz.func139,Tryz.ntmps139
 go_upto_region 1 with fail
 clear j k3 f3 e1 e2;go_wp2_with fail
 refine (C.out).mono ?_;rintro e w2 ⟨rfl,st,T,A,B⟩;have hq:=K.out _ _ T A B;clear C K g1 g2 T A B;go_wp2;go_end0;exact ⟨rfl,hq⟩
def oW (I:dZ) (L:Nat->Nat) (EL:aI) (W Rm:Nat) (S:Nat->Prop) (G:Gr) (rs:List Nat) (N:Nat) (w:World) (e:Ending) (w':World):Prop:=
 ∃(st:dC) (nr nv:Int) (S':Nat->Prop),e= .returned (.tuple #[.agg #[.int .i64 (st.no:Int),.int .i64 (st.nw:Int),.int .i64 nr,.int .i64 nv],.int .i64 0])∧I L S' w'∧(∀k,S' k->S k∨w.heap.size<=k)∧bD w' EL W st.E∧ef G rs N Rm st∧(∀a,st.E a≠0↔Reach G rs a)∧Fr (fun k=>S k∨EL.has k) w w'
theorem vf (H:aX t v fl r I dom) (J:aN<w.heap.size) (j:∀k,S k->k<w.heap.size) (i:∀k,EL.has k->k<w.heap.size) {W5 W6:World} {c1:Nat} {e:Ending}
  (A:w.heap.size+2<=sb∧sb<kb∧kb<c1∧c1<W5.heap.size) (l:Fr EL.has w W5) (s:aj W5 c1 [.pointer (some ⟨kb,0,none⟩)] 223) (u:aj W5 (w.heap.size+1) [.int .i64 0,.int .i64 0,.int .i64 0,.int .i64 0] 136)
  (h:iB W5 (zD I t v L EL W kb sb Rm S G rs N) e W6):
  e= .returned (.agg #[.int .i64 0,.int .i64 0])∧∃(st:dC) (nr nv:Int) (wk:Value),aj W6 c1 [.pointer (some ⟨kb,0,none⟩)] 223∧aj W6 kb [.iface t v,.pointer (some ⟨EL.m,0,none⟩),.pointer (some ⟨sb,0,none⟩),wk,.int .i64 (st.no:Int),.int .i64 (st.nw:Int),.int .i64 nr,.int .i64 nv] 225∧aj W6 (w.heap.size+1) [.int .i64 0,.int .i64 0,.int .i64 0,.int .i64 0] 136∧
   ∀g,Fr (fun _=>False) W6 g->∀o,o=g.setCells (w.heap.size+1) 0 [.int .i64 (st.no:Int),.int .i64 (st.nw:Int),.int .i64 nr,.int .i64 nv]->aj o (w.heap.size+1) [.int .i64 (st.no:Int),.int .i64 (st.nw:Int),.int .i64 nr,.int .i64 nv] 136∧oW I L EL W Rm S G rs N w (.returned (.tuple #[.agg #[.int .i64 (st.no:Int),.int .i64 (st.nw:Int),.int .i64 nr,.int .i64 nv],.int .i64 0])) o:=by
 obtain ⟨rfl,w1,w2,p,⟨st,nr,nv,wk,S',K,B,M,O,P,Q,q⟩,d⟩:=h;have R:=p.size;have T:=l.size;have U:=q.size;have z:∀k,k<W5.heap.size->(w.heap.size<=k)->k≠kb->k≠sb->¬(S k∨EL.has k∨k=kb∨k=sb∨w1.heap.size<=k):=fun k s f u F h=>by
  rcases h with h|h|h|h|h
  ·have:=j k h;omega
  ·have:=i k h;omega
  ·exact u h
  ·exact F h
  ·omega
 have c:∀k,k<W5.heap.size->¬(W5.heap.size<=k∧k<w1.heap.size):=fun k s h=>by omega
 have C:=((s.frame p (fun h=>h)).frame q (z c1 A.2.2.2 (by omega) (by omega) (by omega))).frame d (c _ A.2.2.2);have D:=O.frame d (c _ (by omega));have y:=((u.frame p (fun h=>h)).frame q (z _ (by omega) (by omega) (by omega) (by omega))).frame d (c _ (by omega));refine ⟨rfl,st,nr,nv,wk,C,D,y,?_⟩;rintro g a o rfl;have E:=y.frame a (fun h=>h);refine ⟨(((E.set 0 _).set 1 _).set 2 _).set 3 _,st,nr,nv,S',rfl,?_,fun k n=> ?_,?_,P,Q,?_⟩
 ·have b:Fr (fun k=>(W5.heap.size<=k∧k<w1.heap.size)∨k=w.heap.size+1) w2 (g.setCells (w.heap.size+1) 0 [.int .i64 (st.no:Int),.int .i64 (st.nw:Int),.int .i64 nr,.int .i64 nv]):=
   (((((d.mono (fun k h=> .inl (.inl h))).trans a (fun _ h=>h.elim)).setCell ⟨w.heap.size+1,0,none⟩ (.inl (.inr rfl)) _).setCell ⟨w.heap.size+1,1,none⟩ (.inl (.inr rfl)) _).setCell ⟨w.heap.size+1,2,none⟩ (.inl (.inr rfl)) _).setCell ⟨w.heap.size+1,3,none⟩ (.inl (.inr rfl)) _
  refine H.stays _ _ _ _ _ K b (fun k n h=> ?_) (fun h=>by omega);rcases B k n with f|f
  ·have:=j k f;omega
  ·omega
 ·rcases B k n with f|f
  ·exact .inl f
  ·exact .inr (by omega)
 ·have b:Fr (fun k=>(W5.heap.size<=k∧k<w1.heap.size)∨k=w.heap.size+1) w2 (g.setCells (w.heap.size+1) 0 [.int .i64 (st.no:Int),.int .i64 (st.nw:Int),.int .i64 nr,.int .i64 nv]):=
   (((((d.mono (fun k h=> .inl (.inl h))).trans a (fun _ h=>h.elim)).setCell ⟨w.heap.size+1,0,none⟩ (.inl (.inr rfl)) _).setCell ⟨w.heap.size+1,1,none⟩ (.inl (.inr rfl)) _).setCell ⟨w.heap.size+1,2,none⟩ (.inl (.inr rfl)) _).setCell ⟨w.heap.size+1,3,none⟩ (.inl (.inr rfl)) _
  exact M.frame b (fun k n h=>by have:=i k n;omega)
 ·have x:=((((l.trans p (fun _ h=>h.elim)).mono (S':=fun k=>S k∨EL.has k) (fun k h=> .inl (.inr h))).trans q (fun k h=>by
   rcases h with h|h|h|h|h
   ·exact .inl (.inl h)
   ·exact .inl (.inr h)
   ·exact .inr (by omega)
   ·exact .inr (by omega)
   ·exact .inr (by omega))).trans d (fun k h=> .inr (by omega))).trans a (fun _ h=>h.elim)
  exact (((x.setCell ⟨w.heap.size+1,0,none⟩ (.inr (Nat.le_succ _)) _).setCell ⟨w.heap.size+1,1,none⟩ (.inr (Nat.le_succ _)) _).setCell ⟨w.heap.size+1,2,none⟩ (.inr (Nat.le_succ _)) _).setCell ⟨w.heap.size+1,3,none⟩ (.inr (Nat.le_succ _)) _
theorem sR (s:aX t v fl r I dom) (A:I L S w) (J:cu G rs N) (M:N<=W) (K:∀a,G.size a≠0->dL L dom G a) (p:Rm<=4096) (z:bv w) (j:∀k,EL.has k->k<w.heap.size)
  (n:∀k,S k->¬EL.has k∧k≠aN) (o:¬EL.has aN) (g D:Nat) (f:g<w.heap.size∧¬S g∧¬EL.has g) (y:∀(i a:Nat),rs[i]? =some a->w.cell? ⟨g,i,none⟩=some (.int .i64 a)) (x:rs.length<=1048576)
  {W5:World} {c1 c2:Nat} (hf:Fr EL.turns w W5) (R:bD W5 EL W (fun _=>0)) (Z:w.heap.size<=sb∧w.heap.size<=kb∧kb≠sb) (q:lZ W5 291 sb (.slice none 0 0) [] Rm 0 false)
  (d:aj W5 kb [.iface t v,.pointer (some ⟨EL.m,0,none⟩),.pointer (some ⟨sb,0,none⟩),.pointer none,.int .i64 0,.int .i64 0,.int .i64 0,.int .i64 0] 225)
  (E:aj W5 c1 [.pointer (some ⟨kb,0,none⟩)] 223) (F:aj W5 c2 [.slice (some ⟨g,0,none⟩) rs.length D] 123):
  Calls Tryz.prog 126 #[.iface t v,.func (.func 139) #[] #[.pointer (some ⟨c1,0,none⟩),.pointer (some ⟨c2,0,none⟩)]] W5 (iB W5 (zD I t v L EL W kb sb Rm S G rs N)):=by
 have l:=s.lt _ _ _ A;have V:aN<w.heap.size:=aD (z 0 0 rfl);have X:=hf.size;have u:I L S W5:=s.stays _ _ _ _ _ A hf (fun k d h=>(n k d).1 (aI.turns_has h)) (fun h=>o (aI.turns_has h));have T:=d.lt;have C:=q.1.lt;refine mM t v 139 _ (enters_of Tryz.func139 (by kernel_rfl) rfl) W5 _ (fun b w1 c Y P Q=> ?_);have U:=c.size;refine (sW s (s.keep u c) J M K p ?_ (d.frame c (fun h=>h)) (R.frame c (fun _ _ h=>h)) 0 (q.keep c (fun h=>h) (fun _ _ h=>h)) (ak (ak z hf (fun h=>o (aI.turns_has h))) c (fun h=>h)) g D ?_ ?_ x b c1 c2 (E.frame c (fun h=>h)) (F.frame c (fun h=>h))).mono ?_
 ·exact ⟨fun k d=>⟨(n k d).1,by have:=l k d;omega,by have:=l k d;omega,(n k d).2,by have:=l k d;omega⟩,fun k d=>⟨by have:=j k d;omega,by have:=j k d;omega,fun e=>o (e▸d),by have:=j k d;omega⟩,by omega,by omega,by omega,by omega,by omega,by omega⟩
 ·exact ⟨by omega,f.2.1,f.2.2,by omega,by omega⟩
 ·intro i a O;have H:=(World.cell?_of_block (w:=w) (w':=W5) (a:=⟨g,i,none⟩) (hf.block g f.1 (fun h=>f.2.2 (aI.turns_has h)))).trans (y i a O);exact (World.cell?_of_block (w:=W5) (w':=w1) (a:=⟨g,i,none⟩) (c.block g (by have:=f.1;show g<_;omega) (fun h=>h))).trans H
 ·rintro e w2 ⟨rfl,B⟩;refine ⟨rfl,B,_,fun k d=> ?_,B.choose_spec.choose_spec.choose_spec.choose_spec.choose_spec.2.2.2.2.2.2⟩;rcases d with h|h|h|h|h
  ·have:=l k h;exact .inr (.inl (by omega))
  ·have:=j k h;exact .inr (.inl (by omega))
  ·exact .inr (.inl (by omega))
  ·exact .inr (.inl (by omega))
  ·exact .inr (.inr h)
theorem gz {E0:Nat->Nat} (hs:aX t v fl r I dom) (hi:I L S w) (hG:cu G rs N) (hW:N<=W) (hO:∀a,G.size a≠0->dL L dom G a) (K:1<=Rm) (A:Rm<=4096) (U:bD w EL W E0) (hT:bv w)
  (a9:∀k,S k->¬EL.has k∧k≠aN) (bb:¬EL.has aN) (B rc:Nat) (b4:B<w.heap.size∧¬S B∧¬EL.has B) (b5:∀(i a:Nat),rs[i]? =some a->w.cell? ⟨B,i,none⟩=some (.int .i64 a)) (ck:rs.length<=1048576):
  Calls Tryz.prog 68 #[.iface t v,.slice (some ⟨B,0,none⟩) rs.length rc,.pointer (some ⟨EL.m,0,none⟩),.int .i64 Rm] w (oW I L EL W Rm S G rs N w):=by
 have ct:∀(fn:Fn) (first cap:Array Value) (w:World),(Instr.makeFunc fn first cap).run Tryz.prog w= .ok (.func fn first cap) w:=fun _ _ _ _=>rfl
 obtain ⟨j,l⟩:=U.small;have a4:=ae (fun w1 (hf:Fr (fun _=>False) w w1)=>cK (U.frame hf (fun _ _ h=>h)));have a0:=ae (fun w1=>y4 (Rm:Int) w1 (by omega) (by omega));have a5:=ae (fun w1 (hf:Fr (fun _=>False) w w1)=>sj (U.frame hf (fun _ _ h=>h)));have cf:((W:Int)==0)=false:=by rw [beq_eq_false_iff_ne];omega
 have F:=U.lt;have b6:=hs.lt _ _ _ hi;have a1:=ae (fun W5 kb sb c1 c2 (hf:Fr EL.turns w W5) (U:bD W5 EL W (fun _=>0)) (hz:w.heap.size<=sb∧w.heap.size<=kb∧kb≠sb) cn hk h1 h2=>sR (kb:=kb) (sb:=sb) (c1:=c1) (c2:=c2) (W5:=W5) hs hi hG hW hO A hT F a9 bb B rc b4 b5 ck hf U hz cn hk h1 h2);have av:=ae (fun W5 W6 kb sb c1 e hz s h1 h3 h=>vf (I:=I) (t:=t) (v:=v) (L:=L) (EL:=EL) (W:=W) (Rm:=Rm) (S:=S) (G:=G) (rs:=rs) (N:=N) (w:=w) (W5:=W5) (W6:=W6) (kb:=kb) (sb:=sb) (c1:=c1) (e:=e) hs (aD (hT 0 0 rfl)) b6 F hz s h1 h3 h);have am:=ae (fun k (h:EL.turns k)=>F k (aI.turns_has h));clear hs hi hG hW hO K A U hT a9 bb b4 b5 F b6 l
 go_enter Tryz.func68,Tryz.ntmps68
 go_upto_region 1 with fail
 obtain ⟨W1,j⟩:∃W1,(w.alloc (.cells #[.slice (some ⟨B,0,none⟩) rs.length rc] 123)).alloc (.cells #[.int .i64 0,.int .i64 0,.int .i64 0,.int .i64 0] 136)=W1:=⟨_,rfl⟩;have Z:(w.alloc (.cells #[.slice (some ⟨B,0,none⟩) rs.length rc] 123)).heap.size=w.heap.size+1:=Array.size_push _;have b7:W1.heap.size=w.heap.size+2:=by rw [<-j];exact (Array.size_push _).trans (congrArg (· +1) Z)
 have R:Fr (fun _=>False) w W1:=by rw [<-j];exact ((Fr.refl _ w).alloc _).alloc _
 have a7:aj W1 w.heap.size [.slice (some ⟨B,0,none⟩) rs.length rc] 123:=by rw [<-j];exact (aj.new w [.slice (some ⟨B,0,none⟩) rs.length rc] 123).alloc _
 have a8:aj W1 (w.heap.size+1) [.int .i64 0,.int .i64 0,.int .i64 0,.int .i64 0] 136:=by
  have h:=aj.new (w.alloc (.cells #[.slice (some ⟨B,0,none⟩) rs.length rc] 123)) [.int .i64 0,.int .i64 0,.int .i64 0,.int .i64 0] 136;rw [Z] at h;rw [<-j];exact h
 have a2:=ae (a4.out W1 R);clear Z
 go_upto_region 3 with (refine (a2.out).mono ?_;rintro e w' ⟨rfl,rfl⟩)
 clear j a4 cf;have P:=ae (af R (af a7 (af a8 b7)));have ax:=ae (a0.out W1);clear R a7 a8 b7 a2 a0;go_wp2_with fail
 refine (ax.out).mono ?_;rintro e W2 ⟨rfl,l⟩;have V:Fr (fun _=>False) W1 W2:=by rw [l];exact (Fr.refl _ _).alloc _
 have a6:aj W2 W1.heap.size [.slice none 0 0,.int .i64 Rm,.int .i64 0,.bool false] 291:=by rw [l];exact aj.new W1 _ _
 have b9:W2.heap.size=W1.heap.size+1:=by rw [l];exact Array.size_push _
 have a3:=ae (a5.out W2 (P.out.1.trans V (fun _ h=>h.elim)));have ap:=ae (af V (af a6 b9));clear l V a6 b9 a5 ax;go_wp2_with fail
 refine (a3.out).mono ?_;rintro e d ⟨rfl,bd,bj⟩;have aq:=ae (af bd bj);clear bd bj a3
 go_upto_region 8 with fail
 obtain ⟨D,o⟩:∃D,d.alloc (.cells #[.iface t v,.pointer (some ⟨EL.m,0,none⟩),.pointer (some ⟨W1.heap.size,0,none⟩),.pointer none,.int .i64 0,.int .i64 0,.int .i64 0,.int .i64 0] 225)=D:=⟨_,rfl⟩;obtain ⟨W5,p⟩:∃W5,D.alloc (.cells #[d.heap.size] 223)=W5:=⟨_,rfl⟩;have ad:D.heap.size=d.heap.size+1:=by rw [<-o];exact Array.size_push _
 have cp:W5.heap.size=d.heap.size+2:=by rw [<-p];exact (Array.size_push _).trans (congrArg (· +1) ad)
 have bo:Fr (fun _=>False) d D:=by rw [<-o];exact (Fr.refl _ _).alloc _
 have s:Fr (fun _=>False) D W5:=by rw [<-p];exact (Fr.refl _ _).alloc _
 have bs:aj D d.heap.size [.iface t v,.pointer (some ⟨EL.m,0,none⟩),.pointer (some ⟨W1.heap.size,0,none⟩),.pointer none,.int .i64 0,.int .i64 0,.int .i64 0,.int .i64 0] 225:=by rw [<-o];exact aj.new d _ _
 have T:aj W5 (d.heap.size+1) [.pointer (some ⟨d.heap.size,0,none⟩)] 223:=by rw [<-ad,<-p];exact aj.new D _ _
 rw [o,p];clear o p;obtain ⟨g1,g2,g3,g4⟩:=P.out;obtain ⟨g5,g6,g7⟩:=ap.out;obtain ⟨g8,g9⟩:=aq.out;have z1:=g1.size;have z9:=g9.size;have J:∀k,w.heap.size<=k->¬EL.turns k:=fun k h1 h=>by have:=am.out k h;omega
 have g:Fr (fun _=>False) d W5:=bo.trans s (fun _ h=>h.elim);have b1:aj W5 W1.heap.size [.slice none 0 0,.int .i64 Rm,.int .i64 0,.bool false] 291:=(g6.frame g9 (J _ (by omega))).frame g (fun h=>h);have b2:=((g2.frame g5 (fun h=>h)).frame g9 (J _ (Nat.le_refl _))).frame g (fun h=>h);have b3:=((g3.frame g5 (fun h=>h)).frame g9 (J _ (Nat.le_succ _))).frame g (fun h=>h);have bk:=bs.frame s (fun h=>h);have X:Fr EL.turns w W5:=(((g1.trans g5 (fun _ h=>h.elim)).mono (S':=EL.turns) (fun _ h=>h.elim)).trans g9 (fun k h=> .inl h)).trans g (fun _ h=>h.elim);have O:=ae (a1.out W5 d.heap.size W1.heap.size (d.heap.size+1) w.heap.size X (g8.frame g (fun _ _ h=>h)) ⟨by omega,by omega,by omega⟩ ⟨b1,World.ownsRow_nil _ _ _ _,by simp [Value.ownBlock]⟩ bk T b2);have M:=ae (fun W6 e h=>av.out W5 W6 d.heap.size W1.heap.size (d.heap.size+1) e ⟨by omega,by omega,by omega,by omega⟩ (X.mono (fun k h=> .inl (aI.turns_has h))) T b3 h);clear g1 g2 g3 g4 g5 g6 g7 g8 g9 z1 z9 J g b1 b2 b3 bk X bo s bs T ad cp P ap aq a1 av am;generalize W1.heap.size=sb at*;generalize d.heap.size=kb at*;clear W1 W2 d D;go_wp2_with fail
 refine (O.out).mono ?_;intro e W6 hp;obtain ⟨rfl,st,nr,nv,wk,q,y,z,c⟩:=M.out _ _ hp;clear hp O M;have ah:=ae (af q (af y (af z c)));clear q y z c
 go_upto_region 9 with fail
 obtain ⟨E,H⟩:∃E,W6.alloc (.cells #[.int .i64 0,.int .i64 0] 197)=E:=⟨_,rfl⟩;rw [H];obtain ⟨q,y,z,c⟩:=ah.out;have x:Fr (fun _=>False) W6 E:=by rw [<-H];exact (Fr.refl _ _).alloc _
 have b0:aj E W6.heap.size [.int .i64 0,.int .i64 0] 197:=by rw [<-H];exact aj.new W6 _ _
 have k1:=b0.cell 0 rfl;have k2:=(q.frame x (fun h=>h)).cell 0 rfl;have C:=ae (y.frame x (fun h=>h));have b:=z.frame x (fun h=>h);have HT:Hid (E.there (w.heap.size+1) 0 4):=by
  show E.there _ _ _
  intro i hi
  match i,hi with
  |0,_=>exact ⟨by rw [b.cell 0 rfl];rfl,b.free 0⟩
  |1,_=>exact ⟨by rw [b.cell 1 rfl];rfl,b.free 1⟩
  |2,_=>exact ⟨by rw [b.cell 2 rfl];rfl,b.free 2⟩
  |3,_=>exact ⟨by rw [b.cell 3 rfl];rfl,b.free 3⟩
 have cb:=ae (c E x);have Q:Hid ((Tryz.prog.info? 136).map (·.size)=some 4):=by show _=_;kernel_rfl
 clear c q y z x b0 b ah H;have cd:Hid (E.rangeAt kb 4 [.int .i64 (st.no:Int),.int .i64 (st.nw:Int),.int .i64 nr,.int .i64 nv]):=by
  show E.rangeAt _ _ _
  intro i u f
  match i,f with
  |0,f=>simp only [List.getElem?_cons_zero,Option.some.injEq] at f;subst f;exact C.out.cell 4 rfl
  |1,f=>simp only [List.getElem?_cons_zero,List.getElem?_cons_succ,Option.some.injEq] at f;subst f;exact C.out.cell 5 rfl
  |2,f=>simp only [List.getElem?_cons_zero,List.getElem?_cons_succ,Option.some.injEq] at f;subst f;exact C.out.cell 6 rfl
  |3,f=>simp only [List.getElem?_cons_zero,List.getElem?_cons_succ,Option.some.injEq] at f;subst f;exact C.out.cell 7 rfl
  |(n+4),f=>simp at f
 have cc:Hid ((#[Value.int .i64 (st.no:Int),.int .i64 (st.nw:Int),.int .i64 nr,.int .i64 nv].all (·.oneCell'))=true):=by show _=_;exact Go.all_oneCell_toArray (cs:=[.int .i64 (st.no:Int),.int .i64 (st.nw:Int),.int .i64 nr,.int .i64 nv]) (fun v hv=>by simp only [List.mem_cons,List.not_mem_nil,or_false] at hv;rcases hv with rfl|rfl|rfl|rfl<;>rfl)
 go_wp2_with (first|refine wpList_load_mid rfl 136 _ rfl kb 4 rfl [.int .i64 (st.no:Int),.int .i64 (st.nw:Int),.int .i64 nr,.int .i64 nv] _ cd.out Tryz.underlying136 rfl Q.out ?_|refine wpList_store_mid rfl 136 _ _ rfl (w.heap.size+1) 0 #[.int .i64 (st.no:Int),.int .i64 (st.nw:Int),.int .i64 nr,.int .i64 nv] rfl rfl HT.out Q.out cc.out ?_)
 obtain ⟨hq,Y⟩:=cb.out _ rfl;refine bodyPost_ret (cg rfl _ _ _ _ _ _ _ rfl hq Tryz.underlying136 rfl Q.out) rfl ?_;exact Y
end
theorem py {w:World} {L:aI} {W:Nat} {E:Nat->Nat} (h:bD w L W E) (j:bv w) (a:Nat) (x:a<=W) (i:∀s,E s≠0->s+E s<=a):Calls Tryz.prog 216 #[L.m,.int .i64 a,.int .i64 W] w fun e w'=>e= .returned (.int .i64 0)∧w=w':=by
 have t:=h.small;have l:=ae (cQ h.blk);have f:=ae (cK h);have k:=ae (eu h j a (by omega));have o:=ae (iI h j a (by omega));have c:Hid (∀e w',cr E a w e w'->e= .returned (.tuple #[.int .i64 0,.int .i64 0,.bool false])∧w=w'):=by
  show∀e w',_
  rintro e w' ⟨⟨s,n,b,g,q,_⟩|⟨_,b⟩,g⟩
  ·have:=i s (by omega);omega
  ·exact ⟨b,g⟩
 have d:Hid (∀e w',cN E W a w e w'->e= .returned (.tuple #[.int .i64 0,.int .i64 0,.bool false])∧w=w'):=by
  show∀e w',_
  intro e w' hp;rcases hp with ⟨⟨s,n,b,g,q⟩|⟨_,b⟩,g⟩
  ·have r:=bJ.1 b.2.2.1;have:=i s r;have:=b.1;omega
  ·exact ⟨b,g⟩
 have u:max (a:Int) 0=(a:Int):=by omega
 have v:min (W:Int) (W:Int)=(W:Int):=by omega
 clear h j i t
 go_enter Tryz.func216,Tryz.ntmps216
 go_wp2_with fail
 refine (l.out).mono ?_;rintro e w1 ⟨rfl,rfl⟩;go_wp2_with fail
 refine (f.out).mono ?_;rintro e w1 ⟨rfl,rfl⟩;go_wp2_with fail
 refine (k.out).mono ?_;intro e w1 hp;obtain ⟨rfl,rfl⟩:=c.out _ _ hp;clear hp;go_wp2_with fail
 refine (o.out).mono ?_;intro e w1 hp;obtain ⟨rfl,rfl⟩:=d.out _ _ hp;clear hp l f k o c d u v;go_wp2
 go_loopw [7,13] (fun n p wr=>n= .int .i64 0∧p= .bool false∧wr=w) (fun _ _ _=>0)
 case atStart=>exact ⟨rfl,rfl,by first|trivial|rfl⟩
 case round=>
  obtain ⟨rfl,rfl,rfl⟩:=hrel;go_wp2;go_ret;exact ⟨rfl,rfl⟩
def zZ (m Pg W Fs Us Hg:Nat) (mp:Nat->Bool) (L:Nat->Nat) (S:Nat->Prop) (G:Gr) (ls:List Nat) (w:World) (e:Ending) (w':World):Prop:=
 ∃(EL:aI) (E:Nat->Nat) (S':Nat->Prop),e= .returned (.tuple #[.pointer (some ⟨EL.m,0,none⟩),.int .i64 0])∧bm m Pg W Fs Us Hg mp L S' w'∧(∀k,S' k->S k∨w.heap.size<=k)∧(∀k,S' k->¬EL.has k)∧bD w' EL W E∧(∀a,E a≠0↔Reach G ls a)∧ca G ls E∧(∀k,EL.has k->w.heap.size<=k)∧Fr S w w'
theorem mH {w:World} {m b g Pg W Fs Us Hg:Nat} {S:Nat->Prop} {mp:Nat->Bool} {L:Nat->Nat} {ls:List Nat} {G:Gr} (V:bm m Pg W Fs Us Hg mp L S w) (hr:aV w b g ls) (U:bv w) (x:¬S aN) (lo top Rm:Nat) (hG:cu G ls top) (hO:∀a,G.size a≠0->dL L (aY W Pg mp) G a) (X:∀a,G.size a≠0->lo<=a) (u:top<=W) (h4:1<=Rm) (h5:Rm<=4096):
  Calls Tryz.prog 151 #[m,.pointer (some ⟨b,0,none⟩),.int .i64 lo,.int .i64 top,.int .i64 Rm] w (zZ m Pg W Fs Us Hg mp L S G ls w):=by
 have d:=aF m Pg W Fs Us Hg mp;have HW:=ae (fun w1 (S1:Nat->Prop) (am:bm m Pg W Fs Us Hg mp L S1 w1)=>cL am.choose_spec.1);obtain ⟨e1,e2,e3,e4,e5,e6,e7,e8,ad⟩:=V.choose_spec.1.at;clear e1 e2 e4 e5 e6 e7 e8;have f:=d.lt _ _ _ V;have O:=ae (gR W ad (by omega) w);have F:=ae (fun w1 (hf:Fr (fun _=>False) w w1)=>io (hr.frame hf (fun h=>h) (fun h=>h)));have ax:=hr.small;have N:=ae (fun (w1 w2:World) (EL:aI) (hf:Fr (fun _=>False) w w1) (o:∀k,EL.has k->w.heap.size<=k) (t:bD w1 EL W (fun _=>0)) (c:Fr (fun _=>False) w1 w2) C rc (ap:w1.heap.size<=C∧C<w2.heap.size) (aq:∀(i a:Nat),ls[i]? =some a->w2.cell? ⟨C,i,none⟩=some (.int .i64 a))=>
  gz (w:=w2) (Rm:=Rm) d (d.keep (d.keep V hf) c) hG u hO h4 h5 (t.frame c (fun _ _ h=>h)) (ak (ak U hf (fun h=>h)) c (fun h=>h)) (fun k B=>⟨fun h=>by have:=f k B;have:=o k h;omega,fun e=>x (e▸B)⟩) (fun h=>by have p:=o _ h;have z:aN<w.heap.size:=aD (U 0 0 rfl);omega) C rc ⟨ap.2,fun h=>by have:=f _ h;have:=hf.size;omega,fun h=>by have:=t.lt _ h;omega⟩ aq (by omega))
 have R:=ae (HW.out _ _ V);have I:Hid (∀w1 w2 w3 EL e,Fr (fun _=>False) w w1->(∀k,EL.has k->w.heap.size<=k)->bD w1 EL W (fun _=>0)->Fr (fun _=>False) w1 w2->oW (bm m Pg W Fs Us Hg mp) L EL W Rm S G ls top w2 e w3->∃(j:dC) (Y Z:Int),e= .returned (.tuple #[.agg #[.int .i64 (j.no:Int),.int .i64 (j.nw:Int),.int .i64 Y,.int .i64 Z],.int .i64 0])∧bD w3 EL W j.E∧bv w3∧(∃S',bm m Pg W Fs Us Hg mp L S' w3)∧(∀s,j.E s≠0->lo<=s∧s+j.E s<=top)∧∀w4,Fr (fun _=>False) w3 w4->zZ m Pg W Fs Us Hg mp L S G ls w (.returned (.tuple #[.pointer (some ⟨EL.m,0,none⟩),.int .i64 0])) w4):=by
  show∀w1 w2 w3 EL e,_
  rintro w1 w2 w3 EL e hf o t c ⟨j,Y,Z,S',rfl,q1,q2,q3,q4,q5,q6⟩;have z1:=hf.size;have z2:=c.size;have ah:=t.lt;have av:aN<w.heap.size:=aD (U 0 0 rfl);refine ⟨j,Y,Z,rfl,q3,ak (ak (ak U hf (fun h=>h)) c (fun h=>h)) q6 (fun h=> ?_),⟨S',q1⟩,fun s hs=> ?_,?_⟩
  ·rcases h with h|h
   ·exact x h
   ·have:=o _ h;unfold aN at av;omega
  ·have p:=q4.marked s hs;have z:G.size s≠0:=by rw [<-p.2];exact hs
   exact ⟨X s z,by rw [p.2];exact hG.top s z⟩
  ·intro w4 y;refine ⟨EL,j.E,S',rfl,d.keep q1 y,fun k B=> ?_,fun k B h=> ?_,q3.frame y (fun _ _ h=>h),q5,q4.marked,o,?_⟩
   ·rcases q2 k B with h|h
    ·exact .inl h
    ·exact .inr (by omega)
   ·rcases q2 k B with p|p
    ·have:=f k p;have:=o k h;omega
    ·have:=ah k h;omega
   ·exact ((((hf.trans c (fun _ h=>h.elim)).mono (S':=S) (fun _ h=>h.elim)).trans q6 (fun k h=>by
     rcases h with h|h
     ·exact .inl h
     ·exact .inr (o k h)))).trans y (fun _ h=>h.elim)
 clear V hr U x hG hO h4 h5 f d X
 go_enter Tryz.func151,Tryz.ntmps151
 go_wp2_with fail
 refine (R.out).mono ?_;rintro e w1 ⟨rfl,rfl⟩;clear R;go_wp2_with fail
 refine (O.out).mono ?_;rintro e w1 ⟨EL,rfl,t,o,hf⟩;have D:=ae (F.out w1 hf);clear O F;go_wp2_with fail
 refine (D.out).mono ?_;rintro e w2 ⟨C,rc,rfl,r1,r2,r3,c⟩;have M:=ae (N.out w1 w2 EL hf o t c C rc ⟨r1,r2⟩ r3);have H:=ae (fun w3 e h=>I.out w1 w2 w3 EL e hf o t c h);clear r1 r2 r3 c hf o t D N I;go_wp2_with fail
 refine (M.out).mono ?_;intro e w3 hp;obtain ⟨j,Y,Z,rfl,g1,g2,⟨S3,g3⟩,g4,g5⟩:=H.out _ _ hp;clear hp M H;have P:=ae (fun w4 (hf:Fr (fun _=>False) w3 w4)=>iI (g1.frame hf (fun _ _ h=>h)) (ak g2 hf (fun h=>h)) 0 (by omega));have K:=ae (fun w4 (hf:Fr (fun _=>False) w3 w4)=>py (g1.frame hf (fun _ _ h=>h)) (ak g2 hf (fun h=>h)) top u (fun s hs=>(g4 s hs).2));have T:=ae (fun w4 (hf:Fr (fun _=>False) w3 w4)=>HW.out w4 S3 ((aF m Pg W Fs Us Hg mp).keep g3 hf));have J:Hid (∀w4 e w5,cN j.E W 0 w4 e w5->w4=w5∧∃(s n:Int) (is:Bool),e= .returned (.tuple #[.int .i64 s,.int .i64 n,.bool is])∧(is&&decide (s<(lo:Int)))=false):=by
  show∀w4 e w5,_
  intro w4 e w5 hp;unfold cN at hp;rcases hp with ⟨⟨s,n,p,h5,h3⟩|⟨_,p⟩,z⟩
  ·have h4:=(g4 s (bJ.1 p.2.2.1)).1;exact ⟨z,_,_,_,h3,by rw [Bool.true_and,decide_eq_false_iff_not];omega⟩
  ·exact ⟨z,_,_,_,p,rfl⟩
 have HQ:=ae g5;clear g1 g2 g3 g4 g5 HW;obtain ⟨A,hA⟩:∃A,A=w3.alloc (.cells #[.int .i64 (j.no:Int),.int .i64 (j.nw:Int),.int .i64 Y,.int .i64 Z] 136):=⟨_,rfl⟩;have l:Fr (fun _=>False) w3 A:=by rw [hA];exact (Fr.refl _ _).alloc _
 have v:=ae (P.out A l);have q:=ae (K.out A l);have r:=ae (T.out A l);have Q:=ae (HQ.out A l);clear l P K T HQ;rw [show ((0:Nat):Int)=0 from rfl] at v
 go_upto_region 3 with fail
 rw [<-hA];clear hA;go_wp2_with fail
 refine (v.out).mono ?_;intro e w5 hp;obtain ⟨rfl,s,n,is,rfl,f⟩:=J.out _ _ _ hp;clear hp v J
 cases is with
 |false=>
  clear f;go_wp2_with fail
  refine (r.out).mono ?_;rintro e w6 ⟨rfl,rfl⟩;go_wp2_with fail
  refine (q.out).mono ?_;rintro e w7 ⟨rfl,rfl⟩;clear r q;go_wp2;refine bodyPost_ret (results_tmp2 rfl _ _ _) rfl ?_;exact Q.out
 |true=>
  rw [Bool.true_and,decide_eq_false_iff_not] at f;go_wp2_with fail
  refine (r.out).mono ?_;rintro e w6 ⟨rfl,rfl⟩;go_wp2_with fail
  refine (q.out).mono ?_;rintro e w7 ⟨rfl,rfl⟩;clear r q;go_wp2;refine bodyPost_ret (results_tmp2 rfl _ _ _) rfl ?_;exact Q.out
def gV (L F:Nat->Nat) (a np i:Nat):Nat:=if 1<=i∧i<=np∧L (a+i)≠0 then F (L (a+i)) else L (a+i)
def lC (L F:Nat->Nat) (a z np n:Nat):Nat->Nat:=fun k=>if z<=k∧k<z+n then gV L F a np (k-z) else L k
theorem vl (L F:Nat->Nat) (a z b:Nat):lC L F a z b 0=L:=by
 funext k;unfold lC;rw [if_neg (by omega)]
theorem vk (L F:Nat->Nat) (a z b n:Nat):bw (lC L F a z b n) (z+n) (gV L F a b n)=lC L F a z b (n+1):=by
 funext k;show (if k=z+n then gV L F a b n else if z<=k∧k<z+n then gV L F a b (k-z) else L k)=if z<=k∧k<z+(n+1) then gV L F a b (k-z) else L k
 by_cases h:k=z+n
 ·subst h;rw [if_pos rfl,if_pos (by omega),show z+n-z=n by omega]
 ·rw [if_neg h];by_cases c:z<=k∧k<z+n
  ·rw [if_pos c,if_pos (by omega)]
  ·rw [if_neg c,if_neg (by omega)]
theorem sZ (L F:Nat->Nat) {a z:Nat} (b n:Nat) (d:z<=a) {k:Nat} (c:a+n<=k):lC L F a z b n k=L k:=by
 unfold lC;rw [if_neg (by omega)]
section
variable {m Pg W Fs Us Hg:Nat} {mp:Nat->Bool} {L:Nat->Nat} {S:Nat->Prop} {w w1:World}
theorem bm.keep (h:bm m Pg W Fs Us Hg mp L S w) (hf:Fr (fun _=>False) w w1):bm m Pg W Fs Us Hg mp L S w1:=(aF m Pg W Fs Us Hg mp).keep h hf
theorem sS (h:bm m Pg W Fs Us Hg mp L S w) (a:Nat) (b:aY W Pg mp a):Calls Tryz.prog 223 #[m,.int .i64 a] w fun e w'=>e= .returned (.tuple #[.int .u64 ((L a:Nat):Int),.int .i64 0])∧Fr (fun _=>False) w w':=by
 obtain ⟨M,c,d⟩:=h;exact (dS c a b.1 b.2).mono (fun e w' ⟨f,g⟩=>⟨by rw [f,d a b],g⟩)
theorem qg (h:bm m Pg W Fs Us Hg mp L S w) (a x:Nat) (c:aY W Pg mp a) (l:x<18446744073709551616):Calls Tryz.prog 224 #[m,.int .i64 a,.int .u64 x] w fun e w'=>e= .returned (.int .i64 0)∧bm m Pg W Fs Us Hg mp (bw L a x) S w'∧Fr S w w':=by
 obtain ⟨M,d,f⟩:=h;exact (iQ d a x c.1 c.2 l).mono (fun e w' ⟨g,i,j⟩=>⟨g,⟨bw M a x,i,fun b k=>by
  unfold bw;split
  ·rfl
  ·exact f b k⟩,j⟩)
theorem fV (h:bm m Pg W Fs Us Hg mp L S w) (a p f g:Nat) (j:1<=a) (l:aY W Pg mp a) (n:dw L a p f g):Calls Tryz.prog 88 #[.iface 112 (.pointer (some ⟨m,0,none⟩)),.int .i64 a] w fun e w'=>e= .returned (.tuple #[bN p f g,.int .i64 0])∧∃S',bm m Pg W Fs Us Hg mp L S' w'∧Fr S w w'∧∀k,S' k->S k∨w.heap.size<=k:=
 (eB (aF m Pg W Fs Us Hg mp) h a p f g j l n).mono (fun _ _ ⟨b,S2,c,d,i⟩=>⟨b,S2,c,d,i⟩)
end
section
variable {m Pg W Fs Us Hg:Nat} {mp:Nat->Bool} {L:Nat->Nat} {S:Nat->Prop} {w w1:World}
def yI (m Pg W Fs Us Hg:Nat) (mp:Nat->Bool) (L:Nat->Nat) (S:Nat->Prop) (w:World) (e:Ending) (w':World):Prop:=e= .returned (.tuple #[])∧∃S':Nat->Prop,bm m Pg W Fs Us Hg mp L S' w'∧Fr S w w'∧∀k,S' k->S k∨w.heap.size<=k
def rS (m Pg W Fs Us Hg:Nat) (mp:Nat->Bool) (L:Nat->Nat) (S1:Nat->Prop) (w w3 wr:World) (S:Nat->Prop) (q:Nat) (cs:List Value):Prop:=bm m Pg W Fs Us Hg mp L S1 wr∧Fr S1 w3 wr∧Fr S w wr∧aj wr q cs 31∧¬S1 q∧∀k,S1 k->S k∨w.heap.size<=k
theorem rS.Fh {a:Nat->Prop} {w3 wr:World} {q:Nat} {cs:List Value} (h:rS m Pg W Fs Us Hg mp L a w w3 wr S q cs) (hf:Fr (fun _=>False) wr w1):rS m Pg W Fs Us Hg mp L a w w3 w1 S q cs:=
 ⟨h.1.keep hf,h.2.1.trans hf (fun _ h=>h.elim),h.2.2.1.trans hf (fun _ h=>h.elim),h.2.2.2.1.frame hf (fun h=>h),h.2.2.2.2⟩
theorem rS.put {b:Nat->Nat} {a:Nat->Prop} {w3 wr:World} {q:Nat} {cs:List Value} (h:rS m Pg W Fs Us Hg mp L a w w3 wr S q cs) (d:bm m Pg W Fs Us Hg mp b a w1) (hf:Fr a wr w1):rS m Pg W Fs Us Hg mp b a w w3 w1 S q cs:=
 ⟨d,h.2.1.trans hf (fun _ h=> .inl h),h.2.2.1.trans hf (fun k c=>h.2.2.2.2.2 k c),h.2.2.2.1.frame hf h.2.2.2.2.1,h.2.2.2.2⟩
theorem tj {lo hi p k Ba:Nat} {E:Nat->Nat} (h:bm m Pg W Fs Us Hg mp L S w) (hF:cJ lo hi w p W k E Ba) (a3:∀j,S j->j<lo∨hi<=j) (hb:Ba<=1048576) (a n z b u v:Nat) (ha:1<=a) (ho:dw L a b u v) (hn:n=1+(b+u+v)) (hE:E a=n) (hz:goes E Ba a=z) (bj:z<=a) (b3:a+n<=W) (hW:W<=524288)
  (hd:∀j,a<=j->j<a+n->aY W Pg mp j∧L j<18446744073709551616) (a4:∀j,z<=j->j<z+n->aY W Pg mp j) (hp:∀i,1<=i->i<=b->L (a+i)≠0->ai E (L (a+i))=true∧L (a+i)<W):
  Calls Tryz.prog 155 #[m,.pointer (some ⟨p,0,none⟩),.int .i64 a,.int .i64 n] w (yI m Pg W Fs Us Hg mp (lC L (goes E Ba) a z b n) S w):=by
 have hN:b+u+v<256:=by have:=ho.2;unfold bl at this;omega
 have cb:∀j,S j->j<w.heap.size:=fun j hj=>(aF m Pg W Fs Us Hg mp).lt _ _ _ h j hj
 have av:=ae (fV h a b u v ha (hd a (Nat.le_refl _) (by omega)).1 ho);have T:=ae (fun (w1:World) (x:Nat) (hf:Fr S w w1) (hx:ai E x=true) (bd:x<W)=>mm (hF.frame hf a3) hb x hx bd);have bb:ai E a=true:=by have:=ic (E:=E) (s:=a) (i:=0) (by omega);rwa [Nat.add_zero] at this
 have U:=ae (fun w1 hf=>T.out w1 a hf bb (by omega));rw [hz] at U;have M:=ae (fun (i:Int) w1=>iN b u v i ho.2 w1);have b0:=ae (fun (l:Nat->Prop) w3 q cs i wr (V:i<n) (A:rS m Pg W Fs Us Hg mp (lC L (goes E Ba) a z b i) l w w3 wr S q cs)=>(sS A.1 (a+i) (hd _ (by omega) (by omega)).1).mono (fun e w' ⟨d,r⟩=>(⟨by rw [d,sZ L _ b i bj (Nat.le_refl _)],A.Fh r⟩:e=Ending.returned (.tuple #[.int .u64 ((L (a+i):Nat):Int),.int .i64 0])∧rS m Pg W Fs Us Hg mp (lC L (goes E Ba) a z b i) l w w3 w' S q cs)));have a6:∀i,i<n->gV L (goes E Ba) a b i<18446744073709551616:=by
  intro i V;unfold gV;split
  ·rename_i hc;have d:=hp i hc.1 hc.2.1 hc.2.2;have r:=ch (ai E) (L (a+i));unfold goes;omega
  ·exact (hd _ (by omega) (by omega)).2
 have R:=ae (fun (l:Nat->Prop) w3 q cs i wr (V:i<n) (A:rS m Pg W Fs Us Hg mp (lC L (goes E Ba) a z b i) l w w3 wr S q cs)=>(qg A.1 (z+i) (gV L (goes E Ba) a b i) (a4 _ (by omega) (by omega)) (a6 i V)).mono (fun e w' ⟨d,r,h3⟩=>(⟨d,by rw [vk] at r;exact A.put r h3⟩:e=Ending.returned (.int .i64 0)∧rS m Pg W Fs Us Hg mp (lC L (goes E Ba) a z b (i+1)) l w w3 w' S q cs)));have am:∀i:Nat,1<=i->i<=b->bK b u v ((i:Int)-1)=1:=fun i d r=>by
  unfold bK;rw [co,if_pos ho.2,if_neg (by omega),if_pos (by omega)]
 have ah:∀i:Nat,¬(1<=i∧i<=b)->¬bK b u v ((i:Int)-1)=1:=fun i d=>by
  unfold bK;split
  ·decide
  ·rw [if_neg (by omega)];split<;>decide
 have bs:=ae (fun (i:Nat) w1 (d:1<=i) (r:i<=b)=>by have:=M.out ((i:Int)-1) w1;rw [am i d r] at this;exact this);have bo:=ae (fun (i:Nat) w1 (d:¬(1<=i∧i<=b))=>(⟨_,ah i d,M.out ((i:Int)-1) w1⟩:∃K:Int,¬K=1∧Calls Tryz.prog 195 #[bN b u v,.int .i64 ((i:Int)-1)] w1 (d8 w1 K)));have b2:=ae (fun (w1:World) (i:Nat) (hf:Fr S w w1) (d:1<=i∧i<=b) (r:L (a+i)≠0)=>T.out w1 (L (a+i)) hf (hp i d.1 d.2 r).1 (hp i d.1 d.2 r).2);have b1:=ae (fun (i:Nat) (d:1<=i∧i<=b) (r:L (a+i)≠0)=>(hp i d.1 d.2 r).2);have bk:=ae (fun (i:Nat) (d:1<=i∧i<=b) (r:L (a+i)≠0)=>(show goes E Ba (L (a+i))<=2097152 from by
  have h3:=(hp i d.1 d.2 r).2;have h4:=ch (ai E) (L (a+i));unfold goes;omega))
 have P:Hid ((Tryz.prog.info? 31).map (·.size)=some 3):=by show _=_;kernel_rfl
 have ad:Hid (∀l w3 wr q cs,rS m Pg W Fs Us Hg mp (lC L (goes E Ba) a z b n) l w w3 wr S q cs->yI m Pg W Fs Us Hg mp (lC L (goes E Ba) a z b n) S w (.returned (.tuple #[])) wr):=by
  show∀l w3 wr q cs,_
  exact fun l w3 wr q cs A=>⟨rfl,l,A.1,A.2.2.1,A.2.2.2.2.2⟩
 have b4:n<=256:=by omega
 have ct:z<=1048576:=by omega
 have b6:a<=1048576:=by omega
 have a9:=(fun S2 (w2:World) (r:bm m Pg W Fs Us Hg mp L S2 w2)=>(aF m Pg W Fs Us Hg mp).lt _ _ _ r);have aq:=ae a9;unfold d8 at*;generalize (yI m Pg W Fs Us Hg mp (lC L (goes E Ba) a z b n) S w)=Q at*;clear h hF a3 hb ho hn hE hz bj b3 hd a4 hp hN bb M am ah a6 a9 T;unfold bN at*
 go_enter Tryz.func155,Tryz.ntmps155
 go_wp2_with fail
 refine (av.out).mono ?_;rintro e J ⟨rfl,l,g1,g2,g3⟩;have hH:∀D,D=J.alloc (.cells #[.int .i64 b,.int .i64 u,.int .i64 v] 31)->rS m Pg W Fs Us Hg mp (lC L (goes E Ba) a z b 0) l w D D S J.heap.size [.int .i64 b,.int .i64 u,.int .i64 v]:=by
  rintro D rfl;have hf:Fr (fun _=>False) J (J.alloc (.cells #[.int .i64 b,.int .i64 u,.int .i64 v] 31)):=(Fr.refl _ _).alloc _;exact ⟨by rw [vl];exact g1.keep hf,Fr.refl _ _,g2.trans hf (fun _ h=>h.elim),aj.new J _ _,fun h=>by have:=aq.out _ _ g1 _ h;omega,g3⟩
 have HH:=ae hH;clear g1 g2 g3 hH av aq
 go_upto_region 1 with fail
 have H:=HH.out _ rfl;generalize J.alloc (.cells #[.int .i64 b,.int .i64 u,.int .i64 v] 31)=D at*;have ax:=ae (U.out D H.2.2.1);have H0:=ae H;clear H HH U;generalize J.heap.size=q at*;clear J;go_wp2_with fail
 refine (ax.out).mono ?_;rintro e w4 ⟨rfl,a5⟩;have H1:=ae (H0.out.Fh a5);clear a5 H0 ax;go_wp2
 go_loopw [31] (fun x wr=>∃(i:Nat),x= .int .i64 i∧i<=n∧Hid (rS m Pg W Fs Us Hg mp (lC L (goes E Ba) a z b i) l w D wr S q [.int .i64 b,.int .i64 u,.int .i64 v])) (fun x _=>(n-intOf x).toNat)
 case atStart=>exact ⟨0,rfl,by omega,H1⟩
 case round=>
  clear H1;obtain ⟨i,rfl,d,A⟩:=hrel;by_cases I:i<n
  ·have b5:(i:Int)<(n:Int):=by omega
   have cc:IntKind.i64.wrap ((a:Int)+(i:Int))=(a:Int)+(i:Int):=by rw [IntKind.wrap_i64];omega
   have cd:IntKind.i64.wrap ((i:Int)-1)=(i:Int)-1:=by rw [IntKind.wrap_i64];omega
   have cf:IntKind.i64.wrap ((z:Int)+(i:Int))=(z:Int)+(i:Int):=by rw [IntKind.wrap_i64];omega
   have N:=b0.out l D q _ i wr I A.out;rw [show ((a+i:Nat):Int)=(a:Int)+(i:Int) by push_cast;rfl] at N;have ap:=ae N;clear N A;go_wp2_with fail
   refine (ap.out).mono ?_;rintro e w5 ⟨rfl,Z⟩;have B:=ae Z.2.2.2.1;have C:=ae Z;clear Z ap;by_cases c:1<=i∧i<=b
   ·have y:=ae (bs.out i w5 c.1 c.2);by_cases H:L (a+i)=0
    ·rw [H];go_wp2_with (refine wpList_load_row rfl 31 _ rfl q rfl 31 #[.int .i64 b,.int .i64 u,.int .i64 v] _ _ B.out Tryz.underlying31 rfl P.out ?_)
     refine (y.out).mono ?_;rintro e w6 ⟨rfl,f⟩;have g:=R.out l D q _ i w6 I (C.out.Fh f);rw [show ((z+i:Nat):Int)=(z:Int)+(i:Int) by push_cast;rfl,show gV L (goes E Ba) a b i=0 by unfold gV;rw [if_neg (fun hh=>hh.2.2 H),H],show ((0:Nat):Int)=0 from rfl] at g;have o:=ae g;clear g f C B y;go_wp2_with fail
     refine (o.out).mono ?_;rintro e w7 ⟨rfl,t⟩;have F:=ae t;clear t o;go_wp2;go_roundw
     case rel=>exact ⟨i+1,by go_num,by omega,F⟩
     case measure=>simp [intOf];omega
    ·have bd:=b1.out i c H;have a0:=ae (fun w6 hf=>b2.out w6 i hf c H);have a7:gV L (goes E Ba) a b i=goes E Ba (L (a+i)):=by unfold gV;rw [if_pos ⟨c.1,c.2,H⟩]
     have b7:goes E Ba (L (a+i))<=2097152:=bk.out i c H;have G:=ae (fun w6 h=>R.out l D q [.int .i64 b,.int .i64 u,.int .i64 v] i w6 I h);rw [show ((z+i:Nat):Int)=(z:Int)+(i:Int) by push_cast;rfl,a7] at G;have ck:¬((L (a+i):Nat):Int)=0:=by omega
     have cn:IntKind.i64.wrap ((L (a+i):Nat):Int)=((L (a+i):Nat):Int):=by rw [IntKind.wrap_i64];omega
     have cp:IntKind.u64.wrap ((goes E Ba (L (a+i)):Nat):Int)=((goes E Ba (L (a+i)):Nat):Int):=by rw [IntKind.wrap_u64];omega
     clear a7;generalize goes E Ba (L (a+i))=Y at*;generalize L (a+i)=X at*;go_wp2_with (refine wpList_load_row rfl 31 _ rfl q rfl 31 #[.int .i64 b,.int .i64 u,.int .i64 v] _ _ B.out Tryz.underlying31 rfl P.out ?_)
     refine (y.out).mono ?_;rintro e w6 ⟨rfl,f⟩;have O:=ae (C.out.Fh f);have a1:=ae (a0.out w6 O.out.2.2.1);clear f C B y a0;go_wp2_with fail
     refine (a1.out).mono ?_;rintro e cx ⟨rfl,f⟩;have g:=G.out _ (O.out.Fh f);have o:=ae g;clear g f O a1 G;go_wp2_with fail
     refine (o.out).mono ?_;rintro e w7 ⟨rfl,t⟩;have F:=ae t;clear t o;go_wp2;go_roundw
     case rel=>exact ⟨i+1,by go_num,by omega,F⟩
     case measure=>simp [intOf];omega
   ·obtain ⟨K,hK,a2⟩:=bo.out i w5 c;have y:=ae a2;clear a2;go_wp2_with (refine wpList_load_row rfl 31 _ rfl q rfl 31 #[.int .i64 b,.int .i64 u,.int .i64 v] _ _ B.out Tryz.underlying31 rfl P.out ?_)
    refine (y.out).mono ?_;rintro e w6 ⟨rfl,f⟩;have g:=R.out l D q _ i w6 I (C.out.Fh f);rw [show ((z+i:Nat):Int)=(z:Int)+(i:Int) by push_cast;rfl,show gV L (goes E Ba) a b i=L (a+i) by unfold gV;rw [if_neg (fun hh=>c ⟨hh.1,hh.2.1⟩)]] at g;have o:=ae g;clear g f C B y;go_wp2_with fail
    refine (o.out).mono ?_;rintro e w7 ⟨rfl,t⟩;have F:=ae t;clear t o;go_wp2;go_roundw
    case rel=>exact ⟨i+1,by go_num,by omega,F⟩
    case measure=>simp [intOf];omega
  ·have a8:i=n:=by omega
   have b9:¬(i:Int)<(n:Int):=by omega
   have HQ:=ae (ad.out l D wr q _ (by rw [a8] at A;exact A.out));clear A d I a8;go_wp2;go_end0;exact HQ.out
end
theorem xS {lo m:Nat} {w:World} {p W k Ba:Nat} {E:Nat->Nat} (f:cJ lo m w p W k E Ba) (h:Ba<=1048576) (c a:Nat) (i:aj w c [.pointer (some ⟨p,0,none⟩)] 235) (g:ai E a=true) (b:a<W):
  Calls Tryz.prog 156 #[.int .i64 a,.pointer (some ⟨c,0,none⟩)] w fun e w'=>e= .returned (.int .i64 ((goes E Ba a:Nat):Int))∧Fr (fun _=>False) w w':=by
 have d:=ae (mm f h a g b);have l:=i.cell 0 rfl;generalize goes E Ba a=Y at*;clear f h i g b
 go_enter Tryz.func156,Tryz.ntmps156
 go_wp2_with fail
 refine (d.out).mono ?_;rintro e w1 ⟨rfl,hf⟩;have j:=ae hf;clear hf d l;go_wp2;go_ret;exact ⟨rfl,j.out⟩
structure yn (L F:Nat->Nat) (np:Nat->Nat) (go:Nat->Nat) (pre:List (Nat×Nat)) (M:Nat->Nat):Prop where
 went:∀x∈pre,∀i,i<x.2->M (go x.1+i)=gV L F x.1 (np x.1) i
 still:∀k,(∀x∈pre,x.1+x.2<=k)->M k=L k
theorem yn.none (L F b a:Nat->Nat):yn L F b a [] L:=⟨fun _ h=>absurd h (List.not_mem_nil),fun _ _=>rfl⟩
theorem yn.step {L F d c M:Nat->Nat} {b:List (Nat×Nat)} {x:Nat×Nat} (h:yn L F d c b M) (g:∀y∈b,y.1+y.2<=x.1) (j:∀y∈b,c y.1+y.2<=c x.1) (n:c x.1<=x.1):
  yn L F d c (b++[x]) (lC M F x.1 (c x.1) (d x.1) x.2):=by
 have m:∀i,M (x.1+i)=L (x.1+i):=fun i=>h.still _ (fun y a=>by have:=g y a;omega)
 constructor
 ·intro y a i e;rcases List.mem_append.1 a with a|a
  ·have l:=j y a;unfold lC;rw [if_neg (by omega)];exact h.went y a i e
  ·rw [List.mem_singleton.1 a] at e ⊢;unfold lC;rw [if_pos (by omega),show c x.1+i-c x.1=i by omega];unfold gV;rw [m]
 ·intro k f;have l:=f x (List.mem_append_right _ (List.mem_singleton.2 rfl));unfold lC;rw [if_neg (by omega)];exact h.still k (fun y a=>f y (List.mem_append_left _ a))
end Go.Proofs.YthahbijbpinneaaGreatDoor
