import Derived.Test.YthahbijbpinneaaGreatDoorA2
import Derived.Test.YthahbijbpinneaaGreatDoorA3
import Derived.Test.YthahbijbpinneaaGreatDoorA4
import Derived.Test.YthahbijbpinneaaGreatDoorA8
import Derived.Maps.OwnIn
set_option maxRecDepth 100000
set_option maxHeartbeats 8000000
set_option linter.all false
namespace Go.Proofs.YthahbijbpinneaaGreatDoor
open Go.RowKit
structure dC where
 E:Nat->Nat
 xs:List Nat
 lost:Bool
 no:Nat
 nw:Nat
def aN:Nat:=1
structure tV (EL:aI) (kb sb n0:Nat) (S0:Nat->Prop):Prop where
 s:∀k,S0 k->¬EL.has k∧k≠kb∧k≠sb∧k≠aN∧k<n0
 e:∀k,EL.has k->k≠kb∧k≠sb∧k≠aN∧k<n0
 k1:kb<n0
 s1:sb<n0
 t1:aN<n0
 d1:kb≠sb
 d2:kb≠aN
 d3:sb≠aN
def At (EL:aI) (kb sb n0:Nat) (S0:Nat->Prop) (k:Nat):Prop:=S0 k∨EL.has k∨k=kb∨k=sb∨n0<=k
structure fb (I:dZ) (t:TypeId) (v wk:Value) (L:Nat->Nat) (EL:aI) (W kb sb Rm:Nat) (S0:Nat->Prop) (w0:World) (PB:Nat->Prop) (wp:World) (S:Nat->Prop) (sv:Value) (Hg nr nv:Int) (st:dC) (w:World):Prop where
 sp:I L S w
 blk:aj w kb [.iface t v,.pointer (some ⟨EL.m,0,none⟩),.pointer (some ⟨sb,0,none⟩),wk,.int .i64 (st.no:Int),.int .i64 (st.nw:Int),.int .i64 nr,.int .i64 nv] 225
 ext:bD w EL W st.E
 stk:lZ w 291 sb sv (st.xs.map Int.ofNat) Rm Hg st.lost
 tab:bv w
 s0:∀k,S k->S0 k∨w0.heap.size<=k
 sv0:∀k,sv.ownBlock=some k->w0.heap.size<=k∧¬S k
 fr:Fr (At EL kb sb w0.heap.size S0) w0 w
 prot:∀k,PB k->w0.heap.size<=k∧k<w.heap.size∧¬S k∧sv.ownBlock≠some k∧w.heap[k]? =wp.heap[k]?
def dy (I:dZ) (t:TypeId) (v wk:Value) (L:Nat->Nat) (EL:aI) (W kb sb Rm:Nat) (S0:Nat->Prop) (w0:World) (PB:Nat->Prop) (wp:World) (st:dC) (w:World):Prop:=
 ∃S sv Hg nr nv,fb I t v wk L EL W kb sb Rm S0 w0 PB wp S sv Hg nr nv st w
section
variable {I:dZ} {t:TypeId} {v wk:Value} {L:Nat->Nat} {EL:aI} {W kb sb Rm:Nat} {S0:Nat->Prop} {w0:World} {PB:Nat->Prop} {wp:World} {S S1:Nat->Prop} {sv sv1:Value} {Hg high1 nr nv:Int} {st:dC} {w w1:World} {fl:Nat} {r:Value} {dom:Nat->Prop}
theorem fb.size (h:fb I t v wk L EL W kb sb Rm S0 w0 PB wp S sv Hg nr nv st w):w0.heap.size<=w.heap.size:=h.fr.size
theorem fb.svlt (h:fb I t v wk L EL W kb sb Rm S0 w0 PB wp S sv Hg nr nv st w):∀k,sv.ownBlock=some k->k<w.heap.size:=fun k a=>(h.stk.2.1.lt k a).2
theorem lZ.keep {T:Nat->Prop} {a:TypeId} {b:Nat} {xs:List Int} {Rm Hg:Int} {lost:Bool} (h:lZ w a b sv xs Rm Hg lost) (hf:Fr T w w1) (c:¬T b) (d:∀k,sv.ownBlock=some k->¬T k):lZ w1 a b sv xs Rm Hg lost:=
 ⟨h.1.frame hf c,bp h.2.1 hf d,h.2.2⟩
theorem fb.sp_ (c:tV EL kb sb w0.heap.size S0) (h:fb I t v wk L EL W kb sb Rm S0 w0 PB wp S sv Hg nr nv st w) (hp:dz I L S w w1):dy I t v wk L EL W kb sb Rm S0 w0 PB wp st w1:=by
 obtain ⟨S1,u,d,i⟩:=hp;have m:=h.size;have g:∀k,k<w0.heap.size->¬S0 k->¬S k:=fun k a l f=>by
  rcases h.s0 k f with h|h
  ·exact l h
  ·omega
 refine ⟨S1,sv,Hg,nr,nv,u,h.blk.frame d (g _ c.k1 (fun e=>(c.s _ e).2.1 rfl)),h.ext.frame d (fun k a=>g k (c.e k a).2.2.2 (fun e=>(c.s _ e).1 a)),h.stk.keep d (g _ c.s1 (fun e=>(c.s _ e).2.2.1 rfl)) (fun k a=>(h.sv0 k a).2),ak h.tab d (g _ c.t1 (fun e=>(c.s _ e).2.2.2.1 rfl)),fun k a=> ?_,fun k a=>⟨(h.sv0 k a).1,fun f=> ?_⟩,h.fr.trans d (fun k a=> .inl ?_),fun k a=> ?_⟩
 ·rcases i k a with b|b
  ·exact h.s0 k b
  ·exact .inr (by omega)
 ·rcases i k f with b|b
  ·exact (h.sv0 k a).2 b
  ·have:=h.svlt k a;omega
 ·rcases h.s0 k a with b|b
  ·exact .inl b
  ·exact .inr (.inr (.inr (.inr b)))
 ·obtain ⟨n,o,j,p,q⟩:=h.prot k a;have:=d.size;exact ⟨n,by omega,fun f=>by rcases i k f with b|b;exact j b;omega,p,(d.block k o j).trans q⟩
theorem dy.Fh (b:aX t v fl r I dom) (a:tV EL kb sb w0.heap.size S0) (h:dy I t v wk L EL W kb sb Rm S0 w0 PB wp st w) (hf:Fr (fun _=>False) w w1):dy I t v wk L EL W kb sb Rm S0 w0 PB wp st w1:=by
 obtain ⟨S,sv,Hg,nr,nv,h⟩:=h;exact h.sp_ a (b.Fh h.sp hf)
theorem fb.ext_ (i:aX t v fl r I dom) (a:tV EL kb sb w0.heap.size S0) (h:fb I t v wk L EL W kb sb Rm S0 w0 PB wp S sv Hg nr nv st w) {c:Nat->Nat} (g:bD w1 EL W c) (hf:Fr EL.turns w w1):dy I t v wk L EL W kb sb Rm S0 w0 PB wp {st with E:=c} w1:=by
 have j:=h.size;refine ⟨S,sv,Hg,nr,nv,i.stays _ _ _ _ _ h.sp hf (fun k b e=> ?_) (fun e=>(a.e _ (aI.turns_has e)).2.2.1 rfl),h.blk.frame hf (fun e=>(a.e _ (aI.turns_has e)).1 rfl),g,h.stk.keep hf (fun e=>(a.e _ (aI.turns_has e)).2.1 rfl) (fun k b e=> ?_),ak h.tab hf (fun e=>(a.e _ (aI.turns_has e)).2.2.1 rfl),h.s0,h.sv0,h.fr.trans hf (fun k b=> .inl (.inr (.inl (aI.turns_has b)))),fun k b=> ?_⟩
 ·have f:=a.e k (aI.turns_has e);rcases h.s0 k b with d|d
  ·exact (a.s k d).1 (aI.turns_has e)
  ·omega
 ·have f:=a.e k (aI.turns_has e);have:=(h.sv0 k b).1;omega
 ·obtain ⟨l,m,n,o,p⟩:=h.prot k b;have:=hf.size;exact ⟨l,by omega,n,o,(hf.block k m (fun e=>by have:=(a.e k (aI.turns_has e)).2.2.2;omega)).trans p⟩
theorem fb.stk_ (i:aX t v fl r I dom) (b:tV EL kb sb w0.heap.size S0) (h:fb I t v wk L EL W kb sb Rm S0 w0 PB wp S sv Hg nr nv st w) {xs:List Nat} {lost:Bool} (m:lZ w1 291 sb sv1 (xs.map Int.ofNat) Rm high1 lost) (hf:Fr (fun k=>k=sb∨sv.ownBlock=some k) w w1) (j:∀k,sv1.ownBlock=some k->sv.ownBlock=some k∨w.heap.size<=k):dy I t v wk L EL W kb sb Rm S0 w0 PB wp {st with xs:=xs,lost:=lost} w1:=by
 have n:=h.size;have d:∀k,k<w0.heap.size->k≠sb->¬(k=sb∨sv.ownBlock=some k):=fun k a f e=>by
  rcases e with e|e
  ·exact f e
  ·have:=(h.sv0 k e).1;omega
 refine ⟨S,sv1,high1,nr,nv,i.stays _ _ _ _ _ h.sp hf (fun k a e=> ?_) (d _ b.t1 (Ne.symm b.d3)),h.blk.frame hf (d _ b.k1 b.d1),h.ext.frame hf (fun k a=>d k (b.e k a).2.2.2 (b.e k a).2.1),m,ak h.tab hf (d _ b.t1 (Ne.symm b.d3)),h.s0,fun k a=> ?_,h.fr.trans hf (fun k a=> .inl ?_),fun k a=> ?_⟩
 ·rcases e with rfl|e
  ·rcases h.s0 _ a with c|c
   ·exact (b.s _ c).2.2.1 rfl
   ·have:=b.s1;omega
  ·exact (h.sv0 k e).2 a
 ·rcases j k a with e|e
  ·exact h.sv0 k e
  ·exact ⟨by omega,fun c=>by have:=i.lt _ _ _ h.sp k c;omega⟩
 ·rcases a with e|e
  ·exact .inr (.inr (.inr (.inl e)))
  ·exact .inr (.inr (.inr (.inr (h.sv0 k e).1)))
 ·obtain ⟨o,p,q,l,u⟩:=h.prot k a;have:=hf.size;exact ⟨o,by omega,q,fun e=>by rcases j k e with g|g;exact l g;omega,(hf.block k p (fun e=>by rcases e with e|e;have:=b.s1;omega;exact l e)).trans u⟩
theorem fb.cells_ (f:aX t v fl r I dom) (b:tV EL kb sb w0.heap.size S0) (h:fb I t v wk L EL W kb sb Rm S0 w0 PB wp S sv Hg nr nv st w) {no nw:Nat} {nr1 nv1:Int} (d:aj w1 kb [.iface t v,.pointer (some ⟨EL.m,0,none⟩),.pointer (some ⟨sb,0,none⟩),wk,.int .i64 no,.int .i64 nw,.int .i64 nr1,.int .i64 nv1] 225) (hf:Fr (fun k=>k=kb) w w1):fb I t v wk L EL W kb sb Rm S0 w0 PB wp S sv Hg nr1 nv1 {st with no:=no,nw:=nw} w1:=by
 have g:=h.size;refine ⟨f.stays _ _ _ _ _ h.sp hf (fun k a e=> ?_) (fun e=>b.d2 e.symm),d,h.ext.frame hf (fun k a e=>(b.e k a).1 e),h.stk.keep hf (fun e=>b.d1 e.symm) (fun k a e=> ?_),ak h.tab hf (fun e=>b.d2 e.symm),h.s0,h.sv0,h.fr.trans hf (fun k a=> .inl (.inr (.inr (.inl a)))),fun k a=> ?_⟩
 ·subst e;rcases h.s0 _ a with c|c
  ·exact (b.s _ c).2.1 rfl
  ·have:=b.k1;omega
 ·have:=(h.sv0 k a).1;have:=b.k1;omega
 ·obtain ⟨i,j,l,n,o⟩:=h.prot k a;have:=hf.size;exact ⟨i,by omega,l,n,(hf.block k j (fun e=>by have:=b.k1;omega)).trans o⟩
end
theorem j7 (k:Value) (w:World):Calls Tryz.prog 248 #[k,.bool true] w fun e w'=>e= .returned (.tuple #[])∧w=w':=by
 go_enter Tryz.func248,Tryz.ntmps248
 go_wp2;go_end0;exact ⟨rfl,rfl⟩
def bI (G:Gr) (Rm:Nat) (st:dC) (a:Nat):dC:=
 if a=0∨st.E a≠0 then st else
  {E:=br st.E a (G.size a),xs:=if st.xs.length<Rm then st.xs++[a] else st.xs,lost:=if st.xs.length<Rm then st.lost else true,no:=st.no+1,nw:=st.nw+G.size a}
def dL (L:Nat->Nat) (dom:Nat->Prop) (G:Gr) (a:Nat):Prop:=
 ∃p f g,dw L a p f g∧G.size a=1+(p+f+g)∧G.ptrs a=(List.range p).map (fun i=>L (a+1+i))∧(∀k,a<=k->k<a+G.size a->dom k)∧∀i,i<p->L (a+1+i)<2147483648
def iy (I:dZ) (t:TypeId) (v wk:Value) (L:Nat->Nat) (EL:aI) (W kb sb Rm:Nat) (S0:Nat->Prop) (w0:World) (PB:Nat->Prop) (wp:World) (st:dC) (e:Ending) (w':World):Prop:=e= .returned (.tuple #[])∧dy I t v wk L EL W kb sb Rm S0 w0 PB wp st w'
section
variable {I:dZ} {t:TypeId} {v wk:Value} {L:Nat->Nat} {EL:aI} {W kb sb Rm:Nat} {S0:Nat->Prop} {w0:World} {PB:Nat->Prop} {wp:World} {S S1:Nat->Prop} {sv sv1:Value} {Hg high1 nr nv:Int} {st:dC} {w w1:World} {fl:Nat} {r:Value} {dom:Nat->Prop} {G:Gr} {rs:List Nat} {N:Nat}
theorem qh (R:aX t v fl r I dom) (J:tV EL kb sb w0.heap.size S0) (hG:cu G rs N) (hW:N<=W) (hO:∀a,G.size a≠0->dL L dom G a) (h:dy I t v wk L EL W kb sb Rm S0 w0 PB wp st w) (hm:ca G rs st.E) (a:Nat) (ha:a≠0) (hr:Reach G rs a) (U:st.E a=0) (a9:st.no<=1048576) (bb:st.nw<=1048576) (P:Rm<=4096):
  Calls Tryz.prog 203 #[kb,.int .i64 a] w (iy I t v wk L EL W kb sb Rm S0 w0 PB wp (bI G Rm st a)):=by
 have u:=hG.reach hr;obtain ⟨p,f,g,o1,o2,o3,o4,o5⟩:=hO a u;have a2:=hG.top a u;have b:=hm.Rm hG u U;obtain ⟨S,sv,Hg,nr,nv,z⟩:=h;have a6:=z.ext.small.2;have HF:=ae (eu z.ext z.tab a (by omega));have m:∀e w',cr st.E a w e w'->e= .returned (.tuple #[.int .i64 0,.int .i64 0,.bool false])∧w=w':=by
  rintro e w' ⟨⟨s,n,h1,h2,h3,_⟩|⟨_,h1⟩,h2⟩
  ·have:=b.1 s h1;omega
  ·exact ⟨h1,h2⟩
 have ad:=ae m;have k0:=z.blk.cell 0 rfl;have k1:=z.blk.cell 1 rfl;have H:=ae (eB R z.sp a p f g (by omega) (o4 a (Nat.le_refl _) (by omega)) o1);have ap:=ae (fun w1 (hp:dz I L S w w1)=>z.sp_ J hp);have D:=ae (fun w1 w2 (c:dy I t v wk L EL W kb sb Rm S0 w0 PB wp st w1) (hf:Fr (fun _=>False) w1 w2)=>c.Fh R J hf);have F:=ae (fun w1=>j7 (.pointer (some ⟨kb,0,none⟩)) w1);have i:=ae (fun w1=>dj p f g w1);have A:co p f g=((1+(p+f+g):Nat):Int):=by rw [co,if_pos o1.2];push_cast;omega
 rw [A] at i;obtain ⟨n,hn⟩:∃n,1+(p+f+g)=n:=⟨_,rfl⟩;rw [hn] at i o2;have X:=ae (fun w1 S sv Hg nr nv (c:fb I t v wk L EL W kb sb Rm S0 w0 PB wp S sv Hg nr nv st w1)=>(rh c.ext c.tab a n (by omega) (by omega) b.1 (fun s h1 h2=>by have:=b.2 s h1 h2;omega)).mono (fun e w2 ⟨q1,q2,q3⟩=>(⟨q1,c.ext_ R J q2 q3⟩:e=Ending.returned (.int .i64 0)∧dy I t v wk L EL W kb sb Rm S0 w0 PB wp {st with E:=br st.E a n} w2)));have C:=ae (fun w1 w2 S sv Hg nr nv d no nw (c:fb I t v wk L EL W kb sb Rm S0 w0 PB wp S sv Hg nr nv d w1) U hf=>c.cells_ (w1:=w2) (no:=no) (nw:=nw) (nr1:=nr) (nv1:=nv) R J U hf);have ah:=ae (fun w1 S sv Hg nr nv d (hx:d.xs=st.xs∧d.lost=st.lost) (c:fb I t v wk L EL W kb sb Rm S0 w0 PB wp S sv Hg nr nv d w1)=>by
  by_cases hl:st.xs.length<Rm
  ·exact (tt sb sv _ Rm Hg (a:Int) _ w1 c.stk (by rw [hx.1,List.length_map];omega) (by omega)).mono (fun e w2 ⟨q1,bd,q2,q3,q4⟩=>(⟨.inl q1,by
    rw [if_pos hl,if_pos hl,<-hx.1,<-hx.2];refine c.stk_ R J (sv1:=bd) (high1:=(max Hg (((d.xs.map Int.ofNat).length:Int)+1))) ?_ q3 q4;rw [List.map_append];exact q2⟩:(e=Ending.returned (.bool true)∨e=Ending.returned (.bool false))∧dy I t v wk L EL W kb sb Rm S0 w0 PB wp {d with xs:=if st.xs.length<Rm then st.xs++[a] else st.xs,lost:=if st.xs.length<Rm then st.lost else true} w2))
  ·exact (tq sb sv _ Rm Hg (a:Int) _ w1 c.stk (by rw [hx.1,List.length_map];omega)).mono (fun e w2 ⟨q1,q2,q3⟩=>(⟨.inr q1,by
    rw [if_neg hl,if_neg hl,<-hx.1];exact c.stk_ R J q2 (q3.mono (fun k hk=> .inl (.inl hk))) (fun k hk=> .inl hk)⟩:(e=Ending.returned (.bool true)∨e=Ending.returned (.bool false))∧dy I t v wk L EL W kb sb Rm S0 w0 PB wp {d with xs:=if st.xs.length<Rm then st.xs++[a] else st.xs,lost:=if st.xs.length<Rm then st.lost else true} w2)))
 have y:∀w',dy I t v wk L EL W kb sb Rm S0 w0 PB wp {E:=br st.E a n,xs:=if st.xs.length<Rm then st.xs++[a] else st.xs,lost:=if st.xs.length<Rm then st.lost else true,no:=st.no+1,nw:=st.nw+n} w'->iy I t v wk L EL W kb sb Rm S0 w0 PB wp (bI G Rm st a) (.returned (.tuple #[])) w':=by
  intro w' c;refine ⟨rfl,?_⟩;unfold bI;rw [if_neg (by omega),o2];exact c
 have x:=ae y;generalize (iy I t v wk L EL W kb sb Rm S0 w0 PB wp (bI G Rm st a))=Q at*;have bk:n<=1048576:=by omega
 have b1:IntKind.i64.wrap ((st.no:Int)+1)=(st.no:Int)+1:=by rw [IntKind.wrap_i64];omega
 have b3:IntKind.i64.wrap ((st.nw:Int)+(n:Int))=(st.nw:Int)+(n:Int):=by rw [IntKind.wrap_i64];omega
 have bj:¬(a:Int)=0:=by omega
 unfold d8 at i;unfold lY at H;unfold bN at*;clear R J hG hW hO hm hr U o1 o2 o3 o4 o5 a2 b z a6 m A u y a9 bb P hn
 go_enter Tryz.func203,Tryz.ntmps203
 go_wp2_with fail
 refine (HF.out).mono ?_;intro e w1 hp;obtain ⟨rfl,rfl⟩:=ad.out _ _ hp;clear hp HF ad;go_wp2_with fail
 refine (H.out).mono ?_;rintro e T ⟨rfl,hp⟩;have ax:=ap.out _ hp;obtain ⟨W3,K⟩:∃W3,T.alloc (.cells #[.int .i64 p,.int .i64 f,.int .i64 g] 31)=W3:=⟨_,rfl⟩;have av:Fr (fun _=>False) T W3:=by rw [<-K];exact (Fr.refl _ _).alloc _
 have aq:=ae (show aj W3 T.heap.size [.int .i64 p,.int .i64 f,.int .i64 g] 31 from by rw [<-K];exact aj.new T _ _);have Y:=ae (D.out _ _ ax av);clear hp ax av ap H k0 k1
 go_upto_region 4 with fail
 clear K;generalize T.heap.size=q at*;clear T;go_wp2_with fail
 refine (F.out _).mono ?_;rintro e w4 ⟨rfl,rfl⟩;have am:Hid ((Tryz.prog.info? 31).map (·.size)=some 3):=by show _=_;kernel_rfl
 go_wp2_with (refine wpList_load_row rfl 31 _ rfl q rfl 31 #[.int .i64 p,.int .i64 f,.int .i64 g] _ _ aq.out Tryz.underlying31 rfl am.out ?_)
 refine (i.out _).mono ?_;rintro e w5 ⟨rfl,a1⟩;have a7:=D.out _ _ Y.out a1;clear a1 Y aq i D am;obtain ⟨S5,b0,a8,bo,bs,M⟩:=a7;have V:=ae (X.out _ _ _ _ _ _ M);have k1:=M.blk.cell 1 rfl;clear M X;go_wp2_with fail
 refine (V.out).mono ?_;rintro e w6 ⟨rfl,a0⟩;have Z:=ae a0;clear a0 V k1;go_wp2_with fail
 refine (F.out _).mono ?_;rintro e w7 ⟨rfl,rfl⟩;obtain ⟨S6,a5,o,a3,a4,j⟩:=Z.out;clear Z F;have k4:=j.blk.cell 4 rfl;have f4:=j.blk.free 4;have hX:∀B,B=w6.setCell ⟨kb,4,none⟩ (.int .i64 ((st.no:Int)+1))->fb I t v wk L EL W kb sb Rm S0 w0 PB wp S6 a5 o a3 a4 {E:=br st.E a n,xs:=st.xs,lost:=st.lost,no:=st.no+1,nw:=st.nw} B:=by
  rintro B rfl;exact C.out _ _ _ _ _ _ _ _ (st.no+1) st.nw j (j.blk.set 4 (.int .i64 ((st.no:Int)+1))) ((Fr.refl (fun k=>k=kb) w6).setCell ⟨kb,4,none⟩ (.inl rfl) _)
 have HX:=ae hX;clear hX j
 go_upto_region 8 with fail
 have l:=HX.out _ rfl;generalize w6.setCell ⟨kb,4,none⟩ (.int .i64 ((st.no:Int)+1))=B at*;clear HX k4 f4 w6;have k5:=l.blk.cell 5 rfl;have f5:=l.blk.free 5;have hX:∀w9,w9=B.setCell ⟨kb,5,none⟩ (.int .i64 ((st.nw:Int)+(n:Int)))->fb I t v wk L EL W kb sb Rm S0 w0 PB wp S6 a5 o a3 a4 {E:=br st.E a n,xs:=st.xs,lost:=st.lost,no:=st.no+1,nw:=st.nw+n} w9:=by
  rintro w9 rfl;exact C.out _ _ _ _ _ _ _ _ (st.no+1) (st.nw+n) l (by have:=l.blk.set 5 (.int .i64 ((st.nw:Int)+(n:Int)));exact this) ((Fr.refl (fun k=>k=kb) B).setCell ⟨kb,5,none⟩ (.inl rfl) _)
 have HX:=ae hX;clear hX l C
 go_upto_region 9 with fail
 have O:=HX.out _ rfl;generalize B.setCell ⟨kb,5,none⟩ (.int .i64 ((st.nw:Int)+(n:Int)))=w9 at*;clear HX k5 f5 B;have k2:=O.blk.cell 2 rfl;have HP:=ae (ah.out _ _ _ _ _ _ _ (by exact ⟨rfl,rfl⟩) O);clear O ah;go_wp2_with fail
 refine (HP.out).mono ?_;rintro e b2 ⟨U,c⟩;have HQ:=ae (x.out _ c);clear c HP x k2;rcases U with rfl|rfl
 ·go_wp2;go_end0;exact HQ.out
 ·go_wp2;go_end0;exact HQ.out
end
section
variable {I:dZ} {t:TypeId} {v wk:Value} {L:Nat->Nat} {EL:aI} {W kb sb Rm:Nat} {S0:Nat->Prop} {w0:World} {PB:Nat->Prop} {wp:World} {S S1:Nat->Prop} {sv sv1:Value} {Hg high1 nr nv:Int} {st:dC} {w w1:World} {fl:Nat} {r:Value} {dom:Nat->Prop} {G:Gr} {rs:List Nat} {N:Nat}
theorem ol (h:dy I t v wk L EL W kb sb Rm S0 w0 PB wp st w):
  Calls Tryz.prog 203 #[kb,.int .i64 0] w (iy I t v wk L EL W kb sb Rm S0 w0 PB wp st):=by
 have H:=ae h;clear h;generalize a:(iy I t v wk L EL W kb sb Rm S0 w0 PB wp st)=Q;have b:Hid (∀w',dy I t v wk L EL W kb sb Rm S0 w0 PB wp st w'->Q (.returned (.tuple #[])) w'):=by show∀w',_;intro w' h;rw [<-a];exact ⟨rfl,h⟩
 clear a
 go_enter Tryz.func203,Tryz.ntmps203
 go_wp2;refine bodyPost_ret (results_none rfl _ _ _) rfl ?_;exact b.out _ H.out
theorem qi (h:dy I t v wk L EL W kb sb Rm S0 w0 PB wp st w) (a:Nat) (y:a≠0) (i:st.E a≠0):
  Calls Tryz.prog 203 #[kb,.int .i64 a] w (iy I t v wk L EL W kb sb Rm S0 w0 PB wp st):=by
 have H:=ae h;obtain ⟨S,sv,Hg,nr,nv,c⟩:=h;have f:=c.ext.top a i;have g:=c.ext.small.2;have j:=ae (eu c.ext c.tab a (by omega));have b:∀e w',cr st.E a w e w'->(∃n:Nat,e= .returned (.tuple #[.int .i64 a,.int .i64 n,.bool true]))∧w=w':=by
  rintro e w' ⟨⟨s,n,k,u,x,p⟩|⟨k,_⟩,o⟩
  ·refine ⟨⟨n,?_⟩,o⟩;have:s=a:=by
    rcases Nat.lt_or_ge s a with h|h
    ·have:=c.ext.apart s a h (by omega) i;omega
    ·omega
   rw [p,this]
  ·have:=k a (Nat.le_refl a);omega
 have d:=ae b;have z:=c.blk.cell 1 rfl;generalize l:(iy I t v wk L EL W kb sb Rm S0 w0 PB wp st)=Q;have m:Hid (∀w',dy I t v wk L EL W kb sb Rm S0 w0 PB wp st w'->Q (.returned (.tuple #[])) w'):=by show∀w',_;intro w' h;rw [<-l];exact ⟨rfl,h⟩
 have q:¬(a:Int)=0:=by omega
 clear l c f g b i
 go_enter Tryz.func203,Tryz.ntmps203
 go_wp2_with fail
 refine (j.out).mono ?_;intro e w1 hp;obtain ⟨⟨n,rfl⟩,rfl⟩:=d.out _ _ hp;clear hp j d;go_wp2;refine bodyPost_ret (results_none rfl _ _ _) rfl ?_;exact m.out _ H.out
theorem ly (n:aX t v fl r I dom) (j:tV EL kb sb w0.heap.size S0) (g:cu G rs N) (k:N<=W) (i:∀a,G.size a≠0->dL L dom G a) (h:dy I t v wk L EL W kb sb Rm S0 w0 PB wp st w) (m:ca G rs st.E) (a:Nat) (l:a≠0->Reach G rs a) (e:st.no<=1048576) (f:st.nw<=1048576) (b:Rm<=4096):
  Calls Tryz.prog 203 #[kb,.int .i64 a] w (iy I t v wk L EL W kb sb Rm S0 w0 PB wp (bI G Rm st a)):=by
 by_cases c:a=0
 ·subst c;have:bI G Rm st 0=st:=if_pos (.inl rfl);rw [this];exact ol h
 ·by_cases d:st.E a=0
  ·exact qh n j g k i h m a c (l c) d e f b
  ·have:bI G Rm st a=st:=if_pos (.inr d);rw [this];exact qi h a c d
end
theorem od {E:Nat->Nat} {a n N:Nat} (t:n≠0) (m:∀s,s<=a->s+E s<=a) (p:∀s,a<=s->E s≠0->a+n<=s) (o:a+n<=N):cnt (ai (br E a n)) 0 N=cnt (ai E) 0 N+n:=by
 have r:E a=0:=by have:=m a (Nat.le_refl a);omega
 have l:∀i,i<a->ai (br E a n) i=ai E i:=fun i q=>by
  rw [Bool.eq_iff_iff,aQ,aQ];constructor
  ·rintro ⟨s,d,c⟩;exact ⟨s,d,by unfold br at c;rw [if_neg (by omega)] at c;exact c⟩
  ·rintro ⟨s,d,c⟩;exact ⟨s,d,by unfold br;rw [if_neg (by omega)];exact c⟩
 have j:∀i,a<=i->i<a+n->ai (br E a n) i=true:=fun i d c=>aQ.2 ⟨a,d,by unfold br;rw [if_pos rfl];exact c⟩
 have e:∀i,a<=i->i<a+n->ai E i=false:=fun i d c=>by
  rw [Bool.eq_false_iff];intro h;obtain ⟨s,u,v⟩:=aQ.1 h;rcases Nat.lt_or_ge a s with h|h
  ·have:=p s (by omega) (by omega);omega
  ·have:=m s h;omega
 have Hg:∀i,a+n<=i->ai (br E a n) i=ai E i:=fun i q=>by
  rw [Bool.eq_iff_iff,aQ,aQ];constructor
  ·rintro ⟨s,d,c⟩;unfold br at c;split at c
   ·omega
   ·exact ⟨s,d,c⟩
  ·rintro ⟨s,d,c⟩;refine ⟨s,d,?_⟩;unfold br;rw [if_neg (by rintro rfl;omega)];exact c
 rw [ay (ai (br E a n)) (Nat.zero_le a) (show a<=N by omega),ay (ai E) (Nat.zero_le a) (show a<=N by omega),ay (ai (br E a n)) (show a<=a+n by omega) o,ay (ai E) (show a<=a+n by omega) o,
  aK (f:=ai (br E a n)) (g:=ai E) (a:=0) (b:=a) (fun i _ h=>l i h),iF (f:=ai (br E a n)) (fun i h k=>j i h k),aE (f:=ai E) (a:=a) (b:=a+n) (fun i h k=>e i h k),aK (f:=ai (br E a n)) (g:=ai E) (a:=a+n) (b:=N) (fun i h _=>Hg i h)]
 omega
structure ef (G:Gr) (rs:List Nat) (N Rm:Nat) (st:dC):Prop where
 marked:ca G rs st.E
 no:st.no=cnt (aU st.E) 0 N
 nw:st.nw=cnt (ai st.E) 0 N
 xs:∀x∈st.xs,st.E x≠0
 rm:st.xs.length<=Rm
structure eU (st st':dC):Prop where
 mono:∀b,st.E b≠0->st'.E b≠0
 xs:∀x∈st.xs,x∈st'.xs
 new:∀b,st'.E b≠0->st.E b≠0∨b∈st'.xs∨st'.lost=true
 lost:st.lost=true->st'.lost=true
 lost':st'.lost=true->st.lost=true∨st.no<st'.no
 no:st.no<=st'.no
 len:st'.xs.length+st.no<=st.xs.length+st'.no
theorem eU.refl (a:dC):eU a a:=⟨fun _ h=>h,fun _ h=>h,fun _ h=> .inl h,id,.inl,Nat.le_refl _,Nat.le_refl _⟩
theorem eU.trans {a b c:dC} (h:eU a b) (k:eU b c):eU a c:=
 ⟨fun x g=>k.mono x (h.mono x g),fun x g=>k.xs x (h.xs x g),fun x g=>by
  rcases k.new x g with d|d|d
  ·rcases h.new x d with f|f|f
   ·exact .inl f
   ·exact .inr (.inl (k.xs x f))
   ·exact .inr (.inr (k.lost f))
  ·exact .inr (.inl d)
  ·exact .inr (.inr d),fun e=>k.lost (h.lost e),fun e=>by
  have:=h.no;have:=k.no;rcases k.lost' e with d|d
  ·rcases h.lost' d with f|f
   ·exact .inl f
   ·exact .inr (by omega)
  ·exact .inr (by omega),Nat.le_trans h.no k.no,by have:=h.len;have:=k.len;omega⟩
section
variable {G:Gr} {rs:List Nat} {N Rm:Nat} {st:dC}
theorem ef.small (h:ef G rs N Rm st):st.no<=N∧st.nw<=N:=by
 have a:=be (aU st.E) 0 N;have b:=be (ai st.E) 0 N;rw [h.no,h.nw];omega
theorem j8 (f:cu G rs N) (h:ef G rs N Rm st) {a:Nat} (j:a≠0->Reach G rs a):ef G rs N Rm (bI G Rm st a):=by
 unfold bI;split
 ·exact h
 ·rename_i l;have i:a≠0:=fun e=>l (.inl e)
  have k:st.E a=0:=by
   rcases Nat.eq_zero_or_pos (st.E a) with e|e
   ·exact e
   ·exact absurd (.inr (by omega)) l
  have b:=f.reach (j i);have m:=h.marked.Rm f b k;have n:=f.top a b;refine ⟨h.marked.put (j i),?_,?_,?_,?_⟩
  ·show st.no+1=_
   rw [gD b k (by omega),h.no]
  ·show st.nw+G.size a=_
   rw [od b m.1 m.2 n,h.nw]
  ·intro x c;show br st.E a (G.size a) x≠0
   unfold br;split
   ·exact b
   ·rename_i g;refine h.xs x ?_;simp only at c;split at c
    ·rcases List.mem_append.1 c with d|d
     ·exact d
     ·exact absurd (List.mem_singleton.1 d) g
    ·exact c
  ·show (if st.xs.length<Rm then st.xs++[a] else st.xs).length<=Rm
   have:=h.rm;split
   ·rw [List.length_append,List.length_singleton];omega
   ·exact this
theorem jh (st:dC) (a:Nat) (l:a≠0->G.size a≠0):eU st (bI G Rm st a)∧(a≠0->(bI G Rm st a).E a≠0):=by
 unfold bI;split
 ·rename_i h;exact ⟨eU.refl st,fun d=>by rcases h with h|h;exact absurd h d;exact h⟩
 ·rename_i k;have d:a≠0:=fun e=>k (.inl e)
  have j:=l d;refine ⟨⟨?_,?_,?_,?_,?_,?_,?_⟩,fun _=> ?_⟩
  ·intro b f;show br st.E a (G.size a) b≠0;unfold br;split;exact j;exact f
  ·intro x i;show x∈(if st.xs.length<Rm then st.xs++[a] else st.xs);split;exact List.mem_append_left _ i;exact i
  ·intro b f;show st.E b≠0∨b∈(if st.xs.length<Rm then st.xs++[a] else st.xs)∨(if st.xs.length<Rm then st.lost else true)=true
   have c:br st.E a (G.size a) b≠0:=f;unfold br at c;split at c
   ·rename_i e;subst e;by_cases g:st.xs.length<Rm
    ·exact .inr (.inl (by rw [if_pos g];simp))
    ·exact .inr (.inr (by rw [if_neg g]))
   ·exact .inl c
  ·intro h;show (if st.xs.length<Rm then st.lost else true)=true;split;exact h;rfl
  ·intro _;exact .inr (Nat.lt_succ_self _)
  ·exact Nat.le_succ _
  ·show (if st.xs.length<Rm then st.xs++[a] else st.xs).length+st.no<=st.xs.length+(st.no+1)
   split
   ·rw [List.length_append,List.length_singleton];omega
   ·omega
  ·show br st.E a (G.size a) a≠0;unfold br;rw [if_pos rfl];exact j
def cw (G:Gr) (Rm:Nat) (st:dC) (a:Nat):dC:=(G.ptrs a).foldl (bI G Rm) st
theorem j6 (d:cu G rs N):∀(l:List Nat) (st:dC),ef G rs N Rm st->(∀p∈l,p≠0->Reach G rs p)->ef G rs N Rm (l.foldl (bI G Rm) st)∧eU st (l.foldl (bI G Rm) st)∧∀p∈l,p≠0->(l.foldl (bI G Rm) st).E p≠0
 |[],st,h,_=>⟨h,eU.refl st,fun p hp=>absurd hp (List.not_mem_nil)⟩
 |a::l,st,h,hr=>by
  have b:=hr a (List.mem_cons_self ..);have g:=j8 d h b;have e:=jh (G:=G) (Rm:=Rm) st a (fun c=>d.reach (b c));obtain ⟨i,f,j⟩:=j6 d l _ g (fun p hp=>hr p (List.mem_cons_of_mem _ hp));refine ⟨i,e.1.trans f,fun p hp c=> ?_⟩;rcases List.mem_cons.1 hp with rfl|hp
  ·exact f.mono _ (e.2 c)
  ·exact j p hp c
theorem iR (c:cu G rs N) (h:ef G rs N Rm st) {a:Nat} (d:Reach G rs a):ef G rs N Rm (cw G Rm st a)∧eU st (cw G Rm st a)∧rO G (cw G Rm st a).E a:=
 j6 c _ st h (fun p hp b=> .step d hp b)
end
section
variable {I:dZ} {t:TypeId} {v wk:Value} {L:Nat->Nat} {EL:aI} {W kb sb Rm:Nat} {S0:Nat->Prop} {w0:World} {PB:Nat->Prop} {wp:World} {S S1:Nat->Prop} {sv sv1:Value} {Hg high1 nr nv:Int} {st:dC} {w w1:World} {fl:Nat} {r:Value} {dom:Nat->Prop} {G:Gr} {rs:List Nat} {N:Nat}
theorem j9 (F:aX t v fl r I dom) (D:tV EL kb sb w0.heap.size S0) (X:cu G rs N) (hW:N<=W) (hO:∀a,G.size a≠0->dL L dom G a) (h:dy I t v wk L EL W kb sb Rm S0 w0 PB wp st w) (hI:ef G rs N Rm st) (a:Nat) (Y:Reach G rs a) (n:Rm<=4096):
  Calls Tryz.prog 208 #[kb,.int .i64 a] w (iy I t v wk L EL W kb sb Rm S0 w0 PB wp (cw G Rm st a)):=by
 have A:=X.reach Y;have a3:=Y.pos;obtain ⟨p,f,g,H,o2,o3,o4,o5⟩:=hO a A;have av:=X.top a A;have hN:N<=1048576:=by obtain ⟨_,_,_,_,_,hd⟩:=h;have:=hd.ext.small.2;omega
 have T:=ae (fun w1 S sv Hg nr nv b (m:fb I t v wk L EL W kb sb Rm S0 w0 PB wp S sv Hg nr nv b w1)=>(eB F m.sp a p f g (by omega) (o4 a (Nat.le_refl _) (by omega)) H).mono (fun e w2 ⟨he,hp⟩=>(⟨he,m.sp_ D hp⟩:e=Ending.returned (.tuple #[bN p f g,.int .i64 0])∧dy I t v wk L EL W kb sb Rm S0 w0 PB wp b w2)));have ap:∀i:Nat,i<p->bK p f g i=(1:Nat):=fun i E=>by
  have hh:=H.2;unfold bK;rw [co,if_pos hh,if_neg (by omega),if_pos (by omega)];rfl
 have a2:=ae (fun i (E:i<p) w1 S sv Hg nr nv b (m:fb I t v wk L EL W kb sb Rm S0 w0 PB wp S sv Hg nr nv b w1)=>(fF F m.sp a i p f g (L (a+1+i)) (by omega) (by omega) (by have:=H.2;unfold bl at this;omega) (o4 a (Nat.le_refl _) (by omega)) H (ap i E) (o4 _ (by omega) (by omega)) rfl (o5 i E)).mono (fun e w2 ⟨he,hp⟩=>(⟨he,m.sp_ D hp⟩:e=Ending.returned (.tuple #[.int .i64 ((L (a+1+i):Nat):Int),.int .i64 0])∧dy I t v wk L EL W kb sb Rm S0 w0 PB wp b w2)));have a1:=ae (fun w1 w2 b (m:dy I t v wk L EL W kb sb Rm S0 w0 PB wp b w1) (hf:Fr (fun _=>False) w1 w2)=>m.Fh F D hf);have M:=ae (fun w1=>j7 (.pointer (some ⟨kb,0,none⟩)) w1);have aq:∀i,i<=p->((List.range i).map (fun i=>L (a+1+i))).foldl (bI G Rm) st=((List.range i).map (fun i=>L (a+1+i))).foldl (bI G Rm) st∧ef G rs N Rm (((List.range i).map (fun i=>L (a+1+i))).foldl (bI G Rm) st):=fun i E=>⟨rfl,(j6 X _ st hI (fun q hq C=> .step Y (by rw [o3];obtain ⟨j,hj,rfl⟩:=List.mem_map.1 hq;exact List.mem_map.2 ⟨j,List.mem_range.2 (by have:=List.mem_range.1 hj;omega),rfl⟩) C)).1⟩
 obtain ⟨c,l⟩:∃c:Nat->dC,c=fun i=>((List.range i).map (fun i=>L (a+1+i))).foldl (bI G Rm) st:=⟨_,rfl⟩
 have o:∀i,bI G Rm (c i) (L (a+1+i))=c (i+1):=fun i=>by
  rw [l];show bI G Rm _ _=((List.range (i+1)).map _).foldl _ _;rw [List.range_succ,List.map_append,List.foldl_append];rfl
 have R:=ae (fun i (E:i<p) w1 (m:dy I t v wk L EL W kb sb Rm S0 w0 PB wp (c i) w1)=>by
  have ah:ef G rs N Rm (c i):=by rw [l];exact (aq i (by omega)).2
  have a8:=ah.small;have:=ly F D X hW hO m ah.marked (L (a+1+i)) (fun C=> .step Y (by rw [o3];exact List.mem_map.2 ⟨i,List.mem_range.2 E,rfl⟩) C) (by omega) (by omega) n;rw [o] at this;exact this)
 have a0:=ae (fun w1 w2 S sv Hg nr nv b nv1 (m:fb I t v wk L EL W kb sb Rm S0 w0 PB wp S sv Hg nr nv b w1) he hf=>m.cells_ (w1:=w2) (no:=b.no) (nw:=b.nw) (nr1:=nr) (nv1:=nv1) F D he hf);have C:dy I t v wk L EL W kb sb Rm S0 w0 PB wp (c 0) w:=by rw [l];exact h
 have u:∀w',dy I t v wk L EL W kb sb Rm S0 w0 PB wp (c p) w'->iy I t v wk L EL W kb sb Rm S0 w0 PB wp (cw G Rm st a) (.returned (.tuple #[])) w':=by
  intro w' m;refine ⟨rfl,?_⟩;unfold cw;rw [o3];rw [l] at m;exact m
 have K:=ae u;generalize (iy I t v wk L EL W kb sb Rm S0 w0 PB wp (cw G Rm st a))=Q at*;have H0:=ae C;have a5:p<256:=by have:=H.2;unfold bl at this;omega
 obtain ⟨S,sv,Hg,nr,nv,hd⟩:=C;have k0:=hd.blk.cell 0 rfl;have s:=ae (T.out _ _ _ _ _ _ _ hd);unfold bN at*;unfold iy at R;clear F D X hW hO h hI Y n A a3 H o2 o3 o4 o5 av hN ap aq l o u hd T
 go_enter Tryz.func208,Tryz.ntmps208
 go_wp2_with fail
 refine (s.out).mono ?_;rintro e B ⟨rfl,hp⟩;obtain ⟨W3,y⟩:∃W3,B.alloc (.cells #[.int .i64 p,.int .i64 f,.int .i64 g] 31)=W3:=⟨_,rfl⟩;have V:Fr (fun _=>False) B W3:=by rw [<-y];exact (Fr.refl _ _).alloc _
 have U:=ae (show aj W3 B.heap.size [.int .i64 p,.int .i64 f,.int .i64 g] 31 from by rw [<-y];exact aj.new B _ _);have J:=ae (a1.out _ _ _ hp V);clear hp V s k0 H0
 go_upto_region 1 with fail
 clear y;generalize B.heap.size=q at*;clear B;go_wp2_with fail
 refine (M.out _).mono ?_;rintro e w4 ⟨rfl,rfl⟩;have kq:=U.out.cell 0 rfl;go_wp2
 go_loopw [24] (fun x wr=>∃(i:Nat),x= .int .i64 i∧i<=p∧Hid (dy I t v wk L EL W kb sb Rm S0 w0 PB wp (c i) wr)) (fun x _=>(p-intOf x).toNat)
 case atStart=>exact ⟨0,rfl,by omega,J⟩
 case round=>
  clear J U kq;obtain ⟨i,rfl,h1,hr⟩:=hrel;obtain ⟨S5,bd,a4,a9,bb,d⟩:=hr.out;have k0:=d.blk.cell 0 rfl;by_cases z:i<p
  ·have a6:(i:Int)<(p:Int):=by omega
   have O:=ae (a2.out i z _ _ _ _ _ _ _ d);clear hr d;go_wp2_with fail
   refine (O.out).mono ?_;rintro e w5 ⟨rfl,Z⟩;have P:=ae (R.out i z _ Z);clear Z O k0;go_wp2_with fail
   refine (M.out _).mono ?_;rintro e w6 ⟨rfl,rfl⟩;go_wp2_with fail
   refine (P.out).mono ?_;rintro e w7 ⟨rfl,ad⟩;have ax:=ae ad;clear ad P;go_wp2;go_roundw
   case rel=>exact ⟨i+1,by go_num,by omega,ax⟩
   case measure=>simp [intOf];omega
  ·have am:i=p:=by omega
   have a7:¬(i:Int)<(p:Int):=by omega
   have kv:=d.blk.cell 7 rfl;have fv:=d.blk.free 7;have HX:=ae (fun x w8 (e:w8=wr.setCell ⟨kb,7,none⟩ (.int .i64 x))=>K.out w8 (by rw [<-am];exact ⟨_,_,_,_,_,a0.out _ _ _ _ _ _ _ _ x d (by rw [e];exact d.blk.set 7 (.int .i64 x)) (by rw [e];exact (Fr.refl (fun k=>k=kb) wr).setCell ⟨kb,7,none⟩ (.inl rfl) _)⟩));clear hr d h1 z am k0;go_wp2;go_end0;exact HX.out _ _ rfl
end
structure kT (G:Gr) (rs:List Nat) (N Rm:Nat) (st cur:dC) (pend:List Nat):Prop where
 inv:ef G rs N Rm cur
 mono:∀b,st.E b≠0->cur.E b≠0
 all:∀b,cur.E b≠0->rO G cur.E b∨b∈cur.xs∨b∈pend∨cur.lost=true∨(st.E b≠0∧b∉st.xs)
 lost:st.lost=true->cur.lost=true
 lost':cur.lost=true->st.lost=true∨st.no<cur.no
 no:st.no<=cur.no
 pd:∀b∈pend,Reach G rs b
section
variable {G:Gr} {rs:List Nat} {N Rm:Nat} {st cur:dC} {pend:List Nat}
theorem kT.start (h:ef G rs N Rm st):kT G rs N Rm st st []:=
 ⟨h,fun _ h=>h,fun b a=>by
  by_cases c:b∈st.xs
  ·exact .inr (.inl c)
  ·exact .inr (.inr (.inr (.inr ⟨a,c⟩))),id,.inl,Nat.le_refl _,fun b a=>absurd a (List.not_mem_nil)⟩
theorem kT.pop (h:kT G rs N Rm st cur []) {ys:List Nat} {x:Nat} (c:cur.xs=ys++[x]):kT G rs N Rm st {cur with xs:=ys} [x]:=
 ⟨⟨h.inv.marked,h.inv.no,h.inv.nw,fun y f=>h.inv.xs y (by rw [c];exact List.mem_append_left _ f),by have:=h.inv.rm;rw [c,List.length_append] at this;show ys.length<=Rm;omega⟩,h.mono,fun b e=>by
  rcases h.all b e with a|a|a|a|a
  ·exact .inl a
  ·rw [c] at a;rcases List.mem_append.1 a with d|d
   ·exact .inr (.inl d)
   ·exact .inr (.inr (.inl d))
  ·exact absurd a (List.not_mem_nil)
  ·exact .inr (.inr (.inr (.inl a)))
  ·exact .inr (.inr (.inr (.inr a))),h.lost,h.lost',h.no,fun b e=>by
  rw [List.mem_singleton.1 e];exact (h.inv.marked x (h.inv.xs x (by rw [c];simp))).1⟩
theorem kT.visit (j:cu G rs N) {x:Nat} (h:kT G rs N Rm st cur [x]):kT G rs N Rm st (cw G Rm cur x) []∧(cw G Rm cur x).xs.length+cur.no<=cur.xs.length+(cw G Rm cur x).no∧cur.no<=(cw G Rm cur x).no:=by
 obtain ⟨k,c,l⟩:=iR (Rm:=Rm) j h.inv (h.pd x (by simp));refine ⟨⟨k,fun b f=>c.mono b (h.mono b f),fun b f=> ?_,fun e=>c.lost (h.lost e),fun e=> ?_,Nat.le_trans h.no c.no,fun b f=>absurd f (List.not_mem_nil)⟩,c.len,c.no⟩
 ·rcases c.new b f with d|d|d
  ·rcases h.all b d with a|a|a|a|a
   ·exact .inl (fun p hp g=>c.mono p (a p hp g))
   ·exact .inr (.inl (c.xs b a))
   ·rw [List.mem_singleton.1 a];exact .inl l
   ·exact .inr (.inr (.inr (.inl (c.lost a))))
   ·exact .inr (.inr (.inr (.inr a)))
  ·exact .inr (.inl d)
  ·exact .inr (.inr (.inr (.inl d)))
 ·have:=h.no;have:=c.no;rcases c.lost' e with a|a
  ·rcases h.lost' a with i|i
   ·exact .inl i
   ·exact .inr (by omega)
  ·exact .inr (by omega)
end
section
variable {I:dZ} {t:TypeId} {v wk:Value} {L:Nat->Nat} {EL:aI} {W kb sb Rm:Nat} {S0:Nat->Prop} {w0:World} {PB:Nat->Prop} {wp:World} {S S1:Nat->Prop} {sv sv1:Value} {Hg high1 nr nv:Int} {st:dC} {w w1:World} {fl:Nat} {r:Value} {dom:Nat->Prop} {G:Gr} {rs:List Nat} {N:Nat}
def yq (I:dZ) (t:TypeId) (v wk:Value) (L:Nat->Nat) (EL:aI) (W kb sb Rm:Nat) (S0:Nat->Prop) (w0:World) (PB:Nat->Prop) (wp:World) (G:Gr) (rs:List Nat) (N:Nat) (st:dC) (m:Nat) (e:Ending) (w':World):Prop:=
 ∃(x:Nat) (is:Bool) (cur:dC),e= .returned (.tuple #[.int .i64 x,.bool is])∧Hid (dy I t v wk L EL W kb sb Rm S0 w0 PB wp cur w'∧kT G rs N Rm st cur (if is then [x] else [])∧(is=false->cur.xs=[])∧2*(N-cur.no)+cur.xs.length+(if is then 1 else 0)<=m)
theorem xD (j:aX t v fl r I dom) (g:tV EL kb sb w0.heap.size S0) {cur:dC} (h:fb I t v wk L EL W kb sb Rm S0 w0 PB wp S sv Hg nr nv cur w) (b:kT G rs N Rm st cur []) (c:Rm<=4096) (m:Nat) (d:2*(N-cur.no)+cur.xs.length<=m):
  Calls Tryz.prog 250 #[sb] w (yq I t v wk L EL W kb sb Rm S0 w0 PB wp G rs N st m):=by
 rcases List.eq_nil_or_concat cur.xs with e|⟨ys,x,e⟩
 ·have a:=h.stk;rw [e] at a;refine (vL sb sv Rm Hg cur.lost w a).mono ?_;rintro f w' ⟨rfl,rfl⟩;exact ⟨0,false,cur,rfl,⟨_,_,_,_,_,h⟩,b,fun _=>e,by rw [if_neg (by decide)];omega⟩
 ·rw [List.concat_eq_append] at e;have a:=h.stk;rw [e,List.map_append] at a;have i:=b.inv.rm;rw [e,List.length_append,List.length_singleton] at i;refine (vM sb sv (ys.map Int.ofNat) (x:Int) Rm Hg cur.lost w a (by rw [List.length_map];omega)).mono ?_;rintro f w' ⟨rfl,p,l,n,o⟩;refine ⟨x,true,{cur with xs:=ys},rfl,h.stk_ j g l (n.mono (fun k a=> .inl (.inl a))) (fun k a=> .inl (by rw [<-o];exact a)),b.pop e,(fun h=>by cases h),?_⟩;rw [e,List.length_append,List.length_singleton] at d;rw [if_pos rfl];exact Nat.le_trans (by show 2*(N-cur.no)+ys.length+1<=_;omega) d
theorem n7 (P:Nat->Prop):∀m,P m->∃m,P m∧∀k,P k->m<=k:=by
 intro m
 induction m using Nat.strongRecOn with
 |ind m ih=>
  intro h;by_cases b:∃k,k<m∧P k
  ·obtain ⟨k,a,c⟩:=b;exact ih k a c
  ·exact ⟨m,h,fun k d=>by
    rcases Nat.lt_or_ge k m with a|a
    ·exact absurd ⟨k,a,d⟩ b
    ·exact a⟩
open Classical in
noncomputable def dR (P:Nat->Prop):Nat:=if h:∃m,P m then Classical.choose (n7 P _ (Classical.choose_spec h)) else 0
theorem bY {P:Nat->Prop} {m:Nat} (h:P m):P (dR P)∧dR P<=m:=by
 have a:∃m,P m:=⟨m,h⟩;unfold dR;rw [dif_pos a];have:=Classical.choose_spec (n7 P _ (Classical.choose_spec a));exact ⟨this.1,this.2 m h⟩
def zw (I:dZ) (t:TypeId) (v wk:Value) (L:Nat->Nat) (EL:aI) (W kb sb Rm:Nat) (S0:Nat->Prop) (w0:World) (PB:Nat->Prop) (wp:World) (G:Gr) (rs:List Nat) (N:Nat) (st:dC) (p q:Value) (w':World) (m:Nat):Prop:=
 ∃(x:Nat) (is:Bool) (cur:dC),p= .int .i64 x∧q= .bool is∧(dy I t v wk L EL W kb sb Rm S0 w0 PB wp cur w'∧kT G rs N Rm st cur (if is then [x] else [])∧(is=false->cur.xs=[])∧2*(N-cur.no)+cur.xs.length+(if is then 1 else 0)<=m)
def wM (I:dZ) (t:TypeId) (v wk:Value) (L:Nat->Nat) (EL:aI) (W kb sb Rm:Nat) (S0:Nat->Prop) (w0:World) (PB:Nat->Prop) (wp:World) (G:Gr) (rs:List Nat) (N:Nat) (st:dC) (e:Ending) (w':World):Prop:=
 e= .returned (.tuple #[])∧∃cur:dC,dy I t v wk L EL W kb sb Rm S0 w0 PB wp cur w'∧kT G rs N Rm st cur []∧cur.xs=[]
theorem qd (hs:aX t v fl r I dom) (U:tV EL kb sb w0.heap.size S0) (J:cu G rs N) (hW:N<=W) (hO:∀a,G.size a≠0->dL L dom G a) (h:dy I t v wk L EL W kb sb Rm S0 w0 PB wp st w) (hI:ef G rs N Rm st) (b:Rm<=4096):
  Calls Tryz.prog 204 #[kb] w (wM I t v wk L EL W kb sb Rm S0 w0 PB wp G rs N st):=by
 have o:=ae (fun w1 S sv Hg nr nv cur m (d:fb I t v wk L EL W kb sb Rm S0 w0 PB wp S sv Hg nr nv cur w1) (c:kT G rs N Rm st cur []) (K:2*(N-cur.no)+cur.xs.length<=m)=>xD hs U d c b m K);have P:=ae (fun w1 cur x (d:dy I t v wk L EL W kb sb Rm S0 w0 PB wp cur w1) (c:kT G rs N Rm st cur [x])=>(j9 hs U J hW hO d c.inv x (c.pd x (by simp)) b).mono (fun e w2 ⟨R,T⟩=>(⟨R,T,(c.visit J).1,(c.visit J).2⟩:e=Ending.returned (.tuple #[])∧dy I t v wk L EL W kb sb Rm S0 w0 PB wp (cw G Rm cur x) w2∧kT G rs N Rm st (cw G Rm cur x) []∧(cw G Rm cur x).xs.length+cur.no<=cur.xs.length+(cw G Rm cur x).no∧cur.no<=(cw G Rm cur x).no)));have f:∀w' cur,dy I t v wk L EL W kb sb Rm S0 w0 PB wp cur w'->kT G rs N Rm st cur []->cur.xs=[]->wM I t v wk L EL W kb sb Rm S0 w0 PB wp G rs N st (.returned (.tuple #[])) w':=fun w' cur R T h3=>⟨rfl,cur,R,T,h3⟩
 have k:=ae f;generalize (wM I t v wk L EL W kb sb Rm S0 w0 PB wp G rs N st)=Q at*;obtain ⟨S,sv,Hg,nr,nv,X⟩:=h;have k2:=X.blk.cell 2 rfl;obtain ⟨M,hM⟩:∃M,2*(N-st.no)+st.xs.length=M:=⟨_,rfl⟩;have l:=ae (o.out _ _ _ _ _ _ _ M X (kT.start hI) (by omega));unfold yq at*;clear hs U J hW hO hI b X f hM
 go_enter Tryz.func204,Tryz.ntmps204
 go_wp2_with fail
 refine (l.out).mono ?_;rintro e w1 ⟨x0,F,y,rfl,A⟩;have E:zw I t v wk L EL W kb sb Rm S0 w0 PB wp G rs N st (.int .i64 x0) (.bool F) w1 M:=⟨x0,F,y,rfl,rfl,A.out⟩;have s:=ae E;clear l k2 A E;go_wp2
 go_loopw [2,3] (fun p q wr=>∃m,Hid (zw I t v wk L EL W kb sb Rm S0 w0 PB wp G rs N st p q wr m)) (fun p q wr=>dR (zw I t v wk L EL W kb sb Rm S0 w0 PB wp G rs N st p q wr))
 case atStart=>exact ⟨M,s⟩
 case round=>
  clear s;obtain ⟨m,K⟩:=hrel;obtain ⟨hr,_⟩:=bY K.out;clear K;generalize D:dR (zw I t v wk L EL W kb sb Rm S0 w0 PB wp G rs N st _ _ _)=m0 at hr;obtain ⟨x,is,cur,rfl,rfl,d,c,hx,j⟩:=hr;have O:=ae D;clear D
  cases is with
  |false=>
   have HQ:=ae (k.out _ _ d c (hx rfl));clear d c hx j;go_wp2;go_end0;exact HQ.out
  |true=>
   rw [if_pos rfl] at c j;have HV:=ae (P.out _ _ _ d c);clear d c hx;go_wp2_with fail
   refine (HV.out).mono ?_;rintro e w2 ⟨rfl,V,i,Y,ad⟩;have C:=i.inv.small;obtain ⟨S2,ap,high2,ah,am,g⟩:=V;have k2:=g.blk.cell 2 rfl;have n:=ae (o.out _ _ _ _ _ _ _ (m0-1) g i (by omega));have Z:m0-1<m0:=by omega
   clear g i Y ad C HV j;go_wp2_with fail
   refine (n.out).mono ?_;rintro e w3 ⟨x3,H,z,rfl,B⟩;have u:=ae (show zw I t v wk L EL W kb sb Rm S0 w0 PB wp G rs N st (.int .i64 x3) (.bool H) w3 (m0-1) from ⟨x3,H,z,rfl,rfl,B.out⟩);clear n k2 B;go_wp2;go_roundw
   case rel=>exact ⟨m0-1,u⟩
   case measure=>exact Nat.lt_of_le_of_lt (bY u.out).2 (by rw [O.out];exact Z)
end
def ed (l:List (Nat×Nat)):List Value:=l.map fun x=> .int .i64 (x.1:Int)
theorem kf (E:Nat->Nat) (W:Nat):(aP E W).length<=W:=by
 unfold aP bf;rw [List.length_map];have a:=List.length_filter_le (aU E) (List.range' 0 (W-0));rw [List.length_range'] at a;omega
def uk (E:Nat->Nat) (W:Nat) (w:World) (e:Ending) (w':World):Prop:=
 ∃v,e= .returned v∧w'.ownsRow (w.heap.size+2) 3 1 v (aP E W).length (ed (aP E W))∧Fr (fun _=>False) w w'
def yJ (L:aI) (W:Nat) (E:Nat->Nat) (tb c:Nat) (pre:List (Nat×Nat)) (S:Nat->Prop) (W':World):Prop:=
 ∃sl,S=(fun k=>k=c∨sl.ownBlock=some k)∧kH L tb W E W'∧aj W' c [sl] 123∧W'.ownsRow (tb+1) 3 1 sl pre.length (ed pre)
theorem yJ.stays {L:aI} {W:Nat} {E:Nat->Nat} {tb c B:Nat} (g:∀k,L.has k->k<B) (e:tb<B) (f:aN<B):cE B (yJ L W E tb c):=by
 rintro j S W1 q T ⟨sl,rfl,⟨l,m,n⟩,o,p⟩ hf b;have a:∀i,i<B->¬T i:=fun i r h=>by have:=(b i h).1;omega
 exact ⟨sl,rfl,⟨l.frame hf (fun k d=>a k (g k d)),ak m hf (a _ f),n.frame hf (a _ e)⟩,o.frame hf (fun h=>(b _ h).2 (.inl rfl)),bp p hf (fun k d h=>(b _ h).2 (.inr d))⟩
section
attribute [local go_sem] Oper.semAt_some
theorem qj (d:Nat) {w:World} {kb:Nat} {L:aI} {W:Nat} {E:Nat->Nat} (a:w.cell? ⟨kb,1,none⟩=some (.pointer (some ⟨L.m,0,none⟩))) (h:bD w L W E) (hT:bv w):CallsIn Fence.wide d Tryz.prog 207 #[kb] w (uk E W w):=by
 refine callsIn_of_wp_marks Tryz.func207 rfl trivial ?_ rfl;simp only [Tryz.ntmps207,List.size_toArray,List.length_cons,List.length_nil,Nat.reduceAdd,Nat.reduceSub,Array.replicate_succ,Array.replicate_zero,List.push_toArray,List.append_toArray,List.nil_append,List.cons_append];obtain ⟨a8,ax⟩:=h.small;have HX:=ae h;have HT:=ae hT;obtain ⟨i0,hi,a4,a5,a6⟩:=info_parts dQ;have Z:∀o,(w.alloc o).cell? ⟨kb,1,none⟩=some (.pointer (some ⟨L.m,0,none⟩)):=fun o=>by
  have hf:Fr (fun _=>False) w (w.alloc o):=(Fr.refl _ w).alloc o;exact (World.cell?_of_block (w:=w) (hf.block _ (aD a) (fun h=>h))).trans a
 have a9:=aD a;clear h hT;obtain ⟨f,p⟩:∃f,w.alloc (.cells #[.slice none 0 0] 123)=f:=⟨_,rfl⟩;have A:Fr (fun _=>False) w f:=by rw [<-p];exact (Fr.refl _ w).alloc _
 have z:aj f w.heap.size [.slice none 0 0] 123:=by rw [<-p];exact aj.new w _ _
 have r:f.heap.size=w.heap.size+1:=by rw [<-p];exact Array.size_push _
 have HA:=ae (dN L.m f);have a0:f.cell? ⟨kb,1,none⟩=some (.pointer (some ⟨L.m,0,none⟩)):=by rw [<-p];exact Z _
 have V:=ae (af A (af z r));clear A z r a Z;gi_wp2;clear p a0;refine bx ((HA.out).mono ?_);rintro e U ⟨rfl,C⟩;have u:Fr (fun _=>False) f U:=by rw [C];exact (Fr.refl _ f).alloc _
 have ap:aj U f.heap.size [.pointer (some ⟨L.m,0,none⟩)] 132:=by rw [C];exact aj.new f _ _
 have av:U.heap.size=f.heap.size+1:=by rw [C];exact Array.size_push _
 obtain ⟨A,z,r⟩:=V.out;have y:Fr (fun _=>False) w U:=A.trans u (fun _ h=>h.elim);have aq:aN<w.heap.size:=aD (HT.out 0 0 rfl);have O:yJ L W E f.heap.size w.heap.size [] (fun k=>k=w.heap.size∨(Value.slice none 0 0).ownBlock=some k) U:=⟨_,rfl,⟨HX.out.frame y (fun _ _ h=>h),ak HT.out y (fun h=>h),ap⟩,z.frame u (fun h=>h),World.ownsRow_nil _ _ _ _⟩;have v:cE U.heap.size (yJ L W E f.heap.size w.heap.size):=yJ.stays (fun k a=>by have:=HX.out.lt k a;omega) (by omega) (by omega);have B:=ae (af y (af av (af r aq)));clear C u ap z A V HA av r aq y;gi_wp2;refine dv (gf:=220) (lb:= #[f.heap.size]) rfl (enters_of Tryz.func220 (by kernel_rfl) rfl) (encs:=gm) (fun _=>rfl) (dM (L:=L) (tb:=f.heap.size) (E:=E) ax) (yJ L W E f.heap.size w.heap.size) _ v (fun _ _ _ h=>h.choose_spec.2.1) (fun k a=>by have:=B.out.2.1;have:=B.out.2.2.1;rcases a with h|h;omega;simp [Value.ownBlock] at h) O
  ?a1 ?assign ?body ?done
 case assign=>
  intro k x W K hK;unfold gm;gi_wp2;exact hK
 case body=>
  intro l b S x c hI J hf hs;obtain ⟨sl,rfl,T,I,N⟩:=hI;obtain ⟨s,n⟩:=x;have c0:=I.cell 0 rfl;have R:=B.out;have a2:b.length<1048576:=by
   have h1:=(List.getElem?_eq_some_iff.1 J).1;have h2:=kf E W;omega
  have HB:=ae (af T (af I N));have Q:=hf.size;clear hf hs J O v T I N;gi_wp2_with (gi_at_builtin;refine Hid.out ?_)
  unfold Hid;have P:Fr (fun _=>False) c (c.alloc (.cells #[.int .i64 s] 3)):=(Fr.refl _ c).alloc _;have M:aj (c.alloc (.cells #[.int .i64 s] 3)) c.heap.size [.int .i64 s] 3:=aj.new c _ _;have a7:(c.alloc (.cells #[.int .i64 s] 3)).heap.size=c.heap.size+1:=Array.size_push _;have am:=bp HB.out.2.2 P (fun _ _ h=>h);refine wpListIn_append_own_at _ rfl _ _ 123 rfl (f.heap.size+1) 3 i0 _ 1 8 Tryz.underlying123 hi a4 a5 a6 rfl (by decide) sl b.length (ed b) rfl am ⟨c.heap.size,0,none⟩ 1 1 [.int .i64 s] rfl rfl ?_ ?_ (by unfold maxLen;omega) (by omega) (by omega) ?_
  ·intro j u' hj;have:=M.cell j hj;rwa [show ((⟨c.heap.size,0,none⟩:Addr).add j)=⟨c.heap.size,j,none⟩ by unfold Addr.add;split<;>simp_all]
  ·intro u' a3;rw [List.mem_singleton.1 a3];rfl
  ·intro v' w3 H hg _ hv;obtain ⟨g,cap,rfl⟩:∃g cap,v'= .slice (some ⟨g,0,none⟩) (b.length+1) cap:=by
    rcases H.2 with ⟨_,h⟩|⟨g,cap,_,h,_⟩
    ·omega
    ·exact ⟨g,cap,h⟩
   obtain ⟨⟨T,q2,q3⟩,I,N⟩:=HB.out;have q:=fun k (a:sl.ownBlock=some k)=>N.lt k a
   have u:Fr (fun k=>sl.ownBlock=some k) c w3:=(P.mono (S':=fun k=>sl.ownBlock=some k) (fun _ h=>h.elim)).trans (Fr.of_grown hg) (fun i hi=> .inl hi);have F:=I.frame u (fun h=>by have:=(q _ h).1;omega);have c3:=F.cell 0 rfl;have f3:=F.free 0;have HE:Hid (∀w4,w4=w3.setCell ⟨w.heap.size,0,none⟩ (.slice (some ⟨g,0,none⟩) (b.length+1) cap)->uh (yJ L W E f.heap.size w.heap.size) (b++[(s,n)]) (fun k=>k=w.heap.size∨sl.ownBlock=some k) c w4):=by
    show∀w4,_
    rintro w4 rfl;have G:Fr (fun k=>k=w.heap.size∨sl.ownBlock=some k) c (w3.setCell ⟨w.heap.size,0,none⟩ (.slice (some ⟨g,0,none⟩) (b.length+1) cap)):=(u.mono (fun k a=> .inl (.inr a))).setCell ⟨w.heap.size,0,none⟩ (.inl (.inl rfl)) _;have bb:∀k,k<w.heap.size+2->k≠w.heap.size->(∀j,sl.ownBlock=some j->j≠k)->¬(k=w.heap.size∨sl.ownBlock=some k):=fun k _ h1 h2 h=>by
     rcases h with h|h
     ·exact h1 h
     ·exact h2 k h rfl
    refine ⟨_,⟨.slice (some ⟨g,0,none⟩) (b.length+1) cap,rfl,⟨T.frame G ?_,ak q2 G ?_,q3.frame G ?_⟩,F.set 0 _,?_⟩,G,?_⟩
    ·rintro k a (h|h)
     ·have:=HX.out.lt k a;omega
     ·have:=HX.out.lt k a;have:=(q k h).1;omega
    ·rintro (h|h)
     ·have:=R.2.2.2;unfold aN at this;omega
     ·have:=R.2.2.2;have:=(q _ h).1;unfold aN at*;omega
    ·rintro (h|h)
     ·omega
     ·have:=(q _ h).1;omega
    ·rw [List.length_append,show ed (b++[(s,n)])=ed b++[.int .i64 s] by simp [ed]];exact bp H ((Fr.refl (fun k=>k=w.heap.size) w3).setCell ⟨w.heap.size,0,none⟩ (.inl rfl) _) (fun k a e=>by have:=(H.lt k a).1;omega)
    ·rintro k (h|h)
     ·exact .inl (.inl h)
     ·rcases hv with e|e
      ·exact .inl (.inr (by rw [<-e];exact h))
      ·rw [e] at h;simp only [Option.some.injEq] at h;exact .inr (by omega)
   clear P M a7 am H hg hv T q2 q3 I N q u F HB c0 Q R a2;gi_wp2;exact HE.out _ rfl
 case done=>
  intro D S c hI hD ad ah hf hs;obtain ⟨sl,rfl,T,I,N⟩:=hI;have c0:=I.cell 0 rfl;have R:=B.out;have Q:=R.1.size;have Y:Fr (fun _=>False) w c:=R.1.trans hf (fun k a=> .inr (by
   rcases a with h|h
   ·omega
   ·simp [Value.ownBlock] at h))
  have HD:=ae hD;have hQ:uk E W w (.returned sl) (c.putObj D (.deferred none)):=by
   have X:Fr (fun k=>k=D) c (c.putObj D (.deferred none)):=(Fr.refl _ c).putObj _ _ (.inl rfl);refine ⟨sl,rfl,?_,Y.trans X (fun k a=> .inr (by omega))⟩;rw [<-show f.heap.size+1=w.heap.size+2 by omega];exact bp N X (fun k a e=>ah (.inr (by rw [<-e];exact a)))
  have HQ:=ae hQ;clear hf hs T I N R Q Y hQ O v hD ah ad;gi_wp2;refine ⟨by simp,.inl ⟨_,_,rfl,run_takeDeferred HD.out,?_⟩⟩;exact ⟨_,results_tmp (t:=2) rfl _ _ _,HQ.out⟩
end
structure kV (G:Gr) (rs:List Nat) (N Rm no0:Nat) (pend:Nat->Prop) (st:dC):Prop where
 inv:ef G rs N Rm st
 xs:st.xs=[]
 all:∀b,st.E b≠0->rO G st.E b∨st.lost=true∨pend b
 lost:st.lost=true->no0<st.no
 le:no0<=st.no
section
variable {G:Gr} {rs:List Nat} {N Rm no0:Nat} {pend pend':Nat->Prop} {st st1 cur:dC}
theorem kV.go (h:kV G rs N Rm no0 pend st) (d:eU st st1) (hp:∀b,pend b->st1.E b≠0->pend' b∨rO G st1.E b) (c:kT G rs N Rm st1 cur []) (l:cur.xs=[]):
  kV G rs N Rm no0 pend' cur∧∀b,st1.E b≠0->cur.E b≠0:=by
 refine ⟨⟨c.inv,l,fun b m=> ?_,fun e=> ?_,Nat.le_trans h.le (Nat.le_trans d.no c.no)⟩,c.mono⟩
 ·rcases c.all b m with a|a|a|a|⟨a,i⟩
  ·exact .inl a
  ·rw [l] at a;exact absurd a (List.not_mem_nil)
  ·exact absurd a (List.not_mem_nil)
  ·exact .inr (.inl a)
  ·rcases d.new b a with f|f|f
   ·rcases h.all b f with g|g|g
    ·exact .inl (fun p hp j=>c.mono p (d.mono p (g p hp j)))
    ·exact .inr (.inl (c.lost (d.lost g)))
    ·rcases hp b g a with k|k
     ·exact .inr (.inr k)
     ·exact .inl (fun p hp j=>c.mono p (k p hp j))
   ·exact absurd f i
   ·exact .inr (.inl (c.lost f))
 ·have:=d.no;have:=c.no;have:=h.le;rcases c.lost' e with a|a
  ·rcases d.lost' a with i|i
   ·have:=h.lost i;omega
   ·omega
  ·omega
theorem kV.again (h:kV G rs N Rm no0 (fun _=>False) st) {W:Nat} (g:N<=W) (e:cu G rs N):kV G rs N Rm st.no (fun b=>b∈(aP st.E W).map (·.1)) {st with lost:=false}:=
 ⟨⟨h.inv.marked,h.inv.no,h.inv.nw,h.inv.xs,h.inv.rm⟩,h.xs,fun b a=> .inr (.inr (List.mem_map.2 ⟨(b,st.E b),bi.2 ⟨by
  have c:=(h.inv.marked b a);have d:=e.top b (by rw [<-c.2];exact a);have f:st.E b≠0:=a;rw [<-c.2] at d;show b<W
  omega,a,rfl⟩,rfl⟩)),(fun h=>by cases h),Nat.le_refl _⟩
theorem kV.done (h:kV G rs N Rm no0 (fun _=>False) st) (e:st.lost=false) (f:∀a∈rs,a≠0->st.E a≠0) (a:Nat):st.E a≠0↔Reach G rs a:=
 qc h.inv.marked f (fun b d=>by
  rcases h.all b d with c|c|c
  ·exact c
  ·rw [e] at c;cases c
  ·exact c.elim) a
end
section
variable {I:dZ} {t:TypeId} {v wk:Value} {L:Nat->Nat} {EL:aI} {W kb sb Rm:Nat} {S0:Nat->Prop} {w0:World} {PB:Nat->Prop} {wp:World} {S S1:Nat->Prop} {sv sv1:Value} {Hg high1 nr nv:Int} {st:dC} {w w1:World} {fl:Nat} {r:Value} {dom:Nat->Prop} {G:Gr} {rs:List Nat} {N:Nat}
theorem fb.fresh_ (b:aX t v fl r I dom) (h:fb I t v wk L EL W kb sb Rm S0 w0 PB wp S sv Hg nr nv st w) (hf:Fr (fun _=>False) w w1):fb I t v wk L EL W kb sb Rm S0 w0 PB wp S sv Hg nr nv st w1:=
 ⟨b.keep h.sp hf,h.blk.frame hf (fun h=>h),h.ext.frame hf (fun _ _ h=>h),h.stk.keep hf (fun h=>h) (fun _ _ h=>h),ak h.tab hf (fun h=>h),h.s0,h.sv0,h.fr.trans hf (fun _ h=>h.elim),fun k a=>by
  obtain ⟨c,d,e,f,g⟩:=h.prot k a;have:=hf.size;exact ⟨c,by omega,e,f,(hf.block k d (fun h=>h)).trans g⟩⟩
theorem fb.protect (c:aX t v fl r I dom) (h:fb I t v wk L EL W kb sb Rm S0 w0 PB wp S sv Hg nr nv st w) (hf:Fr (fun _=>False) w w1) {P:Nat->Prop} (e:∀g,P g->w.heap.size<=g∧g<w1.heap.size):fb I t v wk L EL W kb sb Rm S0 w0 P w1 S sv Hg nr nv st w1:=by
 have a:=h.fresh_ c hf;have f:=h.size;refine ⟨a.sp,a.blk,a.ext,a.stk,a.tab,a.s0,a.sv0,a.fr,fun k b=> ?_⟩;obtain ⟨i,d⟩:=e k b;exact ⟨by omega,d,fun b=>by have:=c.lt _ _ _ h.sp k b;omega,fun b=>by have:=h.svlt k b;omega,rfl⟩
theorem dy.unprotect (h:dy I t v wk L EL W kb sb Rm S0 w0 PB wp st w) (a:World):dy I t v wk L EL W kb sb Rm S0 w0 (fun _=>False) a st w:=by
 obtain ⟨S,sv,Hg,nr,nv,h⟩:=h;exact ⟨S,sv,Hg,nr,nv,h.sp,h.blk,h.ext,h.stk,h.tab,h.s0,h.sv0,h.fr,fun _ h=>h.elim⟩
end
end Go.Proofs.YthahbijbpinneaaGreatDoor
