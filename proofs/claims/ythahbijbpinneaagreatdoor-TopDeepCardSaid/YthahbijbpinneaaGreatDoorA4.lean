import Derived.Test.YthahbijbpinneaaGreatDoorA3
set_option maxRecDepth 100000
set_option maxHeartbeats 8000000
set_option linter.all false
namespace Go.Proofs.YthahbijbpinneaaGreatDoor
open Go.RowKit
section
open Go.RowKit Go.Shelf
def wU (W k:Nat) (E:Nat->Nat) (w:World) (e:Ending) (w':World):Prop:=
 ∃t,e= .returned (.tuple #[.pointer (some ⟨t,0,none⟩),.int .i64 0])∧gl w.heap.size w'.heap.size w' t W k (ai E)∧Fr (fun _=>False) w w'
theorem xJ {w w1 w2 C:World} {n g1 x b gb:Nat} {v:Value} {nb W k:Nat} {f:Nat->Bool} {ws:List Nat} (M:Fr (fun _=>False) w w1) (hf:Fr (fun _=>False) w1 w2)
  (R:aW w1 n g1 W ws) (s:∀j,aw ws j=f j) (h1:w.heap.size<=n) (h2:w.heap.size<=g1) (z:bQ w2 x b gb v W k nb f) (G:W<=nb*k) (H:(nb-1)*k<W) (I:1<=nb) (E:1<=k) (F:k<=1024) (u:bQ.from w1.heap.size x b gb v)
  (P:C=w2.alloc (.cells #[n,.pointer (some ⟨x,0,none⟩)] 341)) {D:Nat} (hD:w.heap.size<=D) (y:w2.heap[D]? =some (.deferred (some []))):
  gl w.heap.size (C.putObj D (.deferred none)).heap.size (C.putObj D (.deferred none)) w2.heap.size W k f∧Fr (fun _=>False) w (C.putObj D (.deferred none)):=by
 subst P;have T:=M.size;have U:=hf.size;have m:=R.frame hf (fun h=>h) (fun h=>h);have t:Fr (fun _=>False) w2 (w2.alloc (.cells #[.pointer (some ⟨n,0,none⟩),.pointer (some ⟨x,0,none⟩)] 341)):=(Fr.refl _ w2).alloc _;have d:Fr (fun k=>k=D) (w2.alloc (.cells #[.pointer (some ⟨n,0,none⟩),.pointer (some ⟨x,0,none⟩)] 341)) ((w2.alloc (.cells #[.pointer (some ⟨n,0,none⟩),.pointer (some ⟨x,0,none⟩)] 341)).putObj D (.deferred none)):=(Fr.refl _ _).putObj _ _ (.inl rfl);have J:=d.size;rw [World.size_alloc] at J;have O:=(Array.getElem?_eq_some_iff.1 y).1;obtain ⟨wr,p,_⟩:=z.vec;have a:∀i o,w2.heap[i]? =some o->o.isCells=true->i≠D:=fun i o L Q e=>by subst e;rw [y] at L;cases L;cases Q
 have l:∀{c:List Value} {V:TypeId} {i:Nat},aj w2 i c V->i≠D:=fun h=>a _ _ h rfl
 have r:∀g,v.ownBlock=some g->g≠D∧g<w2.heap.size:=fun g hg=>by
  rcases z.row.2 with ⟨rfl,_⟩|⟨g',cap,cur,rfl,_,K,_⟩
  ·cases hg
  ·simp only [Value.ownBlock,Option.some.injEq] at hg;subst hg;exact ⟨a _ _ K rfl,(Array.getElem?_eq_some_iff.1 K).1⟩
 have B:n≠D∧g1≠D:=⟨let ⟨_,_,q⟩:=m.blk;l q,let ⟨_,q⟩:=m.row;l q⟩;have A:b≠D∧gb≠D:=⟨let ⟨_,_,q⟩:=p.blk;l q,let ⟨_,q⟩:=p.row;l q⟩;have S:=l z.blk;have l1:=m.blt;have l2:=m.glt;have l3:=p.blt;have l4:=p.glt;have l5:=z.blk.lt;obtain ⟨X,Y,Z,N⟩:=u;refine ⟨⟨n,g1,x,b,gb,v,nb,?_,?_,⟨ws,(m.frame t (fun h=>h) (fun h=>h)).frame d B.1 B.2,s⟩,(z.keep t).frame d S A.1 A.2 (fun g hg=>(r g hg).1),G,H,I,E,F⟩,((M.trans hf (fun _ h=>h.elim)).trans t (fun _ h=>h.elim)).trans d (fun i hi=> .inr (by omega))⟩
 ·rintro i (h|h|h|h|h|h|h)
  ·omega
  ·omega
  ·omega
  ·omega
  ·omega
  ·omega
  ·have:=N i h;have:=(r i h).2;omega
 ·have:aj (w2.alloc (.cells #[n,.pointer (some ⟨x,0,none⟩)] 341)) w2.heap.size [.pointer (some ⟨n,0,none⟩),.pointer (some ⟨x,0,none⟩)] 341:=aj.new w2 _ _;exact this.frame d (by omega)
section
attribute [local go_sem] Oper.semAt_some
theorem xM (d:Nat) {w:World} {L:aI} {W k:Nat} {E:Nat->Nat} (h:bD w L W E) (hT:bv w) (N:aL (k:Int)=true) (a0:1<=k) (a2:k<=1024):CallsIn Fence.wide d Tryz.prog 217 #[L.m,.int .i64 k] w (wU W k E w):=by
 refine callsIn_of_wp_marks Tryz.func217 rfl trivial ?_ rfl;simp only [Tryz.ntmps217,List.size_toArray,List.length_cons,List.length_nil,Nat.reduceAdd,Nat.reduceSub,Array.replicate_succ,Array.replicate_zero,List.push_toArray,List.append_toArray,List.nil_append,List.cons_append];obtain ⟨bd,av⟩:=h.small;have U:=ae (cK h);have HV:=ae (fun w=>rK W bd av w);have HX:=ae h;have HT:=ae hT;have bb:((W:Int)==0)=false:=by rw [beq_eq_false_iff_ne];omega
 clear h hT;gi_wp2;refine bx ((U.out).mono ?_);rintro e w' ⟨rfl,rfl⟩;gi_wp2;refine bx ((U.out).mono ?_);rintro e w' ⟨rfl,rfl⟩;gi_wp2;refine bx ((HV.out _).mono ?_);rintro e w1 ⟨M,g1,rfl,hv,y,c,t⟩;obtain ⟨f,q⟩:∃f,w1.alloc (.cells #[M] 211)=f:=⟨_,rfl⟩;have a:Fr (fun _=>False) w1 f:=by rw [<-q];exact (Fr.refl _ w1).alloc _
 have A:aj f w1.heap.size [.pointer (some ⟨M,0,none⟩)] 211:=by rw [<-q];exact aj.new w1 _ _
 have HA:=ae (dN L.m f);have G:=ae (af hv (af y (af c (af t (af a A)))));have g:f.heap.size=w1.heap.size+1:=by rw [<-q];simp
 have H:=ae g;clear hv y c t a A HV U bb g;gi_wp2;clear q;refine bx ((HA.out).mono ?_);rintro e Y ⟨rfl,I⟩;have J:Fr (fun _=>False) f Y:=by rw [I];exact (Fr.refl _ f).alloc _
 have a3:aj Y f.heap.size [.pointer (some ⟨L.m,0,none⟩)] 132:=by rw [I];exact aj.new f _ _
 have a7:Y.heap.size=f.heap.size+1:=by rw [I];simp
 obtain ⟨hv,y,c,t,a,A⟩:=G.out;have z:Fr (fun _=>False) w1 Y:=a.trans J (fun _ h=>h.elim);have r:Fr (fun _=>False) w Y:=t.trans z (fun _ h=>h.elim);have g:=H.out;have b0:=t.size;have a5:=hv.blt;have a6:=hv.glt;have Z:oX L W E f.heap.size w1.heap.size M g1 [] (fun k=>k=g1) Y:=⟨rfl,⟨HX.out.frame r (fun _ _ h=>h),ak HT.out r (fun h=>h),a3⟩,A.frame J (fun h=>h),_,hv.frame z (fun h=>h) (fun h=>h),fun j=>by rw [gN];rfl⟩;have a4:1<w.heap.size:=aD (HT.out 0 0 rfl);have p:cE Y.heap.size (oX L W E f.heap.size w1.heap.size M g1):=oX.stays (fun k N=>by have:=HX.out.lt k N;omega) (by omega) (by omega) (by omega) (by omega);have Q:=ae (af J (af r (af a7 a4)));clear I J a3 a7 hv y c a A g r z b0 a4 HA t;gi_wp2;refine dv (gf:=220) (lb:= #[f.heap.size]) rfl (enters_of Tryz.func220 (by kernel_rfl) rfl) (encs:=gm) (fun _=>rfl) (dM (L:=L) (tb:=f.heap.size) (E:=E) av) (oX L W E f.heap.size w1.heap.size M g1) (fun k=>k=g1) p (fun _ _ _ h=>h.2.1) (fun k N=>by have:=H.out;have:=Q.out.2.2.1;omega) Z
  ?a1 ?assign ?body ?done
 case assign=>
  intro k x W K hK;unfold gm;gi_wp2;exact hK
 case body=>
  intro l b2 S x X hI O hf hs;obtain ⟨rfl,⟨q1,q2,q3⟩,q4,ws,q5,q6⟩:=hI;obtain ⟨s,n⟩:=x;obtain ⟨m1,m2,m3⟩:=bi.1 (List.mem_of_getElem? O);dsimp only at m1 m2 m3;have P:=HX.out.top s m2;rw [<-m3] at P;have hz:=Q.out;have g:=H.out;have c:=G.out.2.2.1;have aq:∀k,L.has k->¬k=g1:=fun k N=>by have:=HX.out.lt k N;omega
  have R:=ae (tM q5 (F:=s) (T:=s+n) (by omega) (by omega));rw [show ((s+n:Nat):Int)=(s:Int)+(n:Int) by omega] at R;have c0:=q4.cell 0 rfl;have HE:=ae (fun u C (r1:aW u M g1 W C) (r2:∀j,aw C j=(aw ws j||(decide (s<=j)&&decide (j<s+n)))) (B:Fr (fun k=>k=g1) X u)=>
   (show uh (oX L W E f.heap.size w1.heap.size M g1) (b2++[(s,n)]) (fun k=>k=g1) X u from
    ⟨fun k=>k=g1,⟨rfl,⟨q1.frame B aq,ak q2 B (by omega),q3.frame B (by omega)⟩,q4.frame B (by omega),C,r1,fun j=>by rw [r2,pr,q6]⟩,B,fun k h=> .inl h⟩))
  have y:(s:Int)<=1048576:=by omega
  have b3:(n:Int)<=1048576:=by omega
  clear hf hs q1 q2 q3 q4 q5 q6 O hz g c aq P m1 m2 m3 Z p a5 a6;gi_wp2;refine ny ((R.out).mono ?_);rintro e u ⟨⟨V,rfl⟩,C,r1,r2,B⟩;have a9:=ae (HE.out u C r1 r2 B);clear r1 r2 B HE R;gi_wp2;exact a9.out
 case done=>
  intro D S X hI hD b4 b5 hf hs;obtain ⟨rfl,⟨q1,q2,q3⟩,q4,ws,q5,q6⟩:=hI;have c0:=q4.cell 0 rfl;have o:∀j,aw ws j=ai E j:=fun j=>by rw [q6,pq HX.out.top]
  have HR:=ae (xW q5 N a0 a2);rw [funext o] at HR;have hz:=Q.out;have g:=H.out;have c:=G.out.2.2.1;have ax:Fr (fun _=>False) w X:=hz.2.1.trans hf (fun k N=> .inr (by omega));have bj:w.heap.size<=D:=by have:=hz.2.1.size;omega
  have hq:∀w2 i x b gb v nb,Fr (fun _=>False) X w2->bQ w2 x b gb v W k nb (ai E)->W<=nb*k->(nb-1)*k<W->1<=nb->bQ.from X.heap.size x b gb v->i=w2.alloc (.cells #[.pointer (some ⟨M,0,none⟩),.pointer (some ⟨x,0,none⟩)] 341)->
    gl w.heap.size (i.putObj D (.deferred none)).heap.size (i.putObj D (.deferred none)) w2.heap.size W k (ai E)∧Fr (fun _=>False) w (i.putObj D (.deferred none)):=fun w2 i x b gb v nb a hr bk bo bs ad hW=>
   xJ ax a q5 o G.out.2.1 c hr bk bo bs a0 a2 ad hW bj (a.heap hD (fun h=>h))
  have HQ:=ae hq;have ah:=ae (fun w2 (a:Fr (fun _=>False) X w2)=>(af ((q4.frame a (fun h=>h)).cell 0 rfl) (a.heap hD (fun h=>h))));clear hf hs q1 q2 q3 q4 q5 q6 hz g c Z p a5 a6 ax o N hq;gi_wp2;refine bx ((HR.out).mono ?_);rintro e w2 ⟨x,b,gb,v,nb,rfl,r1,r2,B,r4,r5,r6⟩;obtain ⟨d0,ap⟩:=ah.out w2 r6;have am:=ae (fun i hW=>HQ.out w2 i x b gb v nb r6 r1 r2 B r4 r5 hW);have a8:=ae ap;clear r1 r2 B r4 r5 r6 HQ HR ah c0 ap hD;gi_wp2;refine ⟨by simp,.inl ⟨_,_,rfl,run_takeDeferred (((Fr.refl (fun _=>False) w2).alloc _).heap a8.out (fun h=>h)),?_⟩⟩;exact ⟨_,results_tmp2 rfl _ _ _,w2.heap.size,rfl,(am.out _ rfl).1,(am.out _ rfl).2⟩
end
end
section
open Go.RowKit Go.Shelf
theorem xK {lo m:Nat} {w:World} {t W k:Nat} {f:Nat->Bool} (h:gl lo m w t W k f) (a:Nat) (l:a<W):Calls Tryz.prog 225 #[t,.int .i64 a] w fun e w'=>e= .returned (.bool (f a))∧w=w':=by
 obtain ⟨o,g1,x,b,gb,v,nb,c,g,⟨ws,i,j⟩,n⟩:=h;have p:=g.cell 0 rfl;have d:=ae (wy i l);rw [j] at d;generalize f a=fa at*;clear c g i j n
 go_enter Tryz.func225,Tryz.ntmps225
 go_wp2_with fail
 refine (d.out).mono ?_;rintro e w' ⟨rfl,rfl⟩;go_wp2;go_ret;exact ⟨rfl,rfl⟩
theorem oo {lo p:Nat} {w:World} {t W k:Nat} {f:Nat->Bool} (h:gl lo p w t W k f) (a:Nat) (o:a<=1048576):Calls Tryz.prog 226 #[t,.int .i64 a] w fun e w'=>e= .returned (.int .i64 ((cnt f 0 (min a W):Nat):Int))∧Fr (fun _=>False) w w':=by
 obtain ⟨y,g1,x,b,gb,v,nb,c,d,⟨ws,q,r⟩,g,i,s,u,j,l⟩:=h;have c1:=d.cell 1 rfl;have n:=ae (oA g i j l a o);generalize cnt f 0 (min a W)=N at*;clear c d q r g i s u j l
 go_enter Tryz.func226,Tryz.ntmps226
 go_wp2_with fail
 refine (n.out).mono ?_;rintro e w' ⟨rfl,hf⟩;have m:=ae hf;clear hf;go_wp2;go_ret;exact ⟨rfl,m.out⟩
theorem lF {lo j:Nat} {w:World} {t W k:Nat} {f:Nat->Bool} (h:gl lo j w t W k f):Calls Tryz.prog 219 #[t] w fun e w'=>e= .returned (.int .i64 ((cnt f 0 W:Nat):Int))∧w=w':=by
 obtain ⟨r,g1,x,b,gb,v,nb,a,c,⟨ws,l,m⟩,d,g,n,o,p,q⟩:=h;have c1:=c.cell 1 rfl;have i:=ae (tv d g);generalize cnt f 0 W=N at*;clear a c l m d g n o p q
 go_enter Tryz.func219,Tryz.ntmps219
 go_wp2_with fail
 refine (i.out).mono ?_;rintro e w' ⟨rfl,rfl⟩;go_wp2;go_ret;exact ⟨rfl,rfl⟩
theorem tg {lo A:Nat} {w:World} {t W k:Nat} {f:Nat->Bool} (h:gl lo A w t W k f) (n:bv w) (K:Nat) (m:K<cnt f 0 W):Calls Tryz.prog 287 #[t,.int .i64 K] w (mY f W K w):=by
 obtain ⟨D,g1,x,b,gb,v,nb,d,o,⟨ws,B,C⟩,p,q,r,s,u,y⟩:=h;have c1:=o.cell 1 rfl;have z:=ae (tz p n q r s u y K m);clear d o B C p q r s u y n m
 go_enter Tryz.func287,Tryz.ntmps287
 go_wp2_with fail
 refine (z.out).mono ?_;rintro e w' ⟨a,rfl,g,i,j,l⟩;have c:=ae (af g (af i (af j l)));clear g i j l;go_wp2;go_ret2;exact ⟨a,rfl,c.out.1,c.out.2.1,c.out.2.2.1,c.out.2.2.2⟩
end
section
open Go.RowKit Go.Shelf
theorem jj (f:Nat->Bool) (a n:Nat):(bf f a n).Pairwise (· < ·):=by
 unfold bf;exact List.Pairwise.filter _ List.pairwise_lt_range'
theorem eP {E:Nat->Nat} {W i:Nat} {x y:Nat×Nat} (c:(aP E W)[i]? =some x) (d:y∈(aP E W).take i):y.1<x.1:=by
 have hp:(aP E W).Pairwise (fun a b=>a.1<b.1):=by
  unfold aP;rw [List.pairwise_map];exact jj _ _ _
 rw [<-List.take_append_drop i (aP E W),List.pairwise_append] at hp;refine hp.2.2 y d x ?_;rw [List.mem_iff_getElem?];exact ⟨0,by rw [List.getElem?_drop,Nat.add_zero];exact c⟩
def cJ (lo hi:Nat) (w:World) (p W k:Nat) (E:Nat->Nat) (Ba:Nat):Prop:=
 ∃t o,lo<=p∧p<hi∧aj w p [.pointer (some ⟨t,0,none⟩),.pointer (some ⟨o,0,none⟩),.int .i64 Ba] 301∧gl lo hi w t W k (ai E)
theorem cJ.frame {lo a:Nat} {S:Nat->Prop} {w w':World} {p W k Ba:Nat} {E:Nat->Nat} (h:cJ lo a w p W k E Ba) (hf:Fr S w w') (b:∀i,S i->i<lo∨a<=i):cJ lo a w' p W k E Ba:=by
 obtain ⟨t,o,c,d,e,f⟩:=h;exact ⟨t,o,c,d,e.frame hf (fun h=>by rcases b _ h with h|h<;>omega),f.frame hf b⟩
theorem gl.wide {lo c a hi':Nat} {w:World} {t W k:Nat} {f:Nat->Bool} (h:gl lo c w t W k f) (g:a<=lo) (j:c<=hi'):gl a hi' w t W k f:=by
 obtain ⟨e,g1,x,b,gb,v,nb,d,q⟩:=h;exact ⟨e,g1,x,b,gb,v,nb,fun i c=>by have:=d i c;omega,q⟩
def lU (L L':aI) (W k:Nat) (E:Nat->Nat) (tb ob t lo hi:Nat) (pre:List (Nat×Nat)) (S:Nat->Prop) (w:World):Prop:=
 (S=L'.turns)∧kH L tb W E w∧aj w ob [.pointer (some ⟨L'.m,0,none⟩)] 132∧gl lo hi w t W k (ai E)∧pre=(aP E W).take pre.length∧∃E',bD w L' W E'∧∀a,E' a≠0->(a,E' a)∈pre
theorem lU.stays {L L':aI} {W k:Nat} {E:Nat->Nat} {tb f t lo b B:Nat} (n:∀k,L.has k->k<B) (c:∀k,L'.has k->k<B) (j:tb<B) (l:f<B) (z:b<=B) (m:1<B):cE B (lU L L' W k E tb f t lo b):=by
 rintro o S W1 y T ⟨rfl,⟨p,q,r⟩,s,u,v,g,w,x⟩ hf e;have a:∀i,i<B->¬T i:=fun i b h=>by have:=(e i h).1;omega
 exact ⟨rfl,⟨p.frame hf (fun k d=>a k (n k d)),ak q hf (a _ m),r.frame hf (a _ j)⟩,s.frame hf (a _ l),u.frame hf (fun i b=> .inr (by have:=(e i b).1;omega)),v,g,w.frame hf (fun k d=>a k (c k d)),x⟩
theorem lU.step {L L':aI} {W k:Nat} {E:Nat->Nat} {tb j t lo g s n:Nat} {b:List (Nat×Nat)} {w w':World} {c:Nat->Nat} (d:kH L tb W E w) (i:aj w j [.pointer (some ⟨L'.m,0,none⟩)] 132) (u:gl lo g w t W k (ai E)) (hp:b=(aP E W).take b.length)
  (x:∀a,c a≠0->(a,c a)∈b) (y:(aP E W)[b.length]? =some (s,n)) (v:bD w' L' W (br c s n)) (hf:Fr L'.turns w w') (l:∀k,L.has k->¬L'.turns k) (o:¬L'.turns tb) (p:¬L'.turns j) (q:∀k,L'.turns k->k<lo∨g<=k) (r:¬L'.turns 1):
  uh (lU L L' W k E tb j t lo g) (b++[(s,n)]) L'.turns w w':=
 ⟨L'.turns,⟨rfl,⟨d.1.frame hf l,ak d.2.1 hf r,d.2.2.frame hf o⟩,i.frame hf p,u.frame hf q,iY hp y,br c s n,v,fun a f=>by
  unfold br at f ⊢;by_cases e:a=s
  ·subst e;rw [if_pos rfl];simp
  ·rw [if_neg e] at f ⊢;exact List.mem_append_left _ (x a f)⟩,hf,fun k h=> .inl h⟩
def wN (W k:Nat) (E:Nat->Nat) (Ba:Nat) (w:World) (e:Ending) (w':World):Prop:=
 ∃p,e= .returned (.tuple #[.pointer (some ⟨p,0,none⟩),.int .i64 0])∧cJ w.heap.size w'.heap.size w' p W k E Ba∧Fr (fun _=>False) w w'
section
attribute [local go_sem] Oper.semAt_some
theorem ri (d:Nat) {w:World} {L:aI} {W k:Nat} {E:Nat->Nat} (h:bD w L W E) (hT:bv w) (y:aL (k:Int)=true) (a6:1<=k) (a7:k<=1024) (Ba:Nat) (hb:Ba<2147483648):CallsIn Fence.wide d Tryz.prog 152 #[L.m,.int .i64 k,.int .i64 Ba] w (wN W k E Ba w):=by
 refine callsIn_of_wp_marks Tryz.func152 rfl trivial ?_ rfl;simp only [Tryz.ntmps152,List.size_toArray,List.length_cons,List.length_nil,Nat.reduceAdd,Nat.reduceSub,Array.replicate_succ,Array.replicate_zero,List.push_toArray,List.append_toArray,List.nil_append,List.cons_append];obtain ⟨a5,ap⟩:=h.small;have HO:=ae (callsIn_wide.1 (xM 0 h hT y a6 a7));have X:=ae h;have HT:=ae hT;have HV:=ae (fun w=>gR W a5 ap w);obtain ⟨B,hB⟩:∃B:Int,(Ba:Int)=B:=⟨_,rfl⟩;have bj:B<2147483648:=by omega
 have bk:0<=B:=by omega
 rw [hB];have HB:=ae hB;clear h hT y hb hB;gi_wp2;refine bx ((HO.out).mono ?_);rintro e w1 ⟨t,rfl,hO,j⟩;have ah:=ae (cK (X.out.frame j (fun _ _ h=>h)));have H1:=ae (af hO j);clear hO j HO;gi_wp2;refine bx ((ah.out).mono ?_);rintro e w' ⟨rfl,rfl⟩;gi_wp2;refine bx ((HV.out _).mono ?_);rintro e w2 ⟨L',rfl,u,b,v⟩;obtain ⟨f,J⟩:∃f,w2.alloc (.cells #[L'.m] 132)=f:=⟨_,rfl⟩;have C:Fr (fun _=>False) w2 f:=by rw [<-J];exact (Fr.refl _ w2).alloc _
 have F:aj f w2.heap.size [.pointer (some ⟨L'.m,0,none⟩)] 132:=by rw [<-J];exact aj.new w2 _ _
 have R:=ae (show f.heap.size=w2.heap.size+1 by rw [<-J];simp);have HA:=ae (dN L.m f);have H2:=ae (af u (af b (af v (af C F))));clear u b v C F HV ah;gi_wp2;clear J;refine bx ((HA.out).mono ?_);rintro e I ⟨rfl,M⟩;have V:Fr (fun _=>False) f I:=by rw [M];exact (Fr.refl _ f).alloc _
 have ax:aj I f.heap.size [.pointer (some ⟨L.m,0,none⟩)] 132:=by rw [M];exact aj.new f _ _
 have am:=ae (show I.heap.size=f.heap.size+1 by rw [M];simp);obtain ⟨hO,j⟩:=H1.out;obtain ⟨u,b,v,C,F⟩:=H2.out;have A:Fr (fun _=>False) w2 I:=C.trans V (fun _ h=>h.elim);have z:Fr (fun _=>False) w1 I:=v.trans A (fun _ h=>h.elim);have q:Fr (fun _=>False) w I:=j.trans z (fun _ h=>h.elim);have a0:1<w.heap.size:=aD (HT.out 0 0 rfl);have a2:=j.size;have a3:=v.size;have a8:=R.out;have a9:=am.out;have g:=u.lt;have T:lU L L' W k E f.heap.size w2.heap.size t w.heap.size w1.heap.size [] L'.turns I:=⟨rfl,⟨X.out.frame q (fun _ _ h=>h),ak HT.out q (fun h=>h),ax⟩,F.frame V (fun h=>h),hO.frame z (fun _ h=>h.elim),rfl,fun _=>0,u.frame A (fun _ _ h=>h),fun a ha=>absurd rfl ha⟩;have o:cE I.heap.size (lU L L' W k E f.heap.size w2.heap.size t w.heap.size w1.heap.size):=lU.stays (fun k y=>by have:=X.out.lt k y;omega) (fun k y=>by have:=g k y;omega) (by omega) (by omega) (by omega) (by omega);have U:∀k,L'.turns k->k<I.heap.size:=fun k y=>by have:=g k (aI.turns_has y);omega
 have H3:=ae (af q (af a2 (af a3 a0)));clear M V ax hO j u b v C F A z q a0 a2 a3 a8 a9 g HA;gi_wp2;refine dv (gf:=220) (lb:= #[f.heap.size]) rfl (enters_of Tryz.func220 (by kernel_rfl) rfl) (encs:=gm) (fun _=>rfl) (dM (L:=L) (tb:=f.heap.size) (E:=E) ap) (lU L L' W k E f.heap.size w2.heap.size t w.heap.size w1.heap.size) L'.turns o (fun _ _ _ h=>h.2.1) U T
  ?a1 ?assign ?body ?done
 case assign=>
  intro k x W K hK;unfold gm;gi_wp2;exact hK
 case body=>
  intro l b1 S x p hI r hf hs;obtain ⟨rfl,q1,Y,q5,Z,E',q7,q8⟩:=hI;obtain ⟨s,n⟩:=x;obtain ⟨m1,m2,m3⟩:=bi.1 (List.mem_of_getElem? r);dsimp only at m1 m2 m3;have G:=X.out.top s m2;rw [<-m3] at G;have c:∀a,E' a≠0->a<s∧E' a=E a∧E a≠0:=fun a ha=>by
   have h1:=q8 a ha;have h2:=bi.1 (List.mem_of_mem_take (by rw [<-Z];exact h1));exact ⟨eP r (by rw [<-Z];exact h1),h2.2.2,h2.2.1⟩
  obtain ⟨g1,g2,g3,g4⟩:=H3.out;obtain ⟨_,b,_⟩:=H2.out;have g:=H2.out.1.lt;have z3:=R.out;have ad:=ae (rh q7 q1.2.1 s n (by omega) G (fun a ha=>by
   by_cases he:E' a=0
   ·omega
   ·obtain ⟨h1,h2,h3⟩:=c a he;rw [h2];exact X.out.apart a s h1 h3 m2) (fun a ha he=>by have:=(c a he).1;omega))
  have HE:=ae (fun H (r1:bD H L' W (br E' s n)) (r2:Fr L'.turns p H)=>lU.step (tb:=f.heap.size) q1 Y q5 Z q8 r r1 r2 (fun k y O=>by have:=X.out.lt k y;have:=b k (aI.turns_has O);omega) (fun O=>by have:=g _ (aI.turns_has O);omega) (fun O=>by have:=g _ (aI.turns_has O);omega) (fun k O=> .inr (by have:=b k (aI.turns_has O);omega)) (fun O=>by have:=b _ (aI.turns_has O);omega));have c0:=Y.cell 0 rfl;clear hf hs q1 Y q5 Z q7 q8 r G m1 m2 m3 T o c g1 g2 g3 g4 b g z3 U;gi_wp2;refine ny ((ad.out).mono ?_);rintro e H ⟨rfl,r1,r2⟩;have a4:=ae (HE.out H r1 r2);clear r1 r2 HE ad;gi_wp2;exact a4.out
 case done=>
  intro D S p hI hD bs b0 hf hs;obtain ⟨rfl,q1,Y,q5,Z,E',q7,q8⟩:=hI;have c0:=Y.cell 0 rfl;have Q:∀W2,W2=p.alloc (.cells #[t,.pointer (some ⟨L'.m,0,none⟩),.int .i64 B] 301)->cJ w.heap.size (W2.putObj D (.deferred none)).heap.size (W2.putObj D (.deferred none)) p.heap.size W k E Ba∧Fr (fun _=>False) w (W2.putObj D (.deferred none)):=by
   rintro W2 rfl;obtain ⟨g1,g2,g3,g4⟩:=H3.out;obtain ⟨_,b,_⟩:=H2.out;have z3:=R.out;have z4:=am.out;have bo:=hf.size;have bd:=(Array.getElem?_eq_some_iff.1 hD).1;have aq:Fr (fun _=>False) p (p.alloc (.cells #[.pointer (some ⟨t,0,none⟩),.pointer (some ⟨L'.m,0,none⟩),.int .i64 B] 301)):=(Fr.refl _ p).alloc _;have N:Fr (fun k=>k=D) (p.alloc (.cells #[.pointer (some ⟨t,0,none⟩),.pointer (some ⟨L'.m,0,none⟩),.int .i64 B] 301)) ((p.alloc (.cells #[.pointer (some ⟨t,0,none⟩),.pointer (some ⟨L'.m,0,none⟩),.int .i64 B] 301)).putObj D (.deferred none)):=(Fr.refl _ _).putObj _ _ (.inl rfl);have bb:=N.size;rw [World.size_alloc] at bb;have av:aj (p.alloc (.cells #[t,.pointer (some ⟨L'.m,0,none⟩),.int .i64 B] 301)) p.heap.size [.pointer (some ⟨t,0,none⟩),.pointer (some ⟨L'.m,0,none⟩),.int .i64 B] 301:=aj.new p _ _;refine ⟨⟨t,L'.m,by omega,by omega,by rw [HB.out];exact av.frame N (by omega),((q5.frame aq (fun _ h=>h.elim)).frame N (fun i hi=> .inr (by omega))).wide (Nat.le_refl _) (by omega)⟩,((g1.trans hf (fun k y=> .inr (by have:=b k (aI.turns_has y);omega))).trans aq (fun _ h=>h.elim)).trans N (fun i hi=> .inr (by omega))⟩
  have P:=ae Q;have HD:=ae hD;clear hf hs q1 Y q5 Z q7 q8 T o U Q hD;gi_wp2;refine ⟨by simp,.inl ⟨_,_,rfl,run_takeDeferred (((Fr.refl (fun _=>False) p).alloc _).heap HD.out (fun h=>h)),?_⟩⟩;exact ⟨_,results_tmp2 rfl _ _ _,p.heap.size,rfl,(P.out _ rfl).1,(P.out _ rfl).2⟩
end
end
section
open Go.RowKit Go.Shelf
theorem bA {E:Nat->Nat} {W:Nat} (a:W<=1048576):cnt (ai E) 0 W<=1048576:=by have:=ch (ai E) W;omega
theorem lg {lo b:Nat} {w:World} {p W k Ba:Nat} {E:Nat->Nat} (h:cJ lo b w p W k E Ba):Calls Tryz.prog 241 #[p] w fun e w'=>e= .returned (.int .i64 Ba)∧w=w':=by
 obtain ⟨t,o,c,d,a,f⟩:=h;have c2:=a.cell 2 rfl;clear c d a f
 go_enter Tryz.func241,Tryz.ntmps241
 go_wp2;go_ret;exact ⟨rfl,rfl⟩
theorem jQ {lo d:Nat} {w:World} {p W k Ba:Nat} {E:Nat->Nat} (h:cJ lo d w p W k E Ba):Calls Tryz.prog 192 #[p] w fun e w'=>e= .returned (.int .i64 ((cnt (ai E) 0 W:Nat):Int))∧w=w':=by
 obtain ⟨t,o,f,g,a,b⟩:=h;have i:=a.cell 0 rfl;have c:=ae (lF b);clear f g a b
 go_enter Tryz.func192,Tryz.ntmps192
 go_wp2_with fail
 refine (c.out).mono ?_;rintro e w' ⟨rfl,rfl⟩;go_wp2;go_ret;exact ⟨rfl,rfl⟩
theorem cJ.off {lo a:Nat} {w:World} {p W k Ba:Nat} {E:Nat->Nat} (h:cJ lo a w p W k E Ba):W<=1048576:=by
 obtain ⟨t,o,f,g,i,e,g1,x,b,gb,v,nb,c,j,⟨ws,d,l⟩,_⟩:=h;exact d.small
theorem ew {lo g:Nat} {w:World} {p W k Ba:Nat} {E:Nat->Nat} (h:cJ lo g w p W k E Ba) (r:Ba<=1048576):Calls Tryz.prog 153 #[p] w fun e w'=>e= .returned (.int .i64 ((Ba+cnt (ai E) 0 W:Nat):Int))∧Fr (fun _=>False) w w':=by
 have q:=bA (E:=E) h.off;obtain ⟨t,o,i,j,b,c⟩:=h;have n:=b.drew.cell 0 rfl;have c2:=b.drew.cell 2 rfl;have f:=ae (lF (c.frame ((Fr.refl (fun _=>False) w).drew) (fun _ h=>h.elim)));have d:=ae ((Fr.refl (fun _=>False) w).drew);rw [show ((Ba+cnt (ai E) 0 W:Nat):Int)=(Ba:Int)+((cnt (ai E) 0 W:Nat):Int) by omega];generalize cnt (ai E) 0 W=N at*;have l:(Ba:Int)<=1048576:=by omega
 have m:(N:Int)<=1048576:=by omega
 clear i j b c
 go_enter Tryz.func153,Tryz.ntmps153
 go_wp2;refine au (fun w'=>w'=w.drew) (by kernel_rfl) (by kernel_rfl) rfl ?_;refine ag (.pointer (some ⟨p,0,none⟩)) rfl (fun w a=>by go_simp) ?_;simp only [Act.put,aa,ab,ac];refine ag (.pointer (some ⟨p,0,none⟩)) rfl (fun w a=>by go_simp) ?_;simp only [Act.put,aa,ab,ac];refine ag (.pointer (some ⟨p,2,none⟩)) rfl (fun w a=>by go_simp) ?_;simp only [Act.put,aa,ab,ac];refine ag (.int .i64 Ba) rfl (fun w a=>by subst a;go_simp) ?_;simp only [Act.put,aa,ab,ac];refine ag (.pointer (some ⟨p,0,none⟩)) rfl (fun w a=>by go_simp) ?_;simp only [Act.put,aa,ab,ac];refine ag (.pointer (some ⟨p,0,none⟩)) rfl (fun w a=>by go_simp) ?_;simp only [Act.put,aa,ab,ac];refine ag (.pointer (some ⟨p,0,none⟩)) rfl (fun w a=>by go_simp) ?_;simp only [Act.put,aa,ab,ac];refine ag (.pointer (some ⟨t,0,none⟩)) rfl (fun w a=>by subst a;go_simp) ?_;simp only [Act.put,aa,ab,ac];refine az (.int .i64 N) 219 #[t] rfl (fun w=>by go_simp) (fun w a=>by subst a;exact (f.out).mono fun e w' h=>⟨h.1,h.2.symm⟩) ?_;simp only [Act.put,aa,ab,ac];refine ag (.int .i64 ((Ba:Int)+(N:Int))) rfl (fun w a=>by go_simp;rw [IntKind.wrap_i64];omega) ?_;simp only [Act.put,aa,ab,ac];refine ag (.int .i64 ((Ba:Int)+(N:Int))) rfl (fun w a=>by go_simp) ?_;simp only [Act.put,aa,ab,ac];refine wpQuiet_nil ?_;rintro w2 rfl;go_wp2;go_ret;exact ⟨rfl,d.out⟩
theorem mm {lo u:Nat} {w:World} {p W k Ba:Nat} {E:Nat->Nat} (h:cJ lo u w p W k E Ba) (C:Ba<=1048576) (a:Nat) (n:ai E a=true) (c:a<W):Calls Tryz.prog 157 #[p,.int .i64 a] w fun e w'=>e= .returned (.tuple #[.int .i64 ((goes E Ba a:Nat):Int),.int .i64 0])∧Fr (fun _=>False) w w':=by
 have B:=h.off;have s:=ch (ai E) a;obtain ⟨t,o,v,x,g,i⟩:=h;have A:=g.cell 0 rfl;have m:=ae (xK i a c);rw [n] at m;have j:=ae (fun w' (hf:Fr (fun _=>False) w.drew w')=>oo ((i.frame ((Fr.refl (fun _=>False) w).drew) (fun _ h=>h.elim)).frame hf (fun _ h=>h.elim)) a (by omega));rw [Nat.min_eq_left (Nat.le_of_lt c)] at j;have l:=ae (fun w' (hf:Fr (fun _=>False) w.drew w')=>(af ((g.drew.frame hf (fun h=>h)).cell 0 rfl) ((g.drew.frame hf (fun h=>h)).cell 2 rfl)));have q:=ae ((Fr.refl (fun _=>False) w).drew);unfold goes;rw [show ((Ba+cnt (ai E) 0 a:Nat):Int)=(Ba:Int)+((cnt (ai E) 0 a:Nat):Int) by omega];generalize cnt (ai E) 0 a=N at*;have y:(Ba:Int)<=1048576:=by omega
 have z:(N:Int)<=1048576:=by omega
 clear v x g i n
 go_enter Tryz.func157,Tryz.ntmps157
 go_wp2_with fail
 refine (m.out).mono ?_;rintro e w' ⟨rfl,rfl⟩;go_wp2;refine au (fun w'=>Fr (fun _=>False) w.drew w') (by kernel_rfl) (by kernel_rfl) (Fr.refl _ _) ?_;refine ag (.pointer (some ⟨p,0,none⟩)) rfl (fun w b=>by go_simp) ?_;simp only [Act.put,aa,ab,ac];refine ag (.pointer (some ⟨p,0,none⟩)) rfl (fun w b=>by go_simp) ?_;simp only [Act.put,aa,ab,ac];refine ag (.pointer (some ⟨p,2,none⟩)) rfl (fun w b=>by go_simp) ?_;simp only [Act.put,aa,ab,ac];refine ag (.int .i64 Ba) rfl (fun w b=>by have d:=(l.out _ b).2;go_simp) ?_;simp only [Act.put,aa,ab,ac];refine ag (.pointer (some ⟨p,0,none⟩)) rfl (fun w b=>by go_simp) ?_;simp only [Act.put,aa,ab,ac];refine ag (.pointer (some ⟨p,0,none⟩)) rfl (fun w b=>by go_simp) ?_;simp only [Act.put,aa,ab,ac];refine ag (.pointer (some ⟨p,0,none⟩)) rfl (fun w b=>by go_simp) ?_;simp only [Act.put,aa,ab,ac];refine ag (.pointer (some ⟨t,0,none⟩)) rfl (fun w b=>by have d:=(l.out _ b).1;go_simp) ?_;simp only [Act.put,aa,ab,ac];refine ag (.int .i64 a) rfl (fun w b=>by go_simp) ?_;simp only [Act.put,aa,ab,ac];refine az (.int .i64 N) 226 #[t,.int .i64 a] rfl (fun w=>by go_simp) (fun w b=>(j.out w b).mono fun e w' h=>⟨h.1,b.trans h.2 (fun _ h=>h.elim)⟩) ?_;simp only [Act.put,aa,ab,ac];refine ag (.int .i64 ((Ba:Int)+(N:Int))) rfl (fun w b=>by go_simp;rw [IntKind.wrap_i64];omega) ?_;simp only [Act.put,aa,ab,ac];refine ag (.int .i64 ((Ba:Int)+(N:Int))) rfl (fun w b=>by go_simp) ?_;simp only [Act.put,aa,ab,ac];refine ag (.int .i64 0) rfl (fun w b=>by go_simp) ?_;simp only [Act.put,aa,ab,ac];refine wpQuiet_nil ?_;intro w2 f;have r:=ae (q.out.trans f (fun _ h=>h.elim));clear f;go_wp2;go_ret2;exact ⟨rfl,r.out⟩
def qZ (E:Nat->Nat) (Ba W b a:Nat):Prop:=a<W∧ai E a=true∧goes E Ba a=b
theorem jL {E:Nat->Nat} {Ba W b:Nat} (e:Ba<=b) (f:b<Ba+cnt (ai E) 0 W):∃a,qZ E Ba W b a:=by
 obtain ⟨a,_,c,d,g⟩:=mz (ai E) 0 W (b-Ba) (by omega);exact ⟨a,c,d,by unfold goes;omega⟩
theorem iJ {lo O:Nat} {w:World} {p W k Ba:Nat} {E:Nat->Nat} (h:cJ lo O w p W k E Ba) (F:bv w) (L:Ba<=1048576) (b a:Nat) (l:qZ E Ba W b a):Calls Tryz.prog 271 #[p,.int .i64 b] w fun e w'=>e= .returned (.tuple #[.int .i64 a,.int .i64 0])∧Fr (fun _=>False) w w':=by
 have K:=h.off;have B:=ae (ew h L);obtain ⟨C,u,D⟩:=id l;have v:=ch (ai E) a;have y:=iE (Nat.zero_le a) C u;unfold goes at D;have x:=bA (E:=E) K;have j:=ae (fun w1 (hf:Fr (fun _=>False) w w1) w' (g:Fr (fun _=>False) w1.drew w')=>(show Calls Tryz.prog 287 #[.pointer (some ⟨(h.choose),0,none⟩),.int .i64 ((b:Int)-(Ba:Int))] w' fun e w2=>e= .returned (.tuple #[.int .i64 a,.bool true])∧Fr (fun _=>False) w' w2 from by
  obtain ⟨o,G,H,q,z⟩:=h.choose_spec;have m:Fr (fun _=>False) w w':=(hf.drew).trans g (fun _ h=>h.elim);rw [show (b:Int)-(Ba:Int)=((b-Ba:Nat):Int) by omega];refine (tg (z.frame m (fun _ h=>h.elim)) (ak F m (fun h=>h)) (b-Ba) (by omega)).mono ?_;rintro e w2 ⟨J,rfl,U,P,V,Q⟩;have:J=a:=ke (a:=0) (Nat.zero_le _) (Nat.zero_le _) P u (by omega);rw [this];exact ⟨rfl,Q⟩))
 obtain ⟨o,G,H,q,z⟩:=h.choose_spec;generalize h.choose=t at*;have c2:=q.cell 2 rfl;have A:=ae (fun w1 (hf:Fr (fun _=>False) w w1) w' (g:Fr (fun _=>False) w1.drew w')=>(af (((q.frame hf (fun h=>h)).drew.frame g (fun h=>h)).cell 0 rfl) (((q.frame hf (fun h=>h)).drew.frame g (fun h=>h)).cell 2 rfl)));rw [show ((Ba+cnt (ai E) 0 W:Nat):Int)=(Ba:Int)+((cnt (ai E) 0 W:Nat):Int) by omega] at B;generalize cnt (ai E) 0 W=N at*;generalize cnt (ai E) 0 a=M at*;have R:(Ba:Int)<=(b:Int):=by omega
 have S:(b:Int)<(Ba:Int)+(N:Int):=by omega
 have T:(b:Int)<=2097152:=by omega
 clear G H q z F l C u D v y x
 go_enter Tryz.func271,Tryz.ntmps271
 go_wp2_with fail
 refine (B.out).mono ?_;rintro e w1 ⟨rfl,f⟩;have i:=ae (A.out w1 f);have s:=ae (j.out w1 f);have r:=ae f;clear f A j c2;go_wp2;refine au (fun w'=>Fr (fun _=>False) w1.drew w') (by kernel_rfl) (by kernel_rfl) (Fr.refl _ _) ?_;refine ag (.pointer (some ⟨p,0,none⟩)) rfl (fun w c=>by go_simp) ?_;simp only [Act.put,aa,ab,ac];refine ag (.pointer (some ⟨p,0,none⟩)) rfl (fun w c=>by go_simp) ?_;simp only [Act.put,aa,ab,ac];refine ag (.pointer (some ⟨p,0,none⟩)) rfl (fun w c=>by go_simp) ?_;simp only [Act.put,aa,ab,ac];refine ag (.pointer (some ⟨t,0,none⟩)) rfl (fun w c=>by have d:=(i.out _ c).1;go_simp) ?_;simp only [Act.put,aa,ab,ac];refine ag (.int .i64 b) rfl (fun w c=>by go_simp) ?_;simp only [Act.put,aa,ab,ac];refine ag (.pointer (some ⟨p,0,none⟩)) rfl (fun w c=>by go_simp) ?_;simp only [Act.put,aa,ab,ac];refine ag (.pointer (some ⟨p,0,none⟩)) rfl (fun w c=>by go_simp) ?_;simp only [Act.put,aa,ab,ac];refine ag (.pointer (some ⟨p,2,none⟩)) rfl (fun w c=>by go_simp) ?_;simp only [Act.put,aa,ab,ac];refine ag (.int .i64 Ba) rfl (fun w c=>by have d:=(i.out _ c).2;go_simp) ?_;simp only [Act.put,aa,ab,ac];refine ag (.int .i64 ((b:Int)-(Ba:Int))) rfl (fun w c=>by go_simp;rw [IntKind.wrap_i64];omega) ?_;simp only [Act.put,aa,ab,ac];refine az (.tuple #[.int .i64 a,.bool true]) 287 #[.pointer (some ⟨t,0,none⟩),.int .i64 ((b:Int)-(Ba:Int))] rfl (fun w=>by go_simp) (fun w c=>(s.out w c).mono fun e w' h=>⟨h.1,c.trans h.2 (fun _ h=>h.elim)⟩) ?_;simp only [Act.put,aa,ab,ac];refine ag (.tuple #[.int .i64 a,.bool true]) rfl (fun w c=>by go_simp) ?_;simp only [Act.put,aa,ab,ac];refine ag (.int .i64 a) rfl (fun w c=>by go_simp) ?_;simp only [Act.put,aa,ab,ac];refine ag (.bool true) rfl (fun w c=>by go_simp) ?_;simp only [Act.put,aa,ab,ac];refine ag (.int .i64 a) rfl (fun w c=>by go_simp) ?_;simp only [Act.put,aa,ab,ac];refine ag (.bool true) rfl (fun w c=>by go_simp) ?_;simp only [Act.put,aa,ab,ac];refine wpQuiet_nil ?_;intro w2 n;have I:=ae ((r.out.drew).trans n (fun _ h=>h.elim));clear n;go_wp2;go_ret2;exact ⟨rfl,I.out⟩
end
section
open Go.RowKit Go.Shelf
theorem wv (N k:Nat) (a:aL (k:Int)=true) (b:1<=k) (c:k<=1048576) (d:N<=4194304) (w:World):Calls Tryz.prog 240 #[.int .i64 N,.int .i64 k] w fun e w'=>e= .returned (.int .i64 (((N+k-1)/k*k:Nat):Int))∧w=w':=by
 refine (zh (N:Int) (k:Int) (by omega) w).mono ?_;rintro e w' ⟨rfl,rfl⟩;refine ⟨?_,rfl⟩;have hf:yj (N:Int) (k:Int):=⟨a,by omega,by omega,by omega⟩;have:gC (N:Int) (k:Int) true=(((N+k-1)/k*k:Nat):Int):=by
  unfold gC;rw [if_pos hf];show ((N:Int)+(k:Int)-1)/(k:Int)*(k:Int)=_
  rw [show (N:Int)+(k:Int)-1=((N+k-1:Nat):Int) by omega];simp
 rw [this]
def iv (N k:Nat):Nat:=(N+k-1)/k
theorem xE {N k:Nat} (a:1<=k):(N+k-1)/k*k/k=iv N k:=Nat.mul_div_cancel _ (by omega)
theorem ql {N k:Nat} (b:1<=k):N<=iv N k*k:=by
 unfold iv;have:=Nat.div_add_mod (N+k-1) k;have a:=Nat.mod_lt (N+k-1) (show 0<k by omega);rw [Nat.mul_comm] at this;omega
theorem qm {N k j:Nat} (c:1<=k) (a:j<iv N k):j*k<N:=by
 unfold iv at a;have b:(j+1)*k<=N+k-1:=Nat.le_trans (Nat.mul_le_mul_right k a) (Nat.div_mul_le_self _ _);rw [Nat.succ_mul] at b;omega
def cl (lo hi:Nat) (w:World) (q W k:Nat) (E:Nat->Nat) (Ba:Nat):Prop:=
 ∃p,lo<=q∧q<hi∧aj w q [.pointer (some ⟨p,0,none⟩),.int .i64 k] 325∧cJ lo hi w p W k E Ba∧aL (k:Int)=true∧1<=k∧k<=1024
theorem cl.frame {lo a:Nat} {S:Nat->Prop} {w w':World} {q W k Ba:Nat} {E:Nat->Nat} (h:cl lo a w q W k E Ba) (hf:Fr S w w') (b:∀i,S i->i<lo∨a<=i):cl lo a w' q W k E Ba:=by
 obtain ⟨p,c,d,e,f,g⟩:=h;exact ⟨p,c,d,e.frame hf (fun h=>by rcases b _ h with h|h<;>omega),f.frame hf b,g⟩
theorem cl.keep {lo a:Nat} {w w':World} {q W k Ba:Nat} {E:Nat->Nat} (h:cl lo a w q W k E Ba) (hf:Fr (fun _=>False) w w'):cl lo a w' q W k E Ba:=h.frame hf (fun _ h=>h.elim)
theorem cJ.keep {lo a:Nat} {w w':World} {p W k Ba:Nat} {E:Nat->Nat} (h:cJ lo a w p W k E Ba) (hf:Fr (fun _=>False) w w'):cJ lo a w' p W k E Ba:=h.frame hf (fun _ h=>h.elim)
theorem cl.small {lo a:Nat} {w:World} {q W k Ba:Nat} {E:Nat->Nat} (h:cl lo a w q W k E Ba):W<=1048576:=by
 obtain ⟨p,c,d,e,b,f⟩:=h;exact b.off
theorem cJ.wide {lo b a hi':Nat} {w:World} {p W k Ba:Nat} {E:Nat->Nat} (h:cJ lo b w p W k E Ba) (c:a<=lo) (d:b<=hi'):cJ a hi' w p W k E Ba:=by
 obtain ⟨t,o,g,i,e,f⟩:=h;exact ⟨t,o,by omega,by omega,e,f.wide c d⟩
theorem xT {w:World} {L:aI} {W k:Nat} {E:Nat->Nat} (h:bD w L W E) (n:bv w) (f:aL (k:Int)=true) (a:1<=k) (b:k<=1024) (Ba:Nat) (o:Ba<2147483648):Calls Tryz.prog 190 #[L.m,.int .i64 k,.int .i64 Ba] w fun e w'=>∃q,e= .returned (.tuple #[.pointer (some ⟨q,0,none⟩),.int .i64 0])∧cl w.heap.size w'.heap.size w' q W k E Ba∧Fr (fun _=>False) w w':=by
 have g:=ae (callsIn_wide.1 (ri 0 h n f a b Ba o));have r:=ae (af f (af a b));obtain ⟨B,l⟩:∃B:Int,(Ba:Int)=B:=⟨_,rfl⟩;rw [l] at g ⊢;clear h n f o l
 go_enter Tryz.func190,Tryz.ntmps190
 go_wp2_with fail
 refine (g.out).mono ?_;rintro e w1 ⟨p,rfl,i,j⟩;have c:=ae (af i j);clear i j;go_wp2;go_ret2;have s:=c.out.2.size;have d:Fr (fun _=>False) w1 (w1.alloc (.cells #[.pointer (some ⟨p,0,none⟩),.int .i64 k] 325)):=(Fr.refl _ w1).alloc _;exact ⟨w1.heap.size,rfl,⟨p,s,by simp,aj.new w1 _ _,(c.out.1.keep d).wide (Nat.le_refl _) (by simp),r.out⟩,c.out.2.alloc _⟩
theorem dH {lo a:Nat} {w:World} {q W k Ba:Nat} {E:Nat->Nat} (h:cl lo a w q W k E Ba):Calls Tryz.prog 191 #[q] w fun e w'=>(∃p,e= .returned (.pointer (some ⟨p,0,none⟩))∧cJ lo a w p W k E Ba)∧w=w':=by
 obtain ⟨p,f,g,b,c,i⟩:=h;have j:=b.cell 0 rfl;have d:=ae c;clear f g b c i
 go_enter Tryz.func191,Tryz.ntmps191
 go_wp2;go_ret;exact ⟨⟨p,rfl,d.out⟩,rfl⟩
theorem jk {lo r:Nat} {w:World} {q W k Ba:Nat} {E:Nat->Nat} (h:cl lo r w q W k E Ba):Calls Tryz.prog 193 #[q] w fun e w'=>e= .returned (.int .i64 ((iv (cnt (ai E) 0 W) k:Nat):Int))∧Fr (fun _=>False) w w':=by
 obtain ⟨p,y,z,b,c,g,d,i⟩:=h;have A:=b.drew.cell 0 rfl;have c1:=b.drew.cell 1 rfl;have C:=bA (E:=E) c.off;have j:=ae (jQ (c.keep ((Fr.refl _ w).drew)));generalize cnt (ai E) 0 W=N at*;have l:=ae (wv N k g d (by omega) (by omega) w.drew);have f:=xE (N:=N) d;generalize (N+k-1)/k*k=M at*;have D:(M:Int).tdiv (k:Int)=((iv N k:Nat):Int):=by rw [bV,f]
 have s:((k:Int)==0)=false:=by rw [beq_eq_false_iff_ne];omega
 have t:(1:Int)<=(k:Int):=by omega
 have m:=ae ((Fr.refl (fun _=>False) w).drew);have x:iv N k<=N+k:=by unfold iv;exact Nat.le_trans (Nat.div_le_self _ _) (by omega)
 have u:k<=1024:=i;have v:¬k=0:=by omega
 generalize iv N k=B at*;have n:(B:Int)<=2097152:=by omega
 have o:(N:Int)<=1048576:=by omega
 clear y z b c g d i f
 go_enter Tryz.func193,Tryz.ntmps193
 go_wp2;refine au (fun w'=>w'=w.drew) (by kernel_rfl) (by kernel_rfl) rfl ?_;refine ag (.pointer (some ⟨q,0,none⟩)) rfl (fun w a=>by go_simp) ?_;simp only [Act.put,aa,ab,ac];refine ag (.pointer (some ⟨q,0,none⟩)) rfl (fun w a=>by go_simp) ?_;simp only [Act.put,aa,ab,ac];refine ag (.pointer (some ⟨q,0,none⟩)) rfl (fun w a=>by go_simp) ?_;simp only [Act.put,aa,ab,ac];refine ag (.pointer (some ⟨p,0,none⟩)) rfl (fun w a=>by subst a;go_simp) ?_;simp only [Act.put,aa,ab,ac];refine az (.int .i64 N) 192 #[p] rfl (fun w=>by go_simp) (fun w a=>by subst a;exact (j.out).mono fun e w' h=>⟨h.1,h.2.symm⟩) ?_;simp only [Act.put,aa,ab,ac];refine ag (.pointer (some ⟨q,0,none⟩)) rfl (fun w a=>by go_simp) ?_;simp only [Act.put,aa,ab,ac];refine ag (.pointer (some ⟨q,0,none⟩)) rfl (fun w a=>by go_simp) ?_;simp only [Act.put,aa,ab,ac];refine ag (.pointer (some ⟨q,1,none⟩)) rfl (fun w a=>by go_simp) ?_;simp only [Act.put,aa,ab,ac];refine ag (.int .i64 k) rfl (fun w a=>by subst a;go_simp) ?_;simp only [Act.put,aa,ab,ac];refine az (.int .i64 M) 240 #[.int .i64 N,.int .i64 k] rfl (fun w=>by go_simp) (fun w a=>by subst a;exact (l.out).mono fun e w' h=>⟨h.1,h.2.symm⟩) ?_;simp only [Act.put,aa,ab,ac];refine ag (.pointer (some ⟨q,0,none⟩)) rfl (fun w a=>by go_simp) ?_;simp only [Act.put,aa,ab,ac];refine ag (.pointer (some ⟨q,0,none⟩)) rfl (fun w a=>by go_simp) ?_;simp only [Act.put,aa,ab,ac];refine ag (.pointer (some ⟨q,1,none⟩)) rfl (fun w a=>by go_simp) ?_;simp only [Act.put,aa,ab,ac];refine ag (.int .i64 k) rfl (fun w a=>by subst a;go_simp) ?_;simp only [Act.put,aa,ab,ac];refine ag (.int .i64 B) rfl (fun w a=>by go_simp;rw [IntKind.wrap_i64];omega) ?_;simp only [Act.put,aa,ab,ac];refine ag (.int .i64 B) rfl (fun w a=>by go_simp) ?_;simp only [Act.put,aa,ab,ac];refine wpQuiet_nil ?_;rintro w2 rfl;go_wp2;go_ret;exact ⟨rfl,m.out⟩
end
section
open Go.RowKit Go.Shelf
theorem sm {lo j:Nat} {w:World} {p W k Ba:Nat} {E:Nat->Nat} (h:cJ lo j w p W k E Ba) (i:Ba<=1048576) (b:Nat) (c:Ba+cnt (ai E) 0 W<=b):Calls Tryz.prog 271 #[p,.int .i64 b] w fun e w'=>e= .returned (.tuple #[.int .i64 0,.int .i64 11])∧Fr (fun _=>False) w w':=by
 have d:=ae (ew h i);rw [show ((Ba+cnt (ai E) 0 W:Nat):Int)=(Ba:Int)+((cnt (ai E) 0 W:Nat):Int) by omega] at d;obtain ⟨t,o,l,m,f,n⟩:=h;have c2:=f.cell 2 rfl;generalize cnt (ai E) 0 W=N at*;have q:(Ba:Int)<=(b:Int):=by omega
 have r:(Ba:Int)+(N:Int)<=(b:Int):=by omega
 clear l m f n c
 go_enter Tryz.func271,Tryz.ntmps271
 go_wp2_with fail
 refine (d.out).mono ?_;rintro e w1 ⟨rfl,a⟩;have g:=ae a;clear a;go_wp2;go_ret2;exact ⟨rfl,g.out⟩
theorem kj {lo l:Nat} {w:World} {q W k Ba:Nat} {E:Nat->Nat} (h:cl lo l w q W k E Ba) (j:Ba<=1048576) (b:Nat) (a:Ba+cnt (ai E) 0 W<=b):Calls Tryz.prog 317 #[q,.int .i64 b] w fun e w'=>e= .returned (.tuple #[.int .i64 0,.int .i64 11])∧Fr (fun _=>False) w w':=by
 obtain ⟨p,m,n,f,g,o,r,s⟩:=h;have t:=f.cell 0 rfl;have i:=ae (sm g j b a);clear m n f g o r s a
 go_enter Tryz.func317,Tryz.ntmps317
 go_wp2_with fail
 refine (i.out).mono ?_;rintro e w1 ⟨rfl,c⟩;have d:=ae c;clear c;go_wp2;go_ret2;exact ⟨rfl,d.out⟩
theorem lJ {lo C:Nat} {w:World} {q W k Ba:Nat} {E:Nat->Nat} (h:cl lo C w q W k E Ba) (s:bv w) (z:Ba<=1048576) (b:Nat) (f:Ba<=b) (g:b<Ba+cnt (ai E) 0 W):Calls Tryz.prog 317 #[q,.int .i64 b] w fun e w'=>e= .returned (.tuple #[.int .i64 (((b-Ba)/k:Nat):Int),.int .i64 0])∧Fr (fun _=>False) w w':=by
 obtain ⟨p,G,H,i,j,I,J,K⟩:=h;have x:=i.cell 0 rfl;obtain ⟨a,t⟩:=jL f g;have y:=bA (E:=E) j.off;have v:=ae (iJ j s z b a t);have n:=ae (fun w1 (hf:Fr (fun _=>False) w w1)=>(af ((i.frame hf (fun h=>h)).drew.cell 0 rfl) (af ((i.frame hf (fun h=>h)).drew.cell 1 rfl) (lg (j.keep (hf.drew))))));have A:(b:Int)-(Ba:Int)=((b-Ba:Nat):Int):=by omega
 obtain ⟨D,r⟩:∃D,b-Ba=D:=⟨_,rfl⟩;rw [r] at A ⊢;have R:(D:Int).tdiv (k:Int)=((D/k:Nat):Int):=bV D k;have m:D/k<=D:=Nat.div_le_self _ _;generalize D/k=B at*;have F:¬k=0:=by omega
 have L:(B:Int)<=1048576:=by omega
 have M:(b:Int)<=2097152:=by omega
 have N:(Ba:Int)<=(b:Int):=by omega
 have O:(D:Int)<=2097152:=by omega
 clear G H i j I J K t r f g y m s
 go_enter Tryz.func317,Tryz.ntmps317
 go_wp2_with fail
 refine (v.out).mono ?_;rintro e w1 ⟨rfl,d⟩;have l:=ae d;obtain ⟨P,Q,o⟩:=n.out w1 d;have u:=ae o;clear d o n x;go_wp2;refine au (fun w'=>w'=w1.drew) (by kernel_rfl) (by kernel_rfl) rfl ?_;refine ag (.int .i64 b) rfl (fun w c=>by go_simp) ?_;simp only [Act.put,aa,ab,ac];refine ag (.pointer (some ⟨q,0,none⟩)) rfl (fun w c=>by go_simp) ?_;simp only [Act.put,aa,ab,ac];refine ag (.pointer (some ⟨q,0,none⟩)) rfl (fun w c=>by go_simp) ?_;simp only [Act.put,aa,ab,ac];refine ag (.pointer (some ⟨q,0,none⟩)) rfl (fun w c=>by go_simp) ?_;simp only [Act.put,aa,ab,ac];refine ag (.pointer (some ⟨p,0,none⟩)) rfl (fun w c=>by subst c;go_simp) ?_;simp only [Act.put,aa,ab,ac];refine az (.int .i64 Ba) 241 #[p] rfl (fun w=>by go_simp) (fun w c=>by subst c;exact (u.out).mono fun e w' h=>⟨h.1,h.2.symm⟩) ?_;simp only [Act.put,aa,ab,ac];refine ag (.int .i64 D) rfl (fun w c=>by go_simp;rw [IntKind.wrap_i64];omega) ?_;simp only [Act.put,aa,ab,ac];refine ag (.pointer (some ⟨q,0,none⟩)) rfl (fun w c=>by go_simp) ?_;simp only [Act.put,aa,ab,ac];refine ag (.pointer (some ⟨q,0,none⟩)) rfl (fun w c=>by go_simp) ?_;simp only [Act.put,aa,ab,ac];refine ag (.pointer (some ⟨q,1,none⟩)) rfl (fun w c=>by go_simp) ?_;simp only [Act.put,aa,ab,ac];refine ag (.int .i64 k) rfl (fun w c=>by subst c;go_simp) ?_;simp only [Act.put,aa,ab,ac];refine ag (.int .i64 B) rfl (fun w c=>by go_simp;rw [IntKind.wrap_i64];omega) ?_;simp only [Act.put,aa,ab,ac];refine ag (.int .i64 B) rfl (fun w c=>by go_simp) ?_;simp only [Act.put,aa,ab,ac];refine ag (.int .i64 0) rfl (fun w c=>by go_simp) ?_;simp only [Act.put,aa,ab,ac];refine wpQuiet_nil ?_;rintro w2 rfl;go_wp2;go_ret2;exact ⟨rfl,l.out.drew⟩
theorem ko {lo I:Nat} {w:World} {q W k Ba:Nat} {E:Nat->Nat} (h:cl lo I w q W k E Ba) (H:Ba<=1048576) (K:Nat) (z:K<iv (cnt (ai E) 0 W) k):Calls Tryz.prog 196 #[q,.int .i64 K] w fun e w'=>e= .returned (.tuple #[.int .i64 ((Ba+K*k:Nat):Int),.int .i64 ((min (Ba+K*k+k) (Ba+cnt (ai E) 0 W):Nat):Int),.int .i64 0])∧Fr (fun _=>False) w w':=by
 have f:=ae (jk h);obtain ⟨p,L,O,j,l,P,A,Q⟩:=h;have Y:=bA (E:=E) l.off;have r:=qm A z;have s:=ae (fun w1 (hf:Fr (fun _=>False) w w1)=>(af ((j.frame hf (fun h=>h)).drew.cell 0 rfl) (af ((j.frame hf (fun h=>h)).drew.cell 1 rfl) (lg (l.keep (hf.drew))))));have m:=ae (fun w1 (hf:Fr (fun _=>False) w w1)=>ew (l.keep hf) H);have g:=ae (fun w1 (hf:Fr (fun _=>False) w w1)=>(af ((j.frame hf (fun h=>h)).cell 0 rfl) ((j.frame hf (fun h=>h)).cell 1 rfl)));rw [show ((Ba+cnt (ai E) 0 W:Nat):Int)=(Ba:Int)+((cnt (ai E) 0 W:Nat):Int) by omega] at m;have o:K<=K*k:=Nat.le_mul_of_pos_right K (by omega);have G:(K:Int)*(k:Int)=((K*k:Nat):Int):=by simp
 have J:iv (cnt (ai E) 0 W) k<=cnt (ai E) 0 W+k:=by unfold iv;exact Nat.le_trans (Nat.div_le_self _ _) (by omega)
 generalize cnt (ai E) 0 W=N at*;generalize iv N k=B at*;generalize K*k=M at*;have v:((Ba+M:Nat):Int)=(Ba:Int)+(M:Int):=by omega
 have x:((min (Ba+M+k) (Ba+N):Nat):Int)=min ((Ba:Int)+(M:Int)+(k:Int)) ((Ba:Int)+(N:Int)):=by omega
 rw [v,x];have R:(K:Int)<(B:Int):=by omega
 have S:(M:Int)<=1048576:=by omega
 have T:(k:Int)<=1024:=by omega
 have U:(Ba:Int)<=1048576:=by omega
 have V:(N:Int)<=1048576:=by omega
 have X:(B:Int)<=2097152:=by omega
 clear L O j l P A Q v x r z o
 go_enter Tryz.func196,Tryz.ntmps196
 go_wp2_with fail
 refine (f.out).mono ?_;rintro e w1 ⟨rfl,c⟩;obtain ⟨D,F,y⟩:=s.out w1 c;have t:=ae y;have b:=ae c;clear c y f;go_wp2;refine au (fun w'=>w'=w1.drew) (by kernel_rfl) (by kernel_rfl) rfl ?_;refine ag (.pointer (some ⟨q,0,none⟩)) rfl (fun w a=>by go_simp) ?_;simp only [Act.put,aa,ab,ac];refine ag (.pointer (some ⟨q,0,none⟩)) rfl (fun w a=>by go_simp) ?_;simp only [Act.put,aa,ab,ac];refine ag (.pointer (some ⟨q,0,none⟩)) rfl (fun w a=>by go_simp) ?_;simp only [Act.put,aa,ab,ac];refine ag (.pointer (some ⟨p,0,none⟩)) rfl (fun w a=>by subst a;go_simp) ?_;simp only [Act.put,aa,ab,ac];refine az (.int .i64 Ba) 241 #[p] rfl (fun w=>by go_simp) (fun w a=>by subst a;exact (t.out).mono fun e w' h=>⟨h.1,h.2.symm⟩) ?_;simp only [Act.put,aa,ab,ac];refine ag (.int .i64 K) rfl (fun w a=>by go_simp) ?_;simp only [Act.put,aa,ab,ac];refine ag (.pointer (some ⟨q,0,none⟩)) rfl (fun w a=>by go_simp) ?_;simp only [Act.put,aa,ab,ac];refine ag (.pointer (some ⟨q,0,none⟩)) rfl (fun w a=>by go_simp) ?_;simp only [Act.put,aa,ab,ac];refine ag (.pointer (some ⟨q,1,none⟩)) rfl (fun w a=>by go_simp) ?_;simp only [Act.put,aa,ab,ac];refine ag (.int .i64 k) rfl (fun w a=>by subst a;go_simp) ?_;simp only [Act.put,aa,ab,ac];refine ag (.int .i64 M) rfl (fun w a=>by go_simp;rw [IntKind.wrap_i64];omega) ?_;simp only [Act.put,aa,ab,ac];refine ag (.int .i64 ((Ba:Int)+(M:Int))) rfl (fun w a=>by go_simp;rw [IntKind.wrap_i64];omega) ?_;simp only [Act.put,aa,ab,ac];refine ag (.int .i64 ((Ba:Int)+(M:Int))) rfl (fun w a=>by go_simp) ?_;simp only [Act.put,aa,ab,ac];refine wpQuiet_nil ?_;rintro w2 rfl;have u:=ae (fun w' (hf:Fr (fun _=>False) w1.drew.drew w')=>g.out w' (b.out.drew.drew.trans hf (fun _ h=>h.elim)));have n:=ae (fun w' (hf:Fr (fun _=>False) w1.drew.drew w')=>m.out w' (b.out.drew.drew.trans hf (fun _ h=>h.elim)));clear D F t s g m;go_wp2;refine au (fun w'=>Fr (fun _=>False) w1.drew.drew w') (by kernel_rfl) (by kernel_rfl) (Fr.refl _ _) ?_;refine ag (.int .i64 ((Ba:Int)+(M:Int))) rfl (fun w a=>by go_simp) ?_;simp only [Act.put,aa,ab,ac];refine ag (.int .i64 ((Ba:Int)+(M:Int))) rfl (fun w a=>by go_simp) ?_;simp only [Act.put,aa,ab,ac];refine ag (.pointer (some ⟨q,0,none⟩)) rfl (fun w a=>by go_simp) ?_;simp only [Act.put,aa,ab,ac];refine ag (.pointer (some ⟨q,0,none⟩)) rfl (fun w a=>by go_simp) ?_;simp only [Act.put,aa,ab,ac];refine ag (.pointer (some ⟨q,1,none⟩)) rfl (fun w a=>by go_simp) ?_;simp only [Act.put,aa,ab,ac];refine ag (.int .i64 k) rfl (fun w a=>by have d:=(u.out _ a).2;go_simp) ?_;simp only [Act.put,aa,ab,ac];refine ag (.int .i64 ((Ba:Int)+(M:Int)+(k:Int))) rfl (fun w a=>by go_simp;rw [IntKind.wrap_i64];omega) ?_;simp only [Act.put,aa,ab,ac];refine ag (.pointer (some ⟨q,0,none⟩)) rfl (fun w a=>by go_simp) ?_;simp only [Act.put,aa,ab,ac];refine ag (.pointer (some ⟨q,0,none⟩)) rfl (fun w a=>by go_simp) ?_;simp only [Act.put,aa,ab,ac];refine ag (.pointer (some ⟨q,0,none⟩)) rfl (fun w a=>by go_simp) ?_;simp only [Act.put,aa,ab,ac];refine ag (.pointer (some ⟨p,0,none⟩)) rfl (fun w a=>by have d:=(u.out _ a).1;go_simp) ?_;simp only [Act.put,aa,ab,ac];refine az (.int .i64 ((Ba:Int)+(N:Int))) 153 #[.pointer (some ⟨p,0,none⟩)] rfl (fun w=>by go_simp) (fun w a=>(n.out w a).mono fun e w' h=>⟨h.1,a.trans h.2 (fun _ h=>h.elim)⟩) ?_;simp only [Act.put,aa,ab,ac];refine ag (.int .i64 (min ((Ba:Int)+(M:Int)+(k:Int)) ((Ba:Int)+(N:Int)))) rfl (fun w a=>by go_simp) ?_;simp only [Act.put,aa,ab,ac];refine ag (.int .i64 ((Ba:Int)+(M:Int))) rfl (fun w a=>by go_simp) ?_;simp only [Act.put,aa,ab,ac];refine ag (.int .i64 (min ((Ba:Int)+(M:Int)+(k:Int)) ((Ba:Int)+(N:Int)))) rfl (fun w a=>by go_simp) ?_;simp only [Act.put,aa,ab,ac];refine ag (.int .i64 0) rfl (fun w a=>by go_simp) ?_;simp only [Act.put,aa,ab,ac];refine wpQuiet_nil ?_;intro w4 i;have C:=ae (b.out.drew.drew.trans i (fun _ h=>h.elim));clear i;go_wp2
 go_ret3
 exact ⟨rfl,C.out⟩
end
section
open Go.RowKit Go.Shelf
def kL (E:Nat->Nat) (Ba W t F n:Nat):Prop:=∀i,i<n->qZ E Ba W (t+i) (F+i)
def wW (E:Nat->Nat) (Ba W t u:Nat) (w:World) (e:Ending) (w':World):Prop:=∃F n:Nat,e= .returned (.tuple #[.int .i64 F,.int .i64 n])∧1<=n∧t+n<=u∧kL E Ba W t F n∧Fr (fun _=>False) w w'
theorem vO {lo I:Nat} {w:World} {q W k Ba:Nat} {E:Nat->Nat} (h:cl lo I w q W k E Ba) (O:bv w) (Z:Ba<=1048576) (t u:Nat) (T:Ba<=t) (h2:t<u) (U:u<=Ba+cnt (ai E) 0 W):Calls Tryz.prog 242 #[q,.int .i64 t,.int .i64 u] w (wW E Ba W t u w):=by
 obtain ⟨p,q1,q2,Q,z,q5,q6,q7⟩:=h;have X:=bA (E:=E) z.off;have hW:=z.off;have M:=ae (fun w' (hf:Fr (fun _=>False) w w') b a (H:qZ E Ba W b a)=>iJ (z.keep hf) (ak O hf (fun h=>h)) Z b a H);have L:=ae (fun w' (hf:Fr (fun _=>False) w w')=>(Q.frame hf (fun h=>h)).cell 0 rfl);obtain ⟨F,y⟩:=jL T (show t<Ba+cnt (ai E) 0 W by omega);have V:=y.1;have C:Hid (kL E Ba W t F 1):=fun i I=>by
  have S:i=0:=by omega
  rw [S];exact y
 have j:=ae (M.out w (Fr.refl _ w) t F y);have A:=ae (fun b (G:Ba<=b) (ad:b<u)=>jL (E:=E) (W:=W) G (show b<Ba+cnt (ai E) 0 W by omega));have x:=L.out w (Fr.refl _ w);have b1:(t:Int)<(u:Int):=by omega
 have b2:(u:Int)<=2097152:=by omega
 have b3:(F:Int)<=1048576:=by omega
 clear q1 q2 Q z q5 q6 q7 O y U X
 go_enter Tryz.func242,Tryz.ntmps242
 go_wp2_with fail
 refine (j.out).mono ?_;rintro e w1 ⟨rfl,o⟩;have B:=ae o;clear o x j;go_wp2
 go_loopw [10] (fun p wr=>∃n:Nat,p= .int .i64 n∧1<=n∧t+n<=u∧Hid (kL E Ba W t F n∧Fr (fun _=>False) w wr)) (fun p _=>(u-intOf p).toNat)
 case atStart=>exact ⟨1,rfl,Nat.le_refl 1,by omega,C.out,B.out⟩
 case round=>
  obtain ⟨n,rfl,s,v,d⟩:=hrel;by_cases K:t+n<u
  ·have r:(t:Int)+(n:Int)<(u:Int):=by omega
   obtain ⟨a,m⟩:=A.out (t+n) (by omega) K;have Y:=m.1;have f:=ae (M.out wr d.out.2 (t+n) a m);rw [show ((t+n:Nat):Int)=(t:Int)+(n:Int) by omega] at f;have x:=L.out wr d.out.2;have b4:(a:Int)<=1048576:=by omega
   by_cases P:a=F+n
   ·have R:Hid (kL E Ba W t F (n+1)):=fun i I=>by
     by_cases J:i=n
     ·subst J;rw [<-P];exact m
     ·exact d.out.1 i (by omega)
    have N:=ae d.out.2;have D:(a:Int)=(F:Int)+(n:Int):=by omega
    clear m d P;go_wp2_with fail
    refine (f.out).mono ?_;rintro e w2 ⟨rfl,c⟩;have g:=ae (N.out.trans c (fun _ h=>h.elim));clear c x N;go_wp2;go_roundw
    case rel=>exact ⟨n+1,by go_num,by omega,by omega,R.out,g.out⟩
    case measure=>simp [intOf];omega
   ·have D:¬(a:Int)=(F:Int)+(n:Int):=by omega
    have l:=ae d.out;clear m d;go_wp2_with fail
    refine (f.out).mono ?_;rintro e w2 ⟨rfl,c⟩;have g:=ae (l.out.2.trans c (fun _ h=>h.elim));clear c x;go_wp2;go_ret2;exact ⟨F,n,rfl,s,v,l.out.1,g.out⟩
  ·have r:¬(t:Int)+(n:Int)<(u:Int):=by omega
   have l:=ae d.out;clear d;go_wp2;go_ret2;exact ⟨F,n,rfl,s,v,l.out.1,l.out.2⟩
end
section
open Go.RowKit Go.Shelf
theorem pZ:(Tryz.prog.info? 286).map (fun i=>(i.zero,i.size,i.bytes))=some (some (.agg #[.int .i64 0,.int .i64 0,.int .i64 0]),3,24):=by kernel_rfl
def dd:List (Nat×Nat×Nat)->List Value
 |[]=>[]
 |x::l=> .int .i64 (x.1:Int):: .int .i64 (x.2.1:Int):: .int .i64 (x.2.2:Int)::dd l
theorem qn (l:List (Nat×Nat×Nat)) (x:Nat×Nat×Nat):dd (l++[x])=dd l++[.int .i64 (x.1:Int),.int .i64 (x.2.1:Int),.int .i64 (x.2.2:Int)]:=by
 induction l with
 |nil=>rfl
 |cons y l ih=>simp only [List.cons_append,dd,ih]
def iz (E:Nat->Nat) (Ba W:Nat):Nat->List (Nat×Nat×Nat)->Nat->Prop
 |t,[],u=>t=u
 |t,x::l,u=>x.2.1=t∧1<=x.2.2∧kL E Ba W t x.1 x.2.2∧iz E Ba W (t+x.2.2) l u
theorem iz.app {E:Nat->Nat} {Ba W F n:Nat}:∀{t u:Nat} {l:List (Nat×Nat×Nat)},iz E Ba W t l u->1<=n->kL E Ba W u F n->iz E Ba W t (l++[(F,u,n)]) (u+n)
 |t,u,[],h,h1,h2=>by obtain rfl:t=u:=h;exact ⟨rfl,h1,h2,rfl⟩
 |t,u,x::l,⟨q1,q2,q3,q4⟩,h1,h2=>⟨q1,q2,q3,q4.app h1 h2⟩
def oY (E:Nat->Nat) (Ba W t u:Nat) (w:World) (e:Ending) (w':World):Prop:=
 ∃v l,e= .returned (.tuple #[v,.int .i64 0])∧w'.ownsRow w.heap.size 286 3 v l.length (dd l)∧iz E Ba W t l u∧Fr (fun _=>False) w w'
theorem ti {w w1 w2 w3:World} {v b:Value} {l:List (Nat×Nat×Nat)} {x:Nat×Nat×Nat} (e:Fr (fun _=>False) w w1) (d:w1.ownsRow w.heap.size 286 3 v l.length (dd l)) (hf:Fr (fun _=>False) w1 w2)
  (a:w3.ownsRow w.heap.size 286 3 b (l.length+1) (dd l++[.int .i64 (x.1:Int),.int .i64 (x.2.1:Int),.int .i64 (x.2.2:Int)])) (hg:w2.grownBy w3 v.ownBlock):
  w3.ownsRow w.heap.size 286 3 b (l++[x]).length (dd (l++[x]))∧Fr (fun _=>False) w w3:=by
 refine ⟨by rw [qn,List.length_append];exact a,(e.trans hf (fun _ h=>h.elim)).trans (Fr.of_grown hg) (fun i c=> .inr (d.lt i c).1)⟩
theorem bp {S:Nat->Prop} {w w':World} {Ba:Nat} {e:TypeId} {a:Nat} {v:Value} {n:Nat} {xs:List Value} (h:w.ownsRow Ba e a v n xs)
  (hf:Fr S w w') (d:∀k,v.ownBlock=some k->¬S k):w'.ownsRow Ba e a v n xs:=by
 refine ⟨h.1,?_⟩;rcases h.2 with c|⟨g,cap,cur,rfl,b,hg,r⟩
 ·exact Or.inl c
 ·exact Or.inr ⟨g,cap,cur,rfl,b,hf.heap hg (d g rfl),r⟩
theorem ow {lo I:Nat} {w:World} {q W k Ba:Nat} {E:Nat->Nat} (h:cl lo I w q W k E Ba) (U:bv w) (V:Ba<=1048576) (K:Nat) (G:K<iv (cnt (ai E) 0 W) k):Calls Tryz.prog 197 #[q,.int .i64 K] w (oY E Ba W (Ba+K*k) (min (Ba+K*k+k) (Ba+cnt (ai E) 0 W)) w):=by
 have b:=ae (ko h V K G);have Z:=bA (E:=E) h.small;have J:1<=k:=let ⟨_,_,_,_,_,_,h,_⟩:=h;h
 have ad:k<=1024:=let ⟨_,_,_,_,_,_,_,h⟩:=h;h
 have H:=qm J G;have m:=ae (fun w' (hf:Fr (fun _=>False) w w') t (S:Ba<=t) (T:t<min (Ba+K*k+k) (Ba+cnt (ai E) 0 W))=>vO (h.keep hf) (ak U hf (fun h=>h)) V t (min (Ba+K*k+k) (Ba+cnt (ai E) 0 W)) S T (by omega));obtain ⟨i0,I,N,O,P⟩:=info_parts pZ;obtain ⟨s,C⟩:∃s,Ba+K*k=s:=⟨_,rfl⟩;obtain ⟨u,A⟩:∃u,min (Ba+K*k+k) (Ba+cnt (ai E) 0 W)=u:=⟨_,rfl⟩;rw [C] at b A;rw [C,A] at m;rw [A] at b;rw [C,A];have L:s<=u:=by omega
 have am:Ba<=s:=by omega
 have ap:u<=s+1024:=by omega
 have ah:s<=2097152:=by omega
 clear h U G H C A Z
 go_enter Tryz.func197,Tryz.ntmps197
 go_wp2_with fail
 refine (b.out).mono ?_;rintro e w1 ⟨rfl,o⟩;have f:=ae o;clear o b;go_wp2
 go_loopw [6,9] (fun p v wr=>∃(t:Nat) (l:List (Nat×Nat×Nat)),p= .int .i64 t∧s<=t∧t<=u∧l.length<=t-s∧Hid (wr.ownsRow w.heap.size 286 3 v l.length (dd l)∧iz E Ba W s l t∧Fr (fun _=>False) w wr)) (fun p _ _=>(u-intOf p).toNat)
 case atStart=>exact ⟨s,[],rfl,Nat.le_refl s,L,by simp,World.ownsRow_nil _ _ _ _,rfl,f.out⟩
 case round=>
  clear f;obtain ⟨t,l,rfl,S,T,h3,a⟩:=hrel;by_cases r:t<u
  ·have y:(t:Int)<(u:Int):=by omega
   have i:=ae (m.out wr a.out.2.2 t (by omega) r);go_wp2_with fail
   refine (i.out).mono ?_;rintro e w2 ⟨F,n,rfl,r1,r2,X,Y⟩;have g:=ae (af X Y);clear X Y i;have b1:(t:Int)+(n:Int)<=(u:Int):=by omega
   have b2:(u:Int)<=2098176:=by omega
   go_wp2_with (at_builtin;refine Hid.out ?_)
   unfold Hid;have d:Fr (fun _=>False) w2 (w2.alloc (.cells #[.int .i64 F,.int .i64 t,.int .i64 n] 286)):=(Fr.refl _ w2).alloc _;have c:aj (w2.alloc (.cells #[.int .i64 F,.int .i64 t,.int .i64 n] 286)) w2.heap.size [.int .i64 F,.int .i64 t,.int .i64 n] 286:=aj.new w2 _ _;have Q:=(a.out.2.2.trans g.out.2 (fun _ h=>h.elim)).size;refine wpList_append_own _ rfl _ _ 282 rfl w.heap.size 286 i0 _ 3 24 Tryz.underlying282 I N O P rfl (by decide) _ l.length (dd l) rfl (bp (bp a.out.1 g.out.2 (fun _ _ h=>h)) d (fun _ _ h=>h)) ⟨w2.heap.size,0,none⟩ 1 1 [.int .i64 F,.int .i64 t,.int .i64 n] rfl rfl ?_ ?_ (by unfold maxLen;omega) (by omega) (by simp;omega) ?_
   ·intro j u' hj;have:=c.cell j hj;rwa [show ((⟨w2.heap.size,0,none⟩:Addr).add j)=⟨w2.heap.size,j,none⟩ by unfold Addr.add;split<;>simp_all]
   ·intro u' B;simp only [List.mem_cons,List.not_mem_nil,or_false] at B;rcases B with rfl|rfl|rfl<;>rfl
   ·intro v' w3 z hg _;have R:=ae (ti (x:=(F,t,n)) a.out.2.2 a.out.1 (g.out.2.trans d (fun _ h=>h.elim)) z hg);have D:=ae (iz.app a.out.2.1 r1 g.out.1);clear d c Q z hg a g;go_wp2;go_roundw
    case rel=>exact ⟨t+n,l++[(F,t,n)],by go_num,by omega,by omega,by rw [List.length_append,List.length_singleton];omega,R.out.1,D.out,R.out.2⟩
    case measure=>simp [intOf];omega
  ·have M:t=u:=by omega
   subst M;have b:=ae a.out;have y:¬(t:Int)<(t:Int):=by omega
   clear a r;go_wp2;go_ret2;exact ⟨_,l,rfl,b.out.1,b.out.2.1,b.out.2.2⟩
end
end Go.Proofs.YthahbijbpinneaaGreatDoor
