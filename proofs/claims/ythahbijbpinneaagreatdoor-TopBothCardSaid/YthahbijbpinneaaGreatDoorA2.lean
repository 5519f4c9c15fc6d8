import Derived.Test.YthahbijbpinneaaGreatDoorA0
import Derived.Test.YthahbijbpinneaaGreatDoorA1
import Derived.Lib.Hide
set_option maxRecDepth 100000
set_option maxHeartbeats 8000000
set_option linter.all false
namespace Go.Proofs.YthahbijbpinneaaGreatDoor
open Go.RowKit Go.Proofs.Tryz
section
open Go.RowKit Go.Shelf
structure ft(w:World)(x b gb:Nat)(v:Value)(n k i:Nat)(f:Nat->Bool):Prop where
 Qd:aJ w x [b,v,(k:Int),(((Qb f 0 (min (i*k) n):Nat):Int):Int)] 355
 vec:∃ws,dv w b gb n ws/\∀j,bA ws j=f j
 row:w.ownsRow 0 3 1 v i ((List.range i).map fun j=> .int .i64 ((Qb f 0 (j*k):Nat):Int))
 d1:v.ownBlock≠some x
 d2:v.ownBlock≠some b
 d3:v.ownBlock≠some gb
 d4:x≠b
 d5:x≠gb
def ft.from(lo x b gb:Nat)(v:Value):Prop:=lo<=x/\lo<=b/\lo<=gb/\∀g,v.ownBlock=some g->lo<=g
theorem ft.frame{S:Nat->Prop}{w w':World}{x b gb n k i:Nat}{v:Value}{f:Nat->Bool}(h:ft w x b gb v n k i f)(hf:Fr S w w')(a:¬S x)(c:¬S b)(d:¬S gb)(e:∀g,v.ownBlock=some g->¬S g):ft w' x b gb v n k i f:=
 ⟨h.Qd.frame hf a,let ⟨ws,j,l⟩:=h.vec;⟨ws,j.frame hf c d,l⟩,aO h.row hf e,h.d1,h.d2,h.d3,h.d4,h.d5⟩
theorem Bb{w w1 w2:World}{x b gb g cap n k i lo:Nat}{v:Value}{f:Nat->Bool}(h:ft w x b gb v n k i f)(m:ft.from lo x b gb v)(F:lo<=w.heap.size)(t:i*k<=n)
  (a:GM w w1) (G:w2.ownsRow 0 3 1 (.slice (some g) (i+1) cap) (i+1) (((List.range i).map fun j=>Value.int .i64 ((Qb f 0 (j*k):Nat):Int))++[.int .i64 ((Qb f 0 (min (i*k) n):Nat):Int)]))
  (l:Fr (fun k=>v.ownBlock=some k) w1 w2) (hg:v.ownBlock=some g\/w1.heap.size<=g):
  (∃u,w2.cell? ⟨x,1,none⟩=some u)/\w2.frozen? ⟨x,1,none⟩=false/\∀W,W=w2.setCell ⟨x,1,none⟩ (.slice (some g) (i+1) cap)->
   ft.from lo x b gb (.slice (some g) (i+1) cap)/\Fr (fun k=>lo<=k) w W/\
   aJ W x [b,.slice (some g) (i+1) cap,(k:Int),(((Qb f 0 (min (i*k) n):Nat):Int):Int)] 355/\
   (∃ws,dv W b gb n ws/\∀j,bA ws j=f j)/\W.ownsRow 0 3 1 (.slice (some g) (i+1) cap) (i+1) ((List.range (i+1)).map fun j=> .int .i64 ((Qb f 0 (j*k):Nat):Int))/\g≠x/\g≠b/\g≠gb:=by
 obtain ⟨A,I,J,B⟩:=m;have q:=h.Qd.frame a id;have c:=q.frame l h.d1;obtain ⟨ws,y,d⟩:=h.vec;have z:=(y.frame a id id).frame l h.d2 h.d3;have H:=a.size;have K:=h.Qd.lt;have C:=y.blt;have D:=y.Yz;have E:lo<=g:=by
  rcases hg with hg|hg
  ·exact B g hg
  ·omega
 have s:g≠x/\g≠b/\g≠gb:=by
  rcases hg with hg|hg
  ·exact ⟨fun e=>h.d1 (by rw [hg,e]),fun e=>h.d2 (by rw [hg,e]),fun e=>h.d3 (by rw [hg,e])⟩
  ·exact ⟨by omega,by omega,by omega⟩
 refine ⟨⟨_,c.cell 1 rfl⟩,c.free 1,?_⟩;rintro W rfl;have o:Fr (fun k=>k=x) w2 (w2.setCell ⟨x,1,none⟩ (.slice (some g) (i+1) cap)):=(GQ (fun k=>k=x) w2).setCell ⟨x,1,none⟩ (.inl rfl) _;refine ⟨⟨A,I,J,fun g' r=>by simp only [Value.ownBlock,aL] at r;omega⟩,?_,c.set 1 _,⟨ws,z.frame o (fun e=>h.d4 e.symm) (fun e=>h.d5 e.symm),d⟩,?_,s⟩
 ·exact ((a.mono (S':=fun k=>lo<=k) GN).trans l (fun k p=> .inl (B k p))).trans o (fun k p=> .inl (by rw [p];exact A))
 ·have:=aO G o (fun k p e=>by simp only [Value.ownBlock,aL] at p;omega);rw [List.range_succ,bD];rw [fc t] at this;exact this
theorem vO{w w1 W:World}{b gb n k:Nat}{f:Nat->Bool}{ws:List Nat}(hf:GM w w1)(c:dv w1 b gb n ws)(a:∀j,bA ws j=f j)(d:w.heap.size<=b)(e:w.heap.size<=gb)(i:W=w1.alloc (.cells #[b,.slice none 0 0,(k:Int),(0:Int)] 355)):
  ft W w1.heap.size b gb (.slice none 0 0) n k 0 f/\ft.from w.heap.size w1.heap.size b gb (.slice none 0 0)/\Fr (fun j=>w.heap.size<=j) w W:=by
 subst i;have:=c.blt;have:=c.Yz;refine ⟨⟨?_,⟨ws,c.frame (S:=fun _=>False) ((GQ _ w1).alloc _) id id,a⟩,World.ownsRow_nil _ _ _ _,by simp [Value.ownBlock],by simp [Value.ownBlock],by simp [Value.ownBlock],by omega,by omega⟩,⟨hf.size,d,e,fun g h=>by simp [Value.ownBlock] at h⟩,(hf.alloc _).mono GN⟩;rw [gz,eS f (by omega)];exact aJ.new w1 _ _
theorem oF{w w1 W:World}{x b gb g n k i lo F N C:Nat}{cap:Nat}{f:Nat->Bool}(p:F=i*k)(q:F<=n)(r:N=Qb f 0 F)(o:C=Qb f F (min (F+k) n))(t:aJ w x [b,.slice (some g) (i+1) cap,(k:Int),(N:Int)] 355)
  (z:∃ws,dv w b gb n ws/\∀j,bA ws j=f j) (y:w.ownsRow 0 3 1 (.slice (some g) (i+1) cap) (i+1) ((List.range (i+1)).map fun j=> .int .i64 ((Qb f 0 (j*k):Nat):Int))) (hg:g≠x/\g≠b/\g≠gb) (c:x≠b) (d:x≠gb) (m:lo<=x) (D:lo<=w.heap.size)
  (hf:GM w w1) (s:W=w1.setCell ⟨x,3,none⟩ (.int .i64 ((N:Int)+(C:Int)))):ft W x b gb (.slice (some g) (i+1) cap) n k (i+1) f/\Fr (fun j=>lo<=j) w W:=by
 subst s;have l:=t.frame hf id;obtain ⟨ws,A,B⟩:=z;have a:Fr (fun k=>k=x) w1 (w1.setCell ⟨x,3,none⟩ (.int .i64 ((N:Int)+(C:Int)))):=(GQ (fun k=>k=x) w1).setCell ⟨x,3,none⟩ (.inl rfl) _;refine ⟨⟨?_,⟨ws,(A.frame hf id id).frame a (fun e=>c e.symm) (fun e=>d e.symm),B⟩,aO (aO y hf (fun _ _ h=>h)) a (fun k v e=>by simp only [Value.ownBlock,aL] at v;exact hg.1 (by omega)),
  by simp only [Value.ownBlock,mN,aL];exact hg.1,by simp only [Value.ownBlock,mN,aL];exact hg.2.1,by simp only [Value.ownBlock,mN,aL];exact hg.2.2,c,d⟩,(hf.mono (S':=fun j=>lo<=j) GN).trans a (fun i u=> .inl (by rw [u];exact m))⟩
 have:=l.set 3 (.int .i64 ((N:Int)+(C:Int)));have e:Qb f 0 (min ((i+1)*k) n)=N+C:=by
  rw [r,o,cY,<-p,bJ f (aF F) (show F<=min (F+k) n by omega)]
 rw [e];exact this
theorem fZ(f:Nat->Bool)(a:Nat):Qb f 0 a<=a:=by have:=dR f 0 a;omega
theorem Dm{w:World}{b0 g0 n k:Nat}{ws:List Nat}(h:dv w b0 g0 n ws)(hk:cJ (k:Int)=true)(a9:1<=k)(bb:k<=1024):Calls prog 259 #[b0,(k:Int)] w fun e w'=>∃x b gb v nb,e= .returned (.tuple #[.pointer (some ⟨x,0,none⟩),(0:Int)])/\ft w' x b gb v n k nb (bA ws)/\n<=nb*k/\(nb-1)*k<n/\1<=nb/\ft.from w.heap.size x b gb v/\GM w w':=by
 obtain ⟨i0,hi,aq,au,av⟩:=info_parts iP;have ay:=ae (fun w' (hf:Fr (fun j=>w.heap.size<=j) w w')=>(kY (h.frame hf (by have:=h.blt;omega) (by have:=h.Yz;omega))));have aw:=ae (kY h);have HP:=ae (jM (k:Int) (by omega) true hk);have HC:=ae (yM h);have bf:=h.small;have h1:=h.one;have aQ:((n:Int)==0)=false:=by rw [aT];omega
 have be:(n:Int)<=1048576:=by omega
 have bc:(k:Int)<=1024:=by omega
 have a8:(1:Int)<=(k:Int):=by omega
 have aL:=ae (fun w' (hf:Fr (fun j=>w.heap.size<=j) w w') (F:Nat) (hF:F<=n)=>(qd (h.frame hf (by have:=h.blt;omega) (by have:=h.Yz;omega)) (F:=F) (T:=min (F+k) n) (by omega) (by omega) ((F:Int)+(k:Int)) (by omega)));have az:=ae (fun w1 W b gb aR hf hv ak h1 h2 M=>vO (w:=w) (w1:=w1) (W:=W) (b:=b) (gb:=gb) (n:=n) (k:=k) (f:=bA ws) (ws:=aR) hf hv ak h1 h2 M);have aX:=ae hk;generalize aG:bA ws=f at*;have HB:=ae (congrFun aG);have aP:decide ((1024:Int)<(k:Int))=false:=ar (by omega);clear h hk aG
 go_enter func259,ntmps259
 go_wp2_with fail
 refine aw.out.mono ?_;rintro e w' ⟨rfl,rfl⟩;go_wp2_with fail
 refine (HP.out _).mono ?_;rintro e w' ⟨rfl,rfl⟩;go_wp2_with fail
 refine HC.out.mono ?_;rintro e w1 ⟨b,gb,rfl,hv,aE,aH,aF⟩;have af:=ae (fun W M=>az.out w1 W b gb ws aF hv HB.out aE aH M);clear hv aE aH aF az HC HP aw aQ aP;go_wp2
 go_loopw [7] (fun p wr=>∃(F i:Nat) (v:Value),p= .int .i64 F/\F<n+k/\Hid (F=i*k/\(F-k<n)/\(1<=n->(i=0\/(i-1)*k<n))/\ft wr w1.heap.size b gb v n k i f/\ft.from w.heap.size w1.heap.size b gb v/\Fr (fun j=>w.heap.size<=j) w wr)) (fun p _=>(2*1048576-intOf p).toNat)
 case atStart=>exact ⟨0,0,_,rfl,by omega,by rw [gz],by omega,fun _=> .inl rfl,af.out _ rfl⟩
 case round=>
  clear af;obtain ⟨F,i,v,rfl,aY,hr⟩:=hrel;have ax:=ae (ay.out wr hr.out.2.2.2.2.2);by_cases ap:F<n
  ·have aK:(F:Int)<(n:Int):=by omega
   have ah:=ae (fun w' hf=>aL.out w' hf F (by omega));generalize w1.heap.size=x at*;go_wp2_with fail
   refine ax.out.mono ?_;rintro e w' ⟨rfl,rfl⟩;obtain ⟨aD,_,_,hR,O,am⟩:=hr.out;obtain ⟨p,cap,rfl⟩:=fW hR.row;have aN:i*k<=n:=by omega
   have a7:i<=i*k:=dc i (by omega);have bd:=am.size;have U:=hR.frame (S:=fun _=>False) ((GQ _ wr).drew) id id id (fun _ _ h=>h);have X:Fr (fun j=>w.heap.size<=j) w wr.drew:=am.drew;obtain ⟨N,hN⟩:∃N,Qb f 0 (min (i*k) n)=N:=⟨_,rfl⟩;have a0:N<=1048576:=by have:=fZ f (min (i*k) n);omega
   have aZ:(N:Int)<=1048576:=by omega
   have c1:wr.drew.cell? ⟨x,1,none⟩=some (.slice p i cap):=U.Qd.cell 1 rfl;have c3:wr.drew.cell? ⟨x,3,none⟩=some (N:Int):=by rw [<-hN];exact U.Qd.cell 3 rfl
   have e1:∀o,(wr.alloc o).drew.cell? ⟨x,1,none⟩=some (.slice p i cap):=fun o=>(hR.Qd.alloc o).drew.cell 1 rfl
   have e3:∀o,(wr.alloc o).drew.cell? ⟨x,3,none⟩=some (N:Int):=fun o=>by rw [<-hN];exact (hR.Qd.alloc o).drew.cell 3 rfl
   have al:GM wr.drew (wr.drew.alloc (.cells #[(N:Int)] 3)):=(GQ _ _).alloc _;have D:=aO U.row al (fun _ _ h=>h);have B:(wr.drew.alloc (.cells #[(N:Int)] 3)).cell? wr.heap.size=some (N:Int):=(aJ.new wr.drew [(N:Int)] 3).cell 0 rfl;have r:=ae (fun w2 g c ho A hg=>Bb (w2:=w2) (g:=g) (cap:=c) U O X.size aN al ho A hg);have G:=ae X;have E:=ae (ag O (ag hR.d4 hR.d5));have q:=ae aD;rw [hN] at r;have HN:=ae hN;have ad:i+1<=maxLen:=by unfold maxLen;omega
   have V:(i+1)*8<=140737488355328:=by omega
   clear hr hR O am U X al hN aD;go_wp2;refine wp_region_any (by kernel_rfl) ?_;change wpAny _ _ _ _ _ _ _ (World.drew _);refine GP 0 x rfl ?_;refine GP 1 x rfl ?_;refine GP 2 x rfl ?_;refine GP 3 (.pointer (some ⟨x,1,none⟩)) rfl ?_;refine GP 5 x rfl ?_;refine GP 6 x rfl ?_;refine GP 7 (.pointer (some ⟨x,3,none⟩)) rfl ?_;simp only [Act.put];refine wpAny_ready (rs:=[4,8]) (by kernel_rfl) (by simp) ?_;refine AllReady.cons rfl (fun K a=> ?_) (AllReady.cons rfl (fun K a=> ?_) AllReady.nil)
   ·go_simp;refine a _ _ ?_;clear a K;refine GO 8 rfl fun K a=> ?_;go_simp;refine a _ _ ?_;clear a K;refine GO 9 rfl fun K a=> ?_;go_simp;refine a _ _ ?_;clear a K;refine GO 10 rfl fun K a=> ?_;refine iW rfl _ _ 123 rfl 3 i0 (.int .i64 0) 8 underlying123 hi aq au av rfl (.slice p i cap) i _ rfl D ⟨wr.heap.size,0,none⟩ _ (.int .i64 N) rfl B rfl ad V ?_;intro g c w2 L A J;obtain ⟨⟨u,hu⟩,Y,hA⟩:=r.out w2 g c L A J;have HA:=ae hA;clear L A J hA r e1 e3 c1 c3 D B;refine a _ _ ?_;clear a K;refine GO 11 rfl fun K a=> ?_;go_simp;refine a _ _ ?_;clear a K;refine GO 12 rfl fun K a=> ?_;go_simp;refine a _ _ ?_;clear a K;refine GO 13 rfl fun K a=> ?_;go_simp;refine a _ _ ?_;clear a K;refine wpAny_done (by kernel_rfl) ?_ _;go_wp2;obtain ⟨m,y⟩:∃m,w2.setCell ⟨x,1,none⟩ (.slice (some g) (i+1) c)=m:=⟨_,rfl⟩;rw [y];obtain ⟨a1,P,Q,a4,a5,a6⟩:=HA.out m y.symm;clear hu Y y HA;have Z:=(G.out.trans P (fun _ h=> .inl h)).size;have t:=ae (fun w' (hf:GM m.drew w')=>(ag ((Q.drew.frame hf id).cell 3 rfl) ((Q.drew.frame hf id).free 3)));have s:=ae (fun w' (hf:GM m.drew w')=>ah.out w' ((G.out.trans (P.drew) (fun _ h=> .inl h)).trans hf GN));obtain ⟨C,R⟩:∃C,Qb f F (min (F+k) n)=C:=⟨_,rfl⟩;have aC:C<=1048576:=by have:=dR f F (min (F+k) n);omega
    have aB:(C:Int)<=1048576:=by omega
    have H:=ae (fun w4 W hf M=>oF (w:=m) (w1:=w4) (W:=W) (lo:=w.heap.size) (N:=N) (C:=C) (F:=F) (n:=n) (f:=f) q.out (by omega) (by rw [<-HN.out,<-q.out];congr 1;omega) R.symm Q a4 a5 a6 E.out.2.1 E.out.2.2 E.out.1.1 Z (((GQ (fun _=>False) m).drew).trans hf (fun _ h=> .inl h)) M);have I:=ae (ag (G.out.trans P (fun _ h=> .inl h)) a1);rw [R] at s;clear a1 P Q a4 a5 a6 R;refine bR (fun w'=>GM m.drew w') 10 (GQ _ _) ?_;simp only [ai,an,aj,ao];refine aV [x,x,.pointer (some ⟨x,3,none⟩),(N:Int),b0,(F:Int),(F:Int),(k:Int)] ?_
    iterate 8 (refine aW rfl (fun w9 h9=>by first|(go_simp;done)|(have d:=(t.out _ h9).1;go_simp)) ?_;simp only [aa])
    refine aU ?_;refine aA (.int .i64 ((F:Int)+(k:Int))) rfl (fun w hw=>by go_simp;rw [IntKind.wrap_i64];omega) ?_;simp only [aa];refine bT (.int .i64 C) 284 #[b0,(F:Int),(((F:Int)+(k:Int)):Int)] rfl (fun w=>by go_simp) (fun w hw=>(s.out w hw).mono fun e w' h=>⟨h.1,hw.trans h.2 GN⟩) ?_;simp only [aa];refine wpQuiet_nil ?_;intro w4 z;obtain ⟨d1,d2⟩:=t.out w4 z;have l:=ae (fun W M=>H.out w4 W z M);clear z t s H;go_wp2;go_roundw
    case rel=>exact ⟨F+k,i+1,_,by go_num,by omega,⟨by rw [q.out,cY],by omega,fun _=> .inr (by rw [jC,<-q.out];exact ap),(l.out _ rfl).1,I.out.2,I.out.1.trans (l.out _ rfl).2 (fun _ h=> .inl h)⟩⟩
    case measure=>simp [intOf];omega
   ·go_simp;refine a _ _ ?_;clear a K;refine wpAny_ready (rs:=[4,9]) (by kernel_rfl) (by simp) ?_;refine AllReady.cons rfl (fun K a=> ?_) (AllReady.cons rfl (fun K a=> ?_) AllReady.nil)
    ·go_simp;refine a _ _ ?_;clear a K;refine GO 9 rfl fun K a=> ?_;go_simp;refine a _ _ ?_;clear a K;refine GO 10 rfl fun K a=> ?_;refine iW rfl _ _ 123 rfl 3 i0 (.int .i64 0) 8 underlying123 hi aq au av rfl (.slice p i cap) i _ rfl D ⟨wr.heap.size,0,none⟩ _ (.int .i64 N) rfl B rfl ad V ?_;intro g c w2 L A J;obtain ⟨⟨u,hu⟩,Y,hA⟩:=r.out w2 g c L A J;have HA:=ae hA;clear L A J hA r e1 e3 c1 c3 D B;refine a _ _ ?_;clear a K;refine GO 11 rfl fun K a=> ?_;go_simp;refine a _ _ ?_;clear a K;refine GO 12 rfl fun K a=> ?_;go_simp;refine a _ _ ?_;clear a K;refine GO 13 rfl fun K a=> ?_;go_simp;refine a _ _ ?_;clear a K;refine wpAny_done (by kernel_rfl) ?_ _;go_wp2;obtain ⟨m,y⟩:∃m,w2.setCell ⟨x,1,none⟩ (.slice (some g) (i+1) c)=m:=⟨_,rfl⟩;rw [y];obtain ⟨a1,P,Q,a4,a5,a6⟩:=HA.out m y.symm;clear hu Y y HA;have Z:=(G.out.trans P (fun _ h=> .inl h)).size;have t:=ae (fun w' (hf:GM m.drew w')=>(ag ((Q.drew.frame hf id).cell 3 rfl) ((Q.drew.frame hf id).free 3)));have s:=ae (fun w' (hf:GM m.drew w')=>ah.out w' ((G.out.trans (P.drew) (fun _ h=> .inl h)).trans hf GN));obtain ⟨C,R⟩:∃C,Qb f F (min (F+k) n)=C:=⟨_,rfl⟩;have aC:C<=1048576:=by have:=dR f F (min (F+k) n);omega
     have aB:(C:Int)<=1048576:=by omega
     have H:=ae (fun w4 W hf M=>oF (w:=m) (w1:=w4) (W:=W) (lo:=w.heap.size) (N:=N) (C:=C) (F:=F) (n:=n) (f:=f) q.out (by omega) (by rw [<-HN.out,<-q.out];congr 1;omega) R.symm Q a4 a5 a6 E.out.2.1 E.out.2.2 E.out.1.1 Z (((GQ (fun _=>False) m).drew).trans hf (fun _ h=> .inl h)) M);have I:=ae (ag (G.out.trans P (fun _ h=> .inl h)) a1);rw [R] at s;clear a1 P Q a4 a5 a6 R;refine bR (fun w'=>GM m.drew w') 10 (GQ _ _) ?_;simp only [ai,an,aj,ao];refine aV [x,x,.pointer (some ⟨x,3,none⟩),(N:Int),b0,(F:Int),(F:Int),(k:Int)] ?_
     iterate 8 (refine aW rfl (fun w9 h9=>by first|(go_simp;done)|(have d:=(t.out _ h9).1;go_simp)) ?_;simp only [aa])
     refine aU ?_;refine aA (.int .i64 ((F:Int)+(k:Int))) rfl (fun w hw=>by go_simp;rw [IntKind.wrap_i64];omega) ?_;simp only [aa];refine bT (.int .i64 C) 284 #[b0,(F:Int),(((F:Int)+(k:Int)):Int)] rfl (fun w=>by go_simp) (fun w hw=>(s.out w hw).mono fun e w' h=>⟨h.1,hw.trans h.2 GN⟩) ?_;simp only [aa];refine wpQuiet_nil ?_;intro w4 z;obtain ⟨d1,d2⟩:=t.out w4 z;have l:=ae (fun W M=>H.out w4 W z M);clear z t s H;go_wp2;go_roundw
     case rel=>exact ⟨F+k,i+1,_,by go_num,by omega,⟨by rw [q.out,cY],by omega,fun _=> .inr (by rw [jC,<-q.out];exact ap),(l.out _ rfl).1,I.out.2,I.out.1.trans (l.out _ rfl).2 (fun _ h=> .inl h)⟩⟩
     case measure=>simp [intOf];omega
    ·go_simp;refine a _ _ ?_;clear a K;refine GO 4 rfl fun K a=> ?_;go_simp;refine a _ _ ?_;clear a K;refine GO 10 rfl fun K a=> ?_;refine iW rfl _ _ 123 rfl 3 i0 (.int .i64 0) 8 underlying123 hi aq au av rfl (.slice p i cap) i _ rfl D ⟨wr.heap.size,0,none⟩ _ (.int .i64 N) rfl B rfl ad V ?_;intro g c w2 L A J;obtain ⟨⟨u,hu⟩,Y,hA⟩:=r.out w2 g c L A J;have HA:=ae hA;clear L A J hA r e1 e3 c1 c3 D B;refine a _ _ ?_;clear a K;refine GO 11 rfl fun K a=> ?_;go_simp;refine a _ _ ?_;clear a K;refine GO 12 rfl fun K a=> ?_;go_simp;refine a _ _ ?_;clear a K;refine GO 13 rfl fun K a=> ?_;go_simp;refine a _ _ ?_;clear a K;refine wpAny_done (by kernel_rfl) ?_ _;go_wp2;obtain ⟨m,y⟩:∃m,w2.setCell ⟨x,1,none⟩ (.slice (some g) (i+1) c)=m:=⟨_,rfl⟩;rw [y];obtain ⟨a1,P,Q,a4,a5,a6⟩:=HA.out m y.symm;clear hu Y y HA;have Z:=(G.out.trans P (fun _ h=> .inl h)).size;have t:=ae (fun w' (hf:GM m.drew w')=>(ag ((Q.drew.frame hf id).cell 3 rfl) ((Q.drew.frame hf id).free 3)));have s:=ae (fun w' (hf:GM m.drew w')=>ah.out w' ((G.out.trans (P.drew) (fun _ h=> .inl h)).trans hf GN));obtain ⟨C,R⟩:∃C,Qb f F (min (F+k) n)=C:=⟨_,rfl⟩;have aC:C<=1048576:=by have:=dR f F (min (F+k) n);omega
     have aB:(C:Int)<=1048576:=by omega
     have H:=ae (fun w4 W hf M=>oF (w:=m) (w1:=w4) (W:=W) (lo:=w.heap.size) (N:=N) (C:=C) (F:=F) (n:=n) (f:=f) q.out (by omega) (by rw [<-HN.out,<-q.out];congr 1;omega) R.symm Q a4 a5 a6 E.out.2.1 E.out.2.2 E.out.1.1 Z (((GQ (fun _=>False) m).drew).trans hf (fun _ h=> .inl h)) M);have I:=ae (ag (G.out.trans P (fun _ h=> .inl h)) a1);rw [R] at s;clear a1 P Q a4 a5 a6 R;refine bR (fun w'=>GM m.drew w') 10 (GQ _ _) ?_;simp only [ai,an,aj,ao];refine aV [x,x,.pointer (some ⟨x,3,none⟩),(N:Int),b0,(F:Int),(F:Int),(k:Int)] ?_
     iterate 8 (refine aW rfl (fun w9 h9=>by first|(go_simp;done)|(have d:=(t.out _ h9).1;go_simp)) ?_;simp only [aa])
     refine aU ?_;refine aA (.int .i64 ((F:Int)+(k:Int))) rfl (fun w hw=>by go_simp;rw [IntKind.wrap_i64];omega) ?_;simp only [aa];refine bT (.int .i64 C) 284 #[b0,(F:Int),(((F:Int)+(k:Int)):Int)] rfl (fun w=>by go_simp) (fun w hw=>(s.out w hw).mono fun e w' h=>⟨h.1,hw.trans h.2 GN⟩) ?_;simp only [aa];refine wpQuiet_nil ?_;intro w4 z;obtain ⟨d1,d2⟩:=t.out w4 z;have l:=ae (fun W M=>H.out w4 W z M);clear z t s H;go_wp2;go_roundw
     case rel=>exact ⟨F+k,i+1,_,by go_num,by omega,⟨by rw [q.out,cY],by omega,fun _=> .inr (by rw [jC,<-q.out];exact ap),(l.out _ rfl).1,I.out.2,I.out.1.trans (l.out _ rfl).2 (fun _ h=> .inl h)⟩⟩
     case measure=>simp [intOf];omega
  ·have aK:¬(F:Int)<(n:Int):=by omega
   have HR:=ae hr.out;generalize w1.heap.size=x at*;clear hr;go_wp2_with fail
   refine ax.out.mono ?_;rintro e w' ⟨rfl,rfl⟩;go_wp2;go_ret2;obtain ⟨q1,q2,q3,q4,q5,q6⟩:=HR.out;have aM:i≠0:=fun e=>by rw [e,gz] at q1;omega
   exact ⟨x,b,gb,v,i,rfl,q4,by omega,by rcases q3 h1 with h|h;exact absurd h aM;exact h,by omega,q5,q6.mono (fun _ h=> .inr h)⟩
end
section
open Go.RowKit Go.Shelf
theorem ft.at{w:World}{x b gb n k i:Nat}{v:Value}{f:Nat->Bool}(h:ft w x b gb v n k i f){j:Nat}(c:j<i):∃g cap,v= .slice (some ⟨g,0,none⟩) i cap/\w.cell? ⟨g,j,none⟩=some (.int .i64 ((Qb f 0 (j*k):Nat):Int)):=by
 rcases h.row.2 with ⟨_,d⟩|⟨g,cap,cur,a,_⟩
 ·omega
 ·refine ⟨g,cap,a,?_⟩;subst a;have:=h.row.cells (g:=g) rfl j (.int .i64 ((Qb f 0 (j*k):Nat):Int)) (by rw [aR,fz c];rfl);rwa [show ((⟨g,0,none⟩:Addr).add j)=⟨g,j,none⟩ by unfold Addr.add;split<;>simp_all] at this
theorem ze{w:World}{x b gb n k i:Nat}{v:Value}{f:Nat->Bool}(h:ft w x b gb v n k i f)(c:n<=i*k):Calls prog 261 #[x] w fun e w'=>e= .returned (.int .i64 ((Qb f 0 n:Nat):Int))/\w=w':=by
 have a:=h.Qd.cell 3 rfl;rw [iI c] at a;generalize Qb f 0 n=N at*;clear h
 go_enter func261,ntmps261
 go_wp2;go_ret;exact ⟨rfl,rfl⟩
theorem fU(i k:Nat):(i:Int).tdiv (k:Int)=((i/k:Nat):Int):=rfl
theorem ue{w:World}{x b gb n k z:Nat}{v:Value}{f:Nat->Bool}(h:ft w x b gb v n k z f)(R:n<=z*k)(hk:1<=k)(Y:k<=1024)(i:Nat)(hi:i<=1048576):Calls prog 267 #[x,(i:Int)] w fun e w'=>e= .returned (.int .i64 ((Qb f 0 (min i n):Nat):Int))/\GM w w':=by
 obtain ⟨ws,r,a⟩:=h.vec;have m:bA ws=f:=funext a;have Z:=r.small;have S:=h.Qd.cell 0 rfl;have c2:=h.Qd.cell 2 rfl;have H:=h.Qd.cell 3 rfl;rw [iI R] at H;have O:=ae (kY r);have o:=ae (GQ (fun _=>False) w);have X:(i:Int)<=1048576:=by omega
 by_cases U:i=0
 ·subst U;rw [fc (aF n),eS f (ak 0)];clear h r a m S c2 H
  go_enter func267,ntmps267
  go_wp2;go_ret;exact ⟨rfl,o.out⟩
 ·have Q:(1:Int)<=(i:Int):=by omega
  by_cases J:n<=i
  ·have u:(n:Int)<=(i:Int):=by omega
   rw [iI J];generalize Qb f 0 n=N at*;clear h r a m c2
   go_enter func267,ntmps267
   go_wp2_with fail
   refine O.out.mono ?_;rintro e w' ⟨rfl,rfl⟩;go_wp2;go_ret;exact ⟨rfl,o.out⟩
  ·have u:(i:Int)<(n:Int):=by omega
   rw [fc (by omega)];obtain ⟨B,D⟩:∃B,i/k=B:=⟨_,rfl⟩;have p:B*k<=i:=by rw [<-D];exact bE i k
   have q:B<z:=by
    rw [<-D];exact (bp (by omega)).2 (by omega)
   have I:B<=B*k:=dc B (by omega);obtain ⟨g,cap,rfl,W⟩:=h.at q;have c1:=h.Qd.cell 1 rfl;have c:GM w w.drew:=(GQ _ w).drew;have l:=ae (fun w' (hf:GM w.drew w')=>(ag (((h.Qd.frame c id).frame hf id).cell 0 rfl) (ag (((h.Qd.frame c id).frame hf id).cell 1 rfl) (ag (((h.Qd.frame c id).frame hf id).cell 2 rfl)
    (((h.frame c id id id (fun _ _ h=>h)).frame hf id id id (fun _ _ h=>h)).at q)))))
   have t:=ae (fun w' (hf:GM w.drew w')=>qd ((r.frame c id id).frame hf id id) (F:=B*k) (T:=i) p (by omega) (i:Int) (by omega));have j:∀w',GM w.drew w'->w'.cell? ⟨g,B,none⟩=some (.int .i64 ((Qb f 0 (B*k):Nat):Int)):=fun w' hf=>by
    obtain ⟨g',P,Q,V⟩:=(l.out w' hf).2.2.2
    cases Q;exact V
   have E:=ae j;rw [m] at t;rw [bJ f (aF (B*k)) p];have K:=fZ f (B*k);have L:=dR f (B*k) i;generalize Qb f 0 (B*k)=N at*;generalize Qb f (B*k) i=C at*;have q1:(i:Int).tdiv (k:Int)=(B:Int):=by rw [fU,D]
   have q2:((k:Int)==0)=false:=by rw [aT];omega
   have q3:(B:Int)*(k:Int)=((B*k:Nat):Int):=by simp
   generalize B*k=M at*;have b1:(B:Int)<(z:Int):=by omega
   have b2:(N:Int)<=1048576:=by omega
   have b3:(C:Int)<=1048576:=by omega
   have b4:(M:Int)<=1048576:=by omega
   have b5:(k:Int)<=1024:=by omega
   have b6:(B:Int)<=1048576:=by omega
   have b7:(1:Int)<=(k:Int):=by omega
   clear h r a m H c1 c W D p q j K L R I
   go_enter func267,ntmps267
   go_wp2_with fail
   refine O.out.mono ?_;rintro e w' ⟨rfl,rfl⟩;go_wp2;refine bt (fun w'=>GM w.drew w') (GQ _ _) ?_;refine aV [x,x,.pointer (some ⟨x,1,none⟩),.slice (some g) z cap,(B:Int),.pointer (some ⟨g,B,none⟩),(N:Int),x,x,x,b,(B:Int),x,x,.pointer (some ⟨x,2,none⟩),(k:Int)] ?_
   iterate 16 (refine aW rfl (fun w9 A=>by first|(go_simp;done)|(have d:=(l.out _ A).2.1;go_simp;done)|(have d:=E.out _ A;go_simp;done)|(have d:=(l.out _ A).1;go_simp;done)|(have d:=(l.out _ A).2.2.1;go_simp;done)) ?_;simp only [aa])
   refine aU ?_;refine aA (M:Int) rfl (fun w s=>by go_simp;rw [IntKind.wrap_i64];omega) ?_;simp only [aa];refine aA (i:Int) rfl (fun w s=>by go_simp) ?_;simp only [aa];refine bT (.int .i64 C) 284 #[b,(M:Int),(i:Int)] rfl (fun w=>by go_simp) (fun w s=>(t.out w s).mono fun e w' h=>⟨h.1,s.trans h.2 GN⟩) ?_;simp only [aa];refine aA (.int .i64 ((N:Int)+(C:Int))) rfl (fun w s=>by go_simp;rw [IntKind.wrap_i64];omega) ?_;simp only [aa];refine aA (.int .i64 ((N:Int)+(C:Int))) rfl (fun w s=>by go_simp) ?_;simp only [aa];refine wpQuiet_nil ?_;intro w4 y;have G:=ae y;clear y;go_wp2;go_ret;exact ⟨by simp,(o.out.drew).trans G.out GN⟩
end
def CR(w:World)(n:Nat)(p:Nat->Bool)(e:Ending)(w':World):Prop:=∃k:Nat,e= .returned (k:Int)/\k<=n/\(∀a,a<k->p a=false)/\(∀a,k<=a->a<n->p a=true)/\GM w w'
theorem vN(f:Nat)(lb:Array Value)(H:∀args w,(callFunc f args).run prog w= .ok (.enter f args) w)(n:Nat)(I:n<=1048576)(p:Nat->Bool)(t:∀i j,i<=j->j<n->p i=true->p j=true)(w:World)(d:∀i,i<n->∀w',GM w w'->Calls prog f (#[.int .i64 i]++lb) w' (fun e w2=>e= .returned (.bool (p i))/\GM w' w2)):
  Calls prog 294 #[(n:Int),.func (.func f) #[] lb] w (CR w n p):=by
 have y:=ae t;have z:=ae d;have G:(n:Int)<=1048576:=by omega
 clear t d
 go_enter func294,ntmps294
 go_wp2
 go_loopw [5,6] (fun a b wr=>∃i j:Nat,i<=j/\j<=n/\a= .int .i64 i/\b= .int .i64 j/\Hid (GM w wr/\(∀a,a<i->p a=false)/\∀a,j<=a->a<n->p a=true)) (fun a b _=>(intOf b-intOf a).toNat)
 case atStart=>exact ⟨0,n,by omega,by omega,rfl,rfl,⟨GQ _ w,fun a h=>absurd h (by omega),fun a u v=>absurd v (by omega)⟩⟩
 case round=>
  obtain ⟨i,j,C,s,rfl,rfl,k⟩:=hrel;by_cases E:i<j
  ·obtain ⟨m,t⟩:∃m,m=(i+j)/2:=⟨_,rfl⟩;have x:i<=m:=by omega
   have F:m<j:=by omega
   have A:((i:Int)+(j:Int))/2=(m:Int):=by omega
   have B:(i:Int)<=1048576:=by omega
   have D:(j:Int)<=1048576:=by omega
   have q:=z.out m (by omega) _ k.out.1;clear t
   cases hp:p m with
   |true=>
    rw [hp] at q;have l:=ae q;have c:Hid (∀w',GM wr w'->GM w w'/\(∀a,a<i->p a=false)/\∀a,m<=a->a<n->p a=true):=fun w' hf=>⟨k.out.1.trans hf GN,k.out.2.1,fun a u v=>y.out m a u v hp⟩
    clear q k hp;go_wp2_with fail
    refine l.out.mono ?_;rintro e w2 ⟨rfl,g⟩;have o:=ae (c.out w2 g);clear g c;go_wp2;go_roundw
    case rel=>exact ⟨i,m,x,by omega,rfl,rfl,o⟩
    case measure=>simp [intOf];omega
   |false=>
    rw [hp] at q;have l:=ae q;have c:Hid (∀w',GM wr w'->GM w w'/\(∀a,a<m+1->p a=false)/\∀a,j<=a->a<n->p a=true):=fun w' hf=>⟨k.out.1.trans hf GN,(fun a u=>by
     cases ha:p a with
     |false=>rfl
     |true=>(rw [y.out a m (by omega) (by omega) ha] at hp;cases hp)),k.out.2.2⟩
    clear q k hp;go_wp2_with fail
    refine l.out.mono ?_;rintro e w2 ⟨rfl,g⟩;have o:=ae (c.out w2 g);clear g c;go_wp2;go_roundw
    case rel=>exact ⟨m+1,j,by omega,s,by go_num,rfl,o⟩
    case measure=>simp [intOf];omega
  ·obtain rfl:i=j:=by omega
   have r:Hid (CR w n p (.returned (i:Int)) wr):=⟨i,rfl,s,k.out.2.1,k.out.2.2,k.out.1⟩;clear k;go_wp2;go_ret;exact r.out
section
open Go.RowKit Go.Shelf
theorem u5{f:Nat->Bool}{a i:Nat}(h:Qb f a i=0):∀j,a<=j->j<i->f j=false:=fun j b c=>by
 cases hj:f j with
 |false=>rfl
 |true=>have:=oY b c hj;omega
theorem xR{f:Nat->Bool}{A n K:Nat}(d:A<=n)(h:Qb f 0 A<=K)(c:K<Qb f 0 n):∃j,lu f A n j/\Qb f 0 j=Qb f 0 A:=by
 rw [bJ f (aF A) d] at c;obtain ⟨i,a,e,g,b⟩:=s9 f A n 0 (by omega);exact ⟨i,⟨a,e,g,u5 b⟩,by rw [bJ f (aF A) a,b];rfl⟩
theorem AI{w:World}{b g n i j:Nat}{ws:List Nat}(h:dv w b g n ws)(m:et w)(a:lu (bA ws) i n j):Calls prog 257 #[b,(i:Int)] w fun e w'=>e= .returned (.tuple #[(j:Int),.bool true])/\w=w':=by
 have:=h.small;have:=a.1;have:=a.2.1;refine (jW h m i (by omega)).mono ?_;rintro e w' ⟨⟨k,c,rfl⟩|⟨c,rfl⟩,o⟩
 ·have:k=j:=by
   rcases dC k j with l|d|f
   ·have:=a.2.2.2 k c.1 l;rw [c.2.2.1] at this;cases this
   ·exact d
   ·have:=c.2.2.2 j a.1 f;rw [a.2.2.1] at this;cases this
  rw [this];exact ⟨rfl,o⟩
 ·have:=c j a.1 a.2.1;rw [a.2.2.1] at this;cases this
theorem ft.Qa{w w':World}{x b gb n k i:Nat}{v:Value}{f:Nat->Bool}(h:ft w x b gb v n k i f)(hf:GM w w'):ft w' x b gb v n k i f:=h.frame hf id id id (fun _ _ h=>h)
theorem aS{S:Nat->Prop}{w w':World}(h:et w)(hf:Fr S w w')(c:¬S 1):et w':=fun i k b=>by
 have a:=h i k b;exact (World.cell?_of_block (w:=w) (hf.block _ (cl a) c)).trans a
theorem vR{w:World}{x b gb n k d:Nat}{v:Value}{f:Nat->Bool}(h:ft w x b gb v n k d f)(xb kb K:Nat)(o:aJ w xb [x] 337)(m:aJ w kb [(K:Int)] 3)(B:K<=1048576)(C:n<=1048576)(i:Nat)(r:i<d)(s:d<=1048576):
  Calls prog 295 #[(i:Int),xb,kb] w fun e w'=>e= .returned (.bool (decide (K<Qb f 0 (i*k))))/\GM w w':=by
 obtain ⟨g,cap,rfl,l⟩:=h.at r;have u:w.drew.cell? xb=_:=o.drew.cell 0 rfl;have y:w.drew.cell? kb=_:=m.drew.cell 0 rfl;have z:w.drew.cell? ⟨x,1,none⟩=_:=h.Qd.drew.cell 1 rfl;have A:w.drew.cell? ⟨g,i,none⟩=_:=l;have q:=ae ((GQ (fun _=>False) w).drew);have a:decide (K<Qb f 0 (i*k))=decide ((K:Int)<((Qb f 0 (i*k):Nat):Int)):=by rw [ce];omega
 rw [a];generalize Qb f 0 (i*k)=N at*;have t:(i:Int)<(d:Int):=by omega
 clear h o m l a
 go_enter func295,ntmps295
 go_wp2;refine bt (fun w'=>w'=w.drew) rfl ?_;refine aA x rfl (fun w c=>by subst c;go_simp) ?_;simp only [aa];refine aV [x,.pointer (some ⟨x,1,none⟩)] ?_
 iterate 2 (refine aW rfl (fun p j=>by go_simp) ?_;simp only [aa])
 refine aU ?_;refine aA (.slice (some g) d cap) rfl (fun w c=>by subst c;go_simp) ?_;simp only [aa];refine aV [(i:Int),.pointer (some ⟨g,i,none⟩)] ?_
 iterate 2 (refine aW rfl (fun p j=>by go_simp) ?_;simp only [aa])
 refine aU ?_;refine aA (N:Int) rfl (fun w c=>by subst c;go_simp) ?_;simp only [aa];refine aA (K:Int) rfl (fun w c=>by subst c;go_simp) ?_;simp only [aa];refine aV [.bool (decide ((K:Int)<(N:Int))),.bool (decide ((K:Int)<(N:Int)))] ?_
 iterate 2 (refine aW rfl (fun p j=>by go_simp) ?_;simp only [aa])
 refine aU ?_;refine wpQuiet_nil ?_;rintro w2 rfl;go_wp2;go_ret;exact ⟨rfl,q.out⟩
def vm(f:Nat->Bool)(n K:Nat)(w:World)(e:Ending)(w':World):Prop:=∃a:Nat,e= .returned (.tuple #[(a:Int),.bool true])/\a<n/\f a=true/\Qb f 0 a=K/\GM w w'
theorem zc{w:World}{x b gb n k t:Nat}{v:Value}{f:Nat->Bool}(h:ft w x b gb v n k t f)(hT:et w)(hn:n<=t*k)(X:(t-1)*k<n)(aw:1<=t)(hk:1<=k)(aP:k<=1024)(K:Nat)(hK:K<Qb f 0 n):Calls prog 293 #[x,(K:Int)] w (vm f n K w):=by
 obtain ⟨ws,hv,u⟩:=h.vec;have T:bA ws=f:=funext u;have ar:=hv.small;have an:K<=1048576:=by have:=fZ f n;omega
 have D:t<=1048576:=by
  have:t-1<=(t-1)*k:=dc _ (by omega);omega
 obtain ⟨g,cap,rfl,_⟩:=h.at (show 0<t by omega);obtain ⟨W,S⟩:∃W,(w.alloc (.cells #[x] 337)).alloc (.cells #[(K:Int)] 3)=W:=⟨_,rfl⟩;have hf:GM w W:=by rw [<-S];exact ((GQ _ w).alloc _).alloc _
 have O:aJ W w.heap.size [x] 337:=by rw [<-S];exact (aJ.new w _ _).alloc _
 have L:aJ W (w.heap.size+1) [(K:Int)] 3:=by
  rw [<-S];have:=aJ.new (w.alloc (.cells #[x] 337)) [(K:Int)] 3;rwa [World.size_alloc] at this
 obtain ⟨N,hN⟩:∃N,Qb f 0 n=N:=⟨_,rfl⟩;have d:=ae (fun w' (c:GM W w')=>(ag ((O.frame c id).cell 0 rfl) (ag ((L.frame c id).cell 0 rfl) (ag (((h.Qa hf).Qa c).Qd.cell 0 rfl) (ag (((h.Qa hf).Qa c).Qd.cell 1 rfl) (ag (((h.Qa hf).Qa c).Qd.cell 2 rfl) (((h.Qa hf).Qa c).Qd.cell 3 rfl)))))));have af:=ae (fun w' (c:GM W w') j (I:j<t)=>((h.Qa hf).Qa c).at I);have E:=ae (fun w' (c:GM W w') i j (I:lu (bA ws) i n j)=>AI ((hv.frame hf id id).frame c id id) (aS (aS hT hf id) c id) I);have H:∀w',GM W.drew w'->GM W w':=fun w' c=>((GQ (fun _=>False) W).drew).trans c GN
 have r:=vN 295 #[w.heap.size,.pointer (some ⟨w.heap.size+1,0,none⟩)] (enters_of func295 (by kernel_rfl) rfl) t D (fun i=>decide (K<Qb f 0 (i*k)))
  (fun i j ap _ h=>by rw [aC] at h ⊢;have:=il f (a:=0) (aX k ap);omega) W.drew
  (fun i hi w' c=>vR ((h.Qa hf).Qa (H w' c)) w.heap.size (w.heap.size+1) K (O.frame (H w' c) id) (L.frame (H w' c) id) an ar i hi D)
 have HS:=ae r;rw [T] at E;rw [iI hn,hN] at d;have am:(K:Int)<(N:Int):=by omega
 have aB:(0:Int)<=(K:Int):=by omega
 have HK:=ae hK;have ah:=ae hf;have aj:=ae (ag hn X);have ax:(t:Int)<=1048576:=by omega
 have aQ:(k:Int)<=1024:=by omega
 have ay:=ae S;have dk:W.drew.cell? ⟨w.heap.size+1,0,none⟩=_:=(d.out W.drew ((GQ _ W).drew)).2.1;have dx:W.drew.cell? w.heap.size=_:=(d.out W.drew ((GQ _ W).drew)).1;have d1:W.drew.cell? ⟨x,1,none⟩=_:=(d.out W.drew ((GQ _ W).drew)).2.2.2.1;have d3:W.drew.cell? ⟨x,3,none⟩=_:=(d.out W.drew ((GQ _ W).drew)).2.2.2.2.2;clear h hT hv u T O L r hf hK hN hn X
 go_enter func293,ntmps293
 go_wp2;clear S;refine bt (fun w'=>w'=W.drew) rfl ?_;refine aA x rfl (fun w l=>by subst l;go_simp) ?_;simp only [aa];refine aV [.bool false,.bool false] ?_
 iterate 2 (refine aW rfl (fun w9 R=>by go_simp) ?_;simp only [aa])
 refine aU ?_;refine cC (K:Int) rfl (fun w l=>by subst l;go_simp) ?_;simp only [aa];refine aV [.bool false,.bool false,.bool false] ?_
 iterate 3 (refine aW rfl (fun w9 R=>by go_simp) ?_;simp only [aa])
 refine aU ?_;refine cC (K:Int) rfl (fun w l=>by subst l;go_simp) ?_;simp only [aa];refine cC x rfl (fun w l=>by subst l;go_simp) ?_;simp only [aa];refine aV [x,.pointer (some ⟨x,3,none⟩)] ?_
 iterate 2 (refine aW rfl (fun w9 R=>by go_simp) ?_;simp only [aa])
 refine aU ?_;refine cC (N:Int) rfl (fun w l=>by subst l;go_simp) ?_;simp only [aa];refine cC (.bool false) rfl (fun w l=>by go_simp;omega) ?_;simp only [aa];refine aA (.bool false) rfl (fun w l=>by go_simp) ?_;simp only [aa];refine wpQuiet_nil ?_;rintro w2 rfl;go_wp2_with fail
 refine HS.out.mono ?_;rintro e w2 ⟨s,rfl,aq,Z,ad,V⟩;have y:GM W w2:=((GQ (fun _=>False) W).drew).trans V GN;have aZ:1<=s:=by
  by_cases h0:s=0
  ·subst h0;have:=ad 0 (ak 0) (by omega);rw [aC,gz,eS f (ak 0)] at this;omega
  ·omega
 obtain ⟨B,rfl⟩:∃B,s=B+1:=⟨s-1,by omega⟩;have F:Qb f 0 (B*k)<=K:=by
  have:=Z B (by omega);rw [az] at this;omega
 have G:B*k<=n:=by
  have:=aX k (show B<=t-1 by omega);have:=aj.out.2;omega
 have al:B<=B*k:=dc B (by omega);obtain ⟨j,I,J⟩:=xR G F HK.out;obtain ⟨g',av,au,ao⟩:=af.out w2.drew y.drew B (by omega)
 cases au
 have P:=ae (E.out w2.drew y.drew (B*k) j I);obtain ⟨e0,e1,e2,e3,e4,_⟩:=d.out w2.drew y.drew;have o:=I.2;obtain ⟨M,hM⟩:∃M,B*k=M:=⟨_,rfl⟩;have aD:(B:Int)*(k:Int)=(M:Int):=by rw [<-hM];simp
 rw [hM] at J P ao F G al;have aH:(B:Int)<=1048576:=by omega
 have aK:(M:Int)<=1048576:=by omega
 have aL:(B:Int)<(t:Int):=by omega
 have HJ:=ae (ag o.1 (ag o.2.1 J));have z:=ae y;clear aq Z ad V y I o J hM G HS dk dx d1 d3 am;go_wp2;refine bt (fun w'=>w'=w2.drew) rfl ?_;refine aA x rfl (fun w l=>by subst l;go_simp) ?_;simp only [aa];refine aV [x,x] ?_
 iterate 2 (refine aW rfl (fun w9 R=>by go_simp) ?_;simp only [aa])
 refine aU ?_;refine aA b rfl (fun w l=>by subst l;go_simp) ?_;simp only [aa];refine aA (B:Int) rfl (fun w l=>by go_simp) ?_;simp only [aa];refine aA x rfl (fun w l=>by subst l;go_simp) ?_;simp only [aa];refine aV [x,.pointer (some ⟨x,2,none⟩)] ?_
 iterate 2 (refine aW rfl (fun w9 R=>by go_simp) ?_;simp only [aa])
 refine aU ?_;refine aA (k:Int) rfl (fun w l=>by subst l;go_simp) ?_;simp only [aa];refine aA (M:Int) rfl (fun w l=>by go_simp;rw [IntKind.wrap_i64];omega) ?_;simp only [aa];refine bT (.tuple #[(j:Int),.bool true]) 257 #[b,(M:Int)] rfl (fun w=>by go_simp) (fun w l=>by subst l;exact P.out.mono fun e w' h=>⟨h.1,h.2.symm⟩) ?_;simp only [aa];refine aV [.tuple #[(j:Int),.bool true],(j:Int),.bool true,(j:Int),.bool true] ?_
 iterate 5 (refine aW rfl (fun w9 R=>by go_simp) ?_;simp only [aa])
 refine aU ?_;refine wpQuiet_nil ?_;rintro w3 rfl;generalize Qb f 0 M=N0 at*;have aM:(N0:Int)<=(K:Int):=by omega
 have aN:(K:Int)<=1048576:=by omega
 clear e2 e4;go_wp2
 go_loopw [7,9] (fun p q wr=>∃a m:Nat,p= .int .i64 a/\q= .int .i64 m/\m<=K/\wr=w2.drew/\Hid (a<n/\f a=true/\Qb f 0 a=m)) (fun _ q _=>(K-intOf q).toNat)
 case atStart=>exact ⟨j,N0,rfl,rfl,F,rfl,HJ.out⟩
 case round=>
  obtain ⟨a,m,rfl,rfl,aT,rfl,Y⟩:=hrel;by_cases aR:m<K
  ·obtain ⟨h1,h2,h3⟩:=Y.out;have U:Qb f 0 (a+1)=m+1:=by rw [cr f (aF a),h3,aG h2]
   obtain ⟨j2,o,C⟩:=xR (A:=a+1) (by omega) (by omega) HK.out;have Q:=ae (E.out w2.drew z.out.drew (a+1) j2 o);rw [show ((a+1:Nat):Int)=(a:Int)+1 by omega] at Q;have ai:=ae (ag o.2.1 (ag o.2.2.1 (C.trans U)));have aE:(a:Int)<=1048576:=by omega
   have aY:(m:Int)<(K:Int):=by omega
   obtain ⟨e0,e1,e2,_⟩:=d.out w2.drew z.out.drew;clear Y h1 h2 h3 U o C;go_wp2_with fail
   refine Q.out.mono ?_;rintro e w' ⟨rfl,rfl⟩;go_wp2;go_roundw
   case rel=>exact ⟨j2,m+1,rfl,by go_num,by omega,trivial,ai.out⟩
   case measure=>simp [intOf];omega
  ·obtain rfl:m=K:=by omega
   obtain ⟨e0,e1,_⟩:=d.out w2.drew z.out.drew;go_wp2;go_ret2;exact ⟨a,rfl,Y.out.1,Y.out.2.1,Y.out.2.2,ah.out.trans z.out.drew GN⟩
end
section
open Go.RowKit Go.Shelf
theorem oy{α:Type}{xs a:List α}{x:α}(h:a=xs.take a.length)(b:xs[a.length]? =some x):a++[x]=xs.take (a++[x]).length:=by
 rw [aH,aP,ea,<-h,b];rfl
def oU(pre:List (Nat×Nat))(j:Nat):Bool:=pre.any fun x=>decide (x.1<=j)&&decide (j<x.1+x.2)
theorem xd(a:List (Nat×Nat))(x:Nat×Nat)(j:Nat):oU (a++[x]) j=(oU a j||(decide (x.1<=j)&&decide (j<x.1+x.2))):=by
 unfold oU;rw [List.any_append];simp
theorem dW{E:Nat->Nat}{W:Nat}{x:Nat×Nat}:x∈cS E W↔x.1<W/\E x.1≠0/\x.2=E x.1:=by
 unfold cS;rw [bu];constructor
 ·rintro ⟨s,d,rfl⟩;have:=qH.1 d;exact ⟨this.2.1,eY.1 this.2.2,rfl⟩
 ·rintro ⟨a,b,c⟩;exact ⟨x.1,qH.2 ⟨aF _,a,eY.2 b⟩,by rw [<-c]⟩
theorem xe{E:Nat->Nat}{W:Nat}(b:∀a,E a≠0->a+E a<=W)(j:Nat):oU (cS E W) j=aI E j:=by
 rw [bS,cX];unfold oU;rw [fG];constructor
 ·rintro ⟨x,f,h⟩;rw [au,aC,aC] at h;have:=dW.1 f;exact ⟨x.1,h.1,by rw [<-this.2.2];exact h.2⟩
 ·rintro ⟨s,d,e⟩;have c:E s≠0:=by omega
  have:=b s c;exact ⟨(s,E s),dW.2 ⟨by show s<W;omega,c,rfl⟩,by rw [au,aC,aC];exact ⟨d,e⟩⟩
def mD(lo hi:Nat)(w:World)(t W k:Nat)(f:Nat->Bool):Prop:=
 ∃b1 g1 x b gb v nb,(∀i,i=t\/i=b1\/i=g1\/i=x\/i=b\/i=gb\/v.ownBlock=some i->lo<=i/\i<hi)/\aJ w t [.pointer (some ⟨b1,0,none⟩),.pointer (some ⟨x,0,none⟩)] 341/\(∃ws,dv w b1 g1 W ws/\∀j,bA ws j=f j)/\
  ft w x b gb v W k nb f/\W<=nb*k/\(nb-1)*k<W/\1<=nb/\1<=k/\k<=1024
theorem mD.frame{lo c:Nat}{S:Nat->Prop}{w w':World}{t W k:Nat}{f:Nat->Bool}(h:mD lo c w t W k f)(hf:Fr S w w')(j:∀i,S i->i<lo\/c<=i):mD lo c w' t W k f:=by
 obtain ⟨e,g1,x,b,gb,v,m,d,n,⟨ws,o,p⟩,q,r⟩:=h;have a:∀i,(i=t\/i=e\/i=g1\/i=x\/i=b\/i=gb\/v.ownBlock=some i)->¬S i:=fun i c l=>by
  have:=d i c;rcases j i l with h|h<;>omega
 refine ⟨e,g1,x,b,gb,v,m,d,n.frame hf (a _ (by simp)),⟨ws,o.frame hf (a _ (by simp)) (a _ (by simp)),p⟩,q.frame hf (a _ (by simp)) (a _ (by simp)) (a _ (by simp)) (fun g hg=>a g (by simp [hg])),r⟩
def xr(L:cF)(W:Nat)(E:Nat->Nat)(tb lb b1 g1:Nat)(pre:List (Nat×Nat))(S:Nat->Prop)(w:World):Prop:=
 (S=fun k=>k=g1)/\rK L tb W E w/\aJ w lb [b1] 211/\∃ws,dv w b1 g1 W ws/\∀j,bA ws j=oU pre j
theorem xr.stays{L:cF}{W:Nat}{E:Nat->Nat}{tb lb b g1 B:Nat}(j:∀k,L.has k->k<B)(d:tb<B)(e:lb<B)(f:b<B)(g:1<B):gE B (xr L W E tb lb b g1):=by
 rintro m S W1 t T ⟨rfl,⟨n,o,p⟩,q,ws,r,s⟩ hf c;have a:∀i,i<B->¬T i:=fun i u h=>by have:=(c i h).1;omega
 exact ⟨rfl,⟨n.frame hf (fun k l=>a k (j k l)),aS o hf (a _ g),p.frame hf (a _ d)⟩,q.frame hf (a _ e),ws,r.frame hf (a _ f) (fun h=>(c _ h).2 rfl),s⟩
end
section
open Go.RowKit Go.Shelf
def Ed(W k:Nat)(E:Nat->Nat)(w:World)(e:Ending)(w':World):Prop:=
 ∃t,e= .returned (.tuple #[.pointer (some ⟨t,0,none⟩),(0:Int)])/\mD w.heap.size w'.heap.size w' t W k (aI E)/\GM w w'
theorem Dy{w w1 w2 E:World}{n g1 x b gb:Nat}{v:Value}{C W k:Nat}{f:Nat->Bool}{ws:List Nat}(N:GM w w1)(hf:GM w1 w2)
  (S:dv w1 n g1 W ws) (s:∀j,bA ws j=f j) (h1:w.heap.size<=n) (h2:w.heap.size<=g1) (z:ft w2 x b gb v W k C f) (H:W<=C*k) (I:(C-1)*k<W) (J:1<=C) (F:1<=k) (G:k<=1024) (u:ft.from w1.heap.size x b gb v)
  (Q:E=w2.alloc (.cells #[n,x] 341)) {D:Nat} (hD:w.heap.size<=D) (y:w2.heap[D]? =some (.deferred (some []))):
  mD w.heap.size (E.putObj D (.deferred none)).heap.size (E.putObj D (.deferred none)) w2.heap.size W k f/\GM w (E.putObj D (.deferred none)):=by
 subst Q;have U:=N.size;have V:=hf.size;have m:=S.frame hf id id;have t:GM w2 (w2.alloc (.cells #[n,x] 341)):=(GQ _ w2).alloc _;have d:Fr (fun k=>k=D) (w2.alloc (.cells #[n,x] 341)) ((w2.alloc (.cells #[n,x] 341)).putObj D (.deferred none)):=(GQ _ _).putObj _ _ (.inl rfl);have K:=d.size;rw [World.size_alloc] at K;have P:=(bH.1 y).1;obtain ⟨wr,p,_⟩:=z.vec;have a:∀i o,w2.heap[i]? =some o->o.isCells=true->i≠D:=fun i o M R e=>by subst e;rw [y] at M;cases M;cases R
 have l:∀{c:List Value} {X:TypeId} {i:Nat},aJ w2 i c X->i≠D:=fun h=>a _ _ h rfl
 have r:∀g,v.ownBlock=some g->g≠D/\g<w2.heap.size:=fun g hg=>by
  rcases z.row.2 with ⟨rfl,_⟩|⟨g',cap,cur,rfl,_,L,_⟩
  ·cases hg
  ·simp only [Value.ownBlock,aL] at hg;subst hg;exact ⟨a _ _ L rfl,(bH.1 L).1⟩
 have B:n≠D/\g1≠D:=⟨let ⟨_,_,q⟩:=m.Qd;l q,let ⟨_,q⟩:=m.row;l q⟩;have A:b≠D/\gb≠D:=⟨let ⟨_,_,q⟩:=p.Qd;l q,let ⟨_,q⟩:=p.row;l q⟩;have T:=l z.Qd;have l1:=m.blt;have l2:=m.Yz;have l3:=p.blt;have l4:=p.Yz;have l5:=z.Qd.lt;obtain ⟨Y,Z,f3,O⟩:=u;refine ⟨⟨n,g1,x,b,gb,v,C,?_,?_,⟨ws,(m.frame t id id).frame d B.1 B.2,s⟩,(z.Qa t).frame d T A.1 A.2 (fun g hg=>(r g hg).1),H,I,J,F,G⟩,((N.trans hf GN).trans t GN).trans d (fun i hi=> .inr (by omega))⟩
 ·rintro i (h|h|h|h|h|h|h)
  ·omega
  ·omega
  ·omega
  ·omega
  ·omega
  ·omega
  ·have:=O i h;have:=(r i h).2;omega
 ·have:aJ (w2.alloc (.cells #[n,x] 341)) w2.heap.size [n,x] 341:=aJ.new w2 _ _;exact this.frame d (by omega)
section
attribute [local go_sem] Oper.semAt_some
theorem Dv(d:Nat){w:World}{L:cF}{W k:Nat}{E:Nat->Nat}(h:eJ w L W E)(hT:et w)(N:cJ (k:Int)=true)(am:1<=k)(an:k<=1024):CallsIn Fence.wide d prog 217 #[L.m,(k:Int)] w (Ed W k E w):=by
 refine callsIn_of_wp_marks func217 rfl trivial ?_ rfl;simp only [ntmps217,cU,bn,ch,Nat.reduceAdd,Nat.reduceSub,cH,cG,de,cQ,bZ,dd];obtain ⟨ay,ak⟩:=h.small;have U:=ae (gT h);have HV:=ae (fun w=>xz W ay ak w);have HX:=ae h;have HT:=ae hT;have ax:((W:Int)==0)=false:=by rw [aT];omega
 clear h hT;gi_wp2;refine ep (U.out.mono ?_);rintro e w' ⟨rfl,rfl⟩;gi_wp2;refine ep (U.out.mono ?_);rintro e w' ⟨rfl,rfl⟩;gi_wp2;refine ep ((HV.out _).mono ?_);rintro e w1 ⟨M,g1,rfl,hv,y,c,t⟩;obtain ⟨f,q⟩:∃f,w1.alloc (.cells #[M] 211)=f:=⟨_,rfl⟩;have a:GM w1 f:=by rw [<-q];exact (GQ _ w1).alloc _
 have A:aJ f w1.heap.size [M] 211:=by rw [<-q];exact aJ.new w1 _ _
 have HA:=ae (jv L.m f);have G:=ae (ag hv (ag y (ag c (ag t (ag a A)))));have g:f.heap.size=w1.heap.size+1:=by rw [<-q];simp
 have H:=ae g;clear hv y c t a A HV U ax g;gi_wp2;clear q;refine ep (HA.out.mono ?_);rintro e Y ⟨rfl,I⟩;have J:GM f Y:=by rw [I];exact (GQ _ f).alloc _
 have ao:aJ Y f.heap.size [L.m] 132:=by rw [I];exact aJ.new f _ _
 have au:Y.heap.size=f.heap.size+1:=by rw [I];simp
 obtain ⟨hv,y,c,t,a,A⟩:=G.out;have z:GM w1 Y:=a.trans J GN;have r:GM w Y:=t.trans z GN;have g:=H.out;have aF:=t.size;have aq:=hv.blt;have ar:=hv.Yz;have Z:xr L W E f.heap.size w1.heap.size M g1 [] (fun k=>k=g1) Y:=⟨rfl,⟨HX.out.frame r (fun _ _ h=>h),aS HT.out r id,ao⟩,A.frame J id,_,hv.frame z id id,fun j=>by rw [nV];rfl⟩;have ap:1<w.heap.size:=cl (HT.out 0 0 rfl);have p:gE Y.heap.size (xr L W E f.heap.size w1.heap.size M g1):=xr.stays (fun k N=>by have:=HX.out.lt k N;omega) (by omega) (by omega) (by omega) (by omega);have Q:=ae (ag J (ag r (ag au ap)));clear I J ao au hv y c a A g r z aF ap HA t;gi_wp2;refine iO (gf:=220) (lb:= #[f.heap.size]) rfl (enters_of func220 (by kernel_rfl) rfl) (encs:=mC) (fun _=>rfl) (jw (L:=L) (tb:=f.heap.size) (E:=E) ak) (xr L W E f.heap.size w1.heap.size M g1) (fun k=>k=g1) p (fun _ _ _ h=>h.2.1) (fun k N=>by have:=H.out;have:=Q.out.2.2.1;omega) Z
  ?a1 ?assign ?body ?done
 case assign=>
  intro k x W K hK;unfold mC;gi_wp2;exact hK
 case body=>
  intro l aG S x X hI O hf hs;obtain ⟨rfl,⟨q1,q2,q3⟩,q4,ws,q5,q6⟩:=hI;obtain ⟨s,n⟩:=x;obtain ⟨m1,m2,m3⟩:=dW.1 (aD O);dsimp only at m1 m2 m3;have P:=HX.out.top s m2;rw [<-m3] at P;have hz:=Q.out;have g:=H.out;have c:=G.out.2.2.1;have aj:∀k,L.has k->¬k=g1:=fun k N=>by have:=HX.out.lt k N;omega
  have R:=ae (yL q5 (F:=s) (T:=s+n) (by omega) (by omega));rw [show ((s+n:Nat):Int)=(s:Int)+(n:Int) by omega] at R;have c0:=q4.cell 0 rfl;have HE:=ae (fun u C (r1:dv u M g1 W C) (r2:∀j,bA C j=(bA ws j||(decide (s<=j)&&decide (j<s+n)))) (B:Fr (fun k=>k=g1) X u)=>
   (show CT (xr L W E f.heap.size w1.heap.size M g1) (aG++[(s,n)]) (fun k=>k=g1) X u from
    ⟨fun k=>k=g1,⟨rfl,⟨q1.frame B aj,aS q2 B (by omega),q3.frame B (by omega)⟩,q4.frame B (by omega),C,r1,fun j=>by rw [r2,xd,q6]⟩,B,fun k h=> .inl h⟩))
  have y:(s:Int)<=1048576:=by omega
  have aH:(n:Int)<=1048576:=by omega
  clear hf hs q1 q2 q3 q4 q5 q6 O hz g c aj P m1 m2 m3 Z p aq ar;gi_wp2;refine vd (R.out.mono ?_);rintro e u ⟨⟨V,rfl⟩,C,r1,r2,B⟩;have aw:=ae (HE.out u C r1 r2 B);clear r1 r2 B HE R;gi_wp2;exact aw.out
 case done=>
  intro D S X hI hD aK aL hf hs;obtain ⟨rfl,⟨q1,q2,q3⟩,q4,ws,q5,q6⟩:=hI;have c0:=q4.cell 0 rfl;have o:∀j,bA ws j=aI E j:=fun j=>by rw [q6,xe HX.out.top]
  have HR:=ae (Dm q5 N am an);rw [funext o] at HR;have hz:=Q.out;have g:=H.out;have c:=G.out.2.2.1;have al:GM w X:=hz.2.1.trans hf (fun k N=> .inr (by omega));have az:w.heap.size<=D:=by have:=hz.2.1.size;omega
  have hq:∀w2 i x b gb v nb,GM X w2->ft w2 x b gb v W k nb (aI E)->W<=nb*k->(nb-1)*k<W->1<=nb->ft.from X.heap.size x b gb v->i=w2.alloc (.cells #[M,.pointer (some ⟨x,0,none⟩)] 341)->
    mD w.heap.size (i.putObj D (.deferred none)).heap.size (i.putObj D (.deferred none)) w2.heap.size W k (aI E)/\GM w (i.putObj D (.deferred none)):=fun w2 i x b gb v nb a hr aB aC aE ad hW=>
   Dy al a q5 o G.out.2.1 c hr aB aC aE am an ad hW az (a.heap hD id)
  have HQ:=ae hq;have af:=ae (fun w2 (a:GM X w2)=>(ag ((q4.frame a id).cell 0 rfl) (a.heap hD id)));clear hf hs q1 q2 q3 q4 q5 q6 hz g c Z p aq ar al o N hq;gi_wp2;refine ep (HR.out.mono ?_);rintro e w2 ⟨x,b,gb,v,nb,rfl,r1,r2,B,r4,r5,r6⟩;obtain ⟨d0,ai⟩:=af.out w2 r6;have ah:=ae (fun i hW=>HQ.out w2 i x b gb v nb r6 r1 r2 B r4 r5 hW);have av:=ae ai;clear r1 r2 B r4 r5 r6 HQ HR af c0 ai hD;gi_wp2;refine ⟨by simp,.inl ⟨_,_,rfl,run_takeDeferred (((GQ (fun _=>False) w2).alloc _).heap av.out id),?_⟩⟩;exact ⟨_,results_tmp2 rfl _ _ _,w2.heap.size,rfl,(ah.out _ rfl).1,(ah.out _ rfl).2⟩
end
end
section
open Go.RowKit Go.Shelf
theorem Dx{lo m:Nat}{w:World}{t W k:Nat}{f:Nat->Bool}(h:mD lo m w t W k f)(a:Nat)(l:a<W):Calls prog 225 #[t,(a:Int)] w fun e w'=>e= .returned (.bool (f a))/\w=w':=by
 obtain ⟨o,g1,x,b,gb,v,q,c,g,⟨ws,i,j⟩,n⟩:=h;have p:=g.cell 0 rfl;have d:=ae (AH i l);rw [j] at d;generalize f a=fa at*;clear c g i j n
 go_enter func225,ntmps225
 go_wp2_with fail
 refine d.out.mono ?_;rintro e w' ⟨rfl,rfl⟩;go_wp2;go_ret;exact ⟨rfl,rfl⟩
theorem uq{lo p:Nat}{w:World}{t W k:Nat}{f:Nat->Bool}(h:mD lo p w t W k f)(a:Nat)(o:a<=1048576):Calls prog 226 #[t,(a:Int)] w fun e w'=>e= .returned (.int .i64 ((Qb f 0 (min a W):Nat):Int))/\GM w w':=by
 obtain ⟨y,g1,x,b,gb,v,z,c,d,⟨ws,q,r⟩,g,i,s,u,j,l⟩:=h;have c1:=d.cell 1 rfl;have n:=ae (ue g i j l a o);generalize Qb f 0 (min a W)=N at*;clear c d q r g i s u j l
 go_enter func226,ntmps226
 go_wp2_with fail
 refine n.out.mono ?_;rintro e w' ⟨rfl,hf⟩;have m:=ae hf;clear hf;go_wp2;go_ret;exact ⟨rfl,m.out⟩
theorem rW{lo j:Nat}{w:World}{t W k:Nat}{f:Nat->Bool}(h:mD lo j w t W k f):Calls prog 219 #[t] w fun e w'=>e= .returned (.int .i64 ((Qb f 0 W:Nat):Int))/\w=w':=by
 obtain ⟨r,g1,x,b,gb,v,s,a,c,⟨ws,l,m⟩,d,g,n,o,p,q⟩:=h;have c1:=c.cell 1 rfl;have i:=ae (ze d g);generalize Qb f 0 W=N at*;clear a c l m d g n o p q
 go_enter func219,ntmps219
 go_wp2_with fail
 refine i.out.mono ?_;rintro e w' ⟨rfl,rfl⟩;go_wp2;go_ret;exact ⟨rfl,rfl⟩
theorem zo{lo A:Nat}{w:World}{t W k:Nat}{f:Nat->Bool}(h:mD lo A w t W k f)(n:et w)(K:Nat)(m:K<Qb f 0 W):Calls prog 287 #[t,(K:Int)] w (vm f W K w):=by
 obtain ⟨D,g1,x,b,gb,v,E,d,o,⟨ws,B,C⟩,p,q,r,s,u,y⟩:=h;have c1:=o.cell 1 rfl;have z:=ae (zc p n q r s u y K m);clear d o B C p q r s u y n m
 go_enter func287,ntmps287
 go_wp2_with fail
 refine z.out.mono ?_;rintro e w' ⟨a,rfl,g,i,j,l⟩;have c:=ae (ag g (ag i (ag j l)));clear g i j l;go_wp2;go_ret2;exact ⟨a,rfl,c.out.1,c.out.2.1,c.out.2.2.1,c.out.2.2.2⟩
end
section
open Go.RowKit Go.Shelf
theorem px(f:Nat->Bool)(a n:Nat):(dQ f a n).Pairwise (· < ·):=by
 unfold dQ;exact lV _ List.pairwise_lt_range'
theorem kt{E:Nat->Nat}{W i:Nat}{x y:Nat×Nat}(c:(cS E W)[i]? =some x)(d:y∈(cS E W).take i):y.1<x.1:=by
 have hp:(cS E W).Pairwise (fun a b=>a.1<b.1):=by
  unfold cS;rw [List.pairwise_map];exact px _ _ _
 rw [<-dB i (cS E W),List.pairwise_append] at hp;refine hp.2.2 y d x ?_;rw [bw];exact ⟨0,by rw [fR,bg];exact c⟩
def gU(lo hi:Nat)(w:World)(p W k:Nat)(E:Nat->Nat)(Ba:Nat):Prop:=
 ∃t o,lo<=p/\p<hi/\aJ w p [.pointer (some ⟨t,0,none⟩),.pointer (some ⟨o,0,none⟩),(Ba:Int)] 301/\mD lo hi w t W k (aI E)
theorem gU.frame{lo a:Nat}{S:Nat->Prop}{w w':World}{p W k Ba:Nat}{E:Nat->Nat}(h:gU lo a w p W k E Ba)(hf:Fr S w w')(b:∀i,S i->i<lo\/a<=i):gU lo a w' p W k E Ba:=by
 obtain ⟨t,o,c,d,e,f⟩:=h;exact ⟨t,o,c,d,e.frame hf (fun h=>by rcases b _ h with h|h<;>omega),f.frame hf b⟩
theorem mD.wide{lo c a hi':Nat}{w:World}{t W k:Nat}{f:Nat->Bool}(h:mD lo c w t W k f)(j:a<=lo)(l:c<=hi'):mD a hi' w t W k f:=by
 obtain ⟨e,g1,x,b,gb,v,g,d,q⟩:=h;exact ⟨e,g1,x,b,gb,v,g,fun i c=>by have:=d i c;omega,q⟩
def tJ(L L':cF)(W k:Nat)(E:Nat->Nat)(tb ob t lo hi:Nat)(pre:List (Nat×Nat))(S:Nat->Prop)(w:World):Prop:=
 (S=L'.turns)/\rK L tb W E w/\aJ w ob [L'.m] 132/\mD lo hi w t W k (aI E)/\pre=(cS E W).take pre.length/\∃E',eJ w L' W E'/\∀a,E' a≠0->(a,E' a)∈pre
theorem tJ.stays{L L':cF}{W k:Nat}{E:Nat->Nat}{tb f t lo b B:Nat}(n:∀k,L.has k->k<B)(c:∀k,L'.has k->k<B)(j:tb<B)(l:f<B)(z:b<=B)(m:1<B):gE B (tJ L L' W k E tb f t lo b):=by
 rintro o S W1 y T ⟨rfl,⟨p,q,r⟩,s,u,v,g,w,x⟩ hf e;have a:∀i,i<B->¬T i:=fun i b h=>by have:=(e i h).1;omega
 exact ⟨rfl,⟨p.frame hf (fun k d=>a k (n k d)),aS q hf (a _ m),r.frame hf (a _ j)⟩,s.frame hf (a _ l),u.frame hf (fun i b=> .inr (by have:=(e i b).1;omega)),v,g,w.frame hf (fun k d=>a k (c k d)),x⟩
theorem tJ.step{L L':cF}{W k:Nat}{E:Nat->Nat}{tb j t lo g s n:Nat}{b:List (Nat×Nat)}{w w':World}{c:Nat->Nat}(d:rK L tb W E w)(i:aJ w j [L'.m] 132)(u:mD lo g w t W k (aI E))(hp:b=(cS E W).take b.length)
  (x:∀a,c a≠0->(a,c a)∈b) (y:(cS E W)[b.length]? =some (s,n)) (v:eJ w' L' W (ec c s n)) (hf:Fr L'.turns w w') (l:∀k,L.has k->¬L'.turns k) (o:¬L'.turns tb) (p:¬L'.turns j) (q:∀k,L'.turns k->k<lo\/g<=k) (r:¬L'.turns 1):
  CT (tJ L L' W k E tb j t lo g) (b++[(s,n)]) L'.turns w w':=
 ⟨L'.turns,⟨rfl,⟨d.1.frame hf l,aS d.2.1 hf r,d.2.2.frame hf o⟩,i.frame hf p,u.frame hf q,oy hp y,ec c s n,v,fun a f=>by
  unfold ec at f ⊢;by_cases e:a=s
  ·subst e;rw [aG rfl];simp
  ·rw [aE e] at f ⊢;exact dg _ (x a f)⟩,hf,fun k h=> .inl h⟩
def Ej(W k:Nat)(E:Nat->Nat)(Ba:Nat)(w:World)(e:Ending)(w':World):Prop:=
 ∃p,e= .returned (.tuple #[.pointer (some ⟨p,0,none⟩),(0:Int)])/\gU w.heap.size w'.heap.size w' p W k E Ba/\GM w w'
section
attribute [local go_sem] Oper.semAt_some
theorem yf(d:Nat){w:World}{L:cF}{W k:Nat}{E:Nat->Nat}(h:eJ w L W E)(hT:et w)(y:cJ (k:Int)=true)(au:1<=k)(av:k<=1024)(Ba:Nat)(hb:Ba<2147483648):CallsIn Fence.wide d prog 152 #[L.m,(k:Int),(Ba:Int)] w (Ej W k E Ba w):=by
 refine callsIn_of_wp_marks func152 rfl trivial ?_ rfl;simp only [ntmps152,cU,bn,ch,Nat.reduceAdd,Nat.reduceSub,cH,cG,de,cQ,bZ,dd];obtain ⟨ar,ai⟩:=h.small;have HO:=ae (callsIn_wide.1 (Dv 0 h hT y au av));have X:=ae h;have HT:=ae hT;have HV:=ae (fun w=>nR W ar ai w);obtain ⟨B,hB⟩:∃B:Int,(Ba:Int)=B:=⟨_,rfl⟩;have aB:B<2147483648:=by omega
 have aC:0<=B:=by omega
 rw [hB];have HB:=ae hB;clear h hT y hb hB;gi_wp2;refine ep (HO.out.mono ?_);rintro e w1 ⟨t,rfl,hO,j⟩;have af:=ae (gT (X.out.frame j (fun _ _ h=>h)));have H1:=ae (ag hO j);clear hO j HO;gi_wp2;refine ep (af.out.mono ?_);rintro e w' ⟨rfl,rfl⟩;gi_wp2;refine ep ((HV.out _).mono ?_);rintro e w2 ⟨L',rfl,u,b,v⟩;obtain ⟨f,J⟩:∃f,w2.alloc (.cells #[L'.m] 132)=f:=⟨_,rfl⟩;have C:GM w2 f:=by rw [<-J];exact (GQ _ w2).alloc _
 have F:aJ f w2.heap.size [L'.m] 132:=by rw [<-J];exact aJ.new w2 _ _
 have R:=ae (show f.heap.size=w2.heap.size+1 by rw [<-J];simp);have HA:=ae (jv L.m f);have H2:=ae (ag u (ag b (ag v (ag C F))));clear u b v C F HV af;gi_wp2;clear J;refine ep (HA.out.mono ?_);rintro e I ⟨rfl,M⟩;have V:GM f I:=by rw [M];exact (GQ _ f).alloc _
 have am:aJ I f.heap.size [L.m] 132:=by rw [M];exact aJ.new f _ _
 have ah:=ae (show I.heap.size=f.heap.size+1 by rw [M];simp);obtain ⟨hO,j⟩:=H1.out;obtain ⟨u,b,v,C,F⟩:=H2.out;have A:GM w2 I:=C.trans V GN;have z:GM w1 I:=v.trans A GN;have q:GM w I:=j.trans z GN;have an:1<w.heap.size:=cl (HT.out 0 0 rfl);have ao:=j.size;have ap:=v.size;have aw:=R.out;have ax:=ah.out;have g:=u.lt;have T:tJ L L' W k E f.heap.size w2.heap.size t w.heap.size w1.heap.size [] L'.turns I:=⟨rfl,⟨X.out.frame q (fun _ _ h=>h),aS HT.out q id,am⟩,F.frame V id,hO.frame z GN,rfl,fun _=>0,u.frame A (fun _ _ h=>h),fun a ha=>absurd rfl ha⟩;have o:gE I.heap.size (tJ L L' W k E f.heap.size w2.heap.size t w.heap.size w1.heap.size):=tJ.stays (fun k y=>by have:=X.out.lt k y;omega) (fun k y=>by have:=g k y;omega) (by omega) (by omega) (by omega) (by omega);have U:∀k,L'.turns k->k<I.heap.size:=fun k y=>by have:=g k (cF.Qh y);omega
 have H3:=ae (ag q (ag ao (ag ap an)));clear M V am hO j u b v C F A z q an ao ap aw ax g HA;gi_wp2;refine iO (gf:=220) (lb:= #[f.heap.size]) rfl (enters_of func220 (by kernel_rfl) rfl) (encs:=mC) (fun _=>rfl) (jw (L:=L) (tb:=f.heap.size) (E:=E) ai) (tJ L L' W k E f.heap.size w2.heap.size t w.heap.size w1.heap.size) L'.turns o (fun _ _ _ h=>h.2.1) U T
  ?a1 ?assign ?body ?done
 case assign=>
  intro k x W K hK;unfold mC;gi_wp2;exact hK
 case body=>
  intro l aH S x p hI r hf hs;obtain ⟨rfl,q1,Y,q5,Z,E',q7,q8⟩:=hI;obtain ⟨s,n⟩:=x;obtain ⟨m1,m2,m3⟩:=dW.1 (aD r);dsimp only at m1 m2 m3;have G:=X.out.top s m2;rw [<-m3] at G;have c:∀a,E' a≠0->a<s/\E' a=E a/\E a≠0:=fun a ha=>by
   have h1:=q8 a ha;have h2:=dW.1 (iU (by rw [<-Z];exact h1));exact ⟨kt r (by rw [<-Z];exact h1),h2.2.2,h2.2.1⟩
  obtain ⟨g1,g2,g3,g4⟩:=H3.out;obtain ⟨_,b,_⟩:=H2.out;have g:=H2.out.1.lt;have z3:=R.out;have ad:=ae (yg q7 q1.2.1 s n (by omega) G (fun a ha=>by
   by_cases he:E' a=0
   ·omega
   ·obtain ⟨h1,h2,h3⟩:=c a he;rw [h2];exact X.out.apart a s h1 h3 m2) (fun a ha he=>by have:=(c a he).1;omega))
  have HE:=ae (fun H (r1:eJ H L' W (ec E' s n)) (r2:Fr L'.turns p H)=>tJ.step (tb:=f.heap.size) q1 Y q5 Z q8 r r1 r2 (fun k y O=>by have:=X.out.lt k y;have:=b k (cF.Qh O);omega) (fun O=>by have:=g _ (cF.Qh O);omega) (fun O=>by have:=g _ (cF.Qh O);omega) (fun k O=> .inr (by have:=b k (cF.Qh O);omega)) (fun O=>by have:=b _ (cF.Qh O);omega));have c0:=Y.cell 0 rfl;clear hf hs q1 Y q5 Z q7 q8 r G m1 m2 m3 T o c g1 g2 g3 g4 b g z3 U;gi_wp2;refine vd (ad.out.mono ?_);rintro e H ⟨rfl,r1,r2⟩;have aq:=ae (HE.out H r1 r2);clear r1 r2 HE ad;gi_wp2;exact aq.out
 case done=>
  intro D S p hI hD aF aG hf hs;obtain ⟨rfl,q1,Y,q5,Z,E',q7,q8⟩:=hI;have c0:=Y.cell 0 rfl;have Q:∀W2,W2=p.alloc (.cells #[t,L'.m,(B:Int)] 301)->gU w.heap.size (W2.putObj D (.deferred none)).heap.size (W2.putObj D (.deferred none)) p.heap.size W k E Ba/\GM w (W2.putObj D (.deferred none)):=by
   rintro W2 rfl;obtain ⟨g1,g2,g3,g4⟩:=H3.out;obtain ⟨_,b,_⟩:=H2.out;have z3:=R.out;have z4:=ah.out;have aE:=hf.size;have az:=(bH.1 hD).1;have aj:GM p (p.alloc (.cells #[t,L'.m,(B:Int)] 301)):=(GQ _ p).alloc _;have N:Fr (fun k=>k=D) (p.alloc (.cells #[t,L'.m,(B:Int)] 301)) ((p.alloc (.cells #[t,L'.m,(B:Int)] 301)).putObj D (.deferred none)):=(GQ _ _).putObj _ _ (.inl rfl);have ay:=N.size;rw [World.size_alloc] at ay;have al:aJ (p.alloc (.cells #[t,L'.m,(B:Int)] 301)) p.heap.size [t,L'.m,(B:Int)] 301:=aJ.new p _ _;refine ⟨⟨t,L'.m,by omega,by omega,by rw [HB.out];exact al.frame N (by omega),((q5.frame aj GN).frame N (fun i hi=> .inr (by omega))).wide (ak _) (by omega)⟩,((g1.trans hf (fun k y=> .inr (by have:=b k (cF.Qh y);omega))).trans aj GN).trans N (fun i hi=> .inr (by omega))⟩
  have P:=ae Q;have HD:=ae hD;clear hf hs q1 Y q5 Z q7 q8 T o U Q hD;gi_wp2;refine ⟨by simp,.inl ⟨_,_,rfl,run_takeDeferred (((GQ (fun _=>False) p).alloc _).heap HD.out id),?_⟩⟩;exact ⟨_,results_tmp2 rfl _ _ _,p.heap.size,rfl,(P.out _ rfl).1,(P.out _ rfl).2⟩
end
end
section
open Go.RowKit Go.Shelf
theorem eA{E:Nat->Nat}{W:Nat}(a:W<=1048576):Qb (aI E) 0 W<=1048576:=by have:=fZ (aI E) W;omega
theorem sA{lo b:Nat}{w:World}{p W k Ba:Nat}{E:Nat->Nat}(h:gU lo b w p W k E Ba):Calls prog 241 #[p] w fun e w'=>e= .returned (Ba:Int)/\w=w':=by
 obtain ⟨t,o,c,d,a,f⟩:=h;have c2:=a.cell 2 rfl;clear c d a f
 go_enter func241,ntmps241
 go_wp2;go_ret;exact ⟨rfl,rfl⟩
theorem qT{lo d:Nat}{w:World}{p W k Ba:Nat}{E:Nat->Nat}(h:gU lo d w p W k E Ba):Calls prog 192 #[p] w fun e w'=>e= .returned (.int .i64 ((Qb (aI E) 0 W:Nat):Int))/\w=w':=by
 obtain ⟨t,o,f,g,a,b⟩:=h;have i:=a.cell 0 rfl;have c:=ae (rW b);clear f g a b
 go_enter func192,ntmps192
 go_wp2_with fail
 refine c.out.mono ?_;rintro e w' ⟨rfl,rfl⟩;go_wp2;go_ret;exact ⟨rfl,rfl⟩
theorem gU.off{lo a:Nat}{w:World}{p W k Ba:Nat}{E:Nat->Nat}(h:gU lo a w p W k E Ba):W<=1048576:=by
 obtain ⟨t,o,g,i,j,e,g1,x,b,gb,v,f,c,l,⟨ws,d,m⟩,_⟩:=h;exact d.small
theorem j4{lo i:Nat}{w:World}{p W k Ba:Nat}{E:Nat->Nat}(h:gU lo i w p W k E Ba)(u:Ba<=1048576):Calls prog 153 #[p] w fun e w'=>e= .returned (.int .i64 ((Ba+Qb (aI E) 0 W:Nat):Int))/\GM w w':=by
 have s:=eA (E:=E) h.off;obtain ⟨t,o,j,l,b,c⟩:=h;have r:=b.drew.cell 0 rfl;have c2:=b.drew.cell 2 rfl;have f:=ae (rW (c.frame ((GQ (fun _=>False) w).drew) GN));have d:=ae ((GQ (fun _=>False) w).drew);rw [show ((Ba+Qb (aI E) 0 W:Nat):Int)=(Ba:Int)+((Qb (aI E) 0 W:Nat):Int) by omega];generalize Qb (aI E) 0 W=N at*;have n:(Ba:Int)<=1048576:=by omega
 have q:(N:Int)<=1048576:=by omega
 clear j l b c
 go_enter func153,ntmps153
 go_wp2;refine bt (fun w'=>w'=w.drew) rfl ?_;refine aV [p,p,.pointer (some ⟨p,2,none⟩)] ?_
 iterate 3 (refine aW rfl (fun m g=>by go_simp) ?_;simp only [aa])
 refine aU ?_;refine aA (Ba:Int) rfl (fun w a=>by subst a;go_simp) ?_;simp only [aa];refine aV [p,p,p] ?_
 iterate 3 (refine aW rfl (fun m g=>by go_simp) ?_;simp only [aa])
 refine aU ?_;refine aA t rfl (fun w a=>by subst a;go_simp) ?_;simp only [aa];refine bT (.int .i64 N) 219 #[t] rfl (fun w=>by go_simp) (fun w a=>by subst a;exact f.out.mono fun e w' h=>⟨h.1,h.2.symm⟩) ?_;simp only [aa];refine aA (.int .i64 ((Ba:Int)+(N:Int))) rfl (fun w a=>by go_simp;rw [IntKind.wrap_i64];omega) ?_;simp only [aa];refine aA (.int .i64 ((Ba:Int)+(N:Int))) rfl (fun w a=>by go_simp) ?_;simp only [aa];refine wpQuiet_nil ?_;rintro w2 rfl;go_wp2;go_ret;exact ⟨rfl,d.out⟩
theorem tl{lo v:Nat}{w:World}{p W k Ba:Nat}{E:Nat->Nat}(h:gU lo v w p W k E Ba)(F:Ba<=1048576)(a:Nat)(q:aI E a=true)(b:a<W):Calls prog 157 #[p,(a:Int)] w fun e w'=>e= .returned (.tuple #[(((goes E Ba a:Nat):Int):Int),(0:Int)])/\GM w w':=by
 have D:=h.off;have u:=fZ (aI E) a;obtain ⟨t,o,x,y,f,j⟩:=h;have C:=f.cell 0 rfl;have n:=ae (Dx j a b);rw [q] at n;have l:=ae (fun w' (hf:GM w.drew w')=>uq ((j.frame ((GQ (fun _=>False) w).drew) GN).frame hf GN) a (by omega));rw [fc (d9 b)] at l;have m:=ae (fun w' (hf:GM w.drew w')=>(ag ((f.drew.frame hf id).cell 0 rfl) ((f.drew.frame hf id).cell 2 rfl)));have r:=ae ((GQ (fun _=>False) w).drew);unfold goes;rw [show ((Ba+Qb (aI E) 0 a:Nat):Int)=(Ba:Int)+((Qb (aI E) 0 a:Nat):Int) by omega];generalize Qb (aI E) 0 a=N at*;have A:(Ba:Int)<=1048576:=by omega
 have B:(N:Int)<=1048576:=by omega
 clear x y f j q
 go_enter func157,ntmps157
 go_wp2_with fail
 refine n.out.mono ?_;rintro e w' ⟨rfl,rfl⟩;go_wp2;refine bt (fun w'=>GM w.drew w') (GQ _ _) ?_;refine aV [p,p,.pointer (some ⟨p,2,none⟩),(Ba:Int),p,p,p,t,(a:Int)] ?_
 iterate 9 (refine aW rfl (fun z g=>by first|(go_simp;done)|(have d:=(m.out _ g).2;go_simp;done)|(have d:=(m.out _ g).1;go_simp;done)) ?_;simp only [aa])
 refine aU ?_;refine bT (.int .i64 N) 226 #[t,(a:Int)] rfl (fun w=>by go_simp) (fun w i=>(l.out w i).mono fun e w' h=>⟨h.1,i.trans h.2 GN⟩) ?_;simp only [aa];refine aA (.int .i64 ((Ba:Int)+(N:Int))) rfl (fun w i=>by go_simp;rw [IntKind.wrap_i64];omega) ?_;simp only [aa];refine aV [(((Ba:Int)+(N:Int)):Int),(0:Int)] ?_
 iterate 2 (refine aW rfl (fun z g=>by go_simp) ?_;simp only [aa])
 refine aU ?_;refine wpQuiet_nil ?_;intro w2 c;have s:=ae (r.out.trans c GN);clear c;go_wp2;go_ret2;exact ⟨rfl,s.out⟩
def yl(E:Nat->Nat)(Ba W b a:Nat):Prop:=a<W/\aI E a=true/\goes E Ba a=b
theorem qY{E:Nat->Nat}{Ba W b:Nat}(e:Ba<=b)(f:b<Ba+Qb (aI E) 0 W):∃a,yl E Ba W b a:=by
 obtain ⟨a,_,c,d,g⟩:=s9 (aI E) 0 W (b-Ba) (by omega);exact ⟨a,c,d,by unfold goes;omega⟩
theorem oR{lo P:Nat}{w:World}{p W k Ba:Nat}{E:Nat->Nat}(h:gU lo P w p W k E Ba)(G:et w)(O:Ba<=1048576)(b a:Nat)(j:yl E Ba W b a):Calls prog 271 #[p,(b:Int)] w fun e w'=>e= .returned (.tuple #[(a:Int),(0:Int)])/\GM w w':=by
 have L:=h.off;have C:=ae (j4 h O);obtain ⟨D,s,F⟩:=id j;have v:=fZ (aI E) a;have y:=oY (aF a) D s;unfold goes at F;have x:=eA (E:=E) L;have i:=ae (fun w1 (hf:GM w w1) w' (f:GM w1.drew w')=>(show Calls prog 287 #[.pointer (some ⟨(h.choose),0,none⟩),(((b:Int)-(Ba:Int)):Int)] w' fun e w2=>e= .returned (.tuple #[(a:Int),.bool true])/\GM w' w2 from by
  obtain ⟨o,H,I,n,A⟩:=h.choose_spec;have l:GM w w':=(hf.drew).trans f GN;rw [show (b:Int)-(Ba:Int)=((b-Ba:Nat):Int) by omega];refine (zo (A.frame l GN) (aS G l id) (b-Ba) (by omega)).mono ?_;rintro e w2 ⟨K,rfl,X,Q,Y,R⟩;have:K=a:=qy (a:=0) (aF _) (aF _) Q s (by omega);rw [this];exact ⟨rfl,R⟩))
 obtain ⟨o,H,I,n,A⟩:=h.choose_spec;generalize h.choose=t at*;have c2:=n.cell 2 rfl;have B:=ae (fun w1 (hf:GM w w1) w' (f:GM w1.drew w')=>(ag (((n.frame hf id).drew.frame f id).cell 0 rfl) (((n.frame hf id).drew.frame f id).cell 2 rfl)));rw [show ((Ba+Qb (aI E) 0 W:Nat):Int)=(Ba:Int)+((Qb (aI E) 0 W:Nat):Int) by omega] at C;generalize Qb (aI E) 0 W=N at*;generalize Qb (aI E) 0 a=M at*;have T:(Ba:Int)<=(b:Int):=by omega
 have U:(b:Int)<(Ba:Int)+(N:Int):=by omega
 have V:(b:Int)<=2097152:=by omega
 clear H I n A G j D s F v y x
 go_enter func271,ntmps271
 go_wp2_with fail
 refine C.out.mono ?_;rintro e w1 ⟨rfl,c⟩;have g:=ae (B.out w1 c);have r:=ae (i.out w1 c);have q:=ae c;clear c B i c2;go_wp2;refine bt (fun w'=>GM w1.drew w') (GQ _ _) ?_;refine aV [p,p,p,t,(b:Int),p,p,.pointer (some ⟨p,2,none⟩),(Ba:Int)] ?_
 iterate 9 (refine aW rfl (fun S u=>by first|(go_simp;done)|(have d:=(g.out _ u).1;go_simp;done)|(have d:=(g.out _ u).2;go_simp;done)) ?_;simp only [aa])
 refine aU ?_;refine aA (.int .i64 ((b:Int)-(Ba:Int))) rfl (fun w z=>by go_simp;rw [IntKind.wrap_i64];omega) ?_;simp only [aa];refine bT (.tuple #[(a:Int),.bool true]) 287 #[t,(((b:Int)-(Ba:Int)):Int)] rfl (fun w=>by go_simp) (fun w z=>(r.out w z).mono fun e w' h=>⟨h.1,z.trans h.2 GN⟩) ?_;simp only [aa];refine aV [.tuple #[(a:Int),.bool true],(a:Int),.bool true,(a:Int),.bool true] ?_
 iterate 5 (refine aW rfl (fun S u=>by go_simp) ?_;simp only [aa])
 refine aU ?_;refine wpQuiet_nil ?_;intro w2 m;have J:=ae ((q.out.drew).trans m GN);clear m;go_wp2;go_ret2;exact ⟨rfl,J.out⟩
end
section
open Go.RowKit Go.Shelf
theorem AJ(N k:Nat)(a:cJ (k:Int)=true)(b:1<=k)(c:k<=1048576)(d:N<=4194304)(w:World):Calls prog 240 #[(N:Int),(k:Int)] w fun e w'=>e= .returned (.int .i64 (((N+k-1)/k*k:Nat):Int))/\w=w':=by
 refine (EE (N:Int) (k:Int) (by omega) w).mono ?_;rintro e w' ⟨rfl,rfl⟩;refine ⟨?_,rfl⟩;have hf:Ey (N:Int) (k:Int):=⟨a,by omega,by omega,by omega⟩;have:mR (N:Int) (k:Int) true=(((N+k-1)/k*k:Nat):Int):=by
  unfold mR;rw [aG hf];show ((N:Int)+(k:Int)-1)/(k:Int)*(k:Int)=_
  rw [show (N:Int)+(k:Int)-1=((N+k-1:Nat):Int) by omega];simp
 rw [this]
def ou(N k:Nat):Nat:=(N+k-1)/k
theorem DB{N k:Nat}(a:1<=k):(N+k-1)/k*k/k=ou N k:=dq _ (by omega)
theorem vV{N k:Nat}(b:1<=k):N<=ou N k*k:=by
 unfold ou;have:=aM (N+k-1) k;have a:=bO (N+k-1) (show 0<k by omega);rw [aN] at this;omega
theorem vU{N k j:Nat}(c:1<=k)(a:j<ou N k):j*k<N:=by
 unfold ou at a;have b:(j+1)*k<=N+k-1:=aZ (aX k a) (bE _ _);rw [cY] at b;omega
def gj(lo hi:Nat)(w:World)(q W k:Nat)(E:Nat->Nat)(Ba:Nat):Prop:=
 ∃p,lo<=q/\q<hi/\aJ w q [.pointer (some ⟨p,0,none⟩),(k:Int)] 325/\gU lo hi w p W k E Ba/\cJ (k:Int)=true/\1<=k/\k<=1024
theorem gj.frame{lo a:Nat}{S:Nat->Prop}{w w':World}{q W k Ba:Nat}{E:Nat->Nat}(h:gj lo a w q W k E Ba)(hf:Fr S w w')(b:∀i,S i->i<lo\/a<=i):gj lo a w' q W k E Ba:=by
 obtain ⟨p,c,d,e,f,g⟩:=h;exact ⟨p,c,d,e.frame hf (fun h=>by rcases b _ h with h|h<;>omega),f.frame hf b,g⟩
theorem gj.Qa{lo a:Nat}{w w':World}{q W k Ba:Nat}{E:Nat->Nat}(h:gj lo a w q W k E Ba)(hf:GM w w'):gj lo a w' q W k E Ba:=h.frame hf GN
theorem gU.Qa{lo a:Nat}{w w':World}{p W k Ba:Nat}{E:Nat->Nat}(h:gU lo a w p W k E Ba)(hf:GM w w'):gU lo a w' p W k E Ba:=h.frame hf GN
theorem gj.small{lo a:Nat}{w:World}{q W k Ba:Nat}{E:Nat->Nat}(h:gj lo a w q W k E Ba):W<=1048576:=by
 obtain ⟨p,c,d,e,b,f⟩:=h;exact b.off
theorem gU.wide{lo b a hi':Nat}{w:World}{p W k Ba:Nat}{E:Nat->Nat}(h:gU lo b w p W k E Ba)(c:a<=lo)(d:b<=hi'):gU a hi' w p W k E Ba:=by
 obtain ⟨t,o,g,i,e,f⟩:=h;exact ⟨t,o,by omega,by omega,e,f.wide c d⟩
theorem Dq{w:World}{L:cF}{W k:Nat}{E:Nat->Nat}(h:eJ w L W E)(n:et w)(f:cJ (k:Int)=true)(a:1<=k)(b:k<=1024)(Ba:Nat)(o:Ba<2147483648):Calls prog 190 #[L.m,(k:Int),(Ba:Int)] w fun e w'=>∃q,e= .returned (.tuple #[.pointer (some ⟨q,0,none⟩),(0:Int)])/\gj w.heap.size w'.heap.size w' q W k E Ba/\GM w w':=by
 have g:=ae (callsIn_wide.1 (yf 0 h n f a b Ba o));have r:=ae (ag f (ag a b));obtain ⟨B,l⟩:∃B:Int,(Ba:Int)=B:=⟨_,rfl⟩;rw [l] at g ⊢;clear h n f o l
 go_enter func190,ntmps190
 go_wp2_with fail
 refine g.out.mono ?_;rintro e w1 ⟨p,rfl,i,j⟩;have c:=ae (ag i j);clear i j;go_wp2;go_ret2;have s:=c.out.2.size;have d:GM w1 (w1.alloc (.cells #[p,(k:Int)] 325)):=(GQ _ w1).alloc _;exact ⟨w1.heap.size,rfl,⟨p,s,by simp,aJ.new w1 _ _,(c.out.1.Qa d).wide (ak _) (by simp),r.out⟩,c.out.2.alloc _⟩
theorem jg{lo a:Nat}{w:World}{q W k Ba:Nat}{E:Nat->Nat}(h:gj lo a w q W k E Ba):Calls prog 191 #[q] w fun e w'=>(∃p,e= .returned (.pointer (some ⟨p,0,none⟩))/\gU lo a w p W k E Ba)/\w=w':=by
 obtain ⟨p,f,g,b,c,i⟩:=h;have j:=b.cell 0 rfl;have d:=ae c;clear f g b c i
 go_enter func191,ntmps191
 go_wp2;go_ret;exact ⟨⟨p,rfl,d.out⟩,rfl⟩
theorem pw{lo t:Nat}{w:World}{q W k Ba:Nat}{E:Nat->Nat}(h:gj lo t w q W k E Ba):Calls prog 193 #[q] w fun e w'=>e= .returned (.int .i64 ((ou (Qb (aI E) 0 W) k:Nat):Int))/\GM w w':=by
 obtain ⟨p,A,C,b,c,i,d,j⟩:=h;have D:=b.drew.cell 0 rfl;have c1:=b.drew.cell 1 rfl;have F:=eA (E:=E) c.off;have m:=ae (qT (c.Qa ((GQ _ w).drew)));generalize Qb (aI E) 0 W=N at*;have n:=ae (AJ N k i d (by omega) (by omega) w.drew);have g:=DB (N:=N) d;generalize (N+k-1)/k*k=M at*;have G:(M:Int).tdiv (k:Int)=((ou N k:Nat):Int):=by rw [fU,g]
 have u:((k:Int)==0)=false:=by rw [aT];omega
 have v:(1:Int)<=(k:Int):=by omega
 have o:=ae ((GQ (fun _=>False) w).drew);have z:ou N k<=N+k:=by unfold ou;exact aZ (bK _ _) (by omega)
 have x:k<=1024:=j;have y:¬k=0:=by omega
 generalize ou N k=B at*;have r:(B:Int)<=2097152:=by omega
 have s:(N:Int)<=1048576:=by omega
 clear A C b c i d j g
 go_enter func193,ntmps193
 go_wp2;refine bt (fun w'=>w'=w.drew) rfl ?_;refine aV [q,q,q] ?_
 iterate 3 (refine aW rfl (fun l f=>by go_simp) ?_;simp only [aa])
 refine aU ?_;refine aA p rfl (fun w a=>by subst a;go_simp) ?_;simp only [aa];refine bT (.int .i64 N) 192 #[p] rfl (fun w=>by go_simp) (fun w a=>by subst a;exact m.out.mono fun e w' h=>⟨h.1,h.2.symm⟩) ?_;simp only [aa];refine aV [q,q,.pointer (some ⟨q,1,none⟩)] ?_
 iterate 3 (refine aW rfl (fun l f=>by go_simp) ?_;simp only [aa])
 refine aU ?_;refine aA (k:Int) rfl (fun w a=>by subst a;go_simp) ?_;simp only [aa];refine bT (.int .i64 M) 240 #[(N:Int),(k:Int)] rfl (fun w=>by go_simp) (fun w a=>by subst a;exact n.out.mono fun e w' h=>⟨h.1,h.2.symm⟩) ?_;simp only [aa];refine aV [q,q,.pointer (some ⟨q,1,none⟩)] ?_
 iterate 3 (refine aW rfl (fun l f=>by go_simp) ?_;simp only [aa])
 refine aU ?_;refine aA (k:Int) rfl (fun w a=>by subst a;go_simp) ?_;simp only [aa];refine aA (B:Int) rfl (fun w a=>by go_simp;rw [IntKind.wrap_i64];omega) ?_;simp only [aa];refine aA (B:Int) rfl (fun w a=>by go_simp) ?_;simp only [aa];refine wpQuiet_nil ?_;rintro w2 rfl;go_wp2;go_ret;exact ⟨rfl,o.out⟩
end
section
open Go.RowKit Go.Shelf
theorem Ab{lo j:Nat}{w:World}{p W k Ba:Nat}{E:Nat->Nat}(h:gU lo j w p W k E Ba)(i:Ba<=1048576)(b:Nat)(c:Ba+Qb (aI E) 0 W<=b):Calls prog 271 #[p,(b:Int)] w fun e w'=>e= .returned (.tuple #[(0:Int),(11:Int)])/\GM w w':=by
 have d:=ae (j4 h i);rw [show ((Ba+Qb (aI E) 0 W:Nat):Int)=(Ba:Int)+((Qb (aI E) 0 W:Nat):Int) by omega] at d;obtain ⟨t,o,l,m,f,n⟩:=h;have c2:=f.cell 2 rfl;generalize Qb (aI E) 0 W=N at*;have q:(Ba:Int)<=(b:Int):=by omega
 have r:(Ba:Int)+(N:Int)<=(b:Int):=by omega
 clear l m f n c
 go_enter func271,ntmps271
 go_wp2_with fail
 refine d.out.mono ?_;rintro e w1 ⟨rfl,a⟩;have g:=ae a;clear a;go_wp2;go_ret2;exact ⟨rfl,g.out⟩
theorem qs{lo l:Nat}{w:World}{q W k Ba:Nat}{E:Nat->Nat}(h:gj lo l w q W k E Ba)(j:Ba<=1048576)(b:Nat)(a:Ba+Qb (aI E) 0 W<=b):Calls prog 317 #[q,(b:Int)] w fun e w'=>e= .returned (.tuple #[(0:Int),(11:Int)])/\GM w w':=by
 obtain ⟨p,m,n,f,g,o,r,s⟩:=h;have t:=f.cell 0 rfl;have i:=ae (Ab g j b a);clear m n f g o r s a
 go_enter func317,ntmps317
 go_wp2_with fail
 refine i.out.mono ?_;rintro e w1 ⟨rfl,c⟩;have d:=ae c;clear c;go_wp2;go_ret2;exact ⟨rfl,d.out⟩
theorem rS{lo G:Nat}{w:World}{q W k Ba:Nat}{E:Nat->Nat}(h:gj lo G w q W k E Ba)(t:et w)(C:Ba<=1048576)(b:Nat)(f:Ba<=b)(g:b<Ba+Qb (aI E) 0 W):Calls prog 317 #[q,(b:Int)] w fun e w'=>e= .returned (.tuple #[((((b-Ba)/k:Nat):Int):Int),(0:Int)])/\GM w w':=by
 obtain ⟨p,I,J,i,j,K,L,M⟩:=h;have z:=i.cell 0 rfl;obtain ⟨a,u⟩:=qY f g;have A:=eA (E:=E) j.off;have y:=ae (oR j t C b a u);have n:=ae (fun w1 (hf:GM w w1)=>(ag ((i.frame hf id).drew.cell 0 rfl) (ag ((i.frame hf id).drew.cell 1 rfl) (sA (j.Qa (hf.drew))))));have F:(b:Int)-(Ba:Int)=((b-Ba:Nat):Int):=by omega
 obtain ⟨D,s⟩:∃D,b-Ba=D:=⟨_,rfl⟩;rw [s] at F ⊢;have T:(D:Int).tdiv (k:Int)=((D/k:Nat):Int):=fU D k;have m:D/k<=D:=bK _ _;generalize D/k=B at*;have H:¬k=0:=by omega
 have N:(B:Int)<=1048576:=by omega
 have O:(b:Int)<=2097152:=by omega
 have P:(Ba:Int)<=(b:Int):=by omega
 have Q:(D:Int)<=2097152:=by omega
 clear I J i j K L M u s f g A m t
 go_enter func317,ntmps317
 go_wp2_with fail
 refine y.out.mono ?_;rintro e w1 ⟨rfl,c⟩;have l:=ae c;obtain ⟨R,S,r⟩:=n.out w1 c;have x:=ae r;clear c r n z;go_wp2;refine bt (fun w'=>w'=w1.drew) rfl ?_;refine aV [(b:Int),q,q,q] ?_
 iterate 4 (refine aW rfl (fun v o=>by go_simp) ?_;simp only [aa])
 refine aU ?_;refine aA p rfl (fun w d=>by subst d;go_simp) ?_;simp only [aa];refine bT (.int .i64 Ba) 241 #[p] rfl (fun w=>by go_simp) (fun w d=>by subst d;exact x.out.mono fun e w' h=>⟨h.1,h.2.symm⟩) ?_;simp only [aa];refine aA (D:Int) rfl (fun w d=>by go_simp;rw [IntKind.wrap_i64];omega) ?_;simp only [aa];refine aV [q,q,.pointer (some ⟨q,1,none⟩)] ?_
 iterate 3 (refine aW rfl (fun v o=>by go_simp) ?_;simp only [aa])
 refine aU ?_;refine aA (k:Int) rfl (fun w d=>by subst d;go_simp) ?_;simp only [aa];refine aA (B:Int) rfl (fun w d=>by go_simp;rw [IntKind.wrap_i64];omega) ?_;simp only [aa];refine aV [(B:Int),(0:Int)] ?_
 iterate 2 (refine aW rfl (fun v o=>by go_simp) ?_;simp only [aa])
 refine aU ?_;refine wpQuiet_nil ?_;rintro w2 rfl;go_wp2;go_ret2;exact ⟨rfl,l.out.drew⟩
theorem qo{lo L:Nat}{w:World}{q W k Ba:Nat}{E:Nat->Nat}(h:gj lo L w q W k E Ba)(J:Ba<=1048576)(K:Nat)(C:K<ou (Qb (aI E) 0 W) k):Calls prog 196 #[q,(K:Int)] w fun e w'=>e= .returned (.tuple #[(((Ba+K*k:Nat):Int):Int),(((min (Ba+K*k+k) (Ba+Qb (aI E) 0 W):Nat):Int):Int),(0:Int)])/\GM w w':=by
 have g:=ae (pw h);obtain ⟨p,P,Q,l,m,R,D,S⟩:=h;have hN:=eA (E:=E) m.off;have t:=vU D C;have u:=ae (fun w1 (hf:GM w w1)=>(ag ((l.frame hf id).drew.cell 0 rfl) (ag ((l.frame hf id).drew.cell 1 rfl) (sA (m.Qa (hf.drew))))));have o:=ae (fun w1 (hf:GM w w1)=>j4 (m.Qa hf) J);have i:=ae (fun w1 (hf:GM w w1)=>(ag ((l.frame hf id).cell 0 rfl) ((l.frame hf id).cell 1 rfl)));rw [show ((Ba+Qb (aI E) 0 W:Nat):Int)=(Ba:Int)+((Qb (aI E) 0 W:Nat):Int) by omega] at o;have s:K<=K*k:=dc K (by omega);have I:(K:Int)*(k:Int)=((K*k:Nat):Int):=by simp
 have O:ou (Qb (aI E) 0 W) k<=Qb (aI E) 0 W+k:=by unfold ou;exact aZ (bK _ _) (by omega)
 generalize Qb (aI E) 0 W=N at*;generalize ou N k=B at*;generalize K*k=M at*;have y:((Ba+M:Nat):Int)=(Ba:Int)+(M:Int):=by omega
 have z:((min (Ba+M+k) (Ba+N):Nat):Int)=min ((Ba:Int)+(M:Int)+(k:Int)) ((Ba:Int)+(N:Int)):=by omega
 rw [y,z];have T:(K:Int)<(B:Int):=by omega
 have U:(M:Int)<=1048576:=by omega
 have V:(k:Int)<=1024:=by omega
 have X:(Ba:Int)<=1048576:=by omega
 have Y:(N:Int)<=1048576:=by omega
 have Z:(B:Int)<=2097152:=by omega
 clear P Q l m R D S y z t C s
 go_enter func196,ntmps196
 go_wp2_with fail
 refine g.out.mono ?_;rintro e w1 ⟨rfl,c⟩;obtain ⟨G,H,A⟩:=u.out w1 c;have v:=ae A;have b:=ae c;clear c A g;go_wp2;refine bt (fun w'=>w'=w1.drew) rfl ?_;refine aV [q,q,q] ?_
 iterate 3 (refine aW rfl (fun n f=>by go_simp) ?_;simp only [aa])
 refine aU ?_;refine aA p rfl (fun w a=>by subst a;go_simp) ?_;simp only [aa];refine bT (.int .i64 Ba) 241 #[p] rfl (fun w=>by go_simp) (fun w a=>by subst a;exact v.out.mono fun e w' h=>⟨h.1,h.2.symm⟩) ?_;simp only [aa];refine aV [(K:Int),q,q,.pointer (some ⟨q,1,none⟩)] ?_
 iterate 4 (refine aW rfl (fun n f=>by go_simp) ?_;simp only [aa])
 refine aU ?_;refine aA (k:Int) rfl (fun w a=>by subst a;go_simp) ?_;simp only [aa];refine aA (M:Int) rfl (fun w a=>by go_simp;rw [IntKind.wrap_i64];omega) ?_;simp only [aa];refine aA (.int .i64 ((Ba:Int)+(M:Int))) rfl (fun w a=>by go_simp;rw [IntKind.wrap_i64];omega) ?_;simp only [aa];refine aA (.int .i64 ((Ba:Int)+(M:Int))) rfl (fun w a=>by go_simp) ?_;simp only [aa];refine wpQuiet_nil ?_;rintro w2 rfl;have x:=ae (fun w' (hf:GM w1.drew.drew w')=>i.out w' (b.out.drew.drew.trans hf GN));have r:=ae (fun w' (hf:GM w1.drew.drew w')=>o.out w' (b.out.drew.drew.trans hf GN));clear G H v u i o;go_wp2;refine bt (fun w'=>GM w1.drew.drew w') (GQ _ _) ?_;refine aV [(((Ba:Int)+(M:Int)):Int),(((Ba:Int)+(M:Int)):Int),q,q,.pointer (some ⟨q,1,none⟩),(k:Int)] ?_
 iterate 6 (refine aW rfl (fun n f=>by first|(go_simp;done)|(have d:=(x.out _ f).2;go_simp;done)) ?_;simp only [aa])
 refine aU ?_;refine aA (.int .i64 ((Ba:Int)+(M:Int)+(k:Int))) rfl (fun w a=>by go_simp;rw [IntKind.wrap_i64];omega) ?_;simp only [aa];refine aV [q,q,q,p] ?_
 iterate 4 (refine aW rfl (fun n f=>by first|(go_simp;done)|(have d:=(x.out _ f).1;go_simp;done)) ?_;simp only [aa])
 refine aU ?_;refine bT (.int .i64 ((Ba:Int)+(N:Int))) 153 #[p] rfl (fun w=>by go_simp) (fun w a=>(r.out w a).mono fun e w' h=>⟨h.1,a.trans h.2 GN⟩) ?_;simp only [aa];refine aV [((min ((Ba:Int)+(M:Int)+(k:Int)) ((Ba:Int)+(N:Int))):Int),(((Ba:Int)+(M:Int)):Int),((min ((Ba:Int)+(M:Int)+(k:Int)) ((Ba:Int)+(N:Int))):Int),(0:Int)] ?_
 iterate 4 (refine aW rfl (fun n f=>by go_simp) ?_;simp only [aa])
 refine aU ?_;refine wpQuiet_nil ?_;intro w4 j;have F:=ae (b.out.drew.drew.trans j GN);clear j;go_wp2
 go_ret3
 exact ⟨rfl,F.out⟩
end
section
open Go.RowKit Go.Shelf
def rH(E:Nat->Nat)(Ba W t F n:Nat):Prop:=∀i,i<n->yl E Ba W (t+i) (F+i)
def Ec(E:Nat->Nat)(Ba W t u:Nat)(w:World)(e:Ending)(w':World):Prop:=∃F n:Nat,e= .returned (.tuple #[(F:Int),(n:Int)])/\1<=n/\t+n<=u/\rH E Ba W t F n/\GM w w'
theorem Bg{lo I:Nat}{w:World}{q W k Ba:Nat}{E:Nat->Nat}(h:gj lo I w q W k E Ba)(O:et w)(Z:Ba<=1048576)(t u:Nat)(T:Ba<=t)(h2:t<u)(U:u<=Ba+Qb (aI E) 0 W):Calls prog 242 #[q,(t:Int),(u:Int)] w (Ec E Ba W t u w):=by
 obtain ⟨p,q1,q2,Q,z,q5,q6,q7⟩:=h;have X:=eA (E:=E) z.off;have hW:=z.off;have M:=ae (fun w' (hf:GM w w') b a (H:yl E Ba W b a)=>oR (z.Qa hf) (aS O hf id) Z b a H);have L:=ae (fun w' (hf:GM w w')=>(Q.frame hf id).cell 0 rfl);obtain ⟨F,y⟩:=qY T (show t<Ba+Qb (aI E) 0 W by omega);have V:=y.1;have C:Hid (rH E Ba W t F 1):=fun i I=>by
  have S:i=0:=by omega
  rw [S];exact y
 have j:=ae (M.out w (GQ _ w) t F y);have A:=ae (fun b (G:Ba<=b) (ad:b<u)=>qY (E:=E) (W:=W) G (show b<Ba+Qb (aI E) 0 W by omega));have x:=L.out w (GQ _ w);have b1:(t:Int)<(u:Int):=by omega
 have b2:(u:Int)<=2097152:=by omega
 have b3:(F:Int)<=1048576:=by omega
 clear q1 q2 Q z q5 q6 q7 O y U X
 go_enter func242,ntmps242
 go_wp2_with fail
 refine j.out.mono ?_;rintro e w1 ⟨rfl,o⟩;have B:=ae o;clear o x j;go_wp2
 go_loopw [10] (fun p wr=>∃n:Nat,p= .int .i64 n/\1<=n/\t+n<=u/\Hid (rH E Ba W t F n/\GM w wr)) (fun p _=>(u-intOf p).toNat)
 case atStart=>exact ⟨1,rfl,ak 1,by omega,C.out,B.out⟩
 case round=>
  obtain ⟨n,rfl,s,v,d⟩:=hrel;by_cases K:t+n<u
  ·have r:(t:Int)+(n:Int)<(u:Int):=by omega
   obtain ⟨a,m⟩:=A.out (t+n) (by omega) K;have Y:=m.1;have f:=ae (M.out wr d.out.2 (t+n) a m);rw [show ((t+n:Nat):Int)=(t:Int)+(n:Int) by omega] at f;have x:=L.out wr d.out.2;have b4:(a:Int)<=1048576:=by omega
   by_cases P:a=F+n
   ·have R:Hid (rH E Ba W t F (n+1)):=fun i I=>by
     by_cases J:i=n
     ·subst J;rw [<-P];exact m
     ·exact d.out.1 i (by omega)
    have N:=ae d.out.2;have D:(a:Int)=(F:Int)+(n:Int):=by omega
    clear m d P;go_wp2_with fail
    refine f.out.mono ?_;rintro e w2 ⟨rfl,c⟩;have g:=ae (N.out.trans c GN);clear c x N;go_wp2;go_roundw
    case rel=>exact ⟨n+1,by go_num,by omega,by omega,R.out,g.out⟩
    case measure=>simp [intOf];omega
   ·have D:¬(a:Int)=(F:Int)+(n:Int):=by omega
    have l:=ae d.out;clear m d;go_wp2_with fail
    refine f.out.mono ?_;rintro e w2 ⟨rfl,c⟩;have g:=ae (l.out.2.trans c GN);clear c x;go_wp2;go_ret2;exact ⟨F,n,rfl,s,v,l.out.1,g.out⟩
  ·have r:¬(t:Int)+(n:Int)<(u:Int):=by omega
   have l:=ae d.out;clear d;go_wp2;go_ret2;exact ⟨F,n,rfl,s,v,l.out.1,l.out.2⟩
end
section
open Go.RowKit Go.Shelf
theorem wo:(prog.info? 286).map (fun i=>(i.zero,i.size,i.bytes))=some (some (.agg #[(0:Int),(0:Int),(0:Int)]),3,24):=by kernel_rfl
def ig:List (Nat×Nat×Nat)->List Value
 |[]=>[]
 |x::l=> .int .i64 (x.1:Int):: .int .i64 (x.2.1:Int):: .int .i64 (x.2.2:Int)::ig l
theorem vS(l:List (Nat×Nat×Nat))(x:Nat×Nat×Nat):ig (l++[x])=ig l++[.int .i64 (x.1:Int),.int .i64 (x.2.1:Int),.int .i64 (x.2.2:Int)]:=by
 induction l with
 |nil=>rfl
 |cons y l ih=>simp only [dd,ig,ih]
def pi(E:Nat->Nat)(Ba W:Nat):Nat->List (Nat×Nat×Nat)->Nat->Prop
 |t,[],u=>t=u
 |t,x::l,u=>x.2.1=t/\1<=x.2.2/\rH E Ba W t x.1 x.2.2/\pi E Ba W (t+x.2.2) l u
theorem pi.app{E:Nat->Nat}{Ba W F n:Nat}:∀{t u:Nat} {l:List (Nat×Nat×Nat)},pi E Ba W t l u->1<=n->rH E Ba W u F n->pi E Ba W t (l++[(F,u,n)]) (u+n)
 |t,u,[],h,h1,h2=>by obtain rfl:t=u:=h;exact ⟨rfl,h1,h2,rfl⟩
 |t,u,x::l,⟨q1,q2,q3,q4⟩,h1,h2=>⟨q1,q2,q3,q4.app h1 h2⟩
def xq(E:Nat->Nat)(Ba W t u:Nat)(w:World)(e:Ending)(w':World):Prop:=
 ∃v l,e= .returned (.tuple #[v,(0:Int)])/\w'.ownsRow w.heap.size 286 3 v l.length (ig l)/\pi E Ba W t l u/\GM w w'
theorem zm{w w1 w2 w3:World}{v b:Value}{l:List (Nat×Nat×Nat)}{x:Nat×Nat×Nat}(e:GM w w1)(d:w1.ownsRow w.heap.size 286 3 v l.length (ig l))(hf:GM w1 w2)
  (a:w3.ownsRow w.heap.size 286 3 b (l.length+1) (ig l++[.int .i64 (x.1:Int),.int .i64 (x.2.1:Int),.int .i64 (x.2.2:Int)])) (hg:w2.grownBy w3 v.ownBlock):
  w3.ownsRow w.heap.size 286 3 b (l++[x]).length (ig (l++[x]))/\GM w w3:=by
 refine ⟨by rw [vS,aH];exact a,(e.trans hf GN).trans (Fr.Qm hg) (fun i c=> .inr (d.lt i c).1)⟩
theorem cD{S:Nat->Prop}{w w':World}{Ba:Nat}{e:TypeId}{a:Nat}{v:Value}{n:Nat}{xs:List Value}(h:w.ownsRow Ba e a v n xs)
  (hf:Fr S w w') (d:∀k,v.ownBlock=some k->¬S k):w'.ownsRow Ba e a v n xs:=by
 refine ⟨h.1,?_⟩;rcases h.2 with c|⟨g,cap,cur,rfl,b,hg,r⟩
 ·exact ek c
 ·exact Or.inr ⟨g,cap,cur,rfl,b,hf.heap hg (d g rfl),r⟩
theorem uh{lo I:Nat}{w:World}{q W k Ba:Nat}{E:Nat->Nat}(h:gj lo I w q W k E Ba)(U:et w)(V:Ba<=1048576)(K:Nat)(G:K<ou (Qb (aI E) 0 W) k):Calls prog 197 #[q,(K:Int)] w (xq E Ba W (Ba+K*k) (min (Ba+K*k+k) (Ba+Qb (aI E) 0 W)) w):=by
 have b:=ae (qo h V K G);have Z:=eA (E:=E) h.small;have J:1<=k:=let ⟨_,_,_,_,_,_,h,_⟩:=h;h
 have ad:k<=1024:=let ⟨_,_,_,_,_,_,_,h⟩:=h;h
 have H:=vU J G;have m:=ae (fun w' (hf:GM w w') t (S:Ba<=t) (T:t<min (Ba+K*k+k) (Ba+Qb (aI E) 0 W))=>Bg (h.Qa hf) (aS U hf id) V t (min (Ba+K*k+k) (Ba+Qb (aI E) 0 W)) S T (by omega));obtain ⟨i0,I,N,O,P⟩:=info_parts wo;obtain ⟨s,C⟩:∃s,Ba+K*k=s:=⟨_,rfl⟩;obtain ⟨u,A⟩:∃u,min (Ba+K*k+k) (Ba+Qb (aI E) 0 W)=u:=⟨_,rfl⟩;rw [C] at b A;rw [C,A] at m;rw [A] at b;rw [C,A];have L:s<=u:=by omega
 have ah:Ba<=s:=by omega
 have ai:u<=s+1024:=by omega
 have af:s<=2097152:=by omega
 clear h U G H C A Z
 go_enter func197,ntmps197
 go_wp2_with fail
 refine b.out.mono ?_;rintro e w1 ⟨rfl,o⟩;have f:=ae o;clear o b;go_wp2
 go_loopw [6,9] (fun p v wr=>∃(t:Nat) (l:List (Nat×Nat×Nat)),p= .int .i64 t/\s<=t/\t<=u/\l.length<=t-s/\Hid (wr.ownsRow w.heap.size 286 3 v l.length (ig l)/\pi E Ba W s l t/\GM w wr)) (fun p _ _=>(u-intOf p).toNat)
 case atStart=>exact ⟨s,[],rfl,ak s,L,by simp,World.ownsRow_nil _ _ _ _,rfl,f.out⟩
 case round=>
  clear f;obtain ⟨t,l,rfl,S,T,h3,a⟩:=hrel;by_cases r:t<u
  ·have y:(t:Int)<(u:Int):=by omega
   have i:=ae (m.out wr a.out.2.2 t (by omega) r);go_wp2_with fail
   refine i.out.mono ?_;rintro e w2 ⟨F,n,rfl,r1,r2,X,Y⟩;have g:=ae (ag X Y);clear X Y i;have b1:(t:Int)+(n:Int)<=(u:Int):=by omega
   have b2:(u:Int)<=2098176:=by omega
   go_wp2_with (at_builtin;refine Hid.out ?_)
   unfold Hid;have d:GM w2 (w2.alloc (.cells #[(F:Int),(t:Int),(n:Int)] 286)):=(GQ _ w2).alloc _;have c:aJ (w2.alloc (.cells #[(F:Int),(t:Int),(n:Int)] 286)) w2.heap.size [(F:Int),(t:Int),(n:Int)] 286:=aJ.new w2 _ _;have Q:=(a.out.2.2.trans g.out.2 GN).size;refine wpList_append_own _ rfl _ _ 282 rfl w.heap.size 286 i0 _ 3 24 underlying282 I N O P rfl (by decide) _ l.length (ig l) rfl (cD (cD a.out.1 g.out.2 (fun _ _ h=>h)) d (fun _ _ h=>h)) ⟨w2.heap.size,0,none⟩ 1 1 [(F:Int),(t:Int),(n:Int)] rfl rfl ?_ ?_ (by unfold maxLen;omega) (by omega) (by simp;omega) ?_
   ·intro j u' hj;have:=c.cell j hj;rwa [show ((⟨w2.heap.size,0,none⟩:Addr).add j)=⟨w2.heap.size,j,none⟩ by unfold Addr.add;split<;>simp_all]
   ·intro u' B;simp only [bM,bq,fD] at B;rcases B with rfl|rfl|rfl<;>rfl
   ·intro v' w3 z hg _;have R:=ae (zm (x:=(F,t,n)) a.out.2.2 a.out.1 (g.out.2.trans d GN) z hg);have D:=ae (pi.app a.out.2.1 r1 g.out.1);clear d c Q z hg a g;go_wp2;go_roundw
    case rel=>exact ⟨t+n,l++[(F,t,n)],by go_num,by omega,by omega,by rw [aH,aP];omega,R.out.1,D.out,R.out.2⟩
    case measure=>simp [intOf];omega
  ·have M:t=u:=by omega
   subst M;have b:=ae a.out;have y:¬(t:Int)<(t:Int):=by omega
   clear a r;go_wp2;go_ret2;exact ⟨_,l,rfl,b.out.1,b.out.2.1,b.out.2.2⟩
end
theorem qv{w:World}{g cap n:Nat}{c xs:List Value}{e:TypeId}(h:aJ w g c e)(b:c.length=cap)(i:n<=cap)(f:cap<=maxLen)(a:c.take n=xs):w.ownsRow 0 e 1 (.slice (some g) n cap) n xs:=by
 have d:xs.length=n:=by rw [<-a,cg];omega
 exact ⟨by simp [d],.inr ⟨g,cap,c.toArray,rfl,aF _,h,i,f,by simp [b],by simpa using a⟩⟩
theorem mX{w:World}{g cap n:Nat}{xs:List Value}{e:TypeId}(h:w.ownsRow 0 e 1 (.slice (some g) n cap) n xs):∃c,aJ w g c e/\c.length=cap/\n<=cap/\cap<=maxLen/\c.take n=xs:=by
 obtain ⟨m,d⟩:=h;rcases d with ⟨b,_⟩|⟨g',a,cur,l,_,hg,i,f,j,k⟩
 ·cases b
 ·cases l
  exact ⟨cur.toList,by unfold aJ;simpa using hg,by simpa using j,i,f,by simpa using k⟩
theorem js{w:World}{n:Nat}{v:Value}{xs:List Value}{e:TypeId}(h:w.ownsRow 0 e 1 v n xs)(f:1<=n):∃g cap,v= .slice (some ⟨g,0,none⟩) n cap/\n<=cap/\cap<=9223372036854775807/\g<w.heap.size:=by
 rcases h.2 with ⟨_,d⟩|⟨g,cap,cur,c,_,hg,a,b,_⟩
 ·omega
 ·exact ⟨g,cap,c,a,by unfold maxLen at b;omega,(bH.1 hg).1⟩
theorem mT{w:World}{g cap n j:Nat}{xs:List Value}{e:TypeId}{u:Value}(h:w.ownsRow 0 e 1 (.slice (some g) n cap) n xs)(a:xs[j]? =some u):w.cell? ⟨g,j,none⟩=some u/\w.frozen? ⟨g,j,none⟩=false:=by
 obtain ⟨c,b,f,l,k,d⟩:=mX h;refine ⟨b.cell j ?_,b.free j⟩;have i:=(al.1 a).1;rw [<-d,eo] at a;split at a
 ·exact a
 ·cases a
theorem sW{w:World}{g cap n j:Nat}{xs:List Value}{e:TypeId}(u:Value)(h:w.ownsRow 0 e 1 (.slice (some g) n cap) n xs)(k:j<n):(w.setCell ⟨g,j,none⟩ u).ownsRow 0 e 1 (.slice (some g) n cap) n (xs.set j u):=by
 obtain ⟨c,a,b,f,d,i⟩:=mX h;refine qv (a.set j u) (by rw [bc];exact b) f d ?_;rw [<-i,List.take_set]
theorem ii{w:World}{v l:Value}{n n' s s':Nat}{xs f:List Value}{e k:TypeId}{b m:Nat}(h:w.ownsRow b e s v n xs)(o:w.ownsRow m k s' l n' f)(p:e≠k){g:Nat}(hg:v.ownBlock=some g):l.ownBlock≠some g:=by
 intro a;rcases h.2 with ⟨rfl,_⟩|⟨g1,c1,i,rfl,_,d,_⟩
 ·cases hg
 ·rcases o.2 with ⟨rfl,_⟩|⟨q,c2,j,rfl,_,c,_⟩
  ·cases a
  ·simp only [Value.ownBlock,aL] at hg a;subst hg;subst a;rw [d] at c;simp only [aL,Obj.cells.injEq] at c;exact p c.2.1
theorem fq{w:World}{v:Value}{n s b k:Nat}{xs c:List Value}{e t:TypeId}(h:w.ownsRow b e s v n xs)(a:aJ w k c t)(g:e≠t):v.ownBlock≠some k:=by
 intro hg;rcases h.2 with ⟨rfl,_⟩|⟨g1,c1,f,rfl,_,d,_⟩
 ·cases hg
 ·simp only [Value.ownBlock,aL] at hg;subst hg;unfold aJ at a;rw [d] at a;simp only [aL,Obj.cells.injEq] at a;exact g a.2.1
structure dN(w:World)(p:Nat)(vw vt vb:Value)(ws:List Nat)(tk:List Bool)(bk:List Nat)(Rm Pg Us Hg:Nat)(Tm:Int):Prop where
 Qd:aJ w p [vw,vt,vb,(Rm:Int),(Pg:Int),(Us:Int),(Hg:Int),(Tm:Int)] 307
 rw:w.ownsRow 0 46 1 vw ws.length (ez ws)
 rt:w.ownsRow 0 4 1 vt tk.length (tk.map Value.bool)
 rb:w.ownsRow 0 3 1 vb bk.length (bk.map fun (f:Nat)=>Value.int .i64 f)
 len:ws.length=tk.length*Pg
 lt:∀x∈ws,x<18446744073709551616
 Qb:Us+bk.length=tk.length
 free:∀f∈bk,tk[f]? =some false
 nd:bk.Nodup
 Yc:tk.length<=Rm
 Xq:Rm<=4096
 Qv:1<=Pg
 Qq:Pg<=256
 Qj:Hg<=Rm
def d8(p:Nat)(vw vt vb:Value)(k:Nat):Prop:=k=p\/vw.ownBlock=some k\/vt.ownBlock=some k\/vb.ownBlock=some k
theorem dN.frame{S:Nat->Prop}{w w':World}{p Rm Pg Us Hg:Nat}{f:Int}{e d c:Value}{ws:List Nat}{i:List Bool}{g:List Nat}(h:dN w p e d c ws i g Rm Pg Us Hg f)(hf:Fr S w w')(b:∀k,d8 p e d c k->¬S k):dN w' p e d c ws i g Rm Pg Us Hg f:=
 ⟨h.Qd.frame hf (b _ (.inl rfl)),aO h.rw hf (fun k a=>b k (.inr (.inl a))),aO h.rt hf (fun k a=>b k (.inr (.inr (.inl a)))),aO h.rb hf (fun k a=>b k (.inr (.inr (.inr a)))),h.len,h.lt,h.Qb,h.free,h.nd,h.Yc,h.Xq,h.Qv,h.Qq,h.Qj⟩
section
variable{w:World}{p Rm Pg Us Hg:Nat}{Tm:Int}{vw vt vb:Value}{ws:List Nat}{tk:List Bool}{bk:List Nat}
theorem oQ(h:dN w p vw vt vb ws tk bk Rm Pg Us Hg Tm):Calls prog 210 #[p] w fun e w'=>e= .returned (Pg:Int)/\w=w':=by
 have c:=h.Qd.cell 4 rfl;clear h
 go_enter func210,ntmps210
 go_wp2;go_ret;exact ⟨rfl,rfl⟩
theorem zV(h:dN w p vw vt vb ws tk bk Rm Pg Us Hg Tm):Calls prog 236 #[p] w fun e w'=>e= .returned (Rm:Int)/\w=w':=by
 have c:=h.Qd.cell 3 rfl;clear h
 go_enter func236,ntmps236
 go_wp2;go_ret;exact ⟨rfl,rfl⟩
theorem zT(h:dN w p vw vt vb ws tk bk Rm Pg Us Hg Tm):Calls prog 159 #[p] w fun e w'=>e= .returned (Us:Int)/\w=w':=by
 have c:=h.Qd.cell 5 rfl;clear h
 go_enter func159,ntmps159
 go_wp2;go_ret;exact ⟨rfl,rfl⟩
theorem sy(h:dN w p vw vt vb ws tk bk Rm Pg Us Hg Tm)(f:Nat)(hf:tk[f]? =some true):Calls prog 256 #[p,(f:Int)] w fun e w'=>e= .returned (0:Int)/\w=w':=by
 have a:=(al.1 hf).1;obtain ⟨g,cap,rfl,_⟩:=js h.rt (by omega);have c1:=h.Qd.cell 1 rfl;have c2:=(mT (j:=f) h.rt (by rw [aR,hf];rfl)).1;generalize tk.length=n at*;have b:(f:Int)<(n:Int):=by omega
 clear h hf
 go_enter func256,ntmps256
 go_wp2;go_ret;exact ⟨rfl,rfl⟩
theorem iQ{f n Pg:Nat}(hf:f<n):f*Pg+Pg<=n*Pg:=by
 have:=aX Pg hf;rw [cY] at this;exact this
theorem qU{g n cap:Nat}(m:w.cell? p=some (.slice (some g) n cap))(o:w.cell? ⟨p,4,none⟩=some (Pg:Int))(d:1<=Pg)(f:Nat)(c:f*Pg+Pg<=n)(q:n<=cap)(a:cap<=9223372036854775807):Calls prog 280 #[p,(f:Int)] w fun e w'=>e= .returned (.slice (some ⟨g,f*Pg,none⟩) Pg Pg)/\w=w':=by
 have b:(f:Int)*(Pg:Int)=((f*Pg:Nat):Int):=by simp
 generalize f*Pg=F at*;have h:(F:Int)+(Pg:Int)<=(n:Int):=by omega
 have i:(n:Int)<=(cap:Int):=by omega
 have j:(cap:Int)<=9223372036854775807:=by omega
 have k:(1:Int)<=(Pg:Int):=by omega
 have l:(0:Int)<=(F:Int):=by omega
 go_enter func280,ntmps280
 go_wp2;go_ret;exact ⟨by simp,rfl⟩
theorem wV(h:dN w p vw vt vb ws tk bk Rm Pg Us Hg Tm)(f:Nat)(hf:f<tk.length):Calls prog 280 #[p,(f:Int)] w fun e w'=>(∃g cap,vw= .slice (some ⟨g,0,none⟩) ws.length cap/\e= .returned (.slice (some ⟨g,f*Pg,none⟩) Pg Pg))/\w=w':=by
 have i:=iQ (Pg:=Pg) hf;have c:=h.len;have b:=h.Qv;obtain ⟨g,cap,rfl,d,a,_⟩:=js h.rw (by omega);refine (qU (h.Qd.cell 0 rfl) (h.Qd.cell 4 rfl) b f (by omega) d a).mono ?_;rintro e w' ⟨rfl,rfl⟩;exact ⟨⟨g,cap,rfl,rfl⟩,rfl⟩
end
end Go.Proofs.YthahbijbpinneaaGreatDoor
