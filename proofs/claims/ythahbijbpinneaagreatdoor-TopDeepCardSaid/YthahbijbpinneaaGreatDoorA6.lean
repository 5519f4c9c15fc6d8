import Derived.Test.YthahbijbpinneaaGreatDoorA5
set_option maxRecDepth 100000
set_option maxHeartbeats 8000000
set_option linter.all false
namespace Go.Proofs.YthahbijbpinneaaGreatDoor
open Go.RowKit
def cA (fr:Nat->Nat) (p x:Nat) (k:Nat):Nat:=if k=p then x else fr k
theorem fT {fr:Nat->Nat} {p x a b:Nat} (e:a<=p) (c:p<b):cnt (bF (cA fr p x)) a b+(if fr p=0 then 0 else 1)=cnt (bF fr) a b+(if x=0 then 0 else 1):=by
 rw [ay _ e (Nat.le_of_lt c),ay (bF fr) e (Nat.le_of_lt c)];have d:∀f:Nat->Bool,cnt f p b=(if f p then 1 else 0)+cnt f (p+1) b:=fun f=>by
  rw [ay f (show p<=p+1 from Nat.le_succ p) (show p+1<=b from c),aC f (Nat.le_refl p),bG f (Nat.le_refl p),Nat.zero_add]
 rw [d (bF (cA fr p x)),d (bF fr),aK (f:=bF (cA fr p x)) (g:=bF fr) (a:=a) (b:=p) (fun i _ h=>by unfold bF cA;rw [if_neg (by omega)]),
  aK (f:=bF (cA fr p x)) (g:=bF fr) (a:=p+1) (b:=b) (fun i h _=>by unfold bF cA;rw [if_neg (by omega)])]
 have j:bF (cA fr p x) p=(x !=0):=by unfold bF cA;rw [if_pos rfl]
 have k:bF fr p=(fr p !=0):=rfl;rw [j,k];by_cases l:x=0<;>by_cases hf:fr p=0<;>simp [l,hf]<;>omega
theorem qv {fr:Nat->Nat} {p x i:Nat} (d:i≠p/256):gn (cA fr p x) i=gn fr i:=by
 unfold gn;congr 1
 ·apply List.map_congr_left;intro q a;rw [List.mem_range] at a;unfold cA;rw [if_neg (by omega)]
 ·rw [aK (g:=bF fr) (fun k b c=>by unfold bF cA;rw [if_neg (by omega)])]
theorem tI {fr:Nat->Nat} {p x:Nat}:gn (cA fr p x) (p/256)=((gn fr (p/256)).set (p% 256) (.int .u32 (x:Int))).set 256 (.int .i64 ((cnt (bF (cA fr p x)) (256*(p/256)) (256*(p/256)+256):Nat):Int)):=by
 apply List.ext_getElem?;intro k;have b:∀f i,(gn f i).length=257:=fun f i=>by unfold gn;simp
 rcases Nat.lt_trichotomy k 256 with a|a|a
 ·rw [it _ _ _ a,List.getElem?_set_ne (by omega),List.getElem?_set];unfold cA;by_cases e:p% 256=k
  ·rw [if_pos (by omega),if_pos e,if_pos (by rw [b];omega)]
  ·rw [if_neg (by omega),if_neg e,it _ _ _ a]
 ·subst a;rw [rH,List.getElem?_set,if_pos rfl,if_pos (by rw [List.length_set,b];decide)]
 ·rw [List.getElem?_eq_none (by rw [b];omega),List.getElem?_eq_none (by rw [List.length_set,List.length_set,b];omega)]
section
variable {w:World} {g gt:Nat} {ts:List (Option Nat)} {P:Nat} {fr:Nat->Nat} {n:Int}
theorem aM.gne (h:aM w g gt ts P fr n):g≠gt:=fun e=>by
 have a:=h.blk;have b:=h.row;unfold aj at a b;rw [e,b] at a;simp only [Option.some.injEq,Obj.cells.injEq] at a;exact absurd a.2.1 (by decide)
theorem aM.tne (h:aM w g gt ts P fr n) {i t:Nat} (d:ts[i]? =some (some t)):t≠g∧t≠gt:=by
 have a:=h.tab i t d;have b:=h.blk;have c:=h.row;unfold aj at a b c;constructor
 ·intro e;rw [e,b] at a;simp only [Option.some.injEq,Obj.cells.injEq] at a;exact absurd a.2.1 (by decide)
 ·intro e;rw [e,c] at a;simp only [Option.some.injEq,Obj.cells.injEq] at a;exact absurd a.2.1 (by decide)
theorem aM.upd (h:aM w g gt ts P fr n) {p x t:Nat} (hp:p<P) (s:x<4294967296) (d:ts[p/256]? =some (some t)) (c:Int) (o:c=((cnt (bF (cA fr p x)) (256*(p/256)) (256*(p/256)+256):Nat):Int)) (j:Int):
  ∀W,W=((w.setCell ⟨t,p% 256,none⟩ (.int .u32 (x:Int))).setCell ⟨t,256,none⟩ (.int .i64 c)).setCell ⟨g,2,none⟩ (.int .i64 j)->aM W g gt ts P (cA fr p x) j∧Fr (aG g gt ts) w W:=by
 rintro W rfl;obtain ⟨l,u⟩:=h.tne d;have hg:=h.gne;have hf:Fr (fun k=>k=t∨k=g) w (((w.setCell ⟨t,p% 256,none⟩ (.int .u32 (x:Int))).setCell ⟨t,256,none⟩ (.int .i64 c)).setCell ⟨g,2,none⟩ (.int .i64 j)):=
  (((Fr.refl (fun k=>k=t∨k=g) w).setCell ⟨t,p% 256,none⟩ (.inl (.inl rfl)) _).setCell ⟨t,256,none⟩ (.inl (.inl rfl)) _).setCell ⟨g,2,none⟩ (.inl (.inr rfl)) _
 refine ⟨⟨?_,h.row.frame hf (by omega),h.len,?_,?_,h.inj,h.one,h.small,?_,?_⟩,hf.mono (fun k f=> .inl (by rcases f with rfl|rfl;exact .inr (.inr (List.mem_of_getElem? d));exact .inl rfl))⟩
 ·exact ((h.blk.setOther ⟨t,p% 256,none⟩ _ (Ne.symm l)).setOther ⟨t,256,none⟩ _ (Ne.symm l)).set 2 _
 ·intro i m a;by_cases b:i=p/256
  ·subst b;rw [d] at a;simp only [Option.some.injEq] at a;subst a;rw [tI,<-o];exact (((h.tab _ t d).set (p% 256) _).set 256 _).setOther ⟨g,2,none⟩ _ l
  ·rw [qv b];have:m≠t:=fun e=>b (h.inj i (p/256) t (by rw [<-e];exact a) d)
   exact (h.tab i m a).frame hf (by have:=(h.tne a).1;omega)
 ·intro i b q r;have:i≠p/256:=fun e=>by rw [e,d] at b;cases b
  unfold cA;rw [if_neg (by omega)];exact h.nil i b q r
 ·intro k;unfold cA;split
  ·exact s
  ·exact h.lt k
 ·intro k f;unfold cA;rw [if_neg (by omega)];exact h.off k f
theorem aM.more (h:aM w g gt ts P fr n) {i:Nat} (p:ts[i]? =some none):
  ∀W,W=(w.alloc (.cells (List.replicate 256 (Value.int .u32 0)++[Value.int .i64 0]).toArray 351)).setCell ⟨gt,i,none⟩ (.pointer (some ⟨w.heap.size,0,none⟩))->
   aM W g gt (ts.set i (some w.heap.size)) P fr n∧Fr (aG g gt ts) w W:=by
 rintro W rfl;have d:=(List.getElem?_eq_some_iff.1 p).1;have hg:=h.gne;have z:=h.blk.lt;have A:=h.row.lt;have b:Fr (fun _=>False) w (w.alloc (.cells (List.replicate 256 (Value.int .u32 0)++[Value.int .i64 0]).toArray 351)):=(Fr.refl _ w).alloc _;have c:Fr (fun k=>k=gt) (w.alloc (.cells (List.replicate 256 (Value.int .u32 0)++[Value.int .i64 0]).toArray 351)) ((w.alloc (.cells (List.replicate 256 (Value.int .u32 0)++[Value.int .i64 0]).toArray 351)).setCell ⟨gt,i,none⟩ (.pointer (some ⟨w.heap.size,0,none⟩))):=
  (Fr.refl (fun k=>k=gt) _).setCell ⟨gt,i,none⟩ (.inl rfl) _
 refine ⟨⟨?_,?_,by rw [List.length_set];exact h.len,?_,?_,?_,h.one,h.small,h.lt,h.off⟩,(b.mono (S':=aG g gt ts) (fun _ h=>h.elim)).trans c (fun k f=> .inl (.inr (.inl f)))⟩
 ·rw [List.length_set];exact (h.blk.frame b (fun h=>h)).frame c hg
 ·have:=(h.row.frame b (fun h=>h)).set i (.pointer (some ⟨w.heap.size,0,none⟩));rw [List.map_set];exact this
 ·intro j t l;rw [List.getElem?_set] at l;by_cases e:i=j
  ·subst e;rw [if_pos rfl,if_pos d] at l;simp only [Option.some.injEq] at l;subst l;have u:gn fr i=List.replicate 256 (Value.int .u32 0)++[Value.int .i64 0]:=by
    unfold gn;congr 1
    ·rw [List.eq_replicate_iff];refine ⟨by simp,fun v s=> ?_⟩;obtain ⟨q,o,rfl⟩:=List.mem_map.1 s;rw [List.mem_range] at o;rw [h.nil i p q o];rfl
    ·rw [aE (fun k x y=>by
      have:=h.nil i p (k-256*i) (by omega);rw [show 256*i+(k-256*i)=k by omega] at this;unfold bF;rw [this];rfl)]
     rfl
   rw [u];exact (aj.new w _ _).frame c (by omega)
  ·rw [if_neg e] at l;exact ((h.tab j t l).frame b (fun h=>h)).frame c (h.tne l).2
 ·intro j a q o;rw [List.getElem?_set] at a;by_cases e:i=j
  ·subst e;rw [if_pos rfl,if_pos d] at a
   cases a
  ·rw [if_neg e] at a;exact h.nil j a q o
 ·intro j k t a f;rw [List.getElem?_set] at a f;by_cases r:i=j
  ·by_cases m:i=k
   ·omega
   ·subst r;rw [if_pos rfl,if_pos d] at a;rw [if_neg m] at f;simp only [Option.some.injEq] at a;have:=(h.tab k t f).lt;omega
  ·rw [if_neg r] at a;by_cases m:i=k
   ·subst m;rw [if_pos rfl,if_pos d] at f;simp only [Option.some.injEq] at f;have:=(h.tab j t a).lt;omega
   ·rw [if_neg m] at f;exact h.inj j k t a f
theorem aM.less (h:aM w g gt ts P fr n) {i t:Nat} (s:ts[i]? =some (some t)) (r:cnt (bF fr) (256*i) (256*i+256)=0):
  ∀W,W=w.setCell ⟨gt,i,none⟩ (.pointer none)->aM W g gt (ts.set i none) P fr n∧Fr (aG g gt ts) w W:=by
 rintro W rfl;have c:=(List.getElem?_eq_some_iff.1 s).1;have hg:=h.gne;have b:Fr (fun k=>k=gt) w (w.setCell ⟨gt,i,none⟩ (.pointer none)):=(Fr.refl (fun k=>k=gt) _).setCell ⟨gt,i,none⟩ (.inl rfl) _;refine ⟨⟨?_,?_,by rw [List.length_set];exact h.len,?_,?_,?_,h.one,h.small,h.lt,h.off⟩,b.mono (fun k d=> .inl (.inr (.inl d)))⟩
 ·rw [List.length_set];exact h.blk.frame b hg
 ·rw [List.map_set];exact h.row.set i (.pointer none)
 ·intro j l f;rw [List.getElem?_set] at f;by_cases e:i=j
  ·subst e;rw [if_pos rfl,if_pos c] at f
   cases f
  ·rw [if_neg e] at f;exact (h.tab j l f).frame b (h.tne f).2
 ·intro j a q u;by_cases e:i=j
  ·subst e
   cases hz:fr (256*i+q) with
   |zero=>rfl
   |succ m=>
    have:=nC r (256*i+q) (by omega) (by omega);unfold bF at this;rw [hz] at this
    cases this
  ·rw [List.getElem?_set,if_neg e] at a;exact h.nil j a q u
 ·intro j k l a d;rw [List.getElem?_set] at a d;by_cases o:i=j
  ·subst o;rw [if_pos rfl,if_pos c] at a
   cases a
  ·rw [if_neg o] at a;by_cases p:i=k
   ·subst p;rw [if_pos rfl,if_pos c] at d
    cases d
   ·rw [if_neg p] at d;exact h.inj j k l a d
end
section
variable {w:World} {g gt:Nat} {ts:List (Option Nat)} {P:Nat} {fr:Nat->Nat} {n:Int}
def eI (w:World) (g gt:Nat) (ts:List (Option Nat)) (P:Nat) (fr:Nat->Nat) (p x:Nat) (e:Ending) (w':World):Prop:=
 e= .returned (.tuple #[])∧∃ts' n',aM w' g gt ts' P (cA fr p x) n'∧Fr (aG g gt ts) w w'∧∀k,aG g gt ts' k->aG g gt ts k∨w.heap.size<=k
theorem qH:Tryz.zeroCells351=(List.replicate 256 (Value.int .u32 0)++[Value.int .i64 0]).toArray:=by kernel_rfl
theorem rk {ts:List (Option Nat)} {g gt i k m:Nat} (h:aG g gt (ts.set i (some m)) k):aG g gt ts k∨k=m:=by
 rcases h with h|h|h
 ·exact .inl (.inl h)
 ·exact .inl (.inr (.inl h))
 ·rcases List.mem_or_eq_of_mem_set h with h|h
  ·exact .inl (.inr (.inr h))
  ·exact .inr (by simpa using h)
theorem aM.setf (h:aM w g gt ts P fr n) {p x t:Nat} (hp:p<P) (l:x<4294967296) (e:ts[p/256]? =some (some t)) (δ:Int) (C:Nat) (j:cnt (bF fr) (256*(p/256)) (256*(p/256)+256)=C) (c:Int) (k:c=((cnt (bF (cA fr p x)) (256*(p/256)) (256*(p/256)+256):Nat):Int)):
  (∃u,w.cell? ⟨t,p% 256,none⟩=some u)∧w.frozen? ⟨t,p% 256,none⟩=false∧
  (w.setCell ⟨t,p% 256,none⟩ (.int .u32 (x:Int))).cell? ⟨t,256,none⟩=some (.int .i64 C)∧(w.setCell ⟨t,p% 256,none⟩ (.int .u32 (x:Int))).frozen? ⟨t,256,none⟩=false∧
  ((w.setCell ⟨t,p% 256,none⟩ (.int .u32 (x:Int))).setCell ⟨t,256,none⟩ (.int .i64 c)).cell? ⟨g,2,none⟩=some (.int .i64 n)∧((w.setCell ⟨t,p% 256,none⟩ (.int .u32 (x:Int))).setCell ⟨t,256,none⟩ (.int .i64 c)).frozen? ⟨g,2,none⟩=false∧
  (((w.setCell ⟨t,p% 256,none⟩ (.int .u32 (x:Int))).setCell ⟨t,256,none⟩ (.int .i64 c)).setCell ⟨g,2,none⟩ (.int .i64 (wrap64 (n+δ)))).cell? ⟨t,256,none⟩=some (.int .i64 c)∧
  ∀W,W=(((w.setCell ⟨t,p% 256,none⟩ (.int .u32 (x:Int))).setCell ⟨t,256,none⟩ (.int .i64 c)).setCell ⟨g,2,none⟩ (.int .i64 (wrap64 (n+δ))))->aM W g gt ts P (cA fr p x) (wrap64 (n+δ))∧Fr (aG g gt ts) w W:=by
 have b:=h.tab _ t e;have a:=b.set (p% 256) (.int .u32 (x:Int));have i:((gn fr (p/256)).set (p% 256) (.int .u32 (x:Int)))[256]? =some (.int .i64 C):=by rw [List.getElem?_set_ne (by omega),rH,j]
 obtain ⟨f,m⟩:=h.tne e;have d:=(h.blk.setOther ⟨t,p% 256,none⟩ (.int .u32 (x:Int)) (Ne.symm f)).setOther ⟨t,256,none⟩ (.int .i64 c) (Ne.symm f);exact ⟨⟨_,b.cell (p% 256) (it fr (p/256) (p% 256) (Nat.mod_lt _ (by decide)))⟩,b.free _,a.cell 256 i,a.free 256,d.cell 2 rfl,d.free 2,
  ((a.set 256 (.int .i64 c)).setOther ⟨g,2,none⟩ _ f).cell 256 (by rw [List.getElem?_set,if_pos rfl,if_pos (by rw [List.length_set];unfold gn;simp)]),h.upd hp l e c k _⟩
theorem vR (h:aM w g gt ts P fr n) (p x t:Nat) (hp:p<P) (i:x≠0) (C:x<4294967296) (q:fr p=0) (f:ts[p/256]? =some (some t)):Calls Tryz.prog 255 #[g,.int .i64 p,.int .u32 (x:Int)] w (eI w g gt ts P fr p x):=by
 obtain ⟨o,m,r,s⟩:=h.slot hp;rw [f] at m
 cases m
 unfold ox at r;have I:=h.blk.cell 0 rfl;have A:p/256<ts.length:=(List.getElem?_eq_some_iff.1 f).1;have J:=h.small;have S:(p:Int).tdiv 256=((p/256:Nat):Int):=rfl;have T:(p:Int).tmod 256=((p% 256:Nat):Int):=rfl;have F:(p:Int)<=524288:=by omega
 have G:((p% 256:Nat):Int)<256:=by omega
 have w1:IntKind.i64.wrap ((p:Int)/256)=((p/256:Nat):Int):=by rw [IntKind.wrap_i64];omega
 have w2:IntKind.i64.wrap ((p:Int)% 256)=((p% 256:Nat):Int):=by rw [IntKind.wrap_i64];omega
 have v1:((p:Int)/256).toNat=p/256:=by omega
 have v2:((p:Int)% 256).toNat=p% 256:=by omega
 have e:=fT (fr:=fr) (p:=p) (x:=x) (a:=256*(p/256)) (b:=256*(p/256)+256) (by omega) (by omega);rw [if_pos q,if_neg i] at e;obtain ⟨c,d⟩:∃c,cnt (bF fr) (256*(p/256)) (256*(p/256)+256)=c:=⟨_,rfl⟩;have v:c<=256:=by rw [<-d];have:=be (bF fr) (256*(p/256)) (256*(p/256)+256);omega
 rw [d] at e;obtain ⟨⟨u,K⟩,B,M,N,O,Q,R,l⟩:=h.setf hp C f 1 c d ((c:Int)+1) (by omega);have j:=ae l;have D:((x:Int)==0)=false:=by rw [beq_eq_false_iff_ne];omega
 have y:(((c:Int)+1)==0)=false:=by rw [beq_eq_false_iff_ne];omega
 generalize ts.length=L at*;have E:((p/256:Nat):Int)<(L:Int):=by omega
 have H:(c:Int)<=256:=by omega
 clear h f e d A l
 go_enter Tryz.func255,Tryz.ntmps255
 go_wp2;go_end0;exact ⟨rfl,ts,_,(j.out _ rfl).1,(j.out _ rfl).2,fun k z=> .inl z⟩
theorem vQ (h:aM w g gt ts P fr n) (p x:Nat) (hp:p<P) (z:x≠0) (S:x<4294967296) (N:fr p=0) (m:ts[p/256]? =some none):Calls Tryz.prog 255 #[g,.int .i64 p,.int .u32 (x:Int)] w (eI w g gt ts P fr p x):=by
 obtain ⟨o,l,E,v⟩:=h.slot hp;rw [m] at l
 cases l
 unfold ox at E;have J:=h.blk.cell 0 rfl;have G:p/256<ts.length:=(List.getElem?_eq_some_iff.1 m).1;have Y:=h.small;have q1:(p:Int).tdiv 256=((p/256:Nat):Int):=rfl;have q2:(p:Int).tmod 256=((p% 256:Nat):Int):=rfl;have V:(p:Int)<=524288:=by omega
 have W:((p% 256:Nat):Int)<256:=by omega
 have w1:IntKind.i64.wrap ((p:Int)/256)=((p/256:Nat):Int):=by rw [IntKind.wrap_i64];omega
 have w2:IntKind.i64.wrap ((p:Int)% 256)=((p% 256:Nat):Int):=by rw [IntKind.wrap_i64];omega
 have v1:((p:Int)/256).toNat=p/256:=by omega
 have v2:((p:Int)% 256).toNat=p% 256:=by omega
 have f:=fT (fr:=fr) (p:=p) (x:=x) (a:=256*(p/256)) (b:=256*(p/256)+256) (by omega) (by omega);rw [if_pos N,if_neg z] at f;obtain ⟨c,d⟩:∃c,cnt (bF fr) (256*(p/256)) (256*(p/256)+256)=c:=⟨_,rfl⟩;have O:c<=256:=by rw [<-d];have:=be (bF fr) (256*(p/256)) (256*(p/256)+256);omega
 rw [d] at f;have T:((x:Int)==0)=false:=by rw [beq_eq_false_iff_ne];omega
 have Q:(((c:Int)+1)==0)=false:=by rw [beq_eq_false_iff_ne];omega
 have B:=ae (h.more m);have I:=ae G;have q:=ae d;have r:=ae f;have K:∀o,(w.alloc o).cell? ⟨gt,p/256,none⟩=some (.pointer none):=fun o=>((h.row.alloc o).cell (p/256) (by rw [List.getElem?_map,m];rfl))
 have M:∀o,(w.alloc o).frozen? ⟨gt,p/256,none⟩=false:=fun o=>(h.row.alloc o).free _
 generalize s:ts.length=L at*;have U:((p/256:Nat):Int)<(L:Int):=by omega
 have X:(c:Int)<=256:=by omega
 clear h m f d G
 go_enter Tryz.func255,Tryz.ntmps255
 go_upto_region 3 with fail
 obtain ⟨W1,i⟩:∃W1,(w.alloc (.cells Tryz.zeroCells351 351)).setCell ⟨gt,p/256,none⟩ (.pointer (some ⟨w.heap.size,0,none⟩))=W1:=⟨_,rfl⟩;rw [i];obtain ⟨g1,C⟩:=B.out W1 (by rw [<-i,qH]);have j:(ts.set (p/256) (some w.heap.size))[p/256]? =some (some w.heap.size):=by rw [List.getElem?_set,if_pos rfl,if_pos (by rw [s];exact I.out)]
 obtain ⟨o,l,t,F⟩:=g1.slot hp;rw [j] at l
 cases l
 unfold ox at t;obtain ⟨⟨u,Z⟩,R,k1,k2,k3,k4,k5,D⟩:=g1.setf hp S j 1 c q.out ((c:Int)+1) (by have:=r.out;omega);have A:=ae D;have H:=ae C;clear g1 C D i B K M J E v j;go_wp2;go_end0;exact ⟨rfl,_,_,(A.out _ rfl).1,H.out.trans (A.out _ rfl).2 (fun k y=>(rk y).imp id (fun e=>by rw [e];exact Nat.le_refl _)),fun k y=>(rk y).imp id (fun e=>by rw [e];exact Nat.le_refl _)⟩
theorem tm (h:aM w g gt ts P fr n) (p:Nat) (hp:p<P) (C:fr p≠0):Calls Tryz.prog 255 #[g,.int .i64 p,.int .u32 0] w (eI w g gt ts P fr p 0):=by
 obtain ⟨o,B,G,H⟩:=h.slot hp;obtain ⟨t,rfl⟩:∃t,o=some t:=by
  cases o with
  |none=>
   have:=h.nil _ B (p% 256) (Nat.mod_lt _ (by decide));rw [show 256*(p/256)+p% 256=p by omega] at this;exact absurd this C
  |some t=>exact ⟨t,rfl⟩
 have q:=B;clear B;unfold ox at G;have Y:=h.blk.cell 0 rfl;have J:p/256<ts.length:=(List.getElem?_eq_some_iff.1 q).1;have hs:=h.small;have q1:(p:Int).tdiv 256=((p/256:Nat):Int):=rfl;have q2:(p:Int).tmod 256=((p% 256:Nat):Int):=rfl;have V:(p:Int)<=524288:=by omega
 have W:((p% 256:Nat):Int)<256:=by omega
 have w1:IntKind.i64.wrap ((p:Int)/256)=((p/256:Nat):Int):=by rw [IntKind.wrap_i64];omega
 have w2:IntKind.i64.wrap ((p:Int)% 256)=((p% 256:Nat):Int):=by rw [IntKind.wrap_i64];omega
 have v1:((p:Int)/256).toNat=p/256:=by omega
 have v2:((p:Int)% 256).toNat=p% 256:=by omega
 have j:=fT (fr:=fr) (p:=p) (x:=0) (a:=256*(p/256)) (b:=256*(p/256)+256) (by omega) (by omega);rw [if_neg C,if_pos rfl] at j;obtain ⟨c,l⟩:∃c,cnt (bF fr) (256*(p/256)) (256*(p/256)+256)=c+1:=⟨cnt (bF fr) (256*(p/256)) (256*(p/256)+256)-1,by omega⟩;have I:c<=256:=by have:=be (bF fr) (256*(p/256)) (256*(p/256)+256);omega
 rw [l] at j;obtain ⟨⟨u,k0⟩,K,D,M,N,O,Q,z⟩:=h.setf (x:=0) hp (by decide) q (-1) (c+1) l (c:Int) (by omega);rw [show ((0:Nat):Int)=0 from rfl] at D M N O Q z;have v:=ae z;obtain ⟨R,s⟩:=h.tne q;have m:=h.gne;have F:=ae j;have E:=ae q;rw [show ((c+1:Nat):Int)=(c:Int)+1 by omega] at D;have hd:IntKind.i64.wrap ((c:Int)+1+ -1)=(c:Int):=by rw [IntKind.wrap_i64];omega
 have Z:∀a b d,(((w.setCell ⟨t,p% 256,none⟩ a).setCell ⟨t,256,none⟩ b).setCell ⟨g,2,none⟩ d).cell? ⟨gt,p/256,none⟩=some (.pointer (some ⟨t,0,none⟩)):=fun a b d=>(((h.row.setOther ⟨t,p% 256,none⟩ a (Ne.symm s)).setOther ⟨t,256,none⟩ b (Ne.symm s)).setOther ⟨g,2,none⟩ d (Ne.symm m)).cell (p/256) (by rw [List.getElem?_map,q];rfl)
 have e6:∀a b d,(((w.setCell ⟨t,p% 256,none⟩ a).setCell ⟨t,256,none⟩ b).setCell ⟨g,2,none⟩ d).frozen? ⟨gt,p/256,none⟩=false:=fun a b d=>(((h.row.setOther ⟨t,p% 256,none⟩ a (Ne.symm s)).setOther ⟨t,256,none⟩ b (Ne.symm s)).setOther ⟨g,2,none⟩ d (Ne.symm m)).free _
 generalize ts.length=L at*;have U:((p/256:Nat):Int)<(L:Int):=by omega
 have X:(c:Int)<=256:=by omega
 clear h q j l J z R s m;by_cases A:c=0
 ·have r:((c:Int)==0)=true:=by rw [beq_iff_eq];omega
  have f:=(v.out _ rfl).1.less (i:=p/256) (t:=t) E.out (by have:=F.out;omega);have y:=ae f;clear f A
  go_enter Tryz.func255,Tryz.ntmps255
  go_wp2;go_end0;obtain ⟨S,T⟩:=y.out _ rfl;refine ⟨rfl,_,_,S,(v.out _ rfl).2.trans T (fun k e=> .inl e),fun k e=> .inl ?_⟩;rcases e with e|e|e
  ·exact .inl e
  ·exact .inr (.inl e)
  ·rcases List.mem_or_eq_of_mem_set e with e|e
   ·exact .inr (.inr e)
   ·cases e
 ·have r:((c:Int)==0)=false:=by rw [beq_eq_false_iff_ne];omega
  go_enter Tryz.func255,Tryz.ntmps255
  go_wp2;go_end0;exact ⟨rfl,ts,_,(v.out _ rfl).1,(v.out _ rfl).2,fun k e=> .inl e⟩
theorem vP (h:aM w g gt ts P fr n) (p x:Nat) (hp:p<P) (a:x≠0) (d:x<4294967296) (b:fr p=0):Calls Tryz.prog 255 #[g,.int .i64 p,.int .u32 (x:Int)] w (eI w g gt ts P fr p x):=by
 obtain ⟨o,c,_⟩:=h.slot hp
 cases o with
 |none=>exact vQ h p x hp a d b c
 |some t=>exact vR h p x t hp a d b c
end
section
variable {w:World} {g gt:Nat} {ts:List (Option Nat)} {P:Nat} {fr:Nat->Nat} {n:Int}
def dE (w:World) (g gt:Nat) (ts:List (Option Nat)) (P:Nat) (fr:Nat->Nat) (p x:Nat) (v:Value) (e:Ending) (w':World):Prop:=
 e= .returned v∧∃ts' n',aM w' g gt ts' P (cA fr p x) n'∧Fr (aG g gt ts) w w'∧∀k,aG g gt ts' k->aG g gt ts k∨w.heap.size<=k
theorem xV (h:aM w g gt ts P fr n) (p f:Nat) (hp:p<P) (hf:f<=4096) (l:fr p=0):Calls Tryz.prog 253 #[g,.int .i64 p,.int .i64 f] w (dE w g gt ts P fr p (f+1) (.int .i64 0)):=by
 have a:Fr (fun _=>False) w (w.alloc (.cells #[.int .i64 p] 3)):=(Fr.refl _ w).alloc _;have c:=h.frame a (fun _ _ h=>h);have r:=ae (mG c p hp w.heap.size ((aj.new w [.int .i64 p] 3).cell 0 rfl));have j:=ae (km c p hp);rw [l] at j;have d:=ae (vP c p (f+1) hp (by omega) (by omega) l);rw [show ((f+1:Nat):Int)=(f:Int)+1 by omega] at d;have q:=ae (show∀e w',eI (w.alloc (.cells #[.int .i64 p] 3)) g gt ts P fr p (f+1) e w'->e= .returned (.tuple #[])∧dE w g gt ts P fr p (f+1) (.int .i64 0) (.returned (.int .i64 0)) w' from
  fun e w' ⟨t,i,v,x,y,z⟩=>⟨t,rfl,i,v,x,(a.mono (S':=aG g gt ts) (fun _ h=>h.elim)).trans y (fun _ h=> .inl h),fun k u=>(z k u).imp id (fun h=>by have:=a.size;omega)⟩)
 obtain ⟨F,b⟩:∃F:Int,(f:Int)=F:=⟨_,rfl⟩;rw [b] at d ⊢;have A:F<=4096:=by omega
 have B:0<=F:=by omega
 generalize dE w g gt ts P fr p (f+1) (.int .i64 0)=Q at*;generalize eI (w.alloc (.cells #[.int .i64 p] 3)) g gt ts P fr p (f+1)=Q2 at*;clear h c a hf b
 go_enter Tryz.func253,Tryz.ntmps253
 go_wp2_with fail
 refine (r.out).mono ?_;rintro e w' ⟨rfl,rfl⟩;go_wp2_with fail
 refine (j.out).mono ?_;rintro e w' ⟨rfl,rfl⟩;go_wp2_with fail
 refine (d.out).mono ?_;intro e w' o;obtain ⟨rfl,m⟩:=q.out e w' o;have s:=ae m;clear o m;go_wp2;exact s.out
theorem vI (h:aM w g gt ts P fr n) (p f:Nat) (hp:p<P) (i:fr p=f+1):Calls Tryz.prog 213 #[g,.int .i64 p] w (dE w g gt ts P fr p 0 (.tuple #[.int .i64 f,.int .i64 0])):=by
 have o:=ae (fG h p f hp i);have r:=ae (fun w1 (hf:Fr (fun _=>False) w w1)=>tm (h.frame hf (fun _ _ h=>h)) p hp (by omega));have m:=ae (show∀w1,Fr (fun _=>False) w w1->∀e w',eI w1 g gt ts P fr p 0 e w'->e= .returned (.tuple #[])∧dE w g gt ts P fr p 0 (.tuple #[.int .i64 f,.int .i64 0]) (.returned (.tuple #[.int .i64 f,.int .i64 0])) w' from
  fun w1 hf e w' ⟨s,d,u,v,x,y⟩=>⟨s,rfl,d,u,v,(hf.mono (S':=aG g gt ts) (fun _ h=>h.elim)).trans x (fun _ h=> .inl h),fun k t=>(y k t).imp id (fun h=>by have:=hf.size;omega)⟩)
 generalize dE w g gt ts P fr p 0 (.tuple #[.int .i64 f,.int .i64 0])=Q at*;clear h i
 go_enter Tryz.func213,Tryz.ntmps213
 go_wp2_with fail
 refine (o.out).mono ?_;rintro e w1 ⟨rfl,a⟩;have c:=ae (r.out w1 a);have b:=ae (m.out w1 a);clear a;go_wp2_with fail
 refine (c.out).mono ?_;intro e w' l;obtain ⟨rfl,j⟩:=b.out e w' l;have q:=ae j;clear l j;go_wp2;exact q.out
theorem sN:(Tryz.prog.info? 348).map (fun i=>(i.zero,i.size,i.bytes))=some (some (.pointer none),1,8):=by kernel_rfl
theorem sQ (k:Nat) (i:k<=16777216) (X:Int) (b:X=(k:Int)) (w:World):(Instr.makeSlice 317 (.int .i64 X) (.int .i64 X)).run Tryz.prog w= .ok (.slice (some ⟨w.heap.size,0,none⟩) k k) (w.alloc (.cells (List.replicate k (Value.pointer none)).toArray 348)):=by
 obtain ⟨f,d,e,a,c⟩:=info_parts sN;subst b;have h:=run_makeSlice (P:=Tryz.prog) w 317 348 f (.pointer none) Tryz.underlying317 d e .i64 .i64 (k:Int) (k:Int) (by omega) (Int.le_refl _) (by rw [a,Int.toNat_natCast];omega) (by rw [c];omega) (by omega);rw [a,Int.toNat_natCast,Nat.mul_one,show (Value.pointer none).cells= #[.pointer none] from rfl,ie] at h;rw [h];simp
theorem vJ (P:Nat) (d:1<=P) (f:P<=524288) (w:World):Calls Tryz.prog 181 #[.int .i64 P] w fun e w'=>∃g gt ts n,e= .returned (.tuple #[.pointer (some ⟨g,0,none⟩),.int .i64 0])∧aM w' g gt ts P (fun _=>0) n∧(∀k,aG g gt ts k->w.heap.size<=k)∧Fr (fun _=>False) w w':=by
 have m:((P:Int)+256-1).tdiv 256=(((P+255)/256:Nat):Int):=by
  rw [show (P:Int)+256-1=((P+255:Nat):Int) by omega];rfl
 have l:=sQ ((P+255)/256) (by omega) (((P:Int)+255)/256) (by omega);have a:∀W,W=(w.alloc (.cells (List.replicate ((P+255)/256) (Value.pointer none)).toArray 348)).alloc (.cells #[.slice (some ⟨w.heap.size,0,none⟩) ((P+255)/256) ((P+255)/256),.int .i64 P,.int .i64 0] 319)->
   aM W (w.heap.size+1) w.heap.size (List.replicate ((P+255)/256) none) P (fun _=>0) 0∧(∀k,aG (w.heap.size+1) w.heap.size (List.replicate ((P+255)/256) none) k->w.heap.size<=k)∧Fr (fun _=>False) w W:=by
  rintro W rfl;refine ⟨⟨?_,?_,by simp,?_,fun _ _ _ _=>rfl,?_,d,f,fun _=>by decide,fun _ _=>rfl⟩,?_,((Fr.refl _ w).alloc _).alloc _⟩
  ·have:=aj.new (w.alloc (.cells (List.replicate ((P+255)/256) (Value.pointer none)).toArray 348)) [.slice (some ⟨w.heap.size,0,none⟩) ((P+255)/256) ((P+255)/256),.int .i64 P,.int .i64 0] 319;rw [World.size_alloc] at this;rw [List.length_replicate];exact this
  ·rw [List.map_replicate];exact (aj.new w _ _).alloc _
  ·intro i t b;rw [List.getElem?_replicate] at b;split at b<;>cases b
  ·intro i j t b;rw [List.getElem?_replicate] at b;split at b<;>cases b
  ·rintro k (h|h|h)
   ·omega
   ·omega
   ·have:=List.eq_of_mem_replicate h;cases this
 have c:=ae a;clear a;generalize (List.replicate ((P+255)/256) (Value.pointer none)).toArray=Z at*
 go_enter Tryz.func181,Tryz.ntmps181
 go_wp2;go_ret2;exact ⟨_,_,_,_,rfl,c.out _ rfl⟩
end
theorem jH {w:World} {a b:Nat} {c c':List Value} {t f:TypeId} (h:aj w a c t) (d:aj w b c' f) (g:t≠f):a≠b:=fun e=>by
 unfold aj at h d;rw [e,d] at h;simp only [Option.some.injEq,Obj.cells.injEq] at h;exact g h.2.1.symm
section
variable {w:World} {p Rm Pg Us Hg:Nat} {Tm:Int} {vw vt vb:Value} {ws:List Nat} {tk:List Bool} {bk:List Nat} {g gt:Nat} {ts:List (Option Nat)} {P:Nat} {fr:Nat->Nat} {n:Int}
theorem cM (h:ba w p vw vt vb ws tk bk Rm Pg Us Hg Tm) (d:aM w g gt ts P fr n) {k:Nat} (a:bq p vw vt vb k):¬aG g gt ts k:=by
 intro hg;have e:∀{c:List Value} {t:TypeId},aj w k c t->t≠307->t≠46->t≠4->t≠3->False:=fun b j l m o=>by
  rcases a with a|a|a|a
  ·exact jH b h.blk j (by rw [a])
  ·exact bP h.rw b (Ne.symm l) a
  ·exact bP h.rt b (Ne.symm m) a
  ·exact bP h.rb b (Ne.symm o) a
 rcases hg with hg|hg|hg
 ·exact e (by rw [hg];exact d.blk) (by decide) (by decide) (by decide) (by decide)
 ·exact e (by rw [hg];exact d.row) (by decide) (by decide) (by decide) (by decide)
 ·obtain ⟨i,f⟩:=List.mem_iff_getElem?.1 hg;exact e (d.tab i k f) (by decide) (by decide) (by decide) (by decide)
theorem fH (h:ba w p vw vt vb ws tk bk Rm Pg Us Hg Tm) {m:Nat} {c:List Value} (b:aj w m c 219):¬bq p vw vt vb m:=by
 rintro (a|a|a|a)
 ·exact jH b h.blk (by decide) a
 ·exact bP h.rw b (by decide) a
 ·exact bP h.rt b (by decide) a
 ·exact bP h.rb b (by decide) a
theorem fX (h:aM w g gt ts P fr n) {m:Nat} {c:List Value} (b:aj w m c 219):¬aG g gt ts m:=by
 rintro (a|a|a)
 ·exact jH b h.blk (by decide) a
 ·exact jH b h.row (by decide) a
 ·obtain ⟨i,d⟩:=List.mem_iff_getElem?.1 a;exact jH b (h.tab i m d) (by decide) rfl
end
def bn (w:World) (m:Nat) (S:Nat->Prop) (Pg W Rm Us Hg:Nat) (mp:Nat->Bool) (M:Nat->Nat):Prop:=
 ∃p vw vt vb ws tk bk Tm g gt ts fr n,aj w m [.pointer (some ⟨p,0,none⟩),.pointer (some ⟨g,0,none⟩),.int .i64 W] 219∧ba w p vw vt vb ws tk bk Rm Pg Us Hg Tm∧aM w g gt ts (W/Pg) fr n∧
  (W% Pg=0∧W<=524288∧1<=W)∧(∀q f,fr q=f+1->tk[f]? =some true)∧(∀q q',fr q=fr q'->fr q≠0->q=q')∧Us=cnt (bF fr) 0 (W/Pg)∧(∀q,mp q=bF fr q)∧
  (∀a f,a<W->fr (a/Pg)=f+1->M a=ws.getD (f*Pg+a% Pg) 0)∧∀k,S k↔(k=m∨bq p vw vt vb k∨aG g gt ts k)
theorem bn.frame {T S:Nat->Prop} {w w':World} {m Pg W Rm Us Hg:Nat} {mp:Nat->Bool} {M:Nat->Nat} (h:bn w m S Pg W Rm Us Hg mp M) (hf:Fr T w w') (c:∀k,S k->¬T k):bn w' m S Pg W Rm Us Hg mp M:=by
 obtain ⟨p,A,z,y,ws,v,e,d,g,f,x,fr,n,i,j,l,o,q,r,s,t,u,a⟩:=h;exact ⟨p,A,z,y,ws,v,e,d,g,f,x,fr,n,i.frame hf (c _ ((a _).2 (.inl rfl))),j.frame hf (fun k b=>c k ((a k).2 (.inr (.inl b)))),l.frame hf (fun k b=>c k ((a k).2 (.inr (.inr b)))),o,q,r,s,t,u,a⟩
theorem bn.keep {S:Nat->Prop} {w w':World} {m Pg W Rm Us Hg:Nat} {mp:Nat->Bool} {M:Nat->Nat} (h:bn w m S Pg W Rm Us Hg mp M) (hf:Fr (fun _=>False) w w'):bn w' m S Pg W Rm Us Hg mp M:=h.frame hf (fun _ _ h=>h)
theorem bn.at {S:Nat->Prop} {w:World} {m Pg W Rm Us Hg:Nat} {mp:Nat->Bool} {M:Nat->Nat} (h:bn w m S Pg W Rm Us Hg mp M):1<=Pg∧Pg<=256∧W<=524288∧W% Pg=0∧Us<=Rm∧Rm<=4096∧Hg<=Rm∧Us=cnt mp 0 (W/Pg)∧1<=W:=by
 obtain ⟨p,y,x,v,ws,t,j,f,g,k,u,fr,n,l,a,o,b,q,r,d,e,s,c⟩:=h;refine ⟨a.page1,a.page2,b.2.1,b.1,?_,a.room1,a.high1,by rw [d];exact aK (fun i _ _=>(e i).symm),b.2.2⟩;have:=a.cnt;have:=a.most;omega
theorem dG {a W Pg:Nat} (h:a<W) (hp:1<=Pg) (c:W% Pg=0):a/Pg<W/Pg:=by
 have b:W=Pg*(W/Pg):=by have:=Nat.div_add_mod W Pg;omega
 exact (Nat.div_lt_iff_lt_mul (by omega)).2 (by rw [Nat.mul_comm,<-b];exact h)
section
variable {w:World} {m Pg W Rm Us Hg:Nat} {S:Nat->Prop} {mp:Nat->Bool} {M:Nat->Nat}
theorem bn.ptrs (h:bn w m S Pg W Rm Us Hg mp M):∃p g i f e ws d b a,w.cell? ⟨m,0,none⟩=some (.pointer (some ⟨p,0,none⟩))∧w.cell? ⟨m,1,none⟩=some (.pointer (some ⟨g,0,none⟩))∧w.cell? ⟨m,2,none⟩=some (.int .i64 W)∧ba w p i f e ws d b Rm Pg Us Hg a:=by
 obtain ⟨p,i,f,e,ws,d,b,a,g,k,l,fr,n,c,j,_⟩:=h;exact ⟨p,g,i,f,e,ws,d,b,a,c.cell 0 rfl,c.cell 1 rfl,c.cell 2 rfl,j⟩
theorem bT (h:bn w m S Pg W Rm Us Hg mp M):Calls Tryz.prog 135 #[m] w fun e w'=>e= .returned (.bool false)∧w=w':=by
 obtain ⟨p,g,j,i,f,ws,d,b,a,c,_⟩:=h.ptrs;clear h
 go_enter Tryz.func135,Tryz.ntmps135
 go_wp2;go_ret;exact ⟨rfl,rfl⟩
theorem cL (h:bn w m S Pg W Rm Us Hg mp M):Calls Tryz.prog 67 #[m] w fun e w'=>e= .returned (.int .i64 W)∧w=w':=by
 have a:=ae (bT h);obtain ⟨p,g,k,j,i,ws,f,c,b,d,c1,c2,hp⟩:=h.ptrs;clear h hp
 go_enter Tryz.func67,Tryz.ntmps67
 go_wp2_with fail
 refine (a.out).mono ?_;rintro e w' ⟨rfl,rfl⟩;go_wp2;go_ret;exact ⟨rfl,rfl⟩
theorem dJ (h:bn w m S Pg W Rm Us Hg mp M):Calls Tryz.prog 148 #[m] w fun e w'=>e= .returned (.int .i64 Pg)∧w=w':=by
 have a:=ae (bT h);obtain ⟨p,g,l,k,j,ws,i,d,c,f,c1,c2,hp⟩:=h.ptrs;have b:=ae (iL hp);clear h hp
 go_enter Tryz.func148,Tryz.ntmps148
 go_wp2_with fail
 refine (a.out).mono ?_;rintro e w' ⟨rfl,rfl⟩;go_wp2_with fail
 refine (b.out).mono ?_;rintro e w' ⟨rfl,rfl⟩;go_wp2;go_ret;exact ⟨rfl,rfl⟩
theorem lz (h:bn w m S Pg W Rm Us Hg mp M):Calls Tryz.prog 78 #[m] w fun e w'=>e= .returned (.int .i64 Us)∧w=w':=by
 have a:=ae (bT h);obtain ⟨p,g,l,k,j,ws,i,d,c,f,c1,c2,hp⟩:=h.ptrs;have b:=ae (sB hp);clear h hp
 go_enter Tryz.func78,Tryz.ntmps78
 go_wp2_with fail
 refine (a.out).mono ?_;rintro e w' ⟨rfl,rfl⟩;go_wp2_with fail
 refine (b.out).mono ?_;rintro e w' ⟨rfl,rfl⟩;go_wp2;go_ret;exact ⟨rfl,rfl⟩
theorem sV (h:bn w m S Pg W Rm Us Hg mp M):Calls Tryz.prog 79 #[m] w fun e w'=>e= .returned (.int .i64 Hg)∧w=w':=by
 have a:=ae (bT h);obtain ⟨p,g,l,k,j,ws,i,d,c,f,c1,c2,hp⟩:=h.ptrs;have b:=ae (sn hp);clear h hp
 go_enter Tryz.func79,Tryz.ntmps79
 go_wp2_with fail
 refine (a.out).mono ?_;rintro e w' ⟨rfl,rfl⟩;go_wp2_with fail
 refine (b.out).mono ?_;rintro e w' ⟨rfl,rfl⟩;go_wp2;go_ret;exact ⟨rfl,rfl⟩
theorem sY (h:bn w m S Pg W Rm Us Hg mp M):Calls Tryz.prog 183 #[m] w fun e w'=>e= .returned (.int .i64 Rm)∧w=w':=by
 have a:=ae (bT h);obtain ⟨p,g,l,k,j,ws,i,d,c,f,c1,c2,hp⟩:=h.ptrs;have b:=ae (sy hp);clear h hp
 go_enter Tryz.func183,Tryz.ntmps183
 go_wp2_with fail
 refine (a.out).mono ?_;rintro e w' ⟨rfl,rfl⟩;go_wp2_with fail
 refine (b.out).mono ?_;rintro e w' ⟨rfl,rfl⟩;go_wp2;go_ret;exact ⟨rfl,rfl⟩
def yy (w:World) (f i:Nat) (e:Ending) (w':World):Prop:=e= .returned (.tuple #[.int .i64 f,.int .i64 i,.int .i64 0])∧Fr (fun _=>False) w w'
theorem oh {p g x n0:Nat} {J I H:Value} {ws:List Nat} {F:List Bool} {v:List Nat} {u n:Int} {G:List (Option Nat)} {fr:Nat->Nat} (h:bn w m S Pg W Rm Us Hg mp M)
  (c:aj w m [.pointer (some ⟨p,0,none⟩),.pointer (some ⟨g,0,none⟩),.int .i64 W] 219) (hp:ba w p J I H ws F v Rm Pg Us Hg u) (hg:aM w g x G (W/Pg) fr n) (a f:Nat) (y:a<W) (hf:fr (a/Pg)=f+1):
  Calls Tryz.prog 263 #[m,.int .i64 a] w (yy w f (a% Pg)):=by
 have r:=ae (bT h);obtain ⟨E,R,Q,o,_⟩:=h.at;have P:=c.cell 0 rfl;have c1:w.drew.cell? ⟨m,1,none⟩=_:=c.drew.cell 1 rfl;have c2:=c.cell 2 rfl;have s:=ae (iL hp);have i:=hg.frame (S:=fun _=>False) ((Fr.refl _ w).drew) (fun _ _ h=>h);have q:=ae (fun w' (b:Fr (fun _=>False) w.drew w')=>fG (i.frame b (fun _ _ h=>h)) (a/Pg) f (dG y E o) hf);have k:=ae (fun w' (b:Fr (fun _=>False) w.drew w')=>(c.drew.frame b (fun h=>h)).cell 1 rfl);have l:=ae ((Fr.refl (fun _=>False) w).drew);have T:(a:Int).tdiv (Pg:Int)=((a/Pg:Nat):Int):=bV a Pg;have U:(a:Int).tmod (Pg:Int)=((a% Pg:Nat):Int):=rfl;have z:a/Pg<=a:=Nat.div_le_self _ _;have C:a% Pg<Pg:=Nat.mod_lt _ (by omega);generalize a/Pg=A at*;generalize a% Pg=B at*;have D:¬Pg=0:=by omega
 have K:(a:Int)<(W:Int):=by omega
 have L:(W:Int)<=524288:=by omega
 have N:(A:Int)<=524288:=by omega
 have O:(B:Int)<=256:=by omega
 clear h c hp hg i hf o
 go_enter Tryz.func263,Tryz.ntmps263
 go_wp2_with fail
 refine (r.out).mono ?_;rintro e w' ⟨rfl,rfl⟩;go_wp2_with fail
 refine (s.out).mono ?_;rintro e w' ⟨rfl,rfl⟩;go_wp2;refine au (fun w'=>Fr (fun _=>False) w.drew w') (by kernel_rfl) (by kernel_rfl) (Fr.refl _ _) ?_;refine ag (.pointer (some ⟨m,0,none⟩)) rfl (fun w b=>by go_simp) ?_;simp only [Act.put,aa,ab,ac];refine ag (.pointer (some ⟨m,0,none⟩)) rfl (fun w b=>by go_simp) ?_;simp only [Act.put,aa,ab,ac];refine ag (.pointer (some ⟨m,1,none⟩)) rfl (fun w b=>by go_simp) ?_;simp only [Act.put,aa,ab,ac];refine ag (.pointer (some ⟨g,0,none⟩)) rfl (fun w b=>by have d:=k.out _ b;go_simp) ?_;simp only [Act.put,aa,ab,ac];refine ag (.int .i64 a) rfl (fun w b=>by go_simp) ?_;simp only [Act.put,aa,ab,ac];refine ag (.int .i64 Pg) rfl (fun w b=>by go_simp) ?_;simp only [Act.put,aa,ab,ac];refine ag (.int .i64 A) rfl (fun w b=>by go_simp;rw [IntKind.wrap_i64];omega) ?_;simp only [Act.put,aa,ab,ac];refine az (.tuple #[.int .i64 f,.int .i64 0]) 251 #[.pointer (some ⟨g,0,none⟩),.int .i64 A] rfl (fun w=>by go_simp) (fun w b=>(q.out w b).mono fun e w' h=>⟨h.1,b.trans h.2 (fun _ h=>h.elim)⟩) ?_;simp only [Act.put,aa,ab,ac];refine ag (.tuple #[.int .i64 f,.int .i64 0]) rfl (fun w b=>by go_simp) ?_;simp only [Act.put,aa,ab,ac];refine ag (.int .i64 f) rfl (fun w b=>by go_simp) ?_;simp only [Act.put,aa,ab,ac];refine ag (.int .i64 0) rfl (fun w b=>by go_simp) ?_;simp only [Act.put,aa,ab,ac];refine ag (.int .i64 f) rfl (fun w b=>by go_simp) ?_;simp only [Act.put,aa,ab,ac];refine ag (.int .i64 0) rfl (fun w b=>by go_simp) ?_;simp only [Act.put,aa,ab,ac];refine wpQuiet_nil ?_;intro w1 j;have t:=ae (l.out.trans j (fun _ h=>h.elim));clear j c1;go_wp2;refine au (fun w'=>w'=w1.drew) (by kernel_rfl) (by kernel_rfl) rfl ?_;refine ag (.int .i64 f) rfl (fun w b=>by go_simp) ?_;simp only [Act.put,aa,ab,ac];refine ag (.int .i64 a) rfl (fun w b=>by go_simp) ?_;simp only [Act.put,aa,ab,ac];refine ag (.int .i64 Pg) rfl (fun w b=>by go_simp) ?_;simp only [Act.put,aa,ab,ac];refine ag (.int .i64 B) rfl (fun w b=>by go_simp) ?_;simp only [Act.put,aa,ab,ac];refine ag (.int .i64 0) rfl (fun w b=>by go_simp) ?_;simp only [Act.put,aa,ab,ac];refine ag (.int .i64 f) rfl (fun w b=>by go_simp) ?_;simp only [Act.put,aa,ab,ac];refine ag (.int .i64 B) rfl (fun w b=>by go_simp) ?_;simp only [Act.put,aa,ab,ac];refine ag (.int .i64 0) rfl (fun w b=>by go_simp) ?_;simp only [Act.put,aa,ab,ac];refine wpQuiet_nil ?_;rintro w2 rfl;go_wp2
 go_ret3
 exact ⟨rfl,t.out.drew⟩
theorem dS (h:bn w m S Pg W Rm Us Hg mp M) (a:Nat) (t:a<W) (hp:mp (a/Pg)=true):Calls Tryz.prog 223 #[m,.int .i64 a] w fun e w'=>e= .returned (.tuple #[.int .u64 ((M a:Nat):Int),.int .i64 0])∧Fr (fun _=>False) w w':=by
 obtain ⟨p,L,K,J,ws,H,E,D,g,G,I,fr,n,l,c,u,A,v,B,C,y,z,o⟩:=id h;rw [y] at hp;unfold bF at hp;obtain ⟨f,hf⟩:∃f,fr (a/Pg)=f+1:=⟨fr (a/Pg)-1,by rw [bne_iff_ne] at hp;omega⟩;have r:=ae (oh (n0:=0) h l c u a f t hf);rw [z a f t hf];have s:=ae (fun w1 (k:Fr (fun _=>False) w w1)=>uJ (c.frame k (fun _ _ h=>h)) f (a% Pg) (v _ f hf) (Nat.mod_lt _ c.page1));have q:=ae (fun w1 (k:Fr (fun _=>False) w w1)=>(l.frame k (fun h=>h)).cell 0 rfl);generalize ws.getD (f*Pg+a% Pg) 0=x at*;generalize a% Pg=i at*;clear h l c u A v B C y z o hp hf
 go_enter Tryz.func223,Tryz.ntmps223
 go_wp2_with fail
 refine (r.out).mono ?_;rintro e w1 ⟨rfl,b⟩;have F:=q.out w1 b;have j:=ae (s.out w1 b);have d:=ae b;clear b s q r;go_wp2_with fail
 refine (j.out).mono ?_;rintro e w' ⟨rfl,rfl⟩;go_wp2;go_ret2;exact ⟨rfl,d.out⟩
def bw (M:Nat->Nat) (a x:Nat) (b:Nat):Nat:=if b=a then x else M b
theorem qf {p g y f a x:Nat} {l t s:Value} {ws:List Nat} {r:List Bool} {v:List Nat} {u n:Int} {I:List (Option Nat)} {fr:Nat->Nat} {w1 w2:World}
  (K:aj w m [.pointer (some ⟨p,0,none⟩),.pointer (some ⟨g,0,none⟩),.int .i64 W] 219) (o:ba w p l t s ws r v Rm Pg Us Hg u) (L:aM w g y I (W/Pg) fr n) (V:W% Pg=0∧W<=524288∧1<=W) (N:∀q f,fr q=f+1->r[f]? =some true) (O:∀q J,fr q=fr J->fr q≠0->q=J) (X:Us=cnt (bF fr) 0 (W/Pg)) (Y:∀q,mp q=bF fr q)
  (Z:∀a f,a<W->fr (a/Pg)=f+1->M a=ws.getD (f*Pg+a% Pg) 0) (j:∀k,S k↔(k=m∨bq p l t s k∨aG g y I k)) (ha:a<W) (hf:fr (a/Pg)=f+1)
  (H:Fr (fun _=>False) w w1) (hp:ba w2 p l t s (ws.set (f*Pg+a% Pg) x) r v Rm Pg Us Hg u) (c:Fr (fun k=>l.ownBlock=some k) w1 w2):bn w2 m S Pg W Rm Us Hg mp (bw M a x)∧Fr S w w2:=by
 have G:=fH o K;refine ⟨⟨p,l,t,s,_,r,v,u,g,y,I,fr,n,(K.frame H (fun h=>h)).frame c (fun e=>G (.inr (.inl e))),hp,(L.frame H (fun _ _ h=>h)).frame c (fun k C e=>cM o L (.inr (.inl e)) C),V,N,O,X,Y,?_,j⟩,(H.mono (S':=S) (fun _ h=>h.elim)).trans c (fun k C=> .inl ((j k).2 (.inr (.inl (.inr (.inl C))))))⟩;intro b d R z;unfold bw;have U:=o.page1;have E:=Nat.mod_lt a (show 0<Pg by omega);have T:=Nat.mod_lt b (show 0<Pg by omega);have B:=(List.getElem?_eq_some_iff.1 (N _ f hf)).1;have D:=jx B E o.len;rw [List.getD_eq_getElem?_getD,List.getElem?_set];by_cases e:b=a
 ·subst e;have:f=d:=by omega
  subst this;rw [if_pos rfl,if_pos rfl,if_pos D];rfl
 ·rw [if_neg e];have F:f*Pg+a% Pg≠d*Pg+b% Pg:=fun h=>by
   have A:f=d:=by
    rcases Nat.lt_trichotomy f d with i|i|i
    ·have:=du (Pg:=Pg) i;omega
    ·exact i
    ·have:=du (Pg:=Pg) i;omega
   subst A;have P:=O (a/Pg) (b/Pg) (by omega) (by omega);have Q:=Nat.div_add_mod a Pg;have h3:=Nat.div_add_mod b Pg;rw [P] at Q;omega
  rw [if_neg F,<-List.getD_eq_getElem?_getD];exact Z b d R z
theorem iQ (h:bn w m S Pg W Rm Us Hg mp M) (a x:Nat) (C:a<W) (hp:mp (a/Pg)=true) (D:x<18446744073709551616):Calls Tryz.prog 224 #[m,.int .i64 a,.int .u64 x] w fun e w'=>e= .returned (.int .i64 0)∧bn w' m S Pg W Rm Us Hg mp (bw M a x)∧Fr S w w':=by
 obtain ⟨p,U,T,R,ws,P,L,K,g,O,Q,fr,n,r,q,s,E,t,F,G,u,H,o⟩:=id h;rw [u] at hp;unfold bF at hp;obtain ⟨f,hf⟩:∃f,fr (a/Pg)=f+1:=⟨fr (a/Pg)-1,by rw [bne_iff_ne] at hp;omega⟩;have z:=ae (oh (n0:=0) h r q s a f C hf);have A:=ae (fun w1 (l:Fr (fun _=>False) w w1)=>sA (q.frame l (fun _ _ h=>h)) f (a% Pg) x (t _ f hf) (Nat.mod_lt _ q.page1) D);have v:=ae (fun w1 (l:Fr (fun _=>False) w w1)=>(r.frame l (fun h=>h)).cell 0 rfl);have y:=ae (fun w1 w2 l hp c=>qf (w1:=w1) (w2:=w2) (x:=x) r q s E t F G u H o C hf l hp c);generalize f*Pg+a% Pg=i at*;generalize a% Pg=j at*;clear h r q s E t F G u H o hp hf D
 go_enter Tryz.func224,Tryz.ntmps224
 go_wp2_with fail
 refine (z.out).mono ?_;rintro e w1 ⟨rfl,b⟩;have N:=v.out w1 b;have k:=ae (A.out w1 b);have d:=ae (fun w2 hp c=>y.out w1 w2 b hp c);clear b A v z y;go_wp2_with fail
 refine (k.out).mono ?_;rintro e w2 ⟨rfl,I,J⟩;have B:=ae (d.out w2 I J);clear I J d k;go_wp2;go_ret;exact ⟨rfl,B.out.1,B.out.2⟩
end
section
variable {w:World} {m Pg W Rm Us Hg:Nat} {S:Nat->Prop} {mp:Nat->Bool} {M:Nat->Nat}
def ff (w:World) (m:Nat) (S:Nat->Prop) (Pg W Rm used':Nat) (mp' mp:Nat->Bool) (M:Nat->Nat) (v:Value) (e:Ending) (w':World):Prop:=
 e= .returned v∧∃S' Hg' M',bn w' m S' Pg W Rm used' Hg' mp' M'∧(∀a,a<W->mp (a/Pg)=true->mp' (a/Pg)=true->M' a=M a)∧Fr S w w'∧∀k,S' k->S k∨w.heap.size<=k
theorem qe {p g r f q0 B:Nat} {Y X V z y v:Value} {ws o:List Nat} {U E:List Bool} {bk C:List Nat} {Tm c n n':Int} {F s:List (Option Nat)} {fr:Nat->Nat} {w1 w2 w3:World}
  (P:aj w m [.pointer (some ⟨p,0,none⟩),.pointer (some ⟨g,0,none⟩),.int .i64 W] 219) (Q:ba w p Y X V ws U bk Rm Pg Us Hg Tm) (R:aM w g r F (W/Pg) fr n) (q4:W% Pg=0∧W<=524288∧1<=W) (T:∀q f,fr q=f+1->U[f]? =some true) (q6:∀q A,fr q=fr A->fr q≠0->q=A) (q7:Us=cnt (bF fr) 0 (W/Pg)) (q8:∀q,mp q=bF fr q)
  (q9:∀a f,a<W->fr (a/Pg)=f+1->M a=ws.getD (f*Pg+a% Pg) 0) (l:∀k,S k↔(k=m∨bq p Y X V k∨aG g r F k)) (hq:q0<W/Pg) (Z:fr q0=0)
  (H:Fr (fun _=>False) w w1) (j:jA w1 w2 p Y X V ws U Rm Pg Us f z y v o E C B c) (hP:aM w3 g r s (W/Pg) (cA fr q0 (f+1)) n') (t:Fr (aG g r F) w2 w3) (hn:∀k,aG g r s k->aG g r F k∨w2.heap.size<=k):
  ff w m S Pg W Rm (Us+1) (fun q=>mp q||q==q0) mp M (.int .i64 0) (.returned (.int .i64 0)) w3:=by
 have O:=fH Q P;have K:=fX R P;have ad:=H.size;have ah:=j.fr.size;have J:aM w2 g r F (W/Pg) fr n:=(R.frame H (fun _ _ h=>h)).frame j.fr (fun k i e=>cM Q R e i);have L:=(P.frame H (fun h=>h)).frame j.fr O;have N:=j.pool.frame t (fun k i e=>cM j.pool J i e);have D:∀q d,fr q=d+1->d≠f:=fun q d h e=>j.was (by rw [<-e];exact T q d h)
 refine ⟨rfl,fun k=>k=m∨bq p z y v k∨aG g r s k,B,fun a=>if a/Pg=q0 then o.getD (f*Pg+a% Pg) 0 else M a,⟨p,z,y,v,o,E,C,c,g,r,s,cA fr q0 (f+1),n',L.frame t K,N,hP,q4,?_,?_,?_,?_,?_,fun k=>Iff.rfl⟩,?_,?_,?_⟩
 ·intro q d h;unfold cA at h;by_cases e:q=q0
  ·rw [if_pos e] at h;have:d=f:=by omega
   rw [this];exact j.now
  ·rw [if_neg e] at h;exact (j.old d (T q d h)).1
 ·intro q A h u;unfold cA at h u;by_cases e:q=q0<;>by_cases I:A=q0
  ·omega
  ·rw [if_pos e,if_neg I] at h;exact absurd rfl (D A f h.symm)
  ·rw [if_neg e,if_pos I] at h;exact absurd rfl (D q f h)
  ·rw [if_neg e,if_neg I] at h;rw [if_neg e] at u;exact q6 q A h u
 ·have:=fT (fr:=fr) (p:=q0) (x:=f+1) (a:=0) (b:=W/Pg) (Nat.zero_le _) hq;rw [if_pos Z,if_neg (by omega)] at this;omega
 ·intro q;show (mp q||q==q0)=_
  rw [q8];unfold bF cA;by_cases e:q=q0
  ·subst e;simp
  ·simp [e]
 ·intro a d ha h;unfold cA at h;show (if a/Pg=q0 then o.getD (f*Pg+a% Pg) 0 else M a)=_
  by_cases e:a/Pg=q0
  ·rw [if_pos e] at h ⊢;have:d=f:=by omega
   rw [this]
  ·rw [if_neg e] at h ⊢;rw [q9 a d ha h];exact ((j.old d (T _ d h)).2 (a% Pg) (Nat.mod_lt _ Q.page1)).symm
 ·intro a ha G _;show (if a/Pg=q0 then o.getD (f*Pg+a% Pg) 0 else M a)=M a
  rw [if_neg];intro e;rw [q8,e] at G;unfold bF at G;rw [Z] at G
  cases G
 ·exact ((H.mono (S':=S) (fun _ h=>h.elim)).trans j.fr (fun k i=> .inl ((l k).2 (.inr (.inl i))))).trans t (fun k i=> .inl ((l k).2 (.inr (.inr i))))
 ·rintro k (i|i|i)
  ·exact .inl ((l k).2 (.inl i))
  ·rcases j.own k i with h|h
   ·exact .inl ((l k).2 (.inr (.inl h)))
   ·exact .inr (by omega)
  ·rcases hn k i with h|h
   ·exact .inl ((l k).2 (.inr (.inr h)))
   ·exact .inr (by omega)
theorem xB (h:bn w m S Pg W Rm Us Hg mp M) (q:Nat) (P:q<W/Pg) (H:mp q=false) (hr:Us<Rm):Calls Tryz.prog 211 #[m,.int .i64 q] w (ff w m S Pg W Rm (Us+1) (fun k=>mp k||k==q) mp M (.int .i64 0)):=by
 have HN:=ae (bT h);obtain ⟨p,vw,vt,vb,ws,tk,bk,Tm,g,R,X,fr,n,A,B,N,q4,q5,q6,q7,V,q9,L⟩:=id h;have O:fr q=0:=by
  rw [V] at H;unfold bF at H;rw [bne_eq_false_iff_eq] at H;exact H
 have J:=fH B A;have c1:=A.cell 1 rfl;have Y:=ae (ou N q P O);have Z:=ae (fun w1 (y:Fr (fun _=>False) w w1)=>(af ((A.frame y (fun h=>h)).cell 0 rfl) (uM (B.frame y (fun _ _ h=>h)) hr)));have u:∀w1 w2 f l j i o d c b a,Fr (fun _=>False) w w1->jA w1 w2 p vw vt vb ws tk Rm Pg Us f l j i o d c b a->w2.cell? ⟨m,1,none⟩=some (.pointer (some ⟨g,0,none⟩))∧Calls Tryz.prog 253 #[g,.int .i64 q,.int .i64 f] w2 (dE w2 g R X (W/Pg) fr q (f+1) (.int .i64 0)):=by
  intro w1 w2 f l j i o d c b a y z;have T:aM w2 g R X (W/Pg) fr n:=(N.frame y (fun _ _ h=>h)).frame z.fr (fun k hk e=>cM B N e hk);have U:=(A.frame y (fun h=>h)).frame z.fr J;have ad:=(List.getElem?_eq_some_iff.1 z.now).1;have:=z.pool.most;have:=B.room1;exact ⟨U.cell 1 rfl,xV T q f P (by omega) O⟩
 have s:=ae u;have t:∀w1 w2 f l j i o d c b a e w3,Fr (fun _=>False) w w1->jA w1 w2 p vw vt vb ws tk Rm Pg Us f l j i o d c b a->dE w2 g R X (W/Pg) fr q (f+1) (.int .i64 0) e w3->e= .returned (.int .i64 0)∧ff w m S Pg W Rm (Us+1) (fun k=>mp k||k==q) mp M (.int .i64 0) (.returned (.int .i64 0)) w3:=by
  rintro w1 w2 f l j i o d c b a e w3 y z ⟨rfl,ah,n',r1,r2,r3⟩;exact ⟨rfl,qe A B N q4 q5 q6 q7 V q9 L P O y z r1 r2 r3⟩
 have r:=ae t;generalize ff w m S Pg W Rm (Us+1) (fun k=>mp k||k==q) mp M (.int .i64 0)=Q at*;clear h A B N q4 q5 q6 q7 V q9 L J u t H P O
 go_enter Tryz.func211,Tryz.ntmps211
 go_wp2_with fail
 refine (HN.out).mono ?_;rintro e w' ⟨rfl,rfl⟩;go_wp2_with fail
 refine (Y.out).mono ?_;rintro e w1 ⟨rfl,x⟩;obtain ⟨c0,G⟩:=Z.out w1 x;have F:=ae G;have D:=ae x;clear x G Z Y c1;go_wp2_with fail
 refine (F.out).mono ?_;rintro e w2 ⟨f,l,j,i,o,d,c,b,a,rfl,v⟩;obtain ⟨c1,I⟩:=s.out w1 w2 f l j i o d c b a D.out v;have E:=ae I;have C:=ae (fun e w3=>r.out w1 w2 f l j i o d c b a e w3 D.out v);clear I v s r F c0;go_wp2_with fail
 refine (E.out).mono ?_;intro e w3 hs;obtain ⟨rfl,K⟩:=C.out e w3 hs;have HQ:=ae K;clear hs K C E;go_wp2;exact HQ.out
theorem xA (h:bn w m S Pg W Rm Us Hg mp M) (q:Nat) (i:q<W/Pg) (b:mp q=true):Calls Tryz.prog 211 #[m,.int .i64 q] w fun e w'=>e= .returned (.int .i64 13)∧Fr (fun _=>False) w w':=by
 have r:=ae (bT h);obtain ⟨p,G,F,E,ws,C,A,z,g,B,D,fr,n,j,s,k,t,u,v,x,l,y,d⟩:=id h;rw [l] at b;unfold bF at b;obtain ⟨f,hf⟩:∃f,fr q=f+1:=⟨fr q-1,by rw [bne_iff_ne] at b;omega⟩;have c1:=j.cell 1 rfl;have o:=ae (fG k q f i hf);clear h j s k t u v x l y d b i hf
 go_enter Tryz.func211,Tryz.ntmps211
 go_wp2_with fail
 refine (r.out).mono ?_;rintro e w' ⟨rfl,rfl⟩;go_wp2_with fail
 refine (o.out).mono ?_;rintro e w1 ⟨rfl,a⟩;have c:=ae a;clear a;go_wp2;go_ret;exact ⟨rfl,c.out⟩
theorem mu {p g r f q0:Nat} {u t A o:Value} {ws:List Nat} {y:List Bool} {C:List Nat} {B n O:Int} {z l:List (Option Nat)} {fr:Nat->Nat} {w2 w3:World}
  (J:aj w m [.pointer (some ⟨p,0,none⟩),.pointer (some ⟨g,0,none⟩),.int .i64 W] 219) (K:ba w p u t A ws y C Rm Pg Us Hg B) (P:aM w g r z (W/Pg) fr n) (q4:W% Pg=0∧W<=524288∧1<=W) (q5:∀q f,fr q=f+1->y[f]? =some true) (Q:∀q v,fr q=fr v->fr q≠0->q=v) (q7:Us=cnt (bF fr) 0 (W/Pg)) (q8:∀q,mp q=bF fr q)
  (q9:∀a f,a<W->fr (a/Pg)=f+1->M a=ws.getD (f*Pg+a% Pg) 0) (d:∀k,S k↔(k=m∨bq p u t A k∨aG g r z k)) (X:q0<W/Pg) (h0:fr q0=f+1)
  (N:aM w2 g r l (W/Pg) (cA fr q0 0) O) (j:Fr (aG g r z) w w2) (V:∀k,aG g r l k->aG g r z k∨w.heap.size<=k)
  (T:ba w3 p u t o ws (y.set f false) (C++[f]) Rm Pg (Us-1) Hg B) (s:Fr (bq p u t A) w2 w3) (Y:∀g,o.ownBlock=some g->A.ownBlock=some g∨w2.heap.size<=g):
  ff w m S Pg W Rm (Us-1) (fun q=>mp q&& !(q==q0)) mp M (.int .i64 0) (.returned (.int .i64 0)) w3:=by
 have I:=fH K J;have F:=fX P J;have Z:=j.size;have H:=K.frame j (fun k c e=>cM K P c e);have G:=J.frame j F;have E:=N.frame s (fun k c e=>cM H N e c);refine ⟨rfl,fun k=>k=m∨bq p u t o k∨aG g r l k,Hg,M,⟨p,u,t,o,ws,y.set f false,C++[f],B,g,r,l,cA fr q0 0,O,G.frame s I,T,E,q4,?_,?_,?_,?_,?_,fun k=>Iff.rfl⟩,fun _ _ _ _=>rfl,?_,?_⟩
 ·intro q D h;unfold cA at h;by_cases e:q=q0
  ·rw [if_pos e] at h;cases h
  ·rw [if_neg e] at h;rw [List.getElem?_set,if_neg (fun R=>e (by subst R;exact Q q q0 (by omega) (by omega)))];exact q5 q D h
 ·intro q v h i;unfold cA at h i;by_cases e:q=q0
  ·rw [if_pos e] at i;exact absurd rfl i
  ·rw [if_neg e] at h i;by_cases L:v=q0
   ·rw [if_pos L] at h;exact absurd h i
   ·rw [if_neg L] at h;exact Q q v h i
 ·have:=fT (fr:=fr) (p:=q0) (x:=0) (a:=0) (b:=W/Pg) (Nat.zero_le _) X;rw [if_neg (by omega),if_pos rfl] at this;omega
 ·intro q;show (mp q&& !(q==q0))=_
  rw [q8];unfold bF cA;by_cases e:q=q0
  ·subst e;simp
  ·simp [e]
 ·intro a D U h;unfold cA at h;by_cases e:a/Pg=q0
  ·rw [if_pos e] at h;cases h
  ·rw [if_neg e] at h;exact q9 a D U h
 ·exact (j.mono (S':=S) (fun k c=> .inl ((d k).2 (.inr (.inr c))))).trans s (fun k c=> .inl ((d k).2 (.inr (.inl c))))
 ·rintro k (c|c|c)
  ·exact .inl ((d k).2 (.inl c))
  ·rcases c with c|c|c|c
   ·exact .inl ((d k).2 (.inr (.inl (.inl c))))
   ·exact .inl ((d k).2 (.inr (.inl (.inr (.inl c)))))
   ·exact .inl ((d k).2 (.inr (.inl (.inr (.inr (.inl c))))))
   ·rcases Y k c with h|h
    ·exact .inl ((d k).2 (.inr (.inl (.inr (.inr (.inr h))))))
    ·exact .inr (by omega)
  ·rcases V k c with h|h
   ·exact .inl ((d k).2 (.inr (.inr h)))
   ·exact .inr h
theorem fW (h:bn w m S Pg W Rm Us Hg mp M) (q:Nat) (u:q<W/Pg) (t:mp q=true):Calls Tryz.prog 149 #[m,.int .i64 q] w (ff w m S Pg W Rm (Us-1) (fun k=>mp k&& !(k==q)) mp M (.int .i64 0)):=by
 have J:=ae (bT h);obtain ⟨p,vw,vt,vb,ws,tk,bk,Z,g,L,V,fr,n,o,v,s,F,y,G,H,z,I,r⟩:=id h;rw [z] at t;unfold bF at t;obtain ⟨f,hf⟩:∃f,fr q=f+1:=⟨fr q-1,by rw [bne_iff_ne] at t;omega⟩;have E:1<=Us:=by
  have:=fT (fr:=fr) (p:=q) (x:=0) (a:=0) (b:=W/Pg) (Nat.zero_le _) u;rw [if_neg (by omega),if_pos rfl] at this;omega
 have j:=fX s o;have c1:=o.cell 1 rfl;have B:=ae (vI s q f u hf);have c:∀e w2,dE w g L V (W/Pg) fr q 0 (.tuple #[.int .i64 f,.int .i64 0]) e w2->e= .returned (.tuple #[.int .i64 f,.int .i64 0])∧w2.cell? ⟨m,0,none⟩=some (.pointer (some ⟨p,0,none⟩))∧Calls Tryz.prog 214 #[p,.int .i64 f] w2 (fun e w3=>e= .returned (.int .i64 0)∧ff w m S Pg W Rm (Us-1) (fun k=>mp k&& !(k==q)) mp M (.int .i64 0) (.returned (.int .i64 0)) w3):=by
  rintro e w2 ⟨rfl,X,n',O,A,P⟩;refine ⟨rfl,(o.frame A j).cell 0 rfl,(uG (v.frame A (fun k N e=>cM v s N e)) f (y q f hf) E).mono ?_⟩;rintro e w3 ⟨rfl,Y,R,T,U⟩;exact ⟨rfl,mu o v s F y G H z I r u hf O A P R T U⟩
 have C:=ae c;generalize ff w m S Pg W Rm (Us-1) (fun k=>mp k&& !(k==q)) mp M (.int .i64 0)=Q at*;clear h o v s F y G H z I r j c t u hf E
 go_enter Tryz.func149,Tryz.ntmps149
 go_wp2_with fail
 refine (J.out).mono ?_;rintro e w' ⟨rfl,rfl⟩;go_wp2_with fail
 refine (B.out).mono ?_;intro e w2 D;obtain ⟨rfl,c0,i⟩:=C.out e w2 D;have d:=ae i;clear D i C B c1;go_wp2_with fail
 refine (d.out).mono ?_;rintro e w3 ⟨rfl,l⟩;have K:=ae l;clear l d;go_wp2;exact K.out
end
end Go.Proofs.YthahbijbpinneaaGreatDoor
