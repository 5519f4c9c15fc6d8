import Derived.Test.YthahbijbpinneaaGreatDoorA0
import Derived.Test.YthahbijbpinneaaGreatDoorA2
import Derived.Lib.Hide
set_option maxRecDepth 100000
set_option maxHeartbeats 8000000
set_option linter.all false
namespace Go.Proofs.YthahbijbpinneaaGreatDoor
open Go.RowKit
theorem dQ:(Tryz.prog.info? 3).map (fun i=>(i.zero,i.size,i.bytes))=some (some (.int .i64 0),1,8):=by kernel_rfl
def lZ (w:World) (T:TypeId) (b:Nat) (v:Value) (xs:List Int) (Rm Hg:Int) (lost:Bool):Prop:=
 aj w b [v,.int .i64 Rm,.int .i64 Hg,.bool lost] T∧w.ownsRow 0 3 1 v xs.length (xs.map (.int .i64))∧v.ownBlock≠some b
theorem cj {w:World} {e:TypeId} {v:Value} {n:Nat} {xs:List Value} (h:w.ownsRow 0 e 1 v n xs):∃p cap,v= .slice p n cap:=by
 rcases h.2 with ⟨rfl,rfl⟩|⟨g,cap,cur,rfl,_⟩
 ·exact ⟨_,_,rfl⟩
 ·exact ⟨_,_,rfl⟩
theorem y4 (Rm:Int) (w:World) (a:1<=Rm) (b:Rm<=4096):
  Calls Tryz.prog 137 #[.int .i64 Rm] w fun e w'=>e= .returned (.tuple #[.pointer (some ⟨w.heap.size,0,none⟩),.int .i64 0])∧w'=w.alloc (.cells #[.slice none 0 0,.int .i64 Rm,.int .i64 0,.bool false] 291):=by
 go_enter Tryz.func137,Tryz.ntmps137
 go_wp2;go_ret2;exact ⟨rfl,rfl⟩
theorem tq (b:Nat) (v:Value) (xs:List Int) (Rm Hg a:Int) (lost:Bool) (w:World) (h:lZ w 291 b v xs Rm Hg lost) (m:Rm<=xs.length):
  Calls Tryz.prog 249 #[b,.int .i64 a] w fun e w'=>e= .returned (.bool false)∧lZ w' 291 b v xs Rm Hg true∧Fr (fun k=>k=b) w w':=by
 obtain ⟨c,f,d⟩:=h;obtain ⟨p,cap,rfl⟩:=cj f;have i:=c.cell 0 rfl;have c1:=c.cell 1 rfl;have j:=c.cell 3 rfl;have l:=c.free 3
 go_enter Tryz.func249,Tryz.ntmps249
 go_wp2
 go_quiet (fail)
 go_wp2;go_ret;have hf:Fr (fun k=>k=b) w ((w.drewN nq).setCell ⟨b,3,none⟩ (.bool true)):=((Fr.refl (fun k=>k=b) w).drewN _).setCell _ (.inl rfl) _;exact ⟨rfl,⟨(c.drewN nq).set 3 _,an f hf (fun k g e=>d (by rw [g,e])),d⟩,hf⟩
theorem tt (b:Nat) (v:Value) (xs:List Int) (Rm Hg a:Int) (lost:Bool) (w:World) (h:lZ w 291 b v xs Rm Hg lost) (L:xs.length<Rm) (K:Rm<=4096):
  Calls Tryz.prog 249 #[b,.int .i64 a] w fun e w'=>e= .returned (.bool true)∧∃C,lZ w' 291 b C (xs++[a]) Rm (max Hg (xs.length+1)) lost∧
   Fr (fun k=>k=b∨v.ownBlock=some k) w w'∧(∀k,C.ownBlock=some k->v.ownBlock=some k∨w.heap.size<=k):=by
 obtain ⟨o,B,n⟩:=h;obtain ⟨p,cap,rfl⟩:=cj B;obtain ⟨E,s,y,z,A⟩:=info_parts dQ;have F:=o.cell 0 rfl;have c1:=o.cell 1 rfl;have D:=o.lt
 go_enter Tryz.func249,Tryz.ntmps249
 go_wp2
 go_quiet (fail)
 go_wp2_with (at_builtin;refine Hid.out ?_)
 unfold Hid;have f:Fr (fun _=>False) w (((w.alloc (.cells #[.int .i64 a] 3))).drewN nq):=((Fr.refl (fun _=>False) w).alloc _).drewN nq;refine bL rfl _ _ 123 rfl 3 E (.int .i64 0) 8 Tryz.underlying123 s y z A rfl (.slice p xs.length cap) xs.length (xs.map (.int .i64)) rfl (an B f (fun _ _ h=>h)) ⟨w.heap.size,0,none⟩ _ (.int .i64 a) rfl (((aj.new w [.int .i64 a] 3).drewN nq).cell 0 rfl) rfl (by unfold maxLen;omega) (by omega) ?_;intro g c w1 t j l;have d:=(o.frame f (fun h=>h)).frame j n;have G:=d.cell 0 rfl;have H:=d.cell 2 rfl;have I:=d.free 0;have J:=d.free 2;go_wp2;refine jl 13 (by kernel_rfl) (by kernel_rfl) ?_;simp only [List.take_succ_cons,List.take_zero,List.drop_succ_cons,List.drop_zero]
 repeat still_step
 refine wpStill_nil ?_;go_wp2
 all_goals
  go_ret;have r:∀x,Fr (fun k=>k=b∨(Value.slice p xs.length cap).ownBlock=some k) w (((w1.setCell ⟨b,0,none⟩ (.slice (some ⟨g,0,none⟩) (xs.length+1) c)).setCell ⟨b,2,none⟩ (.int .i64 x)).drew):=fun x=>
   ((((f.mono (fun _ h=>h.elim)).trans j (fun i s=> .inl (.inr s))).setCell ⟨b,0,none⟩ (.inl (.inl rfl)) _).setCell ⟨b,2,none⟩ (.inl (.inl rfl)) _).drew
  have m:g≠b:=by
   rcases l with h|h
   ·intro e;exact n (by rw [h,e])
   ·intro e;simp at h;omega
  have u:∀x,(((w1.setCell ⟨b,0,none⟩ (.slice (some ⟨g,0,none⟩) (xs.length+1) c)).setCell ⟨b,2,none⟩ (.int .i64 x)).drew).ownsRow 0 3 1 (.slice (some ⟨g,0,none⟩) (xs.length+1) c) (xs++[a]).length ((xs++[a]).map (.int .i64)):=fun x=>by
   have hf:Fr (fun k=>k=b) w1 (((w1.setCell ⟨b,0,none⟩ (.slice (some ⟨g,0,none⟩) (xs.length+1) c)).setCell ⟨b,2,none⟩ (.int .i64 x)).drew):=
    (((Fr.refl (fun k=>k=b) w1).setCell ⟨b,0,none⟩ (.inl rfl) _).setCell ⟨b,2,none⟩ (.inl rfl) _).drew
   have:=an t hf (fun k q e=>m (by simp [Value.ownBlock] at q;omega))
   simpa using this
  refine ⟨rfl,.slice (some ⟨g,0,none⟩) (xs.length+1) c,⟨?_,u _,by simp [Value.ownBlock,m]⟩,r _,?_⟩
  ·have:=((d.set 0 (.slice (some ⟨g,0,none⟩) (xs.length+1) c)).set 2 (.int .i64 (max Hg (xs.length+1)))).drew
   first
    |exact this
    |(rw [show max Hg ((xs.length:Int)+1)=(xs.length:Int)+1 by omega] at this ⊢;exact this)
    |(rw [show max Hg ((xs.length:Int)+1)=Hg by omega] at this ⊢;exact this)
  ·intro k q;simp only [Value.ownBlock,Option.some.injEq] at q;subst q;rcases l with h|h
   ·exact .inl h
   ·exact .inr (by simp at h;omega)
theorem oa (b:Nat) (v:Value) (xs:List Int) (Rm Hg:Int) (lost:Bool) (w:World) (h:lZ w 291 b v xs Rm Hg lost):
  Calls Tryz.prog 276 #[b] w fun e w'=>e= .returned (.int .i64 xs.length)∧w=w':=by
 obtain ⟨a,d,c⟩:=h;obtain ⟨p,cap,rfl⟩:=cj d;have f:=a.cell 0 rfl
 go_enter Tryz.func276,Tryz.ntmps276
 go_wp2;go_ret;exact ⟨rfl,rfl⟩
theorem zO (b:Nat) (v:Value) (xs:List Int) (Rm Hg:Int) (lost:Bool) (w:World) (h:lZ w 291 b v xs Rm Hg lost) (m:Int) (a:(xs.length:Int)=m):
  Calls Tryz.prog 276 #[b] w fun e w'=>e= .returned (.int .i64 m)∧w=w':=by
 subst a;exact oa b v xs Rm Hg lost w h
theorem sO (b:Nat) (v:Value) (xs:List Int) (Rm Hg:Int) (lost:Bool) (w:World) (h:lZ w 291 b v xs Rm Hg lost):
  Calls Tryz.prog 205 #[b] w fun e w'=>e= .returned (.bool lost)∧w=w':=by
 obtain ⟨a,f,c⟩:=h;have d:=a.cell 3 rfl
 go_enter Tryz.func205,Tryz.ntmps205
 go_wp2;go_ret;exact ⟨rfl,rfl⟩
theorem pG (b:Nat) (v:Value) (xs:List Int) (Rm Hg:Int) (lost:Bool) (w:World) (h:lZ w 291 b v xs Rm Hg lost):
  Calls Tryz.prog 206 #[b] w fun e w'=>e= .returned (.tuple #[])∧lZ w' 291 b v xs Rm Hg false∧Fr (fun k=>k=b) w w':=by
 obtain ⟨c,f,a⟩:=h;have g:=c.cell 3 rfl;have i:=c.free 3
 go_enter Tryz.func206,Tryz.ntmps206
 go_wp2;go_end0;have hf:Fr (fun k=>k=b) w (w.setCell ⟨b,3,none⟩ (.bool false)):=(Fr.refl (fun k=>k=b) w).setCell _ (.inl rfl) _;exact ⟨rfl,⟨c.set 3 _,an f hf (fun k d e=>a (by rw [d,e])),a⟩,hf⟩
theorem vL (b:Nat) (v:Value) (Rm Hg:Int) (lost:Bool) (w:World) (h:lZ w 291 b v [] Rm Hg lost):
  Calls Tryz.prog 250 #[b] w fun e w'=>e= .returned (.tuple #[.int .i64 0,.bool false])∧w=w':=by
 go_enter Tryz.func250,Tryz.ntmps250
 go_wp2_with (go_at_call 276;refine (oa b v [] Rm Hg lost _ h).mono ?_;rintro e w' ⟨rfl,rfl⟩)
 go_ret2;exact ⟨rfl,rfl⟩
theorem eQ {w:World} {e:TypeId} {g n cap:Nat} {xs:List Value} {x:Value} (h:w.ownsRow 0 e 1 (.slice (some ⟨g,0,none⟩) (n+1) cap) (n+1) (xs++[x])):
  w.ownsRow 0 e 1 (.slice (some ⟨g,0,none⟩) n cap) n xs∧w.cell? ⟨g,n,none⟩=some x:=by
 have j:=h.1;have b:xs.length=n:=by simpa using j
 rcases h.2 with ⟨h,_⟩|⟨g',f,cur,m,i,hg,k,d,c,a⟩
 ·cases h
 ·cases m
  simp only [Nat.mul_one] at a c;refine ⟨⟨by simp [b],.inr ⟨g,cap,cur,rfl,i,hg,by omega,d,by simpa using c,?_⟩⟩,?_⟩
  ·have:=congrArg (List.take n) a;rw [List.take_take,show min n (n+1)=n by omega,List.take_left' b] at this
   simpa using this
  ·rw [cell_of_row w g n cur e (0,0) hg];have:=congrArg (fun l=>l[n]?) a;rw [<-b] at this ⊢
   simpa using this
theorem vM (b:Nat) (v:Value) (xs:List Int) (x Rm Hg:Int) (lost:Bool) (w:World) (h:lZ w 291 b v (xs++[x]) Rm Hg lost) (z:xs.length<4096):
  Calls Tryz.prog 250 #[b] w fun e w'=>e= .returned (.tuple #[.int .i64 x,.bool true])∧∃m,lZ w' 291 b m xs Rm Hg lost∧
   Fr (fun k=>k=b) w w'∧m.ownBlock=v.ownBlock:=by
 have n:=h;obtain ⟨d,c,a⟩:=h;simp only [List.length_append,List.length_cons,List.length_nil,List.map_append,List.map_cons,List.map_nil,Nat.zero_add] at c;obtain ⟨g,cap,rfl⟩:∃g cap,v= .slice (some ⟨g,0,none⟩) (xs.length+1) cap:=by
  rcases c.2 with ⟨_,h⟩|⟨g,cap,cur,rfl,_⟩
  ·omega
  ·exact ⟨_,_,rfl⟩
 have i:xs.length+1<=cap∧cap<=maxLen:=by
  rcases c.2 with ⟨h,_⟩|⟨g',l,cur,s,_,_,o,p,_⟩
  ·cases h
  ·cases s;exact ⟨o,p⟩
 obtain ⟨q,f⟩:=i;unfold maxLen at f;obtain ⟨j,u⟩:=eQ c;have t:=d.cell 0 rfl;have y:=d.free 0;have hp:0<=(xs.length:Int):=by omega
 have A:((((xs.length:Int)+1)==0)=false):=by rw [beq_eq_false_iff_ne];omega
 go_enter Tryz.func250,Tryz.ntmps250
 go_wp2_with (go_at_call 276;refine (zO b _ _ Rm Hg lost _ n ((xs.length:Int)+1) (by simp)).mono ?_;rintro e w' ⟨rfl,rfl⟩)
 go_ret2;refine ⟨rfl,.slice (some ⟨g,0,none⟩) xs.length cap,⟨d.set 0 _,?_,a⟩,(Fr.refl (fun k=>k=b) w).setCell ⟨b,0,none⟩ (.inl rfl) _,rfl⟩;exact an j ((Fr.refl (fun k=>k=b) w).setCell ⟨b,0,none⟩ (.inl rfl) _) (fun k r e=>a (by subst e;exact r))
section
open Go.RowKit Go.Shelf
structure bQ (w:World) (x b gb:Nat) (v:Value) (n k i:Nat) (f:Nat->Bool):Prop where
 blk:aj w x [.pointer (some ⟨b,0,none⟩),v,.int .i64 k,.int .i64 ((cnt f 0 (min (i*k) n):Nat):Int)] 355
 vec:∃ws,aW w b gb n ws∧∀j,aw ws j=f j
 row:w.ownsRow 0 3 1 v i ((List.range i).map fun j=> .int .i64 ((cnt f 0 (j*k):Nat):Int))
 d1:v.ownBlock≠some x
 d2:v.ownBlock≠some b
 d3:v.ownBlock≠some gb
 d4:x≠b
 d5:x≠gb
def bQ.from (lo x b gb:Nat) (v:Value):Prop:=lo<=x∧lo<=b∧lo<=gb∧∀g,v.ownBlock=some g->lo<=g
theorem bQ.frame {S:Nat->Prop} {w w':World} {x b gb n k i:Nat} {v:Value} {f:Nat->Bool} (h:bQ w x b gb v n k i f) (hf:Fr S w w') (a:¬S x) (c:¬S b) (d:¬S gb) (e:∀g,v.ownBlock=some g->¬S g):bQ w' x b gb v n k i f:=
 ⟨h.blk.frame hf a,let ⟨ws,j,l⟩:=h.vec;⟨ws,j.frame hf c d,l⟩,an h.row hf e,h.d1,h.d2,h.d3,h.d4,h.d5⟩
theorem vS {w w1 w2:World} {x b gb g cap n k i lo:Nat} {v:Value} {f:Nat->Bool} (h:bQ w x b gb v n k i f) (m:bQ.from lo x b gb v) (F:lo<=w.heap.size) (t:i*k<=n)
  (a:Fr (fun _=>False) w w1) (G:w2.ownsRow 0 3 1 (.slice (some ⟨g,0,none⟩) (i+1) cap) (i+1) (((List.range i).map fun j=>Value.int .i64 ((cnt f 0 (j*k):Nat):Int))++[.int .i64 ((cnt f 0 (min (i*k) n):Nat):Int)]))
  (l:Fr (fun k=>v.ownBlock=some k) w1 w2) (hg:v.ownBlock=some g∨w1.heap.size<=g):
  (∃u,w2.cell? ⟨x,1,none⟩=some u)∧w2.frozen? ⟨x,1,none⟩=false∧∀W,W=w2.setCell ⟨x,1,none⟩ (.slice (some ⟨g,0,none⟩) (i+1) cap)->
   bQ.from lo x b gb (.slice (some ⟨g,0,none⟩) (i+1) cap)∧Fr (fun k=>lo<=k) w W∧
   aj W x [.pointer (some ⟨b,0,none⟩),.slice (some ⟨g,0,none⟩) (i+1) cap,.int .i64 k,.int .i64 ((cnt f 0 (min (i*k) n):Nat):Int)] 355∧
   (∃ws,aW W b gb n ws∧∀j,aw ws j=f j)∧W.ownsRow 0 3 1 (.slice (some ⟨g,0,none⟩) (i+1) cap) (i+1) ((List.range (i+1)).map fun j=> .int .i64 ((cnt f 0 (j*k):Nat):Int))∧g≠x∧g≠b∧g≠gb:=by
 obtain ⟨A,I,J,B⟩:=m;have q:=h.blk.frame a (fun h=>h);have c:=q.frame l h.d1;obtain ⟨ws,y,d⟩:=h.vec;have z:=(y.frame a (fun h=>h) (fun h=>h)).frame l h.d2 h.d3;have H:=a.size;have K:=h.blk.lt;have C:=y.blt;have D:=y.glt;have E:lo<=g:=by
  rcases hg with hg|hg
  ·exact B g hg
  ·omega
 have s:g≠x∧g≠b∧g≠gb:=by
  rcases hg with hg|hg
  ·exact ⟨fun e=>h.d1 (by rw [hg,e]),fun e=>h.d2 (by rw [hg,e]),fun e=>h.d3 (by rw [hg,e])⟩
  ·exact ⟨by omega,by omega,by omega⟩
 refine ⟨⟨_,c.cell 1 rfl⟩,c.free 1,?_⟩;rintro W rfl;have o:Fr (fun k=>k=x) w2 (w2.setCell ⟨x,1,none⟩ (.slice (some ⟨g,0,none⟩) (i+1) cap)):=(Fr.refl (fun k=>k=x) w2).setCell ⟨x,1,none⟩ (.inl rfl) _;refine ⟨⟨A,I,J,fun g' r=>by simp only [Value.ownBlock,Option.some.injEq] at r;omega⟩,?_,c.set 1 _,⟨ws,z.frame o (fun e=>h.d4 e.symm) (fun e=>h.d5 e.symm),d⟩,?_,s⟩
 ·exact ((a.mono (S':=fun k=>lo<=k) (fun _ h=>h.elim)).trans l (fun k p=> .inl (B k p))).trans o (fun k p=> .inl (by rw [p];exact A))
 ·have:=an G o (fun k p e=>by simp only [Value.ownBlock,Option.some.injEq] at p;omega);rw [List.range_succ,List.map_append];rw [Nat.min_eq_left t] at this;exact this
theorem qr {w w1 W:World} {b gb n k:Nat} {f:Nat->Bool} {ws:List Nat} (hf:Fr (fun _=>False) w w1) (c:aW w1 b gb n ws) (a:∀j,aw ws j=f j) (d:w.heap.size<=b) (e:w.heap.size<=gb) (i:W=w1.alloc (.cells #[.pointer (some ⟨b,0,none⟩),.slice none 0 0,.int .i64 k,.int .i64 0] 355)):
  bQ W w1.heap.size b gb (.slice none 0 0) n k 0 f∧bQ.from w.heap.size w1.heap.size b gb (.slice none 0 0)∧Fr (fun j=>w.heap.size<=j) w W:=by
 subst i;have:=c.blt;have:=c.glt;refine ⟨⟨?_,⟨ws,c.frame (S:=fun _=>False) ((Fr.refl _ w1).alloc _) (fun h=>h) (fun h=>h),a⟩,World.ownsRow_nil _ _ _ _,by simp [Value.ownBlock],by simp [Value.ownBlock],by simp [Value.ownBlock],by omega,by omega⟩,⟨hf.size,d,e,fun g h=>by simp [Value.ownBlock] at h⟩,(hf.alloc _).mono (fun _ h=>h.elim)⟩;rw [Nat.zero_mul,bG f (by omega)];exact aj.new w1 _ _
theorem iT {w w1 W:World} {x b gb g n k i lo F N C:Nat} {cap:Nat} {f:Nat->Bool} (p:F=i*k) (q:F<=n) (r:N=cnt f 0 F) (o:C=cnt f F (min (F+k) n)) (t:aj w x [.pointer (some ⟨b,0,none⟩),.slice (some ⟨g,0,none⟩) (i+1) cap,.int .i64 k,.int .i64 N] 355)
  (z:∃ws,aW w b gb n ws∧∀j,aw ws j=f j) (y:w.ownsRow 0 3 1 (.slice (some ⟨g,0,none⟩) (i+1) cap) (i+1) ((List.range (i+1)).map fun j=> .int .i64 ((cnt f 0 (j*k):Nat):Int))) (hg:g≠x∧g≠b∧g≠gb) (c:x≠b) (d:x≠gb) (m:lo<=x) (D:lo<=w.heap.size)
  (hf:Fr (fun _=>False) w w1) (s:W=w1.setCell ⟨x,3,none⟩ (.int .i64 ((N:Int)+(C:Int)))):bQ W x b gb (.slice (some ⟨g,0,none⟩) (i+1) cap) n k (i+1) f∧Fr (fun j=>lo<=j) w W:=by
 subst s;have l:=t.frame hf (fun h=>h);obtain ⟨ws,A,B⟩:=z;have a:Fr (fun k=>k=x) w1 (w1.setCell ⟨x,3,none⟩ (.int .i64 ((N:Int)+(C:Int)))):=(Fr.refl (fun k=>k=x) w1).setCell ⟨x,3,none⟩ (.inl rfl) _;refine ⟨⟨?_,⟨ws,(A.frame hf (fun h=>h) (fun h=>h)).frame a (fun e=>c e.symm) (fun e=>d e.symm),B⟩,an (an y hf (fun _ _ h=>h)) a (fun k v e=>by simp only [Value.ownBlock,Option.some.injEq] at v;exact hg.1 (by omega)),
  by simp only [Value.ownBlock,ne_eq,Option.some.injEq];exact hg.1,by simp only [Value.ownBlock,ne_eq,Option.some.injEq];exact hg.2.1,by simp only [Value.ownBlock,ne_eq,Option.some.injEq];exact hg.2.2,c,d⟩,(hf.mono (S':=fun j=>lo<=j) (fun _ h=>h.elim)).trans a (fun i u=> .inl (by rw [u];exact m))⟩
 have:=l.set 3 (.int .i64 ((N:Int)+(C:Int)));have e:cnt f 0 (min ((i+1)*k) n)=N+C:=by
  rw [r,o,Nat.succ_mul,<-p,ay f (Nat.zero_le F) (show F<=min (F+k) n by omega)]
 rw [e];exact this
theorem ch (f:Nat->Bool) (a:Nat):cnt f 0 a<=a:=by have:=be f 0 a;omega
theorem xW {w:World} {b0 g0 n k:Nat} {ws:List Nat} (h:aW w b0 g0 n ws) (hk:aL (k:Int)=true) (cy:1<=k) (c0:k<=1024):Calls Tryz.prog 259 #[b0,.int .i64 k] w fun e w'=>∃x b gb v nb,e= .returned (.tuple #[.pointer (some ⟨x,0,none⟩),.int .i64 0])∧bQ w' x b gb v n k nb (aw ws)∧n<=nb*k∧(nb-1)*k<n∧1<=nb∧bQ.from w.heap.size x b gb v∧Fr (fun _=>False) w w':=by
 obtain ⟨i0,hi,a7,a8,a9⟩:=info_parts dQ;have bj:=ae (fun w' (hf:Fr (fun j=>w.heap.size<=j) w w')=>(fO (h.frame hf (by have:=h.blt;omega) (by have:=h.glt;omega))));have bb:=ae (fO h);have HP:=ae (eb (k:Int) (by omega) true hk);have HC:=ae (tL h);have c6:=h.small;have h1:=h.one;have cd:((n:Int)==0)=false:=by rw [beq_eq_false_iff_ne];omega
 have c5:(n:Int)<=1048576:=by omega
 have c2:(k:Int)<=1024:=by omega
 have cx:(1:Int)<=(k:Int):=by omega
 have b7:=ae (fun w' (hf:Fr (fun j=>w.heap.size<=j) w w') (F:Nat) (hF:F<=n)=>(kB (h.frame hf (by have:=h.blt;omega) (by have:=h.glt;omega)) (F:=F) (T:=min (F+k) n) (by omega) (by omega) ((F:Int)+(k:Int)) (by omega)));have bk:=ae (fun w1 W b gb cf hf hv aq h1 h2 O=>qr (w:=w) (w1:=w1) (W:=W) (b:=b) (gb:=gb) (n:=n) (k:=k) (f:=aw ws) (ws:=cf) hf hv aq h1 h2 O);have ck:=ae hk;generalize b4:aw ws=f at*;have HB:=ae (congrFun b4);have cc:decide ((1024:Int)<(k:Int))=false:=decide_eq_false (by omega);clear h hk b4
 go_enter Tryz.func259,Tryz.ntmps259
 go_wp2_with fail
 refine (bb.out).mono ?_;rintro e w' ⟨rfl,rfl⟩;go_wp2_with fail
 refine (HP.out _).mono ?_;rintro e w' ⟨rfl,rfl⟩;go_wp2_with fail
 refine (HC.out).mono ?_;rintro e w1 ⟨b,gb,rfl,hv,b2,b5,b3⟩;have am:=ae (fun W O=>bk.out w1 W b gb ws b3 hv HB.out b2 b5 O);clear hv b2 b5 b3 bk HC HP bb cd cc;go_wp2
 go_loopw [7] (fun p wr=>∃(F i:Nat) (v:Value),p= .int .i64 F∧F<n+k∧Hid (F=i*k∧(F-k<n)∧(1<=n->(i=0∨(i-1)*k<n))∧bQ wr w1.heap.size b gb v n k i f∧bQ.from w.heap.size w1.heap.size b gb v∧Fr (fun j=>w.heap.size<=j) w wr)) (fun p _=>(2*1048576-intOf p).toNat)
 case atStart=>exact ⟨0,0,_,rfl,by omega,by rw [Nat.zero_mul],by omega,fun _=> .inl rfl,am.out _ rfl⟩
 case round=>
  clear am;obtain ⟨F,i,v,rfl,cn,hr⟩:=hrel;have bd:=ae (bj.out wr hr.out.2.2.2.2.2);by_cases a0:F<n
  ·have b6:(F:Int)<(n:Int):=by omega
   have ap:=ae (fun w' hf=>b7.out w' hf F (by omega));generalize w1.heap.size=x at*;go_wp2_with fail
   refine (bd.out).mono ?_;rintro e w' ⟨rfl,rfl⟩;obtain ⟨b1,_,_,hR,P,ax⟩:=hr.out;obtain ⟨p,cap,rfl⟩:=cj hR.row;have cb:i*k<=n:=by omega
   have ct:i<=i*k:=Nat.le_mul_of_pos_right i (by omega);have c4:=ax.size;have V:=hR.frame (S:=fun _=>False) ((Fr.refl _ wr).drew) (fun h=>h) (fun h=>h) (fun h=>h) (fun _ _ h=>h);have Y:Fr (fun j=>w.heap.size<=j) w wr.drew:=ax.drew;obtain ⟨N,hN⟩:∃N,cnt f 0 (min (i*k) n)=N:=⟨_,rfl⟩;have cs:N<=1048576:=by have:=ch f (min (i*k) n);omega
   have cp:(N:Int)<=1048576:=by omega
   have c1:wr.drew.cell? ⟨x,1,none⟩=some (.slice p i cap):=V.blk.cell 1 rfl;have c3:wr.drew.cell? ⟨x,3,none⟩=some (.int .i64 N):=by rw [<-hN];exact V.blk.cell 3 rfl
   have e1:∀o,(wr.alloc o).drew.cell? ⟨x,1,none⟩=some (.slice p i cap):=fun o=>(hR.blk.alloc o).drew.cell 1 rfl
   have e3:∀o,(wr.alloc o).drew.cell? ⟨x,3,none⟩=some (.int .i64 N):=fun o=>by rw [<-hN];exact (hR.blk.alloc o).drew.cell 3 rfl
   have av:Fr (fun _=>False) wr.drew (wr.drew.alloc (.cells #[.int .i64 N] 3)):=(Fr.refl _ _).alloc _;have E:=an V.row av (fun _ _ h=>h);have D:(wr.drew.alloc (.cells #[.int .i64 N] 3)).cell? ⟨wr.heap.size,0,none⟩=some (.int .i64 N):=(aj.new wr.drew [.int .i64 N] 3).cell 0 rfl;have s:=ae (fun w2 g l ho B hg=>vS (w2:=w2) (g:=g) (cap:=l) V P Y.size cb av ho B hg);have H:=ae Y;have G:=ae (af P (af hR.d4 hR.d5));have r:=ae b1;rw [hN] at s;have HN:=ae hN;have ah:i+1<=maxLen:=by unfold maxLen;omega
   have X:(i+1)*8<=140737488355328:=by omega
   clear hr hR P ax V Y av hN b1;go_wp2;refine wp_region_any (by kernel_rfl) ?_;change wpAny _ _ _ _ _ _ _ (World.drew _);refine wpAny_take (i:=0) (v:= .pointer (some ⟨x,0,none⟩)) rfl (by kernel_rfl) (by kernel_rfl) (by kernel_rfl) (fun _ _ _ h=>h) (Or.inl ⟨by rfl,fun w=>by go_simp⟩) ?_;refine wpAny_take (i:=1) (v:= .pointer (some ⟨x,0,none⟩)) rfl (by kernel_rfl) (by kernel_rfl) (by kernel_rfl) (fun _ _ _ h=>h) (Or.inl ⟨by rfl,fun w=>by go_simp⟩) ?_;refine wpAny_take (i:=2) (v:= .pointer (some ⟨x,0,none⟩)) rfl (by kernel_rfl) (by kernel_rfl) (by kernel_rfl) (fun _ _ _ h=>h) (Or.inl ⟨by rfl,fun w=>by go_simp⟩) ?_;refine wpAny_take (i:=3) (v:= .pointer (some ⟨x,1,none⟩)) rfl (by kernel_rfl) (by kernel_rfl) (by kernel_rfl) (fun _ _ _ h=>h) (Or.inl ⟨by rfl,fun w=>by go_simp⟩) ?_;refine wpAny_take (i:=5) (v:= .pointer (some ⟨x,0,none⟩)) rfl (by kernel_rfl) (by kernel_rfl) (by kernel_rfl) (fun _ _ _ h=>h) (Or.inl ⟨by rfl,fun w=>by go_simp⟩) ?_;refine wpAny_take (i:=6) (v:= .pointer (some ⟨x,0,none⟩)) rfl (by kernel_rfl) (by kernel_rfl) (by kernel_rfl) (fun _ _ _ h=>h) (Or.inl ⟨by rfl,fun w=>by go_simp⟩) ?_;refine wpAny_take (i:=7) (v:= .pointer (some ⟨x,3,none⟩)) rfl (by kernel_rfl) (by kernel_rfl) (by kernel_rfl) (fun _ _ _ h=>h) (Or.inl ⟨by rfl,fun w=>by go_simp⟩) ?_;simp only [Act.put];refine wpAny_ready (rs:=[4,8]) (by kernel_rfl) (by simp) ?_;refine AllReady.cons rfl (fun K a=> ?_) (AllReady.cons rfl (fun K a=> ?_) AllReady.nil)
   ·go_simp;refine a _ _ ?_;clear a K;refine wpAny_ready (rs:=[8]) (by kernel_rfl) (by simp) ?_;refine AllReady.cons rfl (fun K a=> ?_) AllReady.nil;go_simp;refine a _ _ ?_;clear a K;refine wpAny_ready (rs:=[9]) (by kernel_rfl) (by simp) ?_;refine AllReady.cons rfl (fun K a=> ?_) AllReady.nil;go_simp;refine a _ _ ?_;clear a K;refine wpAny_ready (rs:=[10]) (by kernel_rfl) (by simp) ?_;refine AllReady.cons rfl (fun K a=> ?_) AllReady.nil;refine dA rfl _ _ 123 rfl 3 i0 (.int .i64 0) 8 Tryz.underlying123 hi a7 a8 a9 rfl (.slice p i cap) i _ rfl E ⟨wr.heap.size,0,none⟩ _ (.int .i64 N) rfl D rfl ah X ?_;intro g l w2 M B L;obtain ⟨⟨u,hu⟩,Z,hA⟩:=s.out w2 g l M B L;have HA:=ae hA;clear M B L hA s e1 e3 c1 c3 E D;refine a _ _ ?_;clear a K;refine wpAny_ready (rs:=[11]) (by kernel_rfl) (by simp) ?_;refine AllReady.cons rfl (fun K a=> ?_) AllReady.nil;go_simp;refine a _ _ ?_;clear a K;refine wpAny_ready (rs:=[12]) (by kernel_rfl) (by simp) ?_;refine AllReady.cons rfl (fun K a=> ?_) AllReady.nil;go_simp;refine a _ _ ?_;clear a K;refine wpAny_ready (rs:=[13]) (by kernel_rfl) (by simp) ?_;refine AllReady.cons rfl (fun K a=> ?_) AllReady.nil;go_simp;refine a _ _ ?_;clear a K;refine wpAny_done (by kernel_rfl) ?_ _;go_wp2;obtain ⟨q,z⟩:∃q,w2.setCell ⟨x,1,none⟩ (.slice (some ⟨g,0,none⟩) (i+1) l)=q:=⟨_,rfl⟩;rw [z];obtain ⟨a1,Q,R,a4,a5,a6⟩:=HA.out q z.symm;clear hu Z z HA;have ad:=(H.out.trans Q (fun _ h=> .inl h)).size;have y:=ae (fun w' (hf:Fr (fun _=>False) q.drew w')=>(af ((R.drew.frame hf (fun h=>h)).cell 3 rfl) ((R.drew.frame hf (fun h=>h)).free 3)));have t:=ae (fun w' (hf:Fr (fun _=>False) q.drew w')=>ap.out w' ((H.out.trans (Q.drew) (fun _ h=> .inl h)).trans hf (fun _ h=>h.elim)));obtain ⟨C,U⟩:∃C,cnt f F (min (F+k) n)=C:=⟨_,rfl⟩;have bs:C<=1048576:=by have:=be f F (min (F+k) n);omega
    have bo:(C:Int)<=1048576:=by omega
    have I:=ae (fun w4 W hf O=>iT (w:=q) (w1:=w4) (W:=W) (lo:=w.heap.size) (N:=N) (C:=C) (F:=F) (n:=n) (f:=f) r.out (by omega) (by rw [<-HN.out,<-r.out];congr 1;omega) U.symm R a4 a5 a6 G.out.2.1 G.out.2.2 G.out.1.1 ad (((Fr.refl (fun _=>False) q).drew).trans hf (fun _ h=> .inl h)) O);have J:=ae (af (H.out.trans Q (fun _ h=> .inl h)) a1);rw [U] at t;clear a1 Q R a4 a5 a6 U;refine aA (fun w'=>Fr (fun _=>False) q.drew w') 10 (by kernel_rfl) (by kernel_rfl) (Fr.refl _ _) ?_;simp only [List.take_succ_cons,List.take_zero,List.drop_succ_cons,List.drop_zero];refine ag (.pointer (some ⟨x,0,none⟩)) rfl (fun w c=>by go_simp) ?_;simp only [Act.put,aa,ab,ac];refine ag (.pointer (some ⟨x,0,none⟩)) rfl (fun w c=>by go_simp) ?_;simp only [Act.put,aa,ab,ac];refine ag (.pointer (some ⟨x,3,none⟩)) rfl (fun w c=>by go_simp) ?_;simp only [Act.put,aa,ab,ac];refine ag (.int .i64 N) rfl (fun w c=>by have d:=(y.out _ c).1;go_simp) ?_;simp only [Act.put,aa,ab,ac];refine ag (.pointer (some ⟨b0,0,none⟩)) rfl (fun w c=>by go_simp) ?_;simp only [Act.put,aa,ab,ac];refine ag (.int .i64 F) rfl (fun w c=>by go_simp) ?_;simp only [Act.put,aa,ab,ac];refine ag (.int .i64 F) rfl (fun w c=>by go_simp) ?_;simp only [Act.put,aa,ab,ac];refine ag (.int .i64 k) rfl (fun w c=>by go_simp) ?_;simp only [Act.put,aa,ab,ac];refine ag (.int .i64 ((F:Int)+(k:Int))) rfl (fun w c=>by go_simp;rw [IntKind.wrap_i64];omega) ?_;simp only [Act.put,aa,ab,ac];refine az (.int .i64 C) 284 #[.pointer (some ⟨b0,0,none⟩),.int .i64 F,.int .i64 ((F:Int)+(k:Int))] rfl (fun w=>by go_simp) (fun w c=>(t.out w c).mono fun e w' h=>⟨h.1,c.trans h.2 (fun _ h=>h.elim)⟩) ?_;simp only [Act.put,aa,ab,ac];refine wpQuiet_nil ?_;intro w4 A;obtain ⟨d1,d2⟩:=y.out w4 A;have m:=ae (fun W O=>I.out w4 W A O);clear A y t I;go_wp2;go_roundw
    case rel=>exact ⟨F+k,i+1,_,by go_num,by omega,⟨by rw [r.out,Nat.succ_mul],by omega,fun _=> .inr (by rw [Nat.add_sub_cancel,<-r.out];exact a0),(m.out _ rfl).1,J.out.2,J.out.1.trans (m.out _ rfl).2 (fun _ h=> .inl h)⟩⟩
    case measure=>simp [intOf];omega
   ·go_simp;refine a _ _ ?_;clear a K;refine wpAny_ready (rs:=[4,9]) (by kernel_rfl) (by simp) ?_;refine AllReady.cons rfl (fun K a=> ?_) (AllReady.cons rfl (fun K a=> ?_) AllReady.nil)
    ·go_simp;refine a _ _ ?_;clear a K;refine wpAny_ready (rs:=[9]) (by kernel_rfl) (by simp) ?_;refine AllReady.cons rfl (fun K a=> ?_) AllReady.nil;go_simp;refine a _ _ ?_;clear a K;refine wpAny_ready (rs:=[10]) (by kernel_rfl) (by simp) ?_;refine AllReady.cons rfl (fun K a=> ?_) AllReady.nil;refine dA rfl _ _ 123 rfl 3 i0 (.int .i64 0) 8 Tryz.underlying123 hi a7 a8 a9 rfl (.slice p i cap) i _ rfl E ⟨wr.heap.size,0,none⟩ _ (.int .i64 N) rfl D rfl ah X ?_;intro g l w2 M B L;obtain ⟨⟨u,hu⟩,Z,hA⟩:=s.out w2 g l M B L;have HA:=ae hA;clear M B L hA s e1 e3 c1 c3 E D;refine a _ _ ?_;clear a K;refine wpAny_ready (rs:=[11]) (by kernel_rfl) (by simp) ?_;refine AllReady.cons rfl (fun K a=> ?_) AllReady.nil;go_simp;refine a _ _ ?_;clear a K;refine wpAny_ready (rs:=[12]) (by kernel_rfl) (by simp) ?_;refine AllReady.cons rfl (fun K a=> ?_) AllReady.nil;go_simp;refine a _ _ ?_;clear a K;refine wpAny_ready (rs:=[13]) (by kernel_rfl) (by simp) ?_;refine AllReady.cons rfl (fun K a=> ?_) AllReady.nil;go_simp;refine a _ _ ?_;clear a K;refine wpAny_done (by kernel_rfl) ?_ _;go_wp2;obtain ⟨q,z⟩:∃q,w2.setCell ⟨x,1,none⟩ (.slice (some ⟨g,0,none⟩) (i+1) l)=q:=⟨_,rfl⟩;rw [z];obtain ⟨a1,Q,R,a4,a5,a6⟩:=HA.out q z.symm;clear hu Z z HA;have ad:=(H.out.trans Q (fun _ h=> .inl h)).size;have y:=ae (fun w' (hf:Fr (fun _=>False) q.drew w')=>(af ((R.drew.frame hf (fun h=>h)).cell 3 rfl) ((R.drew.frame hf (fun h=>h)).free 3)));have t:=ae (fun w' (hf:Fr (fun _=>False) q.drew w')=>ap.out w' ((H.out.trans (Q.drew) (fun _ h=> .inl h)).trans hf (fun _ h=>h.elim)));obtain ⟨C,U⟩:∃C,cnt f F (min (F+k) n)=C:=⟨_,rfl⟩;have bs:C<=1048576:=by have:=be f F (min (F+k) n);omega
     have bo:(C:Int)<=1048576:=by omega
     have I:=ae (fun w4 W hf O=>iT (w:=q) (w1:=w4) (W:=W) (lo:=w.heap.size) (N:=N) (C:=C) (F:=F) (n:=n) (f:=f) r.out (by omega) (by rw [<-HN.out,<-r.out];congr 1;omega) U.symm R a4 a5 a6 G.out.2.1 G.out.2.2 G.out.1.1 ad (((Fr.refl (fun _=>False) q).drew).trans hf (fun _ h=> .inl h)) O);have J:=ae (af (H.out.trans Q (fun _ h=> .inl h)) a1);rw [U] at t;clear a1 Q R a4 a5 a6 U;refine aA (fun w'=>Fr (fun _=>False) q.drew w') 10 (by kernel_rfl) (by kernel_rfl) (Fr.refl _ _) ?_;simp only [List.take_succ_cons,List.take_zero,List.drop_succ_cons,List.drop_zero];refine ag (.pointer (some ⟨x,0,none⟩)) rfl (fun w c=>by go_simp) ?_;simp only [Act.put,aa,ab,ac];refine ag (.pointer (some ⟨x,0,none⟩)) rfl (fun w c=>by go_simp) ?_;simp only [Act.put,aa,ab,ac];refine ag (.pointer (some ⟨x,3,none⟩)) rfl (fun w c=>by go_simp) ?_;simp only [Act.put,aa,ab,ac];refine ag (.int .i64 N) rfl (fun w c=>by have d:=(y.out _ c).1;go_simp) ?_;simp only [Act.put,aa,ab,ac];refine ag (.pointer (some ⟨b0,0,none⟩)) rfl (fun w c=>by go_simp) ?_;simp only [Act.put,aa,ab,ac];refine ag (.int .i64 F) rfl (fun w c=>by go_simp) ?_;simp only [Act.put,aa,ab,ac];refine ag (.int .i64 F) rfl (fun w c=>by go_simp) ?_;simp only [Act.put,aa,ab,ac];refine ag (.int .i64 k) rfl (fun w c=>by go_simp) ?_;simp only [Act.put,aa,ab,ac];refine ag (.int .i64 ((F:Int)+(k:Int))) rfl (fun w c=>by go_simp;rw [IntKind.wrap_i64];omega) ?_;simp only [Act.put,aa,ab,ac];refine az (.int .i64 C) 284 #[.pointer (some ⟨b0,0,none⟩),.int .i64 F,.int .i64 ((F:Int)+(k:Int))] rfl (fun w=>by go_simp) (fun w c=>(t.out w c).mono fun e w' h=>⟨h.1,c.trans h.2 (fun _ h=>h.elim)⟩) ?_;simp only [Act.put,aa,ab,ac];refine wpQuiet_nil ?_;intro w4 A;obtain ⟨d1,d2⟩:=y.out w4 A;have m:=ae (fun W O=>I.out w4 W A O);clear A y t I;go_wp2;go_roundw
     case rel=>exact ⟨F+k,i+1,_,by go_num,by omega,⟨by rw [r.out,Nat.succ_mul],by omega,fun _=> .inr (by rw [Nat.add_sub_cancel,<-r.out];exact a0),(m.out _ rfl).1,J.out.2,J.out.1.trans (m.out _ rfl).2 (fun _ h=> .inl h)⟩⟩
     case measure=>simp [intOf];omega
    ·go_simp;refine a _ _ ?_;clear a K;refine wpAny_ready (rs:=[4]) (by kernel_rfl) (by simp) ?_;refine AllReady.cons rfl (fun K a=> ?_) AllReady.nil;go_simp;refine a _ _ ?_;clear a K;refine wpAny_ready (rs:=[10]) (by kernel_rfl) (by simp) ?_;refine AllReady.cons rfl (fun K a=> ?_) AllReady.nil;refine dA rfl _ _ 123 rfl 3 i0 (.int .i64 0) 8 Tryz.underlying123 hi a7 a8 a9 rfl (.slice p i cap) i _ rfl E ⟨wr.heap.size,0,none⟩ _ (.int .i64 N) rfl D rfl ah X ?_;intro g l w2 M B L;obtain ⟨⟨u,hu⟩,Z,hA⟩:=s.out w2 g l M B L;have HA:=ae hA;clear M B L hA s e1 e3 c1 c3 E D;refine a _ _ ?_;clear a K;refine wpAny_ready (rs:=[11]) (by kernel_rfl) (by simp) ?_;refine AllReady.cons rfl (fun K a=> ?_) AllReady.nil;go_simp;refine a _ _ ?_;clear a K;refine wpAny_ready (rs:=[12]) (by kernel_rfl) (by simp) ?_;refine AllReady.cons rfl (fun K a=> ?_) AllReady.nil;go_simp;refine a _ _ ?_;clear a K;refine wpAny_ready (rs:=[13]) (by kernel_rfl) (by simp) ?_;refine AllReady.cons rfl (fun K a=> ?_) AllReady.nil;go_simp;refine a _ _ ?_;clear a K;refine wpAny_done (by kernel_rfl) ?_ _;go_wp2;obtain ⟨q,z⟩:∃q,w2.setCell ⟨x,1,none⟩ (.slice (some ⟨g,0,none⟩) (i+1) l)=q:=⟨_,rfl⟩;rw [z];obtain ⟨a1,Q,R,a4,a5,a6⟩:=HA.out q z.symm;clear hu Z z HA;have ad:=(H.out.trans Q (fun _ h=> .inl h)).size;have y:=ae (fun w' (hf:Fr (fun _=>False) q.drew w')=>(af ((R.drew.frame hf (fun h=>h)).cell 3 rfl) ((R.drew.frame hf (fun h=>h)).free 3)));have t:=ae (fun w' (hf:Fr (fun _=>False) q.drew w')=>ap.out w' ((H.out.trans (Q.drew) (fun _ h=> .inl h)).trans hf (fun _ h=>h.elim)));obtain ⟨C,U⟩:∃C,cnt f F (min (F+k) n)=C:=⟨_,rfl⟩;have bs:C<=1048576:=by have:=be f F (min (F+k) n);omega
     have bo:(C:Int)<=1048576:=by omega
     have I:=ae (fun w4 W hf O=>iT (w:=q) (w1:=w4) (W:=W) (lo:=w.heap.size) (N:=N) (C:=C) (F:=F) (n:=n) (f:=f) r.out (by omega) (by rw [<-HN.out,<-r.out];congr 1;omega) U.symm R a4 a5 a6 G.out.2.1 G.out.2.2 G.out.1.1 ad (((Fr.refl (fun _=>False) q).drew).trans hf (fun _ h=> .inl h)) O);have J:=ae (af (H.out.trans Q (fun _ h=> .inl h)) a1);rw [U] at t;clear a1 Q R a4 a5 a6 U;refine aA (fun w'=>Fr (fun _=>False) q.drew w') 10 (by kernel_rfl) (by kernel_rfl) (Fr.refl _ _) ?_;simp only [List.take_succ_cons,List.take_zero,List.drop_succ_cons,List.drop_zero];refine ag (.pointer (some ⟨x,0,none⟩)) rfl (fun w c=>by go_simp) ?_;simp only [Act.put,aa,ab,ac];refine ag (.pointer (some ⟨x,0,none⟩)) rfl (fun w c=>by go_simp) ?_;simp only [Act.put,aa,ab,ac];refine ag (.pointer (some ⟨x,3,none⟩)) rfl (fun w c=>by go_simp) ?_;simp only [Act.put,aa,ab,ac];refine ag (.int .i64 N) rfl (fun w c=>by have d:=(y.out _ c).1;go_simp) ?_;simp only [Act.put,aa,ab,ac];refine ag (.pointer (some ⟨b0,0,none⟩)) rfl (fun w c=>by go_simp) ?_;simp only [Act.put,aa,ab,ac];refine ag (.int .i64 F) rfl (fun w c=>by go_simp) ?_;simp only [Act.put,aa,ab,ac];refine ag (.int .i64 F) rfl (fun w c=>by go_simp) ?_;simp only [Act.put,aa,ab,ac];refine ag (.int .i64 k) rfl (fun w c=>by go_simp) ?_;simp only [Act.put,aa,ab,ac];refine ag (.int .i64 ((F:Int)+(k:Int))) rfl (fun w c=>by go_simp;rw [IntKind.wrap_i64];omega) ?_;simp only [Act.put,aa,ab,ac];refine az (.int .i64 C) 284 #[.pointer (some ⟨b0,0,none⟩),.int .i64 F,.int .i64 ((F:Int)+(k:Int))] rfl (fun w=>by go_simp) (fun w c=>(t.out w c).mono fun e w' h=>⟨h.1,c.trans h.2 (fun _ h=>h.elim)⟩) ?_;simp only [Act.put,aa,ab,ac];refine wpQuiet_nil ?_;intro w4 A;obtain ⟨d1,d2⟩:=y.out w4 A;have m:=ae (fun W O=>I.out w4 W A O);clear A y t I;go_wp2;go_roundw
     case rel=>exact ⟨F+k,i+1,_,by go_num,by omega,⟨by rw [r.out,Nat.succ_mul],by omega,fun _=> .inr (by rw [Nat.add_sub_cancel,<-r.out];exact a0),(m.out _ rfl).1,J.out.2,J.out.1.trans (m.out _ rfl).2 (fun _ h=> .inl h)⟩⟩
     case measure=>simp [intOf];omega
  ·have b6:¬(F:Int)<(n:Int):=by omega
   have HR:=ae hr.out;generalize w1.heap.size=x at*;clear hr;go_wp2_with fail
   refine (bd.out).mono ?_;rintro e w' ⟨rfl,rfl⟩;go_wp2;go_ret2;obtain ⟨q1,q2,q3,q4,q5,q6⟩:=HR.out;have b9:i≠0:=fun e=>by rw [e,Nat.zero_mul] at q1;omega
   exact ⟨x,b,gb,v,i,rfl,q4,by omega,by rcases q3 h1 with h|h;exact absurd h b9;exact h,by omega,q5,q6.mono (fun _ h=> .inr h)⟩
end
section
open Go.RowKit Go.Shelf
theorem bQ.at {w:World} {x b gb n k i:Nat} {v:Value} {f:Nat->Bool} (h:bQ w x b gb v n k i f) {j:Nat} (c:j<i):∃g cap,v= .slice (some ⟨g,0,none⟩) i cap∧w.cell? ⟨g,j,none⟩=some (.int .i64 ((cnt f 0 (j*k):Nat):Int)):=by
 rcases h.row.2 with ⟨_,d⟩|⟨g,cap,cur,a,_⟩
 ·omega
 ·refine ⟨g,cap,a,?_⟩;subst a;have:=h.row.cells (g:=g) rfl j (.int .i64 ((cnt f 0 (j*k):Nat):Int)) (by rw [List.getElem?_map,List.getElem?_range c];rfl);rwa [show ((⟨g,0,none⟩:Addr).add j)=⟨g,j,none⟩ by unfold Addr.add;split<;>simp_all] at this
theorem tv {w:World} {x b gb n k i:Nat} {v:Value} {f:Nat->Bool} (h:bQ w x b gb v n k i f) (c:n<=i*k):Calls Tryz.prog 261 #[x] w fun e w'=>e= .returned (.int .i64 ((cnt f 0 n:Nat):Int))∧w=w':=by
 have a:=h.blk.cell 3 rfl;rw [Nat.min_eq_right c] at a;generalize cnt f 0 n=N at*;clear h
 go_enter Tryz.func261,Tryz.ntmps261
 go_wp2;go_ret;exact ⟨rfl,rfl⟩
theorem bV (i k:Nat):(i:Int).tdiv (k:Int)=((i/k:Nat):Int):=rfl
theorem oA {w:World} {x b gb n k nb:Nat} {v:Value} {f:Nat->Bool} (h:bQ w x b gb v n k nb f) (P:n<=nb*k) (hk:1<=k) (W:k<=1024) (i:Nat) (hi:i<=1048576):Calls Tryz.prog 267 #[x,.int .i64 i] w fun e w'=>e= .returned (.int .i64 ((cnt f 0 (min i n):Nat):Int))∧Fr (fun _=>False) w w':=by
 obtain ⟨ws,s,c⟩:=h.vec;have o:aw ws=f:=funext c;have X:=s.small;have Q:=h.blk.cell 0 rfl;have c2:=h.blk.cell 2 rfl;have E:=h.blk.cell 3 rfl;rw [Nat.min_eq_right P] at E;have K:=ae (fO s);have p:=ae (Fr.refl (fun _=>False) w);have V:(i:Int)<=1048576:=by omega
 by_cases R:i=0
 ·subst R;rw [Nat.min_eq_left (Nat.zero_le n),bG f (Nat.le_refl 0)];clear h s c o Q c2 E
  go_enter Tryz.func267,Tryz.ntmps267
  go_wp2;go_ret;exact ⟨rfl,p.out⟩
 ·have O:(1:Int)<=(i:Int):=by omega
  by_cases H:n<=i
  ·have u:(n:Int)<=(i:Int):=by omega
   rw [Nat.min_eq_right H];generalize cnt f 0 n=N at*;clear h s c o c2
   go_enter Tryz.func267,Tryz.ntmps267
   go_wp2_with fail
   refine (K.out).mono ?_;rintro e w' ⟨rfl,rfl⟩;go_wp2;go_ret;exact ⟨rfl,p.out⟩
  ·have u:(i:Int)<(n:Int):=by omega
   rw [Nat.min_eq_left (by omega)];obtain ⟨B,z⟩:∃B,i/k=B:=⟨_,rfl⟩;have q:B*k<=i:=by rw [<-z];exact Nat.div_mul_le_self i k
   have r:B<nb:=by
    rw [<-z];exact (Nat.div_lt_iff_lt_mul (by omega)).2 (by omega)
   have G:B<=B*k:=Nat.le_mul_of_pos_right B (by omega);obtain ⟨g,cap,rfl,U⟩:=h.at r;have c1:=h.blk.cell 1 rfl;have j:Fr (fun _=>False) w w.drew:=(Fr.refl _ w).drew;have m:=ae (fun w' (hf:Fr (fun _=>False) w.drew w')=>(af (((h.blk.frame j (fun h=>h)).frame hf (fun h=>h)).cell 0 rfl) (af (((h.blk.frame j (fun h=>h)).frame hf (fun h=>h)).cell 1 rfl) (af (((h.blk.frame j (fun h=>h)).frame hf (fun h=>h)).cell 2 rfl)
    (((h.frame j (fun h=>h) (fun h=>h) (fun h=>h) (fun _ _ h=>h)).frame hf (fun h=>h) (fun h=>h) (fun h=>h) (fun _ _ h=>h)).at r)))))
   have t:=ae (fun w' (hf:Fr (fun _=>False) w.drew w')=>kB ((s.frame j (fun h=>h) (fun h=>h)).frame hf (fun h=>h) (fun h=>h)) (F:=B*k) (T:=i) q (by omega) (i:Int) (by omega));have l:∀w',Fr (fun _=>False) w.drew w'->w'.cell? ⟨g,B,none⟩=some (.int .i64 ((cnt f 0 (B*k):Nat):Int)):=fun w' hf=>by
    obtain ⟨g',L,O,S⟩:=(m.out w' hf).2.2.2
    cases O;exact S
   have A:=ae l;rw [o] at t;rw [ay f (Nat.zero_le (B*k)) q];have I:=ch f (B*k);have J:=be f (B*k) i;generalize cnt f 0 (B*k)=N at*;generalize cnt f (B*k) i=C at*;have q1:(i:Int).tdiv (k:Int)=(B:Int):=by rw [bV,z]
   have q2:((k:Int)==0)=false:=by rw [beq_eq_false_iff_ne];omega
   have q3:(B:Int)*(k:Int)=((B*k:Nat):Int):=by simp
   generalize B*k=M at*;have Y:(B:Int)<(nb:Int):=by omega
   have Z:(N:Int)<=1048576:=by omega
   have b3:(C:Int)<=1048576:=by omega
   have b4:(M:Int)<=1048576:=by omega
   have b5:(k:Int)<=1024:=by omega
   have b6:(B:Int)<=1048576:=by omega
   have b7:(1:Int)<=(k:Int):=by omega
   clear h s c o E c1 j U z q r l I J P G
   go_enter Tryz.func267,Tryz.ntmps267
   go_wp2_with fail
   refine (K.out).mono ?_;rintro e w' ⟨rfl,rfl⟩;go_wp2;refine au (fun w'=>Fr (fun _=>False) w.drew w') (by kernel_rfl) (by kernel_rfl) (Fr.refl _ _) ?_;refine ag (.pointer (some ⟨x,0,none⟩)) rfl (fun w a=>by go_simp) ?_;simp only [Act.put,aa,ab,ac];refine ag (.pointer (some ⟨x,0,none⟩)) rfl (fun w a=>by go_simp) ?_;simp only [Act.put,aa,ab,ac];refine ag (.pointer (some ⟨x,1,none⟩)) rfl (fun w a=>by go_simp) ?_;simp only [Act.put,aa,ab,ac];refine ag (.slice (some ⟨g,0,none⟩) nb cap) rfl (fun w a=>by have d:=(m.out _ a).2.1;go_simp) ?_;simp only [Act.put,aa,ab,ac];refine ag (.int .i64 B) rfl (fun w a=>by go_simp) ?_;simp only [Act.put,aa,ab,ac];refine ag (.pointer (some ⟨g,B,none⟩)) rfl (fun w a=>by go_simp) ?_;simp only [Act.put,aa,ab,ac];refine ag (.int .i64 N) rfl (fun w a=>by have d:=A.out _ a;go_simp) ?_;simp only [Act.put,aa,ab,ac];refine ag (.pointer (some ⟨x,0,none⟩)) rfl (fun w a=>by go_simp) ?_;simp only [Act.put,aa,ab,ac];refine ag (.pointer (some ⟨x,0,none⟩)) rfl (fun w a=>by go_simp) ?_;simp only [Act.put,aa,ab,ac];refine ag (.pointer (some ⟨x,0,none⟩)) rfl (fun w a=>by go_simp) ?_;simp only [Act.put,aa,ab,ac];refine ag (.pointer (some ⟨b,0,none⟩)) rfl (fun w a=>by have d:=(m.out _ a).1;go_simp) ?_;simp only [Act.put,aa,ab,ac];refine ag (.int .i64 B) rfl (fun w a=>by go_simp) ?_;simp only [Act.put,aa,ab,ac];refine ag (.pointer (some ⟨x,0,none⟩)) rfl (fun w a=>by go_simp) ?_;simp only [Act.put,aa,ab,ac];refine ag (.pointer (some ⟨x,0,none⟩)) rfl (fun w a=>by go_simp) ?_;simp only [Act.put,aa,ab,ac];refine ag (.pointer (some ⟨x,2,none⟩)) rfl (fun w a=>by go_simp) ?_;simp only [Act.put,aa,ab,ac];refine ag (.int .i64 k) rfl (fun w a=>by have d:=(m.out _ a).2.2.1;go_simp) ?_;simp only [Act.put,aa,ab,ac];refine ag (.int .i64 M) rfl (fun w a=>by go_simp;rw [IntKind.wrap_i64];omega) ?_;simp only [Act.put,aa,ab,ac];refine ag (.int .i64 i) rfl (fun w a=>by go_simp) ?_;simp only [Act.put,aa,ab,ac];refine az (.int .i64 C) 284 #[b,.int .i64 M,.int .i64 i] rfl (fun w=>by go_simp) (fun w a=>(t.out w a).mono fun e w' h=>⟨h.1,a.trans h.2 (fun _ h=>h.elim)⟩) ?_;simp only [Act.put,aa,ab,ac];refine ag (.int .i64 ((N:Int)+(C:Int))) rfl (fun w a=>by go_simp;rw [IntKind.wrap_i64];omega) ?_;simp only [Act.put,aa,ab,ac];refine ag (.int .i64 ((N:Int)+(C:Int))) rfl (fun w a=>by go_simp) ?_;simp only [Act.put,aa,ab,ac];refine wpQuiet_nil ?_;intro w4 y;have D:=ae y;clear y;go_wp2;go_ret;exact ⟨by simp,(p.out.drew).trans D.out (fun _ h=>h.elim)⟩
end
def uj (w:World) (n:Nat) (p:Nat->Bool) (e:Ending) (w':World):Prop:=∃k:Nat,e= .returned (.int .i64 k)∧k<=n∧(∀a,a<k->p a=false)∧(∀a,k<=a->a<n->p a=true)∧Fr (fun _=>False) w w'
theorem qs (f:Nat) (lb:Array Value) (H:∀args w,(callFunc f args).run Tryz.prog w= .ok (.enter f args) w) (n:Nat) (I:n<=1048576) (p:Nat->Bool) (t:∀i j,i<=j->j<n->p i=true->p j=true) (w:World) (d:∀i,i<n->∀w',Fr (fun _=>False) w w'->Calls Tryz.prog f (#[.int .i64 i]++lb) w' (fun e w2=>e= .returned (.bool (p i))∧Fr (fun _=>False) w' w2)):
  Calls Tryz.prog 294 #[.int .i64 n,.func (.func f) #[] lb] w (uj w n p):=by
 have y:=ae t;have z:=ae d;have G:(n:Int)<=1048576:=by omega
 clear t d
 go_enter Tryz.func294,Tryz.ntmps294
 go_wp2
 go_loopw [5,6] (fun a b wr=>∃i j:Nat,i<=j∧j<=n∧a= .int .i64 i∧b= .int .i64 j∧Hid (Fr (fun _=>False) w wr∧(∀a,a<i->p a=false)∧∀a,j<=a->a<n->p a=true)) (fun a b _=>(intOf b-intOf a).toNat)
 case atStart=>exact ⟨0,n,by omega,by omega,rfl,rfl,⟨Fr.refl _ w,fun a h=>absurd h (by omega),fun a u v=>absurd v (by omega)⟩⟩
 case round=>
  obtain ⟨i,j,C,s,rfl,rfl,k⟩:=hrel;by_cases E:i<j
  ·obtain ⟨m,t⟩:∃m,m=(i+j)/2:=⟨_,rfl⟩;have x:i<=m:=by omega
   have F:m<j:=by omega
   have A:((i:Int)+(j:Int))/2=(m:Int):=by omega
   have B:(i:Int)<=1048576:=by omega
   have D:(j:Int)<=1048576:=by omega
   have q:=z.out m (by omega) _ k.out.1;clear t
   cases hp:p m with
   |true=>
    rw [hp] at q;have l:=ae q;have c:Hid (∀w',Fr (fun _=>False) wr w'->Fr (fun _=>False) w w'∧(∀a,a<i->p a=false)∧∀a,m<=a->a<n->p a=true):=fun w' hf=>⟨k.out.1.trans hf (fun _ h=>h.elim),k.out.2.1,fun a u v=>y.out m a u v hp⟩
    clear q k hp;go_wp2_with fail
    refine (l.out).mono ?_;rintro e w2 ⟨rfl,g⟩;have o:=ae (c.out w2 g);clear g c;go_wp2;go_roundw
    case rel=>exact ⟨i,m,x,by omega,rfl,rfl,o⟩
    case measure=>simp [intOf];omega
   |false=>
    rw [hp] at q;have l:=ae q;have c:Hid (∀w',Fr (fun _=>False) wr w'->Fr (fun _=>False) w w'∧(∀a,a<m+1->p a=false)∧∀a,j<=a->a<n->p a=true):=fun w' hf=>⟨k.out.1.trans hf (fun _ h=>h.elim),(fun a u=>by
     cases ha:p a with
     |false=>rfl
     |true=>(rw [y.out a m (by omega) (by omega) ha] at hp;cases hp)),k.out.2.2⟩
    clear q k hp;go_wp2_with fail
    refine (l.out).mono ?_;rintro e w2 ⟨rfl,g⟩;have o:=ae (c.out w2 g);clear g c;go_wp2;go_roundw
    case rel=>exact ⟨m+1,j,by omega,s,by go_num,rfl,o⟩
    case measure=>simp [intOf];omega
  ·obtain rfl:i=j:=by omega
   have r:Hid (uj w n p (.returned (.int .i64 i)) wr):=⟨i,rfl,s,k.out.2.1,k.out.2.2,k.out.1⟩;clear k;go_wp2;go_ret;exact r.out
section
open Go.RowKit Go.Shelf
theorem nC {f:Nat->Bool} {a i:Nat} (h:cnt f a i=0):∀j,a<=j->j<i->f j=false:=fun j b c=>by
 cases hj:f j with
 |false=>rfl
 |true=>have:=iE b c hj;omega
theorem ry {f:Nat->Bool} {A n K:Nat} (d:A<=n) (h:cnt f 0 A<=K) (c:K<cnt f 0 n):∃j,fD f A n j∧cnt f 0 j=cnt f 0 A:=by
 rw [ay f (Nat.zero_le A) d] at c;obtain ⟨i,a,e,g,b⟩:=mz f A n 0 (by omega);exact ⟨i,⟨a,e,g,nC b⟩,by rw [ay f (Nat.zero_le A) a,b];rfl⟩
theorem ww {w:World} {b g n i j:Nat} {ws:List Nat} (h:aW w b g n ws) (m:bv w) (a:fD (aw ws) i n j):Calls Tryz.prog 257 #[b,.int .i64 i] w fun e w'=>e= .returned (.tuple #[.int .i64 j,.bool true])∧w=w':=by
 have:=h.small;have:=a.1;have:=a.2.1;refine (eC h m i (by omega)).mono ?_;rintro e w' ⟨⟨k,c,rfl⟩|⟨c,rfl⟩,o⟩
 ·have:k=j:=by
   rcases Nat.lt_trichotomy k j with l|d|f
   ·have:=a.2.2.2 k c.1 l;rw [c.2.2.1] at this;cases this
   ·exact d
   ·have:=c.2.2.2 j a.1 f;rw [a.2.2.1] at this;cases this
  rw [this];exact ⟨rfl,o⟩
 ·have:=c j a.1 a.2.1;rw [a.2.2.1] at this;cases this
theorem bQ.keep {w w':World} {x b gb n k i:Nat} {v:Value} {f:Nat->Bool} (h:bQ w x b gb v n k i f) (hf:Fr (fun _=>False) w w'):bQ w' x b gb v n k i f:=h.frame hf (fun h=>h) (fun h=>h) (fun h=>h) (fun _ _ h=>h)
theorem ak {S:Nat->Prop} {w w':World} (h:bv w) (hf:Fr S w w') (c:¬S 1):bv w':=fun i k b=>by
 have a:=h i k b;exact (World.cell?_of_block (w:=w) (hf.block _ (aD a) c)).trans a
theorem qo {w:World} {x b gb n k nb:Nat} {v:Value} {f:Nat->Bool} (h:bQ w x b gb v n k nb f) (xb kb K:Nat) (l:aj w xb [.pointer (some ⟨x,0,none⟩)] 337) (j:aj w kb [.int .i64 K] 3) (y:K<=1048576) (z:n<=1048576) (i:Nat) (o:i<nb) (p:nb<=1048576):
  Calls Tryz.prog 295 #[.int .i64 i,.pointer (some ⟨xb,0,none⟩),.pointer (some ⟨kb,0,none⟩)] w fun e w'=>e= .returned (.bool (decide (K<cnt f 0 (i*k))))∧Fr (fun _=>False) w w':=by
 obtain ⟨g,cap,rfl,d⟩:=h.at o;have r:w.drew.cell? ⟨xb,0,none⟩=_:=l.drew.cell 0 rfl;have s:w.drew.cell? ⟨kb,0,none⟩=_:=j.drew.cell 0 rfl;have t:w.drew.cell? ⟨x,1,none⟩=_:=h.blk.drew.cell 1 rfl;have u:w.drew.cell? ⟨g,i,none⟩=_:=d;have m:=ae ((Fr.refl (fun _=>False) w).drew);have c:decide (K<cnt f 0 (i*k))=decide ((K:Int)<((cnt f 0 (i*k):Nat):Int)):=by rw [decide_eq_decide];omega
 rw [c];generalize cnt f 0 (i*k)=N at*;have q:(i:Int)<(nb:Int):=by omega
 clear h l j d c
 go_enter Tryz.func295,Tryz.ntmps295
 go_wp2;refine au (fun w'=>w'=w.drew) (by kernel_rfl) (by kernel_rfl) rfl ?_;refine ag (.pointer (some ⟨x,0,none⟩)) rfl (fun w a=>by subst a;go_simp) ?_;simp only [Act.put,aa,ab,ac];refine ag (.pointer (some ⟨x,0,none⟩)) rfl (fun w a=>by go_simp) ?_;simp only [Act.put,aa,ab,ac];refine ag (.pointer (some ⟨x,1,none⟩)) rfl (fun w a=>by go_simp) ?_;simp only [Act.put,aa,ab,ac];refine ag (.slice (some ⟨g,0,none⟩) nb cap) rfl (fun w a=>by subst a;go_simp) ?_;simp only [Act.put,aa,ab,ac];refine ag (.int .i64 i) rfl (fun w a=>by go_simp) ?_;simp only [Act.put,aa,ab,ac];refine ag (.pointer (some ⟨g,i,none⟩)) rfl (fun w a=>by go_simp) ?_;simp only [Act.put,aa,ab,ac];refine ag (.int .i64 N) rfl (fun w a=>by subst a;go_simp) ?_;simp only [Act.put,aa,ab,ac];refine ag (.int .i64 K) rfl (fun w a=>by subst a;go_simp) ?_;simp only [Act.put,aa,ab,ac];refine ag (.bool (decide ((K:Int)<(N:Int)))) rfl (fun w a=>by go_simp) ?_;simp only [Act.put,aa,ab,ac];refine ag (.bool (decide ((K:Int)<(N:Int)))) rfl (fun w a=>by go_simp) ?_;simp only [Act.put,aa,ab,ac];refine wpQuiet_nil ?_;rintro w2 rfl;go_wp2;go_ret;exact ⟨rfl,m.out⟩
def mY (f:Nat->Bool) (n K:Nat) (w:World) (e:Ending) (w':World):Prop:=∃a:Nat,e= .returned (.tuple #[.int .i64 a,.bool true])∧a<n∧f a=true∧cnt f 0 a=K∧Fr (fun _=>False) w w'
theorem tz {w:World} {x b gb n k nb:Nat} {v:Value} {f:Nat->Bool} (h:bQ w x b gb v n k nb f) (hT:bv w) (hn:n<=nb*k) (U:(nb-1)*k<n) (a5:1<=nb) (hk:1<=k) (b0:k<=1024) (K:Nat) (hK:K<cnt f 0 n):Calls Tryz.prog 293 #[x,.int .i64 K] w (mY f n K w):=by
 obtain ⟨ws,hv,t⟩:=h.vec;have R:aw ws=f:=funext t;have a2:=hv.small;have av:K<=1048576:=by have:=ch f n;omega
 have C:nb<=1048576:=by
  have:nb-1<=(nb-1)*k:=Nat.le_mul_of_pos_right _ (by omega);omega
 obtain ⟨g,cap,rfl,_⟩:=h.at (show 0<nb by omega);obtain ⟨W,Q⟩:∃W,(w.alloc (.cells #[x] 337)).alloc (.cells #[.int .i64 K] 3)=W:=⟨_,rfl⟩;have hf:Fr (fun _=>False) w W:=by rw [<-Q];exact ((Fr.refl _ w).alloc _).alloc _
 have L:aj W w.heap.size [.pointer (some ⟨x,0,none⟩)] 337:=by rw [<-Q];exact (aj.new w _ _).alloc _
 have J:aj W (w.heap.size+1) [.int .i64 K] 3:=by
  rw [<-Q];have:=aj.new (w.alloc (.cells #[x] 337)) [.int .i64 K] 3;rwa [World.size_alloc] at this
 obtain ⟨N,hN⟩:∃N,cnt f 0 n=N:=⟨_,rfl⟩;have l:=ae (fun w' (d:Fr (fun _=>False) W w')=>(af ((L.frame d (fun h=>h)).cell 0 rfl) (af ((J.frame d (fun h=>h)).cell 0 rfl) (af (((h.keep hf).keep d).blk.cell 0 rfl) (af (((h.keep hf).keep d).blk.cell 1 rfl) (af (((h.keep hf).keep d).blk.cell 2 rfl) (((h.keep hf).keep d).blk.cell 3 rfl)))))));have Z:=ae (fun w' (d:Fr (fun _=>False) W w') j (H:j<nb)=>((h.keep hf).keep d).at H);have D:=ae (fun w' (d:Fr (fun _=>False) W w') i j (H:fD (aw ws) i n j)=>ww ((hv.frame hf (fun h=>h) (fun h=>h)).frame d (fun h=>h) (fun h=>h)) (ak (ak hT hf (fun h=>h)) d (fun h=>h)) H);have G:∀w',Fr (fun _=>False) W.drew w'->Fr (fun _=>False) W w':=fun w' d=>((Fr.refl (fun _=>False) W).drew).trans d (fun _ h=>h.elim)
 have r:=qs 295 #[w.heap.size,.pointer (some ⟨w.heap.size+1,0,none⟩)] (enters_of Tryz.func295 (by kernel_rfl) rfl) nb C (fun i=>decide (K<cnt f 0 (i*k)))
  (fun i j a0 _ h=>by rw [decide_eq_true_eq] at h ⊢;have:=cZ f (a:=0) (Nat.mul_le_mul_right k a0);omega) W.drew
  (fun i hi w' d=>qo ((h.keep hf).keep (G w' d)) w.heap.size (w.heap.size+1) K (L.frame (G w' d) (fun h=>h)) (J.frame (G w' d) (fun h=>h)) av a2 i hi C)
 have HS:=ae r;rw [R] at D;rw [Nat.min_eq_right hn,hN] at l;have aq:(K:Int)<(N:Int):=by omega
 have a8:(0:Int)<=(K:Int):=by omega
 have HK:=ae hK;have ad:=ae hf;have am:=ae (af hn U);have a6:(nb:Int)<=1048576:=by omega
 have b1:(k:Int)<=1024:=by omega
 have a7:=ae Q;have dk:W.drew.cell? ⟨w.heap.size+1,0,none⟩=_:=(l.out W.drew ((Fr.refl _ W).drew)).2.1;have dx:W.drew.cell? ⟨w.heap.size,0,none⟩=_:=(l.out W.drew ((Fr.refl _ W).drew)).1;have d1:W.drew.cell? ⟨x,1,none⟩=_:=(l.out W.drew ((Fr.refl _ W).drew)).2.2.2.1;have d3:W.drew.cell? ⟨x,3,none⟩=_:=(l.out W.drew ((Fr.refl _ W).drew)).2.2.2.2.2;clear h hT hv t R L J r hf hK hN hn U
 go_enter Tryz.func293,Tryz.ntmps293
 go_wp2;clear Q;refine au (fun w'=>w'=W.drew) (by kernel_rfl) (by kernel_rfl) rfl ?_;refine ag (.pointer (some ⟨x,0,none⟩)) rfl (fun w c=>by subst c;go_simp) ?_;simp only [Act.put,aa,ab,ac];refine ag (.bool false) rfl (fun w c=>by go_simp) ?_;simp only [Act.put,aa,ab,ac];refine ag (.bool false) rfl (fun w c=>by go_simp) ?_;simp only [Act.put,aa,ab,ac];refine al (.int .i64 K) rfl (fun w c=>by subst c;go_simp) ?_;simp only [Act.put,aa,ab,ac];refine al (.bool false) rfl (fun w c=>by go_simp) ?_;simp only [Act.put,aa,ab,ac];refine ag (.bool false) rfl (fun w c=>by go_simp) ?_;simp only [Act.put,aa,ab,ac];refine ag (.bool false) rfl (fun w c=>by go_simp) ?_;simp only [Act.put,aa,ab,ac];refine al (.int .i64 K) rfl (fun w c=>by subst c;go_simp) ?_;simp only [Act.put,aa,ab,ac];refine al (.pointer (some ⟨x,0,none⟩)) rfl (fun w c=>by subst c;go_simp) ?_;simp only [Act.put,aa,ab,ac];refine al (.pointer (some ⟨x,0,none⟩)) rfl (fun w c=>by go_simp) ?_;simp only [Act.put,aa,ab,ac];refine al (.pointer (some ⟨x,3,none⟩)) rfl (fun w c=>by go_simp) ?_;simp only [Act.put,aa,ab,ac];refine al (.int .i64 N) rfl (fun w c=>by subst c;go_simp) ?_;simp only [Act.put,aa,ab,ac];refine al (.bool false) rfl (fun w c=>by go_simp;omega) ?_;simp only [Act.put,aa,ab,ac];refine ag (.bool false) rfl (fun w c=>by go_simp) ?_;simp only [Act.put,aa,ab,ac];refine wpQuiet_nil ?_;rintro w2 rfl;go_wp2_with fail
 refine (HS.out).mono ?_;rintro e w2 ⟨s,rfl,a1,X,Y,T⟩;have u:Fr (fun _=>False) W w2:=((Fr.refl (fun _=>False) W).drew).trans T (fun _ h=>h.elim);have b5:1<=s:=by
  by_cases h0:s=0
  ·subst h0;have:=Y 0 (Nat.le_refl 0) (by omega);rw [decide_eq_true_eq,Nat.zero_mul,bG f (Nat.le_refl 0)] at this;omega
  ·omega
 obtain ⟨B,rfl⟩:∃B,s=B+1:=⟨s-1,by omega⟩;have E:cnt f 0 (B*k)<=K:=by
  have:=X B (by omega);rw [decide_eq_false_iff_not] at this;omega
 have F:B*k<=n:=by
  have:=Nat.mul_le_mul_right k (show B<=nb-1 by omega);have:=am.out.2;omega
 have ap:B<=B*k:=Nat.le_mul_of_pos_right B (by omega);obtain ⟨j,H,I⟩:=ry F E HK.out;obtain ⟨g',a4,a3,ax⟩:=Z.out w2.drew u.drew B (by omega)
 cases a3
 have O:=ae (D.out w2.drew u.drew (B*k) j H);obtain ⟨e0,e1,e2,e3,e4,_⟩:=l.out w2.drew u.drew;have o:=H.2;obtain ⟨M,hM⟩:∃M,B*k=M:=⟨_,rfl⟩;have a9:(B:Int)*(k:Int)=(M:Int):=by rw [<-hM];simp
 rw [hM] at I O ax E F ap;have bd:(B:Int)<=1048576:=by omega
 have bj:(M:Int)<=1048576:=by omega
 have bk:(B:Int)<(nb:Int):=by omega
 have HJ:=ae (af o.1 (af o.2.1 I));have y:=ae u;clear a1 X Y T u H o I hM F HS dk dx d1 d3 aq;go_wp2;refine au (fun w'=>w'=w2.drew) (by kernel_rfl) (by kernel_rfl) rfl ?_;refine ag (.pointer (some ⟨x,0,none⟩)) rfl (fun w c=>by subst c;go_simp) ?_;simp only [Act.put,aa,ab,ac];refine ag (.pointer (some ⟨x,0,none⟩)) rfl (fun w c=>by go_simp) ?_;simp only [Act.put,aa,ab,ac];refine ag (.pointer (some ⟨x,0,none⟩)) rfl (fun w c=>by go_simp) ?_;simp only [Act.put,aa,ab,ac];refine ag (.pointer (some ⟨b,0,none⟩)) rfl (fun w c=>by subst c;go_simp) ?_;simp only [Act.put,aa,ab,ac];refine ag (.int .i64 B) rfl (fun w c=>by go_simp) ?_;simp only [Act.put,aa,ab,ac];refine ag (.pointer (some ⟨x,0,none⟩)) rfl (fun w c=>by subst c;go_simp) ?_;simp only [Act.put,aa,ab,ac];refine ag (.pointer (some ⟨x,0,none⟩)) rfl (fun w c=>by go_simp) ?_;simp only [Act.put,aa,ab,ac];refine ag (.pointer (some ⟨x,2,none⟩)) rfl (fun w c=>by go_simp) ?_;simp only [Act.put,aa,ab,ac];refine ag (.int .i64 k) rfl (fun w c=>by subst c;go_simp) ?_;simp only [Act.put,aa,ab,ac];refine ag (.int .i64 M) rfl (fun w c=>by go_simp;rw [IntKind.wrap_i64];omega) ?_;simp only [Act.put,aa,ab,ac];refine az (.tuple #[.int .i64 j,.bool true]) 257 #[.pointer (some ⟨b,0,none⟩),.int .i64 M] rfl (fun w=>by go_simp) (fun w c=>by subst c;exact (O.out).mono fun e w' h=>⟨h.1,h.2.symm⟩) ?_;simp only [Act.put,aa,ab,ac];refine ag (.tuple #[.int .i64 j,.bool true]) rfl (fun w c=>by go_simp) ?_;simp only [Act.put,aa,ab,ac];refine ag (.int .i64 j) rfl (fun w c=>by go_simp) ?_;simp only [Act.put,aa,ab,ac];refine ag (.bool true) rfl (fun w c=>by go_simp) ?_;simp only [Act.put,aa,ab,ac];refine ag (.int .i64 j) rfl (fun w c=>by go_simp) ?_;simp only [Act.put,aa,ab,ac];refine ag (.bool true) rfl (fun w c=>by go_simp) ?_;simp only [Act.put,aa,ab,ac];refine wpQuiet_nil ?_;rintro w3 rfl;generalize cnt f 0 M=N0 at*;have bo:(N0:Int)<=(K:Int):=by omega
 have bs:(K:Int)<=1048576:=by omega
 clear e2 e4;go_wp2
 go_loopw [7,9] (fun p q wr=>∃a m:Nat,p= .int .i64 a∧q= .int .i64 m∧m<=K∧wr=w2.drew∧Hid (a<n∧f a=true∧cnt f 0 a=m)) (fun _ q _=>(K-intOf q).toNat)
 case atStart=>exact ⟨j,N0,rfl,rfl,E,rfl,HJ.out⟩
 case round=>
  obtain ⟨a,m,rfl,rfl,b3,rfl,V⟩:=hrel;by_cases b2:m<K
  ·obtain ⟨h1,h2,h3⟩:=V.out;have S:cnt f 0 (a+1)=m+1:=by rw [aC f (Nat.zero_le a),h3,if_pos h2]
   obtain ⟨j2,o,z⟩:=ry (A:=a+1) (by omega) (by omega) HK.out;have P:=ae (D.out w2.drew y.out.drew (a+1) j2 o);rw [show ((a+1:Nat):Int)=(a:Int)+1 by omega] at P;have ah:=ae (af o.2.1 (af o.2.2.1 (z.trans S)));have bb:(a:Int)<=1048576:=by omega
   have b4:(m:Int)<(K:Int):=by omega
   obtain ⟨e0,e1,e2,_⟩:=l.out w2.drew y.out.drew;clear V h1 h2 h3 S o z;go_wp2_with fail
   refine (P.out).mono ?_;rintro e w' ⟨rfl,rfl⟩;go_wp2;go_roundw
   case rel=>exact ⟨j2,m+1,rfl,by go_num,by omega,trivial,ah.out⟩
   case measure=>simp [intOf];omega
  ·obtain rfl:m=K:=by omega
   obtain ⟨e0,e1,_⟩:=l.out w2.drew y.out.drew;go_wp2;go_ret2;exact ⟨a,rfl,V.out.1,V.out.2.1,V.out.2.2,ad.out.trans y.out.drew (fun _ h=>h.elim)⟩
end
section
open Go.RowKit Go.Shelf
theorem iY {α:Type} {xs a:List α} {x:α} (h:a=xs.take a.length) (b:xs[a.length]? =some x):a++[x]=xs.take (a++[x]).length:=by
 rw [List.length_append,List.length_singleton,List.take_add_one,<-h,b];rfl
def iH (pre:List (Nat×Nat)) (j:Nat):Bool:=pre.any fun x=>decide (x.1<=j)&&decide (j<x.1+x.2)
theorem pr (a:List (Nat×Nat)) (x:Nat×Nat) (j:Nat):iH (a++[x]) j=(iH a j||(decide (x.1<=j)&&decide (j<x.1+x.2))):=by
 unfold iH;rw [List.any_append];simp
theorem bi {E:Nat->Nat} {W:Nat} {x:Nat×Nat}:x∈aP E W↔x.1<W∧E x.1≠0∧x.2=E x.1:=by
 unfold aP;rw [List.mem_map];constructor
 ·rintro ⟨s,d,rfl⟩;have:=jZ.1 d;exact ⟨this.2.1,bJ.1 this.2.2,rfl⟩
 ·rintro ⟨a,b,c⟩;exact ⟨x.1,jZ.2 ⟨Nat.zero_le _,a,bJ.2 b⟩,by rw [<-c]⟩
theorem pq {E:Nat->Nat} {W:Nat} (b:∀a,E a≠0->a+E a<=W) (j:Nat):iH (aP E W) j=ai E j:=by
 rw [Bool.eq_iff_iff,aQ];unfold iH;rw [List.any_eq_true];constructor
 ·rintro ⟨x,f,h⟩;rw [Bool.and_eq_true,decide_eq_true_eq,decide_eq_true_eq] at h;have:=bi.1 f;exact ⟨x.1,h.1,by rw [<-this.2.2];exact h.2⟩
 ·rintro ⟨s,d,e⟩;have c:E s≠0:=by omega
  have:=b s c;exact ⟨(s,E s),bi.2 ⟨by show s<W;omega,c,rfl⟩,by rw [Bool.and_eq_true,decide_eq_true_eq,decide_eq_true_eq];exact ⟨d,e⟩⟩
def gl (lo hi:Nat) (w:World) (t W k:Nat) (f:Nat->Bool):Prop:=
 ∃b1 g1 x b gb v nb,(∀i,i=t∨i=b1∨i=g1∨i=x∨i=b∨i=gb∨v.ownBlock=some i->lo<=i∧i<hi)∧aj w t [.pointer (some ⟨b1,0,none⟩),.pointer (some ⟨x,0,none⟩)] 341∧(∃ws,aW w b1 g1 W ws∧∀j,aw ws j=f j)∧
  bQ w x b gb v W k nb f∧W<=nb*k∧(nb-1)*k<W∧1<=nb∧1<=k∧k<=1024
theorem gl.frame {lo c:Nat} {S:Nat->Prop} {w w':World} {t W k:Nat} {f:Nat->Bool} (h:gl lo c w t W k f) (hf:Fr S w w') (j:∀i,S i->i<lo∨c<=i):gl lo c w' t W k f:=by
 obtain ⟨e,g1,x,b,gb,v,nb,d,m,⟨ws,n,o⟩,p,q⟩:=h;have a:∀i,(i=t∨i=e∨i=g1∨i=x∨i=b∨i=gb∨v.ownBlock=some i)->¬S i:=fun i c l=>by
  have:=d i c;rcases j i l with h|h<;>omega
 refine ⟨e,g1,x,b,gb,v,nb,d,m.frame hf (a _ (by simp)),⟨ws,n.frame hf (a _ (by simp)) (a _ (by simp)),o⟩,p.frame hf (a _ (by simp)) (a _ (by simp)) (a _ (by simp)) (fun g hg=>a g (by simp [hg])),q⟩
def oX (L:aI) (W:Nat) (E:Nat->Nat) (tb lb b1 g1:Nat) (pre:List (Nat×Nat)) (S:Nat->Prop) (w:World):Prop:=
 (S=fun k=>k=g1)∧kH L tb W E w∧aj w lb [.pointer (some ⟨b1,0,none⟩)] 211∧∃ws,aW w b1 g1 W ws∧∀j,aw ws j=iH pre j
theorem oX.stays {L:aI} {W:Nat} {E:Nat->Nat} {tb lb b g1 B:Nat} (j:∀k,L.has k->k<B) (d:tb<B) (e:lb<B) (f:b<B) (g:1<B):cE B (oX L W E tb lb b g1):=by
 rintro m S W1 t T ⟨rfl,⟨n,o,p⟩,q,ws,r,s⟩ hf c;have a:∀i,i<B->¬T i:=fun i u h=>by have:=(c i h).1;omega
 exact ⟨rfl,⟨n.frame hf (fun k l=>a k (j k l)),ak o hf (a _ g),p.frame hf (a _ d)⟩,q.frame hf (a _ e),ws,r.frame hf (a _ f) (fun h=>(c _ h).2 rfl),s⟩
end
end Go.Proofs.YthahbijbpinneaaGreatDoor
