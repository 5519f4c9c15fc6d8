import Derived.Test.YthahbijbpinneaaGreatDoorA0
import Derived.Test.YthahbijbpinneaaGreatDoorA1
import Derived.Test.YthahbijbpinneaaGreatDoorA4
set_option maxRecDepth 100000
set_option maxHeartbeats 8000000
set_option linter.all false
namespace Go.Proofs.YthahbijbpinneaaGreatDoor
open Go.RowKit
theorem kh {w:World} {g cap n:Nat} {c xs:List Value} {e:TypeId} (h:aj w g c e) (b:c.length=cap) (i:n<=cap) (f:cap<=maxLen) (a:c.take n=xs):w.ownsRow 0 e 1 (.slice (some ⟨g,0,none⟩) n cap) n xs:=by
 have d:xs.length=n:=by rw [<-a,List.length_take];omega
 exact ⟨by simp [d],.inr ⟨g,cap,c.toArray,rfl,Nat.zero_le _,h,i,f,by simp [b],by simpa using a⟩⟩
theorem gx {w:World} {g cap n:Nat} {xs:List Value} {e:TypeId} (h:w.ownsRow 0 e 1 (.slice (some ⟨g,0,none⟩) n cap) n xs):∃c,aj w g c e∧c.length=cap∧n<=cap∧cap<=maxLen∧c.take n=xs:=by
 obtain ⟨m,d⟩:=h;rcases d with ⟨b,_⟩|⟨g',a,cur,l,_,hg,i,f,j,k⟩
 ·cases b
 ·cases l
  exact ⟨cur.toList,by unfold aj;simpa using hg,by simpa using j,i,f,by simpa using k⟩
theorem dU {w:World} {n:Nat} {v:Value} {xs:List Value} {e:TypeId} (h:w.ownsRow 0 e 1 v n xs) (f:1<=n):∃g cap,v= .slice (some ⟨g,0,none⟩) n cap∧n<=cap∧cap<=9223372036854775807∧g<w.heap.size:=by
 rcases h.2 with ⟨_,d⟩|⟨g,cap,cur,c,_,hg,a,b,_⟩
 ·omega
 ·exact ⟨g,cap,c,a,by unfold maxLen at b;omega,(Array.getElem?_eq_some_iff.1 hg).1⟩
theorem gA {w:World} {g cap n j:Nat} {xs:List Value} {e:TypeId} {u:Value} (h:w.ownsRow 0 e 1 (.slice (some ⟨g,0,none⟩) n cap) n xs) (a:xs[j]? =some u):w.cell? ⟨g,j,none⟩=some u∧w.frozen? ⟨g,j,none⟩=false:=by
 obtain ⟨c,b,f,l,k,d⟩:=gx h;refine ⟨b.cell j ?_,b.free j⟩;have i:=(List.getElem?_eq_some_iff.1 a).1;rw [<-d,List.getElem?_take] at a;split at a
 ·exact a
 ·cases a
theorem mE {w:World} {g cap n j:Nat} {xs:List Value} {e:TypeId} (u:Value) (h:w.ownsRow 0 e 1 (.slice (some ⟨g,0,none⟩) n cap) n xs) (k:j<n):(w.setCell ⟨g,j,none⟩ u).ownsRow 0 e 1 (.slice (some ⟨g,0,none⟩) n cap) n (xs.set j u):=by
 obtain ⟨c,a,b,f,d,i⟩:=gx h;refine kh (a.set j u) (by rw [List.length_set];exact b) f d ?_;rw [<-i,List.take_set]
theorem dc {w:World} {v l:Value} {n q s s':Nat} {xs f:List Value} {e k:TypeId} {b m:Nat} (h:w.ownsRow b e s v n xs) (o:w.ownsRow m k s' l q f) (p:e≠k) {g:Nat} (hg:v.ownBlock=some g):l.ownBlock≠some g:=by
 intro a;rcases h.2 with ⟨rfl,_⟩|⟨g1,c1,i,rfl,_,d,_⟩
 ·cases hg
 ·rcases o.2 with ⟨rfl,_⟩|⟨r,c2,j,rfl,_,c,_⟩
  ·cases a
  ·simp only [Value.ownBlock,Option.some.injEq] at hg a;subst hg;subst a;rw [d] at c;simp only [Option.some.injEq,Obj.cells.injEq] at c;exact p c.2.1
theorem bP {w:World} {v:Value} {n s b k:Nat} {xs c:List Value} {e t:TypeId} (h:w.ownsRow b e s v n xs) (a:aj w k c t) (g:e≠t):v.ownBlock≠some k:=by
 intro hg;rcases h.2 with ⟨rfl,_⟩|⟨g1,c1,f,rfl,_,d,_⟩
 ·cases hg
 ·simp only [Value.ownBlock,Option.some.injEq] at hg;subst hg;unfold aj at a;rw [d] at a;simp only [Option.some.injEq,Obj.cells.injEq] at a;exact g a.2.1
structure ba (w:World) (p:Nat) (vw vt vb:Value) (ws:List Nat) (tk:List Bool) (bk:List Nat) (Rm Pg Us Hg:Nat) (Tm:Int):Prop where
 blk:aj w p [vw,vt,vb,.int .i64 Rm,.int .i64 Pg,.int .i64 Us,.int .i64 Hg,.int .i64 Tm] 307
 rw:w.ownsRow 0 46 1 vw ws.length (bB ws)
 rt:w.ownsRow 0 4 1 vt tk.length (tk.map Value.bool)
 rb:w.ownsRow 0 3 1 vb bk.length (bk.map fun (f:Nat)=>Value.int .i64 f)
 len:ws.length=tk.length*Pg
 lt:∀x∈ws,x<18446744073709551616
 cnt:Us+bk.length=tk.length
 free:∀f∈bk,tk[f]? =some false
 nd:bk.Nodup
 most:tk.length<=Rm
 room1:Rm<=4096
 page1:1<=Pg
 page2:Pg<=256
 high1:Hg<=Rm
def bq (p:Nat) (vw vt vb:Value) (k:Nat):Prop:=k=p∨vw.ownBlock=some k∨vt.ownBlock=some k∨vb.ownBlock=some k
theorem ba.frame {S:Nat->Prop} {w w':World} {p Rm Pg Us Hg:Nat} {f:Int} {e d c:Value} {ws:List Nat} {i:List Bool} {g:List Nat} (h:ba w p e d c ws i g Rm Pg Us Hg f) (hf:Fr S w w') (b:∀k,bq p e d c k->¬S k):ba w' p e d c ws i g Rm Pg Us Hg f:=
 ⟨h.blk.frame hf (b _ (.inl rfl)),an h.rw hf (fun k a=>b k (.inr (.inl a))),an h.rt hf (fun k a=>b k (.inr (.inr (.inl a)))),an h.rb hf (fun k a=>b k (.inr (.inr (.inr a)))),h.len,h.lt,h.cnt,h.free,h.nd,h.most,h.room1,h.page1,h.page2,h.high1⟩
section
variable {w:World} {p Rm Pg Us Hg:Nat} {Tm:Int} {vw vt vb:Value} {ws:List Nat} {tk:List Bool} {bk:List Nat}
theorem iL (h:ba w p vw vt vb ws tk bk Rm Pg Us Hg Tm):Calls Tryz.prog 210 #[p] w fun e w'=>e= .returned (.int .i64 Pg)∧w=w':=by
 have c:=h.blk.cell 4 rfl;clear h
 go_enter Tryz.func210,Tryz.ntmps210
 go_wp2;go_ret;exact ⟨rfl,rfl⟩
theorem sy (h:ba w p vw vt vb ws tk bk Rm Pg Us Hg Tm):Calls Tryz.prog 236 #[p] w fun e w'=>e= .returned (.int .i64 Rm)∧w=w':=by
 have c:=h.blk.cell 3 rfl;clear h
 go_enter Tryz.func236,Tryz.ntmps236
 go_wp2;go_ret;exact ⟨rfl,rfl⟩
theorem sB (h:ba w p vw vt vb ws tk bk Rm Pg Us Hg Tm):Calls Tryz.prog 159 #[p] w fun e w'=>e= .returned (.int .i64 Us)∧w=w':=by
 have c:=h.blk.cell 5 rfl;clear h
 go_enter Tryz.func159,Tryz.ntmps159
 go_wp2;go_ret;exact ⟨rfl,rfl⟩
theorem sn (h:ba w p vw vt vb ws tk bk Rm Pg Us Hg Tm):Calls Tryz.prog 160 #[p] w fun e w'=>e= .returned (.int .i64 Hg)∧w=w':=by
 have c:=h.blk.cell 6 rfl;clear h
 go_enter Tryz.func160,Tryz.ntmps160
 go_wp2;go_ret;exact ⟨rfl,rfl⟩
theorem lh (h:ba w p vw vt vb ws tk bk Rm Pg Us Hg Tm) (f:Nat) (hf:tk[f]? =some true):Calls Tryz.prog 256 #[p,.int .i64 f] w fun e w'=>e= .returned (.int .i64 0)∧w=w':=by
 have a:=(List.getElem?_eq_some_iff.1 hf).1;obtain ⟨g,cap,rfl,_⟩:=dU h.rt (by omega);have c1:=h.blk.cell 1 rfl;have c2:=(gA (j:=f) h.rt (by rw [List.getElem?_map,hf];rfl)).1;generalize tk.length=n at*;have b:(f:Int)<(n:Int):=by omega
 clear h hf
 go_enter Tryz.func256,Tryz.ntmps256
 go_wp2;go_ret;exact ⟨rfl,rfl⟩
theorem du {f n Pg:Nat} (hf:f<n):f*Pg+Pg<=n*Pg:=by
 have:=Nat.mul_le_mul_right Pg hf;rw [Nat.succ_mul] at this;exact this
theorem jP {g n cap:Nat} (m:w.cell? ⟨p,0,none⟩=some (.slice (some ⟨g,0,none⟩) n cap)) (o:w.cell? ⟨p,4,none⟩=some (.int .i64 Pg)) (d:1<=Pg) (f:Nat) (c:f*Pg+Pg<=n) (q:n<=cap) (a:cap<=9223372036854775807):Calls Tryz.prog 280 #[p,.int .i64 f] w fun e w'=>e= .returned (.slice (some ⟨g,f*Pg,none⟩) Pg Pg)∧w=w':=by
 have b:(f:Int)*(Pg:Int)=((f*Pg:Nat):Int):=by simp
 generalize f*Pg=F at*;have h:(F:Int)+(Pg:Int)<=(n:Int):=by omega
 have i:(n:Int)<=(cap:Int):=by omega
 have j:(cap:Int)<=9223372036854775807:=by omega
 have k:(1:Int)<=(Pg:Int):=by omega
 have l:(0:Int)<=(F:Int):=by omega
 go_enter Tryz.func280,Tryz.ntmps280
 go_wp2;go_ret;exact ⟨by simp,rfl⟩
theorem pA (h:ba w p vw vt vb ws tk bk Rm Pg Us Hg Tm) (f:Nat) (hf:f<tk.length):Calls Tryz.prog 280 #[p,.int .i64 f] w fun e w'=>(∃g cap,vw= .slice (some ⟨g,0,none⟩) ws.length cap∧e= .returned (.slice (some ⟨g,f*Pg,none⟩) Pg Pg))∧w=w':=by
 have i:=du (Pg:=Pg) hf;have c:=h.len;have b:=h.page1;obtain ⟨g,cap,rfl,d,a,_⟩:=dU h.rw (by omega);refine (jP (h.blk.cell 0 rfl) (h.blk.cell 4 rfl) b f (by omega) d a).mono ?_;rintro e w' ⟨rfl,rfl⟩;exact ⟨⟨g,cap,rfl,rfl⟩,rfl⟩
end
theorem lr:(Tryz.prog.info? 4).map (fun i=>(i.zero,i.size,i.bytes))=some (some (.bool false),1,1):=by kernel_rfl
section
variable {w:World} {p Rm Pg Us Hg:Nat} {Tm:Int} {vw vt vb:Value} {ws:List Nat} {tk:List Bool} {bk:List Nat}
theorem jx {f n Pg i l:Nat} (hf:f<n) (a:i<Pg) (b:l=n*Pg):f*Pg+i<l:=by
 have:=du (Pg:=Pg) hf;omega
theorem ba.word (h:ba w p vw vt vb ws tk bk Rm Pg Us Hg Tm) {f i:Nat} (hf:tk[f]? =some true) (k:i<Pg):∃g cap x,vw= .slice (some ⟨g,0,none⟩) ws.length cap∧ws[f*Pg+i]? =some x∧x<18446744073709551616∧w.cell? ⟨g,f*Pg+i,none⟩=some (.int .u64 x)∧w.frozen? ⟨g,f*Pg+i,none⟩=false:=by
 have a:=(List.getElem?_eq_some_iff.1 hf).1;have b:=jx a k h.len;obtain ⟨x,c⟩:∃x,ws[f*Pg+i]? =some x:=⟨_,List.getElem?_eq_getElem b⟩;obtain ⟨g,cap,e,_⟩:=dU h.rw (by omega);have d:=h.rw;rw [e] at d;have:=gA d (j:=f*Pg+i) (u:= .int .u64 x) (by unfold bB;rw [List.getElem?_map,c];rfl);exact ⟨g,cap,x,e,c,h.lt x (List.mem_of_getElem? c),this.1,this.2⟩
theorem nK (h:ba w p vw vt vb ws tk bk Rm Pg Us Hg Tm) (f i:Nat) (hf:tk[f]? =some true) (l:i<Pg):Calls Tryz.prog 286 #[p,.int .i64 f,.int .i64 i] w fun e w'=>(∃g cap,vw= .slice (some ⟨g,0,none⟩) ws.length cap∧e= .returned (.tuple #[.pointer (some ⟨g,f*Pg+i,none⟩),.int .i64 0]))∧w=w':=by
 have c:=ae (lh h f hf);have a:=ae (pA h f (List.getElem?_eq_some_iff.1 hf).1);have k:=h.blk.cell 4 rfl;have j:(i:Int)<(Pg:Int):=by omega
 clear h hf
 go_enter Tryz.func286,Tryz.ntmps286
 go_wp2_with fail
 refine (c.out).mono ?_;rintro e w' ⟨rfl,rfl⟩;go_wp2_with fail
 refine (a.out).mono ?_;rintro e w' ⟨⟨g,cap,b,rfl⟩,rfl⟩;have d:=ae b;clear b;go_wp2;go_ret2;exact ⟨⟨g,cap,d.out,rfl⟩,rfl⟩
theorem uJ (h:ba w p vw vt vb ws tk bk Rm Pg Us Hg Tm) (f i:Nat) (hf:tk[f]? =some true) (d:i<Pg):Calls Tryz.prog 264 #[p,.int .i64 f,.int .i64 i] w fun e w'=>e= .returned (.tuple #[.int .u64 ((ws.getD (f*Pg+i) 0:Nat):Int),.int .i64 0])∧w=w':=by
 have b:=ae (nK h f i hf d);obtain ⟨g,cap,x,rfl,j,_,l,_⟩:=h.word hf d;have a:ws.getD (f*Pg+i) 0=x:=by rw [List.getD_eq_getElem?_getD,j];rfl
 rw [a];clear h hf j a
 go_enter Tryz.func264,Tryz.ntmps264
 go_wp2_with fail
 refine (b.out).mono ?_;rintro e w' ⟨⟨g',c,k,rfl⟩,rfl⟩
 cases k
 go_wp2;go_ret2;exact ⟨rfl,rfl⟩
theorem ba.stored (h:ba w p vw vt vb ws tk bk Rm Pg Us Hg Tm) {f i g cap x:Nat} (hf:tk[f]? =some true) (o:i<Pg) (m:vw= .slice (some ⟨g,0,none⟩) ws.length cap) (q:x<18446744073709551616):
  ba (w.setCell ⟨g,f*Pg+i,none⟩ (.int .u64 x)) p vw vt vb (ws.set (f*Pg+i) x) tk bk Rm Pg Us Hg Tm∧Fr (fun k=>vw.ownBlock=some k) w (w.setCell ⟨g,f*Pg+i,none⟩ (.int .u64 x)):=by
 have j:=(List.getElem?_eq_some_iff.1 hf).1;have l:=jx j o h.len;have hg:vw.ownBlock=some g:=by rw [m];rfl
 have a:Fr (fun k=>k=g) w (w.setCell ⟨g,f*Pg+i,none⟩ (.int .u64 x)):=(Fr.refl (fun k=>k=g) w).setCell ⟨g,f*Pg+i,none⟩ (.inl rfl) _;have n:=h.rw;rw [m] at n;have b:=mE (.int .u64 x) n l;have s:=dc h.rw h.rt (by decide) hg;have t:=dc h.rw h.rb (by decide) hg;have u:=bP h.rw h.blk (by decide);refine ⟨⟨h.blk.frame a (fun e=>u (by rw [hg,e])),?_,an h.rt a (fun k c e=>s (by rw [c,e])),an h.rb a (fun k c e=>t (by rw [c,e])),by rw [List.length_set];exact h.len,?_,h.cnt,h.free,h.nd,h.most,h.room1,h.page1,h.page2,h.high1⟩,a.mono (fun k c=> .inl (by rw [c];exact hg))⟩
 ·rw [m,List.length_set];unfold bB at b ⊢;rw [List.map_set];exact b
 ·intro y r;rcases List.mem_or_eq_of_mem_set r with d|d
  ·exact h.lt y d
  ·rw [d];exact q
theorem sA (h:ba w p vw vt vb ws tk bk Rm Pg Us Hg Tm) (f i x:Nat) (hf:tk[f]? =some true) (j:i<Pg) (m:x<18446744073709551616):Calls Tryz.prog 265 #[p,.int .i64 f,.int .i64 i,.int .u64 x] w fun e w'=>e= .returned (.int .i64 0)∧ba w' p vw vt vb (ws.set (f*Pg+i) x) tk bk Rm Pg Us Hg Tm∧Fr (fun k=>vw.ownBlock=some k) w w':=by
 have d:=ae (nK h f i hf j);obtain ⟨g,cap,y,c,n,_,q,r⟩:=h.word hf j;have a:=ae (h.stored hf j c m);clear h hf n m
 go_enter Tryz.func265,Tryz.ntmps265
 go_wp2_with fail
 refine (d.out).mono ?_;rintro e w' ⟨⟨g',l,b,rfl⟩,rfl⟩;rw [c] at b
 cases b
 have o:=ae c;clear c;go_wp2;go_ret;exact ⟨rfl,a.out.1,a.out.2⟩
end
section
variable {w:World} {p Rm Pg Us Hg:Nat} {Tm:Int} {vw vt vb:Value} {ws:List Nat} {tk:List Bool} {bk:List Nat}
theorem ba.give1 (h:ba w p vw vt vb ws tk bk Rm Pg Us Hg Tm) {f g cap:Nat} (hf:f<tk.length) (i:vt= .slice (some ⟨g,0,none⟩) tk.length cap) (b:Bool):
  aj (w.setCell ⟨g,f,none⟩ (.bool b)) p [vw,vt,vb,.int .i64 Rm,.int .i64 Pg,.int .i64 Us,.int .i64 Hg,.int .i64 Tm] 307∧
  (w.setCell ⟨g,f,none⟩ (.bool b)).ownsRow 0 46 1 vw ws.length (bB ws)∧(w.setCell ⟨g,f,none⟩ (.bool b)).ownsRow 0 4 1 vt (tk.set f b).length ((tk.set f b).map Value.bool)∧
  (w.setCell ⟨g,f,none⟩ (.bool b)).ownsRow 0 3 1 vb bk.length (bk.map fun (f:Nat)=>Value.int .i64 f)∧Fr (fun k=>vt.ownBlock=some k) w (w.setCell ⟨g,f,none⟩ (.bool b)):=by
 have hg:vt.ownBlock=some g:=by rw [i];rfl
 have a:Fr (fun k=>k=g) w (w.setCell ⟨g,f,none⟩ (.bool b)):=(Fr.refl (fun k=>k=g) w).setCell ⟨g,f,none⟩ (.inl rfl) _;have j:=h.rt;rw [i] at j;have d:=mE (.bool b) j hf;have l:=dc h.rt h.rw (by decide) hg;have m:=dc h.rt h.rb (by decide) hg;have n:=bP h.rt h.blk (by decide);refine ⟨h.blk.frame a (fun e=>n (by rw [hg,e])),an h.rw a (fun k c e=>l (by rw [c,e])),?_,an h.rb a (fun k c e=>m (by rw [c,e])),a.mono (fun k c=> .inl (by rw [c];exact hg))⟩;rw [List.length_set,List.map_set,i];exact d
def tZ (w:World) (p:Nat) (vw vt vb:Value) (ws:List Nat) (tk:List Bool) (bk:List Nat) (Rm Pg Us Hg:Nat) (Tm:Int) (f:Nat) (e:Ending) (w':World):Prop:=
 e= .returned (.int .i64 0)∧∃vb',ba w' p vw vt vb' ws (tk.set f false) (bk++[f]) Rm Pg (Us-1) Hg Tm∧Fr (bq p vw vt vb) w w'∧∀g,vb'.ownBlock=some g->vb.ownBlock=some g∨w.heap.size<=g
theorem uL {tk:List Bool} {f g:Nat} (h:tk[g]? =some false):(tk.set f false)[g]? =some false:=by
 rw [List.getElem?_set];by_cases e:f=g
 ·subst e;rw [if_pos rfl,if_pos (List.getElem?_eq_some_iff.1 h).1]
 ·rw [if_neg e];exact h
theorem ba.give2 {w1 w2 w3 W:World} {f g cap:Nat} (h:ba w p vw vt vb ws tk bk Rm Pg Us Hg Tm) (hf:tk[f]? =some true) (F:1<=Us)
  (i:aj w1 p [vw,vt,vb,.int .i64 Rm,.int .i64 Pg,.int .i64 Us,.int .i64 Hg,.int .i64 Tm] 307)
  (u:w1.ownsRow 0 46 1 vw ws.length (bB ws)) (s:w1.ownsRow 0 4 1 vt (tk.set f false).length ((tk.set f false).map Value.bool)) (r:w1.ownsRow 0 3 1 vb bk.length (bk.map fun (f:Nat)=>Value.int .i64 f)) (v:Fr (fun k=>vt.ownBlock=some k) w w1)
  (j:Fr (fun _=>False) w1 w2) (y:w3.ownsRow 0 3 1 (.slice (some ⟨g,0,none⟩) (bk.length+1) cap) (bk.length+1) ((bk.map fun (f:Nat)=>Value.int .i64 f)++[.int .i64 f])) (n:Fr (fun k=>vb.ownBlock=some k) w2 w3) (hg:vb.ownBlock=some g∨w2.heap.size<=g):
  aj w3 p [vw,vt,vb,.int .i64 Rm,.int .i64 Pg,.int .i64 Us,.int .i64 Hg,.int .i64 Tm] 307∧
  ∀W,W=(w3.setCell ⟨p,2,none⟩ (.slice (some ⟨g,0,none⟩) (bk.length+1) cap)).setCell ⟨p,5,none⟩ (.int .i64 ((Us:Int)-1))->
   ba W p vw vt (.slice (some ⟨g,0,none⟩) (bk.length+1) cap) ws (tk.set f false) (bk++[f]) Rm Pg (Us-1) Hg Tm∧Fr (bq p vw vt vb) w W∧∀g',(Value.slice (some ⟨g,0,none⟩) (bk.length+1) cap).ownBlock=some g'->vb.ownBlock=some g'∨w.heap.size<=g':=by
 have o:=(List.getElem?_eq_some_iff.1 hf).1;have nb:=bP r i (by decide);have nw:∀k,vw.ownBlock=some k->vb.ownBlock≠some k:=fun k c=>dc u r (by decide) c
 have E:∀k,vt.ownBlock=some k->vb.ownBlock≠some k:=fun k c=>dc s r (by decide) c
 have l:=(i.frame j (fun h=>h)).frame n nb;refine ⟨l,?_⟩;rintro W rfl;have A:=v.size;have B:=j.size;have z:=i.lt;have q:g≠p:=fun e=>by
  rcases hg with hg|hg
  ·exact nb (by rw [hg,e])
  ·omega
 have d:Fr (fun k=>k=p) w3 ((w3.setCell ⟨p,2,none⟩ (.slice (some ⟨g,0,none⟩) (bk.length+1) cap)).setCell ⟨p,5,none⟩ (.int .i64 ((Us:Int)-1))):=((Fr.refl (fun k=>k=p) w3).setCell ⟨p,2,none⟩ (.inl rfl) _).setCell ⟨p,5,none⟩ (.inl rfl) _;have D:=bP u i (by decide);have C:=bP s i (by decide);have t:((Us-1:Nat):Int)=(Us:Int)-1:=by omega
 refine ⟨⟨?_,?_,?_,?_,by rw [List.length_set];exact h.len,h.lt,?_,?_,?_,by rw [List.length_set];exact h.most,h.room1,h.page1,h.page2,h.high1⟩,?_,?_⟩
 ·rw [t];exact (l.set 2 _).set 5 _
 ·exact an (an (an u j (fun _ _ h=>h)) n nw) d (fun k c e=>D (by rw [c,e]))
 ·exact an (an (an s j (fun _ _ h=>h)) n E) d (fun k c e=>C (by rw [c,e]))
 ·have:=an y d (fun k c e=>q (by simp only [Value.ownBlock,Option.some.injEq] at c;omega));rw [List.length_append,List.length_singleton,List.map_append];exact this
 ·have:=h.cnt;rw [List.length_append,List.length_singleton,List.length_set];omega
 ·intro k c;rcases List.mem_append.1 c with c|c
  ·exact uL (h.free k c)
  ·rw [List.mem_singleton] at c;rw [c,List.getElem?_set,if_pos rfl,if_pos o]
 ·rw [List.nodup_append];refine ⟨h.nd,by simp,?_⟩;intro a x b i e;rw [List.mem_singleton] at i;subst i;subst e;have:=h.free a x;rw [hf] at this;cases this
 ·exact (((v.mono (S':=bq p vw vt vb) (fun k c=> .inl (.inr (.inr (.inl c))))).trans j (fun _ h=>h.elim)).trans n (fun k c=> .inl (.inr (.inr (.inr c))))).trans d (fun k c=> .inl (.inl c))
 ·intro g' m;simp only [Value.ownBlock,Option.some.injEq] at m;subst m;rcases hg with hg|hg
  ·exact .inl hg
  ·exact .inr (by omega)
theorem uG (h:ba w p vw vt vb ws tk bk Rm Pg Us Hg Tm) (f:Nat) (hf:tk[f]? =some true) (U:1<=Us):Calls Tryz.prog 214 #[p,.int .i64 f] w (tZ w p vw vt vb ws tk bk Rm Pg Us Hg Tm f):=by
 have C:=ae (lh h f hf);have k:=(List.getElem?_eq_some_iff.1 hf).1;obtain ⟨g,cap,r,_⟩:=dU h.rt (by omega);obtain ⟨X,Q,z,A,B⟩:=info_parts dQ;have c1:=h.blk.cell 1 rfl;have c:=h.rt;rw [r] at c c1;have c2:=(gA (j:=f) c (by rw [List.getElem?_map,hf];rfl)).1;have I:=(gA (j:=f) c (by rw [List.getElem?_map,hf];rfl)).2;have s:=ae (h.give1 k r false);have G:=ae (fun w1 w2 w3 g cap N V T c K L q M hg=>ba.give2 (w1:=w1) (w2:=w2) (w3:=w3) (W:=w3) (g:=g) (cap:=cap) h hf U N V T c K L q M hg);have P:=h.cnt;have R:=h.most;have y:=h.room1;have O:bk.length<=4096:=by omega
 generalize S:tk.length=n at*;have Z:(f:Int)<(n:Int):=by omega
 have b2:(1:Int)<=(Us:Int):=by omega
 have b3:(Us:Int)<=4096:=by omega
 have Y:=ae r;clear h hf c P R y k r S
 go_enter Tryz.func214,Tryz.ntmps214
 go_wp2_with fail
 refine (C.out).mono ?_;rintro e w' ⟨rfl,rfl⟩
 go_upto_region 5 with fail
 obtain ⟨w1,m⟩:∃w1,w.setCell ⟨g,f,none⟩ (.bool false)=w1:=⟨_,rfl⟩;rw [m] at s ⊢;obtain ⟨t,D,E,u,v⟩:=s.out;have J:=t.cell 2 rfl;have hz:=v.size;have d:=ae (af t (af D (af E (af u v))));clear t D E v s m c1 c2 I C;go_wp2_with (at_builtin;refine Hid.out ?_)
 unfold Hid;have b:Fr (fun _=>False) w1 (w1.alloc (.cells #[.int .i64 f] 3)):=(Fr.refl _ w1).alloc _;refine bL rfl _ _ 123 rfl 3 X (.int .i64 0) 8 Tryz.underlying123 Q z A B rfl vb bk.length _ rfl (an u b (fun _ _ h=>h)) ⟨w1.heap.size,0,none⟩ _ (.int .i64 f) rfl ((aj.new w1 [.int .i64 f] 3).cell 0 rfl) rfl (by unfold maxLen;omega) (by omega) ?_;intro x a w3 q i l;obtain ⟨o,F⟩:=G.out w1 _ w3 x a d.out.1 d.out.2.1 d.out.2.2.1 d.out.2.2.2.1 d.out.2.2.2.2 b q i l;have d2:=o.cell 2 rfl;have e2:=o.free 2;have d5:=(o.set 2 (.slice (some ⟨x,0,none⟩) (bk.length+1) a)).cell 5 rfl;have e5:=(o.set 2 (.slice (some ⟨x,0,none⟩) (bk.length+1) a)).free 5;have H:=ae F;clear b q i l u o F J;go_wp2;go_ret;exact ⟨rfl,_,H.out _ rfl⟩
end
section
variable {w:World} {p Rm Pg Us Hg:Nat} {Tm:Int} {vw vt vb:Value} {ws:List Nat} {tk:List Bool} {bk:List Nat}
structure jn (w w':World) (p:Nat) (vw vt vb:Value) (ws:List Nat) (tk:List Bool) (Rm Pg Us Hg:Nat) (Tm:Int) (f:Nat) (vw' vt' vb':Value) (ws':List Nat) (tk':List Bool) (bk':List Nat):Prop where
 blk:aj w' p [vw',vt',vb',.int .i64 Rm,.int .i64 Pg,.int .i64 Us,.int .i64 Hg,.int .i64 Tm] 307
 rw:w'.ownsRow 0 46 1 vw' ws'.length (bB ws')
 rt:w'.ownsRow 0 4 1 vt' tk'.length (tk'.map Value.bool)
 rb:w'.ownsRow 0 3 1 vb' bk'.length (bk'.map fun (f:Nat)=>Value.int .i64 f)
 len:ws'.length=tk'.length*Pg
 lt:∀x∈ws',x<18446744073709551616
 cnt:Us+1+bk'.length=tk'.length
 free:∀g∈bk',tk'[g]? =some false
 nd:bk'.Nodup
 most:tk'.length<=Rm
 new:f∉bk'
 none:tk'[f]? =some false
 old:∀g,tk[g]? =some true->tk'[g]? =some true∧g≠f∧∀i,i<Pg->ws'.getD (g*Pg+i) 0=ws.getD (g*Pg+i) 0
 was:tk[f]? ≠some true
 fr:Fr (bq p vw vt vb) w w'
 own:∀g,bq p vw' vt' vb' g->bq p vw vt vb g∨w.heap.size<=g
def ix (w:World) (p:Nat) (vw vt vb:Value) (ws:List Nat) (tk:List Bool) (Rm Pg Us Hg:Nat) (Tm:Int) (e:Ending) (w':World):Prop:=
 ∃f vw' vt' vb' ws' tk' bk',e= .returned (.int .i64 ((f:Nat):Int))∧jn w w' p vw vt vb ws tk Rm Pg Us Hg Tm f vw' vt' vb' ws' tk' bk'
theorem pH {w1:World} {f g cap:Nat} {a:List Nat} (h:ba w p vw vt (.slice (some ⟨g,0,none⟩) (a.length+1) cap) ws tk (a++[f]) Rm Pg Us Hg Tm) (m:w1=w.setCell ⟨p,2,none⟩ (.slice (some ⟨g,0,none⟩) a.length cap)):
  jn w w1 p vw vt (.slice (some ⟨g,0,none⟩) (a.length+1) cap) ws tk Rm Pg Us Hg Tm f vw vt (.slice (some ⟨g,0,none⟩) a.length cap) ws tk a:=by
 have c:Fr (fun k=>k=p) w w1:=by rw [m];exact (Fr.refl (fun k=>k=p) w).setCell ⟨p,2,none⟩ (.inl rfl) _
 have nw:=bP h.rw h.blk (by decide);have n:=bP h.rt h.blk (by decide);have nb:=bP h.rb h.blk (by decide);have j:=h.nd;rw [List.nodup_append] at j;have l:=h.rb;rw [List.length_append,List.length_singleton,List.map_append,List.map_singleton] at l;have d:=h.free f (by simp);refine ⟨by rw [m];exact h.blk.set 2 _,an h.rw c (fun k i e=>nw (by rw [i,e])),an h.rt c (fun k i e=>n (by rw [i,e])),an (eQ l).1 c (fun k i e=>nb (by simp only [Value.ownBlock,Option.some.injEq] at i ⊢;omega)),h.len,h.lt,?_,fun g' b=>h.free g' (by simp [b]),j.1,h.most,?_,d,?_,by rw [d];simp,c.mono (fun k i=> .inl (.inl i)),?_⟩
 ·have:=h.cnt;rw [List.length_append,List.length_singleton] at this;omega
 ·intro hf;exact j.2.2 f hf f (by simp) rfl
 ·exact fun g' b=>⟨b,fun e=>by (rw [e,d] at b;cases b),fun _ _=>rfl⟩
 ·rintro k (h|h|h|h)
  ·exact .inl (.inl h)
  ·exact .inl (.inr (.inl h))
  ·exact .inl (.inr (.inr (.inl h)))
  ·exact .inl (.inr (.inr (.inr h)))
theorem nI (h:ba w p vw vt vb ws tk bk Rm Pg Us Hg Tm) (c:bk≠[]):Calls Tryz.prog 279 #[p] w (ix w p vw vt vb ws tk Rm Pg Us Hg Tm):=by
 obtain ⟨a,f,rfl⟩:∃l x,bk=l++[x]:=⟨_,_,(List.dropLast_concat_getLast c).symm⟩;have d:(a++[f]).length=a.length+1:=by simp
 have b:=h.rb;rw [d] at b;obtain ⟨g,cap,rfl,i,j,_⟩:=dU b (by omega);rw [List.map_append,List.map_singleton] at b;have c2:=h.blk.cell 2 rfl;have r:=h.blk.free 2;have q:=(eQ b).2;have e:=ae (fun w1 k=>pH (w1:=w1) h k);generalize a.length=n at*;have m:(n:Int)+1<=(cap:Int):=by omega
 have o:(cap:Int)<=9223372036854775807:=by omega
 clear h c d b
 go_enter Tryz.func279,Tryz.ntmps279
 go_wp2;go_ret;exact ⟨f,_,_,_,_,_,_,rfl,e.out _ rfl⟩
theorem ss {w1 w2:World} {g1 cap1:Nat} (h:ba w p vw vt vb ws tk [] Rm Pg Us Hg Tm) (J:Us<Rm)
  (d:Fr (fun _=>False) w w1) (G:w2.ownsRow 0 4 1 (.slice (some ⟨g1,0,none⟩) (tk.length+1) cap1) (tk.length+1) (tk.map Value.bool++[.bool false])) (c:Fr (fun k=>vt.ownBlock=some k) w1 w2) (z:vt.ownBlock=some g1∨w1.heap.size<=g1):
  aj w2 p [vw,vt,vb,.int .i64 Rm,.int .i64 Pg,.int .i64 Us,.int .i64 Hg,.int .i64 Tm] 307∧
  ∀w3,w3=w2.setCell ⟨p,1,none⟩ (.slice (some ⟨g1,0,none⟩) (tk.length+1) cap1)->
   aj w3 p [vw,.slice (some ⟨g1,0,none⟩) (tk.length+1) cap1,vb,.int .i64 Rm,.int .i64 Pg,.int .i64 Us,.int .i64 Hg,.int .i64 Tm] 307∧w3.ownsRow 0 46 1 vw ws.length (bB ws)∧
   ∀w4 o b,w4.ownsRow 0 46 1 (.slice (some ⟨o,0,none⟩) (ws.length+Pg) b) (ws.length+Pg) (bB ws++List.replicate Pg (.int .u64 0))->Fr (fun k=>vw.ownBlock=some k) w3.drew w4->(vw.ownBlock=some o∨w3.heap.size<=o)->
    aj w4 p [vw,.slice (some ⟨g1,0,none⟩) (tk.length+1) cap1,vb,.int .i64 Rm,.int .i64 Pg,.int .i64 Us,.int .i64 Hg,.int .i64 Tm] 307∧
    ∀W,W=w4.setCell ⟨p,0,none⟩ (.slice (some ⟨o,0,none⟩) (ws.length+Pg) b)->
     jn w W p vw vt vb ws tk Rm Pg Us Hg Tm tk.length (.slice (some ⟨o,0,none⟩) (ws.length+Pg) b) (.slice (some ⟨g1,0,none⟩) (tk.length+1) cap1) vb (ws++List.replicate Pg 0) (tk++[false]) []:=by
 have L:=bP h.rt h.blk (by decide);have nw:=bP h.rw h.blk (by decide);have nb:=bP h.rb h.blk (by decide);have S:∀k,vw.ownBlock=some k->vt.ownBlock≠some k:=fun k a=>dc h.rw h.rt (by decide) a
 have tb:∀k,vb.ownBlock=some k->vt.ownBlock≠some k:=fun k a=>dc h.rb h.rt (by decide) a
 have wb:∀k,vb.ownBlock=some k->vw.ownBlock≠some k:=fun k a=>dc h.rb h.rw (by decide) a
 have O:=d.size;have P:=c.size;have t:=(h.blk.frame d (fun h=>h)).frame c L;refine ⟨t,?_⟩;rintro w3 rfl;have f:Fr (fun k=>k=p) w2 (w2.setCell ⟨p,1,none⟩ (.slice (some ⟨g1,0,none⟩) (tk.length+1) cap1)):=(Fr.refl (fun k=>k=p) w2).setCell ⟨p,1,none⟩ (.inl rfl) _;have j:=t.set 1 (.slice (some ⟨g1,0,none⟩) (tk.length+1) cap1);have s:=an (an (an h.rw d (fun _ _ h=>h)) c S) f (fun k a e=>nw (by rw [a,e]));have I:=an (an (an h.rb d (fun _ _ h=>h)) c tb) f (fun k a e=>nb (by rw [a,e]));have q:g1≠p:=fun e=>by
  rcases z with hg|hg
  ·exact L (by rw [hg,e])
  ·have:=h.blk.lt;omega
 have D:=an G f (fun k a e=>q (by simp only [Value.ownBlock,Option.some.injEq] at a;omega));have Q:=f.size;refine ⟨j,s,?_⟩;intro w4 o b H l A;have F:=bP s j (by decide);have u:=j.drew.frame l F;refine ⟨u,?_⟩;rintro W rfl;have m:Fr (fun k=>k=p) w4 (w4.setCell ⟨p,0,none⟩ (.slice (some ⟨o,0,none⟩) (ws.length+Pg) b)):=(Fr.refl (fun k=>k=p) w4).setCell ⟨p,0,none⟩ (.inl rfl) _;have N:=j.lt;have B:o≠p:=fun e=>by
  rcases A with hg|hg
  ·exact F (by rw [hg,e])
  ·omega
 have R:∀k,(Value.slice (some ⟨g1,0,none⟩) (tk.length+1) cap1).ownBlock=some k->vw.ownBlock≠some k:=fun k a=>dc D s (by decide) a
 have K:∀{e:TypeId} {v:Value} {n:Nat} {xs:List Value},(w2.setCell ⟨p,1,none⟩ (.slice (some ⟨g1,0,none⟩) (tk.length+1) cap1)).ownsRow 0 e 1 v n xs->(w2.setCell ⟨p,1,none⟩ (.slice (some ⟨g1,0,none⟩) (tk.length+1) cap1)).drew.ownsRow 0 e 1 v n xs:=fun h=>h
 have y:=h.cnt;rw [List.length_nil] at y;have r:=h.len;refine ⟨u.set 0 _,?_,?_,?_,?_,?_,?_,by simp,by simp,?_,by simp,by simp,?_,by simp,?_,?_⟩
 ·have:=an H m (fun k a e=>B (by simp only [Value.ownBlock,Option.some.injEq] at a;omega));have e:bB (ws++List.replicate Pg 0)=bB ws++List.replicate Pg (.int .u64 0):=by unfold bB;rw [List.map_append,List.map_replicate];rfl
  rw [e,List.length_append,List.length_replicate];exact this
 ·have:=an (an (K D) l R) m (fun k a e=>q (by simp only [Value.ownBlock,Option.some.injEq] at a;omega));rw [List.length_append,List.length_singleton,List.map_append];exact this
 ·exact an (an (K I) l wb) m (fun k a e=>nb (by rw [a,e]))
 ·rw [List.length_append,List.length_append,List.length_replicate,List.length_singleton,r,Nat.succ_mul]
 ·intro x E;rcases List.mem_append.1 E with E|E
  ·exact h.lt x E
  ·rw [List.eq_of_mem_replicate E];decide
 ·rw [List.length_append,List.length_singleton,List.length_nil];omega
 ·rw [List.length_append,List.length_singleton];omega
 ·intro g hg;have C:=(List.getElem?_eq_some_iff.1 hg).1;refine ⟨by rw [List.getElem?_append_left C];exact hg,by omega,fun i M=> ?_⟩;have:=jx C M r;rw [List.getD_eq_getElem?_getD,List.getD_eq_getElem?_getD,List.getElem?_append_left this]
 ·exact (((((d.mono (S':=bq p vw vt vb) (fun _ h=>h.elim)).trans c (fun k a=> .inl (.inr (.inr (.inl a))))).trans f (fun k a=> .inl (.inl a))).drew).trans l (fun k a=> .inl (.inr (.inl a)))).trans m (fun k a=> .inl (.inl a))
 ·rintro k (a|a|a|a)
  ·exact .inl (.inl a)
  ·simp only [Value.ownBlock,Option.some.injEq] at a;subst a;rcases A with hg|hg
   ·exact .inl (.inr (.inl hg))
   ·exact .inr (by omega)
  ·simp only [Value.ownBlock,Option.some.injEq] at a;subst a;rcases z with hg|hg
   ·exact .inl (.inr (.inr (.inl hg)))
   ·exact .inr (by omega)
  ·exact .inl (.inr (.inr (.inr a)))
theorem pC (h:ba w p vw vt vb ws tk [] Rm Pg Us Hg Tm) (o:Us<Rm):Calls Tryz.prog 279 #[p] w (ix w p vw vt vb ws tk Rm Pg Us Hg Tm):=by
 obtain ⟨pb,cb,rfl⟩:=cj h.rb;obtain ⟨pt,S,rfl⟩:=cj h.rt;obtain ⟨i0,V,D,E,F⟩:=info_parts lr;obtain ⟨M,L,t,u,x⟩:=info_parts ib;have c1:=h.blk.cell 1 rfl;have c2:=h.blk.cell 2 rfl;have m:=h.cnt;have X:=h.room1;have W:=h.page1;have C:=h.page2;have n:=h.len;rw [List.length_nil] at m;have s:=h.rt;have I:=ae (fun w1 w2 g1 cap1 d k g j=>ss (w1:=w1) (w2:=w2) (g1:=g1) (cap1:=cap1) h o d k g j);have Z:ws.length+Pg<=1048576:=by
  rw [n];have:tk.length*Pg+Pg<=4096*Pg:=by rw [<-Nat.succ_mul];exact Nat.mul_le_mul_right Pg (by omega)
  have:4096*Pg<=4096*256:=Nat.mul_le_mul_left _ C;omega
 have Y:tk.length<=4096:=by omega
 clear h n m
 go_enter Tryz.func279,Tryz.ntmps279
 go_wp2_with (at_builtin;refine Hid.out ?_)
 unfold Hid;have d:Fr (fun _=>False) w (w.alloc (.cells #[.bool false] 4)):=(Fr.refl _ w).alloc _;refine bL rfl _ _ 207 rfl 4 i0 (.bool false) 1 Tryz.underlying207 V D E F rfl (.slice pt tk.length S) tk.length _ rfl (an s d (fun _ _ h=>h)) ⟨w.heap.size,0,none⟩ _ (.bool false) rfl ((aj.new w [.bool false] 4).cell 0 rfl) rfl (by unfold maxLen;omega) (by omega) ?_;intro g1 cap1 w2 k g j;obtain ⟨G,P⟩:=I.out _ w2 g1 cap1 d k g j;have T:=G.cell 1 rfl;have U:=G.free 1;have J:=ae P;clear d k g j G P I c1 c2 s
 go_upto_region 8 with fail
 obtain ⟨w3,q⟩:∃w3,w2.setCell ⟨p,1,none⟩ (.slice (some ⟨g1,0,none⟩) (tk.length+1) cap1)=w3:=⟨_,rfl⟩;rw [q];obtain ⟨H,Q,R⟩:=J.out w3 q.symm;have N:w3.drew.cell? ⟨p,0,none⟩=some vw:=H.drew.cell 0 rfl;have O:w3.drew.cell? ⟨p,4,none⟩=some (.int .i64 Pg):=H.drew.cell 4 rfl;have l:w3.drew.ownsRow 0 46 1 vw ws.length (bB ws):=Q;have z:=ae R;clear T U J q H Q R;refine wp_region_any (by kernel_rfl) ?_;change wpAny _ _ _ _ _ _ _ (World.drew _);refine wpAny_take (i:=0) (v:= .pointer (some ⟨p,0,none⟩)) rfl (by kernel_rfl) (by kernel_rfl) (by kernel_rfl) (fun _ _ _ h=>h) (Or.inl ⟨by rfl,fun w=>by go_simp⟩) ?_;refine wpAny_take (i:=1) (v:= .pointer (some ⟨p,0,none⟩)) rfl (by kernel_rfl) (by kernel_rfl) (by kernel_rfl) (fun _ _ _ h=>h) (Or.inl ⟨by rfl,fun w=>by go_simp⟩) ?_;refine wpAny_take (i:=2) (v:= .pointer (some ⟨p,0,none⟩)) rfl (by kernel_rfl) (by kernel_rfl) (by kernel_rfl) (fun _ _ _ h=>h) (Or.inl ⟨by rfl,fun w=>by go_simp⟩) ?_;refine wpAny_take (i:=3) (v:= .pointer (some ⟨p,0,none⟩)) rfl (by kernel_rfl) (by kernel_rfl) (by kernel_rfl) (fun _ _ _ h=>h) (Or.inl ⟨by rfl,fun w=>by go_simp⟩) ?_;refine wpAny_take (i:=5) (v:= .pointer (some ⟨p,0,none⟩)) rfl (by kernel_rfl) (by kernel_rfl) (by kernel_rfl) (fun _ _ _ h=>h) (Or.inl ⟨by rfl,fun w=>by go_simp⟩) ?_;refine wpAny_take (i:=6) (v:= .pointer (some ⟨p,0,none⟩)) rfl (by kernel_rfl) (by kernel_rfl) (by kernel_rfl) (fun _ _ _ h=>h) (Or.inl ⟨by rfl,fun w=>by go_simp⟩) ?_;refine wpAny_take (i:=7) (v:= .pointer (some ⟨p,4,none⟩)) rfl (by kernel_rfl) (by kernel_rfl) (by kernel_rfl) (fun _ _ _ h=>h) (Or.inl ⟨by rfl,fun w=>by go_simp⟩) ?_;simp only [Act.put];refine wpAny_ready (rs:=[4,8]) (by kernel_rfl) (by simp) ?_;refine AllReady.cons rfl (fun K a=> ?_) (AllReady.cons rfl (fun K a=> ?_) AllReady.nil)
 ·go_simp;refine a _ _ ?_;clear a K;refine wpAny_ready (rs:=[8]) (by kernel_rfl) (by simp) ?_;refine AllReady.cons rfl (fun K a=> ?_) AllReady.nil;go_simp;refine a _ _ ?_;clear a K;refine wpAny_ready (rs:=[9]) (by kernel_rfl) (by simp) ?_;refine AllReady.cons rfl (fun K a=> ?_) AllReady.nil;refine ee rfl _ _ 98 3 rfl 46 M (.int .u64 0) .i64 8 Tryz.underlying98 Tryz.underlying3 L t u x rfl rfl vw ws.length _ rfl l Pg rfl (by omega) (by unfold maxLen;omega) (by omega) ?_;intro B b w4 f c e;obtain ⟨r,y⟩:=z.out w4 B b f c e;have k5:=r.cell 0 rfl;have k6:=r.free 0;have A:=ae y;clear f c e r y z N O l;refine a _ _ ?_;clear a K;refine wpAny_ready (rs:=[10]) (by kernel_rfl) (by simp) ?_;refine AllReady.cons rfl (fun K a=> ?_) AllReady.nil;go_simp;refine a _ _ ?_;clear a K;refine wpAny_ready (rs:=[11]) (by kernel_rfl) (by simp) ?_;refine AllReady.cons rfl (fun K a=> ?_) AllReady.nil;go_simp;refine a _ _ ?_;clear a K;refine wpAny_ready (rs:=[12]) (by kernel_rfl) (by simp) ?_;refine AllReady.cons rfl (fun K a=> ?_) AllReady.nil;go_simp;refine a _ _ ?_;clear a K;refine wpAny_done (by kernel_rfl) ?_ _;go_wp2;go_ret;exact ⟨tk.length,_,_,_,_,_,_,rfl,A.out _ rfl⟩
 ·go_simp;refine a _ _ ?_;clear a K;refine wpAny_ready (rs:=[4]) (by kernel_rfl) (by simp) ?_;refine AllReady.cons rfl (fun K a=> ?_) AllReady.nil;go_simp;refine a _ _ ?_;clear a K;refine wpAny_ready (rs:=[9]) (by kernel_rfl) (by simp) ?_;refine AllReady.cons rfl (fun K a=> ?_) AllReady.nil;refine ee rfl _ _ 98 3 rfl 46 M (.int .u64 0) .i64 8 Tryz.underlying98 Tryz.underlying3 L t u x rfl rfl vw ws.length _ rfl l Pg rfl (by omega) (by unfold maxLen;omega) (by omega) ?_;intro B b w4 f c e;obtain ⟨r,y⟩:=z.out w4 B b f c e;have k5:=r.cell 0 rfl;have k6:=r.free 0;have A:=ae y;clear f c e r y z N O l;refine a _ _ ?_;clear a K;refine wpAny_ready (rs:=[10]) (by kernel_rfl) (by simp) ?_;refine AllReady.cons rfl (fun K a=> ?_) AllReady.nil;go_simp;refine a _ _ ?_;clear a K;refine wpAny_ready (rs:=[11]) (by kernel_rfl) (by simp) ?_;refine AllReady.cons rfl (fun K a=> ?_) AllReady.nil;go_simp;refine a _ _ ?_;clear a K;refine wpAny_ready (rs:=[12]) (by kernel_rfl) (by simp) ?_;refine AllReady.cons rfl (fun K a=> ?_) AllReady.nil;go_simp;refine a _ _ ?_;clear a K;refine wpAny_done (by kernel_rfl) ?_ _;go_wp2;go_ret;exact ⟨tk.length,_,_,_,_,_,_,rfl,A.out _ rfl⟩
end
theorem mN {P:Program} {w:World} {b:Array Oper} {rest:List Oper} {o:Oper} {a:Act} {Q:Exit->Act->World->Prop} (c:o.guard=none) (s:Operand) (t:TypeId)
  (e:o.op= .call {callee:= .builtin .clear,args:= #[s],argTypes:= #[t]})
  (H:∃w',(Builtin.clear_ #[t] o.type #[a.eval s]).run P w= .ok (.tuple #[]) w'∧wpList P b Q rest (a.put o.dst (.tuple #[])) w'):wpList P b Q (o::rest) a w:=by
 obtain ⟨w',f,h⟩:=H;refine wpList_plain c fun K d=> ?_
 unfold Oper.wp execOp;simp only [e,resolve,invoke,builtin,Sem.run_bind,Sem.run_pure,Result.andThen_ok,List.map_toArray,List.map_cons,List.map_nil,f];exact d _ _ h
theorem Fr.setCells {S:Nat->Prop} {a:World} {g:Nat} (hp:S g∨a.heap.size<=g):∀(vs:List Value) (o:Nat) {w:World},Fr S a w->Fr S a (w.setCells g o vs)
 |[],_,_,h=>h
 |v::r,o,_,h=>Fr.setCells hp r (o+1) (h.setCell ⟨g,o,none⟩ hp v)
theorem aj.setCells {b:Nat} {t:TypeId}:∀(vs:List Value) (a c:List Value) {w:World},aj w b (a++c) t->vs.length<=c.length->aj (w.setCells b a.length vs) b (a++(vs++c.drop vs.length)) t
 |[],a,c,_,h,_=>by simpa [World.setCells] using h
 |v::r,a,[],_,_,hl=>by simp at hl
 |v::r,a,s::c,w,h,hl=>by
  have f:aj (w.setCell ⟨b,a.length,none⟩ v) b ((a++[v])++c) t:=by
   have:=h.set a.length v;rw [show (a++s::c).set a.length v=(a++[v])++c by simp] at this;exact this
  have d:=aj.setCells r (a++[v]) c f (by simpa using hl);rw [show (a++[v]).length=a.length+1 by simp] at d;have e:a++(v::r++(s::c).drop (v::r).length)=a++[v]++(r++c.drop r.length):=by simp
  rw [e];exact d
theorem mF {w:World} {g cap n o:Nat} {xs:List Value} {e:TypeId} (vs:List Value) (h:w.ownsRow 0 e 1 (.slice (some ⟨g,0,none⟩) n cap) n xs) (l:o+vs.length<=n):(w.setCells g o vs).ownsRow 0 e 1 (.slice (some ⟨g,0,none⟩) n cap) n (xs.take o++vs++xs.drop (o+vs.length)):=by
 obtain ⟨c,d,k,i,f,j⟩:=gx h;have b:(c.take o).length=o:=by rw [List.length_take];omega
 have a:=aj.setCells vs (c.take o) (c.drop o) (by rw [List.take_append_drop];exact d) (by rw [List.length_drop];omega);rw [b] at a;refine kh a (by simp only [List.length_append,List.length_take,List.length_drop];omega) i f ?_;rw [<-j,List.take_append,b,List.take_of_length_le (by omega),List.take_append,List.take_of_length_le (show vs.length<=n-o by omega),List.drop_drop,List.take_take,Nat.min_eq_left (by omega),List.drop_take,List.append_assoc];congr 3
 omega
theorem uN {xs vs:List Nat} {o k:Nat} (b:o+vs.length<=xs.length) (a:k<o∨o+vs.length<=k):(xs.take o++vs++xs.drop (o+vs.length)).getD k 0=xs.getD k 0:=by
 rw [List.getD_eq_getElem?_getD,List.getD_eq_getElem?_getD];congr 1
 rcases a with a|a
 ·rw [List.append_assoc,List.getElem?_append_left (by rw [List.length_take];omega),List.getElem?_take,if_pos a]
 ·rw [List.getElem?_append_right (by rw [List.length_append,List.length_take];omega),List.getElem?_drop,List.length_append,List.length_take];congr 1
  omega
section
variable {w:World} {p Rm Pg Us Hg:Nat} {Tm:Int} {vw vt vb:Value} {ws:List Nat} {tk:List Bool} {bk:List Nat}
structure jA (w w':World) (p:Nat) (vw vt vb:Value) (ws:List Nat) (tk:List Bool) (Rm Pg Us:Nat) (f:Nat) (vw' vt' vb':Value) (ws':List Nat) (tk':List Bool) (bk':List Nat) (Hg':Nat) (times':Int):Prop where
 pool:ba w' p vw' vt' vb' ws' tk' bk' Rm Pg (Us+1) Hg' times'
 now:tk'[f]? =some true
 was:tk[f]? ≠some true
 old:∀g,tk[g]? =some true->tk'[g]? =some true∧∀i,i<Pg->ws'.getD (g*Pg+i) 0=ws.getD (g*Pg+i) 0
 fr:Fr (bq p vw vt vb) w w'
 own:∀g,bq p vw' vt' vb' g->bq p vw vt vb g∨w.heap.size<=g
def jB (w:World) (p:Nat) (vw vt vb:Value) (ws:List Nat) (tk:List Bool) (Rm Pg Us:Nat) (e:Ending) (w':World):Prop:=
 ∃f vw' vt' vb' ws' tk' bk' Hg' times',e= .returned (.tuple #[.int .i64 ((f:Nat):Int),.int .i64 0])∧jA w w' p vw vt vb ws tk Rm Pg Us f vw' vt' vb' ws' tk' bk' Hg' times'
theorem wt {w1:World} {f g cap t ct:Nat} {l d s:Value} {a:List Nat} {r:List Bool} {G:List Nat} (h:jn w w1 p vw vt vb ws tk Rm Pg Us Hg Tm f l d s a r G)
  (F:l= .slice (some ⟨g,0,none⟩) a.length cap) (E:d= .slice (some ⟨t,0,none⟩) r.length ct):
  ∀w2,w2=w1.setCells g (f*Pg) (List.replicate Pg (.int .u64 0))->w2.cell? ⟨p,1,none⟩=some d∧w2.cell? ⟨t,f,none⟩=some (.bool false)∧w2.frozen? ⟨t,f,none⟩=false∧
   ∀w3,w3=w2.setCell ⟨t,f,none⟩ (.bool true)->aj w3 p [l,d,s,.int .i64 Rm,.int .i64 Pg,.int .i64 Us,.int .i64 Hg,.int .i64 Tm] 307∧
    ∀W v c,v<=Rm->Us<Rm->Rm<=4096->1<=Pg->Pg<=256->aj W p [l,d,s,.int .i64 Rm,.int .i64 Pg,.int .i64 ((Us:Int)+1),.int .i64 (v:Int),.int .i64 c] 307->Fr (fun k=>k=p) w3 W->
     jA w W p vw vt vb ws tk Rm Pg Us f l d s (a.take (f*Pg)++List.replicate Pg 0++a.drop (f*Pg+Pg)) (r.set f true) G v c:=by
 rintro w2 rfl;have C:=(List.getElem?_eq_some_iff.1 h.none).1;have D:=du (Pg:=Pg) C;rw [<-h.len] at D;have hg:l.ownBlock=some g:=by rw [F];rfl
 have m:d.ownBlock=some t:=by rw [E];rfl
 have nt:=dc h.rw h.rt (by decide) hg;have nb:=dc h.rw h.rb (by decide) hg;have Z:=bP h.rw h.blk (by decide);have tp:=bP h.rt h.blk (by decide);have tb:=dc h.rt h.rb (by decide) m;have tw:=dc h.rt h.rw (by decide) m;have y:Fr (fun k=>k=g) w1 (w1.setCells g (f*Pg) (List.replicate Pg (.int .u64 0))):=Fr.setCells (S:=fun k=>k=g) (.inl rfl) _ _ (Fr.refl _ w1);have H:=h.blk.frame y (fun e=>Z (by rw [hg,e]));have U:=an h.rt y (fun k b e=>nt (by rw [b,e]));have Q:=an h.rb y (fun k b e=>nb (by rw [b,e]));have K:=h.rw;rw [F] at K;have M:=mF (o:=f*Pg) (List.replicate Pg (.int .u64 0)) K (by rw [List.length_replicate];exact D);rw [<-F,List.length_replicate] at M;have J:(a.take (f*Pg)++List.replicate Pg 0++a.drop (f*Pg+Pg)).length=a.length:=by
  simp only [List.length_append,List.length_take,List.length_drop,List.length_replicate];omega
 have N:(w1.setCells g (f*Pg) (List.replicate Pg (.int .u64 0))).ownsRow 0 46 1 l (a.take (f*Pg)++List.replicate Pg 0++a.drop (f*Pg+Pg)).length (bB (a.take (f*Pg)++List.replicate Pg 0++a.drop (f*Pg+Pg))):=by
  rw [J];have e:bB (a.take (f*Pg)++List.replicate Pg 0++a.drop (f*Pg+Pg))=(bB a).take (f*Pg)++List.replicate Pg (.int .u64 0)++(bB a).drop (f*Pg+Pg):=by
   unfold bB;rw [List.map_append,List.map_append,List.map_take,List.map_drop,List.map_replicate];rfl
  rw [e];exact M
 have q:=U;rw [E] at q;have Y:=gA (j:=f) (u:= .bool false) q (by rw [List.getElem?_map,h.none];rfl);refine ⟨H.cell 1 rfl,Y.1,Y.2,?_⟩;rintro w3 rfl;have z:Fr (fun k=>k=t) (w1.setCells g (f*Pg) (List.replicate Pg (.int .u64 0))) ((w1.setCells g (f*Pg) (List.replicate Pg (.int .u64 0))).setCell ⟨t,f,none⟩ (.bool true)):=(Fr.refl (fun k=>k=t) _).setCell ⟨t,f,none⟩ (.inl rfl) _;refine ⟨H.frame z (fun e=>tp (by rw [m,e])),?_⟩;intro W v c hh hu T O P hB A;have X:=an N z (fun k b e=>tw (by rw [b,e]));have R:=an Q z (fun k b e=>tb (by rw [b,e]));have L:=mE (.bool true) q C;rw [<-E,<-List.map_set] at L;have n:(r.set f true).length=r.length:=List.length_set;have V:((Us+1:Nat):Int)=(Us:Int)+1:=by omega
 refine ⟨⟨by rw [V];exact hB,an X A (fun k b e=>Z (by rw [b,e])),by rw [n];exact an L A (fun k b e=>tp (by rw [b,e])),an R A (fun k b e=>bP h.rb h.blk (by decide) (by rw [b,e])),by rw [J,n];exact h.len,?_,by rw [n];exact h.cnt,?_,h.nd,by rw [n];exact h.most,T,O,P,hh⟩,?_,h.was,?_,?_,h.own⟩
 ·intro x B;rcases List.mem_append.1 B with B|B
  ·rcases List.mem_append.1 B with B|B
   ·exact h.lt x (List.mem_of_mem_take B)
   ·rw [List.eq_of_mem_replicate B];decide
  ·exact h.lt x (List.mem_of_mem_drop B)
 ·intro k b;rw [List.getElem?_set,if_neg (fun e=>h.new (by rw [e];exact b))];exact h.free k b
 ·rw [List.getElem?_set,if_pos rfl,if_pos C]
 ·intro k b;obtain ⟨o1,o2,o3⟩:=h.old k b;refine ⟨by rw [List.getElem?_set,if_neg (fun e=>o2 e.symm)];exact o1,fun i hi=> ?_⟩;rw [<-o3 i hi];have ad:=(List.getElem?_eq_some_iff.1 o1).1;have:=uN (xs:=a) (vs:=List.replicate Pg 0) (o:=f*Pg) (k:=k*Pg+i) (by rw [List.length_replicate];exact D) (by
   rw [List.length_replicate];rcases Nat.lt_or_gt_of_ne o2 with n|m
   ·have:=du (Pg:=Pg) n;omega
   ·have:=du (Pg:=Pg) m;omega)
  rw [List.length_replicate] at this;exact this
 ·have I:∀k,bq p l d s k->bq p vw vt vb k∨w.heap.size<=k:=h.own;exact ((h.fr.trans y (fun k b=>by rw [b];exact I g (.inr (.inl hg)))).trans z (fun k b=>by rw [b];exact I t (.inr (.inr (.inl m))))).trans A (fun k b=> .inl (.inl b))
theorem pB (h:ba w p vw vt vb ws tk bk Rm Pg Us Hg Tm) (a:Us<Rm):Calls Tryz.prog 279 #[p] w (ix w p vw vt vb ws tk Rm Pg Us Hg Tm):=by
 by_cases b:bk=[]
 ·subst b;exact pC h a
 ·exact nI h b
theorem uM (h:ba w p vw vt vb ws tk bk Rm Pg Us Hg Tm) (i:Us<Rm):Calls Tryz.prog 252 #[p] w (jB w p vw vt vb ws tk Rm Pg Us):=by
 have hd:=h.frame (S:=fun _=>False) ((Fr.refl _ w).drew) (fun _ _ h=>h);have H:=ae (pB hd i);have c3:=h.blk.cell 3 rfl;have d3:w.drew.cell? ⟨p,3,none⟩=_:=c3;have d5:w.drew.cell? ⟨p,5,none⟩=_:=h.blk.cell 5 rfl;have V:=h.room1;have s:=h.page1;have U:=h.page2;have am:=h.high1;have aq:((Rm:Int)==0)=false:=by rw [beq_eq_false_iff_ne];omega
 have av:((Us:Int)==(Rm:Int))=false:=by rw [beq_eq_false_iff_ne];omega
 have b1:(Us:Int)<(Rm:Int):=by omega
 have b2:(Rm:Int)<=4096:=by omega
 have b3:(Hg:Int)<=4096:=by omega
 have HW:=ae (show∀e w',jB w.drew p vw vt vb ws tk Rm Pg Us e w'->jB w p vw vt vb ws tk Rm Pg Us e w' from fun e w' ⟨f,C,B,A,o,z,J,hi',Y,he,D⟩=>⟨f,C,B,A,o,z,J,hi',Y,he,⟨D.pool,D.now,D.was,D.old,((Fr.refl _ w).drew).trans D.fr (fun _ h=> .inl h),D.own⟩⟩);clear h hd
 go_enter Tryz.func252,Tryz.ntmps252
 go_wp2;refine au (fun w'=>w'=w.drew) (by kernel_rfl) (by kernel_rfl) rfl ?_;refine ag (.pointer (some ⟨p,0,none⟩)) rfl (fun w a=>by go_simp) ?_;simp only [Act.put,aa,ab,ac];refine ag (.pointer (some ⟨p,0,none⟩)) rfl (fun w a=>by go_simp) ?_;simp only [Act.put,aa,ab,ac];refine ag (.pointer (some ⟨p,5,none⟩)) rfl (fun w a=>by go_simp) ?_;simp only [Act.put,aa,ab,ac];refine ag (.int .i64 Us) rfl (fun w a=>by subst a;go_simp) ?_;simp only [Act.put,aa,ab,ac];refine ag (.pointer (some ⟨p,0,none⟩)) rfl (fun w a=>by go_simp) ?_;simp only [Act.put,aa,ab,ac];refine ag (.pointer (some ⟨p,0,none⟩)) rfl (fun w a=>by go_simp) ?_;simp only [Act.put,aa,ab,ac];refine ag (.pointer (some ⟨p,3,none⟩)) rfl (fun w a=>by go_simp) ?_;simp only [Act.put,aa,ab,ac];refine ag (.int .i64 Rm) rfl (fun w a=>by subst a;go_simp) ?_;simp only [Act.put,aa,ab,ac];refine ag (.bool false) rfl (fun w a=>by go_simp) ?_;simp only [Act.put,aa,ab,ac];refine ag (.bool false) rfl (fun w a=>by go_simp) ?_;simp only [Act.put,aa,ab,ac];refine wpQuiet_nil ?_;rintro w2 rfl;generalize w.drew=w0 at*;go_wp2_with fail
 refine (H.out).mono ?_;rintro e w1 ⟨f,C,B,A,o,z,J,rfl,b⟩;have T:=(List.getElem?_eq_some_iff.1 b.none).1;have r:=du (Pg:=Pg) T;rw [<-b.len] at r;obtain ⟨g,cap,m,K,L,_⟩:=dU b.rw (by omega);obtain ⟨gt,ct,t,_⟩:=dU b.rt (by omega);have O:=b.blk.cell 0 rfl;rw [m] at O;have Z:=ae (jP O (b.blk.cell 4 rfl) s f r K L);have l:=b.rw;rw [m] at l;have F:=ae (Lib.run_clear_slice (P:=Tryz.prog) w1 98 46 0 (.int .u64 0) Tryz.underlying98 (fun w=>by obtain ⟨i0,hi,hz,_⟩:=info_parts ib;simp [zeroValue,typeInfo,hi,hz]) rfl rfl g (f*Pg) Pg Pg s
  (fun j hj=>by
   obtain ⟨x,X⟩:∃x,o[f*Pg+j]? =some x:=⟨_,List.getElem?_eq_getElem (by omega)⟩;rw [(gA (j:=f*Pg+j) (u:= .int .u64 x) l (by unfold bB;rw [List.getElem?_map,X];rfl)).1];rfl)
  (fun j hj=>by
   obtain ⟨x,X⟩:∃x,o[f*Pg+j]? =some x:=⟨_,List.getElem?_eq_getElem (by omega)⟩;exact (gA (j:=f*Pg+j) (u:= .int .u64 x) l (by unfold bB;rw [List.getElem?_map,X];rfl)).2))
 have HM:=ae (wt b m t);have ad:(f:Int)<(z.length:Int):=by omega
 have ah:(f:Int)<=4096:=by have:=b.most;omega
 have N:=ae t;clear b r K L O l m t H;go_wp2_with fail
 refine (Z.out).mono ?_;rintro e w' ⟨rfl,rfl⟩;go_wp2_with (refine mN rfl _ _ rfl ?_;refine Hid.out ?_)
 unfold Hid;refine ⟨_,F.out,?_⟩;obtain ⟨w2,v⟩:∃w2,w1.setCells g (f*Pg) (List.replicate Pg (.int .u64 0))=w2:=⟨_,rfl⟩;rw [v];obtain ⟨m1,m2,m3,m4⟩:=HM.out w2 v.symm;rw [N.out] at m1;have I:=ae m4;clear F v HM m4 Z
 go_upto_region 8 with fail
 obtain ⟨w3,y⟩:∃w3,w2.setCell ⟨gt,f,none⟩ (.bool true)=w3:=⟨_,rfl⟩;rw [y];obtain ⟨c,hT⟩:=I.out w3 y.symm;have HT:=ae hT;have E:=ae c;have k5:=c.cell 5 rfl;have k6:=c.free 5;have k7:=(c.set 5 (.int .i64 ((Us:Int)+1))).cell 7 rfl;have k8:=(c.set 5 (.int .i64 ((Us:Int)+1))).free 7;clear m1 m2 m3 y I hT c
 go_upto_region 10 with fail
 obtain ⟨w5,n⟩:∃w5,(w3.setCell ⟨p,5,none⟩ (.int .i64 ((Us:Int)+1))).setCell ⟨p,7,none⟩ (.int .i64 (wrap64 (Tm+1)))=w5:=⟨_,rfl⟩;rw [n];have d:aj w5 p [C,B,A,.int .i64 Rm,.int .i64 Pg,.int .i64 ((Us:Int)+1),.int .i64 Hg,.int .i64 (wrap64 (Tm+1))] 307:=by rw [<-n];exact (E.out.set 5 _).set 7 _
 have M:Fr (fun k=>k=p) w3 w5:=by rw [<-n];exact ((Fr.refl (fun k=>k=p) w3).setCell ⟨p,5,none⟩ (.inl rfl) _).setCell ⟨p,7,none⟩ (.inl rfl) _
 obtain ⟨q,Q⟩:∃q,q=max Hg (Us+1):=⟨_,rfl⟩;have ap:max (Hg:Int) ((Us:Int)+1)=(q:Int):=by omega
 have R:q<=Rm:=by omega
 have k9:w5.drew.cell? ⟨p,6,none⟩=_:=d.drew.cell 6 rfl;have ax:w5.drew.cell? ⟨p,5,none⟩=_:=d.drew.cell 5 rfl;have a0:w5.drew.frozen? ⟨p,6,none⟩=false:=d.drew.free 6;have G:=ae (fun W (hW:W=(w5.drew.setCell ⟨p,6,none⟩ (.int .i64 q)))=>HT.out W q (wrap64 (Tm+1)) R i V s U (by rw [hW];exact d.drew.set 6 _) (by rw [hW];exact M.drew.setCell ⟨p,6,none⟩ (.inl rfl) _));clear n d M HT E k5 k6 k7 k8 Q;refine aA (fun w'=>w'=w5.drew) 10 (by kernel_rfl) (by kernel_rfl) rfl ?_;simp only [List.take_succ_cons,List.take_zero,List.drop_succ_cons,List.drop_zero];refine ag (.pointer (some ⟨p,0,none⟩)) rfl (fun w a=>by go_simp) ?_;simp only [Act.put,aa,ab,ac];refine ag (.pointer (some ⟨p,0,none⟩)) rfl (fun w a=>by go_simp) ?_;simp only [Act.put,aa,ab,ac];refine ag (.pointer (some ⟨p,0,none⟩)) rfl (fun w a=>by go_simp) ?_;simp only [Act.put,aa,ab,ac];refine ag (.pointer (some ⟨p,6,none⟩)) rfl (fun w a=>by go_simp) ?_;simp only [Act.put,aa,ab,ac];refine ag (.int .i64 Hg) rfl (fun w a=>by subst a;go_simp) ?_;simp only [Act.put,aa,ab,ac];refine ag (.pointer (some ⟨p,0,none⟩)) rfl (fun w a=>by go_simp) ?_;simp only [Act.put,aa,ab,ac];refine ag (.pointer (some ⟨p,0,none⟩)) rfl (fun w a=>by go_simp) ?_;simp only [Act.put,aa,ab,ac];refine ag (.pointer (some ⟨p,5,none⟩)) rfl (fun w a=>by go_simp) ?_;simp only [Act.put,aa,ab,ac];refine ag (.int .i64 ((Us:Int)+1)) rfl (fun w a=>by subst a;go_simp) ?_;simp only [Act.put,aa,ab,ac];refine ag (.int .i64 q) rfl (fun w a=>by go_simp) ?_;simp only [Act.put,aa,ab,ac];refine wpQuiet_nil ?_;rintro w6 rfl;go_wp2;go_ret2;exact HW.out _ _ ⟨f,_,_,_,_,_,_,_,_,rfl,G.out _ rfl⟩
end
def ox:Option Nat->Value
 |none=> .pointer none
 |some t=> .pointer (some ⟨t,0,none⟩)
def bF (fr:Nat->Nat) (p:Nat):Bool:=fr p !=0
def gn (fr:Nat->Nat) (i:Nat):List Value:=(List.range 256).map (fun q=>Value.int .u32 ((fr (256*i+q):Nat):Int))++[.int .i64 ((cnt (bF fr) (256*i) (256*i+256):Nat):Int)]
structure aM (w:World) (g gt:Nat) (ts:List (Option Nat)) (P:Nat) (fr:Nat->Nat) (n:Int):Prop where
 blk:aj w g [.slice (some ⟨gt,0,none⟩) ts.length ts.length,.int .i64 P,.int .i64 n] 319
 row:aj w gt (ts.map ox) 348
 len:ts.length=(P+255)/256
 tab:∀(i t:Nat),ts[i]? =some (some t)->aj w t (gn fr i) 351
 nil:∀(i:Nat),ts[i]? =some none->∀q,q<256->fr (256*i+q)=0
 inj:∀(i j t:Nat),ts[i]? =some (some t)->ts[j]? =some (some t)->i=j
 one:1<=P
 small:P<=524288
 lt:∀p,fr p<4294967296
 off:∀p,P<=p->fr p=0
def aG (g gt:Nat) (ts:List (Option Nat)) (k:Nat):Prop:=k=g∨k=gt∨some k∈ts
theorem aM.frame {S:Nat->Prop} {w w':World} {g a:Nat} {c:List (Option Nat)} {P:Nat} {fr:Nat->Nat} {n:Int} (h:aM w g a c P fr n) (hf:Fr S w w') (b:∀k,aG g a c k->¬S k):aM w' g a c P fr n:=
 ⟨h.blk.frame hf (b _ (.inl rfl)),h.row.frame hf (b _ (.inr (.inl rfl))),h.len,fun i t d=>(h.tab i t d).frame hf (b _ (.inr (.inr (List.mem_of_getElem? d)))),h.nil,h.inj,h.one,h.small,h.lt,h.off⟩
theorem it (fr:Nat->Nat) (i q:Nat) (a:q<256):(gn fr i)[q]? =some (.int .u32 ((fr (256*i+q):Nat):Int)):=by
 unfold gn;rw [List.getElem?_append_left (by simpa using a),List.getElem?_map,List.getElem?_range a];rfl
theorem rH (fr:Nat->Nat) (i:Nat):(gn fr i)[256]? =some (.int .i64 ((cnt (bF fr) (256*i) (256*i+256):Nat):Int)):=by
 unfold gn;rw [List.getElem?_append_right (by simp)];simp
section
variable {w:World} {g gt:Nat} {ts:List (Option Nat)} {P:Nat} {fr:Nat->Nat} {n:Int}
theorem aM.slot (h:aM w g gt ts P fr n) {p:Nat} (hp:p<P):∃o,ts[p/256]? =some o∧w.cell? ⟨gt,p/256,none⟩=some (ox o)∧w.frozen? ⟨gt,p/256,none⟩=false:=by
 have b:p/256<ts.length:=by rw [h.len];omega
 obtain ⟨o,a⟩:∃o,ts[p/256]? =some o:=⟨_,List.getElem?_eq_getElem b⟩;exact ⟨o,a,h.row.cell (p/256) (by rw [List.getElem?_map,a];rfl),h.row.free _⟩
theorem km (h:aM w g gt ts P fr n) (p:Nat) (hp:p<P):Calls Tryz.prog 278 #[g,.int .i64 p] w fun e w'=>e= .returned (.int .u32 ((fr p:Nat):Int))∧w=w':=by
 obtain ⟨o,a,d,_⟩:=h.slot hp;have l:=h.blk.cell 0 rfl;have m:p/256<ts.length:=(List.getElem?_eq_some_iff.1 a).1;have q:=h.small;have r:(p:Int).tdiv 256=((p/256:Nat):Int):=rfl;have s:(p:Int).tmod 256=((p% 256:Nat):Int):=rfl;have b:256*(p/256)+p% 256=p:=by omega
 cases o with
 |none=>
  have c:=h.nil _ a (p% 256) (Nat.mod_lt _ (by decide));rw [b] at c;rw [c];unfold ox at d;generalize ts.length=L at*;have f:((p/256:Nat):Int)<(L:Int):=by omega
  have i:(p:Int)<=524288:=by omega
  clear h a b
  go_enter Tryz.func278,Tryz.ntmps278
  go_wp2;go_ret;exact ⟨rfl,rfl⟩
 |some t=>
  have j:=(h.tab _ t a).cell (p% 256) (it fr (p/256) (p% 256) (Nat.mod_lt _ (by decide)));rw [b] at j;unfold ox at d;generalize ts.length=L at*;generalize fr p=x at*;have f:((p/256:Nat):Int)<(L:Int):=by omega
  have i:(p:Int)<=524288:=by omega
  have k:((p% 256:Nat):Int)<256:=by omega
  clear h a b
  go_enter Tryz.func278,Tryz.ntmps278
  go_wp2;go_ret;exact ⟨rfl,rfl⟩
theorem mG (h:aM w g gt ts P fr n) (p:Nat) (hp:p<P) (b:Nat) (f:w.cell? ⟨b,0,none⟩=some (.int .i64 p)):Calls Tryz.prog 277 #[g,.slice (some ⟨b,0,none⟩) 1 1] w fun e w'=>e= .returned (.int .i64 0)∧w=w':=by
 have c1:=h.blk.cell 1 rfl;have l:=h.small;have c:(p:Int)<(P:Int):=by omega
 have d:(p:Int)<=524288:=by omega
 clear h
 go_enter Tryz.func277,Tryz.ntmps277
 go_wp2
 go_loopw [11] (fun k wr=>∃j:Nat,k= .int .i64 j∧j<=1∧wr=w) (fun k _=>(1-intOf k).toNat)
 case atStart=>exact ⟨0,rfl,by omega,rfl⟩
 case round=>
  obtain ⟨j,rfl,i,rfl⟩:=hrel;by_cases a:j=0
  ·subst a;go_wp2;go_roundw
   case rel=>exact ⟨1,rfl,by omega,trivial⟩
   case measure=>simp [intOf]
  ·obtain rfl:j=1:=by omega
   go_wp2;go_ret;exact ⟨rfl,rfl⟩
theorem ou (h:aM w g gt ts P fr n) (p:Nat) (hp:p<P) (f:fr p=0):Calls Tryz.prog 251 #[g,.int .i64 p] w fun e w'=>e= .returned (.tuple #[.int .i64 0,.int .i64 12])∧Fr (fun _=>False) w w':=by
 have hf:Fr (fun _=>False) w (w.alloc (.cells #[.int .i64 p] 3)):=(Fr.refl _ w).alloc _;have a:=h.frame hf (fun _ _ h=>h);have d:=ae (mG a p hp w.heap.size ((aj.new w [.int .i64 p] 3).cell 0 rfl));have b:=ae (km a p hp);rw [f] at b;have c:=ae hf;clear h a hf
 go_enter Tryz.func251,Tryz.ntmps251
 go_wp2_with fail
 refine (d.out).mono ?_;rintro e w' ⟨rfl,rfl⟩;go_wp2_with fail
 refine (b.out).mono ?_;rintro e w' ⟨rfl,rfl⟩;go_wp2;go_ret2;exact ⟨rfl,c.out⟩
theorem fG (h:aM w g gt ts P fr n) (p f:Nat) (hp:p<P) (k:fr p=f+1):Calls Tryz.prog 251 #[g,.int .i64 p] w fun e w'=>e= .returned (.tuple #[.int .i64 f,.int .i64 0])∧Fr (fun _=>False) w w':=by
 have hf:Fr (fun _=>False) w (w.alloc (.cells #[.int .i64 p] 3)):=(Fr.refl _ w).alloc _;have c:=h.frame hf (fun _ _ h=>h);have j:=ae (mG c p hp w.heap.size ((aj.new w [.int .i64 p] 3).cell 0 rfl));have b:=ae (km c p hp);have d:=h.lt p;rw [k] at b d;rw [show ((f+1:Nat):Int)=(f:Int)+1 by omega] at b;have i:=ae hf;have l:(((f:Int)+1)==0)=false:=by rw [beq_eq_false_iff_ne];omega
 obtain ⟨F,a⟩:∃F:Int,(f:Int)=F:=⟨_,rfl⟩;rw [a] at b l ⊢;have m:F<4294967295:=by omega
 have o:0<=F:=by omega
 clear h c hf d a
 go_enter Tryz.func251,Tryz.ntmps251
 go_wp2_with fail
 refine (j.out).mono ?_;rintro e w' ⟨rfl,rfl⟩;go_wp2_with fail
 refine (b.out).mono ?_;rintro e w' ⟨rfl,rfl⟩;go_wp2;go_ret2;exact ⟨by simp,i.out⟩
end
end Go.Proofs.YthahbijbpinneaaGreatDoor
