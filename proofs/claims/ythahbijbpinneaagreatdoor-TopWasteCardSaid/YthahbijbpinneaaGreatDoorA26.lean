import Derived.Test.YthahbijbpinneaaGreatDoorA22
import Derived.Test.YthahbijbpinneaaGreatDoorA24
set_option maxRecDepth 100000
set_option maxHeartbeats 8000000
set_option linter.all false
namespace Go.Proofs.YthahbijbpinneaaGreatDoor
open Go.RowKit
section
variable {b u n:Nat} {c:Cf} {A:AG} {rs:List Nat} {T:Nat->Prop} {w:World}
theorem sI (f:bM b c A rs u n T w):Calls Tryz.prog 16 #[b] w fun e w'=>e= .returned (.tuple #[])∧cB b c A rs T w w':=by
 have g:=ae (ia f);have H:=ae (show cB b c A rs T w w from ⟨u,n,T,f,Fr.refl _ _,fun _ h=> .inl h⟩);obtain ⟨d,z⟩:(∃i:Option Nat,(i=none->n=0)∧w.cell? ⟨b,11,none⟩=some (fq i))∧w.cell? ⟨b,0,none⟩=some (.int .i64 (c.kind:Int)):=by
  obtain ⟨h,φ,L,Ba,F,i,E,C,S,rfl,v,D,x⟩:=f;exact ⟨⟨i,fun e=>by subst e;exact v.mem.1,aj.cell v.blk 11 rfl⟩,aj.cell v.blk 0 rfl⟩
 obtain ⟨i,r,d⟩:=d
 cases i with
 |some y=>
  rw [show fq (some y)= .pointer (some ⟨y,0,none⟩) from rfl] at d;clear f r
  go_enter Tryz.func16,Tryz.ntmps16
  go_wp2_with fail
  refine (g.out).mono ?_;rintro e w1 ⟨rfl,rfl⟩;clear g;go_wp2;go_end0;exact ⟨rfl,H.out⟩
 |none=>
  obtain rfl:=r rfl;rw [show fq none= .pointer none from rfl] at d;by_cases p:c.kind=1
  ·have j:=ae (jS f p);have q:((c.kind:Int)==1)=true:=by rw [p];rfl
   have a:(c.kind:Int)=1:=by rw [p];rfl
   rw [a] at z;clear f r p q a H
   go_enter Tryz.func16,Tryz.ntmps16
   go_wp2_with fail
   refine (g.out).mono ?_;rintro e w1 ⟨rfl,rfl⟩;clear g;go_wp2_with fail
   refine (j.out).mono ?_;rintro e w3 ⟨rfl,l,B,s,t,k,m,o⟩;have H:=ae (show cB b c A rs T w w3 from ⟨_,B,s,k,m,o⟩);clear j t k m o;go_wp2;go_end0;exact ⟨rfl,H.out⟩
  ·have j:=ae (fx f);have a:¬(c.kind:Int)=1:=by omega
   have q:decide ((c.kind:Int)=1)=false:=decide_eq_false a;clear f r p H
   go_enter Tryz.func16,Tryz.ntmps16
   go_wp2_with fail
   refine (g.out).mono ?_;rintro e w1 ⟨rfl,rfl⟩;clear g;go_wp2_with fail
   refine (j.out).mono ?_;rintro e w3 ⟨rfl,l,s,t,k,m,o⟩;have H:=ae (show cB b c A rs T w w3 from ⟨_,0,s,k,m,o⟩);clear j t k m o;go_wp2;go_end0;exact ⟨rfl,H.out⟩
end
section
variable {b u n s:Nat} {c:Cf} {A:AG} {rs:List Nat} {T:Nat->Prop} {w:World}
theorem xq (D:bM b c A rs u n T w) (F:s<c.Sl) {p f g:Int} (E:¬bl p f g):Calls Tryz.prog 11 #[b,.int .i64 s,bN p f g] w fun e w'=>e= .returned (.int .i64 15)∧Fr (fun _=>False) w w':=by
 obtain ⟨W1,d⟩:∃W1,w.alloc (.cells #[.int .i64 p,.int .i64 f,.int .i64 g] 31)=W1:=⟨_,rfl⟩;have i:Fr (fun _=>False) w W1:=by rw [<-d];exact (Fr.refl _ w).alloc _
 have m:aj W1 w.heap.size [.int .i64 p,.int .i64 f,.int .i64 g] 31:=by rw [<-d];exact aj.new w _ _
 have q:=D.keep i;obtain ⟨y,v,C,I,B⟩:∃y v,Hid (Calls Tryz.prog 50 #[b] W1 fun e w'=>e= .returned (.bool false)∧W1=w')∧W1.cell? ⟨b,9,none⟩=some (.pointer (some ⟨y,0,none⟩))∧Hid (Calls Tryz.prog 51 #[.pointer (some ⟨y,0,none⟩),.int .i64 s] W1 fun e w'=>e= .returned (.tuple #[.int .i64 v,.int .i64 0])∧Fr (fun _=>False) W1 w'):=by
  obtain ⟨h,φ,L,Ba,O,K,N,J,S,rfl,t,M,H⟩:=q;have r:s<(rs.map φ).length:=by rw [List.length_map,t.Sl];exact F
  exact ⟨h.rb,(rs.map φ)[s],ae (cC t.blk),aj.cell t.blk 9 rfl,ae (kr t.roots s _ (List.getElem?_eq_getElem r))⟩
 have a:Hid (∀w1,Calls Tryz.prog 52 #[bN p f g] w1 (gG w1 15)):=ae (fun w1=>by have:=dP p f g w1;rwa [if_neg E] at this);have z:=ae (fun w1 (hf:Fr (fun _=>False) W1 w1)=>m.frame hf (fun h=>h));have k:=ae i;clear D q E m i F;unfold bN at a ⊢
 go_enter Tryz.func11,Tryz.ntmps11
 go_wp2_with fail
 refine (C.out).mono ?_;rintro e w1 ⟨rfl,rfl⟩;clear C d;go_wp2_with fail
 refine (B.out).mono ?_;rintro e w1 ⟨rfl,j⟩;obtain ⟨G,c1,c2⟩:=bE (z.out w1 j);have l:=ae (k.out.trans j (fun _ h=>h.elim));clear B I j k z;go_wp2_with fail
 refine (a.out w1).mono ?_;rintro e w2 ⟨rfl,o⟩;have x:=ae (l.out.trans o (fun _ h=>h.elim));clear o l a G c1 c2;go_wp2;go_ret;exact ⟨rfl,x.out⟩
end
section
variable {A:AG} {r k p f g:Nat} {l:List Nat}
theorem l8 (n:aJ A [r,0] l) (m:k≠0) (o:k∉l) (hp:1<=p):aJ ((A.new k p f g).put k 0 r) [k,0] (k::l):=by
 have b:∀y,y≠k->((A.new k p f g).put k 0 r).gr.ptrs y=A.gr.ptrs y:=fun y u=>by
  obtain ⟨c,d,C,v,D⟩:=AG.new_other (A:=A) (p:=p) (f:=f) (g:=g) u;show (List.range ((A.new k p f g).np y)).map (fun i=>if y=k∧i=0 then r else (A.new k p f g).fld y i)=(List.range (A.np y)).map (A.fld y)
  rw [c];refine List.map_congr_left (fun i _=> ?_);rw [if_neg (fun e=>u e.1),v]
 have t:((A.new k p f g).put k 0 r).gr.ptrs k=(List.range p).map (fun i=>if i=0 then r else 0):=by
  show (List.range ((A.new k p f g).np k)).map (fun i=>if k=k∧i=0 then r else (A.new k p f g).fld k i)=_
  obtain ⟨z,_,_,B,_⟩:=AG.new_self A k p f g;rw [z];refine List.map_congr_left (fun i _=> ?_);rw [B];by_cases h:i=0<;>simp [h]
 have w:r∈((A.new k p f g).put k 0 r).gr.ptrs k:=by rw [t];exact List.mem_map.2 ⟨0,List.mem_range.2 hp,if_pos rfl⟩
 refine ⟨List.nodup_cons.2 ⟨o,n.1⟩,fun x=> ?_⟩;rw [List.mem_cons,n.2];constructor
 ·rintro (rfl|h)
  ·exact .root (by simp) m
  ·induction h with
   |root c d=>
    simp at c;rcases c with rfl|rfl
    ·exact .step (.root (by simp) m) w d
    ·exact absurd rfl d
   | @step a q ha c d j=>
    refine .step j ?_ d;rw [b a (fun e=>o ((n.2 _).2 (by rw [<-e];exact ha)))];exact c
 ·intro h
  induction h with
  |root c d=>simp at c;omega
  | @step a q _ c d j=>
   right;rcases j with rfl|j
   ·rw [t] at c;obtain ⟨i,_,e⟩:=List.mem_map.1 c;by_cases s:i=0
    ·rw [if_pos s] at e;subst e;exact .root (by simp) d
    ·rw [if_neg s] at e;exact absurd e.symm d
   ·rw [b a (fun e=>o ((n.2 _).2 (by rw [<-e];exact j)))] at c;exact .step j c d
theorem ma (b:k∉l):((A.new k p f g).put k 0 r).Wd (k::l)=1+(p+f+g)+A.Wd l:=by
 unfold AG.Wd;rw [List.map_cons,List.sum_cons];have a:((A.new k p f g).put k 0 r).sz k=1+(p+f+g):=(AG.new_self A k p f g).2.2.2.2;rw [a];congr 2
 refine List.map_congr_left (fun x c=>(AG.new_other (A:=A) (p:=p) (f:=f) (g:=g) (y:=x) (fun e=>b (by rw [<-e];exact c))).2.2.2.2)
end
section
variable {b xb k p f g:Nat} {c:Cf} {A:AG} {rs:List Nat} {cs cs':List Value} {t t':TypeId} {w0 w w':World}
theorem bu.box (h:bu b c A rs xb cs t w0 w):bu b c A rs w.heap.size cs' t' w0 (w.alloc (.cells cs'.toArray t')):=by
 obtain ⟨u,n,T,a,d,j,l,e⟩:=h;have hf:Fr (fun _=>False) w (w.alloc (.cells cs'.toArray t')):=(Fr.refl _ w).alloc _;exact ⟨u,n,T,a.keep hf,d,fun i=>by have:=a.lt _ i;omega,aj.new w cs' t',e.trans hf (fun _ h=>h.elim)⟩
theorem bu.back (h:bu b c A rs xb cs t w0 w) {i:Nat} (e:aj w0 i cs' t'):bu b c A rs i cs' t' w0 w:=by
 obtain ⟨u,n,T,j,a,m,o,d⟩:=h;have q:=e.lt;exact ⟨u,n,T,j,a,fun l=>by have:=a _ l;omega,e.frame d (fun h=>h),d⟩
theorem bu.start (h:bu b c A rs xb cs t w0 w):Calls Tryz.prog 16 #[b] w fun e w'=>e= .returned (.tuple #[])∧bu b c A rs xb cs t w0 w':=by
 obtain ⟨u,n,T,a,d,i,j,l⟩:=h;refine (sI a).mono ?_;rintro e w' ⟨rfl,g⟩;exact ⟨rfl,bu.hop d i j l g⟩
theorem bu.step (h:bu b c A rs xb cs t w0 w):Calls Tryz.prog 17 #[b] w fun e w'=>(∃B,e= .returned (.bool B))∧bu b c A rs xb cs t w0 w':=by
 obtain ⟨u,n,T,i,j,l,m,o⟩:=h;refine (jU i).mono ?_;rintro e w' ⟨rfl,q,g1,a,d⟩;exact ⟨⟨_,rfl⟩,bu.next j l m o g1 a d⟩
def dD (b:Nat) (c:Cf) (z k xb:Nat) (cs:List Value) (t:TypeId) (w0 w:World):Prop:=∃A l r,bu b c A [r,0] xb cs t w0 w∧l.length=k∧aJ A [r,0] l∧A.Wd l=k*z
def zH (b:Nat) (c:Cf) (p f g k xb:Nat) (cs:List Value) (t:TypeId) (w0 w:World):Prop:=∃A l r n,bu b c (A.new n p f g) [r,n] xb cs t w0 w∧l.length=k∧aJ A [r,0] l∧A.Wd l=k*(1+(p+f+g))∧n≠0∧n∉l
def zt (b:Nat) (c:Cf) (z k xb:Nat) (cs:List Value) (t:TypeId) (w0 w:World):Prop:=∃A l n,(∃r,bu b c A [r,n] xb cs t w0 w)∧l.length=k∧aJ A [n,0] l∧A.Wd l=k*z
theorem dD.alloc (h:dD b c (1+(p+f+g)) k xb cs t w0 w) (x:c.Sl=2) (q:bl p f g):Calls Tryz.prog 11 #[b,.int .i64 1,bN p f g] w fun e w'=>(k<c.Wd/(1+(p+f+g))∧e= .returned (.int .i64 0)∧zH b c p f g k xb cs t w0 w')∨(k=c.Wd/(1+(p+f+g))∧e= .returned (.int .i64 21)∧dD b c (1+(p+f+g)) k xb cs t w0 w'):=by
 obtain ⟨A,l,r,m,n,i,d⟩:=h;have o:=m.words_le i;rw [d] at o;refine (m.alloc2 (s:=1) (k:=l.sum+1) i (by omega) q (by omega) (jr l)).mono ?_;have j:0<1+(p+f+g):=by omega
 rintro e w' (⟨a,rfl,g1⟩|⟨a,rfl,g1⟩)
 ·rw [d,<-Nat.succ_mul] at a;exact .inl ⟨(Nat.le_div_iff_mul_le j).2 a,rfl,A,l,r,_,g1,n,i,d,by omega,jr l⟩
 ·rw [d,<-Nat.succ_mul] at a;refine .inr ⟨?_,rfl,A,l,r,g1,n,i,d⟩;have u:=(Nat.le_div_iff_mul_le j).2 o;have v:=(Nat.div_lt_iff_lt_mul j).2 a;omega
theorem zH.store (h:zH b c p f g k xb cs t w0 w) (hp:1<=p):Calls Tryz.prog 13 #[b,.int .i64 1,.int .i64 0,.int .i64 0] w fun e w'=>e= .returned (.int .i64 0)∧zt b c (1+(p+f+g)) (k+1) xb cs t w0 w':=by
 obtain ⟨A,l,r,n,j,m,o,q,a,d⟩:=h;refine (j.store (s:=1) (x:=n) (i:=0) (u:=0) (v:=r) rfl a (by rw [(AG.new_self A n p f g).1];omega) rfl).mono ?_;rintro e w' ⟨rfl,g1⟩;exact ⟨rfl,_,n::l,n,⟨r,g1⟩,by rw [List.length_cons,m],l8 o a d hp,by rw [ma d,q,Nat.succ_mul,Nat.add_comm]⟩
theorem zt.copy {z:Nat} (h:zt b c z k xb cs t w0 w) (i:c.Sl=2):Calls Tryz.prog 15 #[b,.int .i64 0,.int .i64 1] w fun e w'=>e= .returned (.int .i64 0)∧∃A l n,bu b c A [n,n] xb cs t w0 w'∧l.length=k∧aJ A [n,0] l∧A.Wd l=k*z:=by
 obtain ⟨A,l,n,⟨r,a⟩,d⟩:=h;refine (a.copy (s:=0) (u:=1) (by omega) rfl).mono ?_;rintro e w' ⟨rfl,g⟩;exact ⟨rfl,A,l,n,g,d⟩
theorem zt.clear {z:Nat} (h:∃A l n,bu b c A [n,n] xb cs t w0 w∧l.length=k∧aJ A [n,0] l∧A.Wd l=k*z) (i:c.Sl=2):Calls Tryz.prog 14 #[b,.int .i64 1] w fun e w'=>e= .returned (.int .i64 0)∧dD b c z k xb cs t w0 w':=by
 obtain ⟨A,l,n,a,d⟩:=h;refine (a.clear (s:=1) (by omega)).mono ?_;rintro e w' ⟨rfl,g⟩;exact ⟨rfl,A,l,n,g,d⟩
theorem dD.zero {z:Nat} (h:bu b c A [0,0] xb cs t w0 w):dD b c z 0 xb cs t w0 w:=⟨A,[],0,h,rfl,⟨.nil,fun x=>⟨fun h=>(by cases h),fun h=>absurd h (dT (n:=2))⟩⟩,by rw [Nat.zero_mul];rfl⟩
theorem dD.live {z:Nat} (h:dD b c z k xb cs t w0 w):Calls Tryz.prog 19 #[b] w fun e w'=>e= .returned (.tuple #[.int .i64 k,.int .i64 ((k*z:Nat):Int)])∧dD b c z k xb cs t w0 w':=by
 obtain ⟨A,l,r,j,a,d,i⟩:=h;refine (j.live d).mono ?_;rintro e w' ⟨rfl,g⟩;exact ⟨by rw [a,i],A,l,r,g,a,d,i⟩
theorem dD.clear0 {z:Nat} (h:dD b c z k xb cs t w0 w) (i:c.Sl=2):Calls Tryz.prog 14 #[b,.int .i64 0] w fun e w'=>e= .returned (.int .i64 0)∧dD b c z 0 xb cs t w0 w':=by
 obtain ⟨A,l,r,a,d⟩:=h;refine (a.clear (s:=0) (by omega)).mono ?_;rintro e w' ⟨rfl,g⟩;exact ⟨rfl,dD.zero g⟩
theorem dD.box {z:Nat} (h:dD b c z k xb cs t w0 w):dD b c z k w.heap.size cs' t' w0 (w.alloc (.cells cs'.toArray t')):=let ⟨A,l,r,a,d⟩:=h;⟨A,l,r,a.box,d⟩
theorem dD.back {z:Nat} (h:dD b c z k xb cs t w0 w) {a:Nat} (i:aj w0 a cs' t'):dD b c z k a cs' t' w0 w:=let ⟨A,l,r,d,e⟩:=h;⟨A,l,r,d.back i,e⟩
theorem dD.blk {z:Nat} (h:dD b c z k xb cs t w0 w):aj w xb cs t:=let ⟨_,_,_,a,_⟩:=h;a.blk
theorem dD.fr {z:Nat} (h:dD b c z k xb cs t w0 w):Fr (fun _=>False) w0 w:=let ⟨_,_,_,a,_⟩:=h;a.fr
theorem dD.start {z:Nat} (h:dD b c z k xb cs t w0 w):Calls Tryz.prog 16 #[b] w fun e w'=>e= .returned (.tuple #[])∧dD b c z k xb cs t w0 w':=by
 obtain ⟨A,l,r,a,d⟩:=h;refine a.start.mono ?_;rintro e w' ⟨rfl,g⟩;exact ⟨rfl,A,l,r,g,d⟩
theorem dD.step {z:Nat} (h:dD b c z k xb cs t w0 w):Calls Tryz.prog 17 #[b] w fun e w'=>(∃B,e= .returned (.bool B))∧dD b c z k xb cs t w0 w':=by
 obtain ⟨A,l,r,a,d⟩:=h;refine a.step.mono ?_;rintro e w' ⟨⟨B,rfl⟩,g⟩;exact ⟨⟨B,rfl⟩,A,l,r,g,d⟩
theorem dD.keep {z:Nat} (h:dD b c z k xb cs t w0 w) (hf:Fr (fun _=>False) w w'):dD b c z k xb cs t w0 w':=let ⟨A,l,r,a,d⟩:=h;⟨A,l,r,a.keep hf,d⟩
def wL (b:Nat) (c:Cf) (z xb:Nat) (cs:List Value) (t:TypeId) (w0:World) (e:Ending) (w':World):Prop:=e= .returned (.int .i64 ((c.Wd/z:Nat):Int))∧dD b c z (c.Wd/z) xb cs t w0 w'
theorem un (h:dD b c (1+(p+f+g)) 0 xb cs t w0 w) (n:aj w0 xb cs t) (s:c.Sl=2) (o:c.Wd<=512) (F:bl p f g) (hp:1<=p):Calls Tryz.prog 18 #[b,bN p f g,.int .i64 1] w (wL b c (1+(p+f+g)) xb cs t w0):=by
 obtain ⟨W1,l⟩:∃W1,w.alloc (.cells #[.int .i64 p,.int .i64 f,.int .i64 g] 31)=W1:=⟨_,rfl⟩;have u:Hid (dD b c (1+(p+f+g)) 0 w.heap.size [.int .i64 p,.int .i64 f,.int .i64 g] 31 w0 W1):=by
  show dD _ _ _ _ _ _ _ _ _
  rw [<-l];exact h.box
 have d:Hid (∀k xb w,dD b c (1+(p+f+g)) k xb [.int .i64 p,.int .i64 f,.int .i64 g] 31 w0 w->Calls Tryz.prog 11 #[b,.int .i64 1,bN p f g] w fun e w'=>(k<c.Wd/(1+(p+f+g))∧e= .returned (.int .i64 0)∧zH b c p f g k xb [.int .i64 p,.int .i64 f,.int .i64 g] 31 w0 w')∨(k=c.Wd/(1+(p+f+g))∧e= .returned (.int .i64 21)∧dD b c (1+(p+f+g)) k xb [.int .i64 p,.int .i64 f,.int .i64 g] 31 w0 w')):=ae (fun k xb w h=>h.alloc s F);have i:Hid (∀k xb w,zH b c p f g k xb [.int .i64 p,.int .i64 f,.int .i64 g] 31 w0 w->Calls Tryz.prog 13 #[b,.int .i64 1,.int .i64 0,.int .i64 0] w fun e w'=>e= .returned (.int .i64 0)∧zt b c (1+(p+f+g)) (k+1) xb [.int .i64 p,.int .i64 f,.int .i64 g] 31 w0 w'):=ae (fun k xb w h=>h.store hp);have B:Hid (∀w',dD b c (1+(p+f+g)) (c.Wd/(1+(p+f+g))) w.heap.size [.int .i64 p,.int .i64 f,.int .i64 g] 31 w0 w'->wL b c (1+(p+f+g)) xb cs t w0 (.returned (.int .i64 ((c.Wd/(1+(p+f+g)):Nat):Int))) w'):=ae (fun w' h=>⟨rfl,h.back n⟩);have L:=ae (show c.Wd/(1+(p+f+g))<=512 from Nat.le_trans (Nat.div_le_self _ _) o);have C:=ae s;clear h n s o F hp;generalize (wL b c (1+(p+f+g)) xb cs t w0)=Q at*;generalize 1+(p+f+g)=z at*;generalize c.Wd/z=K at*;unfold bN at d ⊢
 go_enter Tryz.func18,Tryz.ntmps18
 go_wp2
 go_loopw [7] (fun x wr=>∃k:Nat,x= .int .i64 k∧k<=K∧Hid (dD b c z k w.heap.size [.int .i64 p,.int .i64 f,.int .i64 g] 31 w0 wr)) (fun x _=>(K+1-intOf x).toNat)
 case atStart=>exact ⟨0,rfl,by omega,u⟩
 case round=>
  clear u;obtain ⟨k,rfl,O,r⟩:=hrel;obtain ⟨G,I,J⟩:=bE r.out.blk;have a:=ae (d.out k _ wr r.out);have q:k<=512:=by have:=L.out;omega
  clear r d l;go_wp2_with fail
  refine (a.out).mono ?_;rintro e w4 (⟨N,rfl,m⟩|⟨rfl,rfl,m⟩)
  ·have j:=ae (i.out k _ w4 m);clear a m i G I J;go_wp2_with fail
   refine (j.out).mono ?_;rintro e w5 ⟨rfl,n⟩;have v:=ae (n.copy C.out);clear j n;go_wp2_with fail
   refine (v.out).mono ?_;rintro e w6 ⟨rfl,D⟩;have y:=ae (zt.clear D C.out);clear v D;go_wp2_with fail
   refine (y.out).mono ?_;rintro e P ⟨rfl,E⟩;have M:=ae E;clear y E;go_wp2;go_roundw
   case rel=>exact ⟨k+1,by go_num,by omega,M⟩
   case measure=>simp [intOf];omega
  ·have H:=ae (B.out w4 m);clear a m i G I J B;go_wp2;exact H.out
end
end Go.Proofs.YthahbijbpinneaaGreatDoor
