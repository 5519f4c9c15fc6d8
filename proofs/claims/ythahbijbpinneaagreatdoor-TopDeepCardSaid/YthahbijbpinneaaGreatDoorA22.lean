import Derived.Test.YthahbijbpinneaaGreatDoorA1
import Derived.Test.YthahbijbpinneaaGreatDoorA8
import Derived.Test.YthahbijbpinneaaGreatDoorA14
import Derived.Test.YthahbijbpinneaaGreatDoorA21
set_option maxRecDepth 100000
set_option maxHeartbeats 8000000
set_option linter.all false
namespace Go.Proofs.YthahbijbpinneaaGreatDoor
open Go.RowKit
theorem vV {P:Program} (t:TypeId) (b c:Nat) (w:World):
  ∃r w',(binOp .mul t (.float .f64 b) (.float .f64 c)).run P w= .ok (.float .f64 r) w'∧Fr (fun _=>False) w w':=by
 cases h:floatBits .mul .f64 b c with
 |some r=>exact ⟨r,w,run_float_arith w .mul t .f64 b c r h,Fr.refl _ w⟩
 |none=>
  refine ⟨(Question.nanBits .f64 b c).cut (w.tape w.drawn (.nanBits .f64 b c)),w.drew,?_,(Fr.refl _ w).drew⟩;unfold floatBits at h;simp only at h;simp [binOp,Op.floatArith,h,Question.forced]
section
variable {b u n:Nat} {c:Cf} {A:AG} {rs:List Nat} {T:Nat->Prop} {w:World}
theorem uT (Y:bM b c A rs u n T w):Calls Tryz.prog 57 #[b] w fun e w'=>∃B,e= .returned (.bool B)∧Fr (fun _=>False) w w':=by
 obtain ⟨h,φ,L,Ba,z,cy,ns,bs,S,rfl,d,X,N⟩:=Y;obtain ⟨V,M⟩:∃V,V=w:=⟨_,rfl⟩;have l:=ae (fun w1 (hf:Fr (fun _=>False) w w1)=>d.keep hf);have U:=ae (fun w1 (hf:Fr (fun _=>False) w.drew w1)=>(show w1.cell? ⟨h.b,10,none⟩=some (.pointer (some ⟨z,0,none⟩))∧True from ⟨aj.cell (l.out w1 (((Fr.refl (fun _=>False) w).drew).trans hf (fun _ h=>h.elim))).blk 10 rfl,trivial⟩));have i:=ae (fun w1 (hf:Fr (fun _=>False) w.drew w1)=>gO (l.out w1 (((Fr.refl (fun _=>False) w).drew).trans hf (fun _ h=>h.elim))).reg);have m:=ae (fun w1 (hf:Fr (fun _=>False) w.drew w1)=>ep (l.out w1 (((Fr.refl (fun _=>False) w).drew).trans hf (fun _ h=>h.elim))).reg);generalize Ba+u=Tp at i;have o:=ae (fun w1 w2 (hf:Fr (fun _=>False) w.drew w1) (hg:Fr (fun _=>False) w1.drew w2)=>(show Fr (fun _=>False) w w2∧w2.cell? ⟨h.b,7,none⟩=some (.float .f64 c.trig)∧w2.cell? ⟨h.b,3,none⟩=some (.int .i64 (c.Wd:Int))∧True from by
  have Q:=((((Fr.refl (fun _=>False) w).drew).trans hf (fun _ h=>h.elim)).drew).trans hg (fun _ h=>h.elim);exact ⟨Q,aj.cell (l.out w2 Q).blk 7 rfl,aj.cell (l.out w2 Q).blk 3 rfl,trivial⟩))
 clear d X N l M;generalize h.b=b at*
 go_enter Tryz.func57,Tryz.ntmps57
 go_wp2;refine bU 13 (fun a E=>Fr (fun _=>False) a E) [.c (.pointer (some ⟨b,0,none⟩)),.c (.pointer (some ⟨b,0,none⟩)),.c (.pointer (some ⟨b,10,none⟩)),.c (.pointer (some ⟨z,0,none⟩)),.c (.int .i64 Tp),.c (.pointer (some ⟨b,0,none⟩)),.c (.pointer (some ⟨b,0,none⟩)),.c (.pointer (some ⟨b,10,none⟩)),.c (.pointer (some ⟨z,0,none⟩)),.c (.int .i64 Ba),.c (.int .i64 (IntKind.i64.wrap ((Tp:Int)-(Ba:Int)))),.p (fun v _=>∃r,v= .float .f64 r),.p (fun v _=>∃r,v= .float .f64 r)] (fun j=>false) (by kernel_rfl) (by kernel_rfl) (by kernel_rfl) (by kernel_rfl) rfl (fun _=>Fr.refl _ _) (fun _ _ _ J K=>J.trans K (fun _ h=>h.elim)) (fun _ _ h=>h.size) ⟨fun _ _ _ h _=>h,fun _ _ _ h _=>h,trivial⟩ ?_;intro F g;simp only [cU,PK.val,List.take_succ_cons,List.take_zero,aa,ab,ac] at g;subst g;refine ⟨by
  refine ⟨?_,?_,?_,?_,?_,?_,?_,?_,?_,?_,?_,?_,?_,trivial⟩<;>intro vs w1 d R C y
  all_goals try (apply oV;rotate_left;rfl;exact Fr.refl _ _;go_simp;done)
  all_goals try (apply oV;rotate_left;rfl;exact Fr.refl _ _;have ad:=(U.out w1 d).1;go_simp;done)
  ·refine ar 76 #[z] (by go_simp) ((i.out w1 d).mono ?_);rintro e w5 ⟨rfl,rfl⟩;exact ⟨_,rfl,rfl,Fr.refl _ _,fun h=>nomatch h⟩
  ·refine ar 75 #[z] (by go_simp) ((m.out w1 d).mono ?_);rintro e w5 ⟨rfl,rfl⟩;exact ⟨_,rfl,rfl,Fr.refl _ _,fun h=>nomatch h⟩
  ·refine ao (.float .f64 (floatOfInt .f64 (IntKind.i64.wrap ((Tp:Int)-(Ba:Int))))) (by go_simp) ⟨⟨_,rfl⟩,Fr.refl _ _,fun h=>nomatch h⟩
  ·have q:=C 11 (by kernel_rfl);obtain ⟨r,q⟩:=q;refine ao (.float .f64 r) (by go_simp) ⟨⟨_,rfl⟩,Fr.refl _ _,fun h=>nomatch h⟩
  ,fun vs w1 d hp y=> ?_⟩
 obtain ⟨G,k,_⟩:=hp;obtain ⟨F,g⟩:=k;simp only [g];clear G y g;simp only [List.drop_succ_cons,List.drop_zero];have f:=ae (fun w2 hg=>o.out w1 w2 d hg);clear U i m o d;go_wp2;refine bU 15 (fun a E=>Fr (fun _=>False) a E) [.c (.float .f64 F),.c (.pointer (some ⟨b,0,none⟩)),.c (.pointer (some ⟨b,0,none⟩)),.c (.pointer (some ⟨b,0,none⟩)),.c (.pointer (some ⟨b,7,none⟩)),.c (.float .f64 c.trig),.c (.pointer (some ⟨b,0,none⟩)),.c (.pointer (some ⟨b,0,none⟩)),.c (.pointer (some ⟨b,0,none⟩)),.c (.pointer (some ⟨b,3,none⟩)),.c (.int .i64 (c.Wd:Int)),.c (.float .f64 (floatOfInt .f64 (c.Wd:Int))),.p (fun v _=>∃r,v= .float .f64 r),.p (fun v _=>∃B,v= .bool B),.p (fun v _=>∃B,v= .bool B)] (fun j=>false) (by kernel_rfl) (by kernel_rfl) (by kernel_rfl) (by kernel_rfl) rfl (fun _=>Fr.refl _ _) (fun _ _ _ J K=>J.trans K (fun _ h=>h.elim)) (fun _ _ h=>h.size) ⟨fun _ _ _ h _=>h,fun _ _ _ h _=>h,fun _ _ _ h _=>h,trivial⟩ ?_;intro F g;simp only [cU,PK.val,List.take_succ_cons,List.take_zero,aa,ab,ac] at g;subst g;refine ⟨by
  refine ⟨?_,?_,?_,?_,?_,?_,?_,?_,?_,?_,?_,?_,?_,?_,?_,trivial⟩<;>intro vs w1 d R C y
  all_goals try (apply oV;rotate_left;rfl;exact Fr.refl _ _;go_simp;done)
  all_goals try (apply oV;rotate_left;rfl;exact Fr.refl _ _;have k7:=(f.out w1 d).2.1;go_simp;done)
  all_goals try (apply oV;rotate_left;rfl;exact Fr.refl _ _;have k3:=(f.out w1 d).2.2.1;go_simp;done)
  ·obtain ⟨r,w5,Z,O⟩:=vV (P:=Tryz.prog) 22 c.trig (floatOfInt .f64 (c.Wd:Int)) w1;refine ao (.float .f64 r) (w':=w5) (by go_simp) ⟨⟨_,rfl⟩,O,fun h=>nomatch h⟩
  ·have s:=C 12 (by kernel_rfl);obtain ⟨r,s⟩:=s;refine ao (.bool (FloatKind.f64.format.order F r==some .gt||FloatKind.f64.format.order F r==some .eq)) (by go_simp) ⟨⟨_,rfl⟩,Fr.refl _ _,fun h=>nomatch h⟩
  ·have t:=C 13 (by kernel_rfl);obtain ⟨r,t⟩:=t;refine ao (.bool r) (by go_simp) ⟨⟨_,rfl⟩,Fr.refl _ _,fun h=>nomatch h⟩
  ,fun ah w4 x hp y=> ?_⟩
 obtain ⟨k,H,I,_⟩:=hp;obtain ⟨B,W⟩:=I;simp only [W];clear k H y W;simp only [List.drop_succ_cons,List.drop_zero];have D:=ae (f.out w4 x).1;clear f x;go_wp2;go_ret;exact ⟨B,rfl,D.out⟩
end
def zB (b:Nat) (c:Cf) (A:AG) (rs:List Nat) (A':AG) (rs':List Nat) (u n:Nat) (T:Nat->Prop) (s a:Nat) (w:World):Prop:=
 ∃h φ φ' L Ba ub cy ns bs S,h.b=b∧eT (fun _=>True) h c A rs φ L Ba u ub cy n ns bs S w∧(∀k,T k↔eZ h ub S k)∧(n=0->cy=none)∧aO A' rs' φ' L Ba (Ba+u)∧rs'.map φ'=(rs.map φ).set s a∧rs'.length=rs.length
section
variable {b u sz n a s p f g k:Nat} {c:Cf} {A A':AG} {rs rs':List Nat} {T:Nat->Prop} {w w':World}
theorem yB.keep (o:yB b c A rs u sz n T w a) (hf:Fr (fun _=>False) w w'):yB b c A rs u sz n T w' a:=by
 obtain ⟨h,φ,L,Ba,G,e,q,l,S,r,t,v,x,z,B,C⟩:=o;refine ⟨h,φ,L,Ba,G,e,q,l,S,r,t.keep hf,v,x,z,B,?_⟩
 cases e with
 |none=>trivial
 |some y=>
  obtain ⟨m,s,d,hg,i,fr,j,Us,D,E,F⟩:=C;exact ⟨m,s,d,hg,i,fr,j,Us,D,E.stays hf (fun _ _ h=>h) (fun h=>h),F⟩
theorem mx {L:Nat->Nat} {a W n k:Nat} (h:k<a∨a+1+n<=k):ii L a W n k=L k:=by
 unfold ii;rw [if_neg (by omega),if_neg (by omega)]
theorem yY {L L':Nat->Nat} {a W n k:Nat} (d:a<=k) (e:k<a+1+n):ii L a W n k=ii L' a W n k:=by
 unfold ii;by_cases h:k=a
 ·rw [if_pos h,if_pos h]
 ·rw [if_neg h,if_neg h,if_pos (by omega),if_pos (by omega)]
def yk (b:Nat) (c:Cf) (A:AG) (rs:List Nat) (A':AG) (rs':List Nat) (u n:Nat) (T:Nat->Prop) (s a:Nat) (w:World) (e:Ending) (w':World):Prop:=e= .returned (.int .i64 0)∧∃T',zB b c A rs A' rs' u n T' s a w'∧Fr T w w'∧∀k,T' k->T k∨w.heap.size<=k
theorem xF {φ:Nat->Nat} (l:φ 0=0) (d:k≠0) (h:¬Reach A.gr rs k):(rs.set s k).map (fun y=>if y=k then a else φ y)=(rs.map φ).set s a:=by
 have i:rs.map (fun y=>if y=k then a else φ y)=rs.map φ:=List.map_congr_left (fun z j=>if_neg (fun (e:z=k)=>h (.root (e▸j) d)));rw [List.map_set,i,if_pos rfl]
theorem yT (ha:yB b c A rs u sz n T w a) (a2:sz=1+(p+f+g)) (ho:bl p f g) (N:k≠0) (O:¬Reach A.gr rs k):∃m,w.cell? ⟨b,8,none⟩=some (.pointer (some ⟨m,0,none⟩))∧Calls Tryz.prog 55 #[.iface 112 (.pointer (some ⟨m,0,none⟩)),.int .i64 a,bN p f g] w (yk b c A rs (A.new k p f g) (rs.set s k) (u+sz) n T s a w):=by
 obtain ⟨h,φ,L,Ba,ub,cy,ns,bs,S,rfl,l,hT,am,Z,rfl,ap⟩:=ha;refine ⟨h.m,aj.cell l.blk 8 rfl,?_⟩;have a0:=l.half.le;have a3:=l.half.top;have a1:=l.cok.page2;have Q:=l.half.mod l.cok;have av:=l.fits;obtain ⟨ax,_⟩:=l.cok.W5;have t:=Z.new (n:=k) (p:=p) (f:=f) (g:=g) (s:=s) (a:=Ba+u) (hi':=Ba+(u+sz)) N O (by omega) (Nat.le_refl _) (by omega) ho;have r:=xF (s:=s) (a:=Ba+u) (rs:=rs) Z.zero N O;have H:∀k,S k->T k:=fun k d=>(hT k).2 (.inl d)
 cases cy with
 |none=>
  obtain ⟨aq,Us,Hg,mp,hm,R⟩:=id l.mem;refine (oq (aR _ _ _ _ _ _ _) (aF _ _ _ _ _ _ _) (j4 _ _ _ _ _ _ _) hm (Ba+u) p f g (by omega) (by omega) ho (fun k j i=>j5 R Q (show Ba+(u+sz)<=c.W by omega) k (by omega) (by omega))).mono ?_;rintro e w' ⟨rfl,S',g1,C,D⟩;have o:aO A rs φ (ii L (Ba+u) (eW p f g) (p+f+g)) Ba (Ba+(u+sz)):=(Z.congr (fun k j i=>mx (.inl i))).wide (by omega);exact ⟨rfl,eZ h ub S',⟨h,φ,_,ii L (Ba+u) (eW p f g) (p+f+g),Ba,ub,none,ns,bs,S',rfl,l.turn C D ⟨aq,Us,Hg,mp,g1,R⟩ o,fun k=>Iff.rfl,fun _=>rfl,t,r,List.length_set⟩,C.mono (fun k d=> .inl (H k d)),fun k d=>(eZ.sub D k d).imp (hT k).2 id⟩
 |some y=>
  obtain ⟨Y,st,J,hg,Mv,fr,ah,Us,q1,⟨Hg,Sm,mp,M,fw,kk,p1,p2,p3,p4,p5⟩,r1,r2,r3,V,r5,r6,r7,r8,P⟩:=ap;have d:=l.mem.1;have hm:=p1.mem;rw [r2,V,r6] at hm;have U:=q1.top1;have I:∀k,Ba+u<=k->k<Ba+(u+sz)->aY c.W c.Pg mp k:=fun k j i=>by
   have:=(p2.beh_page q1.ok U (x:=k) (by omega) i).2;rw [V] at this;exact ⟨by omega,this⟩
  refine (oq (aR _ _ _ _ _ _ _) (aF _ _ _ _ _ _ _) (j4 _ _ _ _ _ _ _) (L:=M) (show bm h.m c.Pg c.W c.Fs Us Hg mp M Sm w from ⟨M,hm,fun _ _=>rfl⟩) (Ba+u) p f g (by omega) (by omega) ho (fun k j i=>I k (by omega) (by omega))).mono ?_;rintro e w' ⟨rfl,v,⟨X,g1,gM⟩,C,D⟩;have K:Fr S w w':=C.mono (fun k d=> .inl ((p5 k).2 (.inl d)));have hs:∀k,(v k∨Y.has k)->S k∨w.heap.size<=k:=fun k d=>by
   rcases d with d|d
   ·exact (D k d).imp (fun h=>(p5 k).2 (.inl h)) id
   ·exact .inl ((p5 k).2 (.inr d))
  obtain ⟨q,E⟩:∃q:Nat->Nat,q=fun k=>if Ba+u<=k then X k else L k:=⟨_,rfl⟩
  have z:∀k,k<Ba+u->q k=L k:=fun k d=>by rw [E];exact if_neg (by omega)
  have F:∀k,Ba+u<=k->q k=X k:=fun k d=>by rw [E];exact if_pos d
  have G:∀k,k<c.W->mp (k/c.Pg)=true->X k=ii M (Ba+u) (eW p f g) (p+f+g) k:=fun k j i=>gM k ⟨j,i⟩
  have ad:kJ Y st J hg c.Fs (Ba+(u+sz)) Mv n fr ah Us q (fun k=>v k∨Y.has k) w':=by
   refine ⟨Hg,v,mp,X,fw,kk,p1.mem_ (by rw [r2,V,r6];exact g1) C D,?_,p3,p4,fun k=>Iff.rfl⟩;refine p2.put q1.ok (lo:=Ba+u) P (by omega) (Nat.le_refl _) U p2.pages z (fun k j i h3=> ?_) (fun k j i=>(F k j).symm) p2.Rm;rw [r6] at j;rw [V] at i;rw [G k j i];exact mx (by omega)
  have o:aO A rs φ q Ba (Ba+(u+sz)):=(Z.congr (fun k j i=>z k i)).wide (by omega);have B:=t.congr (L':=q) (fun k j i=>by
   by_cases h3:k<Ba+u
   ·rw [z k h3,mx (.inl h3)]
   ·obtain ⟨d1,d2⟩:=I k (by omega) i;rw [F k (by omega),G k d1 d2];exact yY (by omega) (by omega))
  exact ⟨rfl,eZ h ub _,⟨h,φ,_,q,Ba,ub,some y,ns,bs,_,rfl,l.turn K hs ⟨d,Y,st,J,hg,Mv,fr,ah,q1,⟨Us,trivial,ad⟩,r1,r2,r3,V,r5,r6,r7,r8⟩ o,fun k=>Iff.rfl,am,B,r,List.length_set⟩,K.mono (fun k d=> .inl (H k d)),fun k d=>(eZ.sub hs k d).imp (hT k).2 id⟩
theorem yU (C:zB b c A rs A' rs' u n T s a w) (E:s<c.Sl):∃v,w.cell? ⟨b,9,none⟩=some (.pointer (some ⟨v,0,none⟩))∧Calls Tryz.prog 56 #[.pointer (some ⟨v,0,none⟩),.int .i64 s,.int .i64 a] w fun e w'=>e= .returned (.int .i64 0)∧bM b c A' rs' u n T w'∧Fr T w w':=by
 obtain ⟨h,φ,H,L,Ba,G,y,F,x,S,rfl,i,r,m,D,l,j⟩:=C;refine ⟨h.rb,aj.cell i.blk 9 rfl,(kt i.roots s a (by rw [List.length_map,i.Sl];exact E)).mono ?_⟩;rintro e w' ⟨rfl,t,hf⟩;rw [<-l] at t;have d:=i.d;obtain ⟨I,z,J,K,B,M,q,N,O⟩:=id i.e;exact ⟨rfl,⟨h,H,L,Ba,G,y,F,x,S,rfl,⟨i.cok,aj.frame i.blk hf z,t,aj.frame i.reg hf (Ne.symm B),ak i.tab hf (Ne.symm q),D,by rw [j];exact i.Sl,i.fits,i.half,i.mem.stays hf (fun k o=>(d k o).2.2.1) (Ne.symm q),d,i.e⟩,r,m⟩,hf.mono (fun k o=> .inl ((r k).2 (.inr (.inr (.inr (.inl o))))))⟩
end
def wO (b:Nat) (c:Cf) (A:AG) (rs l0:List Nat) (s k p f g:Nat) (T:Nat->Prop) (w:World) (e:Ending) (w':World):Prop:=
 (A.Wd l0+(1+(p+f+g))<=c.Wd∧e= .returned (.int .i64 0)∧∃u n T',bM b c (A.new k p f g) (rs.set s k) u n T' w'∧Fr T w w'∧∀k,T' k->T k∨w.heap.size<=k)∨
 (c.Wd<A.Wd l0+(1+(p+f+g))∧e= .returned (.int .i64 21)∧∃u n T',bM b c A rs u n T' w'∧Fr T w w'∧∀k,T' k->T k∨w.heap.size<=k)
section
variable {b u n s k p f g:Nat} {c:Cf} {A A':AG} {rs rs' l0:List Nat} {T:Nat->Prop} {w w':World}
theorem uO (j:bM b c A rs u n T w):w.cell? ⟨b,0,none⟩=some (.int .i64 (c.kind:Int))∧∃a:Option Nat,w.cell? ⟨b,11,none⟩=some (fq a)∧(a=none->n=0)∧(n=0->a=none):=by
 obtain ⟨h,φ,L,Ba,q,a,o,l,S,rfl,i,m,d⟩:=j;refine ⟨aj.cell i.blk 0 rfl,a,aj.cell i.blk 11 rfl,fun e=> ?_,d⟩;subst e;exact i.mem.1
theorem iM (hi:bM b c A rs u n T w) (hl:aJ A rs l0) (hs:s<c.Sl) (X:bl p f g) (b6:k≠0) (b9:¬Reach A.gr rs k):Calls Tryz.prog 11 #[b,.int .i64 s,bN p f g] w (wO b c A rs l0 s k p f g T w):=by
 obtain ⟨W1,a1⟩:∃W1,w.alloc (.cells #[.int .i64 p,.int .i64 f,.int .i64 g] 31)=W1:=⟨_,rfl⟩;have r:Fr (fun _=>False) w W1:=by rw [<-a1];exact (Fr.refl _ w).alloc _
 have a2:aj W1 w.heap.size [.int .i64 p,.int .i64 f,.int .i64 g] 31:=by rw [<-a1];exact aj.new w _ _
 have a4:=hi.keep r;have b0:=hi.lt;have b2:=hi.cf;obtain ⟨rb,v,HN,k9,HG⟩:∃rb v,Hid (Calls Tryz.prog 50 #[b] W1 fun e w'=>e= .returned (.bool false)∧W1=w')∧W1.cell? ⟨b,9,none⟩=some (.pointer (some ⟨rb,0,none⟩))∧Hid (Calls Tryz.prog 51 #[.pointer (some ⟨rb,0,none⟩),.int .i64 s] W1 fun e w'=>e= .returned (.tuple #[.int .i64 v,.int .i64 0])∧Fr (fun _=>False) W1 w'):=by
  obtain ⟨h,φ,L,Ba,J,z,I,G,S,rfl,x,hT,c6⟩:=a4;have cb:s<(rs.map φ).length:=by rw [List.length_map,x.Sl];exact hs
  exact ⟨h.rb,(rs.map φ)[s],ae (cC x.blk),aj.cell x.blk 9 rfl,ae (kr x.roots s _ (List.getElem?_eq_getElem cb))⟩
 obtain ⟨sz,a7⟩:∃sz,sz=1+(p+f+g):=⟨_,rfl⟩;have cp:co p f g=(sz:Int):=by unfold co;rw [if_pos X,a7];push_cast;omega
 have F:1<=sz∧sz<=1024:=by unfold bl at X;omega
 have ad:Hid (∀w1,Calls Tryz.prog 52 #[bN p f g] w1 (gG w1 0)):=ae (fun w1=>by have:=dP p f g w1;rwa [if_pos X] at this);have ax:Hid (∀w1,Calls Tryz.prog 54 #[bN p f g] w1 (d8 w1 (sz:Int))):=ae (fun w1=>by have:=dj p f g w1;rwa [cp] at this);have bo:Hid (∀w1,Fr (fun _=>False) W1 w1->Calls Tryz.prog 53 #[b,.int .i64 sz] w1 (mU b c A rs l0 sz T w1)):=ae (fun w1 hf=>uX (a4.keep hf) hl F.1 F.2);have HB:=ae (fun w1 (hf:Fr (fun _=>False) W1 w1)=>a2.frame hf (fun h=>h));have c5:=ae r;have am:Hid (∀w1 w2 u n E,Fr (fun _=>False) W1 w1->c.Wd<A.Wd l0+sz->bM b c A rs u n E w2->Fr T w1 w2->(∀k,E k->T k∨w1.heap.size<=k)->wO b c A rs l0 s k p f g T w (.returned (.int .i64 21)) w2):=by
  show∀w1 w2 u n E,_
  intro w1 w2 u n E V h2 h3 h4 h5;have hz:=(r.trans V (fun _ h=>h.elim)).size;exact .inr ⟨by omega,rfl,u,n,E,h3,((r.trans V (fun _ h=>h.elim)).mono (fun _ h=>h.elim)).trans h4 (fun _ h=> .inl h),fun k hk=>(h5 k hk).imp id (fun h=>by omega)⟩
 have N:Hid (∀w1 w2 a u n E,Fr (fun _=>False) W1 w1->yB b c A rs u sz n E w2 a->Fr T w1 w2->(∀k,E k->T k∨w1.heap.size<=k)->aj w2 w.heap.size [.int .i64 p,.int .i64 f,.int .i64 g] 31∧∃m,(∀w3,Fr (fun _=>False) w2 w3->w3.cell? ⟨b,8,none⟩=some (.pointer (some ⟨m,0,none⟩))∧True)∧∀w3,Fr (fun _=>False) w2 w3->Calls Tryz.prog 55 #[.iface 112 (.pointer (some ⟨m,0,none⟩)),.int .i64 a,bN p f g] w3 fun e w'=>e= .returned (.int .i64 0)∧w3.heap.size<=w'.heap.size∧∃d,zB b c A rs (A.new k p f g) (rs.set s k) (u+sz) n d s a w'∧Fr T w w'∧∀k,d k->T k∨w.heap.size<=k):=by
  show∀w1 w2 a u n E,_
  intro w1 w2 a u n E V h2 h3 h4;have cx:aj w2 w.heap.size [.int .i64 p,.int .i64 f,.int .i64 g] 31:=(a2.frame V (fun h=>h)).frame h3 (fun h=>by have:=b0 _ h;omega);have h8:∀w3,Fr (fun _=>False) w2 w3->∃m,w3.cell? ⟨b,8,none⟩=some (.pointer (some ⟨m,0,none⟩))∧Calls Tryz.prog 55 #[.iface 112 (.pointer (some ⟨m,0,none⟩)),.int .i64 a,bN p f g] w3 (yk b c A rs (A.new k p f g) (rs.set s k) (u+sz) n E s a w3):=fun w3 hf=>yT (h2.keep hf) a7 X b6 b9
  obtain ⟨m,g1,_⟩:=h8 w2 (Fr.refl _ _);refine ⟨cx,m,fun w3 hf=> ?_,fun w3 hf=> ?_⟩
  ·have hm:∃h φ L Ba J z I G S,h.b=b∧eT (fun _=>True) h c A rs φ L Ba (u+sz) J z n I G S w2:=let ⟨h,φ,L,Ba,J,z,I,G,S,q1,R,_⟩:=h2;⟨h,φ,L,Ba,J,z,I,G,S,q1,R⟩
   obtain ⟨h,φ,L,Ba,J,z,I,G,S,rfl,R⟩:=hm;have e1:=aj.cell R.blk 8 rfl;rw [g1] at e1;rw [e1];exact ⟨aj.cell (R.keep hf).blk 8 rfl,trivial⟩
  ·obtain ⟨m',g3,g4⟩:=h8 w3 hf;have em:m'=m:=by
    have hm:∃h φ L Ba J z I G S,h.b=b∧eT (fun _=>True) h c A rs φ L Ba (u+sz) J z n I G S w2:=let ⟨h,φ,L,Ba,J,z,I,G,S,q1,R,_⟩:=h2;⟨h,φ,L,Ba,J,z,I,G,S,q1,R⟩
    obtain ⟨h,φ,L,Ba,J,z,I,G,S,rfl,R⟩:=hm;have e1:=aj.cell R.blk 8 rfl;have e2:=aj.cell (R.keep hf).blk 8 rfl;rw [g1] at e1;rw [g3] at e2;have e3:=e2.trans e1.symm;exact Addr.mk.inj (Option.some.inj (Value.pointer.inj (Option.some.inj e3)))|>.1
   rw [em] at g4;refine g4.mono ?_;rintro e w' ⟨rfl,d,r1,r2,r3⟩;have c7:=(r.trans V (fun _ h=>h.elim)).size;have c8:=h3.size;have c9:=hf.size;exact ⟨rfl,r2.size,d,r1,((((r.trans V (fun _ h=>h.elim)).mono (fun _ h=>h.elim)).trans h3 (fun _ h=> .inl h)).trans hf (fun _ h=>h.elim)).trans r2 (fun k hk=>(h4 k hk).imp id (fun h=>by omega)),fun k hk=>(r3 k hk).elim (fun h=>(h4 k h).imp id (fun h=>by omega)) (fun h=> .inr (by omega))⟩
 have av:Hid (∀w1 u n a d,zB b c A rs (A.new k p f g) (rs.set s k) u n d s a w1->∃rb,w1.cell? ⟨b,9,none⟩=some (.pointer (some ⟨rb,0,none⟩))∧Calls Tryz.prog 56 #[.pointer (some ⟨rb,0,none⟩),.int .i64 s,.int .i64 a] w1 fun e w'=>e= .returned (.int .i64 0)∧bM b c (A.new k p f g) (rs.set s k) u n d w'∧Fr d w1 w'):=ae (fun w1 u n a d hh=>yU hh hs);have a0:Hid (A.Wd l0+sz<=c.Wd->∀w1 u n d,bM b c (A.new k p f g) (rs.set s k) u n d w1->Fr T w w1->(∀k,d k->T k∨w.heap.size<=k)->wO b c A rs l0 s k p f g T w (.returned (.int .i64 0)) w1):=ae (fun hf w1 u n d V h2 h3=> .inl ⟨by omega,rfl,u,n,d,V,h2,h3⟩);have cs:Hid ((Tryz.prog.info? 31).map (·.size)=some 3):=by show _=_;kernel_rfl
 have c3:=b2.1.kind1;clear hi a4 hl hs X b6 b9 a2 b0 b2 cp a7 F r;generalize A.new k p f g=A2 at*;generalize rs.set s k=rs2 at*;generalize (wO b c A rs l0 s k p f g T w)=Q at*;unfold bN at ad ax N ⊢
 go_enter Tryz.func11,Tryz.ntmps11
 go_wp2_with fail
 refine (HN.out).mono ?_;rintro e w1 ⟨rfl,rfl⟩;clear HN a1;go_wp2_with fail
 refine (HG.out).mono ?_;rintro e w1 ⟨rfl,a3⟩;obtain ⟨c0,c1,c2⟩:=bE (HB.out w1 a3);have bb:=ae a3;clear HG k9 a3;go_wp2_with fail
 refine (ad.out w1).mono ?_;rintro e w2 ⟨rfl,b4⟩;have ah:=ae (bb.out.trans b4 (fun _ h=>h.elim));obtain ⟨c0,c1,c2⟩:=bE (HB.out w2 ah.out);clear b4 bb ad;go_wp2_with fail
 refine (ax.out w2).mono ?_;rintro e w3 ⟨rfl,b5⟩;have C:=ae (ah.out.trans b5 (fun _ h=>h.elim));have D:=ae (bo.out w3 C.out);clear b5 ah ax bo HB;go_wp2_with fail
 refine (D.out).mono ?_;rintro e w4 (⟨W,a,u2,n2,T2,rfl,ha,hf,ht⟩|⟨cd,rfl,u2,n2,T2,Y,hf,ht⟩)
 ·obtain ⟨b1,m,h8,cc⟩:=N.out w3 w4 a u2 n2 T2 C.out ha hf ht;have t:=ae (a0.out W);have ct:=(h8 w4.drew ((Fr.refl (fun _=>False) w4).drew)).1;obtain ⟨Z,hZ⟩:∃Z:World->Prop,Z=fun w'=>∃d,zB b c A rs A2 rs2 (u2+sz) n2 d s a w'∧Fr T w w'∧∀k,d k->T k∨w.heap.size<=k:=⟨_,rfl⟩
  have bd:Hid (Calls Tryz.prog 55 #[.iface 112 (.pointer (some ⟨m,0,none⟩)),.int .i64 a,.agg #[.int .i64 p,.int .i64 f,.int .i64 g]] w4.drew fun e w'=>e= .returned (.int .i64 0)∧w4.drew.heap.size<=w'.heap.size∧Z w'):=by
   rw [hZ];exact ae (cc w4.drew ((Fr.refl (fun _=>False) w4).drew))
  have a8:=ae b1.drew;have HZ:=ae hZ;clear N a0 am W ha hf ht b1 h8 cc hZ C D;go_wp2;refine aA (fun w'=>w'=w4.drew) 7 (by kernel_rfl) (by kernel_rfl) rfl ?_;simp only [List.take_succ_cons,List.take_zero,List.drop_succ_cons,List.drop_zero];refine ag (.pointer (some ⟨b,0,none⟩)) rfl (fun w' x=>by go_simp) ?_;simp only [Act.put,aa,ab,ac];refine ag (.pointer (some ⟨b,0,none⟩)) rfl (fun w' x=>by go_simp) ?_;simp only [Act.put,aa,ab,ac];refine ag (.pointer (some ⟨b,8,none⟩)) rfl (fun w' x=>by go_simp) ?_;simp only [Act.put,aa,ab,ac];refine ag (.pointer (some ⟨m,0,none⟩)) rfl (fun w' x=>by subst x;go_simp) ?_;simp only [Act.put,aa,ab,ac];refine ag (.iface 112 (.pointer (some ⟨m,0,none⟩))) rfl (fun w' x=>by go_simp) ?_;simp only [Act.put,aa,ab,ac];refine ag (.int .i64 a) rfl (fun w' x=>by go_simp) ?_;simp only [Act.put,aa,ab,ac];refine ag (.agg #[.int .i64 p,.int .i64 f,.int .i64 g]) rfl (fun w' x=>by subst x;exact dI rfl w.heap.size rfl 31 _ (0,0) _ a8.out Tryz.underlying31 rfl cs.out) ?_;simp only [Act.put,aa,ab,ac];refine wpQuiet_nil ?_;rintro w1 rfl;go_wp2_with fail
  refine (bd.out).mono ?_;rintro e w1 ⟨rfl,_,ck⟩;rw [HZ.out] at ck;obtain ⟨T3,g1,g2,g3⟩:=ck;obtain ⟨dr,k9,cn⟩:=av.out w1 _ _ a T3 g1;have U:=ae cn;have M:=ae (af g2 g3);clear av cn HZ bd a8 g1 g2 g3 ct;go_wp2_with fail
  refine (U.out).mono ?_;rintro e w6 ⟨rfl,j,b3⟩;clear U k9;have o:Fr T w w6:=M.out.1.trans b3 M.out.2;have q:=M.out.2;obtain ⟨k0,z,P,O,a6⟩:=uO j;have aq:=ae (t.out w6 _ _ T3 j o q);clear M b3;by_cases a5:c.kind=1
  ·cases z with
   |some y=>
    rw [a5] at k0;rw [show fq (some y)= .pointer (some ⟨y,0,none⟩) from rfl] at P;clear O a6 j o q t;go_wp2;exact aq.out
   |none=>
    obtain rfl:=O rfl;rw [a5] at k0;rw [show fq none= .pointer none from rfl] at P;have a9:=ae (uT j);have bj:Hid (∀w7,Fr (fun _=>False) w6 w7->Q (.returned (.int .i64 0)) w7∧Calls Tryz.prog 58 #[b] w7 fun e w8=>e= .returned (.tuple #[])∧Q (.returned (.int .i64 0)) w8):=by
     show∀w7,_
     intro w7 i;refine ⟨t.out w7 _ _ T3 (j.keep i) (o.trans i (fun _ h=>h.elim)) q,(jS (j.keep i) a5).mono ?_⟩;rintro e w8 ⟨rfl,l,n8,T8,_,r1,r2,r3⟩;have dk:=o.size;have dm:=i.size;exact ⟨rfl,t.out w8 _ _ T8 r1 ((o.trans i (fun _ h=>h.elim)).trans r2 q) (fun k hk=>(r3 k hk).elim (q k) (fun h=> .inr (by omega)))⟩
    clear O a6 j o q t aq;go_wp2_with fail
    refine (a9.out).mono ?_;rintro e w7 ⟨B,rfl,i⟩;obtain ⟨Y,X⟩:=bj.out w7 i;have bk:=ae Y;have ap:=ae X;clear a9 bj Y X i k0 P
    cases B with
    |false=>
     clear ap;go_wp2;exact bk.out
    |true=>
     clear bk;go_wp2_with fail
     refine (ap.out).mono ?_;rintro e w8 ⟨rfl,Y⟩;have H:=ae Y;clear ap Y;go_wp2;exact H.out
  ·have b7:¬(c.kind:Int)=1:=by omega
   have c4:((c.kind:Int)==1)=false:=by rw [beq_eq_false_iff_ne];exact b7
   clear O a6 j o q t P c3;generalize (c.kind:Int)=K at*;go_wp2;exact aq.out
 ·have H:=ae (am.out w3 w4 u2 n2 T2 C.out cd Y hf ht);clear N a0 am cd Y hf ht C D av;go_wp2;exact H.out
end
def cB (b:Nat) (c:Cf) (A':AG) (rs':List Nat) (T:Nat->Prop) (w w':World):Prop:=∃u n T',bM b c A' rs' u n T' w'∧Fr T w w'∧∀k,T' k->T k∨w.heap.size<=k
def wK (m:Nat):Option Nat->Value
 |none=> .iface 112 (.pointer (some ⟨m,0,none⟩))
 |some y=> .iface 115 (.pointer (some ⟨y,0,none⟩))
section
variable {b u n s x:Nat} {c:Cf} {A:AG} {rs:List Nat} {T:Nat->Prop} {w w':World}
theorem aO.slot {φ L:Nat->Nat} {lo a z:Nat} (h:aO A rs φ L lo a) (e:z=0∨Reach A.gr rs z):aO A (rs.set s z) φ L lo a:=h.less (fun _ d=>tu e d)
theorem eT.slot {h:Hp} {φ L:Nat->Nat} {Ba l:Nat} {g:Option Nat} {j f:Int} {S q:Nat->Prop} (a:eT q h c A rs φ L Ba u l g n j f S w) {z:Nat} (t:z=0∨Reach A.gr rs z) (r:aV w' h.rb h.rg ((rs.map φ).set s (φ z))) (hf:Fr (fun k=>k=h.rg) w w'):eT q h c A (rs.set s z) φ L Ba u l g n j f S w':=by
 have d:=a.d;obtain ⟨v,m,y,B,o,C,i,D,E⟩:=id a.e;refine ⟨a.cok,aj.frame a.blk hf m,?_,aj.frame a.reg hf (Ne.symm o),ak a.tab hf (Ne.symm i),a.laid.slot t,by rw [List.length_set];exact a.Sl,a.fits,a.half,a.mem.stays hf (fun k p=>(d k p).2.2.1) (Ne.symm i),d,a.e⟩;rw [List.map_set];exact r
theorem yu (B:bM b c A rs u n T w) (C:s<c.Sl) {z:Nat} (D:z=0∨Reach A.gr rs z):∃i g ls,w.cell? ⟨b,9,none⟩=some (.pointer (some ⟨i,0,none⟩))∧aV w i g ls∧s<ls.length∧(∀(t r:Nat),rs[t]? =some r->∃a,ls[t]? =some a∧(r=z->∀w',aV w' i g (ls.set s a)->Fr (fun k=>k=g) w w'->cB b c A (rs.set s z) T w w'))∧(z=0->∀w',aV w' i g (ls.set s 0)->Fr (fun k=>k=g) w w'->cB b c A (rs.set s z) T w w'):=by
 obtain ⟨h,φ,L,Ba,F,y,E,v,S,rfl,f,q,m⟩:=B;have d:∀w',aV w' h.rb h.rg ((rs.map φ).set s (φ z))->Fr (fun k=>k=h.rg) w w'->cB h.b c A (rs.set s z) T w w':=fun w' p hf=>
  ⟨u,n,T,⟨h,φ,L,Ba,F,y,E,v,S,rfl,f.slot D p hf,q,m⟩,hf.mono (fun k o=> .inl ((q k).2 (.inr (.inr (.inr (.inl o)))))),fun k o=> .inl o⟩
 refine ⟨h.rb,h.rg,rs.map φ,aj.cell f.blk 9 rfl,f.roots,by rw [List.length_map,f.Sl];exact C,fun t r p=>⟨φ r,by rw [List.getElem?_map,p];rfl,fun e w' j l=>d w' (by rw [<-e];exact j) l⟩,fun e w' j l=>d w' (by rw [e,f.laid.zero];exact j) l⟩
theorem ia (d:bM b c A rs u n T w):Calls Tryz.prog 50 #[b] w fun e w'=>e= .returned (.bool false)∧w=w':=by
 obtain ⟨h,φ,L,Ba,l,i,k,g,S,rfl,f,j,a⟩:=d;exact cC f.blk
theorem sD (d:bM b c A rs u n T w) (m:s<c.Sl):Calls Tryz.prog 14 #[b,.int .i64 s] w fun e w'=>e= .returned (.int .i64 0)∧cB b c A (rs.set s 0) T w w':=by
 have f:=ae (ia d);obtain ⟨p,q,ls,o,l,a,_,k⟩:=yu d m (z:=0) (.inl rfl);have h:=ae (kt l s 0 a);have g:=ae (k rfl);clear d l a k;generalize (cB b c A (rs.set s 0) T w)=Q at*
 go_enter Tryz.func14,Tryz.ntmps14
 go_wp2_with fail
 refine (f.out).mono ?_;rintro e w1 ⟨rfl,rfl⟩;clear f;go_wp2_with fail
 refine (h.out).mono ?_;rintro e w1 ⟨rfl,i,j⟩;have H:=ae (g.out w1 i j);clear h g i j o;go_wp2;go_ret;exact ⟨rfl,H.out⟩
theorem uP (g:bM b c A rs u n T w) (v:s<c.Sl) {t r:Nat} (p:rs[t]? =some r):Calls Tryz.prog 15 #[b,.int .i64 s,.int .i64 t] w fun e w'=>e= .returned (.int .i64 0)∧cB b c A (rs.set s r) T w w':=by
 have h:=ae (ia g);obtain ⟨B,C,ls,y,o,d,f,_⟩:=yu g v (z:=r) (by
  by_cases k:r=0
  ·exact .inl k
  ·exact .inr (.root (List.mem_of_getElem? p) k))
 obtain ⟨a,q,f⟩:=f t r p;have j:=ae (tC o s t a d q);have i:=ae (f rfl);clear g o d f;generalize (cB b c A (rs.set s r) T w)=Q at*
 go_enter Tryz.func15,Tryz.ntmps15
 go_wp2_with fail
 refine (h.out).mono ?_;rintro e w1 ⟨rfl,rfl⟩;clear h;go_wp2_with fail
 refine (j.out).mono ?_;rintro e w1 ⟨rfl,l,m⟩;have H:=ae (i.out w1 l m);clear j i l m y;go_wp2;go_ret;exact ⟨rfl,H.out⟩
theorem dl {m i j:Nat} {d:Option Nat} {g f:Int} (h:gq w b c m i j d g f):Calls Tryz.prog 62 #[b] w fun e w'=>e= .returned (wK m d)∧w=w':=by
 have a:=aj.cell h 11 rfl;have k:=aj.cell h 8 rfl;clear h
 cases d with
 |none=>
  rw [show fq none= .pointer none from rfl] at a;unfold wK
  go_enter Tryz.func62,Tryz.ntmps62
  go_wp2;go_ret;exact ⟨rfl,rfl⟩
 |some y=>
  rw [show fq (some y)= .pointer (some ⟨y,0,none⟩) from rfl] at a;unfold wK
  go_enter Tryz.func62,Tryz.ntmps62
  go_wp2;go_ret;exact ⟨rfl,rfl⟩
theorem oS.space {q:Nat->Prop} {h:Hp} {Ba:Nat} {L:Nat->Nat} {S:Nat->Prop} {e:Option Nat} (z:oS c h.m Ba (Ba+u) q L S w e n) (H:cT c) (o:c.half Ba) (p:u<=c.Wd):∃t v E F r I dom,wK h.m e= .iface t v∧aX t v E r I dom∧iA t v F r I dom∧I L S w∧(∀k,Ba<=k->k<Ba+u->dom k)∧∀L' S' w',I L' S' w'->∃j,oS c h.m Ba (Ba+u) (fun _=>True) L' S' w' e j:=by
 cases e with
 |none=>
  obtain ⟨M,Us,Hg,mp,K,a⟩:=z;exact ⟨_,_,_,_,_,_,_,rfl,aF _ _ _ _ _ _ _,j4 _ _ _ _ _ _ _,K,j5 a (o.mod H) (by have:=o.top;omega),fun L' S' w' h=>⟨0,rfl,Us,Hg,mp,h,a⟩⟩
 |some y=>
  obtain ⟨J,D,X,i,hg,B,fr,C,l,⟨Us,_,N⟩,rfl,O,P,Q,R,U,V,W⟩:=z;exact ⟨_,_,_,_,_,_,_,rfl,xm l,yN l,⟨B,n,fr,C,N.s⟩,fun k Z G=>⟨by omega,G⟩,fun L' S' w' ⟨d,j,g,f,h⟩=>⟨j,J,D,X,i,hg,d,g,f,l,let ⟨Y,p⟩:=h.su;⟨Y,trivial,p⟩,rfl,O,P,Q,R,U,V,W⟩⟩
end
def eX (b:Nat) (c:Cf) (A':AG) (rs':List Nat) (T:Nat->Prop) (w w':World):Prop:=∃u n T',wE b c A' rs' u n T' w'∧Fr T w w'∧∀k,T' k->T k∨w.heap.size<=k
section
variable {b u n s x t v i:Nat} {c:Cf} {A A':AG} {rs:List Nat} {T:Nat->Prop} {w w1 w' w'':World}
theorem eX.end_ (h:eX b c A rs T w w'):Calls Tryz.prog 63 #[b] w' fun e w''=>e= .returned (.tuple #[])∧cB b c A rs T w w'':=by
 obtain ⟨u,n,o,l,d,f⟩:=h;refine (mn l).mono ?_;rintro e w'' ⟨rfl,a,g1,g,j⟩;have p:=d.size;exact ⟨rfl,u,n,a,g1,d.trans g f,fun k m=>(j k m).elim (f k) (fun h=> .inr (by omega))⟩
theorem nX {p f g i:Nat} (a:bl p f g) (d:i<p):bK p f g i=1:=by
 unfold bK co;rw [if_pos a,if_neg (by omega),if_pos (by omega)]
theorem nW {p f g i:Nat} (a:bl p f g) (d:p<=i) (e:i<p+f):bK p f g i=2:=by
 unfold bK co;rw [if_pos a,if_neg (by omega),if_neg (by omega),if_pos (by omega)]
structure Ak (φ L:Nat->Nat) (A:AG) (dom:Nat->Prop) (x i:Nat):Prop where
 a1:1<=φ x
 a2:φ x<4611686018427387904
 i1:i<256
 d1:dom (φ x)
 hd:dw L (φ x) (A.np x) (A.nf x) (A.ng x)
 d2:dom (φ x+1+i)
theorem aO.spot {φ L:Nat->Nat} {lo a:Nat} (h:aO A rs φ L lo a) {dom:Nat->Prop} (e:∀k,lo<=k->k<a->dom k) (m:a<=1048576) (f:Reach A.gr rs x) (hi':i<A.np x+A.nf x+A.ng x):Ak φ L A dom x i:=by
 have g:=h.lies x f;have d:=h.head x f;have j:=d.2;have l:=h.one;unfold bl at j;unfold AG.sz at g;exact ⟨by omega,by omega,by omega,e _ (by omega) (by omega),d,e _ (by omega) (by omega)⟩
theorem fz {q:Nat->Prop} {h:Hp} {φ L L':Nat->Nat} {Ba d:Nat} {e:Option Nat} {r j:Int} {S:Nat->Prop} (B:eT q h c A rs φ L Ba u d e n r j S w) (p:∀k,T k↔eZ h d S k) {I:dZ} (a:∀L' S' w',I L' S' w'->∃g,oS c h.m Ba (Ba+u) (fun _=>True) L' S' w' e g) (y:aO A' rs φ L' Ba (Ba+u)) (hf:Fr (fun _=>False) w w1) (hp:dz I L' S w1 w'):eX h.b c A' rs T w w':=by
 obtain ⟨S',g1,l,o⟩:=hp;obtain ⟨g,C⟩:=a _ _ _ g1;have D:=hf.size;have z:=(B.keep hf).turn l o C y;exact ⟨u,g,eZ h d S',⟨h,φ,L',Ba,d,e,r,j,S',rfl,z,fun k=>Iff.rfl⟩,(hf.mono (fun _ h=>h.elim)).trans l (fun k f=> .inl ((p k).2 (.inl f))),fun k f=>(eZ.sub o k f).elim (fun h=> .inl ((p k).2 h)) (fun h=> .inr (by omega))⟩
theorem sF (X:bM b c A rs u n T w) (K:rs[s]? =some x) (E:x≠0) (q:i<A.np x) (M:rs[t]? =some v):∃N,∃G F:Nat,(∀w1,Fr (fun _=>False) w w1->∀xb B:Nat,w1.cell? ⟨xb,0,none⟩=some (.int .i64 s)->w1.cell? ⟨xb,1,none⟩=some (.int .i64 t)->Calls Tryz.prog 60 #[b,.slice (some ⟨xb,0,none⟩) 2 B] w1 (t8 [G,F] w1))∧
  (∀w1,Fr (fun _=>False) w w1->Calls Tryz.prog 62 #[b] w1 fun e w'=>e= .returned N∧w1=w')∧
  ∀w1,Fr (fun _=>False) w w1->Calls Tryz.prog 61 #[N,.int .i64 G,.int .i64 i,.int .i64 F] w1 fun e w'=>e= .returned (.int .i64 0)∧eX b c (A.put x i v) rs T w w':=by
 obtain ⟨h,φ,L,Ba,ub,O,ns,Z,S,rfl,f,R,V⟩:=X;have Y:=f.half.top;obtain ⟨U,_⟩:=f.cok.W5;have p:=f.fits;have z:Reach A.gr rs x:= .root (List.mem_of_getElem? K) E;have g:v=0∨Reach A.gr rs v:=by
  by_cases H:v=0
  ·exact .inl H
  ·exact .inr (.root (List.mem_of_getElem? M) H)
 refine ⟨wK h.m O,φ x,φ v,fun w1 hf xb B J P=> ?_,fun w1 hf=>dl (f.keep hf).blk,fun w1 hf=> ?_⟩
 ·refine gX (f.keep hf).blk (f.keep hf).roots xb B [φ x,φ v] (fun j a l=> ?_) (by simp) (by simp)
  match j,l with
  |0,l=>
   obtain rfl:φ x=a:=Option.some.inj l;exact ⟨s,J,by rw [List.getElem?_map,K];rfl⟩
  |1,l=>
   obtain rfl:φ v=a:=Option.some.inj l;exact ⟨t,P,by rw [List.getElem?_map,M];rfl⟩
  |j+2,l=>exact absurd l (by simp)
 ·obtain ⟨ty,vv,fl,fs,r,I,dom,W,y,C,Q,o,k⟩:=(f.keep hf).mem.space f.cok f.half p;have d:=f.laid.spot (i:=i) o (by omega) z (by omega);have D:φ v<2147483648:=by
   rcases g with rfl|g
   ·rw [f.laid.zero];omega
   ·have:=f.laid.lies v g;have J:1<=A.sz v:=by unfold AG.sz;omega
    omega
  rw [W];refine (kg y C Q (φ x) i _ _ _ (φ v) d.a1 d.a2 d.i1 d.d1 d.hd (nX d.hd.2 q) d.d2 D).mono ?_;rintro e w' ⟨rfl,hp⟩;exact ⟨rfl,fz f R k (f.laid.put_ptr z q g) hf hp⟩
theorem sK (K:bM b c A rs u n T w) (N:rs[s]? =some x) (z:x≠0) (y:i<A.np x) (O:rs[t]? =some v):Calls Tryz.prog 13 #[b,.int .i64 s,.int .i64 i,.int .i64 t] w fun e w'=>e= .returned (.int .i64 0)∧cB b c (A.put x i v) rs T w w':=by
 obtain ⟨S,C,B,F,G,I⟩:=sF K N z y O;obtain ⟨W1,m⟩:∃W1,w.alloc (.cells #[.int .i64 s,.int .i64 t] 3)=W1:=⟨_,rfl⟩;have f:Fr (fun _=>False) w W1:=by rw [<-m];exact (Fr.refl _ w).alloc _
 have o:aj W1 w.heap.size [.int .i64 s,.int .i64 t] 3:=by rw [<-m];exact aj.new w _ _
 have q:=ae (F W1 f w.heap.size 2 (o.cell 0 rfl) (o.cell 1 rfl));have a:=ae (fun w1 (hf:Fr (fun _=>False) W1 w1)=>G w1.drew ((f.trans hf (fun _ h=>h.elim)).drew));have r:=ae (fun w1 (hf:Fr (fun _=>False) W1 w1)=>I w1.drew ((f.trans hf (fun _ h=>h.elim)).drew));have p:=ae (fun w' (h:eX b c (A.put x i v) rs T w w')=>h.end_);clear F G I K f o N O y z;generalize (cB b c (A.put x i v) rs T w)=Q at*;generalize (eX b c (A.put x i v) rs T w)=J at*
 go_enter Tryz.func13,Tryz.ntmps13
 go_wp2_with fail
 refine (q.out).mono ?_;rintro e w1 ⟨g,cap,rfl,D,hf⟩;have E:=D 0 C rfl;have c1:=D 1 B rfl;have P:w1.drew.cell? ⟨g,0,none⟩=some (.int .i64 C):=E;have R:w1.drew.cell? ⟨g,1,none⟩=some (.int .i64 B):=c1;have k:=ae (a.out w1 hf);have l:=ae (r.out w1 hf);clear q a r D hf E c1 m;rw [show [C,B].length=2 from rfl];go_wp2;have a:=k;clear k;refine aA (fun w'=>w'=w1.drew) 9 (by kernel_rfl) (by kernel_rfl) rfl ?_;simp only [List.take_succ_cons,List.take_zero,List.drop_succ_cons,List.drop_zero];refine ag (.pointer (some ⟨b,0,none⟩)) rfl (fun w' d=>by go_simp) ?_;simp only [Act.put,aa,ab,ac];refine az (S) 62 #[b] rfl (fun w'=>by go_simp) (fun w' d=>by subst d;exact (a.out).mono (fun e w' h=>⟨h.1,h.2.symm⟩)) ?_;simp only [Act.put,aa,ab,ac];refine ag (.slice (some ⟨g,0,none⟩) 2 cap) rfl (fun w' d=>by go_simp) ?_;simp only [Act.put,aa,ab,ac];refine ag (.pointer (some ⟨g,0,none⟩)) rfl (fun w' d=>by go_simp) ?_;simp only [Act.put,aa,ab,ac];refine ag (.int .i64 C) rfl (fun w' d=>by subst d;go_simp) ?_;simp only [Act.put,aa,ab,ac];refine ag (.int .i64 i) rfl (fun w' d=>by go_simp) ?_;simp only [Act.put,aa,ab,ac];refine ag (.slice (some ⟨g,0,none⟩) 2 cap) rfl (fun w' d=>by go_simp) ?_;simp only [Act.put,aa,ab,ac];refine ag (.pointer (some ⟨g,1,none⟩)) rfl (fun w' d=>by go_simp) ?_;simp only [Act.put,aa,ab,ac];refine ag (.int .i64 B) rfl (fun w' d=>by subst d;go_simp) ?_;simp only [Act.put,aa,ab,ac];refine wpQuiet_nil ?_;rintro w2 rfl;go_wp2_with fail
 refine (l.out).mono ?_;rintro e w3 ⟨rfl,L⟩;have j:=ae (p.out w3 L);clear l L p a P R;go_wp2_with fail
 refine (j.out).mono ?_;rintro e w4 ⟨rfl,M⟩;have H:=ae M;clear j M;go_wp2;go_ret;exact ⟨rfl,H.out⟩
end
theorem aB (n lo b:Int) (c:n<=9223372036854775807) (hp:aL n=true) (d:lo<=n) (f:n<=b) (w:World):Calls Tryz.prog 179 #[.int .i64 n,.int .i64 lo,.int .i64 b] w fun e w'=>e= .returned (.bool true)∧w=w':=by
 have a:=ae (eb n c true hp w)
 go_enter Tryz.func179,Tryz.ntmps179
 go_wp2_with fail
 refine (a.out).mono ?_;rintro e w' ⟨rfl,rfl⟩;clear a c;go_wp2;go_ret;exact ⟨rfl,rfl⟩
theorem iO (n lo c:Int) (b:n<=9223372036854775807) (h:¬(aL n=true∧lo<=n∧n<=c)) (w:World):Calls Tryz.prog 179 #[.int .i64 n,.int .i64 lo,.int .i64 c] w fun e w'=>e= .returned (.bool false)∧w=w':=by
 cases hb:aL n with
 |false=>
  have a:=ae (eb n b false hb w);clear hb h
  go_enter Tryz.func179,Tryz.ntmps179
  go_wp2_with fail
  refine (a.out).mono ?_;rintro e w' ⟨rfl,rfl⟩;clear a b;go_wp2;go_ret;exact ⟨rfl,rfl⟩
 |true=>
  have a:=ae (eb n b true hb w);by_cases f:lo<=n
  ·have d:¬n<=c:=fun d=>h ⟨hb,f,d⟩
   clear hb h
   go_enter Tryz.func179,Tryz.ntmps179
   go_wp2_with fail
   refine (a.out).mono ?_;rintro e w' ⟨rfl,rfl⟩;clear a b;go_wp2;go_ret;exact ⟨congrArg (fun x=>Ending.returned (.bool x)) (decide_eq_false (by omega)),rfl⟩
  ·clear hb h
   go_enter Tryz.func179,Tryz.ntmps179
   go_wp2_with fail
   refine (a.out).mono ?_;rintro e w' ⟨rfl,rfl⟩;clear a b;go_wp2;go_ret;exact ⟨rfl,rfl⟩
def wI (c:Cf):List Value:=[.int .i64 (c.kind:Int),.int .i64 (c.Pg:Int),.int .i64 (c.block:Int),.int .i64 (c.Wd:Int),.int .i64 (c.Sl:Int),.int .i64 (c.stack:Int),.int .i64 (c.Ah:Int),.float .f64 c.trig]
theorem jI {c:Cf} {w:World} {b:Nat} {t:TypeId} (h:aj w b (wI c) t):w.cell? ⟨b,0,none⟩=some (.int .i64 (c.kind:Int))∧w.cell? ⟨b,1,none⟩=some (.int .i64 (c.Pg:Int))∧w.cell? ⟨b,2,none⟩=some (.int .i64 (c.block:Int))∧w.cell? ⟨b,3,none⟩=some (.int .i64 (c.Wd:Int))∧w.cell? ⟨b,4,none⟩=some (.int .i64 (c.Sl:Int))∧w.cell? ⟨b,5,none⟩=some (.int .i64 (c.stack:Int))∧w.cell? ⟨b,6,none⟩=some (.int .i64 (c.Ah:Int))∧w.cell? ⟨b,7,none⟩=some (.float .f64 c.trig):=
 ⟨h.cell 0 rfl,h.cell 1 rfl,h.cell 2 rfl,h.cell 3 rfl,h.cell 4 rfl,h.cell 5 rfl,h.cell 6 rfl,h.cell 7 rfl⟩
theorem fy {c:Cf} (w:World) (f:c.kind=1∨c.kind=2∨c.kind=3) (q:1<=c.Pg) (r:c.block<=1024) (s:c.Ah<=16) (y:c.Wd<=131072):Calls Tryz.prog 119 #[kF c] w fun e w'=>e= .returned (.int .i64 (c.Fs:Int))∧Fr (fun _=>False) w w':=by
 obtain ⟨W1,b⟩:∃W1,w.alloc (.cells #[.int .i64 (c.kind:Int),.int .i64 (c.Pg:Int),.int .i64 (c.block:Int),.int .i64 (c.Wd:Int),.int .i64 (c.Sl:Int),.int .i64 (c.stack:Int),.int .i64 (c.Ah:Int),.float .f64 c.trig] 24)=W1:=⟨_,rfl⟩;have m:Fr (fun _=>False) w W1:=by rw [<-b];exact (Fr.refl _ w).alloc _
 have l:aj W1 w.heap.size (wI c) 24:=by rw [<-b];exact aj.new w _ _
 obtain ⟨k,z,A,B,C,D,E,F⟩:=jI l;have i:=ae m;have d:=ae (fun w'=>jT (c:=c) w' q r s);have v:¬c.Pg=0:=by omega
 have j:=Nat.div_le_self c.Wd c.Pg;have x:IntKind.i64.wrap ((c.Wd:Int)/(c.Pg:Int))=((c.Wd/c.Pg:Nat):Int):=by
  rw [show (c.Wd:Int)/(c.Pg:Int)=((c.Wd/c.Pg:Nat):Int) from rfl];generalize c.Wd/c.Pg=X at*;rw [IntKind.wrap_i64];omega
 have g:c.spare<=20000:=by
  unfold Cf.spare;have u:max (c.block/c.Pg) 1+3<=1027:=by have:=Nat.div_le_self c.block c.Pg;generalize c.block/c.Pg=X at*;omega
  have:=Nat.mul_le_mul (show c.Ah+2<=18 by omega) u;omega
 have a:c.Fs=c.Wd/c.Pg+if c.kind=1 then c.spare else if c.kind=2 then c.Wd/c.Pg else 0:=rfl
 clear m l q r s;obtain ⟨X,t⟩:∃X,X=c.Wd/c.Pg:=⟨_,rfl⟩;rw [<-t] at x a j;generalize c.Fs=FR at*;clear t;unfold kF at d ⊢;rcases f with f|f|f
 ·rw [if_pos f] at a;rw [f] at d k b ⊢;rw [show ((1:Nat):Int)=1 from rfl] at d k b ⊢;generalize c.spare=SPA at*;have p:IntKind.i64.wrap ((X:Int)+(SPA:Int))=(FR:Int):=by rw [IntKind.wrap_i64,a];push_cast;omega
  clear a g f j
  go_enter Tryz.func119,Tryz.ntmps119
  go_wp2_with fail
  refine (d.out W1).mono ?_;rintro e w2 ⟨rfl,n⟩;have o:=ae (i.out.trans n (fun _ h=>h.elim));clear d n i;go_wp2;go_ret;exact ⟨rfl,o.out⟩
 ·rw [if_neg (by omega),if_pos f] at a;rw [f] at k b ⊢;rw [show ((2:Nat):Int)=2 from rfl] at k b ⊢;have p:IntKind.i64.wrap (2*(X:Int))=(FR:Int):=by rw [IntKind.wrap_i64,a];push_cast;omega
  clear a g f j d
  go_enter Tryz.func119,Tryz.ntmps119
  go_wp2;go_ret;exact ⟨rfl,i.out⟩
 ·rw [if_neg (by omega),if_neg (by omega),Nat.add_zero] at a;rw [f] at k b ⊢;rw [show ((3:Nat):Int)=3 from rfl] at k b ⊢;subst a;clear g f j d
  go_enter Tryz.func119,Tryz.ntmps119
  go_wp2;go_ret;exact ⟨rfl,i.out⟩
theorem pT {c:Cf} (d:cT c) (w:World):Calls Tryz.prog 117 #[kF c] w fun e w'=>e= .returned (.int .i64 0)∧Fr (fun _=>False) w w':=by
 obtain ⟨W1,b⟩:∃W1,w.alloc (.cells #[.int .i64 (c.kind:Int),.int .i64 (c.Pg:Int),.int .i64 (c.block:Int),.int .i64 (c.Wd:Int),.int .i64 (c.Sl:Int),.int .i64 (c.stack:Int),.int .i64 (c.Ah:Int),.float .f64 c.trig] 24)=W1:=⟨_,rfl⟩;have l:Fr (fun _=>False) w W1:=by rw [<-b];exact (Fr.refl _ w).alloc _
 have k:aj W1 w.heap.size (wI c) 24:=by rw [<-b];exact aj.new w _ _
 obtain ⟨C,D,E,F,G,H,I,J⟩:=jI k;have f:=ae l;have a:=ae (fy (c:=c) W1 d.kind1 d.page2 d.block3 d.ahead1 d.words3);obtain ⟨u,p,v,x,o,r,s,w1,w2,w3,w4,y,z,A,B,q,t⟩:=d;have q0:(1:Int)<=(c.kind:Int):=by omega
 have K:(c.kind:Int)<=3:=by omega
 have L:(c.Pg:Int)<=(c.Wd:Int):=by omega
 have M:(1:Int)<=(c.Sl:Int):=by omega
 have N:(c.Sl:Int)<=64:=by omega
 have O:(1:Int)<=(c.stack:Int):=by omega
 have P:(c.stack:Int)<=4096:=by omega
 have Q:(0:Int)<=(c.Ah:Int):=by omega
 have R:(c.Ah:Int)<=16:=by omega
 have S:¬(4096:Int)<(c.Fs:Int):=by omega
 have g:=ae (aB (c.Pg:Int) 1 256 (by omega) p (by omega) (by omega) W1);have i:=ae (aB (c.block:Int) 1 1024 (by omega) o (by omega) (by omega) W1);have j:=ae (aB (c.Wd:Int) 16 131072 (by omega) w1 (by omega) (by omega) W1);unfold kF at a ⊢;clear u p v x o r s w1 w2 w3 w4 y z A B q t l k;generalize (c.kind:Int)=v0 at*;generalize (c.Pg:Int)=v1 at*;generalize (c.block:Int)=v2 at*;generalize (c.Wd:Int)=v3 at*;generalize (c.Sl:Int)=v4 at*;generalize (c.stack:Int)=v5 at*;generalize (c.Ah:Int)=v6 at*;generalize (c.Fs:Int)=v7 at*
 go_enter Tryz.func117,Tryz.ntmps117
 go_wp2_with fail
 refine (g.out).mono ?_;rintro e w' ⟨rfl,rfl⟩;clear g b;go_wp2_with fail
 refine (i.out).mono ?_;rintro e w' ⟨rfl,rfl⟩;clear i;go_wp2_with fail
 refine (j.out).mono ?_;rintro e w' ⟨rfl,rfl⟩;clear j;go_wp2_with fail
 refine (a.out).mono ?_;rintro e w2 ⟨rfl,m⟩;have n:=ae (f.out.trans m (fun _ h=>h.elim));clear a m f;go_wp2;go_ret;exact ⟨rfl,n.out⟩
end Go.Proofs.YthahbijbpinneaaGreatDoor
