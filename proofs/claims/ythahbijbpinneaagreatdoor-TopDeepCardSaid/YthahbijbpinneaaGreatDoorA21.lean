import Derived.Test.YthahbijbpinneaaGreatDoorA14
import Derived.Test.YthahbijbpinneaaGreatDoorA16
import Derived.Test.YthahbijbpinneaaGreatDoorA20
set_option maxRecDepth 100000
set_option maxHeartbeats 8000000
set_option linter.all false
namespace Go.Proofs.YthahbijbpinneaaGreatDoor
open Go.RowKit
section
variable {b u n:Nat} {c:Cf} {A:AG} {rs:List Nat} {T:Nat->Prop} {w:World}
theorem zL (y:bM b c A rs u n T w) (f:c.kind=1):Calls Tryz.prog 20 #[b] w (lV b c A rs T w):=by
 obtain ⟨z,F⟩:Hid (Calls Tryz.prog 50 #[b] w fun e w'=>e= .returned (.bool false)∧w=w')∧w.cell? ⟨b,0,none⟩=some (.int .i64 1):=by
  obtain ⟨h,φ,L,Ba,O,I,J,G,S,rfl,D,K,M⟩:=y;refine ⟨ae (cC D.blk),?_⟩;have:=aj.cell D.blk 0 rfl;rw [f] at this;exact this
 have i:=ae (gy y);have j:Hid (∀N n w2,eE b c A rs N n T w w2->Calls Tryz.prog 70 #[b] w2 fun e w3=>e= .returned (.tuple #[])∧eE b c A rs N 0 T w w3):=by
  show∀N n w2,_
  rintro N n w2 ⟨r,g1,a,d⟩;refine (gy g1).mono ?_;rintro e w3 ⟨rfl,s,t,v,x⟩;have E:=a.size;exact ⟨rfl,s,t,a.trans v d,fun k f=>(x k f).elim (d k) (fun h=> .inr (by omega))⟩
 have p:Hid (∀w2,eE b c A rs u 0 T w w2->Calls Tryz.prog 58 #[b] w2 fun e w3=>e= .returned (.tuple #[])∧∃l n,aJ A rs l∧eE b c A rs (A.Wd l) n T w w3):=by
  show∀w2,_
  rintro w2 ⟨r,g1,a,d⟩;refine (jS g1 f).mono ?_;rintro e w3 ⟨rfl,l,C,s,g,t,v,x⟩;have E:=a.size;exact ⟨rfl,l,C,g,s,t,a.trans v d,fun k f=>(x k f).elim (d k) (fun h=> .inr (by omega))⟩
 have B:Hid (∀l w3,aJ A rs l->eE b c A rs (A.Wd l) 0 T w w3->lV b c A rs T w (.returned (.tuple #[])) w3):=ae (fun l w3 g ⟨r,g1,a,d⟩=>⟨rfl,l,r,g,g1,a,d⟩);clear y;generalize (lV b c A rs T w)=Q at*
 go_enter Tryz.func20,Tryz.ntmps20
 go_wp2_with fail
 refine (z.out).mono ?_;rintro e w1 ⟨rfl,rfl⟩;clear z;go_wp2_with fail
 refine (i.out).mono ?_;rintro e w1 ⟨rfl,hf⟩;have o:=ae (p.out w1 hf);clear i hf F p;go_wp2_with fail
 refine (o.out).mono ?_;rintro e w2 ⟨rfl,l,C,g,hf⟩;have m:=ae (j.out _ _ w2 hf);have q:=ae (fun w3 h=>B.out l w3 g h);clear o hf j B g;go_wp2_with fail
 refine (m.out).mono ?_;rintro e w3 ⟨rfl,hf⟩;have H:=ae (q.out w3 hf);clear m hf q;go_wp2;go_end0;exact H.out
theorem uQ {l:List Nat} {w5:World} (k:aJ A rs l) (h:t7 b c A rs (A.Wd l) T w w5):∃a:Int,w5.cell? ⟨b,12,none⟩=some (.int .i64 a)∧w5.frozen? ⟨b,12,none⟩=false∧∀v:Int,lV b c A rs T w (.returned (.tuple #[])) (w5.setCell ⟨b,12,none⟩ (.int .i64 v)):=by
 obtain ⟨f,g1,g,d⟩:=h;obtain ⟨a,i,j,e⟩:=g1.count;exact ⟨a,i,j,fun v=>⟨rfl,l,f,k,(e v).1,g.trans (e v).2 d,d⟩⟩
theorem zM (hi:bM b c A rs u n T w) (W:c.kind=2):Calls Tryz.prog 20 #[b] w (lV b c A rs T w):=by
 have h0:=hi.plain (by omega);obtain ⟨h,φ,L,Ba,ub,cy,ns,bs,S,rfl,d,hT,I⟩:=hi;obtain rfl:=I h0;subst h0;obtain ⟨Y,J⟩:=d.laid.some;have HN:=ae (cC d.blk);have k0:w.cell? ⟨h.b,0,none⟩=some (.int .i64 2):=by
  have:=aj.cell d.blk 0 rfl;rw [W] at this;exact this
 have p:=ae (lp d.cok d.blk d.reg (by have:=d.half.le;omega));have f:=ae (fun w1 (hf:Fr (fun _=>False) w w1)=>(xh d W hf).mono (fun e w5 ho=>xi (e:=e) (w5:=w5) d hT W J hf ho));have x:=ae d.blk;have O:Hid ((Tryz.prog.info? 143).map (·.size)=some 7):=by show _=_;kernel_rfl
 have ah:=ae (vx Ba (Ba+u:Nat) (2*c.Pg+c.Wd-Ba:Nat) (2*c.Pg+c.Wd-Ba+c.Wd:Nat) c.block c.stack c.Ah);have HQ:=ae (fun w5 (hh:t7 h.b c A rs (A.Wd Y) T w w5)=>uQ J hh);clear d hT I;unfold cP at p f;generalize (lV h.b c A rs T w)=Q at*;generalize 2*c.Pg+c.Wd-Ba=To at*;obtain ⟨X,U⟩:∃X,X=To+A.Wd Y:=⟨_,rfl⟩;rw [<-U] at f;generalize To+c.Wd=Li at*;generalize Ba+u=Tp at*;obtain ⟨b,m,M,rg⟩:=h;dsimp only at*
 go_enter Tryz.func20,Tryz.ntmps20
 go_wp2_with fail
 refine (HN.out).mono ?_;rintro e w1 ⟨rfl,rfl⟩;clear HN;have HX:=ae U;clear U;go_wp2_with fail
 refine (p.out).mono ?_;rintro e w2 ⟨rfl,r⟩;obtain ⟨i,E⟩:∃i,w2.alloc (.cells #[.int .i64 Ba,.int .i64 Tp,.int .i64 To,.int .i64 Li,.int .i64 (c.block:Int),.int .i64 (c.stack:Int),.int .i64 (c.Ah:Int)] 143)=i:=⟨_,rfl⟩;have s:Fr (fun _=>False) w i.drew:=by rw [<-E];exact (r.alloc _).drew
 have o:Hid (aj i.drew w2.heap.size [.int .i64 Ba,.int .i64 Tp,.int .i64 To,.int .i64 Li,.int .i64 (c.block:Int),.int .i64 (c.stack:Int),.int .i64 (c.Ah:Int)] 143):=by rw [<-E];exact ae (aj.new w2 _ _)
 have q:gq i.drew b c m M ub none ns bs:=aj.frame x.out s (fun h=>h);have k8:=aj.cell q 8 rfl;have k9:=aj.cell q 9 rfl;have N:∃Z:World->Prop,Z=fun w5=>(∀R cs t,w.heap.size<=R->aj i.drew R cs t->aj w5 R cs t)∧yz b m M c ns bs A rs (A.Wd Y) T w To w5:=⟨_,rfl⟩
 obtain ⟨Z,V⟩:=N;have k:Hid (Calls Tryz.prog 72 #[m,.pointer (some ⟨M,0,none⟩),.agg #[.int .i64 Ba,.int .i64 Tp,.int .i64 To,.int .i64 Li,.int .i64 (c.block:Int),.int .i64 (c.stack:Int),.int .i64 (c.Ah:Int)]] i.drew fun e w5=>e= .returned (.tuple #[.int .i64 X,.int .i64 0])∧i.drew.heap.size<=w5.heap.size∧Z w5):=by
  rw [V];exact ae (f.out i.drew s)
 have N:=ae V;have y:=ae r;have f:=k;clear r p s q k x V k0;generalize c.block=bk at*;generalize c.stack=sk at*;generalize c.Ah=ad at*;go_wp2;refine aS 15 9 (fun a P=>a.heap.size<=P.heap.size) (fun a P=>P=a) [.c (.pointer (some ⟨b,0,none⟩)),.c (.pointer (some ⟨b,0,none⟩)),.c (.pointer (some ⟨b,8,none⟩)),.c (.pointer (some ⟨m,0,none⟩)),.c (.pointer (some ⟨b,0,none⟩)),.c (.pointer (some ⟨b,0,none⟩)),.c (.pointer (some ⟨b,9,none⟩)),.c (.pointer (some ⟨M,0,none⟩)),.c (.agg #[.int .i64 Ba,.int .i64 Tp,.int .i64 To,.int .i64 Li,.int .i64 bk,.int .i64 sk,.int .i64 ad]),.w (.tuple #[.int .i64 X,.int .i64 0]) (Z),.c (.tuple #[.int .i64 X,.int .i64 0]),.c (.int .i64 X),.c (.int .i64 0),.c (.int .i64 X),.c (.int .i64 0)] (fun j=>false) (by kernel_rfl) (by kernel_rfl) (by kernel_rfl) (by kernel_rfl) rfl (fun _=>rfl) (fun _ _ h=>by rw [h];exact Nat.le_refl _) (fun _ _ _ C D=>D.trans C) (fun _ _ _ C D=>by subst D;exact C) (fun _ _ _ C D=>by subst C;exact D) (fun _ _ h=>h) ⟨fun w1 w2 h hr=>by subst hr;exact h,trivial⟩ ⟨.inl rfl,trivial⟩ ?_;intro F hF;simp only [cU,PK.val,List.take_succ_cons,List.take_zero,aa,ab,ac] at hF;subst hF;refine ⟨by
  refine ⟨?_,?_,?_,?_,?_,?_,?_,?_,?_,?_,?_,?_,?_,?_,?_,trivial⟩<;>intro vs w1 d v hd hx
  all_goals try (apply oV;rotate_left;rfl;exact rfl;go_simp;done)
  all_goals try (apply oV;rotate_left;rfl;exact rfl;have g:=v (by kernel_rfl);subst g;go_simp;done)
  ·have g:=v (by kernel_rfl);subst g;refine ao (.agg #[.int .i64 Ba,.int .i64 Tp,.int .i64 To,.int .i64 Li,.int .i64 bk,.int .i64 sk,.int .i64 ad]) ?_ ⟨rfl,rfl,fun h=>nomatch h⟩;exact dI rfl w2.heap.size rfl 143 _ (0,0) _ o.out Tryz.underlying143 rfl O.out
  ·have g:=v (by kernel_rfl);subst g;refine ar 72 #[m,.pointer (some ⟨M,0,none⟩),.agg #[.int .i64 Ba,.int .i64 Tp,.int .i64 To,.int .i64 Li,.int .i64 bk,.int .i64 sk,.int .i64 ad]] (by go_simp) ((f.out).mono ?_);rintro e w5 ⟨rfl,hz,hp⟩;exact ⟨_,rfl,⟨rfl,hp⟩,hz,fun h=>nomatch h⟩
  ,fun vs w1 d hp hx=> ?_⟩
 obtain ⟨g9,_⟩:=hp;have K:=g9;clear hx d;simp only [List.drop_succ_cons,List.drop_zero];rw [N.out] at K;obtain ⟨l,hp⟩:=K;have G:=l _ _ _ y.out.size o.out;unfold yz at hp;rw [<-HX.out] at hp;have z:=ae (hp.1 w1 (Fr.refl _ _));have B:=ae (fun w8 h=>hp.2 w1 w8 (Fr.refl _ _) h);have k2:=G.cell 2 rfl;clear l hp G N o f y k8 k9;go_wp2_with fail
 refine (z.out).mono ?_;rintro e w6 ⟨rfl,hp⟩;obtain ⟨aq,ap,am,hq⟩:=HQ.out w6 (B.out w6 hp);have H:=ae hq;clear z B hp hq HQ k2;go_wp2;go_end0;exact H.out _
theorem zN (hi:bM b c A rs u n T w) (hk:c.kind=3):Calls Tryz.prog 20 #[b] w (lV b c A rs T w):=by
 have h0:=hi.plain (by omega);obtain ⟨h,φ,L,Ba,l,cy,z,x,S,rfl,g,hT,N⟩:=hi;obtain rfl:=N h0;subst h0;obtain ⟨y,O⟩:=g.laid.some;have HN:=ae (cC g.blk);have k0:w.cell? ⟨h.b,0,none⟩=some (.int .i64 3):=by
  have:=aj.cell g.blk 0 rfl;rw [hk] at this;exact this
 have f:∀w1,Fr (fun _=>False) w.drew w1->Fr (fun _=>False) w w1:=fun w1 hf=>((Fr.refl (fun _=>False) w).drew).trans hf (fun _ h=>h.elim)
 have d:=ae (fun w1 (hf:Fr (fun _=>False) w.drew w1)=>(xR g hT O (f w1 hf)).mono (fun e w5 ho=>(show e= .returned (.tuple #[.int .i64 ((Ba+A.Wd y:Nat):Int),.int .i64 0])∧w1.heap.size<=w5.heap.size∧rR h.b h.m h.rb l c z x A rs (A.Wd y) Ba u T w e w5 from ⟨ho.1.1,ho.2,ho.1⟩)));have C:=ae (fun w1 (hf:Fr (fun _=>False) w.drew w1)=>ep (g.keep (f w1 hf)).reg);have s:=ae (fun w1 (hf:Fr (fun _=>False) w.drew w1)=>gO (g.keep (f w1 hf)).reg);have D:=ae (fun w1 (hf:Fr (fun _=>False) w.drew w1)=>(show w1.cell? ⟨h.b,8,none⟩=some (.pointer (some ⟨h.m,0,none⟩))∧w1.cell? ⟨h.b,9,none⟩=some (.pointer (some ⟨h.rb,0,none⟩))∧w1.cell? ⟨h.b,10,none⟩=some (.pointer (some ⟨l,0,none⟩))∧w1.cell? ⟨h.b,5,none⟩=some (.int .i64 (c.stack:Int))∧True from
  ⟨aj.cell (g.keep (f w1 hf)).blk 8 rfl,aj.cell (g.keep (f w1 hf)).blk 9 rfl,aj.cell (g.keep (f w1 hf)).blk 10 rfl,aj.cell (g.keep (f w1 hf)).blk 5 rfl,trivial⟩))
 have HQ:=ae (fun w5 (hh:t7 h.b c A rs (A.Wd y) T w w5)=>uQ O hh);have B:Hid (gq w.drew h.b c h.m h.rb l none z x):=ae g.blk;clear g hT N;generalize (lV h.b c A rs T w)=Q at*;obtain ⟨X,hX⟩:∃X,X=Ba+A.Wd y:=⟨_,rfl⟩;rw [<-hX] at d;have HX:=ae hX;clear hX f;obtain ⟨b,m,v,rg⟩:=h;dsimp only at*;have HZ:∃Z:World->Prop,Z=fun w5=>rR b m v l c z x A rs (A.Wd y) Ba u T w (.returned (.tuple #[.int .i64 X,.int .i64 0])) w5:=⟨_,rfl⟩
 obtain ⟨Z,J⟩:=HZ;have I:Hid (∀p wb,Z p->Fr (fun _=>False) p wb->Z wb):=by
  show∀p wb,_
  rw [J];exact fun p wb h hf=>h.Fh hf
 have G:Hid (∀p,Z p->gq p b c m v l none z x):=by
  show∀p,_
  rw [J];exact fun p h=>h.2.1
 have q:Hid (∀w1,Fr (fun _=>False) w.drew w1->Calls Tryz.prog 74 #[m,.pointer (some ⟨v,0,none⟩),.int .i64 Ba,.int .i64 ((Ba+u:Nat):Int),.int .i64 (c.stack:Int)] w1 fun e w5=>e= .returned (.tuple #[.int .i64 X,.int .i64 0])∧w1.heap.size<=w5.heap.size∧Z w5):=by
  show∀w1,_
  intro w1 hf;rw [J];refine (d.out w1 hf).mono ?_;rintro e w5 ⟨rfl,k,h3⟩;exact ⟨rfl,k,h3⟩
 have HZ:=ae J;clear d J;have d:=q;clear q;obtain ⟨Tp,t⟩:∃Tp,Tp=Ba+u:=⟨_,rfl⟩;rw [<-t] at d s;have am:=ae t;clear t;obtain ⟨sk,Y⟩:∃sk,sk=c.stack:=⟨_,rfl⟩;rw [<-Y] at d D;clear Y
 go_enter Tryz.func20,Tryz.ntmps20
 go_wp2_with fail
 refine (HN.out).mono ?_;rintro e w1 ⟨rfl,rfl⟩;clear HN;go_wp2;clear k0;refine aS 29 23 (fun a b2=>a.heap.size<=b2.heap.size∧(gq a b c m v l none z x->gq b2 b c m v l none z x)) (fun a b2=>Fr (fun _=>False) a b2) [.c (.pointer (some ⟨b,0,none⟩)),.c (.pointer (some ⟨b,0,none⟩)),.c (.pointer (some ⟨b,8,none⟩)),.c (.pointer (some ⟨m,0,none⟩)),.c (.pointer (some ⟨b,0,none⟩)),.c (.pointer (some ⟨b,0,none⟩)),.c (.pointer (some ⟨b,9,none⟩)),.c (.pointer (some ⟨v,0,none⟩)),.c (.pointer (some ⟨b,0,none⟩)),.c (.pointer (some ⟨b,0,none⟩)),.c (.pointer (some ⟨b,10,none⟩)),.c (.pointer (some ⟨l,0,none⟩)),.c (.int .i64 Ba),.c (.pointer (some ⟨b,0,none⟩)),.c (.pointer (some ⟨b,0,none⟩)),.c (.pointer (some ⟨b,10,none⟩)),.c (.pointer (some ⟨l,0,none⟩)),.c (.int .i64 Tp),.c (.pointer (some ⟨b,0,none⟩)),.c (.pointer (some ⟨b,0,none⟩)),.c (.pointer (some ⟨b,0,none⟩)),.c (.pointer (some ⟨b,5,none⟩)),.c (.int .i64 sk),.w (.tuple #[.int .i64 X,.int .i64 0]) (Z),.c (.tuple #[.int .i64 X,.int .i64 0]),.c (.int .i64 X),.c (.int .i64 0),.c (.int .i64 X),.c (.int .i64 0)] (fun j=>false) (by kernel_rfl) (by kernel_rfl) (by kernel_rfl) (by kernel_rfl) rfl (fun _=>Fr.refl _ _) (fun _ _ h=>⟨h.size,fun K=>aj.frame K h (fun h=>h)⟩) (fun _ _ _ o k=>o.trans k (fun _ h=>h.elim)) (fun _ _ _ o k=>⟨Nat.le_trans o.1 k.size,fun K=>aj.frame (o.2 K) k (fun h=>h)⟩) (fun _ _ _ o k=>⟨Nat.le_trans o.size k.1,fun K=>k.2 (aj.frame K o (fun h=>h))⟩) (fun _ _ h=>h.1) ⟨fun w1 w2 h hr=>I.out _ _ h hr,trivial⟩ ⟨.inl rfl,trivial⟩ ?_;intro F hF;simp only [cU,PK.val,List.take_succ_cons,List.take_zero,aa,ab,ac] at hF;subst hF;refine ⟨by
  refine ⟨?_,?_,?_,?_,?_,?_,?_,?_,?_,?_,?_,?_,?_,?_,?_,?_,?_,?_,?_,?_,?_,?_,?_,?_,?_,?_,?_,?_,?_,trivial⟩<;>intro vs w1 g i hd hx
  all_goals try (apply oV;rotate_left;rfl;exact Fr.refl _ _;go_simp;done)
  all_goals try (apply oV;rotate_left;rfl;exact Fr.refl _ _;have ad:=aj.cell (g.2 B.out) 10 rfl;go_simp;done)
  all_goals try (apply oV;rotate_left;rfl;exact Fr.refl _ _;have k8:=(D.out w1 (i (by kernel_rfl))).1;go_simp;done)
  all_goals try (apply oV;rotate_left;rfl;exact Fr.refl _ _;have k9:=(D.out w1 (i (by kernel_rfl))).2.1;go_simp;done)
  all_goals try (apply oV;rotate_left;rfl;exact Fr.refl _ _;have k5:=(D.out w1 (i (by kernel_rfl))).2.2.2.1;go_simp;done)
  ·refine ar 75 #[l] (by go_simp) ((C.out w1 (i (by kernel_rfl))).mono ?_);rintro e w5 ⟨rfl,rfl⟩;exact ⟨_,rfl,rfl,Fr.refl _ _,fun h=>nomatch h⟩
  ·refine ar 76 #[l] (by go_simp) ((s.out w1 (i (by kernel_rfl))).mono ?_);rintro e w5 ⟨rfl,rfl⟩;exact ⟨_,rfl,rfl,Fr.refl _ _,fun h=>nomatch h⟩
  ·refine ar 74 #[m,.pointer (some ⟨v,0,none⟩),.int .i64 Ba,.int .i64 Tp,.int .i64 sk] (by go_simp) ((d.out w1 (i (by kernel_rfl))).mono ?_);rintro e w5 ⟨rfl,hz,hp⟩;exact ⟨_,rfl,⟨rfl,hp⟩,⟨hz,fun _=>G.out _ hp⟩,fun h=>nomatch h⟩
  ,fun vs w1 g hp hx=> ?_⟩
 obtain ⟨ah,_⟩:=hp;have R:=ah;clear hx g;simp only [List.drop_succ_cons,List.drop_zero];rw [HZ.out] at R;obtain ⟨_,M,W,P,hp⟩:=R;have r:=ae (nx W (Ba+A.Wd y) (by omega) P);rw [<-HX.out] at r hp;have E:=ae (fun w8 o k=>hp w1 w8 (Fr.refl _ _) o k);have ad:=aj.cell M 10 rfl;clear hp M W P HZ d I G B C s D;go_wp2_with fail
 refine (r.out).mono ?_;rintro e w6 ⟨rfl,U,V⟩;obtain ⟨av,aq,ap,hq⟩:=HQ.out w6 (E.out w6 U V);have H:=ae hq;clear r E U V hq HQ ad;go_wp2;go_end0;exact H.out _
theorem fx (a:bM b c A rs u n T w):Calls Tryz.prog 20 #[b] w (lV b c A rs T w):=by
 rcases a.cf.1.kind1 with h|h|h
 ·exact zL a h
 ·exact zM a h
 ·exact zN a h
end
section
variable {s:bh} {L M L' M':Nat->Nat} {mp mp':Nat->Bool} {mvd:Nat->Bool} {fr ah left top n:Nat}
theorem rC {P a b q:Nat} (g:1<=P) (d:a<b):(a/P<=q∧q<=(b-1)/P)↔∃k,a<=k∧k<b∧k/P=q:=by
 constructor
 ·rintro ⟨c,e⟩;have f:q*P<=b-1:=(Nat.le_div_iff_mul_le (by omega)).1 e;rcases Nat.le_total a (q*P) with h|h
  ·exact ⟨q*P,h,by omega,Nat.mul_div_cancel _ (by omega)⟩
  ·refine ⟨a,Nat.le_refl _,d,Nat.le_antisymm c ((Nat.le_div_iff_mul_le (by omega)).2 h)⟩
 ·rintro ⟨k,c,e,rfl⟩;exact ⟨Nat.div_le_div_right c,Nat.div_le_div_right (by omega)⟩
theorem tK (v:b8 s) (z:1<=n) (u:s.to_+s.N<=top) (w:top+n<=s.to_+s.R*s.P) (q:Nat):df s mvd (top+n) q=(df s mvd top q||(decide (top/s.P<=q)&&decide (q<=(top+n-1)/s.P))):=by
 have o:=v.P1;have y:=v.toq;have p:∀i,(s.to_+i)/s.P=s.to_/s.P+i/s.P:=fun i=>px o i y
 have x:∀t r,fc s t r=true↔∃i,i/s.P=r∧s.N<=i∧s.to_+i<t:=fun t r=>by
  unfold fc;rw [aH o];simp only [Bool.and_eq_true,decide_eq_true_eq]
 have g:=rC (P:=s.P) (a:=top) (b:=top+n) (q:=q) o (by omega);rw [Bool.eq_iff_iff];unfold df;simp only [Bool.and_eq_true,Bool.or_eq_true,decide_eq_true_eq,x];constructor
 ·rintro ⟨⟨d,e⟩,l|⟨i,j,f,c⟩⟩
  ·exact .inl ⟨⟨d,e⟩,.inl l⟩
  ·by_cases m:s.to_+i<top
   ·exact .inl ⟨⟨d,e⟩,.inr ⟨i,j,f,m⟩⟩
   ·exact .inr (g.2 ⟨s.to_+i,by omega,c,by rw [p];omega⟩)
 ·rintro (⟨⟨d,e⟩,l|⟨i,j,f,c⟩⟩|h)
  ·exact ⟨⟨d,e⟩,.inl l⟩
  ·exact ⟨⟨d,e⟩,.inr ⟨i,j,f,by omega⟩⟩
  ·obtain ⟨k,j,f,c⟩:=g.1 h;obtain ⟨i,rfl⟩:∃i,k=s.to_+i:=⟨k-s.to_,by omega⟩;rw [p] at c;have m:i/s.P<s.R:=by rw [Nat.div_lt_iff_lt_mul (by omega)];omega
   exact ⟨⟨by rw [<-c];exact Nat.le_add_right _ _,by rw [<-c];exact Nat.add_lt_add_left m _⟩,.inr ⟨i,by rw [<-c,Nat.add_sub_cancel_left],by omega,f⟩⟩
theorem fQ.put (r:b8 s) (h:fQ s L M mp mvd fr ah left top) {lo b:Nat} (C:s.to_+s.N<=lo) (J:lo<=top) (O:top<=b) (G:b<=s.to_+s.R*s.P) (x:∀q,q<s.W/s.P->mp' q=(eM s.P (ai s.E) (aZ s.B mvd) q||df s mvd b q))
  (v:∀k,k<lo->L' k=L k) (w:∀k,k<s.W->mp (k/s.P)=true->(k<lo∨b<=k)->M' k=M k) (H:∀k,lo<=k->k<b->M' k=L' k) (m:∃X,(∀k,X k=true->mvd k=true)∧gT s.P (s.W/s.P) s.R s.N (ai s.E) (aZ s.B X) (fc s b)<=s.R):
  fQ s L' M' mp' mvd fr ah left b:=by
 have t:=r.P1;have K:=r.toq;have y:=r.Wq;have D:=r.to2;have A:∀i,(s.to_+i)/s.P=s.to_/s.P+i/s.P:=fun i=>px t i K
 have l:∀k,k<s.W->k/s.P<s.W/s.P:=fun k I=>by rw [Nat.div_lt_iff_lt_mul (by omega),<-y];exact I
 have z:∀a,a<s.W->ai s.E a=true->s.F a<s.to_+s.N:=fun a d c=>by
  show goes s.E s.to_ a<_
  rw [nM];have:=eh c d;unfold bh.N;omega
 have e:∀a,a<s.W->ai s.E a=true->mvd (bt s.E a/s.B)=false->M' a=M a:=fun a d c f=>by
  refine w a d ?_ ?_
  ·rw [h.pages _ (l a d),Bool.or_eq_true];left;unfold eM;rw [aH t];refine ⟨a,rfl,?_⟩;show (ai s.E a&& !mvd (bt s.E a/s.B))=true
   rw [c,f];rfl
  ·rcases (r.from_ a c).2 with g|g
   ·left;omega
   ·right;omega
 have p:∀k,s.to_+s.N<=k->k<lo->M' k=M k:=fun k g j=>by
  refine w k (by omega) ?_ (.inl j);obtain ⟨i,rfl⟩:∃i,k=s.to_+i:=⟨k-s.to_,by omega⟩;rw [h.pages _ (l _ (by omega)),Bool.or_eq_true];right;have u:i/s.P<s.R:=by rw [Nat.div_lt_iff_lt_mul (by omega)];omega
  unfold df;rw [A,Bool.and_eq_true,Bool.and_eq_true,decide_eq_true_eq,decide_eq_true_eq,Bool.or_eq_true,Nat.add_sub_cancel_left];refine ⟨⟨Nat.le_add_right _ _,Nat.add_lt_add_left u _⟩,.inr ?_⟩;unfold fc;rw [aH t];exact ⟨i,rfl,by rw [Bool.and_eq_true,decide_eq_true_eq,decide_eq_true_eq];exact ⟨by omega,by omega⟩⟩
 refine ⟨fun a d c f=> ?_,fun a d c f=> ?_,fun a d c f g j o=> ?_,fun a d c f=> ?_,fun k g j=> ?_,x,h.front,h.far,h.Ah,h.left,m⟩
 ·have g:=z a d c;rw [v _ (by omega),<-h.moved a d c f];refine w _ (by omega) ?_ (.inl (by omega));have j:s.F a=s.to_+bt s.E a:=rfl;rw [h.pages _ (l _ (by omega)),Bool.or_eq_true];right;have u:bt s.E a/s.P<s.R:=by rw [Nat.div_lt_iff_lt_mul (by omega)];omega
  unfold df;rw [j,A,Bool.and_eq_true,Bool.and_eq_true,decide_eq_true_eq,decide_eq_true_eq,Bool.or_eq_true,Nat.add_sub_cancel_left];refine ⟨⟨Nat.le_add_right _ _,Nat.add_lt_add_left u _⟩,.inl ?_⟩;unfold gp;rw [aH t];exact ⟨bt s.E a,rfl,by rw [Bool.and_eq_true,decide_eq_true_eq];exact ⟨by omega,f⟩⟩
 ·rw [dK c (e a d c f),h.still a d c f,v _ (by have:=z a d c;omega)]
 ·rw [e a d c f] at o ⊢;exact h.ptrs a d c f g j o
 ·rw [e a d c f];exact h.small a d c f
 ·by_cases o:k<lo
  ·rw [p k g o,h.behind k g (by omega),v k o]
  ·exact H k (by omega) j
theorem fQ.grow (f:b8 s) (h:fQ s L M mp mvd fr ah left top) (g:1<=n) (a:s.to_+s.N<=top) (b:top+n<=s.to_+s.R*s.P) (e:∀q,mp' q=(mp q||(decide (top/s.P<=q)&&decide (q<=(top+n-1)/s.P))))
  (i:∀k,k<top->L' k=L k) (j:∀k,k<s.W->mp (k/s.P)=true->(k<top∨top+n<=k)->M' k=M k) (l:∀k,top<=k->k<top+n->M' k=L' k) (c:cnt mp' 0 (s.W/s.P)<=s.R):
  fQ s L' M' mp' mvd fr ah left (top+n):=by
 have d:∀q,q<s.W/s.P->mp' q=(eM s.P (ai s.E) (aZ s.B mvd) q||df s mvd (top+n) q):=fun q m=>by
  rw [e,h.pages q m,tK f g a b,Bool.or_assoc]
 exact h.put f a (Nat.le_refl _) (by omega) b d i j l ⟨mvd,fun _ h=>h,by rw [<-ki f d];exact c⟩
theorem la (mp:Nat->Bool) (a:Nat):∀k,cnt mp a (a+k)+cnt (fun q=> !mp q) a (a+k)=k
 |0=>by rw [bG _ (by omega),bG _ (by omega)]
 |k+1=>by
  rw [<-Nat.add_assoc,aC _ (by omega),aC _ (by omega)];have:=la mp a k
  cases mp (a+k)<;>simp<;>omega
theorem xe (mp mp':Nat->Bool) {a e Q:Nat} (c:a<=e) (d:e<=Q) (h:∀q,mp' q=(mp q||(decide (a<=q)&&decide (q<e)))):cnt mp' 0 Q=cnt mp 0 Q+cnt (fun q=> !mp q) a e:=by
 rw [ay mp' (Nat.zero_le a) (by omega),ay mp' c d,ay mp (Nat.zero_le a) (by omega),ay mp c d,
  aK (f:=mp') (g:=mp) (a:=0) (b:=a) (fun i _ l=>by rw [h,decide_eq_false (by omega)];simp),aK (f:=mp') (g:=mp) (a:=e) (b:=Q) (fun i l _=>by rw [h,decide_eq_false (p:=i<e) (by omega)];simp),
  iF (f:=mp') (a:=a) (b:=e) (fun i j k=>by rw [h,decide_eq_true j,decide_eq_true k];simp)]
 have:=la mp a (e-a);rw [Nat.add_sub_cancel' c] at this;omega
end
def kF (c:Cf):Value:= .agg #[.int .i64 (c.kind:Int),.int .i64 (c.Pg:Int),.int .i64 (c.block:Int),.int .i64 (c.Wd:Int),.int .i64 (c.Sl:Int),.int .i64 (c.stack:Int),.int .i64 (c.Ah:Int),.float .f64 c.trig]
theorem jT {c:Cf} (w:World) (s:1<=c.Pg) (t:c.block<=1024) (u:c.Ah<=16):Calls Tryz.prog 182 #[kF c] w fun e w'=>e= .returned (.int .i64 (c.spare:Int))∧Fr (fun _=>False) w w':=by
 have o:Hid ((Tryz.prog.info? 24).map (·.size)=some 8):=by show _=_;kernel_rfl
 have p:decide ((c.Pg:Int)=0)=false:=by rw [decide_eq_false_iff_not];omega
 have q:¬c.Pg=0:=by omega
 have l:=Nat.div_le_self c.block c.Pg;have r:IntKind.i64.wrap ((c.block:Int)/(c.Pg:Int))=((c.block/c.Pg:Nat):Int):=by
  rw [show (c.block:Int)/(c.Pg:Int)=((c.block/c.Pg:Nat):Int) from rfl];generalize c.block/c.Pg=X at*;rw [IntKind.wrap_i64];omega
 have z:IntKind.i64.wrap ((c.Ah:Int)+2)=(c.Ah:Int)+2:=by rw [IntKind.wrap_i64];omega
 unfold kF
 go_enter Tryz.func182,Tryz.ntmps182
 obtain ⟨W1,f⟩:∃W1,w.alloc (.cells #[.int .i64 (c.kind:Int),.int .i64 (c.Pg:Int),.int .i64 (c.block:Int),.int .i64 (c.Wd:Int),.int .i64 (c.Sl:Int),.int .i64 (c.stack:Int),.int .i64 (c.Ah:Int),.float .f64 c.trig] 24)=W1:=⟨_,rfl⟩;have g:Fr (fun _=>False) w W1:=by rw [<-f];exact (Fr.refl _ w).alloc _
 have b:aj W1 w.heap.size [.int .i64 (c.kind:Int),.int .i64 (c.Pg:Int),.int .i64 (c.block:Int),.int .i64 (c.Wd:Int),.int .i64 (c.Sl:Int),.int .i64 (c.stack:Int),.int .i64 (c.Ah:Int),.float .f64 c.trig] 24:=by rw [<-f];exact aj.new w _ _
 have C:=b.drew.cell 6 rfl;have B:=b.drew.cell 2 rfl;have A:=b.drew.cell 1 rfl;have j:=ae g;clear g b;obtain ⟨Q,k⟩:∃Q,Q=c.block/c.Pg:=⟨_,rfl⟩;rw [<-k] at r l;have m:=ae k;clear k;go_wp2;clear f;refine aA (fun w'=>w'=W1.drew) 10 (by kernel_rfl) (by kernel_rfl) rfl ?_;simp only [List.take_succ_cons,List.take_zero,List.drop_succ_cons,List.drop_zero];refine ag (.pointer (some ⟨w.heap.size,6,none⟩)) rfl (fun w a=>by go_simp) ?_;simp only [Act.put,aa,ab,ac];refine ag (.int .i64 (c.Ah:Int)) rfl (fun w a=>by subst a;go_simp) ?_;simp only [Act.put,aa,ab,ac];refine ag (.int .i64 ((c.Ah:Int)+2)) rfl (fun w a=>by go_simp) ?_;simp only [Act.put,aa,ab,ac];refine ag (.pointer (some ⟨w.heap.size,2,none⟩)) rfl (fun w a=>by go_simp) ?_;simp only [Act.put,aa,ab,ac];refine ag (.int .i64 (c.block:Int)) rfl (fun w a=>by subst a;go_simp) ?_;simp only [Act.put,aa,ab,ac];refine ag (.pointer (some ⟨w.heap.size,1,none⟩)) rfl (fun w a=>by go_simp) ?_;simp only [Act.put,aa,ab,ac];refine ag (.int .i64 (c.Pg:Int)) rfl (fun w a=>by subst a;go_simp) ?_;simp only [Act.put,aa,ab,ac];refine ag (.int .i64 Q) rfl (fun w a=>by go_simp) ?_;simp only [Act.put,aa,ab,ac];refine ag (.int .i64 ((max Q 1:Nat):Int)) rfl (fun w a=>by go_simp;omega) ?_;simp only [Act.put,aa,ab,ac];refine ag (.int .i64 ((max Q 1+3:Nat):Int)) rfl (fun w a=>by go_simp;rw [IntKind.wrap_i64];omega) ?_;simp only [Act.put,aa,ab,ac];refine wpQuiet_nil ?_;rintro w2 rfl;have i:∀M:Nat,M<=1024->wrap64 (((c.Ah:Int)+2)*((M:Int)+3))=(((c.Ah+2)*(M+3):Nat):Int):=fun M y=>by
  have v:(c.Ah+2)*(M+3)<=18*1027:=Nat.mul_le_mul (by omega) (by omega);have n:((c.Ah:Int)+2)*((M:Int)+3)=(((c.Ah+2)*(M+3):Nat):Int):=by push_cast;rfl
  rw [n];generalize (c.Ah+2)*(M+3)=Z at*;unfold wrap64;omega
 have d:=i (max Q 1) (by omega);have h:(c.Ah+2)*(max Q 1+3)=c.spare:=by unfold Cf.spare;rw [m.out]
 rw [h] at d;clear i h;go_wp2;go_ret;exact ⟨congrArg (fun x=>Ending.returned (.int .i64 x)) d,j.out.drew⟩
section
variable {P:Program} {a:Act} {o:Oper}
theorem rE {c:TypeId} {x:Operand} (h:o.op= .load c x) (b f:Nat) (j:a.eval x= .pointer (some ⟨b,f,none⟩)) (cs:List Value) (d:TypeDesc) {w:World}
  (hg:w.rangeAt b f cs) (i:P.underlying c=some d) (e:d.isRow=true) (g:(P.info? c).map (·.size)=some cs.length):
  (execOp a.eval o).run P w= .ok (.value (.agg cs.toArray)) w:=by
 unfold execOp;simp only [h,j,Instr.loadAt,Instr.sureAddr,Sem.run_bind,Sem.run_pure,Result.andThen_ok,run_loadVar_mid w b f c cs d hg i e g]
end
def zm (q:Nat->Prop) (b:Nat) (c:Cf) (A:AG) (rs:List Nat) (u n:Nat) (T:Nat->Prop) (w:World):Prop:=
 ∃h φ L Ba ub cy ns bs S,h.b=b∧eT q h c A rs φ L Ba u ub cy n ns bs S w∧(∀k,T k↔eZ h ub S k)∧(n=0->cy=none)
def mT (fd:Nat) (b:Nat) (c:Cf) (A:AG) (rs:List Nat) (u:Nat) (T:Nat->Prop) (w:World) (e:Ending) (w':World):Prop:=e= .returned (.tuple #[])∧∃n T',zm (fun Us=>Us+fd<=c.Wd/c.Pg) b c A rs u n T' w'∧Fr T w w'∧∀k,T' k->T k∨w.heap.size<=k
section
variable {b u n:Nat} {c:Cf} {A:AG} {rs:List Nat} {T:Nat->Prop} {w wr:World}
theorem eE.drew (g:eE b c A rs u n T w wr):eE b c A rs u n T w wr.drew:=let ⟨a,d,e,f⟩:=g;⟨a,d.keep ((Fr.refl _ _).drew),e.drew,f⟩
theorem vU (fd:Nat) (V:eE b c A rs u n T w wr):
  (n=0∧(∀w',Fr (fun _=>False) wr w'->w'.cell? ⟨b,11,none⟩=some (.pointer none)∧True)∧∀w',Fr (fun _=>False) wr w'->mT fd b c A rs u T w (.returned (.tuple #[])) w')∨
  (n≠0∧∃(y m Us:Nat),Us<=4096∧(∀w',Fr (fun _=>False) wr w'->w'.cell? ⟨b,11,none⟩=some (.pointer (some ⟨y,0,none⟩))∧w'.cell? ⟨b,8,none⟩=some (.pointer (some ⟨m,0,none⟩))∧True)∧(∀w',Fr (fun _=>False) wr w'->Calls Tryz.prog 183 #[m] w' fun e l=>e= .returned (.int .i64 (c.Fs:Int))∧w'=l)∧
   (∀w',Fr (fun _=>False) wr w'->Calls Tryz.prog 78 #[m] w' fun e l=>e= .returned (.int .i64 Us)∧w'=l)∧c.Fs=c.Wd/c.Pg+c.spare∧(∀w',Fr (fun _=>False) wr w'->w'.rangeAt b 0 [.int .i64 (c.kind:Int),.int .i64 (c.Pg:Int),.int .i64 (c.block:Int),.int .i64 (c.Wd:Int),.int .i64 (c.Sl:Int),.int .i64 (c.stack:Int),.int .i64 (c.Ah:Int),.float .f64 c.trig])∧
   (Us+fd<=c.Wd/c.Pg->∀w',Fr (fun _=>False) wr w'->mT fd b c A rs u T w (.returned (.tuple #[])) w')):=by
 obtain ⟨r,⟨h,φ,L,Ba,J,P,E,t,S,rfl,i,B,p⟩,x,z⟩:=V
 cases P with
 |none=>
  left;refine ⟨i.mem.1,fun w' hf=>⟨aj.cell (i.keep hf).blk 11 rfl,trivial⟩,fun w' hf=>⟨rfl,n,r,⟨h,φ,L,Ba,J,none,E,t,S,rfl,?_,B,fun _=>rfl⟩,x.trans hf (fun _ h=>h.elim),z⟩⟩;have a:=i.keep hf;exact ⟨a.cok,a.blk,a.roots,a.reg,a.tab,a.laid,a.Sl,a.fits,a.half,a.mem,a.d,a.e⟩
 |some y=>
  right;refine ⟨fun Q=>(by cases p Q),?_⟩;obtain ⟨C,O,s,q,hg,K,fr,N,Y,⟨Us,_,F⟩,Z,G,r3,H,r5,I,r7,r8⟩:=id i.mem;have f:∀w',Fr (fun _=>False) wr w'->∃Hg o mp M,bn w' h.m o c.Pg c.W c.Fs Us Hg mp M:=fun w' hf=>by
   obtain ⟨Hg,o,mp,M,fw,k,X,p2,p3,p4,p5⟩:=F.stays hf (fun _ _ h=>h) (fun h=>h);have g:=X.mem;rw [G,H,I] at g;exact ⟨Hg,o,mp,M,g⟩
  refine ⟨y,h.m,Us,?_,fun w' hf=>⟨aj.cell (i.keep hf).blk 11 rfl,aj.cell (i.keep hf).blk 8 rfl,trivial⟩,fun w' hf=> ?_,fun w' hf=> ?_,?_,fun w' hf j v D=> ?_,fun U w' hf=>⟨rfl,n,r,⟨h,φ,L,Ba,J,some y,E,t,S,rfl,?_,B,p⟩,x.trans hf (fun _ h=>h.elim),z⟩⟩
  ·obtain ⟨Hg,o,mp,M,g⟩:=f wr (Fr.refl _ _);have:=g.at;omega
  ·obtain ⟨Hg,o,mp,M,g⟩:=f w' hf;exact sY g
  ·obtain ⟨Hg,o,mp,M,g⟩:=f w' hf;exact lz g
  ·unfold Cf.Fs;rw [if_pos C]
  ·rw [Nat.zero_add];have R:j<8:=(List.getElem?_eq_some_iff.1 D).1;refine aj.cell (i.keep hf).blk j ?_;unfold Cf.cells;rw [List.getElem?_append_left (by exact R)];exact D
  ·have a:=i.keep hf;exact ⟨a.cok,a.blk,a.roots,a.reg,a.tab,a.laid,a.Sl,a.fits,a.half,⟨C,O,s,q,hg,K,fr,N,Y,⟨Us,U,F.stays hf (fun _ _ h=>h) (fun h=>h)⟩,Z,G,r3,H,r5,I,r7,r8⟩,a.d,a.e⟩
theorem nU (hi:bM b c A rs u n T w) (sz:Nat) (a6:sz<=1024):Calls Tryz.prog 123 #[b,.int .i64 sz] w (mT (sz/c.Pg+2) b c A rs u T w):=by
 have g:=hi.cf.1;have H0:=ae (show eE b c A rs u n T w w from ⟨T,hi,Fr.refl _ _,fun _ h=> .inl h⟩);have R:=ae (fun n w1 (hh:eE b c A rs u n T w w1)=>(show Calls Tryz.prog 17 #[b] w1 fun e w2=>e= .returned (.bool (decide (n≠0)))∧eE b c A rs u (n-1) T w w2 from by
  obtain ⟨T',q1,q2,q3⟩:=hh;refine (jU q1).mono ?_;rintro e w2 ⟨rfl,ax,r1,r2,r3⟩;have hz:=q2.size;exact ⟨rfl,ax,r1,q2.trans r2 q3,fun k F=>by
   rcases r3 k F with h|h
   ·exact q3 k h
   ·exact .inr (by omega)⟩))
 have k1:w.cell? ⟨b,1,none⟩=some (.int .i64 (c.Pg:Int)):=by
  obtain ⟨h,φ,L,Ba,ub,cy,ns,bs,S,rfl,q2,q3,q4⟩:=hi;exact aj.cell q2.blk 1 rfl
 have O:Hid ((Tryz.prog.info? 24).map (·.size)=some 8):=by show _=_;kernel_rfl
 have a3:=g.page2;have a0:¬c.Pg=0:=by omega
 have a5:=Nat.div_le_self sz c.Pg;have q:IntKind.i64.wrap ((sz:Int)/(c.Pg:Int))=((sz/c.Pg:Nat):Int):=by
  rw [show (sz:Int)/(c.Pg:Int)=((sz/c.Pg:Nat):Int) from rfl];generalize sz/c.Pg=X at*;rw [IntKind.wrap_i64];omega
 have x:=ae (fun w'=>jT (c:=c) w' g.page2 g.block3 g.ahead1);have V:=g.frames1;clear g a3;obtain ⟨fd,p⟩:∃fd,fd=sz/c.Pg+2:=⟨_,rfl⟩;have C:fd<=2000:=by generalize sz/c.Pg=X at*;omega
 have D:((sz/c.Pg:Nat):Int)+2=(fd:Int):=by rw [p];push_cast;rfl
 have a4:IntKind.i64.wrap (((sz/c.Pg:Nat):Int)+2)=(fd:Int):=by rw [D,IntKind.wrap_i64];omega
 rw [<-p];have i:=ae (fun n wr (J:eE b c A rs u n T w wr)=>vU fd J);clear D p;generalize sz/c.Pg=X at*;have av:=ae C;clear C hi;generalize (mT fd b c A rs u T w)=Q at*
 go_enter Tryz.func123,Tryz.ntmps123
 go_wp2;clear k1 q a5 a0 a4
 go_loopw [] (fun wr=>∃n,Hid (eE b c A rs u n T w wr)) (fun wr=>dR (fun n=>eE b c A rs u n T w wr))
 case atStart=>exact ⟨n,H0⟩
 case round=>
  clear H0;obtain ⟨a9,hm⟩:=hrel;obtain ⟨J,_⟩:=bY (P:=fun n=>eE b c A rs u n T w wr) hm.out;clear hm;generalize W:dR (fun n=>eE b c A rs u n T w wr)=m0 at J;have ap:=ae W;have M:=ae (fun w1 (hf:Fr (fun _=>False) wr.drew w1)=>R.out m0 w1 (let ⟨T',h1,h2,h3⟩:=J;⟨T',h1.keep (((Fr.refl (fun _=>False) wr).drew).trans hf (fun _ h=>h.elim)),h2.trans (((Fr.refl (fun _=>False) wr).drew).trans hf (fun _ h=>h.elim)) (fun _ h=>h.elim),h3⟩));have a1:=i.out m0 wr.drew J.drew;clear W J i R;rcases a1 with ⟨U,F,q⟩|⟨U,y,m,Us,hu,F,ad,ah,o,Z,q⟩
  ·have j:=ae F;have I:=ae q;clear F q M U;go_wp2;refine aA (fun w'=>Fr (fun _=>False) wr.drew w') 24 (by kernel_rfl) (by kernel_rfl) (Fr.refl _ _) ?_;simp only [List.take_succ_cons,List.take_zero,List.drop_succ_cons,List.drop_zero];refine ag (.pointer (some ⟨b,0,none⟩)) rfl (fun w' a=>by go_simp) ?_;simp only [Act.put,aa,ab,ac];refine ag (.pointer (some ⟨b,0,none⟩)) rfl (fun w' a=>by go_simp) ?_;simp only [Act.put,aa,ab,ac];refine ag (.pointer (some ⟨b,11,none⟩)) rfl (fun w' a=>by go_simp) ?_;simp only [Act.put,aa,ab,ac];refine ag (.pointer none) rfl (fun w' a=>by have am:=(j.out w' a).1;go_simp) ?_;simp only [Act.put,aa,ab,ac];refine ag (.bool false) rfl (fun w' a=>by go_simp) ?_;simp only [Act.put,aa,ab,ac];refine ag (.bool false) rfl (fun w' a=>by go_simp) ?_;simp only [Act.put,aa,ab,ac]
   go_big_quiet_skip
   go_big_quiet_skip
   go_big_quiet_skip
   go_big_quiet_skip
   go_big_quiet_skip
   go_big_quiet_skip
   go_big_quiet_skip
   go_big_quiet_skip
   go_big_quiet_skip
   go_big_quiet_skip
   go_big_quiet_skip
   go_big_quiet_skip
   go_big_quiet_skip
   go_big_quiet_skip
   go_big_quiet_skip
   go_big_quiet_skip
   go_big_quiet_skip
   go_big_quiet_skip
   refine wpQuiet_nil ?_;rintro w2 d;have H:=ae (I.out w2 d);clear d I j;go_wp2;go_end0;exact H.out
  ·rw [decide_eq_true U] at M;have aq:=ae U;generalize c.Wd/c.Pg=Y at o q;have j:=ae F;have I:=ae q;have s:=ae Z;obtain ⟨r,G⟩:∃r,r=c.spare:=⟨_,rfl⟩;have t:Hid (∀w',Fr (fun _=>False) wr.drew w'->Calls Tryz.prog 182 #[kF c] w' fun e f=>e= .returned (.int .i64 r)∧Fr (fun _=>False) wr.drew f):=by
    show∀w',_
    intro w' hf;rw [G];refine (x.out w').mono ?_;rintro e f ⟨rfl,h⟩;exact ⟨rfl,hf.trans h (fun _ h=>h.elim)⟩
   have l:Hid (∀w',Fr (fun _=>False) wr.drew w'->Calls Tryz.prog 183 #[m] w' fun e f=>e= .returned (.int .i64 (c.Fs:Int))∧Fr (fun _=>False) wr.drew f):=by
    show∀w',_
    intro w' hf;refine (ad w' hf).mono ?_;rintro e f ⟨rfl,rfl⟩;exact ⟨rfl,hf⟩
   have v:Hid (∀w',Fr (fun _=>False) wr.drew w'->Calls Tryz.prog 78 #[m] w' fun e f=>e= .returned (.int .i64 Us)∧Fr (fun _=>False) wr.drew f):=by
    show∀w',_
    intro w' hf;refine (ah w' hf).mono ?_;rintro e f ⟨rfl,rfl⟩;exact ⟨rfl,hf⟩
   rw [<-G] at o;obtain ⟨fr,B⟩:∃fr,fr=c.Fs:=⟨_,rfl⟩;rw [<-B] at o V l;have a7:IntKind.i64.wrap ((fr:Int)-(Us:Int))=(fr:Int)-(Us:Int):=by rw [IntKind.wrap_i64];omega
   have a8:IntKind.i64.wrap ((fd:Int)+(r:Int))=(fd:Int)+(r:Int):=by have:=av.out;rw [IntKind.wrap_i64];omega
   have z:(¬(fr:Int)-(Us:Int)<(fd:Int)+(r:Int))->Us+fd<=Y:=fun h=>by rw [o] at h;push_cast at h;omega
   have E:=ae z;clear F q Z ad ah G B o V hu z U x;by_cases a2:(fr:Int)-(Us:Int)<(fd:Int)+(r:Int)
   ·clear I E;go_wp2;refine aA (fun w'=>Fr (fun _=>False) wr.drew w') 24 (by kernel_rfl) (by kernel_rfl) (Fr.refl _ _) ?_;simp only [List.take_succ_cons,List.take_zero,List.drop_succ_cons,List.drop_zero];refine ag (.pointer (some ⟨b,0,none⟩)) rfl (fun w' a=>by go_simp) ?_;simp only [Act.put,aa,ab,ac];refine ag (.pointer (some ⟨b,0,none⟩)) rfl (fun w' a=>by go_simp) ?_;simp only [Act.put,aa,ab,ac];refine ag (.pointer (some ⟨b,11,none⟩)) rfl (fun w' a=>by go_simp) ?_;simp only [Act.put,aa,ab,ac];refine ag (.pointer (some ⟨y,0,none⟩)) rfl (fun w' a=>by have am:=(j.out w' a).1;go_simp) ?_;simp only [Act.put,aa,ab,ac];refine ag (.bool true) rfl (fun w' a=>by go_simp) ?_;simp only [Act.put,aa,ab,ac];refine ag (.bool true) rfl (fun w' a=>by go_simp) ?_;simp only [Act.put,aa,ab,ac];refine al (.pointer (some ⟨b,0,none⟩)) rfl (fun w' a=>by go_simp) ?_;simp only [Act.put,aa,ab,ac];refine al (.pointer (some ⟨b,0,none⟩)) rfl (fun w' a=>by go_simp) ?_;simp only [Act.put,aa,ab,ac];refine al (.pointer (some ⟨b,8,none⟩)) rfl (fun w' a=>by go_simp) ?_;simp only [Act.put,aa,ab,ac];refine al (.pointer (some ⟨m,0,none⟩)) rfl (fun w' a=>by have k8:=(j.out w' a).2.1;go_simp) ?_;simp only [Act.put,aa,ab,ac];refine cS (.int .i64 fr) 183 #[.pointer (some ⟨m,0,none⟩)] rfl (fun w'=>by go_simp) (fun w' a=>l.out w' a) ?_;simp only [Act.put,aa,ab,ac];refine al (.pointer (some ⟨b,0,none⟩)) rfl (fun w' a=>by go_simp) ?_;simp only [Act.put,aa,ab,ac];refine al (.pointer (some ⟨b,0,none⟩)) rfl (fun w' a=>by go_simp) ?_;simp only [Act.put,aa,ab,ac];refine al (.pointer (some ⟨b,8,none⟩)) rfl (fun w' a=>by go_simp) ?_;simp only [Act.put,aa,ab,ac];refine al (.pointer (some ⟨m,0,none⟩)) rfl (fun w' a=>by have k8:=(j.out w' a).2.1;go_simp) ?_;simp only [Act.put,aa,ab,ac];refine cS (.int .i64 Us) 78 #[.pointer (some ⟨m,0,none⟩)] rfl (fun w'=>by go_simp) (fun w' a=>v.out w' a) ?_;simp only [Act.put,aa,ab,ac];refine al (.int .i64 ((fr:Int)-(Us:Int))) rfl (fun w' a=>by go_simp) ?_;simp only [Act.put,aa,ab,ac];refine al (.int .i64 fd) rfl (fun w' a=>by go_simp) ?_;simp only [Act.put,aa,ab,ac];refine al (.pointer (some ⟨b,0,none⟩)) rfl (fun w' a=>by go_simp) ?_;simp only [Act.put,aa,ab,ac];refine al (.pointer (some ⟨b,0,none⟩)) rfl (fun w' a=>by go_simp) ?_;simp only [Act.put,aa,ab,ac];refine al (.pointer (some ⟨b,0,none⟩)) rfl (fun w' a=>by go_simp) ?_;simp only [Act.put,aa,ab,ac];refine al (kF c) rfl (fun w' a=>rE rfl b 0 rfl _ _ (s.out w' a) rfl rfl O.out) ?_;simp only [Act.put,aa,ab,ac];refine cS (.int .i64 r) 182 #[kF c] rfl (fun w'=>by go_simp) (fun w' a=>t.out w' a) ?_;simp only [Act.put,aa,ab,ac];refine al (.int .i64 ((fd:Int)+(r:Int))) rfl (fun w' a=>by go_simp) ?_;simp only [Act.put,aa,ab,ac];refine wpQuiet_nil ?_;rintro w2 d;have N:=ae (M.out w2 d);clear M j s l v t d;go_wp2_with fail
    refine (N.out).mono ?_;rintro e w3 ⟨rfl,q⟩;have H:=ae q;clear q N;go_wp2;go_roundw
    case rel=>exact ⟨m0-1,H⟩
    case measure=>exact Nat.lt_of_le_of_lt (bY (P:=fun n=>eE b c A rs u n T w w3) H.out).2 (by have:=aq.out;have:=ap.out;omega)
   ·have K:=ae (I.out (E.out a2));clear I E M;go_wp2;refine aA (fun w'=>Fr (fun _=>False) wr.drew w') 24 (by kernel_rfl) (by kernel_rfl) (Fr.refl _ _) ?_;simp only [List.take_succ_cons,List.take_zero,List.drop_succ_cons,List.drop_zero];refine ag (.pointer (some ⟨b,0,none⟩)) rfl (fun w' a=>by go_simp) ?_;simp only [Act.put,aa,ab,ac];refine ag (.pointer (some ⟨b,0,none⟩)) rfl (fun w' a=>by go_simp) ?_;simp only [Act.put,aa,ab,ac];refine ag (.pointer (some ⟨b,11,none⟩)) rfl (fun w' a=>by go_simp) ?_;simp only [Act.put,aa,ab,ac];refine ag (.pointer (some ⟨y,0,none⟩)) rfl (fun w' a=>by have am:=(j.out w' a).1;go_simp) ?_;simp only [Act.put,aa,ab,ac];refine ag (.bool true) rfl (fun w' a=>by go_simp) ?_;simp only [Act.put,aa,ab,ac];refine ag (.bool true) rfl (fun w' a=>by go_simp) ?_;simp only [Act.put,aa,ab,ac];refine al (.pointer (some ⟨b,0,none⟩)) rfl (fun w' a=>by go_simp) ?_;simp only [Act.put,aa,ab,ac];refine al (.pointer (some ⟨b,0,none⟩)) rfl (fun w' a=>by go_simp) ?_;simp only [Act.put,aa,ab,ac];refine al (.pointer (some ⟨b,8,none⟩)) rfl (fun w' a=>by go_simp) ?_;simp only [Act.put,aa,ab,ac];refine al (.pointer (some ⟨m,0,none⟩)) rfl (fun w' a=>by have k8:=(j.out w' a).2.1;go_simp) ?_;simp only [Act.put,aa,ab,ac];refine cS (.int .i64 fr) 183 #[.pointer (some ⟨m,0,none⟩)] rfl (fun w'=>by go_simp) (fun w' a=>l.out w' a) ?_;simp only [Act.put,aa,ab,ac];refine al (.pointer (some ⟨b,0,none⟩)) rfl (fun w' a=>by go_simp) ?_;simp only [Act.put,aa,ab,ac];refine al (.pointer (some ⟨b,0,none⟩)) rfl (fun w' a=>by go_simp) ?_;simp only [Act.put,aa,ab,ac];refine al (.pointer (some ⟨b,8,none⟩)) rfl (fun w' a=>by go_simp) ?_;simp only [Act.put,aa,ab,ac];refine al (.pointer (some ⟨m,0,none⟩)) rfl (fun w' a=>by have k8:=(j.out w' a).2.1;go_simp) ?_;simp only [Act.put,aa,ab,ac];refine cS (.int .i64 Us) 78 #[.pointer (some ⟨m,0,none⟩)] rfl (fun w'=>by go_simp) (fun w' a=>v.out w' a) ?_;simp only [Act.put,aa,ab,ac];refine al (.int .i64 ((fr:Int)-(Us:Int))) rfl (fun w' a=>by go_simp) ?_;simp only [Act.put,aa,ab,ac];refine al (.int .i64 fd) rfl (fun w' a=>by go_simp) ?_;simp only [Act.put,aa,ab,ac];refine al (.pointer (some ⟨b,0,none⟩)) rfl (fun w' a=>by go_simp) ?_;simp only [Act.put,aa,ab,ac];refine al (.pointer (some ⟨b,0,none⟩)) rfl (fun w' a=>by go_simp) ?_;simp only [Act.put,aa,ab,ac];refine al (.pointer (some ⟨b,0,none⟩)) rfl (fun w' a=>by go_simp) ?_;simp only [Act.put,aa,ab,ac];refine al (kF c) rfl (fun w' a=>rE rfl b 0 rfl _ _ (s.out w' a) rfl rfl O.out) ?_;simp only [Act.put,aa,ab,ac];refine cS (.int .i64 r) 182 #[kF c] rfl (fun w'=>by go_simp) (fun w' a=>t.out w' a) ?_;simp only [Act.put,aa,ab,ac];refine al (.int .i64 ((fd:Int)+(r:Int))) rfl (fun w' a=>by go_simp) ?_;simp only [Act.put,aa,ab,ac];refine wpQuiet_nil ?_;rintro w2 d;have H:=ae (K.out w2 d);clear j s l v t d K;go_wp2;go_end0;exact H.out
end
def Ac (c:Cf) (m Ba top lo y n:Nat) (L:Nat->Nat) (S:Nat->Prop) (w:World):Prop:=
 ∃cc s hf hg Mv fr ah Us,qJ cc s hf hg c.Fs top∧kJ cc s hf hg c.Fs top Mv n fr ah Us L S w∧cc.y=y∧cc.m=m∧s.to_=Ba∧s.P=c.Pg∧s.R=c.Wd/c.Pg∧s.W=c.W∧s.B=c.block∧s.Ah=c.Ah∧s.to_+s.N<=lo
def Ad (c:Cf) (m Ba top lo:Nat) (L:Nat->Nat) (S:Nat->Prop) (w:World):Option Nat->Nat->Prop
 |none,_=>True
 |some y,n=>Ac c m Ba top lo y n L S w
def yB (b:Nat) (c:Cf) (A:AG) (rs:List Nat) (u sz n:Nat) (T:Nat->Prop) (w:World) (a:Nat):Prop:=
 ∃h φ L Ba ub cy ns bs S,h.b=b∧eT (fun _=>True) h c A rs φ L Ba (u+sz) ub cy n ns bs S w∧(∀k,T k↔eZ h ub S k)∧(n=0->cy=none)∧aO A rs φ L Ba (Ba+u)∧a=Ba+u∧Ad c h.m Ba (Ba+(u+sz)) (Ba+u) L S w cy n
section
variable {b u n:Nat} {c:Cf} {A:AG} {rs:List Nat} {T:Nat->Prop} {w w':World}
theorem bM.q0 (j:bM b c A rs u 0 T w) (q:Nat->Prop):zm q b c A rs u 0 T w:=by
 obtain ⟨h,φ,L,Ba,l,m,k,g,S,rfl,a,i,f⟩:=j;obtain rfl:=f rfl;exact ⟨h,φ,L,Ba,l,none,k,g,S,rfl,⟨a.cok,a.blk,a.roots,a.reg,a.tab,a.laid,a.Sl,a.fits,a.half,a.mem,a.d,a.e⟩,i,f⟩
theorem tD {Ba Pg top sz:Nat} {mp:Nat->Bool} (hp:1<=Pg) (r:Ba% Pg=0) (o:1<=sz) (m:Ba<=top) (h:∀q,mp q=(decide (Ba<=q*Pg)&&decide (q*Pg<top))) (q:Nat):(mp q||(decide (top/Pg<=q)&&decide (q<=(top+sz-1)/Pg)))=(decide (Ba<=q*Pg)&&decide (q*Pg<top+sz)):=by
 have g:=rC (P:=Pg) (a:=top) (b:=top+sz) (q:=q) hp (by omega);have p:Ba=Ba/Pg*Pg:=by have:=Nat.div_add_mod Ba Pg;rw [Nat.mul_comm];omega
 rw [h,Bool.eq_iff_iff];simp only [Bool.and_eq_true,Bool.or_eq_true,decide_eq_true_eq];rw [g];constructor
 ·rintro (⟨d,e⟩|⟨k,d,e,f⟩)
  ·exact ⟨d,by omega⟩
  ·have i:=Nat.div_le_div_right (c:=Pg) (show Ba<=k by omega);have j:=Nat.mul_le_mul_right Pg i;have l:=Nat.div_mul_le_self k Pg;rw [f] at j l;exact ⟨by omega,by omega⟩
 ·rintro ⟨d,e⟩;by_cases f:q*Pg<top
  ·exact .inl ⟨d,f⟩
  ·exact .inr ⟨q*Pg,by omega,e,Nat.mul_div_cancel _ (by omega)⟩
theorem xf {Ba top Pg R N:Nat} {mp:Nat->Bool} (hp:1<=Pg) (g:Ba% Pg=0) (h:top<=Ba+R*Pg) (d:∀q,mp q=(decide (Ba<=q*Pg)&&decide (q*Pg<top))):cnt mp 0 N<=R:=by
 have f:Ba=Ba/Pg*Pg:=by have:=Nat.div_add_mod Ba Pg;rw [Nat.mul_comm];omega
 refine eK (a:=Ba/Pg) (fun i _ e=> ?_);rw [d,Bool.and_eq_true,decide_eq_true_eq,decide_eq_true_eq] at e;refine ⟨Nat.div_le_of_le_mul (by rw [Nat.mul_comm];exact e.1),?_⟩;refine Nat.lt_of_mul_lt_mul_right (a:=Pg) ?_;rw [Nat.add_mul,<-f];omega
theorem rZ {mp:Nat->Bool} {top sz Pg:Nat} (hp:1<=Pg) (h:1<=sz):cnt (bX mp) (top/Pg) ((top+sz-1)/Pg+1)<=sz/Pg+2:=by
 have i:=be (bX mp) (top/Pg) ((top+sz-1)/Pg+1);have j:(top+sz-1)/Pg<=top/Pg+(sz/Pg+1):=by
  have d:=Nat.div_add_mod top Pg;have e:=Nat.div_add_mod sz Pg;have f:=Nat.mod_lt top (show Pg>0 by omega);have g:=Nat.mod_lt sz (show Pg>0 by omega);rw [<-Nat.lt_succ_iff,Nat.div_lt_iff_lt_mul (by omega)];have a:(top/Pg+(sz/Pg+1)).succ*Pg=Pg*(top/Pg)+Pg*(sz/Pg)+Pg+Pg:=by
   rw [Nat.succ_mul,Nat.add_mul,Nat.add_mul,Nat.one_mul,Nat.mul_comm (top/Pg),Nat.mul_comm (sz/Pg)];omega
  rw [a];omega
 generalize (top+sz-1)/Pg=X at*;generalize top/Pg=Y at*;generalize sz/Pg=Z at*;omega
theorem cT.wordsq (a:cT c):c.Wd/c.Pg*c.Pg=c.Wd:=by have:=Nat.div_add_mod c.Wd c.Pg;have:=a.wp;rw [Nat.mul_comm];omega
theorem eT.ran {q t:Nat->Prop} {h:Hp} {φ L L':Nat->Nat} {Ba i g r:Nat} {j:Option Nat} {s o:Int} {S S':Nat->Prop} {l:AG} (a:eT q h c A rs φ L Ba u i j n s o S w) (hf:Fr (fun k=>S k∨k=i) w w') (E:∀k,S' k->S k∨w.heap.size<=k) (D:bR w' i h.m Ba (Ba+g) (Ba+c.Wd)) (H:oS c h.m Ba (Ba+g) t L' S' w' j r) (C:aO l rs φ L' Ba (Ba+g)) (G:g<=c.Wd):eT t h c l rs φ L' Ba g i j r s o S' w':=by
 have d:=a.d;have f:=a.lt;have F:aN<w.heap.size:=aD (a.tab 0 0 rfl);obtain ⟨I,J,v,x,y,K,M,z,N⟩:=id a.e;refine ⟨a.cok,aj.frame a.blk hf (fun h=>h.elim (fun h=>(d _ h).1 rfl) v),a.roots.frame hf (fun h=>h.elim (fun h=>(d _ h).2.1 rfl) x) (fun h=>h.elim (fun h=>(d _ h).2.2.1 rfl) y),D,ak a.tab hf (fun h=>h.elim (fun h=>(d _ h).2.2.2.2 rfl) (Ne.symm z)),C,a.Sl,G,a.half,H,fun k B=> ?_,a.e⟩;rcases E k B with p|p
 ·exact d k p
 ·have O:=f _ (.inr (.inl rfl));have P:=f _ (.inr (.inr (.inl rfl)));have Q:=f _ (.inr (.inr (.inr (.inl rfl))));have R:=f _ (.inr (.inr (.inr (.inr rfl))));omega
theorem dX.mem2 {c:Cy} {s:bh} {hf hg:Nat->Nat} {Fs Us Hg g q:Nat} {r l:Nat->Prop} {mp t:Nat->Bool} {M z:Nat->Nat} {C:List Bool} {E:Nat->Option Nat} {n left fr D x:Nat} (h:dX c s hf hg Fs Us Hg r mp M C E n left fr D w) (I:bn w' c.m l s.P s.W Fs g q t z) (a:Fr (fun k=>r k∨k=x) w w') (j:∀k,l k->r k∨w.heap.size<=k) (v:¬c.has x) (y:x≠aN):dX c s hf hg Fs g q l t z C E n left fr D w':=by
 obtain ⟨K,f,L,N⟩:=h.shp;have p:∀k,c.has k->¬(r k∨k=x):=fun k o j=>j.elim (fun j=>(h.dm k j).1 o) (fun e=>v (e▸o))
 have J:¬(r aN∨aN=x):=fun j=>j.elim (fun j=>(h.dm _ j).2 rfl) (Ne.symm y)
 exact ⟨h.blk.frame a (p _ (.inl rfl)),I,h.plan.frame a (fun i H=>by
   by_cases v:c.lo<=i∧i<c.hi
   ·exact absurd H (p i (.inr (.inr (.inr (.inr (.inr v))))))
   ·omega),h.ext.frame a (fun k o=>p k (.inr (.inr (.inr (.inr (.inl o)))))),ak h.tab a J,h.mv.frame a (p _ (.inr (.inl rfl))),h.wds.frame a (p _ (.inr (.inr (.inl rfl)))),⟨K,f,L.frame a (p _ (.inr (.inr (.inr (.inl rfl))))),N⟩,
  by have:=h.hib;have:=a.size;omega,fun k o=>by
   rcases j k o with F|F
   ·exact h.dm k F
   ·exact ⟨fun G=>by have:=h.lt k G;omega,fun e=>by have:=h.tabl;omega⟩,h.d,h.B,h.to_,h.len⟩
def zx (b:Nat) (c:Cf) (A:AG) (rs:List Nat) (u sz n:Nat) (T:Nat->Prop) (w:World) (a:Nat) (e:Ending) (w':World):Prop:=e= .returned (.tuple #[.int .i64 a,.int .i64 0])∧∃T',yB b c A rs u sz n T' w' a∧Fr T w w'∧∀k,T' k->T k∨w.heap.size<=k
theorem yS {sz:Nat} (hq:zm (fun Us=>Us+(sz/c.Pg+2)<=c.Wd/c.Pg) b c A rs u n T w) (t:1<=sz) (D:u+sz<=c.Wd):∃r a,w.cell? ⟨b,10,none⟩=some (.pointer (some ⟨r,0,none⟩))∧Calls Tryz.prog 124 #[.pointer (some ⟨r,0,none⟩),.int .i64 sz] w (zx b c A rs u sz n T w a):=by
 obtain ⟨h,φ,L,Ba,r,cy,ns,bs,S,rfl,g,V,ax⟩:=hq;have a6:=g.half.le;have a9:=g.half.top;have J:=g.cok.page2;have o:=g.half.mod g.cok;have a4:=g.cok.wordsq;have ap:=g.laid.wide (hi':=Ba+(u+sz)) (by omega);have I:∀k,S k->k≠r:=fun k f=>(g.d k f).2.2.2.1
 refine ⟨r,Ba+u,aj.cell g.blk 10 rfl,?_⟩;have X:∀k,S k∨k=r->T k:=fun k f=>(V k).2 (f.elim .inl (fun e=> .inr (.inr (.inr (.inr e)))))
 cases cy with
 |none=>
  obtain ⟨a0,Us,Hg,mp,⟨M,hm,av⟩,aq⟩:=id g.mem;have F:=tD (sz:=sz) J o t (Nat.le_add_right Ba u) aq;have a3:=hm.at.2.2.2.2.2.2.2.1;have hQ:(Ba+u+sz-1)/c.Pg+1<=c.W/c.Pg:=by
   rw [Nat.succ_le_iff,Nat.div_lt_iff_lt_mul (by omega)];have:=g.cok.Wp;have h3:=Nat.div_add_mod c.W c.Pg;rw [Nat.mul_comm] at h3;omega
  have a8:=xe mp (fun q=>mp q||(decide ((Ba+u)/c.Pg<=q)&&decide (q<(Ba+u+sz-1)/c.Pg+1))) (e:=(Ba+u+sz-1)/c.Pg+1) (Q:=c.W/c.Pg) (Nat.le_succ_of_le (Nat.div_le_div_right (c:=c.Pg) (show Ba+u<=Ba+u+sz-1 by omega))) hQ (fun q=>rfl);have a5:=xf (R:=c.Wd/c.Pg) (N:=c.W/c.Pg) (mp:=fun q=>mp q||(decide ((Ba+u)/c.Pg<=q)&&decide (q<(Ba+u+sz-1)/c.Pg+1))) J o (top:=Ba+u+sz) (by omega) (fun q=>by
   have:=F q;show (mp q||(decide ((Ba+u)/c.Pg<=q)&&decide (q<(Ba+u+sz-1)/c.Pg+1)))=_
   rw [<-this];congr 2;rw [decide_eq_decide];omega)
  have ad:c.Wd/c.Pg<=c.Fs:=Nat.le_add_right _ _;refine (kX g.reg hm (fun h=>I _ h rfl) sz t (by omega) (by omega) (by show Us+cnt (fun q=> !mp q) _ _<=_;omega)).mono ?_;rintro e w' ⟨rfl,hr,S',H,j,z,g1,g2,g3,O,U⟩;have m:∀x,Reach A.gr rs x->∀i,i<A.sz x->(if j ((φ x+i)/c.Pg)=true then z (φ x+i) else L (φ x+i))=L (φ x+i):=fun x hx i hi=>by
   have h5:=g.laid.lies x hx;obtain ⟨d1,d2⟩:=j5 aq o (show Ba+u<=c.W by omega) (φ x+i) (by omega) (by omega);by_cases h6:j ((φ x+i)/c.Pg)=true
   ·rw [if_pos h6,g3 _ d1 d2,av _ ⟨d1,d2⟩]
   ·rw [if_neg h6]
  refine ⟨rfl,eZ h r S',⟨h,φ,fun k=>if j (k/c.Pg)=true then z k else L k,Ba,r,none,ns,bs,S',rfl,g.ran O U (by rw [<-Nat.add_assoc];exact hr) ⟨a0,_,H,j,⟨z,g1,fun a ha=>(if_pos ha.2).symm⟩,fun q=> ?_⟩ (ap.congr2 ?_) D,fun k=>Iff.rfl,fun _=>rfl,g.laid.congr2 ?_,rfl,trivial⟩,O.mono (fun k f=> .inl (X k f)),fun k f=> ?_⟩
  ·rw [g2,F q,Nat.add_assoc]
  ·exact m
  ·exact m
  ·rcases f with f|f
   ·exact (U k f).imp (fun h=>(V k).2 (.inl h)) id
   ·exact .inl ((V k).2 (.inr f))
 |some y=>
  obtain ⟨f,C,s,v,hg,Mv,fr,ah,p,⟨Us,a3,Hg,Sm,mp,M,fw,kk,p1,p2,p3,p4,p5⟩,r1,r2,r3,G,r5,K,r7,r8⟩:=id g.mem;have hm:=p1.mem;rw [r2,G,K] at hm;have a7:=rZ (mp:=mp) (top:=Ba+u) J t;have ad:c.Wd/c.Pg<=c.Fs:=Nat.le_add_right _ _;refine (kX g.reg hm (fun h=>I _ ((p5 _).2 (.inl h)) rfl) sz t (by omega) (by omega) (by omega)).mono ?_;rintro e w' ⟨rfl,hr,l,H,j,z,g1,g2,g3,O,U⟩;have m:∀x,Reach A.gr rs x->∀i,i<A.sz x->(if Ba+u<=φ x+i then z (φ x+i) else L (φ x+i))=L (φ x+i):=fun x hx i hi=>by
   have h5:=g.laid.lies x hx;exact if_neg (by omega)
  have am:Fr (fun k=>S k∨k=r) w w':=O.mono (fun k f=> .inl (f.imp (fun h=>(p5 k).2 (.inl h)) id));have hs:∀k,(l k∨C.has k)->S k∨w.heap.size<=k:=fun k f=>by
   rcases f with f|f
   ·exact (U k f).imp (fun h=>(p5 k).2 (.inl h)) id
   ·exact .inl ((p5 k).2 (.inr f))
  have a2:=g1.at.2.2.2.2.2.2.2.1;have a1:Ba+(u+sz)<=s.to_+s.R*s.P:=by rw [r3,G,r5,a4];omega
  have E:=p.low1;have Z:qJ C s v hg c.Fs (Ba+(u+sz)):=⟨p.ok,p.hd,a1,by omega,p.fr1,p.to_,p.nb,p.ah,p.N,p.B,p.a16⟩;have Y:kJ C s v hg c.Fs (Ba+(u+sz)) Mv n fr ah (Us+cnt (bX mp) ((Ba+u)/c.Pg) ((Ba+u+sz-1)/c.Pg+1)) (fun k=>if Ba+u<=k then z k else L k) (fun k=>l k∨C.has k) w':=by
   refine ⟨H,l,j,z,fw,kk,?_,?_,p3,p4,fun k=>Iff.rfl⟩
   ·exact p1.mem2 (by rw [r2,G,K];exact g1) O U (fun h=>I _ ((p5 _).2 (.inr h)) rfl) g.e.2.2.2.2.2.2.2.1
   ·rw [<-Nat.add_assoc];refine p2.grow p.ok t E (by omega) (by rw [G];exact g2) (fun k f=>if_neg (by omega)) (fun k t h2 _=> ?_) (fun k t h2=>(if_pos t).symm) ?_
    ·rw [G] at h2;rw [K] at t;exact g3 k t h2
    ·rw [G,K,r5,<-a2];omega
  refine ⟨rfl,eZ h r (fun k=>l k∨C.has k),⟨h,φ,fun k=>if Ba+u<=k then z k else L k,Ba,r,some y,ns,bs,fun k=>l k∨C.has k,rfl,g.ran am hs (by rw [<-Nat.add_assoc];exact hr) ⟨f,C,s,v,hg,Mv,fr,ah,Z,⟨_,trivial,Y⟩,r1,r2,r3,G,r5,K,r7,r8⟩ (ap.congr2 m) D,fun k=>Iff.rfl,ax,g.laid.congr2 m,rfl,⟨C,s,v,hg,Mv,fr,ah,_,Z,Y,r1,r2,r3,G,r5,K,r7,r8,E⟩⟩,am.mono (fun k f=> .inl (X k f)),fun k f=> ?_⟩
  ·rcases f with f|f
   ·exact (hs k f).imp (fun h=>(V k).2 (.inl h)) id
   ·exact .inl ((V k).2 (.inr f))
end
def mU (b:Nat) (c:Cf) (A:AG) (rs l0:List Nat) (sz:Nat) (T:Nat->Prop) (w:World) (e:Ending) (w':World):Prop:=
 (A.Wd l0+sz<=c.Wd∧∃a u n T',e= .returned (.tuple #[.int .i64 ((a:Nat):Int),.int .i64 0])∧yB b c A rs u sz n T' w' a∧Fr T w w'∧∀k,T' k->T k∨w.heap.size<=k)∨
 (c.Wd<A.Wd l0+sz∧e= .returned (.tuple #[.int .i64 0,.int .i64 21])∧∃u n T',bM b c A rs u n T' w'∧Fr T w w'∧∀k,T' k->T k∨w.heap.size<=k)
section
variable {b u n sz:Nat} {c:Cf} {A:AG} {rs l0:List Nat} {T:Nat->Prop} {w w':World}
theorem yR (i:bM b c A rs u n T w) (f:1<=sz) (o:c.Wd<u+sz):∃d,w.cell? ⟨b,10,none⟩=some (.pointer (some ⟨d,0,none⟩))∧Calls Tryz.prog 124 #[.pointer (some ⟨d,0,none⟩),.int .i64 sz] w fun e w'=>e= .returned (.tuple #[.int .i64 0,.int .i64 21])∧Fr (fun _=>False) w w':=by
 obtain ⟨h,φ,L,Ba,d,l,p,k,S,rfl,a,m,g⟩:=i;have j:=a.half.top;have:=a.cok.W5;have hf:=a.fits;exact ⟨d,aj.cell a.blk 10 rfl,rV a.reg sz f (by omega) (by omega) (by omega)⟩
theorem zm.toI {q:Nat->Prop} (r:zm q b c A rs u n T w):bM b c A rs u n T w:=by
 obtain ⟨h,φ,L,Ba,B,i,t,l,S,rfl,a,o,f⟩:=r;refine ⟨h,φ,L,Ba,B,i,t,l,S,rfl,⟨a.cok,a.blk,a.roots,a.reg,a.tab,a.laid,a.Sl,a.fits,a.half,?_,a.d,a.e⟩,o,f⟩
 cases i with
 |none=>exact a.mem
 |some y=>
  obtain ⟨p,m,s,g,hg,j,fr,k,v,⟨Us,_,x⟩,z⟩:=a.mem;exact ⟨p,m,s,g,hg,j,fr,k,v,⟨Us,trivial,x⟩,z⟩
theorem bM.words_le (d:bM b c A rs u n T w) (e:aJ A rs l0):A.Wd l0<=u:=by
 obtain ⟨h,φ,L,Ba,l,i,k,g,S,rfl,f,j,a⟩:=d;have:=f.laid.words_le (by omega) e;omega
theorem bM.lives (d:bM b c A rs u n T w):∃l,aJ A rs l:=by
 obtain ⟨h,φ,L,Ba,k,g,j,f,S,rfl,e,i,a⟩:=d;exact e.laid.some
def wQ (b:Nat) (c:Cf) (A:AG) (rs l0:List Nat) (sz:Nat) (T:Nat->Prop) (w:World) (wr:World):Prop:=
 ∃ub a,wr.cell? ⟨b,10,none⟩=some (.pointer (some ⟨ub,0,none⟩))∧Calls Tryz.prog 124 #[.pointer (some ⟨ub,0,none⟩),.int .i64 sz] wr fun e w'=>e= .returned (.tuple #[.int .i64 ((a:Nat):Int),.int .i64 0])∧mU b c A rs l0 sz T w e w'
theorem rp {q:Nat->Prop} (p:aJ A rs l0) (g:zm (fun Us=>Us+(sz/c.Pg+2)<=c.Wd/c.Pg) b c A rs u n T w) (m:1<=sz) (d:u+sz<=c.Wd) {f:Nat->Prop} {w0:World} (hf:Fr f w0 w) (i:∀k,T k->f k∨w0.heap.size<=k):wQ b c A rs l0 sz f w0 w:=by
 obtain ⟨v,a,g1,l⟩:=yS g m d;refine ⟨v,a,g1,l.mono ?_⟩;rintro e w' ⟨rfl,j,r,s,t⟩;have x:=hf.size;have:=g.toI.words_le p;exact ⟨rfl,.inl ⟨by omega,a,u,n,j,rfl,r,hf.trans s i,fun k o=>(t k o).elim (i k) (fun h=> .inr (by omega))⟩⟩
theorem uX (V:bM b c A rs u n T w) (J:aJ A rs l0) (M:1<=sz) (R:sz<=1024):Calls Tryz.prog 53 #[b,.int .i64 sz] w (mU b c A rs l0 sz T w):=by
 have G:=ae (nU V sz R);have x:Hid (∀u n w1,eE b c A rs u n T w w1->Calls Tryz.prog 70 #[b] w1 fun e w2=>e= .returned (.tuple #[])∧eE b c A rs u 0 T w w2):=by
  show∀u n w1,_
  rintro u n w1 ⟨s,g1,i,j⟩;refine (gy g1).mono ?_;rintro e w2 ⟨rfl,K,B,I,L⟩;have W:=i.size;exact ⟨rfl,K,B,i.trans I j,fun k N=>(L k N).elim (j k) (fun h=> .inr (by omega))⟩
 have v:Hid (∀u n w1,eE b c A rs u n T w w1->Calls Tryz.prog 20 #[b] w1 fun e w2=>e= .returned (.tuple #[])∧eE b c A rs (A.Wd l0) 0 T w w2):=by
  show∀u n w1,_
  rintro u n w1 ⟨s,g1,i,j⟩;refine (fx g1).mono ?_;rintro e w2 ⟨rfl,l,K,O,B,I,L⟩;have W:=i.size;rw [O.Wd J] at B;exact ⟨rfl,K,B,i.trans I j,fun k N=>(L k N).elim (j k) (fun h=> .inr (by omega))⟩
 have o:Hid (∀u n w1,c.Wd<u+sz->eE b c A rs u n T w w1->∃C,w1.cell? ⟨b,10,none⟩=some (.pointer (some ⟨C,0,none⟩))∧Calls Tryz.prog 124 #[.pointer (some ⟨C,0,none⟩),.int .i64 sz] w1 fun e w'=>e= .returned (.tuple #[.int .i64 0,.int .i64 21])∧eE b c A rs u n T w w'):=by
  show∀u n w1,_
  rintro u n w1 P ⟨s,g1,i,j⟩;obtain ⟨C,B,I⟩:=yR g1 M P;refine ⟨C,B,I.mono ?_⟩;rintro e w' ⟨rfl,hf⟩;exact ⟨rfl,s,g1.keep hf,i.trans hf (fun _ h=>h.elim),j⟩
 have z:Hid (∀u e w1,mT (sz/c.Pg+2) b c A rs u T w e w1->e= .returned (.tuple #[])∧(u+sz<=c.Wd->wQ b c A rs l0 sz T w w1)∧∃n,eE b c A rs u n T w w1):=by
  show∀u e w1,_
  rintro u e w1 ⟨rfl,n,s,g1,i,j⟩;exact ⟨rfl,fun hf=>rp (q:=fun _=>True) J g1 M hf i j,n,s,g1.toI,i,j⟩
 have p:Hid (∀w1,eE b c A rs (A.Wd l0) 0 T w w1->A.Wd l0+sz<=c.Wd->wQ b c A rs l0 sz T w w1):=by
  show∀w1,_
  rintro w1 ⟨s,g1,i,j⟩ hf;exact rp (q:=fun _=>True) J (g1.q0 _) M hf i j
 have r:Hid (∀w1,c.Wd<A.Wd l0+sz->eE b c A rs (A.Wd l0) 0 T w w1->mU b c A rs l0 sz T w (.returned (.tuple #[.int .i64 0,.int .i64 21])) w1):=by
  show∀w1,_
  rintro w1 P ⟨s,g1,i,j⟩;exact .inr ⟨P,rfl,_,_,s,g1,i,j⟩
 clear V J;unfold wQ at z p;generalize (mU b c A rs l0 sz T w)=Q at*
 go_enter Tryz.func53,Tryz.ntmps53
 go_wp2_with fail
 refine (G.out).mono ?_;intro e w1 hp;obtain ⟨rfl,S,X,hf⟩:=z.out _ _ _ hp;clear hp G z;by_cases d:u+sz<=c.Wd
 ·obtain ⟨C,a,f,m⟩:=S d;have g:=ae m;clear S m hf x v o p r d;go_wp2_with fail
  refine (g.out).mono ?_;rintro e w2 ⟨rfl,t⟩;have H:=ae t;clear t g f;go_wp2;exact H.out
 ·obtain ⟨C,f,m⟩:=o.out u X w1 (by omega) hf;have g:=ae m;have y:=ae d;clear S m hf d;go_wp2_with fail
  refine (g.out).mono ?_;rintro e w2 ⟨rfl,hf⟩;have E:=ae (x.out _ _ w2 hf);clear g hf x f;go_wp2_with fail
  refine (E.out).mono ?_;rintro e w3 ⟨rfl,hf⟩;obtain ⟨Y,f,m⟩:=o.out u 0 w3 (by have:=y.out;omega) hf;have g:=ae m;clear E hf m;go_wp2_with fail
  refine (g.out).mono ?_;rintro e w4 ⟨rfl,hf⟩;have D:=ae (v.out _ _ w4 hf);clear g hf v f;go_wp2_with fail
  refine (D.out).mono ?_;rintro e w5 ⟨rfl,hf⟩;clear D;by_cases d:A.Wd l0+sz<=c.Wd
  ·obtain ⟨U,Z,f,m⟩:=p.out w5 hf d;have g:=ae m;clear m hf o p r d y;go_wp2_with fail
   refine (g.out).mono ?_;rintro e w6 ⟨rfl,t⟩;have H:=ae t;clear t g f;go_wp2;exact H.out
  ·obtain ⟨U,f,m⟩:=o.out _ 0 w5 (by omega) hf;have g:=ae m;have F:=ae (fun w6 h=>r.out w6 (by omega) h);clear m hf o p r d y;go_wp2_with fail
   refine (g.out).mono ?_;rintro e w6 ⟨rfl,t⟩;have H:=ae (F.out w6 t);clear t g f F;go_wp2;exact H.out
end
end Go.Proofs.YthahbijbpinneaaGreatDoor
