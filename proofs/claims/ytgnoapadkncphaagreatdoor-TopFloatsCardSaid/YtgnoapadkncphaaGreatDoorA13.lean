import Derived.Test.YtgnoapadkncphaaGreatDoorA0
import Derived.Test.YtgnoapadkncphaaGreatDoorA3
import Derived.Test.YtgnoapadkncphaaGreatDoorA8
import Derived.Test.YtgnoapadkncphaaGreatDoorA9
import Derived.Test.YtgnoapadkncphaaGreatDoorA10
import Derived.Test.YtgnoapadkncphaaGreatDoorA12
import Derived.Deep.RegionHeld
import Derived.Deep.Slices
import Derived.ProofKit
set_option maxRecDepth 100000
set_option maxHeartbeats 8000000
set_option linter.all false
namespace Go.Proofs.YtgnoapadkncphaaGreatDoor
open Go.RowKit Go.Proofs.Tryz
def Cu(c:Cf)(A:AG)(w:World)(e:Ending)(w':World):Prop:=∃b T,e= .returned (.tuple #[.pointer (some ⟨b,0,none⟩),(0:Int)])/\eF b c A (List.replicate c.Sl 0) 0 0 T w'/\(∀k,T k->w.heap.size<=k)/\J7 w w'
section
variable{c:Cf}{A:AG}{w:World}
theorem lQ{n z:Nat}:¬Reach A.gr (List.replicate n 0) z:=by
 intro h
 induction h with
 |root h1 h2=>grind
 |step _ _ _ ih=>exact ih
theorem tz{d m f i j:Nat}{S:Nat->Prop}{w4 w5 w6 g:World}(n:iC c)(l:ee w)(I:∀k,S k->w4.heap.size<=k)(H:w.heap.size<=d)(o:d<w4.heap.size)(v:∀k,S k->k<w5.heap.size)(r:w5.heap.size<=f)(s:w5.heap.size<=i)(C:f<w6.heap.size)(D:i<w6.heap.size)(G:w6.heap.size<=j)(p:w4.heap.size<=w5.heap.size)(t:w5.heap.size<=w6.heap.size)
  (B:dQ g m S c.Pg c.W c.Fs 0 0 (fun _=>false) (fun _=>0)) (J:cz g f i (List.replicate c.Sl 0)) (F:eW g j m c.Pg c.Pg (c.Pg+c.Wd)) (u:nS g d c m f j none 0 0) (hf:J7 w g):Cu c A w (.returned (.tuple #[d,(0:Int)])) g:=by
 have E:ch<w.heap.size:=bu (l 0 0 rfl);refine ⟨d,lC ⟨d,m,f,i⟩ j S,rfl,⟨⟨d,m,f,i⟩,fun _=>0,fun _=>0,c.Pg,j,none,0,0,S,rfl,⟨n,u,by simp_all,F,aE l hf id,⟨rfl,n.Qp,fun x b=>absurd b lQ,fun x y b=>absurd b lQ,fun x b=>absurd b lQ,fun x b=>absurd b lQ,fun x b=>absurd b lQ⟩,bB,ao _,.inl rfl,⟨rfl,0,0,fun _=>false,⟨_,B,fun a z=>absurd z.2 bD⟩,fun q=> ?_⟩,fun k e=> ?_,?_⟩,fun k=>dO,fun _=>rfl⟩,fun k e=> ?_,hf⟩
 ·grind
 ·grind
 ·grind
 ·rcases e with e|e|e|e|e
  ·grind
  ·grind
  ·grind
  ·grind
  ·omega
theorem zW(hc:iC c)(hT:ee w)(A:AG):Calls prog 15 #[sy c] w (Cu c A w):=by
 obtain ⟨W1,a5⟩:∃W1,w.alloc (.cells #[((c.kind:Int):Int),((c.Pg:Int):Int),((c.block:Int):Int),((c.Wd:Int):Int),((c.Sl:Int):Int),((c.stack:Int):Int),((c.Ah:Int):Int),.float .f64 c.Xb] 24)=W1:=⟨_,rfl⟩;have bc:J7 w W1:=by rw [<-a5];exact (Kb _ w).alloc _
 have n:ay W1 w.heap.size (Fo c) 24:=by rw [<-a5];exact ay.new w _ _
 have aR:=ae (yr hc W1);have aT:=ae (fun w1=>lV (c:=c) w1 hc.Zh hc.Qp hc.Yn hc.Yo hc.Xr);obtain ⟨k0,k1,k2,k3,k4,k5,k6,k7⟩:=rZ n;have HC:=ae hc;have bb:Hid ((prog.info? 24).map (·.size)=some 8):=by show _=_;kernel_rfl
 have HT:=ae hT;have a9:=ae bc;have aP:=ae n;have bj:=hc.Yu;have bk:=hc.Xr;clear bc n hT hc;unfold sy at aR aT ⊢;generalize hQ:(Cu c A w)=Q;have HQ:=ae hQ;clear hQ
 go_enter func15,ntmps15
 go_wp2_with fail
 refine aR.out.mono ?_;rintro e w2 ⟨rfl,aN⟩;obtain ⟨k0,k1,k2,k3,k4,k5,k6,k7⟩:=rZ (aP.out.frame aN id);have aO:=ae (aP.out.frame aN id);have aS:=ae (a9.out.trans aN J8);have bl:w.heap.size<w2.heap.size:=(aO.out).lt;have aG:=ae HC.out.W5;clear aR aN a5 a9 aP;obtain ⟨E,aI⟩:∃E,w2.alloc (.cells (#[((c.kind:Int):Int),((c.Pg:Int):Int),((c.block:Int):Int),((c.Wd:Int):Int),((c.Sl:Int):Int),((c.stack:Int):Int),((c.Ah:Int):Int),.float .f64 c.Xb,.pointer none,.pointer none,.pointer none,.pointer none,(0:Int),(0:Int)]) 57)=E:=⟨_,rfl⟩;have a7:J7 w2 E:=by rw [<-aI];exact (Kb _ w2).alloc _
 have a6:ay E w2.heap.size (Fo c++[.pointer none,.pointer none,.pointer none,.pointer none,.int .i64 0,.int .i64 0]) 57:=by rw [<-aI];exact ay.new w2 _ _
 have J:w2.heap.size<E.heap.size:=a6.lt;have O:=ae (fun w1 (hf:Fr (fun k=>k=w2.heap.size) E.drew w1)=>((aO.out.frame a7 id).drew).frame hf (fun e=>by omega));have az:=ae (fun w1 (hf:J7 E.drew w1)=>a6.drew.frame hf id);have aC:=ae (fun w1=>Gd c.W c.Pg c.Fs (by have:=HC.out.words4;have:=HC.out.Qp;have h9:1<=c.Wd/c.Pg:=(cA (by omega)).2 (by omega);unfold Cf.Fs;generalize c.Wd/c.Pg=X at*;omega) HC.out.Zi HC.out.Qu HC.out.Qp HC.out.Yu (by have:=aG.out;omega) aG.out.1 HC.out.Wp w1);have ba:=ae (aS.out.trans a7 J8);clear a6 a7;by_cases ar:c.kind=3
 ·have l:((c.kind:Int) !=3)=false:=by rw [ar];rfl
  have ao:(c.Pg:Int)+(c.Wd:Int)=(c.W:Int):=by unfold Cf.W;rw [if_pos ar];push_cast;omega
  have am:=ae ao;clear ao ar;go_wp2;rw [am.out];clear aI l;refine cR 13 12 (fun a I=>Fr (fun k=>k=w2.heap.size) a I) (fun a I=>J7 a I) [.c (.pointer (some ⟨w2.heap.size,0,none⟩)),.c (.int .i64 (c.W:Int)),.c (.pointer (some ⟨w.heap.size,1,none⟩)),.c (.int .i64 (c.Pg:Int)),.c (.agg #[((c.kind:Int):Int),((c.Pg:Int):Int),((c.block:Int):Int),((c.Wd:Int):Int),((c.Sl:Int):Int),((c.stack:Int):Int),((c.Ah:Int):Int),.float .f64 c.Xb]),.c (.int .i64 (c.Fs:Int)),.p (fun v w'=>∃m S,v=(.tuple #[.pointer (some ⟨m,0,none⟩),(0:Int)])/\dQ w' m S c.Pg c.W c.Fs 0 0 (fun _=>false) (fun _=>0)/\∀k,S k->E.heap.size<=k),.p (fun v w'=>∃m S,v=(.tuple #[.pointer (some ⟨m,0,none⟩),(0:Int)])/\dQ w' m S c.Pg c.W c.Fs 0 0 (fun _=>false) (fun _=>0)/\∀k,S k->E.heap.size<=k),.p (fun v w'=>∃m S,v= .pointer (some ⟨m,0,none⟩)/\dQ w' m S c.Pg c.W c.Fs 0 0 (fun _=>false) (fun _=>0)/\∀k,S k->E.heap.size<=k),.p (fun v _=>True),.c (.pointer (some ⟨w2.heap.size,0,none⟩)),.c (.pointer (some ⟨w2.heap.size,8,none⟩)),.p (fun v w'=>∃m S,(dQ w' m S c.Pg c.W c.Fs 0 0 (fun _=>false) (fun _=>0)/\∀k,S k->E.heap.size<=k)/\ay w' w2.heap.size (Fo c++[.pointer (some ⟨m,0,none⟩),.pointer none,.pointer none,.pointer none,.int .i64 0,.int .i64 0]) 57)] (fun j=>false) (by kernel_rfl) (fun _=>Kb _ _) (fun _ _ h=>h.mono J8) (fun _ _ _ f b=>f.trans b J8) (fun _ _ _ f b=>f.trans b J8) (fun _ _ _ f b=>(f.mono J8).trans b (fun _ h=> .inl h)) (fun _ _ h=>h.size) ⟨fun v w1 w2 h i=>let ⟨m,S,e,f,b⟩:=h;⟨m,S,e,f.Qb i,b⟩,fun v w1 w2 h i=>let ⟨m,S,e,f,b⟩:=h;⟨m,S,e,f.Qb i,b⟩,fun v w1 w2 h i=>let ⟨m,S,e,f,b⟩:=h;⟨m,S,e,f.Qb i,b⟩,fun _ _ _ h _=>h,fun v w1 w2 h i=>let ⟨m,S,⟨f,b⟩,Y⟩:=h;⟨m,S,⟨f.Qb i,b⟩,Y.frame i id⟩,trivial⟩ ⟨.inr (fun v w1 w2 h i=>let ⟨m,S,e,f,b⟩:=h;⟨m,S,e,f.frame i (fun k l e=>by have:=b k l;have:=J;omega),b⟩),.inr (fun v w1 w2 h i=>let ⟨m,S,e,f,b⟩:=h;⟨m,S,e,f.frame i (fun k l e=>by have:=b k l;have:=J;omega),b⟩),.inr (fun v w1 w2 h i=>let ⟨m,S,e,f,b⟩:=h;⟨m,S,e,f.frame i (fun k l e=>by have:=b k l;have:=J;omega),b⟩),.inr (fun _ _ _ h _=>h),.inl rfl,trivial⟩ ?_;intro F hF;simp only [il,PK.val,Kc,aa] at hF;subst hF;refine ⟨by
   refine ⟨?_,?_,?_,?_,?_,?_,?_,?_,?_,?_,?_,?_,?_,trivial⟩<;>intro vs w1 M u L hx
   all_goals try (apply oV;rotate_left;rfl;exact Kb _ _;go_simp;done)
   all_goals try (apply oV;rotate_left;rfl;exact Kb _ _;have r:=O.out w1 M;have k1:=r.cell 1 rfl;go_simp;done)
   ·have r:=O.out w1 M;refine aJ (.agg #[((c.kind:Int):Int),((c.Pg:Int):Int),((c.block:Int):Int),((c.Wd:Int):Int),((c.Sl:Int):Int),((c.stack:Int):Int),((c.Ah:Int):Int),.float .f64 c.Xb]) ?_ ⟨rfl,Kb _ _,fun h=>nomatch h⟩;exact eX rfl w.heap.size rfl 24 _ (0,0) _ r underlying24 rfl bb.out
   ·refine bh 47 #[.agg #[((c.kind:Int):Int),((c.Pg:Int):Int),((c.block:Int):Int),((c.Wd:Int):Int),((c.Sl:Int):Int),((c.stack:Int):Int),((c.Ah:Int):Int),.float .f64 c.Xb]] (by go_simp) ((aT.out w1).mono ?_);rintro e w5 ⟨rfl,hf⟩;exact ⟨_,rfl,rfl,hf,fun h=>nomatch h⟩
   ·have P:=u (by kernel_rfl);refine bh 46 #[((c.W:Int):Int),((c.Pg:Int):Int),((c.Fs:Int):Int)] (by go_simp) ((aC.out w1).mono ?_);rintro e w5 ⟨m,S,rfl,f,b,Y⟩;exact ⟨_,rfl,⟨m,S,rfl,f,fun k l=>aH P.size (b k l)⟩,Y,fun h=>nomatch h⟩
   ·have h6:=L 6 (by kernel_rfl);obtain ⟨m,S,G,q,o⟩:=h6;refine aJ (.tuple #[m,(0:Int)]) (by go_simp) ⟨⟨m,S,rfl,q,o⟩,Kb _ _,fun h=>nomatch h⟩
   ·have h7:=L 7 (by kernel_rfl);obtain ⟨m,S,G,q,o⟩:=h7;refine aJ (.pointer (some ⟨m,0,none⟩)) (by go_simp) ⟨⟨m,S,rfl,q,o⟩,Kb _ _,fun h=>nomatch h⟩
   ·have h7:=L 7 (by kernel_rfl);obtain ⟨m,S,G,q,o⟩:=h7;refine aJ (.int .i64 0) (by go_simp) ⟨trivial,Kb _ _,fun h=>nomatch h⟩
   ·have h8:=L 8 (by kernel_rfl);obtain ⟨m,S,G,q,o⟩:=h8;have P:=u (by kernel_rfl);have n:=az.out w1 P;have k8:=ay.cell n 8 rfl;have f8:=ay.free n 8;have g:=(Kb (fun k=>k=w2.heap.size) w1).setCell ⟨w2.heap.size,8,none⟩ (.inl rfl) (.pointer (some ⟨m,0,none⟩));refine fZ (w':=w1.setCell ⟨w2.heap.size,8,none⟩ (.pointer (some ⟨m,0,none⟩))) (by go_simp) ⟨⟨m,S,⟨q.frame g (fun k l e=>by have h9:k=w2.heap.size:=e;have:=o k l;have:=J;omega),o⟩,n.set 8 _⟩,g,fun h=>nomatch h⟩
   ,fun vs w1 M hp hx=> ?_⟩
  obtain ⟨g6,g7,g8,g9,U,_⟩:=hp;obtain ⟨m,S,⟨G,q⟩,o⟩:=U;clear g6 g7 g8 g9 hx;simp only [an,aB];have aq:Fr (fun k=>k=w2.heap.size) E w1:=((Kb (fun k=>k=w2.heap.size) E).drew).trans M (fun _ h=> .inl h);have z:=O.out w1 M;have k4:=z.cell 4 rfl;have ak:=ae (vn c.Sl HC.out.Ya HC.out.Zd w1);have H8:=ae (af G (af q (af o (af aq z))));clear G q o aq z M O az aC am k0 k1 k2 k3 k5 k6 k7;go_wp2_with fail
  refine ak.out.mono ?_;rintro e w5 ⟨rb,rg,rfl,r1,r2,r3,T⟩;have K:=H8.out.2.2.1.frame T id;have k9:=ay.cell K 9 rfl;have f9:=ay.free K 9;obtain ⟨W5,Z⟩:∃W5,w5.setCell ⟨w2.heap.size,9,none⟩ (.pointer (some ⟨rb,0,none⟩))=W5:=⟨_,rfl⟩;have g:Fr (fun k=>k=w2.heap.size) w5 W5:=by rw [<-Z];exact (Kb (fun k=>k=w2.heap.size) w5).setCell ⟨w2.heap.size,9,none⟩ (.inl rfl) _
  have ap:ay W5 w2.heap.size (Fo c++[.pointer (some ⟨m,0,none⟩),.pointer (some ⟨rb,0,none⟩),.pointer none,.pointer none,.int .i64 0,.int .i64 0]) 57:=by rw [<-Z];exact K.set 9 _
  obtain ⟨g1,g2,g3,g4,g5⟩:=H8.out;have N:=g4.size;have ag:=T.size;have ah:=g.size;have D:=(g1.Qb T).frame g (fun k l e=>by have h9:k=w2.heap.size:=e;have:=g2 k l;omega);have t:=r1.frame g (fun e=>by omega) (fun e=>by omega);have R:=(g5.frame T id).frame g (fun e=>by omega);have s:w2.heap.size<W5.heap.size:=by omega
  have x:=ae (fun w1 (hf:Fr (fun k=>k=w2.heap.size) W5.drew w1)=>R.drew.frame hf (fun e=>by omega));have y:=ae (fun w1 (hf:J7 W5.drew w1)=>ap.drew.frame hf id);have aj:=ae (fun w1 (hf:J7 W5.drew w1)=>uH (D.Qb (((Kb (fun _=>False) W5).drew).trans hf J8)) c.Pg (c.Pg+c.Wd) (by omega) (by have:=aG.out;omega));have av:((c.Pg+c.Wd:Nat):Int)=(c.Pg:Int)+(c.Wd:Int):=by push_cast;rfl
  have H9:=ae (af g1 (af g2 (af g4 (af r1 (af r2 (af r3 (af T (af g (af D (af t (af N (af ag ah))))))))))));clear g1 g2 g3 g4 g5 r1 r2 r3 T g D t N ag ah ap K R ak H8 k4;go_wp2;clear Z k9 f9;refine cR 19 18 (fun a I=>Fr (fun k=>k=w2.heap.size) a I) (fun a I=>J7 a I) [.c (.pointer (some ⟨w2.heap.size,0,none⟩)),.c (.pointer (some ⟨w2.heap.size,0,none⟩)),.c (.pointer (some ⟨w2.heap.size,0,none⟩)),.c (.pointer (some ⟨w2.heap.size,8,none⟩)),.c m,.c (.pointer (some ⟨w.heap.size,1,none⟩)),.c (.int .i64 (c.Pg:Int)),.c (.pointer (some ⟨w.heap.size,1,none⟩)),.c (.int .i64 (c.Pg:Int)),.c (.pointer (some ⟨w.heap.size,3,none⟩)),.c (.int .i64 (c.Wd:Int)),.c (.int .i64 ((c.Pg+c.Wd:Nat):Int)),.p (fun v w'=>∃d,v=(.tuple #[.pointer (some ⟨d,0,none⟩),(0:Int)])/\eW w' d m c.Pg c.Pg (c.Pg+c.Wd)/\W5.heap.size<=d),.p (fun v w'=>∃d,v=(.tuple #[.pointer (some ⟨d,0,none⟩),(0:Int)])/\eW w' d m c.Pg c.Pg (c.Pg+c.Wd)/\W5.heap.size<=d),.p (fun v w'=>∃d,v= .pointer (some ⟨d,0,none⟩)/\eW w' d m c.Pg c.Pg (c.Pg+c.Wd)/\W5.heap.size<=d),.p (fun v _=>True),.c (.pointer (some ⟨w2.heap.size,0,none⟩)),.c (.pointer (some ⟨w2.heap.size,10,none⟩)),.p (fun v w'=>∃d,(eW w' d m c.Pg c.Pg (c.Pg+c.Wd)/\W5.heap.size<=d)/\nS w' w2.heap.size c m rb d none 0 0)] (fun j=>false) (by kernel_rfl) (fun _=>Kb _ _) (fun _ _ h=>h.mono J8) (fun _ _ _ f b=>f.trans b J8) (fun _ _ _ f b=>f.trans b J8) (fun _ _ _ f b=>(f.mono J8).trans b (fun _ h=> .inl h)) (fun _ _ h=>h.size) ⟨fun v w1 w2 h i=>let ⟨d,e,f,b⟩:=h;⟨d,e,ay.frame f i id,b⟩,fun v w1 w2 h i=>let ⟨d,e,f,b⟩:=h;⟨d,e,ay.frame f i id,b⟩,fun v w1 w2 h i=>let ⟨d,e,f,b⟩:=h;⟨d,e,ay.frame f i id,b⟩,fun _ _ _ h _=>h,fun v w1 w2 h i=>let ⟨d,⟨f,b⟩,Y⟩:=h;⟨d,⟨ay.frame f i id,b⟩,ay.frame Y i id⟩,trivial⟩ ⟨.inr (fun v w1 w2 h i=>let ⟨d,e,f,b⟩:=h;⟨d,e,ay.frame f i (fun e=>by have:=s;omega),b⟩),.inr (fun v w1 w2 h i=>let ⟨d,e,f,b⟩:=h;⟨d,e,ay.frame f i (fun e=>by have:=s;omega),b⟩),.inr (fun v w1 w2 h i=>let ⟨d,e,f,b⟩:=h;⟨d,e,ay.frame f i (fun e=>by have:=s;omega),b⟩),.inr (fun _ _ _ h _=>h),.inl rfl,trivial⟩ ?_;intro F hF;simp only [il,PK.val,Kc,aa] at hF;subst hF;refine ⟨by
   refine ⟨?_,?_,?_,?_,?_,?_,?_,?_,?_,?_,?_,?_,?_,?_,?_,?_,?_,?_,?_,trivial⟩<;>intro vs w1 M u L hx
   all_goals try (apply oV;rotate_left;rfl;exact Kb _ _;go_simp;done)
   all_goals try (apply oV;rotate_left;rfl;exact Kb _ _;have r:=x.out w1 M;have k1:=r.cell 1 rfl;go_simp;done)
   all_goals try (apply oV;rotate_left;rfl;exact Kb _ _;have r:=x.out w1 M;have k3:=r.cell 3 rfl;go_simp;done)
   all_goals try (apply oV;rotate_left;rfl;exact Kb _ _;have k8:=ay.cell (y.out w1 (u (by kernel_rfl))) 8 rfl;go_simp;done)
   all_goals try (apply oV;rotate_left;rfl;exact Kb _ _;(have bd:IntKind.i64.wrap ((c.Pg:Int)+(c.Wd:Int))=(c.Pg:Int)+(c.Wd:Int):=by rw [IntKind.wrap_i64];omega);go_simp;done)
   ·have P:=u (by kernel_rfl);refine bh 49 #[m,((c.Pg:Int):Int),(((c.Pg+c.Wd:Nat):Int):Int)] (by go_simp) ((aj.out w1 P).mono ?_);rintro e w5 ⟨d,rfl,f,b,Y⟩;exact ⟨_,rfl,⟨d,rfl,f,aH P.size b⟩,Y,fun h=>nomatch h⟩
   ·have a0:=L 12 (by kernel_rfl);obtain ⟨d,G,q,o⟩:=a0;refine aJ (.tuple #[d,(0:Int)]) (by go_simp) ⟨⟨d,rfl,q,o⟩,Kb _ _,fun h=>nomatch h⟩
   ·have V:=L 13 (by kernel_rfl);obtain ⟨d,G,q,o⟩:=V;refine aJ (.pointer (some ⟨d,0,none⟩)) (by go_simp) ⟨⟨d,rfl,q,o⟩,Kb _ _,fun h=>nomatch h⟩
   ·have V:=L 13 (by kernel_rfl);obtain ⟨d,G,q,o⟩:=V;refine aJ (.int .i64 0) (by go_simp) ⟨trivial,Kb _ _,fun h=>nomatch h⟩
   ·have a4:=L 14 (by kernel_rfl);obtain ⟨d,G,q,o⟩:=a4;have P:=u (by kernel_rfl);have n:=y.out w1 P;have bg:=ay.cell n 10 rfl;have be:=ay.free n 10;have g:=(Kb (fun k=>k=w2.heap.size) w1).setCell ⟨w2.heap.size,10,none⟩ (.inl rfl) (.pointer (some ⟨d,0,none⟩));refine fZ (w':=w1.setCell ⟨w2.heap.size,10,none⟩ (.pointer (some ⟨d,0,none⟩))) (by go_simp) ⟨⟨d,⟨ay.frame q g (fun e=>by have h9:d=w2.heap.size:=e;have:=s;omega),o⟩,n.set 10 _⟩,g,fun h=>nomatch h⟩
   ,fun bi w6 ax hp hx=> ?_⟩
  obtain ⟨U,aU,aW,aX,aY,_⟩:=hp;obtain ⟨d,⟨b1,I⟩,b3⟩:=aY;clear U aU aW aX hx;simp only [an,aB];have C:Cu c A w (.returned (.tuple #[w2.heap.size,(0:Int)])) w6:=by
   obtain ⟨g1,g2,g4,r1,r2,r3,T,g,D,t,N,ag,ah⟩:=H9.out;have B:Fr (fun k=>k=w2.heap.size) W5 w6:=((Kb (fun k=>k=w2.heap.size) W5).drew).trans ax (fun _ h=> .inl h);have a8:=aS.out.size;have ad:J7 w w6:=(((ba.out.trans g4 (fun k l=> .inr (by have h9:k=w2.heap.size:=l;omega))).trans T J8).trans g (fun k l=> .inr (by have h9:k=w2.heap.size:=l;omega))).trans B (fun k l=> .inr (by have h9:k=w2.heap.size:=l;omega));refine tz (w4:=E) (w5:=w1) (w6:=W5) HC.out HT.out g2 a8 J (fun k l=>(bR _ _ _ _ _ _ _).lt (fun _=>0) S w1 ⟨_,g1,fun _ _=>rfl⟩ k l) r2 r3 t.Qd.lt t.row.lt I N (by omega) (D.frame B (fun k l e=>by have h9:k=w2.heap.size:=e;have:=g2 k l;omega)) (t.frame B (fun e=>by omega) (fun e=>by omega)) b1 b3 ad
  rw [HQ.out] at C;have H:=ae C;clear C b1 I b3 H9 ax x y aj av;go_wp2;exact H.out
 ·have l:((c.kind:Int) !=3)=true:=by rw [bne_iff_ne];omega
  have ao:(c.Pg:Int)+(c.Wd:Int)+(c.Wd:Int)=(c.W:Int):=by unfold Cf.W;rw [if_neg ar];push_cast;omega
  have am:=ae ao;clear ao ar;go_wp2;rw [am.out];clear aI l;refine cR 13 12 (fun a I=>Fr (fun k=>k=w2.heap.size) a I) (fun a I=>J7 a I) [.c (.pointer (some ⟨w2.heap.size,0,none⟩)),.c (.int .i64 (c.W:Int)),.c (.pointer (some ⟨w.heap.size,1,none⟩)),.c (.int .i64 (c.Pg:Int)),.c (.agg #[((c.kind:Int):Int),((c.Pg:Int):Int),((c.block:Int):Int),((c.Wd:Int):Int),((c.Sl:Int):Int),((c.stack:Int):Int),((c.Ah:Int):Int),.float .f64 c.Xb]),.c (.int .i64 (c.Fs:Int)),.p (fun v w'=>∃m S,v=(.tuple #[.pointer (some ⟨m,0,none⟩),(0:Int)])/\dQ w' m S c.Pg c.W c.Fs 0 0 (fun _=>false) (fun _=>0)/\∀k,S k->E.heap.size<=k),.p (fun v w'=>∃m S,v=(.tuple #[.pointer (some ⟨m,0,none⟩),(0:Int)])/\dQ w' m S c.Pg c.W c.Fs 0 0 (fun _=>false) (fun _=>0)/\∀k,S k->E.heap.size<=k),.p (fun v w'=>∃m S,v= .pointer (some ⟨m,0,none⟩)/\dQ w' m S c.Pg c.W c.Fs 0 0 (fun _=>false) (fun _=>0)/\∀k,S k->E.heap.size<=k),.p (fun v _=>True),.c (.pointer (some ⟨w2.heap.size,0,none⟩)),.c (.pointer (some ⟨w2.heap.size,8,none⟩)),.p (fun v w'=>∃m S,(dQ w' m S c.Pg c.W c.Fs 0 0 (fun _=>false) (fun _=>0)/\∀k,S k->E.heap.size<=k)/\ay w' w2.heap.size (Fo c++[.pointer (some ⟨m,0,none⟩),.pointer none,.pointer none,.pointer none,.int .i64 0,.int .i64 0]) 57)] (fun j=>false) (by kernel_rfl) (fun _=>Kb _ _) (fun _ _ h=>h.mono J8) (fun _ _ _ f b=>f.trans b J8) (fun _ _ _ f b=>f.trans b J8) (fun _ _ _ f b=>(f.mono J8).trans b (fun _ h=> .inl h)) (fun _ _ h=>h.size) ⟨fun v w1 w2 h i=>let ⟨m,S,e,f,b⟩:=h;⟨m,S,e,f.Qb i,b⟩,fun v w1 w2 h i=>let ⟨m,S,e,f,b⟩:=h;⟨m,S,e,f.Qb i,b⟩,fun v w1 w2 h i=>let ⟨m,S,e,f,b⟩:=h;⟨m,S,e,f.Qb i,b⟩,fun _ _ _ h _=>h,fun v w1 w2 h i=>let ⟨m,S,⟨f,b⟩,Y⟩:=h;⟨m,S,⟨f.Qb i,b⟩,Y.frame i id⟩,trivial⟩ ⟨.inr (fun v w1 w2 h i=>let ⟨m,S,e,f,b⟩:=h;⟨m,S,e,f.frame i (fun k l e=>by have:=b k l;have:=J;omega),b⟩),.inr (fun v w1 w2 h i=>let ⟨m,S,e,f,b⟩:=h;⟨m,S,e,f.frame i (fun k l e=>by have:=b k l;have:=J;omega),b⟩),.inr (fun v w1 w2 h i=>let ⟨m,S,e,f,b⟩:=h;⟨m,S,e,f.frame i (fun k l e=>by have:=b k l;have:=J;omega),b⟩),.inr (fun _ _ _ h _=>h),.inl rfl,trivial⟩ ?_;intro F hF;simp only [il,PK.val,Kc,aa] at hF;subst hF;refine ⟨by
   refine ⟨?_,?_,?_,?_,?_,?_,?_,?_,?_,?_,?_,?_,?_,trivial⟩<;>intro vs w1 M u L hx
   all_goals try (apply oV;rotate_left;rfl;exact Kb _ _;go_simp;done)
   all_goals try (apply oV;rotate_left;rfl;exact Kb _ _;have r:=O.out w1 M;have k1:=r.cell 1 rfl;go_simp;done)
   ·have r:=O.out w1 M;refine aJ (.agg #[((c.kind:Int):Int),((c.Pg:Int):Int),((c.block:Int):Int),((c.Wd:Int):Int),((c.Sl:Int):Int),((c.stack:Int):Int),((c.Ah:Int):Int),.float .f64 c.Xb]) ?_ ⟨rfl,Kb _ _,fun h=>nomatch h⟩;exact eX rfl w.heap.size rfl 24 _ (0,0) _ r underlying24 rfl bb.out
   ·refine bh 47 #[.agg #[((c.kind:Int):Int),((c.Pg:Int):Int),((c.block:Int):Int),((c.Wd:Int):Int),((c.Sl:Int):Int),((c.stack:Int):Int),((c.Ah:Int):Int),.float .f64 c.Xb]] (by go_simp) ((aT.out w1).mono ?_);rintro e w5 ⟨rfl,hf⟩;exact ⟨_,rfl,rfl,hf,fun h=>nomatch h⟩
   ·have P:=u (by kernel_rfl);refine bh 46 #[((c.W:Int):Int),((c.Pg:Int):Int),((c.Fs:Int):Int)] (by go_simp) ((aC.out w1).mono ?_);rintro e w5 ⟨m,S,rfl,f,b,Y⟩;exact ⟨_,rfl,⟨m,S,rfl,f,fun k l=>aH P.size (b k l)⟩,Y,fun h=>nomatch h⟩
   ·have h6:=L 6 (by kernel_rfl);obtain ⟨m,S,G,q,o⟩:=h6;refine aJ (.tuple #[m,(0:Int)]) (by go_simp) ⟨⟨m,S,rfl,q,o⟩,Kb _ _,fun h=>nomatch h⟩
   ·have h7:=L 7 (by kernel_rfl);obtain ⟨m,S,G,q,o⟩:=h7;refine aJ (.pointer (some ⟨m,0,none⟩)) (by go_simp) ⟨⟨m,S,rfl,q,o⟩,Kb _ _,fun h=>nomatch h⟩
   ·have h7:=L 7 (by kernel_rfl);obtain ⟨m,S,G,q,o⟩:=h7;refine aJ (.int .i64 0) (by go_simp) ⟨trivial,Kb _ _,fun h=>nomatch h⟩
   ·have h8:=L 8 (by kernel_rfl);obtain ⟨m,S,G,q,o⟩:=h8;have P:=u (by kernel_rfl);have n:=az.out w1 P;have k8:=ay.cell n 8 rfl;have f8:=ay.free n 8;have g:=(Kb (fun k=>k=w2.heap.size) w1).setCell ⟨w2.heap.size,8,none⟩ (.inl rfl) (.pointer (some ⟨m,0,none⟩));refine fZ (w':=w1.setCell ⟨w2.heap.size,8,none⟩ (.pointer (some ⟨m,0,none⟩))) (by go_simp) ⟨⟨m,S,⟨q.frame g (fun k l e=>by have h9:k=w2.heap.size:=e;have:=o k l;have:=J;omega),o⟩,n.set 8 _⟩,g,fun h=>nomatch h⟩
   ,fun vs w1 M hp hx=> ?_⟩
  obtain ⟨g6,g7,g8,g9,U,_⟩:=hp;obtain ⟨m,S,⟨G,q⟩,o⟩:=U;clear g6 g7 g8 g9 hx;simp only [an,aB];have aq:Fr (fun k=>k=w2.heap.size) E w1:=((Kb (fun k=>k=w2.heap.size) E).drew).trans M (fun _ h=> .inl h);have z:=O.out w1 M;have k4:=z.cell 4 rfl;have ak:=ae (vn c.Sl HC.out.Ya HC.out.Zd w1);have H8:=ae (af G (af q (af o (af aq z))));clear G q o aq z M O az aC am k0 k1 k2 k3 k5 k6 k7;go_wp2_with fail
  refine ak.out.mono ?_;rintro e w5 ⟨rb,rg,rfl,r1,r2,r3,T⟩;have K:=H8.out.2.2.1.frame T id;have k9:=ay.cell K 9 rfl;have f9:=ay.free K 9;obtain ⟨W5,Z⟩:∃W5,w5.setCell ⟨w2.heap.size,9,none⟩ (.pointer (some ⟨rb,0,none⟩))=W5:=⟨_,rfl⟩;have g:Fr (fun k=>k=w2.heap.size) w5 W5:=by rw [<-Z];exact (Kb (fun k=>k=w2.heap.size) w5).setCell ⟨w2.heap.size,9,none⟩ (.inl rfl) _
  have ap:ay W5 w2.heap.size (Fo c++[.pointer (some ⟨m,0,none⟩),.pointer (some ⟨rb,0,none⟩),.pointer none,.pointer none,.int .i64 0,.int .i64 0]) 57:=by rw [<-Z];exact K.set 9 _
  obtain ⟨g1,g2,g3,g4,g5⟩:=H8.out;have N:=g4.size;have ag:=T.size;have ah:=g.size;have D:=(g1.Qb T).frame g (fun k l e=>by have h9:k=w2.heap.size:=e;have:=g2 k l;omega);have t:=r1.frame g (fun e=>by omega) (fun e=>by omega);have R:=(g5.frame T id).frame g (fun e=>by omega);have s:w2.heap.size<W5.heap.size:=by omega
  have x:=ae (fun w1 (hf:Fr (fun k=>k=w2.heap.size) W5.drew w1)=>R.drew.frame hf (fun e=>by omega));have y:=ae (fun w1 (hf:J7 W5.drew w1)=>ap.drew.frame hf id);have aj:=ae (fun w1 (hf:J7 W5.drew w1)=>uH (D.Qb (((Kb (fun _=>False) W5).drew).trans hf J8)) c.Pg (c.Pg+c.Wd) (by omega) (by have:=aG.out;omega));have av:((c.Pg+c.Wd:Nat):Int)=(c.Pg:Int)+(c.Wd:Int):=by push_cast;rfl
  have H9:=ae (af g1 (af g2 (af g4 (af r1 (af r2 (af r3 (af T (af g (af D (af t (af N (af ag ah))))))))))));clear g1 g2 g3 g4 g5 r1 r2 r3 T g D t N ag ah ap K R ak H8 k4;go_wp2;clear Z k9 f9;refine cR 19 18 (fun a I=>Fr (fun k=>k=w2.heap.size) a I) (fun a I=>J7 a I) [.c (.pointer (some ⟨w2.heap.size,0,none⟩)),.c (.pointer (some ⟨w2.heap.size,0,none⟩)),.c (.pointer (some ⟨w2.heap.size,0,none⟩)),.c (.pointer (some ⟨w2.heap.size,8,none⟩)),.c m,.c (.pointer (some ⟨w.heap.size,1,none⟩)),.c (.int .i64 (c.Pg:Int)),.c (.pointer (some ⟨w.heap.size,1,none⟩)),.c (.int .i64 (c.Pg:Int)),.c (.pointer (some ⟨w.heap.size,3,none⟩)),.c (.int .i64 (c.Wd:Int)),.c (.int .i64 ((c.Pg+c.Wd:Nat):Int)),.p (fun v w'=>∃d,v=(.tuple #[.pointer (some ⟨d,0,none⟩),(0:Int)])/\eW w' d m c.Pg c.Pg (c.Pg+c.Wd)/\W5.heap.size<=d),.p (fun v w'=>∃d,v=(.tuple #[.pointer (some ⟨d,0,none⟩),(0:Int)])/\eW w' d m c.Pg c.Pg (c.Pg+c.Wd)/\W5.heap.size<=d),.p (fun v w'=>∃d,v= .pointer (some ⟨d,0,none⟩)/\eW w' d m c.Pg c.Pg (c.Pg+c.Wd)/\W5.heap.size<=d),.p (fun v _=>True),.c (.pointer (some ⟨w2.heap.size,0,none⟩)),.c (.pointer (some ⟨w2.heap.size,10,none⟩)),.p (fun v w'=>∃d,(eW w' d m c.Pg c.Pg (c.Pg+c.Wd)/\W5.heap.size<=d)/\nS w' w2.heap.size c m rb d none 0 0)] (fun j=>false) (by kernel_rfl) (fun _=>Kb _ _) (fun _ _ h=>h.mono J8) (fun _ _ _ f b=>f.trans b J8) (fun _ _ _ f b=>f.trans b J8) (fun _ _ _ f b=>(f.mono J8).trans b (fun _ h=> .inl h)) (fun _ _ h=>h.size) ⟨fun v w1 w2 h i=>let ⟨d,e,f,b⟩:=h;⟨d,e,ay.frame f i id,b⟩,fun v w1 w2 h i=>let ⟨d,e,f,b⟩:=h;⟨d,e,ay.frame f i id,b⟩,fun v w1 w2 h i=>let ⟨d,e,f,b⟩:=h;⟨d,e,ay.frame f i id,b⟩,fun _ _ _ h _=>h,fun v w1 w2 h i=>let ⟨d,⟨f,b⟩,Y⟩:=h;⟨d,⟨ay.frame f i id,b⟩,ay.frame Y i id⟩,trivial⟩ ⟨.inr (fun v w1 w2 h i=>let ⟨d,e,f,b⟩:=h;⟨d,e,ay.frame f i (fun e=>by have:=s;omega),b⟩),.inr (fun v w1 w2 h i=>let ⟨d,e,f,b⟩:=h;⟨d,e,ay.frame f i (fun e=>by have:=s;omega),b⟩),.inr (fun v w1 w2 h i=>let ⟨d,e,f,b⟩:=h;⟨d,e,ay.frame f i (fun e=>by have:=s;omega),b⟩),.inr (fun _ _ _ h _=>h),.inl rfl,trivial⟩ ?_;intro F hF;simp only [il,PK.val,Kc,aa] at hF;subst hF;refine ⟨by
   refine ⟨?_,?_,?_,?_,?_,?_,?_,?_,?_,?_,?_,?_,?_,?_,?_,?_,?_,?_,?_,trivial⟩<;>intro vs w1 M u L hx
   all_goals try (apply oV;rotate_left;rfl;exact Kb _ _;go_simp;done)
   all_goals try (apply oV;rotate_left;rfl;exact Kb _ _;have r:=x.out w1 M;have k1:=r.cell 1 rfl;go_simp;done)
   all_goals try (apply oV;rotate_left;rfl;exact Kb _ _;have r:=x.out w1 M;have k3:=r.cell 3 rfl;go_simp;done)
   all_goals try (apply oV;rotate_left;rfl;exact Kb _ _;have k8:=ay.cell (y.out w1 (u (by kernel_rfl))) 8 rfl;go_simp;done)
   all_goals try (apply oV;rotate_left;rfl;exact Kb _ _;(have bd:IntKind.i64.wrap ((c.Pg:Int)+(c.Wd:Int))=(c.Pg:Int)+(c.Wd:Int):=by rw [IntKind.wrap_i64];omega);go_simp;done)
   ·have P:=u (by kernel_rfl);refine bh 49 #[m,((c.Pg:Int):Int),(((c.Pg+c.Wd:Nat):Int):Int)] (by go_simp) ((aj.out w1 P).mono ?_);rintro e w5 ⟨d,rfl,f,b,Y⟩;exact ⟨_,rfl,⟨d,rfl,f,aH P.size b⟩,Y,fun h=>nomatch h⟩
   ·have a0:=L 12 (by kernel_rfl);obtain ⟨d,G,q,o⟩:=a0;refine aJ (.tuple #[d,(0:Int)]) (by go_simp) ⟨⟨d,rfl,q,o⟩,Kb _ _,fun h=>nomatch h⟩
   ·have V:=L 13 (by kernel_rfl);obtain ⟨d,G,q,o⟩:=V;refine aJ (.pointer (some ⟨d,0,none⟩)) (by go_simp) ⟨⟨d,rfl,q,o⟩,Kb _ _,fun h=>nomatch h⟩
   ·have V:=L 13 (by kernel_rfl);obtain ⟨d,G,q,o⟩:=V;refine aJ (.int .i64 0) (by go_simp) ⟨trivial,Kb _ _,fun h=>nomatch h⟩
   ·have a4:=L 14 (by kernel_rfl);obtain ⟨d,G,q,o⟩:=a4;have P:=u (by kernel_rfl);have n:=y.out w1 P;have bg:=ay.cell n 10 rfl;have be:=ay.free n 10;have g:=(Kb (fun k=>k=w2.heap.size) w1).setCell ⟨w2.heap.size,10,none⟩ (.inl rfl) (.pointer (some ⟨d,0,none⟩));refine fZ (w':=w1.setCell ⟨w2.heap.size,10,none⟩ (.pointer (some ⟨d,0,none⟩))) (by go_simp) ⟨⟨d,⟨ay.frame q g (fun e=>by have h9:d=w2.heap.size:=e;have:=s;omega),o⟩,n.set 10 _⟩,g,fun h=>nomatch h⟩
   ,fun bi w6 ax hp hx=> ?_⟩
  obtain ⟨U,aU,aW,aX,aY,_⟩:=hp;obtain ⟨d,⟨b1,I⟩,b3⟩:=aY;clear U aU aW aX hx;simp only [an,aB];have C:Cu c A w (.returned (.tuple #[w2.heap.size,(0:Int)])) w6:=by
   obtain ⟨g1,g2,g4,r1,r2,r3,T,g,D,t,N,ag,ah⟩:=H9.out;have B:Fr (fun k=>k=w2.heap.size) W5 w6:=((Kb (fun k=>k=w2.heap.size) W5).drew).trans ax (fun _ h=> .inl h);have a8:=aS.out.size;have ad:J7 w w6:=(((ba.out.trans g4 (fun k l=> .inr (by have h9:k=w2.heap.size:=l;omega))).trans T J8).trans g (fun k l=> .inr (by have h9:k=w2.heap.size:=l;omega))).trans B (fun k l=> .inr (by have h9:k=w2.heap.size:=l;omega));refine tz (w4:=E) (w5:=w1) (w6:=W5) HC.out HT.out g2 a8 J (fun k l=>(bR _ _ _ _ _ _ _).lt (fun _=>0) S w1 ⟨_,g1,fun _ _=>rfl⟩ k l) r2 r3 t.Qd.lt t.row.lt I N (by omega) (D.frame B (fun k l e=>by have h9:k=w2.heap.size:=e;have:=g2 k l;omega)) (t.frame B (fun e=>by omega) (fun e=>by omega)) b1 b3 ad
  rw [HQ.out] at C;have H:=ae C;clear C b1 I b3 H9 ax x y aj av;go_wp2;exact H.out
end
section
variable{v0 v1 v2 v3 v4 v5 v6:Int}{tr:Nat}
theorem qI{w:World}{b:Nat}{t:TypeId}(h:ay w b [(v0:Int),(v1:Int),(v2:Int),(v3:Int),(v4:Int),(v5:Int),(v6:Int),.float .f64 tr] t):w.cell? b=some (v0:Int)/\w.cell? ⟨b,1,none⟩=some (v1:Int)/\w.cell? ⟨b,2,none⟩=some (v2:Int)/\w.cell? ⟨b,3,none⟩=some (v3:Int)/\w.cell? ⟨b,4,none⟩=some (v4:Int)/\w.cell? ⟨b,5,none⟩=some (v5:Int)/\w.cell? ⟨b,6,none⟩=some (v6:Int)/\w.cell? ⟨b,7,none⟩=some (.float .f64 tr):=
 ⟨h.cell 0 rfl,h.cell 1 rfl,h.cell 2 rfl,h.cell 3 rfl,h.cell 4 rfl,h.cell 5 rfl,h.cell 6 rfl,h.cell 7 rfl⟩
theorem Gn(m:v1<=9223372036854775807)(n:v2<=9223372036854775807)(o:v3<=9223372036854775807)(k:¬∃c,iC c/\kF v0 v1 v2 v3 v4 v5 v6 tr=sy c)(w:World):Calls prog 15 #[kF v0 v1 v2 v3 v4 v5 v6 tr] w fun e w'=>e= .returned (.tuple #[.pointer none,(22:Int)])/\J7 w w':=by
 obtain ⟨W1,b⟩:∃W1,w.alloc (.cells #[(v0:Int),(v1:Int),(v2:Int),(v3:Int),(v4:Int),(v5:Int),(v6:Int),.float .f64 tr] 24)=W1:=⟨_,rfl⟩;have i:J7 w W1:=by rw [<-b];exact (Kb _ w).alloc _
 have g:ay W1 w.heap.size [(v0:Int),(v1:Int),(v2:Int),(v3:Int),(v4:Int),(v5:Int),(v6:Int),.float .f64 tr] 24:=by rw [<-b];exact ay.new w _ _
 obtain ⟨p,q,r,s,t,u,v,x⟩:=qI g;have a:=ae (BQ m n o k W1);have d:=ae i;clear m n o k i g;unfold kF at a ⊢;have l:Hid (∀w',J7 w w'->(fun e w'=>e=Ending.returned (.tuple #[.pointer none,(22:Int)])/\J7 w w') (.returned (.tuple #[.pointer none,(22:Int)])) w'):=ae (fun w' h=>⟨rfl,h⟩);generalize (fun e w'=>e=Ending.returned (.tuple #[.pointer none,(22:Int)])/\J7 w w')=Q at*
 go_enter func15,ntmps15
 go_wp2_with fail
 refine a.out.mono ?_;rintro e w2 ⟨rfl,j⟩;have f:=ae (d.out.trans j J8);clear a j d b p q r s t u v x;have H:=ae (l.out w2 f.out);clear l f;go_wp2;exact H.out
end
def jS(k:Nat):Cf:=⟨k,4,4,16,3,2,1,4607182418800017408⟩
theorem FC{k:Nat}(a:1<=k)(b:k<=3):iC (jS k):=by
 refine ⟨?_,?_,?_,?_,?_,?_,?_,?_,?_,?_,?_,?_,?_,?_,?_,?_,?_⟩
 ·show k=1\/k=2\/k=3;omega
 ·exact (iJ _).2 ⟨2,by decide,rfl⟩
 ·show 1<=4;omega
 ·show 4<=256;omega
 ·exact (iJ _).2 ⟨2,by decide,rfl⟩
 ·show 1<=4;omega
 ·show 4<=1024;omega
 ·exact (iJ _).2 ⟨4,by decide,rfl⟩
 ·show 16<=16;omega
 ·show 16<=131072;omega
 ·show 4<=16;omega
 ·show 1<=3;omega
 ·show 3<=64;omega
 ·show 1<=2;omega
 ·show 2<=4096;omega
 ·show 1<=16;omega
 ·obtain rfl|rfl|rfl:k=1\/k=2\/k=3:=by omega
  ·decide
  ·decide
  ·decide
theorem BJ(k:Nat)(w:World):Calls prog 25 #[(k:Int)] w fun e w'=>e= .returned (sy (jS k))/\J7 w w':=by
 have c:sy (jS k)= .agg #[(k:Int),(4:Int),(4:Int),(16:Int),(3:Int),(2:Int),(1:Int),.float .f64 4607182418800017408]:=rfl;rw [c];clear c;have a:Hid ((prog.info? 24).map (·.size)=some 8):=by show _=_;kernel_rfl
 have d:Hid ((#[(k:Int),(4:Int),(4:Int),(16:Int),(3:Int),(2:Int),(1:Int),.float .f64 4607182418800017408]:Array Value).all (·.oneCell')=true):=ae (Go.all_oneCell_toArray (cs:=[(k:Int),(4:Int),(4:Int),(16:Int),(3:Int),(2:Int),(1:Int),.float .f64 4607182418800017408]) (fun v c=>by simp only [cG,bF,or_false] at c;rcases c with rfl|rfl|rfl|rfl|rfl|rfl|rfl|rfl<;>rfl))
 go_enter func25,ntmps25
 go_wp2_with (refine wpList_store_row rfl 24 _ _ rfl w.heap.size #[(k:Int),(4:Int),(4:Int),(16:Int),(3:Int),(2:Int),(1:Int),.float .f64 4607182418800017408] rfl rfl 24 _ (heap_alloc_new _ _) a.out rfl d.out ?_)
 generalize b:(World.alloc w _).setRow w.heap.size _=W2;have f:ay W2 w.heap.size [(k:Int),(4:Int),(4:Int),(16:Int),(3:Int),(2:Int),(1:Int),.float .f64 4607182418800017408] 24:=by rw [<-b];exact setRow_heap _ _ _ _ _ _ (heap_alloc_new w _)
 have g:J7 w W2:=by
  rw [<-b];exact ((Kb _ w).alloc _).trans (S':=fun i=>i=w.heap.size) ⟨rfl,rfl,rfl,by simp,fun i _ h=>setRow_other _ _ _ _ (fun e=>h e)⟩ (fun i h=> .inr (by omega))
 refine bodyPost_ret (jT rfl _ _ _ _ _ _ _ rfl f underlying24 rfl a.out) rfl ?_;exact ⟨rfl,g⟩
section
variable{b:Nat}{c:Cf}{A A':AG}{rs rs' l l':List Nat}{T T':Nat->Prop}{w w':World}
theorem zM{x:Nat}:∀{l:List Nat},x∈l->x<=l.sum
 |y::l,h=>by
  rw [nm];rcases cG.1 h with rfl|h
  ·omega
  ·have:=zM h;omega
theorem yH(e:∀x,A.np x=0)(z:Nat):Reach A.gr rs z↔z∈rs/\z≠0:=by
 constructor
 ·intro h
  induction h with
  |root d a=>grind
  |step _ a _ _=>
   grind [AG.gr]
 ·rintro ⟨d,a⟩;exact .root d a
theorem yI(a:∀x,A.np x=0)(e:l.Nodup)(d:∀x,x∈l↔x∈rs/\x≠0):dt A rs l:=⟨e,fun x=>(d x).trans (yH a x).symm⟩
def pf(b:Nat)(c:Cf)(A:AG)(rs:List Nat)(xb:Nat)(cs:List Value)(t:TypeId)(w0 w:World):Prop:=∃u n T,eF b c A rs u n T w/\(∀k,T k->w0.heap.size<=k)/\¬T xb/\ay w xb cs t/\J7 w0 w
theorem pf.next{xb:Nat}{cs:List Value}{t:TypeId}{w0:World}{u n:Nat}(d:∀k,T k->w0.heap.size<=k)(e:¬T xb)(f:ay w xb cs t)(g:J7 w0 w)(j:eF b c A' rs' u n T' w')(hf:Fr T w w')(i:∀k,T' k->T k\/w.heap.size<=k):pf b c A' rs' xb cs t w0 w':=by
 have p:=g.size;have o:=f.lt;exact ⟨u,n,T',j,fun k a=>(i k a).elim (d k) (fun h=>by omega),fun m=>(i _ m).elim e (fun h=>by omega),f.frame hf e,g.trans hf (fun k a=> .inr (d k a))⟩
theorem pf.Qd{xb:Nat}{cs:List Value}{t:TypeId}{w0:World}(h:pf b c A rs xb cs t w0 w):ay w xb cs t:=let ⟨_,_,_,_,_,_,h,_⟩:=h;h
theorem pf.fr{xb:Nat}{cs:List Value}{t:TypeId}{w0:World}(h:pf b c A rs xb cs t w0 w):J7 w0 w:=let ⟨_,_,_,_,_,_,_,h⟩:=h;h
theorem pf.alloc{xb s k p f g:Nat}{cs:List Value}{t:TypeId}{w0:World}(h:pf b c A rs xb cs t w0 w)(y:dt A rs l)(B:s<c.Sl)(z:dD p f g)(a:k≠0)(d:¬Reach A.gr rs k)(i:A.Wd l+(1+(p+f+g))<=c.Wd):Calls prog 5 #[b,(s:Int),ft p f g] w fun e w'=>e= .returned (0:Int)/\pf b c (A.new k p f g) (rs.set s k) xb cs t w0 w':=by
 obtain ⟨u,n,T,o,q,r,v,x⟩:=h;refine (pH o y B z a d).mono ?_;rintro e w' (⟨_,rfl,E,D,T',g1,j,m⟩|⟨C,_⟩)
 ·exact ⟨rfl,pf.next q r v x g1 j m⟩
 ·omega
theorem pf.full{xb s p f g:Nat}{cs:List Value}{t:TypeId}{w0:World}(h:pf b c A rs xb cs t w0 w)(j:dt A rs l)(D:s<c.Sl)(B:dD p f g)(i:c.Wd<A.Wd l+(1+(p+f+g))):Calls prog 5 #[b,(s:Int),ft p f g] w fun e w'=>e= .returned (21:Int)/\pf b c A rs xb cs t w0 w':=by
 obtain ⟨u,n,T,q,r,v,x,y⟩:=h;obtain ⟨k,a,d⟩:∃k,k≠0/\¬Reach A.gr rs k:=by
  refine ⟨l.sum+1,by omega,fun C=> ?_⟩;have z:=(j.2 _).2 C;have:l.sum+1<=l.sum:=zM z;omega
 refine (pH q j D B a d).mono ?_;rintro e w' (⟨E,_⟩|⟨_,rfl,G,F,T',g1,m,o⟩)
 ·omega
 ·exact ⟨rfl,pf.next r v x y g1 m o⟩
theorem pf.clear{xb s:Nat}{cs:List Value}{t:TypeId}{w0:World}(h:pf b c A rs xb cs t w0 w)(m:s<c.Sl):Calls prog 26 #[b,(s:Int)] w fun e w'=>e= .returned (0:Int)/\pf b c A (rs.set s 0) xb cs t w0 w':=by
 obtain ⟨u,n,T,f,g,i,j,k⟩:=h;refine (BP f m).mono ?_;rintro e w' ⟨rfl,p,o,T',g1,a,d⟩;exact ⟨rfl,pf.next g i j k g1 a d⟩
end
def A7:AG:=⟨fun _=>0,fun _=>0,fun _=>7,fun _ _=>0⟩
theorem E5(k:Nat):A7.new k 0 0 7=A7:=by
 unfold AG.new A7
 grind
theorem oO(l:List Nat):A7.Wd l=8*l.length:=by
 unfold AG.Wd
 induction l with
 |nil=>rfl
 |cons x l ih=>rw [gD,nm,ih,bG];show 1+(0+0+7)+_=_;omega
theorem JG:dD ((0:Nat):Int) ((0:Nat):Int) ((7:Nat):Int):=by unfold dD;omega
theorem vQ{k b xb:Nat}{t:TypeId}{w0:World}(n:1<=k)(o:k<=3):
  (∀w,pf b (jS k) A7 [0,0,0] xb [(0:Int),(0:Int),(7:Int)] t w0 w->Calls prog 5 #[b,(0:Int),.agg #[(0:Int),(0:Int),(7:Int)]] w fun e w'=>e= .returned (0:Int)/\pf b (jS k) A7 [1,0,0] xb [(0:Int),(0:Int),(7:Int)] t w0 w')/\
  (∀w,pf b (jS k) A7 [1,0,0] xb [(0:Int),(0:Int),(7:Int)] t w0 w->Calls prog 5 #[b,(1:Int),.agg #[(0:Int),(0:Int),(7:Int)]] w fun e w'=>e= .returned (0:Int)/\pf b (jS k) A7 [1,2,0] xb [(0:Int),(0:Int),(7:Int)] t w0 w')/\
  (∀w,pf b (jS k) A7 [1,2,0] xb [(0:Int),(0:Int),(7:Int)] t w0 w->Calls prog 5 #[b,(2:Int),.agg #[(0:Int),(0:Int),(7:Int)]] w fun e w'=>e= .returned (21:Int)/\pf b (jS k) A7 [1,2,0] xb [(0:Int),(0:Int),(7:Int)] t w0 w')/\
  (∀w,pf b (jS k) A7 [1,2,0] xb [(0:Int),(0:Int),(7:Int)] t w0 w->Calls prog 26 #[b,(0:Int)] w fun e w'=>e= .returned (0:Int)/\pf b (jS k) A7 [0,2,0] xb [(0:Int),(0:Int),(7:Int)] t w0 w')/\
  (∀w,pf b (jS k) A7 [0,2,0] xb [(0:Int),(0:Int),(7:Int)] t w0 w->Calls prog 5 #[b,(2:Int),.agg #[(0:Int),(0:Int),(7:Int)]] w fun e w'=>e= .returned (0:Int)/\J7 w0 w'):=by
 have d:∀x,A7.np x=0:=fun _=>rfl
 have c:∀rs l,l.Nodup->(∀x,x∈l↔x∈rs/\x≠0)->dt A7 rs l:=fun rs l j h=>yI d j h
 have f:dt A7 [0,0,0] []:=c _ _ .nil (fun x=>by simp);have g:dt A7 [1,0,0] [1]:=c _ _ (by simp) (fun x=>by grind);have m:dt A7 [1,2,0] [1,2]:=c _ _ (by simp) (fun x=>by grind);have i:dt A7 [0,2,0] [2]:=c _ _ (by simp) (fun x=>by grind);refine ⟨fun w h=> ?_,fun w h=> ?_,fun w h=> ?_,fun w h=> ?_,fun w h=> ?_⟩
 ·have:=h.alloc (s:=0) (k:=1) f (show 0<3 by omega) JG (by omega) (fun a=>by have:=(f.2 _).2 a;grind) (by rw [oO];show 0+_<=16;omega);rwa [E5] at this
 ·have:=h.alloc (s:=1) (k:=2) g (show 1<3 by omega) JG (by omega) (fun a=>by have:=(g.2 _).2 a;grind) (by rw [oO];show 8+_<=16;omega);rwa [E5] at this
 ·exact h.full (s:=2) m (show 2<3 by omega) JG (by rw [oO];show 16<16+_;omega)
 ·exact h.clear (s:=0) (show 0<3 by omega)
 ·have:=h.alloc (s:=2) (k:=1) i (show 2<3 by omega) JG (by omega) (fun a=>by have:=(i.2 _).2 a;grind) (by rw [oO];show 8+_<=16;omega);exact this.mono (fun e w' h=>⟨h.1,h.2.fr⟩)
theorem yn(w:World)(C:ee w):Calls prog 6 #[] w fun e w'=>e= .returned (.bool true)/\J7 w w':=by
 have g:=ae BJ;have f:=ae (fun (k:Nat) (V:1<=k) (W:k<=3) (w1:World) (hf:J7 w w1)=>zW (FC V W) (aE C hf id) A7);have K:Hid (∀(k b:Nat) (w1 w2:World),Cu (jS k) A7 w1 (.returned (.tuple #[b,(0:Int)])) w2->True):=ae (fun _ _ _ _ _=>trivial);have y:=ae (Kb (fun _=>False) w);clear C K;have N:Hid (∀w',J7 w w'->(fun e w'=>e=Ending.returned (.bool true)/\J7 w w') (.returned (.bool true)) w'):=ae (fun w' h=>⟨rfl,h⟩);generalize (fun e w'=>e=Ending.returned (.bool true)/\J7 w w')=Q at*
 go_enter func6,ntmps6
 go_wp2
 go_loopw [1] (fun x wr=>∃k:Nat,x= .int .i64 k/\1<=k/\k<=4/\Hid (J7 w wr)) (fun x _=>(5-intOf x).toNat)
 case atStart=>exact ⟨1,rfl,by omega,by omega,y⟩
 case round=>
  clear y;obtain ⟨k,rfl,d,F,c⟩:=hrel;by_cases I:k<=3
  ·have c1:(k:Int)<=3:=by omega
   have B:=ae (g.out k wr);go_wp2_with fail
   refine B.out.mono ?_;rintro e w1 ⟨rfl,m⟩;have A:=ae (f.out k d I w1 (c.out.trans m J8));have z:=ae (c.out.trans m J8);have G:=ae (af d I);clear B m f g d F I;go_wp2_with fail
   refine A.out.mono ?_;rintro e w2 ⟨b,T,rfl,M,C,D⟩;obtain ⟨o,j⟩:∃o,w2.alloc (.cells #[(0:Int),(0:Int),(7:Int)] 32)=o:=⟨_,rfl⟩;have n:J7 w2 o:=by rw [<-j];exact (Kb _ w2).alloc _
   have l:ay o w2.heap.size [(0:Int),(0:Int),(7:Int)] 32:=by rw [<-j];exact ay.new w2 _ _
   have a:pf b (jS k) A7 [0,0,0] w2.heap.size [(0:Int),(0:Int),(7:Int)] 32 w1 o:=⟨0,0,T,M.Qb n,C,fun h=>by have:=M.lt _ h;omega,l,D.trans n J8⟩;obtain ⟨O,P,R,S,U⟩:=vQ (b:=b) (xb:=w2.heap.size) (t:=32) (w0:=w1) G.out.1 G.out.2;have q:=ae (O o a);have p:=ae (af P (af R (af S U)));obtain ⟨L,i,c2⟩:=eB l;clear A M C D n l a O P R S U;go_wp2_with fail
   refine q.out.mono ?_;rintro e w3 ⟨rfl,a⟩;obtain ⟨L,i,c2⟩:=eB a.Qd;have r:=ae (p.out.1 w3 a);clear q a j;go_wp2_with fail
   refine r.out.mono ?_;rintro e w4 ⟨rfl,a⟩;obtain ⟨L,i,c2⟩:=eB a.Qd;have s:=ae (p.out.2.1 w4 a);clear r a;go_wp2_with fail
   refine s.out.mono ?_;rintro e w5 ⟨rfl,a⟩;have u:=ae (p.out.2.2.1 w5 a);clear s a;go_wp2_with fail
   refine u.out.mono ?_;rintro e w6 ⟨rfl,a⟩;obtain ⟨L,i,c2⟩:=eB a.Qd;have v:=ae (p.out.2.2.2 w6 a);clear u a p;go_wp2_with fail
   refine v.out.mono ?_;rintro e X ⟨rfl,E⟩;have J:=ae (z.out.trans E J8);clear v E z c;go_wp2;go_roundw
   case rel=>exact ⟨k+1,by go_num,by omega,by have:=G.out.2;omega,J⟩
   case measure=>simp [intOf];have:=G.out;omega
  ·have c1:¬(k:Int)<=3:=by omega
   have H:=ae (N.out wr c.out);clear f g d F I N c;go_wp2;exact H.out
section
variable{b u n s:Nat}{c:Cf}{A:AG}{rs:List Nat}{T:Nat->Prop}{w:World}
theorem Gq(D:eF b c A rs u n T w)(F:s<c.Sl){p f g:Int}(E:¬dD p f g):Calls prog 5 #[b,(s:Int),ft p f g] w fun e w'=>e= .returned (15:Int)/\J7 w w':=by
 obtain ⟨W1,d⟩:∃W1,w.alloc (.cells #[(p:Int),(f:Int),(g:Int)] 32)=W1:=⟨_,rfl⟩;have i:J7 w W1:=by rw [<-d];exact (Kb _ w).alloc _
 have m:ay W1 w.heap.size [(p:Int),(f:Int),(g:Int)] 32:=by rw [<-d];exact ay.new w _ _
 have q:=D.Qb i;obtain ⟨y,v,C,I,B⟩:∃y v,Hid (Calls prog 16 #[b] W1 fun e w'=>e= .returned (.bool false)/\W1=w')/\W1.cell? ⟨b,9,none⟩=some (.pointer (some ⟨y,0,none⟩))/\Hid (Calls prog 17 #[.pointer (some ⟨y,0,none⟩),(s:Int)] W1 fun e w'=>e= .returned (.tuple #[(v:Int),(0:Int)])/\J7 W1 w'):=by
  obtain ⟨h,φ,L,Ba,N,K,ns,J,S,rfl,t,M,H⟩:=q;have r:s<(rs.map φ).length:=by rw [cQ,t.Sl];exact F
  exact ⟨h.rb,(rs.map φ)[s],ae (gk t.Qd),ay.cell t.Qd 9 rfl,ae (vo t.roots s _ (aC r))⟩
 have a:Hid (∀w1,Calls prog 18 #[ft p f g] w1 (nu w1 15)):=ae (fun w1=>by have:=iM p f g w1;rwa [if_neg E] at this);have z:=ae (fun w1 (hf:J7 W1 w1)=>m.frame hf id);have k:=ae i;clear D q E m i F;unfold ft at a ⊢
 go_enter func5,ntmps5
 go_wp2_with fail
 refine C.out.mono ?_;rintro e w1 ⟨rfl,rfl⟩;clear C d;go_wp2_with fail
 refine B.out.mono ?_;rintro e w1 ⟨rfl,j⟩;obtain ⟨G,c1,c2⟩:=eB (z.out w1 j);have l:=ae (k.out.trans j J8);clear B I j k z;go_wp2_with fail
 refine (a.out w1).mono ?_;rintro e w2 ⟨rfl,o⟩;have x:=ae (l.out.trans o J8);clear o l a G c1 c2;go_wp2;go_ret;exact ⟨rfl,x.out⟩
end
section
variable{b u n:Nat}{c:Cf}{A:AG}{rs:List Nat}{T:Nat->Prop}{w:World}
theorem BI(f:eF b c A rs u n T w):Calls prog 77 #[b] w fun e w'=>e= .returned (.tuple #[])/\dC b c A rs T w w':=by
 have g:=ae (lU f);have H:=ae (show dC b c A rs T w w from ⟨u,n,T,f,Kb _ _,fun _ h=> .inl h⟩);obtain ⟨d,z⟩:(∃i:Option Nat,(i=none->n=0)/\w.cell? ⟨b,11,none⟩=some (lZ i))/\w.cell? b=some (.int .i64 (c.kind:Int)):=by
  obtain ⟨h,φ,L,Ba,E,i,ns,C,S,rfl,v,D,x⟩:=f;exact ⟨⟨i,fun e=>by subst e;exact v.mem.1,ay.cell v.Qd 11 rfl⟩,ay.cell v.Qd 0 rfl⟩
 obtain ⟨i,r,d⟩:=d
 cases i with
 |some y=>
  rw [show lZ (some y)= .pointer (some ⟨y,0,none⟩) from rfl] at d;clear f r
  go_enter func77,ntmps77
  go_wp2_with fail
  refine g.out.mono ?_;rintro e w1 ⟨rfl,rfl⟩;clear g;go_wp2;go_end0;exact ⟨rfl,H.out⟩
 |none=>
  obtain rfl:=r rfl;rw [show lZ none= .pointer none from rfl] at d;by_cases p:c.kind=1
  ·have j:=ae (rM f p);have q:((c.kind:Int)==1)=true:=by rw [p];rfl
   have a:(c.kind:Int)=1:=by rw [p];rfl
   rw [a] at z;clear f r p q a H
   go_enter func77,ntmps77
   go_wp2_with fail
   refine g.out.mono ?_;rintro e w1 ⟨rfl,rfl⟩;clear g;go_wp2_with fail
   refine j.out.mono ?_;rintro e w3 ⟨rfl,l,B,s,t,k,m,o⟩;have H:=ae (show dC b c A rs T w w3 from ⟨_,B,s,k,m,o⟩);clear j t k m o;go_wp2;go_end0;exact ⟨rfl,H.out⟩
  ·have j:=ae (lW f);have a:¬(c.kind:Int)=1:=by omega
   have q:decide ((c.kind:Int)=1)=false:=decide_eq_false a;clear f r p H
   go_enter func77,ntmps77
   go_wp2_with fail
   refine g.out.mono ?_;rintro e w1 ⟨rfl,rfl⟩;clear g;go_wp2_with fail
   refine j.out.mono ?_;rintro e w3 ⟨rfl,l,s,t,k,m,o⟩;have H:=ae (show dC b c A rs T w w3 from ⟨_,0,s,k,m,o⟩);clear j t k m o;go_wp2;go_end0;exact ⟨rfl,H.out⟩
end
section
variable{h:Hp}{n n' u Ba ub:Nat}{c:Cf}{cy:Option Nat}{ns bs:Int}{L:Nat->Nat}{S S0 T:Nat->Prop}{w w':World}
def IV(h:Hp)(c:Cf)(Ba u ub:Nat)(cy:Option Nat)(n:Nat)(ns bs:Int)(S0:Nat->Prop):jW:=fun L S w=>nS w h.b c h.m h.rb ub cy ns bs/\ee w/\iC c/\c.half Ba/\u<=c.Wd/\xn c h.m Ba (Ba+u) (fun _=>True) L S0 w cy n/\∀k,S k↔S0 k\/k=h.b
theorem IV.stays(m:IV h c Ba u ub cy n ns bs S0 L S w)(hf:Fr T w w')(b:∀k,S k->¬T k)(d:¬T ch):IV h c Ba u ub cy n ns bs S0 L S w':=by
 obtain ⟨e,f,g,i,j,l,a⟩:=m;exact ⟨ay.frame e hf (b _ ((a _).2 (.inr rfl))),aE f hf d,g,i,j,l.stays hf (fun k o=>b k ((a k).2 (.inl o))) d,a⟩
theorem DX(v:IV h c Ba u ub cy n ns bs S0 L S w)(a:Nat)(t:Ba<=a)(o:a<Ba+u):Calls prog 278 #[.agg #[h.b],(a:Int)] w fun e w'=>e= .returned (.tuple #[.int .u64 ((L a:Nat):Int),(0:Int)])/\J7 w w':=by
 obtain ⟨W1,j⟩:∃W1,w.alloc (.cells #[h.b] 192)=W1:=⟨_,rfl⟩;have f:J7 w W1:=by rw [<-j];exact (Kb _ w).alloc _
 have g:ay W1 w.heap.size [h.b] 192:=by rw [<-j];exact ay.new w _ _
 obtain ⟨q,D,z,r,E,F,G⟩:=v.stays f (fun _ _ h=>h) id;have U:=g.cell 0 rfl;have l:=ay.cell q 11 rfl;have V:=ay.cell q 8 rfl;have m:=ae f
 cases cy with
 |none=>
  rw [show lZ none= .pointer none from rfl] at l;obtain ⟨x,Us,Hg,mp,⟨M,C,i⟩,k⟩:=F;have p:=rA k (r.mod z) (by have:=r.top;omega:Ba+u<=c.W) a t o;have B:=i a p;have d:=ae (jB C a p.1 p.2);rw [B] at d;generalize L a=X at*;clear v q D z r E G f g C k p t o x B i
  go_enter func278,ntmps278
  go_wp2_with fail
  refine d.out.mono ?_;rintro e w2 ⟨rfl,hp⟩;have H:=ae (m.out.trans hp J8);clear d hp m;go_wp2;go_ret2;exact ⟨rfl,H.out⟩
 |some y=>
  rw [show lZ (some y)= .pointer (some ⟨y,0,none⟩) from rfl] at l;obtain ⟨K,I,Y,J,hg,Q,fr,R,g1,⟨Us,_,A⟩,rfl,N,O,P⟩:=F;have d:=ae (CX g1 A.s a (by omega) o);generalize L a=X at*;generalize I.y=y at*;clear v q D z r E G f g t o K g1 A N O P
  go_enter func278,ntmps278
  go_wp2_with fail
  refine d.out.mono ?_;rintro e w2 ⟨rfl,hp⟩;have H:=ae (m.out.trans hp J8);clear d hp m;go_wp2;go_ret2;exact ⟨rfl,H.out⟩
theorem DU(h:Hp)(c:Cf)(Ba u ub:Nat)(cy:Option Nat)(n:Nat)(ns bs:Int)(S0:Nat->Prop):cY 192 (.agg #[h.b]) 278 (.agg #[h.b]) (IV h c Ba u ub cy n ns bs S0) (fun a=>Ba<=a/\a<Ba+u) where
 Yf:=fun w=>by kernel_rfl
 Yg:=enters_of func278 (by kernel_rfl) rfl
 stays:=fun L S w1 w2 T d hf o p=>d.stays hf o p
 Xu:= .inr (fun L S w h=>bu (h.2.1 0 0 rfl))
 lt:=fun L S w ⟨d,_,_,_,_,j,l⟩ k m=>((l k).1 m).elim (j.lt k) (fun e=>by rw [e];exact ay.lt d)
 load:=fun L S w a d g=>(DX d a g.1 g.2).mono (fun e w' ⟨i,f⟩=>⟨i,S,d.stays f (fun _ _ h=>h) id,f.mono J8,fun _ h=> .inl h⟩)
end
section
variable{h:Hp}{b n u Ba ub:Nat}{c:Cf}{A:AG}{rs l:List Nat}{φ L:Nat->Nat}{cy:Option Nat}{ns bs:Int}{S S0 T q:Nat->Prop}{w w':World}
theorem xn.memB(d:xn c h.m Ba (Ba+u) q L S w cy n):∃a Us Hg mp M,dQ w h.m a c.Pg c.W c.Fs Us Hg mp M:=by
 cases cy with
 |none=>
  obtain ⟨p,Us,Hg,mp,⟨M,r,_⟩,_⟩:=d
  grind
 |some y=>
  obtain ⟨t,j,s,e,hg,g,fr,i,x,⟨Us,_,f⟩,z,B,C,D,E,F,G,H⟩:=d;obtain ⟨Hg,a,mp,M,o,k,p1,_⟩:=f;have v:=p1.mem
  grind
def Ju(h:Hp)(c:Cf)(Ba u ub:Nat)(cy:Option Nat)(n:Nat)(ns bs:Int)(S0:Nat->Prop)(L:Nat->Nat)(EL:bT)(wx w3:World):Prop:=
 IV h c Ba u ub cy n ns bs S0 L (fun k=>S0 k\/k=h.b) w3/\Fr (fun k=>(S0 k\/k=h.b)\/EL.has k) wx w3
def JJ(h:Hp)(c:Cf)(Ba u ub:Nat)(cy:Option Nat)(n:Nat)(ns bs:Int)(S0:Nat->Prop)(L:Nat->Nat)(EL:bT)(w2:World)(no nw:Int)(sb:Nat)(wx:World):Prop:=
 (∃nr nv:Int,ay wx sb [(no:Int),(nw:Int),(nr:Int),(nv:Int)] 188)/\Ju h c Ba u ub cy n ns bs S0 L EL w2 wx
theorem Gj{EL:bT}{w2 f w4:World}{no nw a d:Int}(e:Ju h c Ba u ub cy n ns bs S0 L EL f w4)(g:J7 w2 f):JJ h c Ba u ub cy n ns bs S0 L EL w2 no nw w4.heap.size (w4.alloc (.cells #[(no:Int),(nw:Int),(a:Int),(d:Int)] 188)):=by
 have hf:J7 w4 (w4.alloc (.cells #[(no:Int),(nw:Int),(a:Int),(d:Int)] 188)):=(Kb _ w4).alloc _;exact ⟨⟨a,d,ay.new w4 _ _⟩,e.1.stays hf (fun _ _ h=>h) id,((g.mono J8).trans e.2 (fun k h=> .inl h)).trans hf J8⟩
theorem zO{EL:bT}{w2 g w4:World}{no nw d f:Int}{sb:Nat}(a:Ju h c Ba u ub cy n ns bs S0 L EL g w4)(o:J7 w2 g)(j:∀k,(S0 k\/k=h.b)->k<w2.heap.size)(m:ch<w2.heap.size)(p:w2.heap.size<=sb)(i:ay w4 sb [(0:Int),(0:Int),(0:Int),(0:Int)] 188):
  JJ h c Ba u ub cy n ns bs S0 L EL w2 no nw sb ((((w4.setCell sb (.int .i64 no)).setCell ⟨sb,1,none⟩ (.int .i64 nw)).setCell ⟨sb,2,none⟩ (.int .i64 d)).setCell ⟨sb,3,none⟩ (.int .i64 f)):=by
 have hf:Fr (fun k=>k=sb) w4 ((((w4.setCell sb (.int .i64 no)).setCell ⟨sb,1,none⟩ (.int .i64 nw)).setCell ⟨sb,2,none⟩ (.int .i64 d)).setCell ⟨sb,3,none⟩ (.int .i64 f)):=
  ((((Kb (fun k=>k=sb) w4).setCell sb (.inl rfl) _).setCell ⟨sb,1,none⟩ (.inl rfl) _).setCell ⟨sb,2,none⟩ (.inl rfl) _).setCell ⟨sb,3,none⟩ (.inl rfl) _
 exact ⟨⟨d,f,(((i.set 0 _).set 1 _).set 2 _).set 3 _⟩,a.1.stays hf (fun k a e=>by grind) (fun e=>by omega),((o.mono J8).trans a.2 (fun k h=> .inl h)).trans hf (fun k h=> .inr (by omega))⟩
def IU(b:Nat)(c:Cf)(A:AG)(rs l:List Nat)(u n:Nat)(T:Nat->Prop)(w:World)(e:Ending)(w':World):Prop:=
 e= .returned (.tuple #[((l.length:Int):Int),((A.Wd l:Int):Int)])/\eF b c A rs u n T w'/\Fr T w w'
theorem Iy{EL:bT}{w2 w6:World}{sb:Nat}{no nw:Int}(f:lp (fun _=>True) h c A rs φ L Ba u ub cy n ns bs S0 w)(r:∀k,T k↔lC h ub S0 k)(i:n=0->cy=none)(hf:J7 w w2)(j:∀k,EL.has k->w.heap.size<=k)(y:JJ h c Ba u ub cy n ns bs S0 L EL w2 no nw sb w6):eF h.b c A rs u n T w6/\Fr T w w6:=by
 obtain ⟨_,⟨g1,s,t,P,Q,v,R⟩,m⟩:=y;have x:=f.lt;have a:Fr (fun k=>S0 k\/k=h.b) w w6:=(hf.mono J8).trans m (fun k g=>g.imp id (fun h=>j k h));obtain ⟨F,G,H,I,J,K,M,N,O⟩:=f.e;have o:∀k,(k=h.rb\/k=h.rg\/k=ub)->¬(S0 k\/k=h.b):=fun k g p=>by
  rcases p with p|rfl
  ·obtain ⟨z,B,C,D,E⟩:=f.d k p;omega
  omega
 exact ⟨⟨h,φ,L,Ba,ub,cy,ns,bs,S0,rfl,⟨t,g1,f.roots.frame a (o _ (.inl rfl)) (o _ (.inr (.inl rfl))),ay.frame f.Yd a (o _ (.inr (.inr rfl))),s,f.laid,f.Sl,f.fits,f.half,v,f.d,f.e⟩,r,i⟩,a.mono (fun k g=> .inl ((r k).2 (g.elim .inl (fun h=> .inr (.inl h)))))⟩
end
section
variable{h:Hp}{b n u Ba ub:Nat}{c:Cf}{A:AG}{rs l:List Nat}{φ L:Nat->Nat}{cy:Option Nat}{ns bs:Int}{S S0 T q:Nat->Prop}{w w':World}
theorem Ix{EL:bT}{w2:World}(f:lp (fun _=>True) h c A rs φ L Ba u ub cy n ns bs S0 w)(hl:dt A rs l)(hf:J7 w w2)(F:eo w2 EL c.W (fun _=>0))(hn:∀k,EL.has k->w.heap.size<=k):
  ∀(j:World) (_:J7 w2 j) (s E:Nat) (_:w2.heap.size<=s) (_:s<j.heap.size) (_:∀(i a:Nat),(rs.map φ)[i]? =some a->j.cell? ⟨s,i,none⟩=some (a:Int)),Calls prog 124 #[.iface 192 (.agg #[h.b]),.slice (some s) (rs.map φ).length E,EL.m,((c.stack:Int):Int)] j fun e w3=>
   ∃B C:Int,e= .returned (.tuple #[.agg #[((l.length:Int):Int),((A.Wd l:Int):Int),(B:Int),(C:Int)],(0:Int)])/\(∀q cs t,w2.heap.size<=q->ay j q cs t->ay w3 q cs t)/\Ju h c Ba u ub cy n ns bs S0 L EL j w3:=by
 intro j J s E r1 r2 r3;have z:=hf.trans J J8;have g:=f.Qb z;have hz:=hf.size;have ag:ch<w.heap.size:=bu (f.Qo 0 0 rfl);have Z:=F.lt;have ad:∀k,(S0 k\/k=h.b)->k<w.heap.size:=fun k r=>f.lt k (r.elim .inl (fun e=> .inr (.inl e)))
 obtain ⟨e1,e2,e3,e4,e5,e6,e7,e8,e9⟩:=f.e;obtain ⟨G,p⟩:=f.laid.conc;have U:=gx.sound f.laid p;have I:=f.half.top;have H:=f.fits;have X:=f.Qw.W5;have V:=gx.obj f.laid p (dom:=fun a=>Ba<=a/\a<Ba+u) (fun a x y=>⟨x,y⟩) (by omega);have hi:IV h c Ba u ub cy n ns bs S0 L (fun k=>S0 k\/k=h.b) j:=⟨g.Qd,g.Qo,g.Qw,g.half,g.fits,g.mem,fun _=>dO⟩;refine (nG (w:=j) (Rm:=c.stack) (DU h c Ba u ub cy n ns bs S0) hi U (show Ba+u<=c.W by omega) V f.Qw.Za f.Qw.Zb (F.frame J (fun _ _ h=>h)) g.Qo (fun k r=>⟨fun h=>by grind,fun e=>by
  subst e;rcases r with r|r
  ·exact (f.d _ r).2.2.2.2 rfl
  omega⟩) (fun h=>by grind) s E ⟨r2,fun h=>by grind,fun h=>by grind⟩ r3 (by have x:=f.roots.small;omega)).mono ?_
 rintro e w3 ⟨M,B,C,S',rfl,q1,q2,q3,D,q5,K⟩;have v:=gx.ext f.laid p q5 D.marked;have o:=dt.Qc f.laid v hl;have x:(M.no:Int)=(l.length:Int):=by rw [D.no,o.2]
 have y:(M.nw:Int)=(A.Wd l:Int):=by rw [D.nw,o.1]
 rw [x,y];refine ⟨B,C,rfl,fun q cs t hq Y=>Y.frame K (fun h=> ?_),?_,K⟩
 ·grind
 ·obtain ⟨g1,N,O,P,Q,R,g8⟩:=q1;exact ⟨g1,N,O,P,Q,R,fun _=>dO⟩
theorem Eb(hi:eF b c A rs u n T w)(hl:dt A rs l):Calls prog 72 #[b] w (IU b c A rs l u n T w):=by
 obtain ⟨h,φ,L,Ba,ub,cy,ns,bs,S0,rfl,j,hT,Y⟩:=hi;have HN:=ae (gk j.Qd);obtain ⟨Sm,Us,Hg,mp,M,Z⟩:=j.mem.memB;have V:=ae (gR Z);have aj:=j.Qw.W5;have am:=j.Qw.Qp;have U:=ae (oJ c.W (by omega) (by omega) w);have K:=ae (fun w2 w' (hf:J7 w w2) (v:J7 w2 w')=>ol (j.Qb (hf.trans v J8)).roots);have R:=ae (fun EL w2 hf he hn=>Ix (EL:=EL) (w2:=w2) j hl hf he hn);have HC:=ae (fun w' (hf:J7 w w')=>(show w'.cell? ⟨h.b,9,none⟩=some (.pointer (some ⟨h.rb,0,none⟩))/\w'.cell? ⟨h.b,5,none⟩=some (.int .i64 (c.stack:Int)) from ⟨ay.cell (j.Qb hf).Qd 9 rfl,ay.cell (j.Qb hf).Qd 5 rfl⟩));have C:Hid (∀EL wx w3,Ju h c Ba u ub cy n ns bs S0 L EL wx w3->(w3.cell? ⟨h.b,9,none⟩=some (.pointer (some ⟨h.rb,0,none⟩))/\w3.cell? ⟨h.b,5,none⟩=some (.int .i64 (c.stack:Int)))):=by
  show∀EL wx w3,_
  intro EL wx w3 I;exact ⟨ay.cell I.1.1 9 rfl,ay.cell I.1.1 5 rfl⟩
 have O:Hid (∀(w':World) o,(w'.cell? ⟨h.b,9,none⟩=some (.pointer (some ⟨h.rb,0,none⟩))/\w'.cell? ⟨h.b,5,none⟩=some (.int .i64 (c.stack:Int)))->((w'.alloc o).cell? ⟨h.b,9,none⟩=some (.pointer (some ⟨h.rb,0,none⟩))/\(w'.alloc o).cell? ⟨h.b,5,none⟩=some (.int .i64 (c.stack:Int)))):=by
  show∀(w':World) o,_
  intro w' o r;exact ⟨(World.cell?_alloc_lt _ _ _ (World.block_lt_of_cell? _ _ r.1)).trans r.1,(World.cell?_alloc_lt _ _ _ (World.block_lt_of_cell? _ _ r.2)).trans r.2⟩
 have P:Hid (∀(w':World) (sb:Nat) (x0 x1 x2 x3:Value),sb≠h.b->(w'.cell? ⟨h.b,9,none⟩=some (.pointer (some ⟨h.rb,0,none⟩))/\w'.cell? ⟨h.b,5,none⟩=some (.int .i64 (c.stack:Int)))->(((((w'.setCell sb x0).setCell ⟨sb,1,none⟩ x1).setCell ⟨sb,2,none⟩ x2).setCell ⟨sb,3,none⟩ x3).cell? ⟨h.b,9,none⟩=some (.pointer (some ⟨h.rb,0,none⟩))/\((((w'.setCell sb x0).setCell ⟨sb,1,none⟩ x1).setCell ⟨sb,2,none⟩ x2).setCell ⟨sb,3,none⟩ x3).cell? ⟨h.b,5,none⟩=some (.int .i64 (c.stack:Int)))):=by
  show∀(w':World) (sb:Nat) (x0 x1 x2 x3:Value),_
  intro w' sb x0 x1 x2 x3 ad r;have hf:=((((Kb (fun k=>k=sb) w').setCell sb (.inl rfl) x0).setCell ⟨sb,1,none⟩ (.inl rfl) x1).setCell ⟨sb,2,none⟩ (.inl rfl) x2).setCell ⟨sb,3,none⟩ (.inl rfl) x3;exact ⟨(World.cell?_of_block (a:=⟨h.b,9,none⟩) (hf.block _ (bu r.1) (fun e=>ad (Eq.symm e)))).trans r.1,(World.cell?_of_block (a:=⟨h.b,5,none⟩) (hf.block _ (bu r.2) (fun e=>ad (Eq.symm e)))).trans r.2⟩
 have N:=ae (fun EL w2 w6 sb no nw hf al G=>Iy (EL:=EL) (w2:=w2) (w6:=w6) (sb:=sb) (no:=no) (nw:=nw) j hT Y hf al G);have y:=ae (show (∀k,(S0 k\/k=h.b)->k<w.heap.size)/\ch<w.heap.size/\h.b<w.heap.size from ⟨fun k I=>j.lt k (I.elim .inl (fun e=> .inr (.inl e))),bu (j.Qo 0 0 rfl),ay.lt j.Qd⟩);have k8:w.cell? ⟨h.b,8,none⟩=some (.pointer (some ⟨h.m,0,none⟩)):=ay.cell j.Qd 8 rfl;have HQ:Hid (∀w6,(eF h.b c A rs u n T w6/\Fr T w w6)->IU h.b c A rs l u n T w (.returned (.tuple #[((l.length:Int):Int),((A.Wd l:Int):Int)])) w6):=ae (fun w6 r=>⟨rfl,r.1,r.2⟩);generalize (IU h.b c A rs l u n T w)=Q at*;generalize rs.map φ=ls at*;generalize (l.length:Int)=no at*;generalize (A.Wd l:Int)=nw at*;clear j hT Y Z aj am hl
 go_enter func72,ntmps72
 go_wp2_with fail
 refine HN.out.mono ?_;rintro e w1 ⟨rfl,rfl⟩;clear HN;go_wp2_with fail
 refine V.out.mono ?_;rintro e w1 ⟨rfl,rfl⟩;clear V;go_wp2_with fail
 refine U.out.mono ?_;rintro e w2 ⟨EL,rfl,he,hn,hf⟩;have J:=ae (fun w' v=>K.out w2 w' hf v);have D:=ae (R.out EL w2 hf he hn);have x:=ae (fun w' (v:J7 w2 w')=>HC.out w' (hf.trans v J8));have B:=ae (fun w6 sb no nw G=>N.out EL w2 w6 sb no nw hf hn G);have hz:=hf.size;have g:=ae (show (∀k,(S0 k\/k=h.b)->k<w2.heap.size)/\ch<w2.heap.size/\h.b<w2.heap.size from ⟨fun k I=>bn (y.out.1 k I) hz,bn y.out.2.1 hz,bn y.out.2.2 hz⟩);have s:=ae ((Kb (fun _=>False) w2).drew);have t:=ae (fun o=>((Kb (fun _=>False) w2).alloc o).drew);clear U K R HC N y he hn hf hz k8
 go_upto_region 4 with fail
 go_cut [6,7] from 19 to 36 (fun v6 v7 wx=>∃sb:Nat,v6= .pointer (some ⟨sb,0,none⟩)/\v7= .int .i64 0/\Hid (JJ h c Ba u ub cy n ns bs S0 L EL w2 no nw sb wx))
 case first=>
  go_region_held3 (fun w'=>w'.cell? ⟨h.b,9,none⟩=some (.pointer (some ⟨h.rb,0,none⟩))/\w'.cell? ⟨h.b,5,none⟩=some (.int .i64 (c.stack:Int))) (with_reducible first
   |assumption
   |exact x.out _ s.out
   |exact x.out _ (t.out _)
   |exact O.out _ _ (by assumption)
   |exact P.out _ _ _ _ _ _ (by first|exact fy g.out.2.2|exact fy (bn g.out.2.2 f.size)) (by assumption)) (first
   |(go_at_call 125;refine (J.out _ (by with_reducible first|exact s.out|exact t.out _)).mono ?_;rintro e w3 ⟨rb,rc,rfl,r1,r2,r3,z⟩;(have f:J7 w2 w3:=by with_reducible first|exact s.out.trans z J8|exact (t.out _).trans z J8);(have ah:w2.heap.size<=rb:=by with_reducible first|exact aH s.out.size r1|exact aH (t.out _).size r1);have an:=x.out w3 f;(try (have ak:ay w3 w2.heap.size [(0:Int),(0:Int),(0:Int),(0:Int)] 188:=ay.frame (by with_reducible exact ay.drew (ay.new w2 _ _)) z id));clear z r1)
   |(go_at_call 124;with_reducible refine (D.out w3 f rb rc ah r2 r3).mono ?_;rintro e w4 ⟨nr,nv,rfl,F,p⟩;have X:=C.out _ _ _ p;(try (have d:=F _ _ _ (ag _) ak;obtain ⟨k0,k1,k2,k3,_⟩:=Kd d;have l0:=d.free 0;have l1:=d.free 1;have l2:=d.free 2;have l3:=d.free 3)))
   |(go_at_call 124;refine (D.out (w3.alloc _) (f.alloc _) rb rc ah (by rw [World.size_alloc];omega) (fun i a ha=>(World.cell?_alloc_lt _ _ _ (World.block_lt_of_cell? _ _ (r3 i a ha))).trans (r3 i a ha))).mono ?_;rintro e w4 ⟨nr,nv,rfl,F,p⟩;have X:=C.out _ _ _ p;have d:=F _ _ _ f.size (ay.new w3 [(0:Int),(0:Int),(0:Int),(0:Int)] 188);obtain ⟨k0,k1,k2,k3,_⟩:=Kd d;have l0:=d.free 0;have l1:=d.free 1;have l2:=d.free 2;have l3:=d.free 3))
  ·go_wp2;go_meet
   case rel=>exact ⟨_,rfl,rfl,ae (Gj p f)⟩
  ·go_wp2;go_meet
   case rel=>exact ⟨_,rfl,rfl,ae (zO p (f.alloc _) g.out.1 g.out.2.1 f.size d)⟩
  ·go_wp2;go_meet
   case rel=>exact ⟨_,rfl,rfl,ae (zO p f g.out.1 g.out.2.1 (ag _) d)⟩
 case rest=>
  obtain ⟨sb,rfl,rfl,G⟩:=hcut;have E:=B.out wc sb no nw G.out;have H:=ae (fun w6 (hf:J7 wc w6)=>HQ.out w6 ⟨E.1.Qb hf,E.2.trans hf J8⟩);obtain ⟨nr,nv,zb⟩:=G.out.1;obtain ⟨k0,k1,_⟩:=Ke zb;clear J D x B g s t O P C HQ G zb E;go_wp2
  go_quiet (fail)
  go_wp2;exact H.out _ ((Kb _ _).drewN _)
end
structure qz(d x:Nat)(bs:List Nat)(A:AG)(rs:List Nat):Prop where
 slot:rs[d]? =some x
 ne:x≠0
 np:A.np x=0
 nf:A.nf x=bs.length
 val:∀(i f:Nat),bs[i]? =some f->A.Qv x i=f
 only:∀s:Nat,s≠d->rs[s]? ≠some x
 out:∀y,Reach A.gr rs y->∀i,i<A.np y->A.Qv y i≠x
section
variable{d x s y z v k:Nat}{bs rs:List Nat}{A:AG}
theorem qz.Yc(h:qz d x bs A rs)(n:s≠d)(r:z≠x)(m:z=0\/Reach A.gr rs z):qz d x bs A (rs.set s z):=by
 obtain ⟨b,c,f,g,i,j,l⟩:=h;refine ⟨by rw [co n];exact b,c,f,g,i,fun t o e=> ?_,fun y p=>l y (sW m p)⟩;by_cases a:s=t
 ·subst a;rw [kC] at e
  cases hq:rs[s]? with
  |none=>rw [hq] at e;cases e
  |some q=>rw [hq] at e;cases e;exact r rfl
 ·rw [co a] at e;exact j t o e
theorem qz.reach(h:qz d x bs A rs):Reach A.gr rs x:= .root (ar h.slot) h.ne
theorem qz.ptr(h:qz d x bs A rs)(j:rs[s]? =some y)(l:s≠d)(g:∀q,Reach A.gr rs q->dD (A.np q) (A.nf q) (A.ng q))(i:Int):fV A y i 1≠x/\(fV A y i 1=0\/Reach A.gr rs (fV A y i 1)):=by
 unfold fV;by_cases a:fC A y i 1=0
 ·rw [if_pos a];have c:y≠0:=fun h=>by unfold fC nX at a;rw [if_pos h] at a;omega
  have b:Reach A.gr rs y:= .root (ar j) c;have f:=(rS a (by decide) (g y b)).2.2.2.1 rfl;refine ⟨h.out y b _ f,?_⟩;by_cases e:A.Qv y i.toNat=0
  ·exact .inl e
  ·exact .inr (AG.Ql b f e)
 ·rw [if_neg a];exact ⟨Ne.symm h.ne,.inl rfl⟩
theorem qz.Qy(h:qz d x bs A rs)(r:rs[s]? =some y)(H:s≠d)(F:∀q,Reach A.gr rs q->dD (A.np q) (A.nf q) (A.ng q)){i kd:Int}(G:1<=kd)(a:2<=kd\/v≠x/\(v=0\/Reach A.gr rs v)):qz d x bs (A.Qy y i kd v) rs:=by
 unfold AG.Qy;by_cases b:fC A y i kd=0
 ·rw [if_pos b];have m:y≠0:=fun h=>by unfold fC nX at b;rw [if_pos h] at b;omega
  have p:Reach A.gr rs y:= .root (ar r) m;have o:=rS b G (F y p);have n:x≠y:=fun e=>h.only s H (by rw [e];exact r)
  obtain ⟨t,u,w,B,C,D,E⟩:=h;have l:∀q,Reach (A.put y i.toNat v).gr rs q->Reach A.gr rs q:=fun q g=>AG.Xj p (a.elim (fun h=> .inl (o.2.2.2.2.1 h)) (fun h=> .inr h.2)) g
  refine ⟨t,u,w,B,fun j f hf=> ?_,D,fun q g j c=> ?_⟩
  ·show (if x=y/\j=i.toNat then v else A.Qv x j)=f
   rw [if_neg (fun h=>n h.1)];exact C j f hf
  ·show (if q=y/\j=i.toNat then v else A.Qv q j)≠x
   have c:j<A.np q:=c;split
   ·rename_i e;obtain ⟨rfl,rfl⟩:=e;rcases a with a|a
    ·have:=o.2.2.2.2.1 a;omega
    ·exact a.1
   ·exact E q (l q g) j c
 ·rw [if_neg b];exact h
theorem qz.new{p f g:Nat}(h:qz d x bs A rs)(C:s≠d)(E:k≠0)(m:¬Reach A.gr rs k):qz d x bs (A.new k p f g) (rs.set s k):=by
 have a:x≠k:=fun e=>m (e▸h.reach)
 have F:=h.reach;obtain ⟨n,l,o,r,u,w,B⟩:=h;refine ⟨by rw [co C];exact n,l,?_,?_,fun i f hf=> ?_,fun t D e=> ?_,fun q j i c=> ?_⟩
 ·show (if x=k then p else A.np x)=0
  rw [if_neg a];exact o
 ·show (if x=k then f else A.nf x)=bs.length
  rw [if_neg a];exact r
 ·show (if x=k then 0 else A.Qv x i)=f
  rw [if_neg a];exact u i f hf
 ·by_cases b:s=t
  ·subst b;rw [kC] at e
   cases j:rs[s]? with
   |none=>rw [j] at e;cases e
   |some q=>rw [j] at e;cases e;exact a rfl
  ·rw [co b] at e;exact w t D e
 ·show (if q=k then 0 else A.Qv q i)≠x
  split
  ·exact Ne.symm l
  ·rename_i e;have c:i<(if q=k then p else A.np q):=c;rw [if_neg e] at c;exact B q ((AG.Xq m j).resolve_left e) i c
theorem qz.make{n:Nat}(j:d<rs.length)(h:∀q∈rs,q=0)(g:k≠0)(l:¬Reach A.gr rs k):qz d k (List.replicate n 0) (A.new k 0 n 0) (rs.set d k):=by
 have c:∀q,¬Reach A.gr rs q:=fun q a=>by
  induction a with
  |root h1 h2=>exact h2 (h _ h1)
  |step _ _ _ ih=>exact ih
 refine ⟨by rw [ix (by exact j)],g,by show (if k=k then 0 else A.np k)=0;rw [if_pos rfl],by show (if k=k then n else A.nf k)=_;rw [if_pos rfl,bB],fun i f hf=> ?_,fun t m e=> ?_,fun q a i b=> ?_⟩
 ·show (if k=k then 0 else A.Qv k i)=f
  rw [ff] at hf;rw [if_pos rfl];split at hf
  ·exact bK hf
  ·cases hf
 ·rw [co (Ne.symm m)] at e;exact g (h _ (ar e))
 ·rcases AG.Xq l a with rfl|a
  ·have b:i<(if q=q then 0 else A.np q):=b;rw [if_pos rfl] at b;omega
  ·exact absurd a (c q)
theorem qz.setf(h:qz d x bs A rs){i:Nat}(n:i<bs.length)(w:dD (A.np x) (A.nf x) (A.ng x))(v:Nat):fC A x i 2=0/\qz d x (bs.set i v) (A.Qy x i 2 v) rs:=by
 have hf:=uB h.ne w (i:=i) (by rw [h.nf];exact n);rw [h.np,show ((0:Nat):Int)+(i:Int)=i by omega] at hf;refine ⟨hf.1,?_⟩;unfold AG.Qy;rw [if_pos hf.1,show (i:Int).toNat=i from rfl];have b:=h.np;obtain ⟨l,m,o,p,r,t,u⟩:=h;have g:∀q,Reach (A.put x i v).gr rs q->Reach A.gr rs q:=fun q c=>AG.Xj (.root (ar l) m) (.inl (by omega)) c
 refine ⟨l,m,o,by rw [aW];exact p,fun j f hf=> ?_,t,fun q c j a=> ?_⟩
 ·show (if x=x/\j=i then v else A.Qv x j)=f
  by_cases a:j=i
  ·subst a;rw [ix n] at hf;rw [if_pos ⟨rfl,rfl⟩];exact bK hf
  ·rw [co (Ne.symm a)] at hf;rw [if_neg (fun h=>a h.2)];exact r j f hf
 ·show (if q=x/\j=i then v else A.Qv q j)≠x
  have a:j<A.np q:=a;split
  ·rename_i e;rw [e.1,b] at a;omega
  ·exact u q (g q c) j a
theorem qz.Qt(h:qz d x bs A rs):A.Qt x=bs:=by
 apply eO;intro i;unfold AG.Qt;rw [aR,h.np];by_cases b:i<A.nf x
 ·rw [jm b];have a:i<bs.length:=by rw [<-h.nf];exact b
  rw [aC a];simp only [Option.map_some,bq,aT];exact h.val i _ (aC a)
 ·rw [dw (by rw [jY];omega),dw (by rw [<-h.nf];omega)];rfl
end
section
variable{b u n:Nat}{c:Cf}{A:AG}{rs:List Nat}{T:Nat->Prop}{w w':World}
theorem eF.hdok(d:eF b c A rs u n T w):∀q,Reach A.gr rs q->dD (A.np q) (A.nf q) (A.ng q):=by
 obtain ⟨h,φ,L,Ba,k,i,ns,g,S,rfl,f,j,a⟩:=d;exact fun q e=>(f.laid.head q e).2
theorem rP(j:eF b c A rs u n T w)(z p f g:Int):Calls prog 5 #[b,(z:Int),ft p f g] w fun e w'=>∃C:Int,e= .returned (C:Int)/\((C=0/\∃s k P F G:Nat,z=s/\p=P/\f=F/\g=G/\k≠0/\(¬Reach A.gr rs k)/\dC b c (A.new k P F G) (rs.set s k) T w w')\/(C==0)=false/\dC b c A rs T w w'):=by
 by_cases D:∃s:Nat,z=s/\s<c.Sl
 ·obtain ⟨s,rfl,M⟩:=D;by_cases t:dD p f g
  ·obtain ⟨P,rfl⟩:∃P:Nat,p=P:=⟨p.toNat,by unfold dD at t;omega⟩;obtain ⟨F,rfl⟩:∃F:Nat,f=F:=⟨f.toNat,by unfold dD at t;omega⟩;obtain ⟨G,rfl⟩:∃G:Nat,g=G:=⟨g.toNat,by unfold dD at t;omega⟩;obtain ⟨l,m⟩:=j.Yv;have L:¬Reach A.gr rs (l.sum+1):=fun y=>by
    have:=(m.2 _).2 y;have q:∀l:List Nat,∀x∈l,x<=l.sum:=fun l=>by
     induction l with
     |nil=>intro x v;cases v
     |cons a l ih=>
      intro x v;rw [nm];rcases cG.1 v with rfl|v
      ·omega
      ·have:=ih x v;omega
    have:=q l _ this;omega
   refine (pH j m M t (pW _) L).mono ?_;rintro e w' (⟨_,rfl,h⟩|⟨_,rfl,h⟩)
   ·exact ⟨0,rfl,.inl ⟨rfl,s,_,P,F,G,rfl,rfl,rfl,rfl,pW _,L,h⟩⟩
   ·exact ⟨21,rfl,.inr ⟨rfl,h⟩⟩
  ·refine (Gq j M t).mono ?_;rintro e w' ⟨rfl,h⟩;exact ⟨15,rfl,.inr ⟨rfl,j.Xf.Qb h⟩⟩
 ·have d:J7 w (w.alloc (.cells #[(p:Int),(f:Int),(g:Int)] 32)):=(Kb _ w).alloc _;obtain ⟨W1,r⟩:∃W1,w.alloc (.cells #[(p:Int),(f:Int),(g:Int)] 32)=W1:=⟨_,rfl⟩;rw [r] at d;have J:=ae (lU (j.Qb d));obtain ⟨O,Q,φ,N,y,m,_⟩:=D5 (j.Qb d);have B:=ae (px y z);rw [m] at B;have K:=ae D;have E:=ae (fun w' (hf:J7 W1 w')=>j.Xf.Qb (w':=w') (d.trans hf J8));have I:Hid (∀i a:Nat,z=i->(rs.map φ)[i]? =some a->False):=ae (fun i a o q=>K.out ⟨i,o,by rw [<-m];exact (aj.1 q).1⟩);clear j y m D d;unfold ft
  go_enter func5,ntmps5
  go_wp2_with fail
  refine J.out.mono ?_;rintro e w1 ⟨rfl,rfl⟩;clear J r;go_wp2_with fail
  refine B.out.mono ?_;rintro e w1 ⟨⟨i,a,o,q,rfl⟩|⟨o,rfl⟩,hf⟩
  ·exact (I.out i a o q).elim
  ·have H:=ae (E.out w1 hf);clear B N o hf E I K;go_wp2;go_ret;exact ⟨17,rfl,.inr ⟨rfl,H.out⟩⟩
end
section
variable{b d x:Nat}{c:Cf}{bs Kp:List Nat}{w0 w w':World}
def gy(b:Nat)(c:Cf)(d x:Nat)(bs:List Nat)(w0:World)(Kp:List Nat)(w:World):Prop:=∃A rs u n T,qz d x bs A rs/\eF b c A rs u n T w/\J7 w0 w/\(∀k,T k->w0.heap.size<=k)/\ch<w0.heap.size/\∀k∈Kp,¬T k/\k<w.heap.size/\w0.heap.size<=k
def kj(b:Nat)(c:Cf)(d x:Nat)(bs:List Nat)(w0:World)(Kp:List Nat)(w w':World):Prop:=gy b c d x bs w0 Kp w'/\w.heap.size<=w'.heap.size/\∀k∈Kp,∀cs t,ay w k cs t->ay w' k cs t
theorem gy.Qb(h:gy b c d x bs w0 Kp w)(hf:J7 w w'):gy b c d x bs w0 Kp w':=by
 obtain ⟨A,rs,u,n,T,f,g,i,j,l,a⟩:=h;have m:=hf.size;exact ⟨A,rs,u,n,T,f,g.Qb hf,i.trans hf J8,j,l,fun k e=>⟨(a k e).1,by have:=(a k e).2;omega,(a k e).2.2⟩⟩
theorem gy.fr(h:gy b c d x bs w0 Kp w):J7 w0 w:=let ⟨_,_,_,_,_,_,_,h,_⟩:=h;h
theorem gy.add(h:gy b c d x bs w0 Kp w)(o:Obj):gy b c d x bs w0 (w.heap.size::Kp) (w.alloc o):=by
 obtain ⟨A,rs,u,n,T,g,e,f,i,j,l⟩:=h;have hf:J7 w (w.alloc o):=(Kb _ w).alloc o;have m:=f.size;refine ⟨A,rs,u,n,T,g,e.Qb hf,f.trans hf J8,i,j,fun k a=> ?_⟩;rw [World.size_alloc];rcases cG.1 a with rfl|a
 ·exact ⟨fun h=>by have:=e.lt _ h;omega,by omega,m⟩
 ·have:=l k a;exact ⟨this.1,by omega,this.2.2⟩
theorem gy.set(h:gy b c d x bs w0 Kp w){k:Nat}(r:k∈Kp)(j:Nat)(v:Value):gy b c d x bs w0 Kp (w.setCell ⟨k,j,none⟩ v):=by
 obtain ⟨A,rs,u,n,T,i,l,m,o,p,g⟩:=h;have hf:Fr (fun q=>q=k) w (w.setCell ⟨k,j,none⟩ v):=(Kb (fun q=>q=k) w).setCell ⟨k,j,none⟩ (.inl rfl) v;have s:=hf.size;have a:=g k r;refine ⟨A,rs,u,n,T,i,l.stays hf (fun q f e=>a.1 (e▸f)) (fun e=> ?_),m.setCell ⟨k,j,none⟩ (.inr a.2.2) v,o,p,fun q f=>⟨(g q f).1,by have:=(g q f).2.1;omega,(g q f).2.2⟩⟩;have e:ch=k:=e;omega
theorem gy.op(h:gy b c d x bs w0 Kp w){E:Ending->Prop}{f:FuncId}{args:Array Value}(g:∀A rs u n T,qz d x bs A rs->eF b c A rs u n T w->Calls prog f args w fun e w'=>E e/\∃l i,qz d x bs l i/\dC b c l i T w w'):Calls prog f args w fun e w'=>E e/\kj b c d x bs w0 Kp w w':=by
 obtain ⟨A,rs,u,n,T,v,y,p,q,z,j⟩:=h;refine (g A rs u n T v y).mono ?_;rintro e w' ⟨C,l,i,F,H,D,s,G,o,r⟩;have I:=p.size;have m:=o.size;exact ⟨C,⟨l,i,H,D,s,F,G,p.trans o (fun k a=> .inr (q k a)),fun k a=>(r k a).elim (q k) (fun h=>by omega),z,fun k a=>⟨fun h=>(r k h).elim (j k a).1 (fun h=>by have:=(j k a).2.1;omega),by have:=(j k a).2.1;omega,(j k a).2.2⟩⟩,m,fun k a cs t B=>ay.frame B o (j k a).1⟩
theorem gy.ask(h:gy b c d x bs w0 Kp w){E:Ending->Prop}{f:FuncId}{args:Array Value}(g:∀A rs u n T,qz d x bs A rs->eF b c A rs u n T w->Calls prog f args w fun e w'=>E e/\dC b c A rs T w w'):Calls prog f args w fun e w'=>E e/\kj b c d x bs w0 Kp w w':=
 h.op (fun A rs u n T a i=>(g A rs u n T a i).mono (fun _ _ q=>⟨q.1,A,rs,a,q.2⟩))
def EI(e:Ending):Prop:=∃cd:Int,e= .returned (cd:Int)
theorem EC(h:gy b c d x bs w0 Kp w){z:Int}(q:z≠d)(p f g:Int):Calls prog 5 #[b,(z:Int),ft p f g] w fun e w'=>EI e/\kj b c d x bs w0 Kp w w':=
 h.op (fun A rs u n T j l=>(rP l z p f g).mono (by
  rintro e w' ⟨i,rfl,⟨_,s,k,P,F,G,rfl,_,_,_,m,o,a⟩|⟨_,a⟩⟩
  ·exact ⟨⟨i,rfl⟩,_,_,j.new (by omega) m o,a⟩
  ·exact ⟨⟨i,rfl⟩,_,_,j,a⟩))
theorem Gz(h:gy b c d x bs w0 Kp w){z y:Int}(m:z≠d)(l:y≠d)(i:Int):Calls prog 73 #[b,(z:Int),(y:Int),(i:Int)] w fun e w'=>EI e/\kj b c d x bs w0 Kp w w':=
 h.op (fun A rs u n T a j=>(BM j z y i).mono (by
  rintro e w' ⟨g,rfl,⟨s,t,v,rfl,rfl,k,f⟩|f⟩
  ·have hp:=a.ptr k (by omega) j.hdok i;exact ⟨⟨g,rfl⟩,_,_,a.Yc (by omega) hp.1 hp.2,f⟩
  ·exact ⟨⟨g,rfl⟩,_,_,a,f⟩))
theorem Ey(h:gy b c d x bs w0 Kp w){z y:Int}(o:z≠d)(m:y≠d)(i:Int):Calls prog 74 #[b,(z:Int),(i:Int),(y:Int)] w fun e w'=>EI e/\kj b c d x bs w0 Kp w w':=
 h.op (fun A rs u n T a j=>(yk j z i y).mono (by
  rintro e w' ⟨g,rfl,⟨s,q,t,v,rfl,l,rfl,k,f⟩|f⟩
  ·exact ⟨⟨g,rfl⟩,_,_,a.Qy l (by omega) j.hdok (by decide) (.inr ⟨fun e=>a.only t (by omega) (by rw [k,e]),ks (ar k)⟩),f⟩
  ·exact ⟨⟨g,rfl⟩,_,_,a,f⟩))
theorem IH(h:gy b c d x bs w0 Kp w){z:Int}(m:z≠d)(i:Int){v:Nat}(l:v<18446744073709551616):Calls prog 75 #[b,(z:Int),(i:Int),.int .u64 v] w fun e w'=>EI e/\kj b c d x bs w0 Kp w w':=
 h.op (fun A rs u n T g j=>(D6 j z i v l).mono (by
  rintro e w' ⟨f,rfl,⟨s,q,rfl,k,_,a⟩|⟨_,a⟩⟩
  ·exact ⟨⟨f,rfl⟩,_,_,g.Qy k (by omega) j.hdok (by decide) (.inl (by decide)),a⟩
  ·exact ⟨⟨f,rfl⟩,_,_,g,a⟩))
theorem Gv(h:gy b c d x bs w0 Kp w){z:Int}(m:z≠d)(i:Int){v:Nat}(l:v<18446744073709551616):Calls prog 7 #[b,(z:Int),(i:Int),.float .f64 v] w fun e w'=>EI e/\kj b c d x bs w0 Kp w w':=
 h.op (fun A rs u n T g j=>(tv j z i v l).mono (by
  rintro e w' ⟨f,rfl,⟨s,q,rfl,k,_,a⟩|⟨_,a⟩⟩
  ·exact ⟨⟨f,rfl⟩,_,_,g.Qy k (by omega) j.hdok (by decide) (.inl (by decide)),a⟩
  ·exact ⟨⟨f,rfl⟩,_,_,g,a⟩))
theorem GC(h:gy b c d x bs w0 Kp w){z y:Int}(l:z≠d)(k:y≠d):Calls prog 76 #[b,(z:Int),(y:Int)] w fun e w'=>EI e/\kj b c d x bs w0 Kp w w':=
 h.op (fun A rs u n T a j=>(BO j z y).mono (by
  rintro e w' ⟨g,rfl,⟨s,t,v,rfl,rfl,i,f⟩|f⟩
  ·exact ⟨⟨g,rfl⟩,_,_,a.Yc (by omega) (fun e=>a.only t (by omega) (by rw [i,e])) (ks (ar i)),f⟩
  ·exact ⟨⟨g,rfl⟩,_,_,a,f⟩))
theorem EB(h:gy b c d x bs w0 Kp w){z:Int}(i:z≠d):Calls prog 26 #[b,(z:Int)] w fun e w'=>EI e/\kj b c d x bs w0 Kp w w':=
 h.op (fun A rs u n T a g=>(rO g z).mono (by
  rintro e w' (⟨s,rfl,_,rfl,f⟩|⟨_,rfl,f⟩)
  ·exact ⟨⟨0,rfl⟩,_,_,a.Yc (by omega) (Ne.symm a.ne) (.inl rfl),f⟩
  ·exact ⟨⟨17,rfl⟩,_,_,a,f⟩))
theorem yK(h:gy b c d x bs w0 Kp w):Calls prog 54 #[b] w fun e w'=>e= .returned (.tuple #[])/\kj b c d x bs w0 Kp w w':=
 h.ask (fun A rs u n T g f=>(lW f).mono (fun _ _ ⟨e,l,a,_,q⟩=>⟨e,_,_,a,q⟩))
theorem Ez(h:gy b c d x bs w0 Kp w):Calls prog 77 #[b] w fun e w'=>e= .returned (.tuple #[])/\kj b c d x bs w0 Kp w w':=
 h.ask (fun A rs u n T f a=>BI a)
theorem Gu(h:gy b c d x bs w0 Kp w):Calls prog 78 #[b] w fun e w'=>(∃B:Bool,e= .returned (.bool B))/\kj b c d x bs w0 Kp w w':=
 h.ask (fun A rs u n T g f=>(rJ f).mono (fun _ _ ⟨e,a,q⟩=>⟨⟨_,e⟩,_,_,a,q⟩))
def um(K a bb i p f g:Int)(wd fl:Nat):List Value:=[(K:Int),(a:Int),(bb:Int),(i:Int),(p:Int),(f:Int),(g:Int),.int .u64 wd,.float .f64 fl]
theorem CO(h:gy b c d x bs w0 Kp w)(K:Int){a bb:Int}(U:a≠d)(V:bb≠d)(i p f g:Int){wd fl:Nat}(hw:wd<18446744073709551616)(hf:fl<18446744073709551616):Calls prog 33 #[b,.agg (um K a bb i p f g wd fl).toArray] w fun e w'=>EI e/\kj b c d x bs w0 Kp w w':=by
 obtain ⟨W1,T⟩:∃W1,w.alloc (.cells (um K a bb i p f g wd fl).toArray 38)=W1:=⟨_,rfl⟩;have D:J7 w W1:=by rw [<-T];exact (Kb _ w).alloc _
 have C:ay W1 w.heap.size (um K a bb i p f g wd fl) 38:=by rw [<-T];exact ay.new w _ _
 have F:=h.Qb D;have G:Hid (∀(E:Ending->Prop) e w',E e/\kj b c d x bs w0 Kp W1 w'->E e/\kj b c d x bs w0 Kp w w'):=ae (fun E e w' q=>⟨q.1,q.2.1,aH D.size q.2.2.1,fun k hk cs t V=>q.2.2.2 k hk cs t (ay.frame V D id)⟩);have l:=ae ((EC F U p f g).mono (G.out _));have r:=ae ((Gz F U V i).mono (G.out _));have z:=ae ((Ey F U V i).mono (G.out _));have s:=ae ((IH F U i hw).mono (G.out _));have u:=ae ((Gv F U i hf).mono (G.out _));have n:=ae ((GC F U V).mono (G.out _));have m:=ae ((EB F U).mono (G.out _));have o:=ae ((yK F).mono (G.out _));have y:=ae ((Ez F).mono (G.out _));have v:=ae ((Gu F).mono (G.out _));have A:=ae (show kj b c d x bs w0 Kp w W1 from ⟨F,D.size,fun k hk cs t V=>ay.frame V D id⟩);obtain ⟨I,J,L,M,N,O,P,R,S,_⟩:=Kj C;have W:=ae T;clear h F D C V U hw hf G T;generalize kj b c d x bs w0 Kp w=Q at*;unfold um at W ⊢;unfold ft at l;unfold EI at*
 go_enter func33,ntmps33
 go_upto_region 1 with fail
 rw [W.out];clear W;by_cases c1:K=1
 ·subst c1;clear r z s u n m o y v A;go_wp2_with fail
  refine l.out.mono ?_;rintro e w1 ⟨⟨cd,rfl⟩,j⟩;have H:=ae j;clear l j I J L M N O P R S;go_wp2;go_ret;exact ⟨⟨_,rfl⟩,H.out⟩
 have c1:(K==1)=false:=by rw [beq_eq_false_iff_ne];exact c1
 by_cases c2:K=2
 ·subst c2;clear l z s u n m o y v A;go_wp2_with fail
  refine r.out.mono ?_;rintro e w1 ⟨⟨cd,rfl⟩,j⟩;have H:=ae j;clear r j I J L M N O P R S;go_wp2;go_ret;exact ⟨⟨_,rfl⟩,H.out⟩
 have c2:(K==2)=false:=by rw [beq_eq_false_iff_ne];exact c2
 by_cases c3:K=3
 ·subst c3;clear l r s u n m o y v A;go_wp2_with fail
  refine z.out.mono ?_;rintro e w1 ⟨⟨cd,rfl⟩,j⟩;have H:=ae j;clear z j I J L M N O P R S;go_wp2;go_ret;exact ⟨⟨_,rfl⟩,H.out⟩
 have c3:(K==3)=false:=by rw [beq_eq_false_iff_ne];exact c3
 by_cases c5:K=5
 ·subst c5;clear l r z u n m o y v A;go_wp2_with fail
  refine s.out.mono ?_;rintro e w1 ⟨⟨cd,rfl⟩,j⟩;have H:=ae j;clear s j I J L M N O P R S;go_wp2;go_ret;exact ⟨⟨_,rfl⟩,H.out⟩
 have c5:(K==5)=false:=by rw [beq_eq_false_iff_ne];exact c5
 by_cases c7:K=7
 ·subst c7;clear l r z s n m o y v A;go_wp2_with fail
  refine u.out.mono ?_;rintro e w1 ⟨⟨cd,rfl⟩,j⟩;have H:=ae j;clear u j I J L M N O P R S;go_wp2;go_ret;exact ⟨⟨_,rfl⟩,H.out⟩
 have c7:(K==7)=false:=by rw [beq_eq_false_iff_ne];exact c7
 by_cases c8:K=8
 ·subst c8;clear l r z s u m o y v A;go_wp2_with fail
  refine n.out.mono ?_;rintro e w1 ⟨⟨cd,rfl⟩,j⟩;have H:=ae j;clear n j I J L M N O P R S;go_wp2;go_ret;exact ⟨⟨_,rfl⟩,H.out⟩
 have c8:(K==8)=false:=by rw [beq_eq_false_iff_ne];exact c8
 by_cases c9:K=9
 ·subst c9;clear l r z s u n o y v A;go_wp2_with fail
  refine m.out.mono ?_;rintro e w1 ⟨⟨cd,rfl⟩,j⟩;have H:=ae j;clear m j I J L M N O P R S;go_wp2;go_ret;exact ⟨⟨_,rfl⟩,H.out⟩
 have c9:(K==9)=false:=by rw [beq_eq_false_iff_ne];exact c9
 by_cases X:K=15
 ·subst X;clear l r z s u n m y v A;go_wp2_with fail
  refine o.out.mono ?_;rintro e w1 ⟨rfl,j⟩;have H:=ae j;clear o j I J L M N O P R S;go_wp2;go_ret;exact ⟨⟨_,rfl⟩,H.out⟩
 have X:(K==15)=false:=by rw [beq_eq_false_iff_ne];exact X
 by_cases Y:K=16
 ·subst Y;clear l r z s u n m o v A;go_wp2_with fail
  refine y.out.mono ?_;rintro e w1 ⟨rfl,j⟩;have H:=ae j;clear y j I J L M N O P R S;go_wp2;go_ret;exact ⟨⟨_,rfl⟩,H.out⟩
 have Y:(K==16)=false:=by rw [beq_eq_false_iff_ne];exact Y
 by_cases Z:K=17
 ·subst Z;clear l r z s u n m o y A;go_wp2_with fail
  refine v.out.mono ?_;rintro e w1 ⟨⟨B,rfl⟩,j⟩;have H:=ae j;clear v j I J L M N O P R S;go_wp2;go_ret;exact ⟨⟨_,rfl⟩,H.out⟩
 have Z:(K==17)=false:=by rw [beq_eq_false_iff_ne];exact Z
 clear l r z s u n m o y v;go_wp2;go_ret;exact ⟨⟨_,rfl⟩,A.out⟩
end
section
variable{b d x:Nat}{c:Cf}{bs Kp:List Nat}{w0 w w1 w':World}
theorem gy.less{k:Nat}(h:gy b c d x bs w0 (k::Kp) w):gy b c d x bs w0 Kp w:=let ⟨A,rs,u,n,T,a,e,f,g,i,j⟩:=h;⟨A,rs,u,n,T,a,e,f,g,i,fun k l=>j k (bm _ l)⟩
theorem gy.setRow(h:gy b c d x bs w0 Kp w){k:Nat}(p:k∈Kp)(cs:Array Value):gy b c d x bs w0 Kp (w.setRow k cs):=by
 obtain ⟨A,rs,u,n,T,i,j,l,m,o,g⟩:=h;have hf:Fr (fun q=>q=k) w (w.setRow k cs):=(Kb (fun q=>q=k) w).setRow k (.inl rfl) cs;have r:=hf.size;have a:=g k p;refine ⟨A,rs,u,n,T,i,j.stays hf (fun q f e=>a.1 (e▸f)) (fun e=> ?_),l.setRow k (.inr a.2.2) cs,m,o,fun q f=>⟨(g q f).1,by have:=(g q f).2.1;omega,(g q f).2.2⟩⟩;have e:ch=k:=e;omega
theorem IK(h:gy b c d x bs w0 Kp w)(z i:Int):Calls prog 68 #[b,(z:Int),(i:Int)] w fun e w'=>(∃(y:Nat) (a:Int),e= .returned (.tuple #[.int .u64 y,(a:Int)]))/\kj b c d x bs w0 Kp w w':=
 h.ask (fun A rs u n T g f=>(Ec f z i).mono (fun _ _ ⟨⟨y,a,e,_⟩,q⟩=>⟨⟨y,a,e⟩,q⟩))
theorem GB(h:gy b c d x bs w0 Kp w)(z i:Int):Calls prog 10 #[b,(z:Int),(i:Int)] w fun e w'=>(∃(y:Nat) (a:Int),e= .returned (.tuple #[.float .f64 y,(a:Int)]))/\kj b c d x bs w0 Kp w w':=
 h.ask (fun A rs u n T g f=>(kt f z i).mono (fun _ _ ⟨⟨y,a,e,_⟩,q⟩=>⟨⟨y,a,e⟩,q⟩))
theorem Gw(h:gy b c d x bs w0 Kp w)(z i:Int):Calls prog 69 #[b,(z:Int),(i:Int)] w fun e w'=>(∃(B:Bool) (a:Int),e= .returned (.tuple #[.bool B,(a:Int)]))/\kj b c d x bs w0 Kp w w':=
 h.ask (fun A rs u n T g f=>BK f z i)
theorem EA(h:gy b c d x bs w0 Kp w)(z:Int):Calls prog 36 #[b,(z:Int)] w fun e w'=>(∃p f g a:Int,e= .returned (.tuple #[ft p f g,(a:Int)]))/\kj b c d x bs w0 Kp w w':=
 h.ask (fun A rs u n T j i=>(rL i z).mono (fun _ _ ⟨⟨p,f,g,a,e,_⟩,q⟩=>⟨⟨p,f,g,a,e⟩,q⟩))
theorem IG(h:gy b c d x bs w0 Kp w)(z:Int):Calls prog 12 #[b,(z:Int)] w fun e w'=>(∃(y:Nat) (a:Int),e= .returned (.tuple #[.float .f64 y,(a:Int)]))/\kj b c d x bs w0 Kp w w':=
 h.ask (fun A rs u n T g f=>(v9 f z).mono (fun _ _ ⟨⟨y,a,e,_⟩,q⟩=>⟨⟨y,a,e⟩,q⟩))
theorem IJ(h:gy b c d x bs w0 Kp w)(z i y k:Int):Calls prog 70 #[b,(z:Int),(i:Int),(y:Int),(k:Int)] w fun e w'=>(∃q a:Int,e= .returned (.tuple #[(q:Int),(a:Int)]))/\kj b c d x bs w0 Kp w w':=
 h.ask (fun A rs u n T g f=>D9 f z i y k)
theorem GA(h:gy b c d x bs w0 Kp w):Calls prog 72 #[b] w fun e w'=>(∃n m:Nat,e= .returned (.tuple #[(n:Int),(m:Int)]))/\kj b c d x bs w0 Kp w w':=
 h.ask (fun A rs u n T j a=>by
  obtain ⟨l,f⟩:=a.Yv;exact (Eb a f).mono (fun _ _ ⟨e,g,i⟩=>⟨⟨_,_,e⟩,_,_,T,g,i,fun _ h=> .inl h⟩))
def jP(cd:Int)(B:Bool)(n:Int)(wv:Int)(p f g:Int):List Value:=[(cd:Int),.bool B,(n:Int),.int .u64 wv,(p:Int),(f:Int),(g:Int)]
theorem t9(e:Int)(B:Bool)(n h p f g:Int):(jP e B n h p f g).toArray.all (·.oneCell')=true:=Go.all_oneCell_toArray (fun v a=>by
 unfold jP at a;simp only [cG,bF,or_false] at a;rcases a with rfl|rfl|rfl|rfl|rfl|rfl|rfl<;>rfl)
def oX(b:Nat)(c:Cf)(d x:Nat)(bs:List Nat)(w0:World)(Kp:List Nat)(w:World)(r4 r6:Nat)(wx:World):Prop:=(∃cd B n wv p f g,ay wx r6 (jP cd B n wv p f g) 40)/\ay wx r4 (jP 0 false 0 0 0 0 0) 40/\r4≠r6/\gy b c d x bs w0 (r6::r4::Kp) wx/\w.heap.size<=wx.heap.size/\w.heap.size<=r4/\w.heap.size<=r6/\∀k∈Kp,∀cs t,ay w k cs t->ay wx k cs t
section
variable{r4 r6:Nat}{wx:World}
theorem oX.op(h:oX b c d x bs w0 Kp w r4 r6 wx)(q:kj b c d x bs w0 (r6::r4::Kp) wx w1):oX b c d x bs w0 Kp w r4 r6 w1:=by
 obtain ⟨⟨e,B,n,v,p,f,g,i⟩,j,l,y,m,o,r,s⟩:=h;exact ⟨⟨e,B,n,v,p,f,g,q.2.2 r6 (by simp) _ _ i⟩,q.2.2 r4 (by simp) _ _ j,l,q.1,aH m q.2.1,o,r,fun k a cs t u=>q.2.2 k (by simp [a]) _ _ (s k a cs t u)⟩
theorem oX.Qb(h:oX b c d x bs w0 Kp w r4 r6 wx)(hf:J7 wx w1):oX b c d x bs w0 Kp w r4 r6 w1:=by
 obtain ⟨⟨a,B,n,v,p,f,g,e⟩,i,j,l,m,o,q,r⟩:=h;exact ⟨⟨a,B,n,v,p,f,g,e.frame hf id⟩,i.frame hf id,j,l.Qb hf,aH m hf.size,o,q,fun k u cs t s=>(r k u cs t s).frame hf id⟩
theorem oX.set(h:oX b c d x bs w0 Kp w r4 r6 wx)(j:Nat)(v:Value)(J:∀o B n u p f g,∃a m r i s q g',(jP o B n u p f g).set j v=jP a m r i s q g')(I:∀k∈Kp,k<w.heap.size):oX b c d x bs w0 Kp w r4 r6 (wx.setCell ⟨r6,j,none⟩ v):=by
 obtain ⟨⟨o,B,n,u,p,f,g,z⟩,A,y,C,D,E,F,G⟩:=h;have hf:Fr (fun k=>k=r6) wx (wx.setCell ⟨r6,j,none⟩ v):=(Kb (fun k=>k=r6) wx).setCell ⟨r6,j,none⟩ (.inl rfl) v;obtain ⟨a,m,r,i,s,q,g',e⟩:=J o B n u p f g;exact ⟨⟨a,m,r,i,s,q,g',e▸ay.set z j v⟩,A.frame hf y,y,C.set (by simp) j v,aH D hf.size,E,F,fun k l cs t H=>(G k l cs t H).frame hf (fun e=>by have:=I k l;have e:k=r6:=e;omega)⟩
theorem oX.cd(h:oX b c d x bs w0 Kp w r4 r6 wx)(v:Int)(a:∀k∈Kp,k<w.heap.size):oX b c d x bs w0 Kp w r4 r6 (wx.setCell r6 (.int .i64 v)):=h.set 0 _ (fun _ _ _ _ _ _ _=>⟨_,_,_,_,_,_,_,rfl⟩) a
theorem oX.is(h:oX b c d x bs w0 Kp w r4 r6 wx)(v:Bool)(a:∀k∈Kp,k<w.heap.size):oX b c d x bs w0 Kp w r4 r6 (wx.setCell ⟨r6,1,none⟩ (.bool v)):=h.set 1 _ (fun _ _ _ _ _ _ _=>⟨_,_,_,_,_,_,_,rfl⟩) a
theorem oX.nn(h:oX b c d x bs w0 Kp w r4 r6 wx)(v:Int)(a:∀k∈Kp,k<w.heap.size):oX b c d x bs w0 Kp w r4 r6 (wx.setCell ⟨r6,2,none⟩ (.int .i64 v)):=h.set 2 _ (fun _ _ _ _ _ _ _=>⟨_,_,_,_,_,_,_,rfl⟩) a
theorem oX.wv(h:oX b c d x bs w0 Kp w r4 r6 wx)(v:Int)(a:∀k∈Kp,k<w.heap.size):oX b c d x bs w0 Kp w r4 r6 (wx.setCell ⟨r6,3,none⟩ (.int .u64 v)):=h.set 3 _ (fun _ _ _ _ _ _ _=>⟨_,_,_,_,_,_,_,rfl⟩) a
theorem oX.hd(h:oX b c d x bs w0 Kp w r4 r6 wx)(p f g:Int)(a:∀k∈Kp,k<w.heap.size):oX b c d x bs w0 Kp w r4 r6 (((wx.setCell ⟨r6,4,none⟩ (.int .i64 p)).setCell ⟨r6,5,none⟩ (.int .i64 f)).setCell ⟨r6,6,none⟩ (.int .i64 g)):=((h.set 4 _ (fun _ _ _ _ _ _ _=>⟨_,_,_,_,_,_,_,rfl⟩) a).set 5 _ (fun _ _ _ _ _ _ _=>⟨_,_,_,_,_,_,_,rfl⟩) a).set 6 _ (fun _ _ _ _ _ _ _=>⟨_,_,_,_,_,_,_,rfl⟩) a
theorem oX.fin(h:oX b c d x bs w0 Kp w r4 r6 wx)(u:∀k∈Kp,k<w.heap.size):∃a B n i p f g,ay wx r6 (jP a B n i p f g) 40/\ay wx r4 (jP 0 false 0 0 0 0 0) 40/\∀W,W=wx.setRow r4 (jP a B n i p f g).toArray->ay W r4 (jP a B n i p f g) 40/\kj b c d x bs w0 Kp w W:=by
 obtain ⟨⟨a,B,n,i,p,f,g,m⟩,l,v,o,q,y,z,r⟩:=h;refine ⟨a,B,n,i,p,f,g,m,l,?_⟩;rintro W rfl;have hf:Fr (fun k=>k=r4) wx (wx.setRow r4 (jP a B n i p f g).toArray):=(Kb (fun k=>k=r4) wx).setRow r4 (.inl rfl) _;exact ⟨l.setRow _,(o.setRow (by simp) _).less.less,aH q hf.size,fun k j cs t s=>(r k j cs t s).frame hf (fun e=>by have:=u k j;have e:k=r4:=e;omega)⟩
end
theorem yp(a:Nat)(f:a<18446744073709551616)(w:World):Calls prog 71 #[.int .u64 a] w fun e w'=>(∃q:Int,e= .returned (q:Int))/\w=w':=by
 by_cases h:256<=a
 ·have c1:decide ((256:Int)<=(a:Int))=true:=by rw [decide_eq_true_eq];omega
  have c2:(256:Int)<=(a:Int):=by omega
  clear h f
  go_enter func71,ntmps71
  go_wp2;go_ret;exact ⟨⟨_,rfl⟩,rfl⟩
 ·have c1:decide ((256:Int)<=(a:Int))=false:=by rw [decide_eq_false_iff_not];omega
  have c2:¬(256:Int)<=(a:Int):=by omega
  have g:IntKind.i64.wrap (a:Int)=a:=by rw [IntKind.wrap_i64];omega
  clear h f
  go_enter func71,ntmps71
  go_wp2;go_ret;exact ⟨⟨_,rfl⟩,rfl⟩
theorem GT(h:gy b c d x bs w0 Kp w)(K a bb i p f g:Int){wd fl:Nat}(hw:wd<18446744073709551616):Calls prog 32 #[b,.agg (um K a bb i p f g wd fl).toArray] w fun e w'=>(∃A B n wv p f g B',e= .returned (.tuple #[.agg (jP A B n wv p f g).toArray,.bool B']))/\kj b c d x bs w0 Kp w w':=by
 obtain ⟨W1,S⟩:∃W1,w.alloc (.cells (um K a bb i p f g wd fl).toArray 38)=W1:=⟨_,rfl⟩;have ap:J7 w W1:=by rw [<-S];exact (Kb _ w).alloc _
 have aB:ay W1 w.heap.size (um K a bb i p f g wd fl) 38:=by rw [<-S];exact ay.new w _ _
 have ar:W1.heap.size=w.heap.size+1:=by rw [<-S];exact World.size_alloc _ _
 have h1:gy b c d x bs w0 (w.heap.size::Kp) W1:=by rw [<-S];exact h.add _
 have aq:∀k∈w.heap.size::Kp,k<W1.heap.size:=let ⟨_,_,_,_,_,_,_,_,_,_,h6⟩:=h1;fun k hk=>(h6 k hk).2.1
 have aA:∀O,(W1.alloc (.cells (jP 0 false 0 0 0 0 0).toArray 40)).alloc (.cells (jP 0 false 0 0 0 0 0).toArray 40)=O->oX b c d x bs w0 (w.heap.size::Kp) W1 (w.heap.size+1) (w.heap.size+1+1) O/\ay O w.heap.size (um K a bb i p f g wd fl) 38:=by
  rintro O rfl;have e2:(W1.alloc (.cells (jP 0 false 0 0 0 0 0).toArray 40)).heap.size=w.heap.size+1+1:=by rw [World.size_alloc,ar]
  have q1:=h1.add (.cells (jP 0 false 0 0 0 0 0).toArray 40);have q2:=q1.add (.cells (jP 0 false 0 0 0 0 0).toArray 40);have b4:=ay.new W1 (jP 0 false 0 0 0 0 0) 40;have b6:=ay.new (W1.alloc (.cells (jP 0 false 0 0 0 0 0).toArray 40)) (jP 0 false 0 0 0 0 0) 40;rw [e2] at q2 b6;rw [ar] at q2 b4;have hf:J7 W1 ((W1.alloc (.cells (jP 0 false 0 0 0 0 0).toArray 40)).alloc (.cells (jP 0 false 0 0 0 0 0).toArray 40)):=((Kb _ W1).alloc _).alloc _;exact ⟨⟨⟨_,_,_,_,_,_,_,b6⟩,b4.alloc _,by omega,q2,hf.size,by omega,by omega,fun k hk cs t N=>ay.frame N hf id⟩,(aB.alloc _).alloc _⟩
 have ad:=ae aA;have r:=ae aq;have aj:=ae S;have ag:Hid (∀r4 s wx,oX b c d x bs w0 (w.heap.size::Kp) W1 r4 s wx->∃A B n wv p f g,ay wx s (jP A B n wv p f g) 40/\ay wx r4 (jP 0 false 0 0 0 0 0) 40/\∀W,W=wx.setRow r4 (jP A B n wv p f g).toArray->ay W r4 (jP A B n wv p f g) 40/\kj b c d x bs w0 Kp w W):=by
  show∀r4 s wx,_
  intro r4 s wx h;obtain ⟨A,B,n,wv,p,f,g,q1,q2,q3⟩:=h.fin aq;exact ⟨A,B,n,wv,p,f,g,q1,q2,fun W e=>⟨(q3 W e).1,(q3 W e).2.1.less,aH ap.size (q3 W e).2.2.1,fun k hk cs t N=>(q3 W e).2.2.2 k (bm _ hk) cs t (ay.frame N ap id)⟩⟩
 have ah:Hid ((prog.info? 40).map (·.size)=some 7):=by show _=_;kernel_rfl
 have D:=ae (yp wd hw);clear h h1 ap aB hw S ar aq aA;obtain ⟨Q,hQ⟩:∃Q,kj b c d x bs w0 Kp w=Q:=⟨_,rfl⟩;rw [hQ] at ag;have HQ:=ae hQ;clear hQ;unfold um at aj ad ⊢;unfold jP at ad
 go_enter func32,ntmps32
 go_upto_region 2 with fail
 rw [aj.out];clear aj;obtain ⟨O,ao⟩:∃O,(W1.alloc (.cells #[(0:Int),.bool false,(0:Int),.int .u64 0,(0:Int),(0:Int),(0:Int)] 40)).alloc (.cells #[(0:Int),.bool false,(0:Int),.int .u64 0,(0:Int),(0:Int),(0:Int)] 40)=O:=⟨_,rfl⟩;obtain ⟨R,N⟩:=ad.out O ao;rw [ao];clear ad ao;obtain ⟨z,aG⟩:∃z,z=w.heap.size:=⟨_,rfl⟩;rw [<-aG] at R N ag r ⊢;clear aG;generalize z+1+1=s at*;generalize z+1=r4 at*;obtain ⟨k0,k1,k2,k3,_⟩:=Kd N;have h3:=R.2.2.2.1;have E:=ae ((IK h3 a i).mono (fun _ _ q=>af q.1 (R.op q.2)));have F:=ae ((GB h3 a i).mono (fun _ _ q=>af q.1 (R.op q.2)));have I:=ae ((Gw h3 a bb).mono (fun _ _ q=>af q.1 (R.op q.2)));have J:=ae ((EA h3 a).mono (fun _ _ q=>af q.1 (R.op q.2)));have L:=ae ((IG h3 a).mono (fun _ _ q=>af q.1 (R.op q.2)));have G:=ae ((GA h3).mono (fun _ _ q=>af q.1 (R.op q.2)));have av:=ae (fun y w=>gB y w);have HA:=ae R;have HB:=ae N;clear R N h3;by_cases c4:K=4
 rotate_left
 have c4:(K==4)=false:=by rw [beq_eq_false_iff_ne];exact c4
 by_cases c6:K=6
 rotate_left
 have c6:(K==6)=false:=by rw [beq_eq_false_iff_ne];exact c6
 by_cases ak:K=10
 rotate_left
 have ak:(K==10)=false:=by rw [beq_eq_false_iff_ne];exact ak
 by_cases al:K=11
 rotate_left
 have al:(K==11)=false:=by rw [beq_eq_false_iff_ne];exact al
 by_cases am:K=12
 rotate_left
 have am:(K==12)=false:=by rw [beq_eq_false_iff_ne];exact am
 by_cases Xc:K=13
 rotate_left
 have Xc:(K==13)=false:=by rw [beq_eq_false_iff_ne];exact Xc
 by_cases an:K=14
 rotate_left
 have an:(K==14)=false:=by rw [beq_eq_false_iff_ne];exact an
 have H:=HA;clear E F I J L G D HB HA k1 k2 k3
 focus go_upto_region 4 with fail
 clear k0
 rotate_left
 focus
  subst c4;clear F I J L G D HB HA;go_wp2_with fail
  refine E.out.mono ?_;rintro e w4 ⟨⟨y,A,rfl⟩,C⟩;have m:=ae C;clear E C k0 k1 k2 k3;obtain ⟨⟨P,B0,n0,Z,p0,f0,g0,l⟩,_⟩:=id m.out;obtain ⟨V,s1,X,s3,s4,s5,s6,_⟩:=Kg l;have T:=l.free 0;have l1:=l.free 1;have U:=l.free 2;have l3:=l.free 3;have l4:=l.free 4;have l5:=l.free 5;have l6:=l.free 6;clear l
  go_upto_region 22 with fail
  have H:=ae ((m.out.wv y r.out).cd A r.out);clear V s1 X s3 s4 s5 s6 T l1 U l3 l4 l5 l6 m;generalize ((w4.setCell ⟨s,3,none⟩ (.int .u64 y)).setCell s (.int .i64 A))=W9 at*
 rotate_left
 focus
  subst c6;clear E I J L G D HB HA;go_wp2_with fail
  refine F.out.mono ?_;rintro e w4 ⟨⟨y,A,rfl⟩,C⟩;have m:=ae C;clear F C k0 k1 k2 k3;obtain ⟨⟨P,B0,n0,Z,p0,f0,g0,l⟩,_⟩:=id m.out;obtain ⟨V,s1,X,s3,s4,s5,s6,_⟩:=Kg l;have T:=l.free 0;have l1:=l.free 1;have U:=l.free 2;have l3:=l.free 3;have l4:=l.free 4;have l5:=l.free 5;have l6:=l.free 6;clear l;go_wp2_with fail
  refine (av.out y _).mono ?_;rintro e w5 ⟨rfl,rfl⟩
  go_upto_region 22 with fail
  have H:=ae ((m.out.cd A r.out).wv y r.out);clear V s1 X s3 s4 s5 s6 T l1 U l3 l4 l5 l6 m;generalize ((w4.setCell s (.int .i64 A)).setCell ⟨s,3,none⟩ (.int .u64 y))=W9 at*
 rotate_left
 focus
  subst ak;clear E F J L G D HB HA;go_wp2_with fail
  refine I.out.mono ?_;rintro e w4 ⟨⟨B,A,rfl⟩,C⟩;have m:=ae C;clear I C k0 k1 k2 k3;obtain ⟨⟨P,B0,n0,Z,p0,f0,g0,l⟩,_⟩:=id m.out;obtain ⟨V,s1,X,s3,s4,s5,s6,_⟩:=Kg l;have T:=l.free 0;have l1:=l.free 1;have U:=l.free 2;have l3:=l.free 3;have l4:=l.free 4;have l5:=l.free 5;have l6:=l.free 6;clear l
  go_upto_region 22 with fail
  have H:=ae ((m.out.is B r.out).cd A r.out);clear V s1 X s3 s4 s5 s6 T l1 U l3 l4 l5 l6 m;generalize ((w4.setCell ⟨s,1,none⟩ (.bool B)).setCell s (.int .i64 A))=W9 at*
 rotate_left
 focus
  subst al;clear E F I L G D HB HA;go_wp2_with fail
  refine J.out.mono ?_;rintro e w4 ⟨⟨p1,f1,g1,A,rfl⟩,C⟩;have m:=ae C;clear J C k0 k1 k2 k3;obtain ⟨⟨P,B0,n0,Z,p0,f0,g0,l⟩,_⟩:=id m.out;obtain ⟨V,s1,X,s3,s4,s5,s6,_⟩:=Kg l;have T:=l.free 0;have l1:=l.free 1;have U:=l.free 2;have l3:=l.free 3;have l4:=l.free 4;have l5:=l.free 5;have l6:=l.free 6;clear l;unfold ft
  go_upto_region 22 with fail
  have H:=ae ((m.out.hd p1 f1 g1 r.out).cd A r.out);clear V s1 X s3 s4 s5 s6 T l1 U l3 l4 l5 l6 m;generalize ((((w4.setCell ⟨s,4,none⟩ (.int .i64 p1)).setCell ⟨s,5,none⟩ (.int .i64 f1)).setCell ⟨s,6,none⟩ (.int .i64 g1)).setCell s (.int .i64 A))=W9 at*
 rotate_left
 focus
  subst am;clear E F I J G D HB HA;go_wp2_with fail
  refine L.out.mono ?_;rintro e w4 ⟨⟨y,A,rfl⟩,C⟩;have m:=ae C;clear L C k0 k1 k2 k3;obtain ⟨⟨P,B0,n0,Z,p0,f0,g0,l⟩,_⟩:=id m.out;obtain ⟨V,s1,X,s3,s4,s5,s6,_⟩:=Kg l;have T:=l.free 0;have l1:=l.free 1;have U:=l.free 2;have l3:=l.free 3;have l4:=l.free 4;have l5:=l.free 5;have l6:=l.free 6;clear l;go_wp2_with fail
  refine (av.out y _).mono ?_;rintro e w5 ⟨rfl,rfl⟩
  go_upto_region 22 with fail
  have H:=ae ((m.out.cd A r.out).wv y r.out);clear V s1 X s3 s4 s5 s6 T l1 U l3 l4 l5 l6 m;generalize ((w4.setCell s (.int .i64 A)).setCell ⟨s,3,none⟩ (.int .u64 y))=W9 at*
 rotate_left
 focus
  subst Xc;clear E F I J L G;have az:Hid (∀w' q,J7 O w'->Calls prog 70 #[b,(a:Int),(i:Int),(bb:Int),(q:Int)] w' fun e Y=>(∃q A:Int,e= .returned (.tuple #[(q:Int),(A:Int)]))/\oX b c d x bs w0 (z::Kp) W1 r4 s Y/\(Y.cell? ⟨z,1,none⟩=some (.int .i64 a)/\Y.cell? ⟨z,3,none⟩=some (.int .i64 i)/\Y.cell? ⟨z,2,none⟩=some (.int .i64 bb)/\Y.cell? ⟨z,7,none⟩=some (.int .u64 wd))):=by
   show∀w' q,_
   intro w' q hf;have R:=HA.out.Qb hf;refine (IJ R.2.2.2.1 a i bb q).mono (fun e Y q=>⟨q.1,R.op q.2,?_⟩);have N:=q.2.2.2 z (by simp) _ _ (HB.out.frame hf id);exact ⟨N.cell 1 rfl,N.cell 3 rfl,N.cell 2 rfl,N.cell 7 rfl⟩
  have HD:=ae ((Kb (fun _=>False) O).drew);have aI:z≠s:=fun e=>by have:=r.out z (by simp);have:=HA.out.2.2.2.2.2.2.1;omega
  have ax:Hid (∀(w':World) (j:Nat) (v:Value),(w'.cell? ⟨z,1,none⟩=some (.int .i64 a)/\w'.cell? ⟨z,3,none⟩=some (.int .i64 i)/\w'.cell? ⟨z,2,none⟩=some (.int .i64 bb)/\w'.cell? ⟨z,7,none⟩=some (.int .u64 wd))->((w'.setCell ⟨s,j,none⟩ v).cell? ⟨z,1,none⟩=some (.int .i64 a)/\(w'.setCell ⟨s,j,none⟩ v).cell? ⟨z,3,none⟩=some (.int .i64 i)/\(w'.setCell ⟨s,j,none⟩ v).cell? ⟨z,2,none⟩=some (.int .i64 bb)/\(w'.setCell ⟨s,j,none⟩ v).cell? ⟨z,7,none⟩=some (.int .u64 wd))):=by
   show∀(w':World) (j:Nat) (v:Value),_
   rintro w' j v ⟨q1,q2,q3,q4⟩;have hk:∀{o u},w'.cell? ⟨z,o,none⟩=some u->(w'.setCell ⟨s,j,none⟩ v).cell? ⟨z,o,none⟩=some u:=fun h=>(World.cell?_of_block (w:=w') (((Kb (fun k=>k=s) w').setCell ⟨s,j,none⟩ (.inl rfl) v).block _ (bu h) aI)).trans h
   exact ⟨hk q1,hk q2,hk q3,hk q4⟩
  have aR:O.drew.cell? ⟨z,1,none⟩=some (.int .i64 a)/\O.drew.cell? ⟨z,3,none⟩=some (.int .i64 i)/\O.drew.cell? ⟨z,2,none⟩=some (.int .i64 bb)/\O.drew.cell? ⟨z,7,none⟩=some (.int .u64 wd):=⟨k1,k3,k2,HB.out.cell 7 rfl⟩;clear HB k1 k2 k3;go_wp2
  go_region_held (fun w'=>w'.cell? ⟨z,1,none⟩=some (.int .i64 a)/\w'.cell? ⟨z,3,none⟩=some (.int .i64 i)/\w'.cell? ⟨z,2,none⟩=some (.int .i64 bb)/\w'.cell? ⟨z,7,none⟩=some (.int .u64 wd)) (with_reducible first|assumption|exact ax.out _ _ _ (by assumption)) (first
   |(go_at_call 71;refine (D.out _).mono ?_;rintro e w4 ⟨⟨q,rfl⟩,rfl⟩)
   |(go_at_call 70;refine (az.out _ _ HD.out).mono ?_;rintro e w4 ⟨⟨q1,A,rfl⟩,C,aT⟩;obtain ⟨⟨P,B0,n0,Z,p0,f0,g0,l⟩,_⟩:=id C;obtain ⟨V,_,X,_⟩:=Kf l;have T:=l.free 0;have U:=l.free 2;clear l))
  have m:=ae C;clear C aT aR ax az HD D HA aI
  go_upto_region 22 with fail
  have H:=ae ((m.out.nn q1 r.out).cd A r.out);clear V X T U m;generalize ((w4.setCell ⟨s,2,none⟩ (.int .i64 q1)).setCell s (.int .i64 A))=W9 at*
 rotate_left
 focus
  subst an;clear E F I J L D HB HA;go_wp2_with fail
  refine G.out.mono ?_;rintro e w4 ⟨⟨n1,m1,rfl⟩,C⟩;have m:=ae C;clear G C k0 k1 k2 k3;obtain ⟨⟨P,B0,n0,Z,p0,f0,g0,l⟩,_⟩:=id m.out;obtain ⟨V,s1,X,s3,s4,s5,s6,_⟩:=Kg l;have T:=l.free 0;have l1:=l.free 1;have U:=l.free 2;have l3:=l.free 3;have l4:=l.free 4;have l5:=l.free 5;have l6:=l.free 6;clear l;obtain ⟨M,hM⟩:∃M,M=IntKind.u64.wrap (m1:Int):=⟨_,rfl⟩
  go_upto_region 22 with fail
  rw [<-hM];have H:=ae ((m.out.nn n1 r.out).wv M r.out);clear V s1 X s3 s4 s5 s6 T l1 U l3 l4 l5 l6 m;generalize ((w4.setCell ⟨s,2,none⟩ (.int .i64 n1)).setCell ⟨s,3,none⟩ (.int .u64 M))=W9 at*
 rotate_left
 all_goals
  obtain ⟨u1,u2,u3,u4,u5,u6,u7,l,aC,hE⟩:=ag.out _ _ _ H.out;have aO:=ae l;have aN:=ae aC;have HE:=ae hE;have aP:=ae (t9 u1 u2 u3 u4 u5 u6 u7);clear l aC hE H ag r;go_wp2_with (first|refine wpList_load_row rfl 40 _ rfl s rfl 40 (jP u1 u2 u3 u4 u5 u6 u7).toArray (0,0) _ aO.out underlying40 rfl ah.out ?_|refine wpList_store_row rfl 40 _ _ rfl r4 (jP u1 u2 u3 u4 u5 u6 u7).toArray rfl rfl 40 _ aN.out ah.out rfl aP.out ?_)
  obtain ⟨aS,C⟩:=HE.out _ rfl;refine bodyPost_ret (ei rfl _ _ _ _ _ _ _ rfl aS underlying40 rfl ah.out) rfl ?_;exact ⟨⟨_,_,_,_,_,_,_,_,rfl⟩,HQ.out▸C⟩
end
section
variable{b d x:Nat}{c:Cf}{bs Kp:List Nat}{w0 w w1 w':World}
theorem kj.trans{w2:World}(h:kj b c d x bs w0 Kp w w1)(a:kj b c d x bs w0 Kp w1 w2):kj b c d x bs w0 Kp w w2:=⟨a.1,aH h.2.1 a.2.1,fun k e cs t f=>a.2.2 k e cs t (h.2.2 k e cs t f)⟩
theorem gy.self(h:gy b c d x bs w0 Kp w)(hf:J7 w w'):kj b c d x bs w0 Kp w w':=⟨h.Qb hf,hf.size,fun _ _ _ _ a=>ay.frame a hf id⟩
theorem gy.lt(h:gy b c d x bs w0 Kp w):∀k∈Kp,k<w.heap.size:=let ⟨_,_,_,_,_,_,_,_,_,_,a⟩:=h;fun k e=>(a k e).2.1
theorem Gx(h:gy b c d x bs w0 Kp w):Calls prog 16 #[b] w fun e w'=>e= .returned (.bool false)/\w=w':=let ⟨_,_,_,_,_,_,a,_⟩:=h;lU a
theorem Jn(h:gy b c d x bs w0 Kp w)(K:Int){a X:Int}(ha:a≠d)(u:X≠d)(i p f g:Int){wd fl:Nat}(hw:wd<18446744073709551616)(hf:fl<18446744073709551616):Calls prog 9 #[b,.agg (um K a X i p f g wd fl).toArray] w fun e w'=>(∃v,e= .returned v)/\kj b c d x bs w0 Kp w w':=by
 obtain ⟨W1,o⟩:∃W1,w.alloc (.cells (um K a X i p f g wd fl).toArray 38)=W1:=⟨_,rfl⟩;obtain ⟨C,r⟩:∃C,W1.alloc (.cells (jP 0 false 0 0 0 0 0).toArray 40)=C:=⟨_,rfl⟩;have aj:J7 w W1:=by rw [<-o];exact (Kb _ w).alloc _
 have M:J7 w C:=by rw [<-r];exact aj.alloc _
 have O:W1.heap.size=w.heap.size+1:=by rw [<-o];exact World.size_alloc _ _
 have L:ay C w.heap.size (um K a X i p f g wd fl) 38:=by rw [<-r,<-o];exact (ay.new w _ _).alloc _
 have ad:ay C (w.heap.size+1) (jP 0 false 0 0 0 0 0) 40:=by have:=ay.new W1 (jP 0 false 0 0 0 0 0) 40;rwa [O,r] at this
 have h2:gy b c d x bs w0 ((w.heap.size+1)::w.heap.size::Kp) C:=by
  have h1:gy b c d x bs w0 (w.heap.size::Kp) W1:=by rw [<-o];exact h.add _
  have:=h1.add (.cells (jP 0 false 0 0 0 0 0).toArray 40);rwa [O,r] at this
 have ak:=h.lt;have HN:=ae (Gx h2);have l:=ae L;have D:=ae (GT h2 K a X i p f g (fl:=fl) hw);have n:=ae (fun w1 (h1:gy b c d x bs w0 ((w.heap.size+1)::w.heap.size::Kp) w1)=>CO h1 K ha u i p f g hw hf);have s:Hid ((prog.info? 40).map (·.size)=some 7):=by show _=_;kernel_rfl
 have am:Hid ((prog.info? 38).map (·.size)=some 9):=by show _=_;kernel_rfl
 have Z:Hid (∀w1 w2,kj b c d x bs w0 ((w.heap.size+1)::w.heap.size::Kp) C w1->J7 w1 w2->gy b c d x bs w0 ((w.heap.size+1)::w.heap.size::Kp) w2/\ay w2 w.heap.size (um K a X i p f g wd fl) 38):=ae (fun w1 w2 q hf=>⟨q.1.Qb hf,(q.2.2 _ (by simp) _ _ L).frame hf id⟩);have y:Hid (∀w1 w2 w3 cs,kj b c d x bs w0 ((w.heap.size+1)::w.heap.size::Kp) C w1->J7 w1 w2->kj b c d x bs w0 ((w.heap.size+1)::w.heap.size::Kp) w2 w3->ay w3 (w.heap.size+1) (jP 0 false 0 0 0 0 0) 40/\kj b c d x bs w0 Kp w (w3.setRow (w.heap.size+1) cs)):=by
  show∀w1 w2 w3 cs,_
  intro w1 w2 w3 cs q1 hf q2;have q:=(q1.trans (q1.1.self hf)).trans q2;refine ⟨q.2.2 _ (by simp) _ _ ad,?_⟩;have m:Fr (fun k=>k=w.heap.size+1) w3 (w3.setRow (w.heap.size+1) cs):=(Kb (fun k=>k=w.heap.size+1) w3).setRow _ (.inl rfl) cs;exact ⟨(q.1.setRow (by simp) cs).less.less,aH (aH M.size q.2.1) m.size,fun k hk cs t u=>(q.2.2 k (by simp [hk]) cs t (ay.frame u M id)).frame m (fun e=>by have:=ak k hk;have e:k=w.heap.size+1:=e;omega)⟩
 have H:=ae o;have I:=ae r;clear h h2 aj M O L ad ak hw hf ha u o r;obtain ⟨Q,hQ⟩:∃Q,kj b c d x bs w0 Kp w=Q:=⟨_,rfl⟩;rw [hQ] at y;have HQ:=ae hQ;clear hQ;unfold jP at I;unfold um at D n H ⊢;have k0:=l.out.cell 0 rfl;have k1:=l.out.cell 1 rfl;have k2:=l.out.cell 2 rfl;have k3:=l.out.cell 3 rfl;have k4:=l.out.cell 4 rfl;have k5:=l.out.cell 5 rfl;have k6:=l.out.cell 6 rfl;have k7:=l.out.cell 7 rfl;have k8:=l.out.cell 8 rfl
 go_enter func9,ntmps9
 go_upto_region 1 with fail
 rw [H.out,I.out];clear H I l;go_wp2_with fail
 refine HN.out.mono ?_;rintro e w1 ⟨rfl,rfl⟩;clear HN;go_wp2_with fail
 refine D.out.mono ?_;rintro e w3 ⟨⟨P,R,S,T,U,V,W,B,rfl⟩,N⟩;clear D k0 k1 k2 k3 k4 k5 k6 k7 k8;have al:=ae (Kb (fun _=>False) w3);obtain ⟨z,A⟩:∃z,w3.alloc (.cells (jP P R S T U V W).toArray 40)=z:=⟨_,rfl⟩;have m:J7 w3 z:=by rw [<-A];exact (Kb _ w3).alloc _
 have ah:ay z w3.heap.size (jP P R S T U V W) 40:=by rw [<-A];exact ay.new w3 _ _
 obtain ⟨h4,ag⟩:=Z.out w3 z N m;have n:=ae (n.out z h4);have F:=ae (fun w5 cs q=>y.out w3 z w5 cs N m q);have E:=ae (fun cs=>y.out w3 z z cs N m (h4.self (Kb _ _)));have j:=ae ag;have Y:=ae ah;have J:=ae A;clear Z y N A m ah ag h4 al;unfold jP at J ⊢
 go_upto_region 4 with fail
 rw [J.out];clear J
 cases B
 ·clear E Y;have k0:=j.out.cell 0 rfl;have k1:=j.out.cell 1 rfl;have k2:=j.out.cell 2 rfl;have k3:=j.out.cell 3 rfl;have k4:=j.out.cell 4 rfl;have k5:=j.out.cell 5 rfl;have k6:=j.out.cell 6 rfl;have k7:=j.out.cell 7 rfl;have k8:=j.out.cell 8 rfl;go_wp2_with fail
  refine n.out.mono ?_;rintro e w5 ⟨⟨cd,rfl⟩,N⟩;obtain ⟨u,hE⟩:=F.out w5 (jP cd false 0 0 0 0 0).toArray N;have l:=ae u;have HE:=ae hE;have G:=ae (t9 cd false 0 0 0 0 0);clear n F N u hE j k0 k1 k2 k3 k4 k5 k6 k7 k8;go_wp2_with (refine wpList_store_row rfl 40 _ _ rfl (w.heap.size+1) (jP cd false 0 0 0 0 0).toArray rfl rfl 40 _ l.out s.out rfl G.out ?_)
  refine bodyPost_ret (jT rfl _ _ _ _ _ _ _ rfl (l.out.setRow (jP cd false 0 0 0 0 0)) underlying40 rfl s.out) rfl ?_;exact ⟨⟨_,rfl⟩,HQ.out▸HE.out⟩
 ·obtain ⟨u,hE⟩:=E.out (jP P R S T U V W).toArray;have l:=ae u;have HE:=ae hE;have G:=ae (t9 P R S T U V W);clear n F E u hE j
  go_upto_region 5 with fail
  go_wp2_with (first|refine wpList_load_row rfl 40 _ rfl w3.heap.size rfl 40 (jP P R S T U V W).toArray (0,0) _ Y.out underlying40 rfl s.out ?_|refine wpList_store_row rfl 40 _ _ rfl (w.heap.size+1) (jP P R S T U V W).toArray rfl rfl 40 _ l.out s.out rfl G.out ?_)
  refine bodyPost_ret (jT rfl _ _ _ _ _ _ _ rfl (l.out.setRow (jP P R S T U V W)) underlying40 rfl s.out) rfl ?_;exact ⟨⟨_,rfl⟩,HQ.out▸HE.out⟩
end
inductive Sc where
 |int (k:IntKind)
 |bool
 |float (k:FloatKind)
 |str
def Sc.ok:Sc->Value->Prop
 | .int k,v=>∃n,v= .int k n/\(Lit.int k n).wf=true
 | .bool,v=>∃b,v= .bool b
 | .float k,v=>∃b,v= .float k b/\(Lit.float k b).wf=true
 | .str,v=>∃s:ByteArray,v= .string s/\s.size<=maxLen
def jG(P:Program)(rec:TypeId->Option (List Sc)):Nat->List Field->Option (List Sc)
 |_,[]=>some []
 |off,f::fs=>if f.offset=off then
   match rec f.type with
   |some l=>if l.length=P.cellsOf f.type then (jG P rec (off+l.length) fs).map (l++ ·) else none
   |none=>none
  else none
def yJ(P:Program):Nat->TypeId->Option (List Sc)
 |0,_=>none
 |d+1,t=>
  match P.underlying t with
  |some .bool=>some [.bool]
  |some (.int k)=>some [.int k]
  |some (.float k)=>some [.float k]
  |some .string=>some [.str]
  |some (.struct fs)=>(jG P (yJ P d) 0 fs.toList).bind fun l=>if l.length=P.cellsOf t then some l else none
  |some (.array n e)=>(yJ P d e).bind fun l=>if l.length=P.cellsOf e/\n*l.length=P.cellsOf t then some (List.replicate n l).flatten else none
  |_=>none
def gG:List Sc->List Value->Prop
 |[],[]=>True
 |s::L,v::cs=>s.ok v/\gG L cs
 |_,_=>False
theorem gG.length:∀{L:List Sc} {cs:List Value},gG L cs->cs.length=L.length
 |[],[],_=>rfl
 |s::L,v::cs,h=>by simp [gG.length h.2]
 |[],_::_,h=>h.elim
 |_::_,[],h=>h.elim
theorem gG.append:∀{L M:List Sc} {cs ds:List Value},gG L cs->gG M ds->gG (L++M) (cs++ds)
 |[],_,[],_,_,h2=>h2
 |_::_,_,_::_,_,h1,h2=>⟨h1.1,gG.append h1.2 h2⟩
 |[],_,_::_,_,h,_=>h.elim
 |_::_,_,[],_,h,_=>h.elim
section
variable{H:Type}{enc:TypeId×Value->H}{P:Program}{w:World}{Ba:Nat}{spare:Nat->Bool}{held:Bool}
theorem nk(b:TypeId->Option (List Sc))(n:Nat)(a:∀t L cs x,b t=some L->DataW.trod enc P w Ba spare held n t cs=some x->gG L cs)(cs:List Value):
  ∀(c:List Field) (off:Nat) (L:List Sc),jG P b off c=some L->off+L.length=cs.length->
   (∀f∈c,∃y,DataW.trod enc P w Ba spare held n f.type ((cs.drop f.offset).take (P.cellsOf f.type))=some y)->gG L (cs.drop off)
 |[],off,L,h,hl,_=>by
  simp only [jG,aT] at h;subst h;have:cs.drop off=[]:=iy (by simp at hl;omega);rw [this];trivial
 |f::c,off,L,h,hl,hf=>by
  unfold jG at h;split at h
  ·rename_i m;split at h
   ·rename_i l o;split at h
    ·rename_i k;simp only [dM] at h;obtain ⟨M,j,rfl⟩:=h;obtain ⟨y,d⟩:=hf f (by simp);rw [m,<-k] at d;have e:=a _ _ _ _ o d;have i:=nk b n a cs c (off+l.length) M j (by simp at hl;omega) (fun g hg=>hf g (by simp [hg]));have:=e.append i;rwa [<-mu,dU] at this
    ·cases h
   ·cases h
  ·cases h
theorem wy(n:Nat)(l:List Sc)(a:0<l.length):∀(k:Nat) (cs:List Value),cs.length=k*l.length->(∀i,i<k->gG l ((cs.drop (i*l.length)).take l.length))->gG (List.replicate k l).flatten cs
 |0,cs,hl,_=>by
  have:cs=[]:=bZ (by simpa using hl);subst this;trivial
 |k+1,cs,hl,h=>by
  rw [gw,List.flatten_cons];have b:=h 0 (by omega);simp only [d8,aB] at b;have c:=wy n l a k (cs.drop l.length) (by rw [qb,hl,dh];omega) (fun i d=>by
   have:=h (i+1) (by omega);rw [mu];rwa [show l.length+i*l.length=(i+1)*l.length by rw [dh];omega])
  have:=b.append c;rwa [dU] at this
theorem mC:∀(d:Nat) (t:TypeId) (L:List Sc),yJ P d t=some L->∀fuel cs x,DataW.trod enc P w Ba spare held fuel t cs=some x->gG L cs
 |0,_,_,h,_,_,_,_=>by cases h
 |d+1,t,L,h,fuel,cs,x,b=>by
  unfold yJ at h;split at h
  ·rename_i c;simp only [aT] at h;subst h
   cases fuel with
   |zero=>simp [DataW.trod] at b
   |succ n=>
    unfold DataW.trod at b;rw [c] at b;split at b<;>simp_all [gG,Sc.ok]
  ·rename_i k c;simp only [aT] at h;subst h;obtain ⟨n,rfl,_,A⟩:=DataW.trod_int c b;exact ⟨⟨n,rfl,A⟩,trivial⟩
  ·rename_i k c;simp only [aT] at h;subst h
   cases fuel with
   |zero=>simp [DataW.trod] at b
   |succ n=>
    unfold DataW.trod at b;rw [c] at b;split at b<;>simp_all [gG,Sc.ok]
  ·rename_i c;simp only [aT] at h;subst h;obtain ⟨s,rfl,_,A⟩:=DataW.trod_string c b;exact ⟨⟨s,rfl,A⟩,trivial⟩
  ·rename_i B c;simp only [kA] at h;obtain ⟨l,r,g⟩:=h;split at g
   ·rename_i a;simp only [aT] at g;subst g;obtain ⟨xs,n,rfl,_,q,o,hf⟩:=DataW.trod_struct c b;have:=nk (yJ P d) n (fun t L cs x h b=>mC d t L h n cs x b) cs B.toList 0 l r (by rw [q];omega) (fun f v=>by
     obtain ⟨i,y⟩:=List.getElem?_of_mem v;have hi':B[i]? =some f:=by simpa using y
     have j:i<xs.length:=by rw [o];exact (bE.1 hi').1
     exact ⟨xs[i],by rw [hf i f hi'];simp [j]⟩)
    simpa using this
   ·cases g
  ·rename_i n e c;simp only [kA] at h;obtain ⟨l,r,g⟩:=h;split at g
   ·rename_i a;simp only [aT] at g;subst g;obtain ⟨xs,m,rfl,_,q,o,hf⟩:=DataW.trod_array c b;rcases dB l.length with p|p
    ·have z:l=[]:=bZ p;have u:cs=[]:=bZ (by rw [q,<-a.2,p];simp);subst z;subst u;rw [show (List.replicate n ([]:List Sc)).flatten=[] by simp];trivial
    ·refine wy n l p n cs (by rw [q];exact a.2.symm) (fun i y=> ?_);have:=hf i y;rw [<-a.1] at this;have j:i<xs.length:=by omega
     rw [show xs[i]? =some xs[i] by simp [j]] at this;exact mC d e l r m _ _ this
   ·cases g
  ·cases h
def nO(L:List Sc)(w:World)(p:Option Addr)(len:Nat):Prop:=
 ∀i,i<len->∃b off cs,p=some ⟨b,off,none⟩/\gG L cs/\∀j v,cs[j]? =some v->w.cell? ⟨b,off+i*L.length+j,none⟩=some v
theorem y6{a:Addr}{n:Nat}{cs:List Value}(h:w.cells? Ba a n=some cs):∀j v,cs[j]? =some v->w.cell? (a.add j)=some v:=by
 intro j v c;unfold World.cells? at h;split at h
 ·have b:=mapM_some_length h;have d:j<n:=by have:=(aj.1 c).1;simp at b;omega
  have:=mapM_some_get h j j (by simp [d]);rw [this,c]
 ·cases h
theorem ua{t e:TypeId}{d:Nat}{L:List Sc}{p:Option Addr}{c cap:Nat}{x:DataW H}{ps:List MemPlace}(M:P.underlying t=some (.slice e))(hf:yJ P d e=some L)(E:P.cellsOf e=L.length)(A:0<L.length)
  (h:DataW.Trod enc P w Ba spare held t (.slice p c cap) x ps):nO L w p c/\c<=cap/\cap<=maxLen:=by
 obtain ⟨fuel,h⟩:=h;rcases Deep.open_slice M h with ⟨g,_⟩|⟨a,B,y,m,n,D,O,g,_,F,J,u,_,r⟩
 ·simp only [Value.cells] at g;simp only [jj,Value.slice.injEq,and_true] at g;obtain ⟨rfl,rfl,rfl⟩:=g;exact ⟨fun i q=>absurd q (by omega),by omega,by unfold maxLen;omega⟩
 ·simp only [Value.cells] at g;simp only [jj,Value.slice.injEq,and_true] at g;obtain ⟨rfl,rfl,rfl⟩:=g;refine ⟨fun i q=> ?_,F,J⟩;have I:c<=m:=by rw [u];split<;>omega
  have o:∀i,i<c->∃cs,gG L cs/\∀j v,cs[j]? =some v->w.cell? ((a.add (i*L.length)).add j)=some v:=by
   intro i q;obtain ⟨cs,k,l⟩:=r i (by omega);rw [E] at k;exact ⟨cs,mC d e L hf n cs _ l,y6 k⟩
  obtain ⟨b,off,f⟩:=a;have K:f=none:=by
   cases f with
   |none=>rfl
   |some s=>
    obtain ⟨cs,k,l⟩:=o 0 (by omega);have G:=k.length;have z:=l 0 (cs[0]'(by omega)) (by simp);simp only [d8,World.cell?,Addr.add,if_pos] at z;split at z<;>simp_all
  subst K;obtain ⟨cs,k,l⟩:=o i q;refine ⟨b,off,cs,rfl,k,fun j v N=> ?_⟩;have:=l j v N;rw [Deep.add_add] at this;have C:(⟨b,off,none⟩:Addr).add (i*L.length+j)=⟨b,off+i*L.length+j,none⟩:=by
   unfold Addr.add;split
   ·rename_i h;rw [cv,h];rfl
   ·simp [cv]
  rwa [C] at this
theorem nO.frame{L:List Sc}{w w':World}{p:Option Addr}{a:Nat}(h:nO L w p a)(hf:J7 w w'):nO L w' p a:=fun i f=>
 let ⟨b,off,cs,hp,e,c⟩:=h i f
 ⟨b,off,cs,hp,e,fun j v d=>(World.cell?_of_block (w:=w) (hf.block b (bu (c j v d)) id)).trans (c j v d)⟩
theorem wT{r:Go.Reach}{g:Nat}{t:TypeId}{d:Nat}{L:List Sc}{v:Value}{x:DataW H}{ps:List MemPlace}(b:Value.okWide P w r g t v)(a:(∃c,P.underlying t=some (.struct c))\/∃n e,P.underlying t=some (.array n e))
  (hf:yJ P d t=some L) (h:DataW.Trod enc P w Ba spare held t v x ps):∃cs,v= .agg cs.toArray/\gG L cs:=by
 have:∃cs,v= .agg cs:=by
  unfold Value.okWide at b;rcases a with ⟨c,f⟩|⟨n,e,f⟩<;>rw [f] at b<;>obtain ⟨cs,h,_⟩:=b<;>exact ⟨cs,h⟩
 obtain ⟨cs,rfl⟩:=this;obtain ⟨fuel,h⟩:=h;exact ⟨cs.toList,by simp,mC d t L hf fuel _ _ h⟩
end
end Go.Proofs.YtgnoapadkncphaaGreatDoor
