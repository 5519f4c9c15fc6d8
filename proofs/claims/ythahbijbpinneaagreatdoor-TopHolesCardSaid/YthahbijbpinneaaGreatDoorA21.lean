import Derived.Test.YthahbijbpinneaaGreatDoorA16
import Derived.Test.YthahbijbpinneaaGreatDoorA17
import Derived.Test.YthahbijbpinneaaGreatDoorA18
import Derived.Test.YthahbijbpinneaaGreatDoorA20
set_option maxRecDepth 100000
set_option maxHeartbeats 8000000
set_option linter.all false
namespace Go.Proofs.YthahbijbpinneaaGreatDoor
open Go.RowKit
def eu (b:Nat) (c:Cf) (m rb:Nat) (cy:Option Nat) (ns bs:Int) (Ba top wd:Nat) (w w':World):Prop:=∃ub',fT w' b c m rb ub' cy ns bs∧bM w' ub' m Ba top (Ba+wd)∧w.heap.size≤ub'∧Fr (fun k=>k=b) w w'
section
variable {b m rb ub:Nat} {c:Cf} {cy:Option Nat} {ns bs:Int} {w w' w'':World}
theorem eu.size {Ba top wd:Nat} (h:eu b c m rb cy ns bs Ba top wd w w'):w.heap.size≤w'.heap.size:=let ⟨_,_,_,_,h⟩:=h;h.size
theorem mO {S:Nat→Prop} {Pg W Rm Us Hg:Nat} {mp:Nat→Bool} {M:Nat→Nat} (h:fT w b c m rb ub cy ns bs) (hm:bl w m S Pg W Rm Us Hg mp M) (Ba top:Nat) (h1:Ba≤top) (h2:top≤Ba+c.Wd) (h3:Ba+c.Wd≤W):
  Calls Tryz.prog 73 #[b,.int .i64 Ba,.int .i64 top] w fun e w'=>e= .returned (.tuple #[])∧eu b c m rb cy ns bs Ba top c.Wd w w':=by
 obtain ⟨wd,hwd⟩:∃wd,wd=c.Wd:=⟨_,rfl⟩;have hW5:=hm.at.2.2.1;rw [←hwd] at h2 h3;have HC:=ae (fun w1 (hf:Fr (fun _=>False) w.drew w1)=>(show w1.cell? ⟨b,8,none⟩=some (.pointer (some ⟨m,0,none⟩))∧w1.cell? ⟨b,3,none⟩=some (.int .i64 wd) from by
  have g:ak w1 b _ _:=ak.frame h (((Fr.refl (fun _=>False) w).drew).trans hf (fun _ h=>h.elim)) (fun h=>h);rw [hwd];exact ⟨g.cell 8 rfl,g.cell 3 rfl⟩))
 have HBN:=ae (fun w1 (hf:Fr (fun _=>False) w.drew w1)=>lr (hm.keep (((Fr.refl (fun _=>False) w).drew).trans hf (fun _ h=>h.elim))) Ba (Ba+wd) (by omega) h3);have hbw:IntKind.i64.wrap ((Ba:Int)+(wd:Int))=((Ba+wd:Nat):Int):=by rw [IntKind.wrap_i64];push_cast;omega
 have HH:=ae h;have hbl:=ak.lt h;have HSE:=ae (fun w1 ub' (hr:bM w1 ub' m Ba Ba (Ba+wd))=>ms hr top h1 h2);have HQ:Hid (∀ub' w1 w2,w.heap.size≤ub'→Fr (fun k=>k=b) w w1→fT w1 b c m rb ub' cy ns bs→bM w2 ub' m Ba top (Ba+wd)→Fr (fun k=>k=ub') w1 w2→eu b c m rb cy ns bs Ba top c.Wd w w2):=by
  show∀ub' w1 w2,_
  intro ub' w1 w2 a1 a2 a3 a4 a5;have hb:=ak.lt h;refine ⟨ub',ak.frame a3 a5 (fun e=>by omega),by rw [←hwd];exact a4,a1,a2.trans a5 (fun k hk=> .inr (by omega))⟩
 have k8:w.cell? ⟨b,8,none⟩=some (.pointer (some ⟨m,0,none⟩)):=ak.cell h 8 rfl;clear h hm h1 h2 h3;have HWD:=ae hwd;clear hwd;generalize (eu b c m rb cy ns bs Ba top c.Wd w)=Q at*
 go_enter Tryz.func73,Tryz.ntmps73
 go_wp2;refine bp 20 19 (fun a b2=>Fr (fun k=>k=b) a b2) (fun a b2=>Fr (fun _=>False) a b2) [fun v _=>v= .pointer (some ⟨b,0,none⟩),fun v _=>v= .pointer (some ⟨b,0,none⟩),fun v _=>v= .pointer (some ⟨b,0,none⟩),fun v _=>v= .pointer (some ⟨b,8,none⟩),fun v _=>v= .pointer (some ⟨m,0,none⟩),fun v _=>v= .int .i64 Ba,fun v _=>v= .int .i64 Ba,fun v _=>v= .pointer (some ⟨b,0,none⟩),fun v _=>v= .pointer (some ⟨b,0,none⟩),fun v _=>v= .pointer (some ⟨b,0,none⟩),fun v _=>v= .pointer (some ⟨b,3,none⟩),fun v _=>v= .int .i64 wd,fun v _=>v= .int .i64 (((Ba+wd:Nat)):Int),fun v w'=>∃ub,w.heap.size≤ub∧v= .tuple #[.pointer (some ⟨ub,0,none⟩),.int .i64 0]∧bM w' ub m Ba Ba (Ba+wd),fun v w'=>∃ub,w.heap.size≤ub∧v= .tuple #[.pointer (some ⟨ub,0,none⟩),.int .i64 0]∧bM w' ub m Ba Ba (Ba+wd),fun v w'=>∃ub,w.heap.size≤ub∧v= .pointer (some ⟨ub,0,none⟩)∧bM w' ub m Ba Ba (Ba+wd),fun v w'=>True,fun v _=>v= .pointer (some ⟨b,0,none⟩),fun v _=>v= .pointer (some ⟨b,10,none⟩),fun v w'=>∃ub,w.heap.size≤ub∧bM w' ub m Ba Ba (Ba+wd)∧fT w' b c m rb ub cy ns bs] (fun j=>false) (by kernel_rfl) (by kernel_rfl) (by kernel_rfl) (by kernel_rfl) rfl (fun _=>Fr.refl _ _) (fun _ _ h=>h.mono (fun _ h=>h.elim)) (fun _ _ _ h1 h2=>h1.trans h2 (fun _ h=>h.elim)) (fun _ _ _ h1 h2=>h1.trans h2 (fun _ h=>h.elim)) (fun _ _ _ h1 h2=>(h1.mono (fun _ h=>h.elim)).trans h2 (fun _ h=> .inl h)) (fun _ _ h=>h.size) ⟨fun _ _ _ h _=>h,fun _ _ _ h _=>h,fun _ _ _ h _=>h,fun _ _ _ h _=>h,fun _ _ _ h _=>h,fun _ _ _ h _=>h,fun _ _ _ h _=>h,fun _ _ _ h _=>h,fun _ _ _ h _=>h,fun _ _ _ h _=>h,fun _ _ _ h _=>h,fun _ _ _ h _=>h,fun _ _ _ h _=>h,fun v w1 w2 h hr=>let ⟨ub,a,b,c⟩:=h;⟨ub,a,b,ak.frame c hr (fun h=>h)⟩,fun v w1 w2 h hr=>let ⟨ub,a,b,c⟩:=h;⟨ub,a,b,ak.frame c hr (fun h=>h)⟩,fun v w1 w2 h hr=>let ⟨ub,a,b,c⟩:=h;⟨ub,a,b,ak.frame c hr (fun h=>h)⟩,fun _ _ _ h _=>h,fun _ _ _ h _=>h,fun _ _ _ h _=>h,fun v w1 w2 h hr=>let ⟨ub,a,b,c⟩:=h;⟨ub,a,ak.frame b hr (fun h=>h),ak.frame c hr (fun h=>h)⟩,trivial⟩ ⟨.inr (fun _ _ _ h _=>h),.inr (fun _ _ _ h _=>h),.inr (fun _ _ _ h _=>h),.inr (fun _ _ _ h _=>h),.inr (fun _ _ _ h _=>h),.inr (fun _ _ _ h _=>h),.inr (fun _ _ _ h _=>h),.inr (fun _ _ _ h _=>h),.inr (fun _ _ _ h _=>h),.inr (fun _ _ _ h _=>h),.inr (fun _ _ _ h _=>h),.inr (fun _ _ _ h _=>h),.inr (fun _ _ _ h _=>h),.inr (fun v w1 w2 h hr=>let ⟨ub,a,b,c⟩:=h;⟨ub,a,b,ak.frame c hr (fun e=>by have:=hbl;omega)⟩),.inr (fun v w1 w2 h hr=>let ⟨ub,a,b,c⟩:=h;⟨ub,a,b,ak.frame c hr (fun e=>by have:=hbl;omega)⟩),.inr (fun v w1 w2 h hr=>let ⟨ub,a,b,c⟩:=h;⟨ub,a,b,ak.frame c hr (fun e=>by have:=hbl;omega)⟩),.inr (fun _ _ _ h _=>h),.inr (fun _ _ _ h _=>h),.inr (fun _ _ _ h _=>h),.inl rfl,trivial⟩ ?_;intro F hF;simp only [aS,List.take_succ_cons,List.take_zero,aa,ab,ac] at hF;subst hF;refine ⟨⟨fun vs w1 hw hw1 hd hx=> ?_,fun vs w1 hw hw1 hd hx=> ?_,fun vs w1 hw hw1 hd hx=> ?_,fun vs w1 hw hw1 hd hx=> ?_,fun vs w1 hw hw1 hd hx=> ?_,fun vs w1 hw hw1 hd hx=> ?_,fun vs w1 hw hw1 hd hx=> ?_,fun vs w1 hw hw1 hd hx=> ?_,fun vs w1 hw hw1 hd hx=> ?_,fun vs w1 hw hw1 hd hx=> ?_,fun vs w1 hw hw1 hd hx=> ?_,fun vs w1 hw hw1 hd hx=> ?_,fun vs w1 hw hw1 hd hx=> ?_,fun vs w1 hw hw1 hd hx=> ?_,fun vs w1 hw hw1 hd hx=> ?_,fun vs w1 hw hw1 hd hx=> ?_,fun vs w1 hw hw1 hd hx=> ?_,fun vs w1 hw hw1 hd hx=> ?_,fun vs w1 hw hw1 hd hx=> ?_,fun vs w1 hw hw1 hd hx=> ?_,trivial⟩,?_⟩
 ·refine ai (.pointer (some ⟨b,0,none⟩)) ?_ ⟨rfl,Fr.refl _ _,fun h=>nomatch h⟩;go_simp
 ·refine ai (.pointer (some ⟨b,0,none⟩)) ?_ ⟨rfl,Fr.refl _ _,fun h=>nomatch h⟩;go_simp
 ·have h1:vs 1= .pointer (some ⟨b,0,none⟩):=hd 1 (by kernel_rfl);refine ai (.pointer (some ⟨b,0,none⟩)) ?_ ⟨rfl,Fr.refl _ _,fun h=>nomatch h⟩;go_simp
 ·have h2:vs 2= .pointer (some ⟨b,0,none⟩):=hd 2 (by kernel_rfl);refine ai (.pointer (some ⟨b,8,none⟩)) ?_ ⟨rfl,Fr.refl _ _,fun h=>nomatch h⟩;go_simp
 ·have h3:vs 3= .pointer (some ⟨b,8,none⟩):=hd 3 (by kernel_rfl);refine ai (.pointer (some ⟨m,0,none⟩)) ?_ ⟨rfl,Fr.refl _ _,fun h=>nomatch h⟩;have HW:=hw1 (by kernel_rfl);have k8:=(HC.out w1 HW).1;go_simp
 ·refine ai (.int .i64 Ba) ?_ ⟨rfl,Fr.refl _ _,fun h=>nomatch h⟩;go_simp
 ·refine ai (.int .i64 Ba) ?_ ⟨rfl,Fr.refl _ _,fun h=>nomatch h⟩;go_simp
 ·refine ai (.pointer (some ⟨b,0,none⟩)) ?_ ⟨rfl,Fr.refl _ _,fun h=>nomatch h⟩;go_simp
 ·have h7:vs 7= .pointer (some ⟨b,0,none⟩):=hd 7 (by kernel_rfl);refine ai (.pointer (some ⟨b,0,none⟩)) ?_ ⟨rfl,Fr.refl _ _,fun h=>nomatch h⟩;go_simp
 ·have h8:vs 8= .pointer (some ⟨b,0,none⟩):=hd 8 (by kernel_rfl);refine ai (.pointer (some ⟨b,0,none⟩)) ?_ ⟨rfl,Fr.refl _ _,fun h=>nomatch h⟩;go_simp
 ·have h9:vs 9= .pointer (some ⟨b,0,none⟩):=hd 9 (by kernel_rfl);refine ai (.pointer (some ⟨b,3,none⟩)) ?_ ⟨rfl,Fr.refl _ _,fun h=>nomatch h⟩;go_simp
 ·have h10:vs 10= .pointer (some ⟨b,3,none⟩):=hd 10 (by kernel_rfl);refine ai (.int .i64 wd) ?_ ⟨rfl,Fr.refl _ _,fun h=>nomatch h⟩;have HW:=hw1 (by kernel_rfl);have k3:=(HC.out w1 HW).2;go_simp
 ·have h6:vs 6= .int .i64 Ba:=hd 6 (by kernel_rfl);have h11:vs 11= .int .i64 wd:=hd 11 (by kernel_rfl);refine ai (.int .i64 (((Ba+wd:Nat)):Int)) ?_ ⟨rfl,Fr.refl _ _,fun h=>nomatch h⟩;go_simp
 ·have h4:vs 4= .pointer (some ⟨m,0,none⟩):=hd 4 (by kernel_rfl);have h5:vs 5= .int .i64 Ba:=hd 5 (by kernel_rfl);have h12:vs 12= .int .i64 (((Ba+wd:Nat)):Int):=hd 12 (by kernel_rfl);have HW:=hw1 (by kernel_rfl);refine ay 121 #[m,.int .i64 Ba,.int .i64 ((Ba+wd:Nat):Int)] (by go_simp) ((HBN.out w1 HW).mono ?_);rintro e w5 ⟨ub,rfl,h1,h2,h3⟩;exact ⟨_,rfl,⟨ub,Nat.le_trans HW.size h2,rfl,h1⟩,h3,fun h=>nomatch h⟩
 ·have h13:=hd 13 (by kernel_rfl);obtain ⟨ub,a1,a2,a3⟩:=h13;refine ai (.tuple #[ub,.int .i64 0]) (by go_simp) ⟨⟨ub,a1,rfl,a3⟩,Fr.refl _ _,fun h=>nomatch h⟩
 ·have h14:=hd 14 (by kernel_rfl);obtain ⟨ub,a1,a2,a3⟩:=h14;refine ai (.pointer (some ⟨ub,0,none⟩)) (by go_simp) ⟨⟨ub,a1,rfl,a3⟩,Fr.refl _ _,fun h=>nomatch h⟩
 ·have h14:=hd 14 (by kernel_rfl);obtain ⟨ub,a1,a2,a3⟩:=h14;refine ai (.int .i64 0) (by go_simp) ⟨trivial,Fr.refl _ _,fun h=>nomatch h⟩
 ·have h0:vs 0= .pointer (some ⟨b,0,none⟩):=hd 0 (by kernel_rfl);refine ai (.pointer (some ⟨b,0,none⟩)) ?_ ⟨rfl,Fr.refl _ _,fun h=>nomatch h⟩;go_simp
 ·have h17:vs 17= .pointer (some ⟨b,0,none⟩):=hd 17 (by kernel_rfl);refine ai (.pointer (some ⟨b,10,none⟩)) ?_ ⟨rfl,Fr.refl _ _,fun h=>nomatch h⟩;go_simp
 ·have h18:vs 18= .pointer (some ⟨b,10,none⟩):=hd 18 (by kernel_rfl);have h15:=hd 15 (by kernel_rfl);obtain ⟨ub,a1,a2,a3⟩:=h15;have HW:=hw1 (by kernel_rfl);have hb1:fT w1 b c m rb _ cy ns bs:=ak.frame HH.out (((Fr.refl (fun _=>False) w).drew).trans HW (fun _ h=>h.elim)) (fun h=>h);have k10:=ak.cell hb1 10 rfl;have f10:=ak.free hb1 10;refine cl (w':=w1.setCell ⟨b,10,none⟩ (.pointer (some ⟨ub,0,none⟩))) (by go_simp) ⟨⟨ub,a1,ak.frame a3 ((Fr.refl (fun k=>k=b) w1).setCell ⟨b,10,none⟩ (.inl rfl) _) (fun e=>by have:=hbl;omega),hb1.set 10 _⟩,(Fr.refl (fun k=>k=b) w1).setCell ⟨b,10,none⟩ (.inl rfl) _,fun h=>nomatch h⟩
 intro vs w1 hw hp hx;obtain ⟨g0,g1,g2,g3,g4,g5,g6,g7,g8,g9,g10,g11,g12,g13,g14,g15,g16,g17,g18,g19,_⟩:=hp;obtain ⟨ub,a1,a3,a4⟩:=g19;clear g0 g1 g2 g3 g4 g5 g6 g7 g8 g9 g10 g11 g12 g13 g14 g15 g16 g17 g18 hx;simp only [List.drop_succ_cons,List.drop_zero];have HR3:=ae a3;have HB1:=ae a4;have HF1:=ae ((show Fr (fun k=>k=b) w w.drew from (Fr.refl _ _).drew).trans hw (fun _ h=> .inl h));have HA1:=ae a1;have k10:=ak.cell a4 10 rfl;clear hw a1 a3 a4 HC HBN HH hbl;go_wp2_with fail
 refine (HSE.out _ _ HR3.out).mono ?_;intro e w5 hp;obtain ⟨rfl,hr5,hf5⟩:=hp;have H:=ae (HQ.out ub w1 w5 HA1.out HF1.out HB1.out hr5 hf5);clear hr5 hf5 HQ HR3 HF1 HA1 HSE HB1 k10;go_wp2;go_end0;exact ⟨rfl,H.out⟩
theorem vi.keep {A:AG} {rs:List Nat} {u n:Nat} {T:Nat→Prop} (hj:vi b c A rs u n T w) (hf:Fr (fun _=>False) w w'):vi b c A rs u n T w':=by
 obtain ⟨h,φ,L,Ba,ub,cy,ns,bs,S,q1,q2,q3⟩:=hj;exact ⟨h,φ,L,Ba,ub,cy,ns,bs,S,q1,q2.keep hf,q3⟩
def sW (b:Nat) (c:Cf) (A:AG) (rs:List Nat) (T:Nat→Prop) (w:World) (e:Ending) (w':World):Prop:=e= .returned (.tuple #[])∧∃l n' T',aL A rs l∧b8 b c A rs (A.Wd l) n' T' w'∧Fr T w w'∧∀k,T' k→T k∨w.heap.size≤k
end
def yM (b m rb:Nat) (c:Cf) (ns bs:Int) (A:AG) (rs:List Nat) (T:Nat→Prop) (w:World) (To y tp wd:Nat) (w6:World):Prop:=
 (∀w7,Fr (fun _=>False) w6 w7→Calls Tryz.prog 130 #[y] w7 fun e w'=>e= .returned (.int .i64 tp)∧Fr (fun _=>False) w7 w')∧
 (∀w7,Fr (fun _=>False) w6 w7→Calls Tryz.prog 73 #[b,.int .i64 To,.int .i64 tp] w7 fun e w'=>e= .returned (.tuple #[])∧eu b c m rb (some y) ns bs To tp wd w7 w')∧
 (∀w7 w8,Fr (fun _=>False) w6 w7→eu b c m rb (some y) ns bs To tp wd w7 w8→∃l n T1,aL A rs l∧vi b c A rs (A.Wd l) n T1 w8∧Fr T w w8∧∀k,T1 k→T k∨w.heap.size≤k)
section
variable {b u n Ba ub:Nat} {h:Hp} {c:Cf} {A:AG} {rs:List Nat} {T S:Nat→Prop} {φ L:Nat→Nat} {ns bs:Int} {w w1 w5 w6:World}
theorem uw (hw:fU (fun _=>True) h c A rs φ L Ba u ub none 0 ns bs S w) (hT:∀k,T k↔gj h ub S k) (hk:c.kind=1) (hf:Fr (fun _=>False) w w1) {e:Ending} (ho:jd h.m h.rb h.rg c.Pg c.W c.Fs A rs (2*c.Pg+c.Wd-Ba) (2*c.Pg+c.Wd-Ba+c.Wd) c.block c.Ah S w1 e w5):
  ∃y tp,e= .returned (.tuple #[.pointer (some ⟨y,0,none⟩),.int .i64 0])∧fT w5 h.b c h.m h.rb ub none ns bs∧(∀cb cs t,w.heap.size≤cb→ak w1 cb cs t→ak w5 cb cs t)∧∀w6,Fr (fun k=>k=h.b) w5 w6→fT w6 h.b c h.m h.rb ub (some y) ns bs→yM h.b h.m h.rb c ns bs A rs T w (2*c.Pg+c.Wd-Ba) y tp c.Wd w6:=by
 have hw1:=hw.keep hf;have hoth:=hw.half.other (by omega);have hle:=hoth.le;have htp:=hoth.top;generalize 2*c.Pg+c.Wd-Ba=To at ho hoth hle htp ⊢;obtain ⟨cc,s,hf',hg,φ',L',S',l,rfl,r1,r2,r3,r4,r5,r6,r7,q1,q2,q3,q4,q5,q6,q7,q8,q9,q10,q11⟩:=ho;obtain ⟨hW5,_⟩:=hw.cok.W5;have hlt1:=hw1.lt;have hz1:=hf.size;have hz9:=q9.size;obtain ⟨e1,e2,e3,e4,e5,e6,e7,e8,e9⟩:=hw.e;have hd:=hw.d;have htl:aN<w1.heap.size:=aE (hw1.tab 0 0 rfl);have hB5:fT w5 h.b c h.m h.rb ub none ns bs:=ak.frame hw1.blk q9 (fun h'=>h'.elim (fun h'=>(hd _ h').1 rfl) (fun e=>e2 e));have hl5:=ak.lt hB5;refine ⟨cc.y,To+A.Wd l,rfl,hB5,fun cb cs t hcb hb=>ak.frame hb q9 (fun h'=> ?_),fun w6 hf6 hB6=> ?_⟩
 ·have hlt:=hw.lt;have h3:=hlt h.rg (.inr (.inr (.inr (.inl rfl))));rcases h' with h'|h'
  ·have:=hlt cb (.inl h');omega
  ·omega
 have hSl:∀k,S' k→k<w5.heap.size:=q2.lt;have hSd:∀k,S' k→k≠h.b∧k≠h.rb∧k≠h.rg∧k≠ub∧k≠aN:=fun k hk=>by
  rcases q8 k hk with h1|h1
  ·exact hd k h1
  ·have h2:=hlt1 h.b (.inr (.inl rfl));have h3:=hlt1 h.rb (.inr (.inr (.inl rfl)));have h4:=hlt1 h.rg (.inr (.inr (.inr (.inl rfl))));have h5:=hlt1 ub (.inr (.inr (.inr (.inr rfl))));exact ⟨by omega,by omega,by omega,by omega,by omega⟩
 have hz6:=hf6.size;obtain ⟨Us,hsu⟩:=q2.su;refine ⟨fun w7 hf7=> ?_,fun w7 hf7=> ?_,fun w7 w8 hf7 hp=> ?_⟩
 ·have hsu7:=(hsu.stays hf6 (fun k hk=>(hSd k hk).1) (Ne.symm e6)).stays hf7 (fun _ _ h=>h) (fun h=>h);obtain ⟨Hg,Sm,mp,M,fw,n,p1,p2,p3,p4,p5⟩:=hsu7;have h1:=uZ p1.blk p1.plan (by rw [p1.to_,r2];omega);refine h1.mono ?_;rintro e w' ⟨rfl,h2⟩;rw [p1.to_,r2,q11];exact ⟨rfl,h2⟩
 ·have hsu7:=(hsu.stays hf6 (fun k hk=>(hSd k hk).1) (Ne.symm e6)).stays hf7 (fun _ _ h=>h) (fun h=>h);obtain ⟨Hg,Sm,mp,M,fw,n,p1,p2,p3,p4,p5⟩:=hsu7;have hm:=p1.mem;rw [r1,r4] at hm;exact mO (ak.frame hB6 hf7 (fun h=>h)) hm To (To+A.Wd l) (by omega) q5 htp
 ·obtain ⟨ub',hb8,hr8,hub,hf8⟩:=hp;have hz7:=hf7.size;have hz8:=hf8.size;have hf58:Fr (fun k=>k=h.b) w5 w8:=(hf6.trans hf7 (fun _ h=>h.elim)).trans hf8 (fun _ h=> .inl h);have hfit:A.Wd l≤c.Wd:=by omega
  refine ⟨l,s.nb,gj h ub' S',q3,⟨h,φ',L',To,ub',some cc.y,ns,bs,S',rfl,⟨hw.cok,hb8,q6.frame hf58 (Ne.symm e1) (Ne.symm e2),hr8,an q7 hf58 (Ne.symm e6),q4,hw.Sl,hfit,hoth,⟨hk,cc,s,hf',hg,_,0,0,q1,⟨Us,trivial,hsu.stays hf58 (fun k hk=>(hSd k hk).1) (Ne.symm e6)⟩,rfl,r1,r2,r3,by rw [r5];congr 1;omega,r4,r6,r7⟩,fun k hk=> ?_,e1,e2,?_,?_,?_,e6,e7,?_,e9⟩,fun k=>Iff.rfl⟩,?_,?_⟩
  ·have h9:=hSl k hk;have:=hSd k hk;exact ⟨this.1,this.2.1,this.2.2.1,by omega,this.2.2.2.2⟩
  ·have:=hlt1 h.b (.inr (.inl rfl));omega
  ·have:=hlt1 h.rb (.inr (.inr (.inl rfl)));omega
  ·have:=hlt1 h.rg (.inr (.inr (.inr (.inl rfl))));omega
  ·omega
  ·refine (((hf.mono (fun _ h=>h.elim)).trans q9 (fun k hk=> .inl ?_)).trans hf58 (fun k hk=> .inl ?_))
   ·exact (hT k).2 (hk.elim .inl (fun e=> .inr (.inr (.inr (.inl e)))))
   ·exact (hT k).2 (.inr (.inl hk))
  ·rintro k (hk|hk|hk|hk|hk)
   ·rcases q8 k hk with h1|h1
    ·exact .inl ((hT k).2 (.inl h1))
    ·exact .inr (by omega)
   ·exact .inl ((hT k).2 (.inr (.inl hk)))
   ·exact .inl ((hT k).2 (.inr (.inr (.inl hk))))
   ·exact .inl ((hT k).2 (.inr (.inr (.inr (.inl hk)))))
   ·exact .inr (by omega)
theorem mR (hi:b8 b c A rs u 0 T w) (hk:c.kind=1):Calls Tryz.prog 58 #[b] w (sW b c A rs T w):=by
 obtain ⟨h,φ,L,Ba,ub,cy,ns,bs,S,rfl,hw,hT,hcy⟩:=hi;obtain rfl:=hcy rfl;have HPL:=ae (kD hw.cok hw.blk hw.reg (by have:=hw.half.le;omega));have HOP:=ae (fun w1 (hf:Fr (fun _=>False) w w1)=>(show Calls Tryz.prog 129 #[h.m,.pointer (some ⟨h.rb,0,none⟩),cG Ba (Ba+u) (2*c.Pg+c.Wd-Ba) (2*c.Pg+c.Wd-Ba+c.Wd) c.block c.stack c.Ah] w1 (jd h.m h.rb h.rg c.Pg c.W c.Fs A rs (2*c.Pg+c.Wd-Ba) (2*c.Pg+c.Wd-Ba+c.Wd) c.block c.Ah S w1) from by
  obtain ⟨_,Us,Hg,mp,hm,hmp⟩:=(hw.keep hf).mem;refine callsIn_wide.1 (uT 0 hm (hw.keep hf).roots (hw.keep hf).tab (fun h=>(hw.d _ h).2.2.2.2 rfl) ⟨fun h=>(hw.d _ h).2.1 rfl,fun h=>(hw.d _ h).2.2.1 rfl⟩ hw.e.2.2.2.2.2.2.1 Ba (Ba+u) _ _ c.block c.stack c.Ah (hw.half.conf hw.cok (by omega) hw.fits) hw.laid (by have:=hw.cok.slots1;have:=hw.Sl;omega) (by have:=hw.fits;omega) hmp ?_ hw.cok.div);unfold Cf.Fs Cf.spare;rw [if_pos hk,Nat.add_sub_cancel_left];rfl))
 have HTU:=ae (fun w1 w5 e (hf:Fr (fun _=>False) w w1) ho=>uw (e:=e) (w5:=w5) hw hT hk hf ho);have HEN:=ae (fun u n T1 w1 (hj:vi h.b c A rs u n T1 w1)=>lD hj);have HBK:=ae hw.blk;have HS7:Hid ((Tryz.prog.info? 143).map (·.size)=some 7):=by show _=_;kernel_rfl
 have HON:=ae (ur Ba (Ba+u:Nat) (2*c.Pg+c.Wd-Ba:Nat) (2*c.Pg+c.Wd-Ba+c.Wd:Nat) c.block c.stack c.Ah);have HQ:Hid (∀w1 e w2 l n T1,aL A rs l→Fr T w w1→(∀k,T1 k→T k∨w.heap.size≤k)→lZ h.b c A rs (A.Wd l) n T1 w1 e w2→e= .returned (.tuple #[])∧sW h.b c A rs T w (.returned (.tuple #[])) w2):=by
  show∀w1 e w2 l n T1,_
  rintro w1 e w2 l n T1 g0 g1 g2 ⟨rfl,T2,g3,g4,g5⟩;have hz:=g1.size;exact ⟨rfl,rfl,l,n,T2,g0,g3,g1.trans g4 g2,fun k hk=>(g5 k hk).elim (g2 k) (fun h=> .inr (by omega))⟩
 clear hw hT hcy;unfold cG at HPL HOP;generalize (sW h.b c A rs T w)=Q at*;generalize 2*c.Pg+c.Wd-Ba=To at*;generalize To+c.Wd=Li at*;generalize Ba+u=Tp at*;obtain ⟨b,m,rb,rg⟩:=h;dsimp only at*
 go_enter Tryz.func58,Tryz.ntmps58
 go_wp2_with fail
 refine (HPL.out).mono ?_;rintro e w2 ⟨rfl,hf2⟩;obtain ⟨W2,hW2⟩:∃W2,w2.alloc (.cells #[.int .i64 Ba,.int .i64 Tp,.int .i64 To,.int .i64 Li,.int .i64 (c.block:Int),.int .i64 (c.stack:Int),.int .i64 (c.Ah:Int)] 143)=W2:=⟨_,rfl⟩;have hfa:Fr (fun _=>False) w W2.drew:=by rw [←hW2];exact (hf2.alloc _).drew
 have HCB:Hid (ak W2.drew w2.heap.size [.int .i64 Ba,.int .i64 Tp,.int .i64 To,.int .i64 Li,.int .i64 (c.block:Int),.int .i64 (c.stack:Int),.int .i64 (c.Ah:Int)] 143):=by rw [←hW2];exact ae (ak.new w2 _ _)
 have hB2:fT W2.drew b c m rb ub none ns bs:=ak.frame HBK.out hfa (fun h=>h);have k8:=ak.cell hB2 8 rfl;have k9:=ak.cell hB2 9 rfl;have HOP2:=ae (HOP.out W2.drew hfa);have HTU2:=ae (fun w5 e ho=>HTU.out W2.drew w5 e hfa ho);have HOZ:Hid (∀e w5,jd m rb rg c.Pg c.W c.Fs A rs To Li c.block c.Ah S W2.drew e w5→W2.drew.heap.size<w5.heap.size):=ae (fun e w5 h=>by
  obtain ⟨_,_,_,_,_,_,_,_,_,_,_,_,_,_,_,_,_,_,_,_,_,_,_,_,_,h1,_⟩:=h;exact h1)
 have HOV:Hid (∀e w5,jd m rb rg c.Pg c.W c.Fs A rs To Li c.block c.Ah S W2.drew e w5→∃y,e= .returned (.tuple #[.pointer (some ⟨y,0,none⟩),.int .i64 0])):=ae (fun e w5 h=>by
  obtain ⟨_,_,_,_,_,_,_,_,h1,_⟩:=h;exact ⟨_,h1⟩)
 generalize (jd m rb rg c.Pg c.W c.Fs A rs To Li c.block c.Ah S W2.drew)=OPN at*;have HF2:=ae hf2;have HBK2:=HBK;clear hf2 HPL hfa hB2 HOP HTU HBK;generalize c.block=bk at*;generalize c.stack=sk at*;generalize c.Ah=ad at*;have HOP:=HOP2;clear HOP2;go_wp2;refine bp 15 9 (fun a b2=>(b2=a∨a=W2.drew)∧a.heap.size≤b2.heap.size) (fun a b2=>b2=a) [fun v _=>v= .pointer (some ⟨b,0,none⟩),fun v _=>v= .pointer (some ⟨b,0,none⟩),fun v _=>v= .pointer (some ⟨b,8,none⟩),fun v _=>v= .pointer (some ⟨m,0,none⟩),fun v _=>v= .pointer (some ⟨b,0,none⟩),fun v _=>v= .pointer (some ⟨b,0,none⟩),fun v _=>v= .pointer (some ⟨b,9,none⟩),fun v _=>v= .pointer (some ⟨rb,0,none⟩),fun v _=>v= .agg #[.int .i64 Ba,.int .i64 Tp,.int .i64 To,.int .i64 Li,.int .i64 bk,.int .i64 sk,.int .i64 ad],fun v w'=>OPN (.returned v) w',fun v w'=>OPN (.returned v) w',fun v w'=>∃y,v= .pointer (some ⟨y,0,none⟩)∧OPN (.returned (.tuple #[.pointer (some ⟨y,0,none⟩),.int .i64 0])) w',fun v _=>v= .int .i64 0,fun v w'=>∃y,v= .pointer (some ⟨y,0,none⟩)∧OPN (.returned (.tuple #[.pointer (some ⟨y,0,none⟩),.int .i64 0])) w',fun v _=>v= .int .i64 0] (fun j=>false) (by kernel_rfl) (by kernel_rfl) (by kernel_rfl) (by kernel_rfl) rfl (fun _=>rfl) (fun _ _ h=>⟨.inl h,by rw [h];exact Nat.le_refl _⟩) (fun _ _ _ h1 h2=>h2.trans h1) (fun _ _ _ h1 h2=>by subst h2;exact h1) (fun _ _ _ h1 h2=>by subst h1;exact h2) (fun _ _ h=>h.2) ⟨fun _ _ _ h _=>h,fun _ _ _ h _=>h,fun _ _ _ h _=>h,fun _ _ _ h _=>h,fun _ _ _ h _=>h,fun _ _ _ h _=>h,fun _ _ _ h _=>h,fun _ _ _ h _=>h,fun _ _ _ h _=>h,fun v w1 w2 h hr=>by subst hr;exact h,fun v w1 w2 h hr=>by subst hr;exact h,fun v w1 w2 h hr=>by subst hr;exact h,fun _ _ _ h _=>h,fun v w1 w2 h hr=>by subst hr;exact h,fun _ _ _ h _=>h,trivial⟩ ⟨.inr (fun _ _ _ h _=>h),.inr (fun _ _ _ h _=>h),.inr (fun _ _ _ h _=>h),.inr (fun _ _ _ h _=>h),.inr (fun _ _ _ h _=>h),.inr (fun _ _ _ h _=>h),.inr (fun _ _ _ h _=>h),.inr (fun _ _ _ h _=>h),.inr (fun _ _ _ h _=>h),.inl rfl,.inr (fun v w1 w2 h hr=>by rcases hr.1 with e|e;(subst e;exact h);(subst e;exact absurd (HOZ.out _ _ h) (Nat.lt_irrefl _))),.inr (fun v w1 w2 h hr=>by rcases hr.1 with e|e;(subst e;exact h);(subst e;obtain ⟨y,_,h⟩:=h;exact absurd (HOZ.out _ _ h) (Nat.lt_irrefl _))),.inr (fun _ _ _ h _=>h),.inr (fun v w1 w2 h hr=>by rcases hr.1 with e|e;(subst e;exact h);(subst e;obtain ⟨y,_,h⟩:=h;exact absurd (HOZ.out _ _ h) (Nat.lt_irrefl _))),.inr (fun _ _ _ h _=>h),trivial⟩ ?_;intro F hF;simp only [aS,List.take_succ_cons,List.take_zero,aa,ab,ac] at hF;subst hF;refine ⟨⟨fun vs w1 hw hw1 hd hx=> ?_,fun vs w1 hw hw1 hd hx=> ?_,fun vs w1 hw hw1 hd hx=> ?_,fun vs w1 hw hw1 hd hx=> ?_,fun vs w1 hw hw1 hd hx=> ?_,fun vs w1 hw hw1 hd hx=> ?_,fun vs w1 hw hw1 hd hx=> ?_,fun vs w1 hw hw1 hd hx=> ?_,fun vs w1 hw hw1 hd hx=> ?_,fun vs w1 hw hw1 hd hx=> ?_,fun vs w1 hw hw1 hd hx=> ?_,fun vs w1 hw hw1 hd hx=> ?_,fun vs w1 hw hw1 hd hx=> ?_,fun vs w1 hw hw1 hd hx=> ?_,fun vs w1 hw hw1 hd hx=> ?_,trivial⟩,?_⟩
 ·refine ai (.pointer (some ⟨b,0,none⟩)) ?_ ⟨rfl,rfl,fun h=>nomatch h⟩;go_simp
 ·have h0:vs 0= .pointer (some ⟨b,0,none⟩):=hd 0 (by kernel_rfl);refine ai (.pointer (some ⟨b,0,none⟩)) ?_ ⟨rfl,rfl,fun h=>nomatch h⟩;go_simp
 ·have h1:vs 1= .pointer (some ⟨b,0,none⟩):=hd 1 (by kernel_rfl);refine ai (.pointer (some ⟨b,8,none⟩)) ?_ ⟨rfl,rfl,fun h=>nomatch h⟩;go_simp
 ·have h2:vs 2= .pointer (some ⟨b,8,none⟩):=hd 2 (by kernel_rfl);refine ai (.pointer (some ⟨m,0,none⟩)) ?_ ⟨rfl,rfl,fun h=>nomatch h⟩;have hwe:=hw1 (by kernel_rfl);subst hwe;go_simp
 ·refine ai (.pointer (some ⟨b,0,none⟩)) ?_ ⟨rfl,rfl,fun h=>nomatch h⟩;go_simp
 ·have h4:vs 4= .pointer (some ⟨b,0,none⟩):=hd 4 (by kernel_rfl);refine ai (.pointer (some ⟨b,0,none⟩)) ?_ ⟨rfl,rfl,fun h=>nomatch h⟩;go_simp
 ·have h5:vs 5= .pointer (some ⟨b,0,none⟩):=hd 5 (by kernel_rfl);refine ai (.pointer (some ⟨b,9,none⟩)) ?_ ⟨rfl,rfl,fun h=>nomatch h⟩;go_simp
 ·have h6:vs 6= .pointer (some ⟨b,9,none⟩):=hd 6 (by kernel_rfl);refine ai (.pointer (some ⟨rb,0,none⟩)) ?_ ⟨rfl,rfl,fun h=>nomatch h⟩;have hwe:=hw1 (by kernel_rfl);subst hwe;go_simp
 ·have hwe:=hw1 (by kernel_rfl);subst hwe;refine ai (.agg #[.int .i64 Ba,.int .i64 Tp,.int .i64 To,.int .i64 Li,.int .i64 bk,.int .i64 sk,.int .i64 ad]) ?_ ⟨rfl,rfl,fun h=>nomatch h⟩;exact du rfl w2.heap.size rfl 143 _ (0,0) _ HCB.out Tryz.underlying143 rfl HS7.out
 ·have h3:vs 3= .pointer (some ⟨m,0,none⟩):=hd 3 (by kernel_rfl);have h7:vs 7= .pointer (some ⟨rb,0,none⟩):=hd 7 (by kernel_rfl);have h8:vs 8= .agg #[.int .i64 Ba,.int .i64 Tp,.int .i64 To,.int .i64 Li,.int .i64 bk,.int .i64 sk,.int .i64 ad]:=hd 8 (by kernel_rfl);have hwe:=hw1 (by kernel_rfl);subst hwe;refine ay 129 #[m,.pointer (some ⟨rb,0,none⟩),.agg #[.int .i64 Ba,.int .i64 Tp,.int .i64 To,.int .i64 Li,.int .i64 bk,.int .i64 sk,.int .i64 ad]] (by go_simp) ((HOP.out).mono ?_);intro e w5 hp;have hz:=HOZ.out e w5 hp;obtain ⟨y,rfl⟩:=HOV.out e w5 hp;exact ⟨_,rfl,hp,⟨.inr rfl,Nat.le_of_lt hz⟩,fun h=>nomatch h⟩
 ·have h9:=hd 9 (by kernel_rfl);refine ai (vs 9) (by go_simp) ⟨h9,rfl,fun h=>nomatch h⟩
 ·have h10:=hd 10 (by kernel_rfl);have h10:OPN (.returned (vs 10)) w1:=h10;obtain ⟨y,hy⟩:=HOV.out _ _ h10;have hy2:=Ending.returned.inj hy;rw [hy2] at h10;refine ai (.pointer (some ⟨y,0,none⟩)) (by go_simp) ⟨⟨y,rfl,h10⟩,rfl,fun h=>nomatch h⟩
 ·have h10:=hd 10 (by kernel_rfl);have h10:OPN (.returned (vs 10)) w1:=h10;obtain ⟨y,hy⟩:=HOV.out _ _ h10;have hy2:=Ending.returned.inj hy;clear hy h10;refine ai (.int .i64 0) (by go_simp) ⟨rfl,rfl,fun h=>nomatch h⟩
 ·have h11:=hd 11 (by kernel_rfl);obtain ⟨y,hy,ho⟩:=h11;refine ai (.pointer (some ⟨y,0,none⟩)) (by go_simp) ⟨⟨y,rfl,ho⟩,rfl,fun h=>nomatch h⟩
 ·have h12:=hd 12 (by kernel_rfl);have h12:vs 12= .int .i64 0:=h12;refine ai (.int .i64 0) (by go_simp) ⟨rfl,rfl,fun h=>nomatch h⟩
 intro vs w1 hw hp hx;obtain ⟨g0,g1,g2,g3,g4,g5,g6,g7,g8,g9,g10,g11,g12,g13,g14,_⟩:=hp;obtain ⟨y,hy,hop⟩:=g13;simp only [hy,g14];clear g0 g1 g2 g3 g4 g5 g6 g7 g8 g9 g10 g11 g12 g14 hx hy hw;simp only [List.drop_succ_cons,List.drop_zero];obtain ⟨y',tp,e1,hB5,hcb5,hJ⟩:=HTU2.out _ _ hop;have e2:y=y':=by
  have h1:=congrArg (fun x=>match x with|Ending.returned (.tuple #[.pointer (some a),_])=>a.block|_=>0) e1;exact h1
 subst e2;have hc5:=hcb5 _ _ _ HF2.out.size HCB.out;clear e1 hcb5 hop HCB HOP HOZ HOV HTU2 k8 k9;have hfs:Fr (fun k=>k=b) w1 (w1.setCell ⟨b,11,none⟩ (.pointer (some ⟨y,0,none⟩))):=(Fr.refl (fun k=>k=b) w1).setCell ⟨b,11,none⟩ (.inl rfl) _;have hbl:=ak.lt HBK2.out;have hJ6:=hJ _ hfs (hB5.set 11 (.pointer (some ⟨y,0,none⟩)));have hc6:=ak.frame hc5 hfs (fun e=>by have:=HF2.out.size;omega);have k11:=ak.cell hB5 11 rfl;have f11:=ak.free hB5 11;obtain ⟨W4,hW4⟩:∃W4,w1.setCell ⟨b,11,none⟩ (.pointer (some ⟨y,0,none⟩))=W4:=⟨_,rfl⟩;rw [hW4] at hJ6 hc6;have HTP:=ae (fun w1 (hf:Fr (fun _=>False) W4.drew w1)=>hJ6.1 w1 (((Fr.refl (fun _=>False) W4).drew).trans hf (fun _ h=>h.elim)));have HLI:=ae (fun w1 (hf:Fr (fun _=>False) W4.drew w1)=>hJ6.2.1 w1 (((Fr.refl (fun _=>False) W4).drew).trans hf (fun _ h=>h.elim)));have HLJ:=ae (fun w1 w8 (hf:Fr (fun _=>False) W4.drew w1) hp=>hJ6.2.2 w1 w8 (((Fr.refl (fun _=>False) W4).drew).trans hf (fun _ h=>h.elim)) hp);have HK2:=ae (fun w1 (hf:Fr (fun _=>False) W4.drew w1)=>(ak.frame hc6 (((Fr.refl (fun _=>False) W4).drew).trans hf (fun _ h=>h.elim)) (fun h=>h)).cell 2 rfl);clear hJ hJ6 hc5 hc6 hB5 hfs hbl;go_wp2;clear hW4 k11 f11;refine bp 6 5 (fun a b2=>(Fr (fun _=>False) a b2∨True)∧a.heap.size≤b2.heap.size) (fun a b2=>Fr (fun _=>False) a b2) [fun v _=>v= .pointer (some ⟨b,0,none⟩),fun v _=>v= .pointer (some ⟨w2.heap.size,2,none⟩),fun v _=>v= .int .i64 To,fun v _=>v= .pointer (some ⟨y,0,none⟩),fun v _=>v= .int .i64 tp,fun _ w'=>∃l n T1,aL A rs l∧vi b c A rs (A.Wd l) n T1 w'∧Fr T w w'∧∀k,T1 k→T k∨w.heap.size≤k] (fun j=>false) (by kernel_rfl) (by kernel_rfl) (by kernel_rfl) (by kernel_rfl) rfl (fun _=>Fr.refl _ _) (fun _ _ h=>⟨.inl h,h.size⟩) (fun _ _ _ h1 h2=>h1.trans h2 (fun _ h=>h.elim)) (fun _ _ _ h1 h2=>⟨h1.1.elim (fun h=> .inl (h.trans h2 (fun _ h=>h.elim))) (fun h=> .inr trivial),Nat.le_trans h1.2 h2.size⟩) (fun _ _ _ h1 h2=>⟨.inr trivial,Nat.le_trans h1.size h2.2⟩) (fun _ _ h=>h.2) ⟨fun _ _ _ h _=>h,fun _ _ _ h _=>h,fun _ _ _ h _=>h,fun _ _ _ h _=>h,fun _ _ _ h _=>h,fun v w1 w2 h hr=>let ⟨l,n,T1,h1,h2,h3,h4⟩:=h;⟨l,n,T1,h1,h2.keep hr,h3.trans hr (fun _ h=>h.elim),h4⟩,trivial⟩ ⟨.inr (fun _ _ _ h _=>h),.inr (fun _ _ _ h _=>h),.inr (fun _ _ _ h _=>h),.inr (fun _ _ _ h _=>h),.inr (fun _ _ _ h _=>h),.inl rfl,trivial⟩ ?_;intro F hF;simp only [aS,List.take_succ_cons,List.take_zero,aa,ab,ac] at hF;subst hF;refine ⟨⟨fun vs w1 hw hw1 hd hx=> ?_,fun vs w1 hw hw1 hd hx=> ?_,fun vs w1 hw hw1 hd hx=> ?_,fun vs w1 hw hw1 hd hx=> ?_,fun vs w1 hw hw1 hd hx=> ?_,fun vs w1 hw hw1 hd hx=> ?_,trivial⟩,?_⟩
 ·refine ai (.pointer (some ⟨b,0,none⟩)) ?_ ⟨rfl,Fr.refl _ _,fun h=>nomatch h⟩;go_simp
 ·refine ai (.pointer (some ⟨w2.heap.size,2,none⟩)) ?_ ⟨rfl,Fr.refl _ _,fun h=>nomatch h⟩;go_simp
 ·have h1:vs 1= .pointer (some ⟨w2.heap.size,2,none⟩):=hd 1 (by kernel_rfl);refine ai (.int .i64 To) ?_ ⟨rfl,Fr.refl _ _,fun h=>nomatch h⟩;have k2:=HK2.out w1 (hw1 (by kernel_rfl));go_simp
 ·refine ai (.pointer (some ⟨y,0,none⟩)) ?_ ⟨rfl,Fr.refl _ _,fun h=>nomatch h⟩;go_simp
 ·have h3:vs 3= .pointer (some ⟨y,0,none⟩):=hd 3 (by kernel_rfl);refine ay 130 #[y] (by go_simp) ((HTP.out w1 (hw1 (by kernel_rfl))).mono ?_);rintro e w5 ⟨rfl,hf⟩;exact ⟨_,rfl,rfl,hf,fun h=>nomatch h⟩
 ·have h0:vs 0= .pointer (some ⟨b,0,none⟩):=hd 0 (by kernel_rfl);have h2:vs 2= .int .i64 To:=hd 2 (by kernel_rfl);have h4:vs 4= .int .i64 tp:=hd 4 (by kernel_rfl);have hw2:=hw1 (by kernel_rfl);refine ay 73 #[b,.int .i64 To,.int .i64 tp] (by go_simp) ((HLI.out w1 hw2).mono ?_);rintro e w5 ⟨rfl,hp⟩;exact ⟨_,rfl,HLJ.out w1 w5 hw2 hp,⟨.inr trivial,hp.size⟩,fun h=>nomatch h⟩
 intro vs w1 hw hp hx;obtain ⟨g0,g1,g2,g3,g4,g5,_⟩:=hp;obtain ⟨l,n1,T1,b1,b2,b3,b4⟩:=g5;clear g0 g1 g2 g3 g4 hx hw;simp only [List.drop_succ_cons,List.drop_zero];have HEN2:=ae (HEN.out _ _ _ _ b2);have HQ2:=ae (fun e w2 he=>HQ.out w1 e w2 l n1 T1 b1 b3 b4 he);clear HEN HQ b1 b2 b3 b4 HTP HLI HLJ HK2;go_wp2_with fail
 refine (HEN2.out).mono ?_;intro e w7 he;obtain ⟨rfl,hq⟩:=HQ2.out _ _ he;have H:=ae hq;clear he hq HEN2 HQ2;go_wp2;go_end0;exact H.out
end
section
variable {m b g Pg W Fs Us Hg:Nat} {S:Nat→Prop} {mp:Nat→Bool} {L:Nat→Nat} {w:World}
def pQ (m b g Pg W Fs:Nat) (A:AG) (rs:List Nat) (T Li:Nat) (S:Nat→Prop) (w:World) (e:Ending) (w':World):Prop:=
 ∃(φ' L':Nat→Nat) (S':Nat→Prop) (used' Hg':Nat) (mp':Nat→Bool) (l:List Nat),e= .returned (.tuple #[.int .i64 ((T+A.Wd l:Nat):Int),.int .i64 0])∧bi m Pg W Fs used' Hg' mp' L' S' w'∧(∀q,mp' q=(decide (T≤q*Pg)&&decide (q*Pg<T+A.Wd l)))∧aL A rs l∧aP A rs φ' L' T (T+A.Wd l)∧T+A.Wd l≤Li∧aW w' b g (rs.map φ')∧bu w'∧(∀k,S' k→S k∨w.heap.size≤k)∧Fr (fun k=>S k∨k=g) w w'
theorem wL.fr {kb wb:Nat} {S0:Nat→Prop} {w0:World} {sz np:Nat→Nat} {To:Nat} {R:Nat→Prop} {ls rs:List Nat} {cur:Nat} (h:wL m Pg W Fs Us Hg mp kb wb S0 w0 L sz np To R ls rs cur w):Fr (fun k=>S0 k∨k=kb∨k=wb) w0 w:=by
 obtain ⟨ord,s,c,⟨⟨S1,q1,q2,q3⟩,_⟩,_⟩:=h;exact q2
theorem vM {A:AG} {rs:List Nat} {φ:Nat→Nat} (hi:bi m Pg W Fs Us Hg mp L S w) (hr:aW w b g (rs.map φ)) (hT:bu w) (hSt:¬S aN) (hSr:¬S b∧¬S g) (hgt:g≠aN) (F Tp T Li B Rm ah:Nat) (hc:fS Pg W F Tp T Li B Rm ah) (hl:aP A rs φ L F Tp) (hl1:1≤rs.length) (hfit:Tp-F≤Li-T) (hmp:∀q,mp q=(decide (F≤q*Pg)&&decide (q*Pg<Tp))) (hfr:Us+(Li-T)/Pg≤Fs):
  Calls Tryz.prog 72 #[m,.pointer (some ⟨b,0,none⟩),cG F Tp T Li B Rm ah] w (pQ m b g Pg W Fs A rs T Li S w):=by
 have hlaw:=aF m Pg W Fs Us Hg mp;have hmat:=hi.choose_spec.1.at;obtain ⟨hp1,hp2,hW5,hWp,hur,hr4,hhr,hus,hW1⟩:=hmat;have hsl:=hlaw.lt _ _ _ hi;have htl:aN<w.heap.size:=aE (hT 0 0 rfl);have hrb:=hr.blk.lt;have hrg:=hr.row.lt;obtain ⟨G,hcG⟩:=hl.conc;have hG:=cv.sound hl hcG;have hF1:=hc.F1;have hF2:=hc.F2;have hF3:=hc.F3;have hT1:=hc.T1;have hT2:=hc.T2;have hT3:=hc.T3;have hF4:=hc.F4;have hT4:=hc.T4;have hL4:=hc.L4;have hap:=hc.ap;have hFq:F=F/Pg*Pg:=by have:=Nat.div_add_mod F Pg;rw [Nat.mul_comm];omega
 have hTq:T=T/Pg*Pg:=by have:=Nat.div_add_mod T Pg;rw [Nat.mul_comm];omega
 have hdom:∀k,F≤k→k<Tp→aX W Pg mp k:=fun k h1 h2=>by
  refine ⟨by omega,?_⟩;have h3:=Nat.mul_le_mul_right Pg (Nat.div_le_div_right (c:=Pg) h1);have h4:=Nat.div_mul_le_self k Pg;rw [hmp,decide_eq_true (show F≤k/Pg*Pg by omega),decide_eq_true (show k/Pg*Pg<Tp by omega)];rfl
 have hO:=cv.obj hl hcG hdom (by omega);have hlo:=cv.low hl hcG;obtain ⟨W1,hW1d⟩:∃W1,w.alloc (.cells #[.int .i64 F,.int .i64 Tp,.int .i64 T,.int .i64 Li,.int .i64 B,.int .i64 Rm,.int .i64 ah] 143)=W1:=⟨_,rfl⟩;have hf1:Fr (fun _=>False) w W1:=by rw [←hW1d];exact (Fr.refl _ w).alloc _
 have hb1:ak W1 w.heap.size [.int .i64 F,.int .i64 Tp,.int .i64 T,.int .i64 Li,.int .i64 B,.int .i64 Rm,.int .i64 ah] 143:=by rw [←hW1d];exact ak.new w _ _
 have hz1:W1.heap.size=w.heap.size+1:=by rw [←hW1d,World.size_alloc]
 have HSD:=ae (callsIn_wide.1 (ri 0 (hlaw.keep hi hf1) (hr.frame hf1 (fun h=>h) (fun h=>h)) (an hT hf1 (fun h=>h)) hSt F Tp T Li B Rm ah hc hG hO hlo (by rw [List.length_map];exact hl1) hfit));unfold cG at HSD;unfold cG;have k0:=hb1.cell 0 rfl;have k1:=hb1.cell 1 rfl;have k2:=hb1.cell 2 rfl;have k3:=hb1.cell 3 rfl;have k4:=hb1.cell 4 rfl;have k5:=hb1.cell 5 rfl;have k6:=hb1.cell 6 rfl;have hN5:F≤524288∧Tp≤524288∧T≤524288∧Li≤524288:=by omega
 have hlenr:(rs.map φ).length=rs.length:=List.length_map _;have hmf:∀(fn:Fn) (first cap:Array Value) (w:World),(Instr.makeFunc fn first cap).run Tryz.prog w= .ok (.func fn first cap) w:=fun _ _ _ _=>rfl
 have hmm:∀(t:TypeId) (w:World),(Instr.makeMap t none).run Tryz.prog w= .ok (.map (some w.heap.size)) (w.alloc (.map #[] 0)):=fun _ _=>rfl
 have HA:=ae (af hi (af hr (af hT (af hSt (af hSr (af hgt (af hc (af hl (af hfit (af hmp (af hfr (af hlaw (af hsl (af hcG (af hG (af hdom (af hf1 (af hO hlo))))))))))))))))));have HB:=ae (af hp1 (af hp2 (af hW5 (af hWp (af hW1 (af htl (af hrb (af hrg (af hz1 (af hF1 (af hF2 (af hF3 (af hT1 (af hT2 (af hT3 (af hF4 (af hT4 (af hL4 (af hap (af hFq hTq))))))))))))))))))));have HB1:=ae hb1;have HND:Hid (∀E S1 w2,bi m Pg W Fs Us Hg mp L S1 w2→(∀k,S1 k→S k∨W1.heap.size≤k)→(∀a,E a≠0↔Reach G (rs.map φ) a)→bU G (rs.map φ) E→Fr S W1 w2→cnt (aj E) 0 W≤Li-T∧eM A rs φ E∧cnt (aj E) 0 W=cnt (aj E) 0 Tp∧
   Calls Tryz.prog 144 #[m,.int .i64 T,.int .i64 ((T:Int)+((cnt (aj E) 0 W:Nat):Int))] w2 fun e w'=>e= .returned (.int .i64 0)∧∃S' used' Hg' mp' L',bi m Pg W Fs used' Hg' mp' L' S' w'∧(∀q,mp' q=(mp q||(decide (T<T+cnt (aj E) 0 W)&&decide (T/Pg≤q)&&decide (q≤(T+cnt (aj E) 0 W-1)/Pg))))∧(∀b,aX W Pg mp b→L' b=L b)∧Fr S1 w2 w'∧∀k,S' k→S1 k∨w2.heap.size≤k):=by
  show∀E S1 w2,_
  intro E S1 w2 q1 q2 q3 q4 q5;have hex:=cv.ext hl hcG q3 q4;have h0:cnt (aj E) 0 W=cnt (aj E) 0 Tp:=by
   rw [aw (aj E) (Nat.zero_le Tp) hF3,aD (a:=Tp) (b:=W) (fun i hi _=>by
    rw [Bool.eq_false_iff];intro hl2;obtain ⟨s,s1,s2⟩:=aQ.1 hl2;have h6:=q4 s (by omega);have:=hG.top s (by omega);omega),Nat.add_zero]
  have h1:cnt (aj E) 0 Tp≤Tp-F:=by
   rw [aw (aj E) (Nat.zero_le F) hF2,aD (a:=0) (b:=F) (fun i _ hi=>by
    rw [Bool.eq_false_iff];intro hl2;obtain ⟨s,s1,s2⟩:=aQ.1 hl2;have h6:=q4 s (by omega);have:=hlo s (by omega);omega),Nat.zero_add]
   exact be _ _ _
  have h2:cnt (aj E) 0 W≤Li-T:=by omega
  have h3:=rN q1 T (T+cnt (aj E) 0 W) (by omega) (Nat.le_trans (Nat.add_le_add_left (re hp1 hT4 hT1 hL4 (by omega)) Us) hfr);rw [Int.natCast_add] at h3;exact ⟨h2,hex,h0,h3⟩
 clear hi hr hT hSt hSr hgt hc hl hfit hmp hfr hlaw hsl hcG hG hdom hf1 hp1 hp2 hW5 hWp hur hr4 hhr hus hW1 htl hrb hrg hF1 hF2 hF3 hT1 hT2 hT3 hF4 hT4 hL4 hap hFq hTq hO hlo hl1 hb1
 go_enter Tryz.func72,Tryz.ntmps72
 go_wp2_with fail
 clear hW1d;refine (HSD.out).mono ?_;rintro e w2 ⟨E,S1,rfl,q1,q2,q3,q4,q5⟩;obtain ⟨r1,r2,r3,r4⟩:=HND.out E S1 w2 q1 q2 q3 q4 q5;obtain ⟨n,hn⟩:∃n,n=cnt (aj E) 0 W:=⟨_,rfl⟩;rw [←hn] at r1 r3 r4;rw [←hn];have HN2:=ae r4;have HX2:=ae (af q1 (af q2 (af q3 (af q4 (af q5 (af r1 (af r2 (af r3 hn))))))));have hn5:n≤524288:=by omega
 have hcs:¬S w.heap.size:=fun h=>by have h2:=HA.out.2.2.2.2.2.2.2.2.2.2.2.2.1 _ h;omega
 have hb2:=HB1.out.frame q5 hcs;have HB2:=ae hb2;have k2:=hb2.cell 2 rfl;have hwr:IntKind.i64.wrap ((T:Int)+(n:Int))=(T:Int)+(n:Int):=by rw [IntKind.wrap_i64];omega
 clear q1 q2 q3 q4 q5 r1 r2 r3 r4 hn HND HSD k0 k1 k3 k4 k5 k6 hb2;go_wp2_with fail
 refine (HN2.out).mono ?_;rintro e w3 ⟨rfl,S3,used3,high3,mp3,L3,t1,t2,t3,t4,t5⟩;clear HN2 k2;obtain ⟨q1,q2,q3,q4,q5,r1,r2,r3,hn⟩:=HX2.out;obtain ⟨hi,hr,hT,hSt,hSr,hgt,hc,hl,hfit,hmp,hfr,hlaw,hsl,hcG,hG,hdom,hf1,hO,hlo⟩:=HA.out;obtain ⟨hp1,hp2,hW5,hWp,hW1,htl,hrb,hrg,hz1,hF1,hF2,hF3,hT1,hT2,hT3,hF4,hT4,hL4,hap,hFq,hTq⟩:=HB.out;have hz2:=q5.size;have hz3:=t4.size;have hnot:∀k,k<w.heap.size+1→¬S k→¬S1 k∧¬S3 k:=fun k hk hs=>by
  have h1:¬S1 k:=fun h=>(q2 k h).elim hs (fun h=>by omega)
  exact ⟨h1,fun h=>(t5 k h).elim h1 (fun h=>by omega)⟩
 have hb3:=HB2.out.frame t4 (hnot _ (Nat.lt_succ_self _) hcs).1;have k2:=hb3.cell 2 rfl;have k2m:=(hb3.frame ((Fr.refl (fun _=>False) w3).alloc (.map #[] 0)) (fun h=>h)).cell 2 rfl;have hr3:=((hr.frame hf1 (fun h=>h) (fun h=>h)).frame q5 hSr.1 hSr.2).frame t4 (hnot b (by omega) hSr.1).1 (hnot g (by omega) hSr.2).1;have hT3':=an (an (an hT hf1 (fun h=>h)) q5 hSt) t4 (hnot _ (by omega) hSt).1;have hl3:aP A rs φ L3 F Tp:=hl.congr (fun k h1 h2=>t3 k (hdom k h1 h2));obtain ⟨hp,hf,hg,hhd⟩:=hl.heads;have hsz:∀x,Reach A.gr rs x→E (φ x)=A.sz x∧hp (φ x)=A.np x:=fun x hx=>⟨r2.size x hx,(hhd x hx).1⟩
 have hmp3:∀k,k<W→mp (k/Pg)=true→aX W Pg mp3 k:=fun k h1 h2=>⟨h1,by rw [t2,h2];rfl⟩
 have hCR:sP L3 E hp T (T+n) (fun a=>∃x,Reach A.gr rs x∧φ x=a):=by
  refine hl3.cpr hsz (by
   rcases hap with h|h
   ·right;omega
   ·left;have h1:Tp≤(Tp+Pg-1)/Pg*Pg:=by
     have h2:=Nat.div_add_mod (Tp+Pg-1) Pg;have h3:=Nat.mod_lt (Tp+Pg-1) (show 0<Pg by omega);rw [Nat.mul_comm] at h2;omega
    omega) (fun l h1 h2=> ?_)
  refine Nat.add_le_add_left ?_ T;rw [hn];refine qH E W l (aj E) h1 (fun a ha=> ?_) (fun a ha c hc2 hne=> ?_)
  ·obtain ⟨x,hx,rfl⟩:=h2 a ha;have h4:=hl.lies x hx;rw [(hsz x hx).1];exact ⟨by omega,fun k k1 k2=>aQ.2 ⟨φ x,k1,by rw [(hsz x hx).1];omega⟩⟩
  ·obtain ⟨x,hx,rfl⟩:=h2 a ha;obtain ⟨y,hy,rfl⟩:=h2 c hc2;rw [(hsz x hx).1,(hsz y hy).1];exact hl.apart x y hx hy (fun e=>hne (by rw [e]))
 have hCD:wK L3 E hp T (T+n) (fun a=>∃x,Reach A.gr rs x∧φ x=a) (aX W Pg mp3):=by
  refine hl3.cpd2 hsz (fun k h1 h2=> ?_) (fun k h1 h2=>⟨by omega,?_⟩) (by omega) (by omega) (by omega)
  ·have h3:=hdom k h1 h2;exact hmp3 k h3.1 h3.2
  ·rw [t2];have h4:T/Pg≤k/Pg:=Nat.div_le_div_right h1;have h5:k/Pg≤(T+n-1)/Pg:=Nat.div_le_div_right (by omega);rw [decide_eq_true (show T<T+n by omega),decide_eq_true h4,decide_eq_true h5];simp
 obtain ⟨W5,hW5d⟩:∃W5,(w3.alloc (.map #[] 0)).alloc (.cells #[.pointer (some ⟨m,0,none⟩),.map (some w3.heap.size),.int .i64 T] 230)=W5:=⟨_,rfl⟩;have hf35:Fr (fun _=>False) w3 W5:=by rw [←hW5d];exact ((Fr.refl _ w3).alloc _).alloc _
 have hz5:W5.heap.size=w3.heap.size+2:=by rw [←hW5d,World.size_alloc,World.size_alloc]
 have hlt3:=hlaw;have hS3l:=(aF m Pg W Fs used3 high3 mp3).lt _ _ _ t1;have hcp:sJ m Pg W Fs used3 high3 mp3 (w3.heap.size+1) w3.heap.size L3 (fun _=>none) 0 T S3 W5:=by
  refine ⟨?_,(aF m Pg W Fs used3 high3 mp3).keep t1 hf35,?_,fun h=>by have:=hS3l _ h;omega,fun h=>by have:=hS3l _ h;omega,by omega⟩
  ·rw [←hW5d];have:=ak.new (w3.alloc (.map #[] 0)) [.pointer (some ⟨m,0,none⟩),.map (some w3.heap.size),.int .i64 T] 230;rwa [World.size_alloc] at this
  ·rw [←hW5d];exact (im w3).frame ((Fr.refl (fun _=>False) _).alloc _) (fun h=>h)
 have hr5:=hr3.frame hf35 (fun h=>h) (fun h=>h);have hbL:b<w3.heap.size∧g<w3.heap.size:=by omega
 have hU0:vg m Pg W Fs used3 high3 mp3 (w3.heap.size+1) w3.heap.size g S3 W5 L3 E hp T (fun a=>∃x,Reach A.gr rs x∧φ x=a) (rs.map φ) [] W5:=
  ⟨[],⟨L3,fun _=>none,0,T⟩,⟨S3,hcp,Fr.refl _ _,fun _ h=> .inl h⟩,er.none _ _ _ _,fun x hx=>absurd hx List.not_mem_nil,Nat.zero_le _,fun i a hi=>absurd hi (Nat.not_lt_zero i)⟩
 have HRT:=ae (rh hCR hCD hU0 hr5 (fun a ha=>by
  obtain ⟨x,hx,rfl⟩:=List.mem_map.1 ha;by_cases h0:x=0
  ·left;rw [h0];exact hl.zero
  ·exact .inr ⟨x,.root hx h0,rfl⟩) (by omega) (by omega) (hnot g (by omega) hSr.2).2 (hnot b (by omega) hSr.1).2 (by omega))
 have HU:=ae (fun rs' w6 (hu:vg m Pg W Fs used3 high3 mp3 (w3.heap.size+1) w3.heap.size g S3 W5 L3 E hp T (fun a=>∃x,Reach A.gr rs x∧φ x=a) (rs.map φ) rs' w6) (hle:rs'.length=(rs.map φ).length)=>vg.loop hu hle);have HC:=ae (af hCR hCD);have HY:=ae (af hnot (af hb3 (af hT3' (af hl3 (af hsz (af hf35 (af hz5 (af hS3l (af t1 (af t2 (af t4 (af t5 (af hz2 hz3)))))))))))));clear q1 q2 q3 q4 q5 r1 r2 r3 hn hi hr hT hSt hSr hgt hc hl hfit hmp hfr hlaw hsl hcG hG hdom hf1 hO hlo hp1 hp2 hW5 hWp hW1 htl hrb hrg hz1 hF1 hF2 hF3 hT1 hT2 hT3 hF4 hT4 hL4 hap hFq hTq hz2 hz3 hnot hb3 hr3 hT3' hl3 hhd hsz hmp3 hCR hCD hf35 hz5 hlt3 hS3l hcp hr5 hbL hU0 t1 t2 t3 t4 t5
 go_upto_region 8 with fail
 clear hW5d k2 k2m;go_wp2_with fail
 refine (HRT.out).mono ?_;rintro e w6 ⟨rfl,rs',u1,u2,u3⟩;obtain ⟨S6,v1,v2,v3⟩:=HU.out rs' w6 u3 u1;obtain ⟨hnot,hb3,hT3',hl3,hsz,hf35,hz5,hS3l,t1,t2,t4,t5,hz2,hz3⟩:=HY.out;obtain ⟨hi,hr,hT,hSt,hSr,hgt,hc,hl,hfit,hmp,hfr,hlaw,hsl,hcG,hG,hdom,hf1,hO,hlo⟩:=HA.out;obtain ⟨hp1,hp2,hW5,hWp,hW1,htl,hrb,hrg,hz1,hF1,hF2,hF3,hT1,hT2,hT3,hF4,hT4,hL4,hap,hFq,hTq⟩:=HB.out;have hz6:=v3.size;have hlow:∀k,k<w.heap.size+1→¬S k→¬S6 k:=fun k hk hs h=>(v2 k h).elim (hnot k hk hs).2 (fun h=>by omega)
 have hb6:ak w6 w.heap.size [.int .i64 F,.int .i64 Tp,.int .i64 T,.int .i64 Li,.int .i64 B,.int .i64 Rm,.int .i64 ah] 143:=
  (hb3.frame hf35 (fun h=>h)).frame v3 (fun h=>by
   rcases h with h|h|h|h
   ·exact (hnot _ (Nat.lt_succ_self _) hcs).2 h
   ·omega
   ·omega
   ·omega)
 have hT6:bu w6:=an (an hT3' hf35 (fun h=>h)) v3 (fun h=>by
   rcases h with h|h|h|h
   ·exact (hnot _ (by omega) hSt).2 h
   ·omega
   ·omega
   ·exact hgt h.symm)
 have hconf:∀wr,Fr (fun k=>S6 k∨k=w3.heap.size+1∨k=w3.heap.size) w6 wr→ak wr w.heap.size [.int .i64 F,.int .i64 Tp,.int .i64 T,.int .i64 Li,.int .i64 B,.int .i64 Rm,.int .i64 ah] 143:=
  fun wr hf=>hb6.frame hf (fun h=>by
   rcases h with h|h|h
   ·exact hlow _ (Nat.lt_succ_self _) hcs h
   ·omega
   ·omega)
 have HCF:=ae hconf;have k2:=hb6.cell 2 rfl;have H6:=ae (af u1 (af u2 (af v2 (af v3 (af hz6 (af hlow hT6))))));have HV:=ae v1;have HNX:=ae (fun cur wr hv=>wL.next (m:=m) (Pg:=Pg) (W:=W) (Fs:=Fs) (Us:=used3) (Hg:=high3) (mp:=mp3) (kb:=w3.heap.size+1) (wb:=w3.heap.size) (S0:=S6) (w0:=w6) (ls:=rs.map φ) (rs:=rs') (cur:=cur) (w:=wr) HC.out.1 HC.out.2 hv);clear u1 u2 u3 v1 v2 v3 hnot hb3 hT3' hl3 hsz hf35 hz5 hS3l t1 t2 t4 t5 hz2 hz3 hi hr hT hSt hSr hgt hc hl hfit hmp hfr hlaw hsl hcG hG hdom hf1 hO hlo hp1 hp2 hW5 hWp hW1 htl hrb hrg hF1 hF2 hF3 hT1 hT2 hT3 hF4 hT4 hL4 hap hFq hTq hz1 hz6 hlow hb6 hT6 hconf HU HRT;go_wp2;clear k2
 go_loopw [12] (fun x wr=>∃cur:Nat,x= .int .i64 cur∧Hid (wL m Pg W Fs used3 high3 mp3 (w3.heap.size+1) w3.heap.size S6 w6 L3 E hp T (fun a=>∃x,Reach A.gr rs x∧φ x=a) (rs.map φ) rs' cur wr)) (fun x _=>(T+n+1-intOf x).toNat)
 case atStart=>exact ⟨T,rfl,HV⟩
 case round=>
  clear HV;obtain ⟨cur,rfl,hr⟩:=hrel;obtain ⟨top,a1,a2,a3,a4,a5⟩:=HNX.out cur wr hr.out;have hfr:=hr.out.fr;have hcb:=HCF.out wr hfr;have e2:=a1.cell 2 rfl;have hcu:(cur:Int)≤1048576:=by omega
  by_cases hlt:cur<top
  ·have HS:=ae (a4 hlt);have c1:(cur:Int)<(top:Int):=by omega
   clear a1 a4 a5 hcb hfr hr;go_wp2_with fail
   refine (HS.out).mono ?_;rintro e w9 ⟨cur',g1,rfl,g2⟩;have G2:=ae g2;clear g2 HS e2;go_wp2;go_roundw
   case rel=>exact ⟨cur',rfl,G2⟩
   case measure=>simp [intOf];omega
  ·obtain ⟨ord,s,b1,b2,b3,b4⟩:=a5 hlt;have c1:¬(cur:Int)<(top:Int):=by omega
   obtain ⟨⟨S8,d1,d2,d3⟩,bj,bo⟩:=b2;obtain ⟨u1,u2,v2,v3,hz6,hlow,hT6⟩:=H6.out;obtain ⟨hnot,hb3,hT3',hl3,hsz,hf35,hz5,hS3l,t1,t2,t4,t5,hz2,hz3⟩:=HY.out;obtain ⟨hi,hr0,hT,hSt,hSr,hgt,hc,hl,hfit,hmp,hfr0,hlaw,hsl,hcG,hG,hdom,hf1,hO,hlo⟩:=HA.out;obtain ⟨hp1,hp2,hW5,hWp,hW1,htl,hrb,hrg,hz1,hF1,hF2,hF3,hT1,hT2,hT3,hF4,hT4,hL4,hap,hFq,hTq⟩:=HB.out;have hz8:=d2.size;have hlow8:∀k,k<w.heap.size+1→¬S k→¬S8 k:=fun k hk hs h=>(d3 k h).elim (hlow k hk hs) (fun h=>by omega)
   have h1T:1≤T:=by omega
   obtain ⟨φ',l,f1,f2,f3,f4⟩:=oo hl3 hsz h1T bj bo b3 b4;have hcl:=(aL.cnt hl HX2.out.2.2.2.2.2.2.1 f3).1;have hnLi:n≤Li-T:=HX2.out.2.2.2.2.2.1;have hnl:n=A.Wd l:=by
    obtain ⟨_,_,_,_,_,_,_,r3,hn⟩:=HX2.out;omega
   have HU0:=ae (lX.start (q0:=F/Pg) d1.mem);have HPG0:=ae (HU0.out.pg);have HDR:=ae (fun q wr2 (hu:lX m Pg W Fs mp3 s.M (F/Pg) S8 wr q wr2) (h:q*Pg<Tp) (hq:F/Pg≤q)=>lX.drop hu (by
    rw [t2,hmp,decide_eq_true (show F≤q*Pg by rw [hFq];exact Nat.mul_le_mul_right Pg hq),decide_eq_true h];rfl) (by
    have h2:W=W/Pg*Pg:=by have:=Nat.div_add_mod W Pg;rw [Nat.mul_comm];omega
    have h3:q*Pg<W/Pg*Pg:=by omega
    exact Nat.lt_of_mul_lt_mul_right h3) hq)
   have HCB:Hid (∀q wr2,lX m Pg W Fs mp3 s.M (F/Pg) S8 wr q wr2→wr2.cell? ⟨w.heap.size,1,none⟩=some (.int .i64 Tp)∧wr2.cell? ⟨w3.heap.size+1,2,none⟩=some (.int .i64 top)):=by
    show∀q wr2,_
    rintro q wr2 ⟨ud,hgh,mpq,S',c1,c2,c3,c4⟩;exact ⟨(hcb.frame c3 (hlow8 _ (Nat.lt_succ_self _) hcs)).cell 1 rfl,by have:=(d1.blk.frame c3 d1.d1).cell 2 rfl;rw [b1] at this;exact this⟩
   have HFIN:Hid (∀q wr2,lX m Pg W Fs mp3 s.M (F/Pg) S8 wr q wr2→Tp≤q*Pg→q*Pg<Tp+Pg→pQ m b g Pg W Fs A rs T Li S w (.returned (.tuple #[.int .i64 top,.int .i64 0])) wr2):=by
    show∀q wr2,_
    rintro q wr2 ⟨ud,hgh,mpq,S',c1,c2,c3,c4⟩ hq1 hq2;have e1:top=T+A.Wd l:=by omega
    have hfz:Fr (fun k=>S k∨k=g) w wr2:=by
     obtain ⟨q1,q2,q3,q4,q5,_⟩:=HX2.out;have s1:Fr (fun k=>S k∨k=g) w w2:=(hf1.mono (fun _ h=>h.elim)).trans q5 (fun k h=> .inl (.inl h));have s2:Fr (fun k=>S k∨k=g) w w3:=s1.trans t4 (fun k h=>(q2 k h).imp .inl (fun h=>by omega));have s3:∀k,S3 k→(S k∨k=g)∨w.heap.size≤k:=fun k hk=>by
      rcases t5 k hk with h|h
      ·exact (q2 k h).imp .inl (fun h=>by omega)
      ·exact .inr (by omega)
     have s4:Fr (fun k=>S k∨k=g) w w6:=(s2.trans hf35 (fun _ h=>h.elim)).trans v3 (fun k h=>by
      rcases h with h|h|h|h
      ·exact s3 k h
      ·exact .inr (by omega)
      ·exact .inr (by omega)
      ·exact .inl (.inr h))
     have s6:∀k,S6 k→(S k∨k=g)∨w.heap.size≤k:=fun k hk=>by
      rcases v2 k hk with h|h
      ·exact s3 k h
      ·exact .inr (by omega)
     have s5:Fr (fun k=>S k∨k=g) w wr:=s4.trans d2 (fun k h=>by
      rcases h with h|h|h
      ·exact s6 k h
      ·exact .inr (by omega)
      ·exact .inr (by omega))
     exact s5.trans c3 (fun k hk=>by
      rcases d3 k hk with h|h
      ·exact s6 k h
      ·exact .inr (by omega))
    have hS':∀k,S' k→S k∨w.heap.size≤k:=fun k hk=>by
     obtain ⟨q1,q2,q3,q4,q5,_⟩:=HX2.out;rcases c4 k hk with h|h
     ·rcases d3 k h with h|h
      ·rcases v2 k h with h|h
       ·rcases t5 k h with h|h
        ·exact (q2 k h).imp id (fun h=>by omega)
        ·exact .inr (by omega)
       ·exact .inr (by omega)
      ·exact .inr (by omega)
     ·exact .inr (by omega)
    have hbg:∀k,k<w.heap.size→¬S k→k≠w3.heap.size+1∧k≠w3.heap.size∧¬S6 k∧¬S8 k:=fun k hk hs=>⟨by omega,by omega,hlow k (by omega) hs,hlow8 k (by omega) hs⟩
    have hB:=hbg b hrb hSr.1;have hGg:=hbg g hrg hSr.2;have hTt:=hbg aN htl hSt;refine ⟨φ',s.M,S',ud,hgh,mpq,l,by rw [e1],c1,fun r=> ?_,f3,by rw [←f4];exact f1,by omega,?_,?_,hS',hfz⟩
    ·rw [c2,t2,hmp,←hnl];exact oq hp1 hF4 hT4 hT1 (by omega) hap hq1 hq2 r
    ·rw [←f2];exact (u2.frame d2 (fun h=>by rcases h with h|h|h;exact hB.2.2.1 h;exact hB.1 h;exact hB.2.1 h) (fun h=>by rcases h with h|h|h;exact hGg.2.2.1 h;exact hGg.1 h;exact hGg.2.1 h)).frame c3 hB.2.2.2 hGg.2.2.2
    ·exact an (an hT6 d2 (fun h=>by rcases h with h|h|h;exact hTt.2.2.1 h;exact hTt.1 h;exact hTt.2.1 h)) c3 hTt.2.2.2
   have k0:=hcb.cell 0 rfl;have hdv:(F:Int).tdiv (Pg:Int)=((F/Pg:Nat):Int):=bV _ _;have hkz:¬Pg=0:=by omega
   have hpb:Pg≤256:=hp2;have hTpW:Tp≤524288:=by omega
   have hFW:F≤524288:=by omega
   have hQW:F/Pg≤524288:=Nat.le_trans (Nat.div_le_self _ _) hFW;have hQ0:F/Pg*Pg<Tp+Pg:=by omega
   generalize hQF:F/Pg=QF at HU0 HPG0 HDR HCB HFIN hdv hQW hQ0;clear hQF hnLi;have hwq:IntKind.i64.wrap (QF:Int)=(QF:Int):=by rw [IntKind.wrap_i64];omega
   clear u1 u2 v2 v3 hz6 hlow hT6 hnot hb3 hT3' hl3 hsz hf35 hz5 hS3l t1 t2 t4 t5 hz2 hz3 hi hr0 hT hSt hSr hgt hc hl hfit hmp hfr0 hlaw hsl hcG hG hdom hf1 hO hlo hp1 hp2 hW5 hWp hW1 htl hrb hrg hF1 hF2 hF3 hT1 hT2 hT3 hF4 hT4 hL4 hap hFq hTq hz1 hz8 hlow8 h1T f1 f2 f3 f4 hcl hnl d1 d2 d3 bj bo b1 b3 b4 a1 a4 a5 hcb hfr hr HNX HC HCF H6 HY HA HB HX2 HB2 HB1 hcs;have HPG:=ae (show Calls Tryz.prog 148 #[m] wr.drew fun e w'=>e= .returned (.int .i64 Pg)∧wr.drew=w' from lX.pg (HU0.out.Fh ((Fr.refl _ wr).drew)));clear HPG0;go_wp2;refine bv 6 (fun a b=>b=a) [fun v _=>v= .pointer (some ⟨w.heap.size,0,none⟩),fun v _=>v= .int .i64 F,fun v _=>v= .pointer (some ⟨m,0,none⟩),fun v _=>v= .int .i64 Pg,fun v _=>v= .int .i64 ((QF:Nat):Int),fun v _=>v= .int .i64 ((QF:Nat):Int)] (fun j=>false) (by kernel_rfl) (by kernel_rfl) (by kernel_rfl) (by kernel_rfl) rfl (fun _=>rfl) (fun _ _ _ h1 h2=>h2.trans h1) (fun _ _ h=>by rw [h];exact Nat.le_refl _) ⟨fun _ _ _ h _=>h,fun _ _ _ h _=>h,fun _ _ _ h _=>h,fun _ _ _ h _=>h,fun _ _ _ h _=>h,fun _ _ _ h _=>h,trivial⟩ ?_;intro F hF;simp only [aS,List.take_succ_cons,List.take_zero,aa,ab,ac] at hF;subst hF;refine ⟨⟨fun vs w1 hw hd hx=> ?_,fun vs w1 hw hd hx=> ?_,fun vs w1 hw hd hx=> ?_,fun vs w1 hw hd hx=> ?_,fun vs w1 hw hd hx=> ?_,fun vs w1 hw hd hx=> ?_,trivial⟩,?_⟩
   ·refine ai (.pointer (some ⟨w.heap.size,0,none⟩)) ?_ ⟨rfl,rfl,fun h=>nomatch h⟩;go_simp
   ·have h0:vs 0= .pointer (some ⟨w.heap.size,0,none⟩):=hd 0 (by kernel_rfl);refine ai (.int .i64 F) ?_ ⟨rfl,rfl,fun h=>nomatch h⟩;subst hw;go_simp
   ·refine ai (.pointer (some ⟨m,0,none⟩)) ?_ ⟨rfl,rfl,fun h=>nomatch h⟩;go_simp
   ·have h2:vs 2= .pointer (some ⟨m,0,none⟩):=hd 2 (by kernel_rfl);subst hw;refine ay 148 #[m] (by go_simp) ((HPG.out).mono ?_);rintro e w2 ⟨rfl,rfl⟩;exact ⟨_,rfl,rfl,rfl,fun h=>nomatch h⟩
   ·have h1:vs 1= .int .i64 F:=hd 1 (by kernel_rfl);have h3:vs 3= .int .i64 Pg:=hd 3 (by kernel_rfl);refine ai (.int .i64 ((QF:Nat):Int)) ?_ ⟨rfl,rfl,fun h=>nomatch h⟩;go_simp
   ·have h4:vs 4= .int .i64 ((QF:Nat):Int):=hd 4 (by kernel_rfl);refine ai (.int .i64 ((QF:Nat):Int)) ?_ ⟨rfl,rfl,fun h=>nomatch h⟩;go_simp
   intro vs w1 hw hp hx;obtain ⟨g0,g1,g2,g3,g4,g5,_⟩:=hp;simp only [g0,g1,g2,g3,g4,g5];subst hw;clear g0 g1 g2 g3 g4 g5 hx HPG;simp only [List.drop_succ_cons,List.drop_zero];go_wp2;clear k0 e2 hcu hlt c1
   go_loopw [13] (fun x wr2=>∃q:Nat,x= .int .i64 q∧QF≤q∧q*Pg<Tp+Pg∧q≤524288+1∧Hid (lX m Pg W Fs mp3 s.M QF S8 wr q wr2)) (fun x _=>(524288+2-intOf x).toNat)
   case atStart=>exact ⟨QF,rfl,Nat.le_refl _,hQ0,by omega,ae (HU0.out.Fh ((Fr.refl _ wr).drew))⟩
   case round=>
    clear HU0 hQ0;obtain ⟨q,rfl,hq1,hq2,hq3,hr⟩:=hrel;obtain ⟨k1,k2⟩:=HCB.out q _ hr.out;have HPG:=ae (hr.out.Fh ((Fr.refl _ _).drew)).pg;have HDQ:=ae (fun w1 (hf:Fr (fun _=>False) _ w1) (h:q*Pg<Tp)=>HDR.out q w1 (hr.out.Fh hf) h hq1);have HCQ:=ae (fun w1 (hf:Fr (fun _=>False) _ w1)=>HCB.out q w1 (hr.out.Fh hf));have HFQ:=ae (fun w1 (hf:Fr (fun _=>False) _ w1) (h:Tp≤q*Pg)=>HFIN.out q w1 (hr.out.Fh hf) h hq2);obtain ⟨X,hX⟩:∃X,X=q*Pg:=⟨_,rfl⟩;have hXX:(q:Int)*(Pg:Int)=(X:Int):=by rw [hX];push_cast;rfl
    have hX5:X≤1048576:=by omega
    have hw:IntKind.i64.wrap ((q:Int)*(Pg:Int))=(X:Int):=by rw [hXX,IntKind.wrap_i64];omega
    have hqX:q≤X:=by rw [hX];exact Nat.le_mul_of_pos_right q (by omega)
    rw [←hX] at hq2 HDQ HFQ;have HN:Hid (X<Tp→(q+1)*Pg<Tp+Pg):=by
     show X<Tp→_
     intro h;rw [Nat.succ_mul,←hX];omega
    clear HCB HDR HFIN hr hX hXX;go_wp2;refine bv 7 (fun a b=>b=a) [fun v _=>v= .int .i64 q,fun v _=>v= .pointer (some ⟨m,0,none⟩),fun v _=>v= .int .i64 Pg,fun v _=>v= .int .i64 X,fun v _=>v= .pointer (some ⟨w.heap.size,1,none⟩),fun v _=>v= .int .i64 Tp,fun v _=>v= .bool (decide ((X:Int)<(Tp:Int)))] (fun j=>false) (by kernel_rfl) (by kernel_rfl) (by kernel_rfl) (by kernel_rfl) rfl (fun _=>rfl) (fun _ _ _ h1 h2=>h2.trans h1) (fun _ _ h=>by rw [h];exact Nat.le_refl _) ⟨fun _ _ _ h _=>h,fun _ _ _ h _=>h,fun _ _ _ h _=>h,fun _ _ _ h _=>h,fun _ _ _ h _=>h,fun _ _ _ h _=>h,fun _ _ _ h _=>h,trivial⟩ ?_;intro F hF;simp only [aS,List.take_succ_cons,List.take_zero,aa,ab,ac] at hF;subst hF;refine ⟨⟨fun vs w1 hw hd hx=> ?_,fun vs w1 hw hd hx=> ?_,fun vs w1 hw hd hx=> ?_,fun vs w1 hw hd hx=> ?_,fun vs w1 hw hd hx=> ?_,fun vs w1 hw hd hx=> ?_,fun vs w1 hw hd hx=> ?_,trivial⟩,?_⟩
    ·refine ai (.int .i64 q) ?_ ⟨rfl,rfl,fun h=>nomatch h⟩;go_simp
    ·refine ai (.pointer (some ⟨m,0,none⟩)) ?_ ⟨rfl,rfl,fun h=>nomatch h⟩;go_simp
    ·have h1:vs 1= .pointer (some ⟨m,0,none⟩):=hd 1 (by kernel_rfl);subst hw;refine ay 148 #[m] (by go_simp) ((HPG.out).mono ?_);rintro e w2 ⟨rfl,rfl⟩;exact ⟨_,rfl,rfl,rfl,fun h=>nomatch h⟩
    ·have h0:vs 0= .int .i64 q:=hd 0 (by kernel_rfl);have h2:vs 2= .int .i64 Pg:=hd 2 (by kernel_rfl);refine ai (.int .i64 X) ?_ ⟨rfl,rfl,fun h=>nomatch h⟩;go_simp
    ·refine ai (.pointer (some ⟨w.heap.size,1,none⟩)) ?_ ⟨rfl,rfl,fun h=>nomatch h⟩;go_simp
    ·have h4:vs 4= .pointer (some ⟨w.heap.size,1,none⟩):=hd 4 (by kernel_rfl);refine ai (.int .i64 Tp) ?_ ⟨rfl,rfl,fun h=>nomatch h⟩;subst hw;go_simp
    ·have h3:vs 3= .int .i64 X:=hd 3 (by kernel_rfl);have h5:vs 5= .int .i64 Tp:=hd 5 (by kernel_rfl);refine ai (.bool (decide ((X:Int)<(Tp:Int)))) ?_ ⟨rfl,rfl,fun h=>nomatch h⟩;go_simp
    intro vs w1 hw hp hx;obtain ⟨g0,g1,g2,g3,g4,g5,g6,_⟩:=hp;simp only [g0,g1,g2,g3,g4,g5,g6];subst hw;clear g0 g1 g2 g3 g4 g5 g6 hx HPG;simp only [List.drop_succ_cons,List.drop_zero];by_cases hlt2:X<Tp
    ·have c1:(X:Int)<(Tp:Int):=by omega
     have HD2:=ae (HDQ.out _ ((Fr.refl _ _).drew) hlt2);have HN2:=ae (HN.out hlt2);clear HDQ HCQ HFQ HN k1 k2;go_wp2_with fail
     refine (HD2.out).mono ?_;rintro e w9 ⟨rfl,hu⟩;have HU9:=ae hu;clear hu HD2;go_wp2;go_roundw
     case rel=>exact ⟨q+1,by go_num,by omega,HN2.out,by omega,HU9⟩
     case measure=>simp [intOf];omega
    ·have c1:¬(X:Int)<(Tp:Int):=by omega
     obtain ⟨k3,k4⟩:=HCQ.out _ ((Fr.refl _ _).drew);have HF2:=ae (HFQ.out _ ((Fr.refl _ _).drew) (by omega));clear HDQ HCQ HFQ HN k1 k2;go_wp2;go_ret2;exact HF2.out
end
section
variable {A:AG} {rs l l':List Nat} {φ L:Nat→Nat} {lo hi:Nat}
theorem pO {l l':List Nat} (h:l.Perm l'):A.Wd l=A.Wd l':=by
 unfold AG.Wd
 induction h with
 |nil=>rfl
 |cons x _ ih=>rw [List.map_cons,List.map_cons,List.sum_cons,List.sum_cons,ih]
 |swap x y l=>rw [List.map_cons,List.map_cons,List.map_cons,List.map_cons,List.sum_cons,List.sum_cons,List.sum_cons,List.sum_cons];omega
 |trans _ _ h1 h2=>rw [h1,h2]
theorem aL.Wd (h:aL A rs l) (h':aL A rs l'):A.Wd l=A.Wd l':=
 pO ((List.perm_ext_iff_of_nodup h.1 h'.1).2 (fun a=>(h.2 a).trans (h'.2 a).symm))
theorem aP.some (h:aP A rs φ L lo hi):∃l,aL A rs l:=by
 obtain ⟨G,hc⟩:=h.conc;refine h.lives (E:=G.size) ⟨hc.size,hc.some⟩ (W:=hi) (fun a ha=> ?_);obtain ⟨x,hx,rfl⟩:=hc.some a ha;have:=(h.lies x hx).2;have h1:1≤A.sz x:=by unfold AG.sz;omega
 omega
theorem aP.small (h:aP A rs φ L lo hi) {G:Gr} (hc:cv A rs φ G) (hh:hi≤2147483648):∀a,G.size a≠0→∀i,i<G.size a→L (a+i)<18446744073709551616:=fun a ha i hi=>by
 obtain ⟨x,hx,rfl⟩:=hc.some a ha;rw [hc.size x hx] at hi;exact h.opn_small (E:=G.size) ⟨hc.size,hc.some⟩ hh _ (h.live ⟨hc.size,hc.some⟩ hx hi)
theorem aP.words_le (h:aP A rs φ L lo hi) (h0:lo≤hi) {l:List Nat} (hl:aL A rs l):lo+A.Wd l≤hi:=by
 obtain ⟨G,hc⟩:=h.conc;rw [←(aL.cnt h (E:=G.size) ⟨hc.size,hc.some⟩ hl).1];have:=eA (f:=aj G.size) (M:=hi) (a:=lo) (R:=hi-lo) (fun i _ hi2=>by
  obtain ⟨s,s1,s2⟩:=aQ.1 hi2;obtain ⟨x,hx,rfl⟩:=hc.some s (by omega);rw [hc.size x hx] at s2;have:=h.lies x hx;omega)
 omega
end
def lk (b:Nat) (c:Cf) (A:AG) (rs:List Nat) (T:Nat→Prop) (w:World) (e:Ending) (w':World):Prop:=e= .returned (.tuple #[])∧∃l T',aL A rs l∧b8 b c A rs (A.Wd l) 0 T' w'∧Fr T w w'∧∀k,T' k→T k∨w.heap.size≤k
section
variable {b u n Ba ub:Nat} {h:Hp} {c:Cf} {A:AG} {rs l0:List Nat} {T S:Nat→Prop} {φ L:Nat→Nat} {ns bs:Int} {w w1 w5 w6 w':World}
theorem b8.count (hi:b8 b c A rs u n T w):∃ns:Int,w.cell? ⟨b,12,none⟩=some (.int .i64 ns)∧w.frozen? ⟨b,12,none⟩=false∧∀v:Int,b8 b c A rs u n T (w.setCell ⟨b,12,none⟩ (.int .i64 v))∧Fr T w (w.setCell ⟨b,12,none⟩ (.int .i64 v)):=by
 obtain ⟨h,φ,L,Ba,ub,cy,ns,bs,S,rfl,q2,q3,q4⟩:=hi;refine ⟨ns,ak.cell q2.blk 12 rfl,ak.free q2.blk 12,fun v=> ?_⟩;have hf:Fr (fun k=>k=h.b) w (w.setCell ⟨h.b,12,none⟩ (.int .i64 v)):=(Fr.refl (fun k=>k=h.b) w).setCell ⟨h.b,12,none⟩ (.inl rfl) _;obtain ⟨e1,e2,e3,e4,e5,e6,e7,e8,e9⟩:=q2.e;exact ⟨⟨h,φ,L,Ba,ub,cy,v,bs,S,rfl,⟨q2.cok,q2.blk.set 12 _,q2.roots.frame hf (Ne.symm e1) (Ne.symm e2),ak.frame q2.reg hf (Ne.symm e3),an q2.tab hf (Ne.symm e6),q2.laid,q2.Sl,q2.fits,q2.half,q2.mem.stays hf (fun k hk=>(q2.d k hk).1) (Ne.symm e6),q2.d,q2.e⟩,q3,q4⟩,hf.mono (fun k hk=> .inl ((q3 k).2 (.inr (.inl hk))))⟩
theorem b8.plain (hi:b8 b c A rs u n T w) (hk:c.kind≠1):n=0:=by
 obtain ⟨h,φ,L,Ba,ub,cy,ns,bs,S,rfl,q2,q3,q4⟩:=hi
 cases cy with
 |none=>exact q2.mem.1
 |some y=>exact absurd q2.mem.1 hk
theorem mF (hc:cM c) (hb:Ba% c.Pg=0):(Ba+c.Wd)/c.Pg=Ba/c.Pg+c.Wd/c.Pg:=by
 have h1:=hc.page2;have h2:=hc.wp;have h3:=Nat.div_add_mod Ba c.Pg;have h4:=Nat.div_add_mod c.Wd c.Pg;have h5:Ba+c.Wd=c.Pg*(Ba/c.Pg+c.Wd/c.Pg):=by rw [Nat.mul_add];omega
 rw [h5,Nat.mul_div_cancel_left _ (by omega)]
theorem pJ {Sm:Nat→Prop} {m Us Hg:Nat} {mp:Nat→Bool} {M:Nat→Nat} (hc:cM c) (hh:c.half Ba) (hu:u≤c.Wd) (hm:bl w m Sm c.Pg c.W c.Fs Us Hg mp M) (hmp:∀q,mp q=(decide (Ba≤q*c.Pg)&&decide (q*c.Pg<Ba+u))):Us≤c.Wd/c.Pg:=by
 obtain ⟨_,_,_,_,_,_,_,h1,_⟩:=hm.at;rw [h1];have hp:=hc.page2;refine eA (a:=Ba/c.Pg) (fun i _ hi=> ?_);rw [hmp,Bool.and_eq_true,decide_eq_true_eq,decide_eq_true_eq] at hi;refine ⟨Nat.div_le_of_le_mul (by rw [Nat.mul_comm];exact hi.1),?_⟩;rw [←mF hc (hh.mod hc)];have h2:=mF hc (hh.mod hc);refine Nat.lt_of_mul_lt_mul_right (a:=c.Pg) ?_;have h3:(Ba+c.Wd)/c.Pg*c.Pg=Ba+c.Wd:=by
  have h4:=Nat.div_add_mod (Ba+c.Wd) c.Pg;rw [Nat.add_mod,hh.mod hc,hc.wp,Nat.zero_add,Nat.zero_mod] at h4;rw [Nat.mul_comm];omega
 omega
end
end Go.Proofs.YthahbijbpinneaaGreatDoor
