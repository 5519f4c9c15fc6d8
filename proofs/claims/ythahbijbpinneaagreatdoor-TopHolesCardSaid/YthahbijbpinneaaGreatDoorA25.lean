import Derived.Test.YthahbijbpinneaaGreatDoorA7
import Derived.Test.YthahbijbpinneaaGreatDoorA24
set_option maxRecDepth 100000
set_option maxHeartbeats 8000000
set_option linter.all false
namespace Go.Proofs.YthahbijbpinneaaGreatDoor
open Go.RowKit
def qO (c:Cf) (A:AG) (w:World) (e:Ending) (w':World):Prop:=∃b T,e= .returned (.tuple #[.pointer (some ⟨b,0,none⟩),.int .i64 0])∧b8 b c A (List.replicate c.Sl 0) 0 0 T w'∧(∀k,T k→w.heap.size≤k)∧Fr (fun _=>False) w w'
section
variable {c:Cf} {A:AG} {w:World}
theorem de {n z:Nat}:¬Reach A.gr (List.replicate n 0) z:=by
 intro h
 induction h with
 |root h1 h2=>exact h2 (List.eq_of_mem_replicate h1)
 |step _ _ _ ih=>exact ih
theorem kC {hb m rb rg ub:Nat} {S:Nat→Prop} {w4 w5 w6 w8:World} (hc:cM c) (hT:bu w) (hS:∀k,S k→w4.heap.size≤k) (h4:w.heap.size≤hb) (h45:hb<w4.heap.size) (hS5:∀k,S k→k<w5.heap.size) (h56:w5.heap.size≤rb) (h57:w5.heap.size≤rg) (hr6:rb<w6.heap.size) (hr7:rg<w6.heap.size) (hub:w6.heap.size≤ub) (h46:w4.heap.size≤w5.heap.size) (h67:w5.heap.size≤w6.heap.size)
  (hm:bl w8 m S c.Pg c.W c.Fs 0 0 (fun _=>false) (fun _=>0)) (hr:aW w8 rb rg (List.replicate c.Sl 0)) (hu:bM w8 ub m c.Pg c.Pg (c.Pg+c.Wd)) (hB:fT w8 hb c m rb ub none 0 0) (hf:Fr (fun _=>False) w w8):qO c A w (.returned (.tuple #[.pointer (some ⟨hb,0,none⟩),.int .i64 0])) w8:=by
 have htl:aN<w.heap.size:=aE (hT 0 0 rfl);refine ⟨hb,gj ⟨hb,m,rb,rg⟩ ub S,rfl,⟨⟨hb,m,rb,rg⟩,fun _=>0,fun _=>0,c.Pg,ub,none,0,0,S,rfl,⟨hc,hB,by rw [List.map_const',List.length_replicate];exact hr,hu,an hT hf (fun h=>h),⟨rfl,hc.page2,fun x hx=>absurd hx de,fun x y hx=>absurd hx de,fun x hx=>absurd hx de,fun x hx=>absurd hx de,fun x hx=>absurd hx de⟩,List.length_replicate,Nat.zero_le _,.inl rfl,⟨rfl,0,0,fun _=>false,⟨_,hm,fun a ha=>absurd ha.2 Bool.false_ne_true⟩,fun q=> ?_⟩,fun k hk=> ?_,?_⟩,fun k=>Iff.rfl,fun _=>rfl⟩,fun k hk=> ?_,hf⟩
 ·symm;rw [Bool.and_eq_false_iff,decide_eq_false_iff_not,decide_eq_false_iff_not,Nat.add_zero];omega
 ·have h1:=hS k hk;have h2:=hS5 k hk;exact ⟨by show k≠hb;omega,by show k≠rb;omega,by show k≠rg;omega,by omega,by omega⟩
 ·show hb≠rb∧hb≠rg∧hb≠ub∧rb≠ub∧rg≠ub∧hb≠aN∧rg≠aN∧ub≠aN∧rb≠aN
  omega
 ·rcases hk with hk|hk|hk|hk|hk
  ·have:=hS k hk;omega
  ·dsimp only at hk;omega
  ·dsimp only at hk;omega
  ·dsimp only at hk;omega
  ·omega
theorem qp (hc:cM c) (hT:bu w) (A:AG):Calls Tryz.prog 49 #[j4 c] w (qO c A w):=by
 obtain ⟨W1,hW1⟩:∃W1,w.alloc (.cells #[.int .i64 (c.kind:Int),.int .i64 (c.Pg:Int),.int .i64 (c.block:Int),.int .i64 (c.Wd:Int),.int .i64 (c.Sl:Int),.int .i64 (c.stack:Int),.int .i64 (c.Ah:Int),.float .f64 c.trig] 24)=W1:=⟨_,rfl⟩;have hf1:Fr (fun _=>False) w W1:=by rw [←hW1];exact (Fr.refl _ w).alloc _
 have hb1:ak W1 w.heap.size (vm c) 24:=by rw [←hW1];exact ak.new w _ _
 have HCK:=ae (oV hc W1);have HFR:=ae (fun w1=>eU (c:=c) w1 hc.kind1 hc.page2 hc.block3 hc.ahead1 hc.words3);obtain ⟨k0,k1,k2,k3,k4,k5,k6,k7⟩:=jk hb1;have HC:=ae hc;have HS8:Hid ((Tryz.prog.info? 24).map (·.size)=some 8):=by show _=_;kernel_rfl
 have HT:=ae hT;have HF1:=ae hf1;have HB1:=ae hb1;have hp3:=hc.page3;have hw3:=hc.words3;clear hf1 hb1 hT hc;unfold j4 at HCK HFR ⊢;generalize hQ:(qO c A w)=Q;have HQ:=ae hQ;clear hQ
 go_enter Tryz.func49,Tryz.ntmps49
 go_wp2_with fail
 refine (HCK.out).mono ?_;rintro e w2 ⟨rfl,hf2⟩;obtain ⟨k0,k1,k2,k3,k4,k5,k6,k7⟩:=jk (HB1.out.frame hf2 (fun h=>h));have HBX2:=ae (HB1.out.frame hf2 (fun h=>h));have HF2:=ae (HF1.out.trans hf2 (fun _ h=>h.elim));have hz1:w.heap.size<w2.heap.size:=(HBX2.out).lt;have HW5:=ae HC.out.W5;clear HCK hf2 hW1 HF1 HB1;obtain ⟨W4,hW4⟩:∃W4,w2.alloc (.cells (#[.int .i64 (c.kind:Int),.int .i64 (c.Pg:Int),.int .i64 (c.block:Int),.int .i64 (c.Wd:Int),.int .i64 (c.Sl:Int),.int .i64 (c.stack:Int),.int .i64 (c.Ah:Int),.float .f64 c.trig,.pointer none,.pointer none,.pointer none,.pointer none,.int .i64 0,.int .i64 0]) 117)=W4:=⟨_,rfl⟩;have hf4:Fr (fun _=>False) w2 W4:=by rw [←hW4];exact (Fr.refl _ w2).alloc _
 have hb4:ak W4 w2.heap.size (vm c++[.pointer none,.pointer none,.pointer none,.pointer none,.int .i64 0,.int .i64 0]) 117:=by rw [←hW4];exact ak.new w2 _ _
 have hhb:w2.heap.size<W4.heap.size:=hb4.lt;have HBX:=ae (fun w1 (hf:Fr (fun k=>k=w2.heap.size) W4.drew w1)=>((HBX2.out.frame hf4 (fun h=>h)).drew).frame hf (fun e=>by omega));have HHB:=ae (fun w1 (hf:Fr (fun _=>False) W4.drew w1)=>hb4.drew.frame hf (fun h=>h));have HMN:=ae (fun w1=>vY c.W c.Pg c.Fs (by have:=HC.out.words4;have:=HC.out.page2;have h9:1≤c.Wd/c.Pg:=(Nat.le_div_iff_mul_le (by omega)).2 (by omega);unfold Cf.Fs;generalize c.Wd/c.Pg=X at*;omega) HC.out.frames1 HC.out.page1 HC.out.page2 HC.out.page3 (by have:=HW5.out;omega) HW5.out.1 HC.out.Wp w1);have HF4:=ae (HF2.out.trans hf4 (fun _ h=>h.elim));clear hb4 hf4;by_cases hk3:c.kind=3
 ·have hk:((c.kind:Int) !=3)=false:=by rw [hk3];rfl
  have hWv:(c.Pg:Int)+(c.Wd:Int)=(c.W:Int):=by unfold Cf.W;rw [if_pos hk3];push_cast;omega
  have HWV:=ae hWv;clear hWv hk3;go_wp2;rw [HWV.out];clear hW4 hk;refine bp 13 12 (fun a b2=>Fr (fun k=>k=w2.heap.size) a b2) (fun a b2=>Fr (fun _=>False) a b2) [fun v _=>v= .pointer (some ⟨w2.heap.size,0,none⟩),fun v _=>v= .int .i64 (c.W:Int),fun v _=>v= .pointer (some ⟨w.heap.size,1,none⟩),fun v _=>v= .int .i64 (c.Pg:Int),fun v _=>v= .agg #[.int .i64 (c.kind:Int),.int .i64 (c.Pg:Int),.int .i64 (c.block:Int),.int .i64 (c.Wd:Int),.int .i64 (c.Sl:Int),.int .i64 (c.stack:Int),.int .i64 (c.Ah:Int),.float .f64 c.trig],fun v _=>v= .int .i64 (c.Fs:Int),fun v w'=>∃m S,v=(.tuple #[.pointer (some ⟨m,0,none⟩),.int .i64 0])∧bl w' m S c.Pg c.W c.Fs 0 0 (fun _=>false) (fun _=>0)∧∀k,S k→W4.heap.size≤k,fun v w'=>∃m S,v=(.tuple #[.pointer (some ⟨m,0,none⟩),.int .i64 0])∧bl w' m S c.Pg c.W c.Fs 0 0 (fun _=>false) (fun _=>0)∧∀k,S k→W4.heap.size≤k,fun v w'=>∃m S,v= .pointer (some ⟨m,0,none⟩)∧bl w' m S c.Pg c.W c.Fs 0 0 (fun _=>false) (fun _=>0)∧∀k,S k→W4.heap.size≤k,fun v _=>True,fun v _=>v= .pointer (some ⟨w2.heap.size,0,none⟩),fun v _=>v= .pointer (some ⟨w2.heap.size,8,none⟩),fun v w'=>∃m S,(bl w' m S c.Pg c.W c.Fs 0 0 (fun _=>false) (fun _=>0)∧∀k,S k→W4.heap.size≤k)∧ak w' w2.heap.size (vm c++[.pointer (some ⟨m,0,none⟩),.pointer none,.pointer none,.pointer none,.int .i64 0,.int .i64 0]) 117] (fun j=>false) (by kernel_rfl) (by kernel_rfl) (by kernel_rfl) (by kernel_rfl) rfl (fun _=>Fr.refl _ _) (fun _ _ h=>h.mono (fun _ h=>h.elim)) (fun _ _ _ h1 h2=>h1.trans h2 (fun _ h=>h.elim)) (fun _ _ _ h1 h2=>h1.trans h2 (fun _ h=>h.elim)) (fun _ _ _ h1 h2=>(h1.mono (fun _ h=>h.elim)).trans h2 (fun _ h=> .inl h)) (fun _ _ h=>h.size) ⟨fun _ _ _ h _=>h,fun _ _ _ h _=>h,fun _ _ _ h _=>h,fun _ _ _ h _=>h,fun _ _ _ h _=>h,fun _ _ _ h _=>h,fun v w1 w2 h hr=>let ⟨m,S,e,h1,h2⟩:=h;⟨m,S,e,h1.keep hr,h2⟩,fun v w1 w2 h hr=>let ⟨m,S,e,h1,h2⟩:=h;⟨m,S,e,h1.keep hr,h2⟩,fun v w1 w2 h hr=>let ⟨m,S,e,h1,h2⟩:=h;⟨m,S,e,h1.keep hr,h2⟩,fun _ _ _ h _=>h,fun _ _ _ h _=>h,fun _ _ _ h _=>h,fun v w1 w2 h hr=>let ⟨m,S,⟨h1,h2⟩,h3⟩:=h;⟨m,S,⟨h1.keep hr,h2⟩,h3.frame hr (fun h=>h)⟩,trivial⟩ ⟨.inr (fun _ _ _ h _=>h),.inr (fun _ _ _ h _=>h),.inr (fun _ _ _ h _=>h),.inr (fun _ _ _ h _=>h),.inr (fun _ _ _ h _=>h),.inr (fun _ _ _ h _=>h),.inr (fun v w1 w2 h hr=>let ⟨m,S,e,h1,h2⟩:=h;⟨m,S,e,h1.frame hr (fun k hk e=>by have:=h2 k hk;have:=hhb;omega),h2⟩),.inr (fun v w1 w2 h hr=>let ⟨m,S,e,h1,h2⟩:=h;⟨m,S,e,h1.frame hr (fun k hk e=>by have:=h2 k hk;have:=hhb;omega),h2⟩),.inr (fun v w1 w2 h hr=>let ⟨m,S,e,h1,h2⟩:=h;⟨m,S,e,h1.frame hr (fun k hk e=>by have:=h2 k hk;have:=hhb;omega),h2⟩),.inr (fun _ _ _ h _=>h),.inr (fun _ _ _ h _=>h),.inr (fun _ _ _ h _=>h),.inl rfl,trivial⟩ ?_;intro F hF;simp only [aS,List.take_succ_cons,List.take_zero,aa,ab,ac] at hF;subst hF;refine ⟨⟨fun vs w1 hw hw1 hd hx=> ?_,fun vs w1 hw hw1 hd hx=> ?_,fun vs w1 hw hw1 hd hx=> ?_,fun vs w1 hw hw1 hd hx=> ?_,fun vs w1 hw hw1 hd hx=> ?_,fun vs w1 hw hw1 hd hx=> ?_,fun vs w1 hw hw1 hd hx=> ?_,fun vs w1 hw hw1 hd hx=> ?_,fun vs w1 hw hw1 hd hx=> ?_,fun vs w1 hw hw1 hd hx=> ?_,fun vs w1 hw hw1 hd hx=> ?_,fun vs w1 hw hw1 hd hx=> ?_,fun vs w1 hw hw1 hd hx=> ?_,trivial⟩,?_⟩
  ·refine ai (.pointer (some ⟨w2.heap.size,0,none⟩)) ?_ ⟨rfl,Fr.refl _ _,fun h=>nomatch h⟩;go_simp
  ·refine ai (.int .i64 (c.W:Int)) ?_ ⟨rfl,Fr.refl _ _,fun h=>nomatch h⟩;go_simp
  ·refine ai (.pointer (some ⟨w.heap.size,1,none⟩)) ?_ ⟨rfl,Fr.refl _ _,fun h=>nomatch h⟩;go_simp
  ·have h2:vs 2= .pointer (some ⟨w.heap.size,1,none⟩):=hd 2 (by kernel_rfl);refine ai (.int .i64 (c.Pg:Int)) ?_ ⟨rfl,Fr.refl _ _,fun h=>nomatch h⟩;have hbx:=HBX.out w1 hw;have k1:=hbx.cell 1 rfl;go_simp
  ·have hbx:=HBX.out w1 hw;refine ai (.agg #[.int .i64 (c.kind:Int),.int .i64 (c.Pg:Int),.int .i64 (c.block:Int),.int .i64 (c.Wd:Int),.int .i64 (c.Sl:Int),.int .i64 (c.stack:Int),.int .i64 (c.Ah:Int),.float .f64 c.trig]) ?_ ⟨rfl,Fr.refl _ _,fun h=>nomatch h⟩;exact du rfl w.heap.size rfl 24 _ (0,0) _ hbx Tryz.underlying24 rfl HS8.out
  ·have h4:vs 4= .agg #[.int .i64 (c.kind:Int),.int .i64 (c.Pg:Int),.int .i64 (c.block:Int),.int .i64 (c.Wd:Int),.int .i64 (c.Sl:Int),.int .i64 (c.stack:Int),.int .i64 (c.Ah:Int),.float .f64 c.trig]:=hd 4 (by kernel_rfl);refine ay 119 #[.agg #[.int .i64 (c.kind:Int),.int .i64 (c.Pg:Int),.int .i64 (c.block:Int),.int .i64 (c.Wd:Int),.int .i64 (c.Sl:Int),.int .i64 (c.stack:Int),.int .i64 (c.Ah:Int),.float .f64 c.trig]] (by go_simp) ((HFR.out w1).mono ?_);rintro e w5 ⟨rfl,hf⟩;exact ⟨_,rfl,rfl,hf,fun h=>nomatch h⟩
  ·have h1:vs 1= .int .i64 (c.W:Int):=hd 1 (by kernel_rfl);have h3:vs 3= .int .i64 (c.Pg:Int):=hd 3 (by kernel_rfl);have h5:vs 5= .int .i64 (c.Fs:Int):=hd 5 (by kernel_rfl);have HW:=hw1 (by kernel_rfl);refine ay 118 #[.int .i64 (c.W:Int),.int .i64 (c.Pg:Int),.int .i64 (c.Fs:Int)] (by go_simp) ((HMN.out w1).mono ?_);rintro e w5 ⟨m,S,rfl,h1,h2,h3⟩;exact ⟨_,rfl,⟨m,S,rfl,h1,fun k hk=>Nat.le_trans HW.size (h2 k hk)⟩,h3,fun h=>nomatch h⟩
  ·have h6:=hd 6 (by kernel_rfl);obtain ⟨m,S,a1,a2,a3⟩:=h6;refine ai (.tuple #[m,.int .i64 0]) (by go_simp) ⟨⟨m,S,rfl,a2,a3⟩,Fr.refl _ _,fun h=>nomatch h⟩
  ·have h7:=hd 7 (by kernel_rfl);obtain ⟨m,S,a1,a2,a3⟩:=h7;refine ai (.pointer (some ⟨m,0,none⟩)) (by go_simp) ⟨⟨m,S,rfl,a2,a3⟩,Fr.refl _ _,fun h=>nomatch h⟩
  ·have h7:=hd 7 (by kernel_rfl);obtain ⟨m,S,a1,a2,a3⟩:=h7;refine ai (.int .i64 0) (by go_simp) ⟨trivial,Fr.refl _ _,fun h=>nomatch h⟩
  ·have h0:vs 0= .pointer (some ⟨w2.heap.size,0,none⟩):=hd 0 (by kernel_rfl);refine ai (.pointer (some ⟨w2.heap.size,0,none⟩)) ?_ ⟨rfl,Fr.refl _ _,fun h=>nomatch h⟩;go_simp
  ·have h10:vs 10= .pointer (some ⟨w2.heap.size,0,none⟩):=hd 10 (by kernel_rfl);refine ai (.pointer (some ⟨w2.heap.size,8,none⟩)) ?_ ⟨rfl,Fr.refl _ _,fun h=>nomatch h⟩;go_simp
  ·have h11:vs 11= .pointer (some ⟨w2.heap.size,8,none⟩):=hd 11 (by kernel_rfl);have h8:=hd 8 (by kernel_rfl);obtain ⟨m,S,a1,a2,a3⟩:=h8;have HW:=hw1 (by kernel_rfl);have hb1:=HHB.out w1 HW;have k8:=ak.cell hb1 8 rfl;have f8:=ak.free hb1 8;have hfs:=(Fr.refl (fun k=>k=w2.heap.size) w1).setCell ⟨w2.heap.size,8,none⟩ (.inl rfl) (.pointer (some ⟨m,0,none⟩));refine cl (w':=w1.setCell ⟨w2.heap.size,8,none⟩ (.pointer (some ⟨m,0,none⟩))) (by go_simp) ⟨⟨m,S,⟨a2.frame hfs (fun k hk e=>by have h9:k=w2.heap.size:=e;have:=a3 k hk;have:=hhb;omega),a3⟩,hb1.set 8 _⟩,hfs,fun h=>nomatch h⟩
  intro vs w1 hw hp hx;obtain ⟨g0,g1,g2,g3,g4,g5,g6,g7,g8,g9,g10,g11,g12,_⟩:=hp;obtain ⟨m,S,⟨a1,a2⟩,a3⟩:=g12;clear g0 g1 g2 g3 g4 g5 g6 g7 g8 g9 g10 g11 hx;simp only [List.drop_succ_cons,List.drop_zero];have hfd:Fr (fun k=>k=w2.heap.size) W4 w1:=((Fr.refl (fun k=>k=w2.heap.size) W4).drew).trans hw (fun _ h=> .inl h);have hbx1:=HBX.out w1 hw;have k4:=hbx1.cell 4 rfl;have HRN:=ae (nE c.Sl HC.out.slots1 HC.out.slots2 w1);have H8:=ae (af a1 (af a2 (af a3 (af hfd hbx1))));clear a1 a2 a3 hfd hbx1 hw HBX HHB HMN HWV k0 k1 k2 k3 k5 k6 k7;go_wp2_with fail
  refine (HRN.out).mono ?_;rintro e w5 ⟨rb,rg,rfl,r1,r2,r3,r4⟩;have hb5:=H8.out.2.2.1.frame r4 (fun h=>h);have k9:=ak.cell hb5 9 rfl;have f9:=ak.free hb5 9;obtain ⟨W5,hW5⟩:∃W5,w5.setCell ⟨w2.heap.size,9,none⟩ (.pointer (some ⟨rb,0,none⟩))=W5:=⟨_,rfl⟩;have hfs:Fr (fun k=>k=w2.heap.size) w5 W5:=by rw [←hW5];exact (Fr.refl (fun k=>k=w2.heap.size) w5).setCell ⟨w2.heap.size,9,none⟩ (.inl rfl) _
  have hb6:ak W5 w2.heap.size (vm c++[.pointer (some ⟨m,0,none⟩),.pointer (some ⟨rb,0,none⟩),.pointer none,.pointer none,.int .i64 0,.int .i64 0]) 117:=by rw [←hW5];exact hb5.set 9 _
  obtain ⟨g1,g2,g3,g4,g5⟩:=H8.out;have hz4:=g4.size;have hz5:=r4.size;have hz6:=hfs.size;have hm5:=(g1.keep r4).frame hfs (fun k hk e=>by have h9:k=w2.heap.size:=e;have:=g2 k hk;omega);have hr5:=r1.frame hfs (fun e=>by omega) (fun e=>by omega);have hbx5:=(g5.frame r4 (fun h=>h)).frame hfs (fun e=>by omega);have hhb5:w2.heap.size<W5.heap.size:=by omega
  have HBX5:=ae (fun w1 (hf:Fr (fun k=>k=w2.heap.size) W5.drew w1)=>hbx5.drew.frame hf (fun e=>by omega));have HHB5:=ae (fun w1 (hf:Fr (fun _=>False) W5.drew w1)=>hb6.drew.frame hf (fun h=>h));have HBN:=ae (fun w1 (hf:Fr (fun _=>False) W5.drew w1)=>lr (hm5.keep (((Fr.refl (fun _=>False) W5).drew).trans hf (fun _ h=>h.elim))) c.Pg (c.Pg+c.Wd) (by omega) (by have:=HW5.out;omega));have hsum:((c.Pg+c.Wd:Nat):Int)=(c.Pg:Int)+(c.Wd:Int):=by push_cast;rfl
  have H9:=ae (af g1 (af g2 (af g4 (af r1 (af r2 (af r3 (af r4 (af hfs (af hm5 (af hr5 (af hz4 (af hz5 hz6))))))))))));clear g1 g2 g3 g4 g5 r1 r2 r3 r4 hfs hm5 hr5 hz4 hz5 hz6 hb6 hb5 hbx5 HRN H8 k4;go_wp2;clear hW5 k9 f9;refine bp 19 18 (fun a b2=>Fr (fun k=>k=w2.heap.size) a b2) (fun a b2=>Fr (fun _=>False) a b2) [fun v _=>v= .pointer (some ⟨w2.heap.size,0,none⟩),fun v _=>v= .pointer (some ⟨w2.heap.size,0,none⟩),fun v _=>v= .pointer (some ⟨w2.heap.size,0,none⟩),fun v _=>v= .pointer (some ⟨w2.heap.size,8,none⟩),fun v _=>v= .pointer (some ⟨m,0,none⟩),fun v _=>v= .pointer (some ⟨w.heap.size,1,none⟩),fun v _=>v= .int .i64 (c.Pg:Int),fun v _=>v= .pointer (some ⟨w.heap.size,1,none⟩),fun v _=>v= .int .i64 (c.Pg:Int),fun v _=>v= .pointer (some ⟨w.heap.size,3,none⟩),fun v _=>v= .int .i64 (c.Wd:Int),fun v _=>v= .int .i64 ((c.Pg+c.Wd:Nat):Int),fun v w'=>∃ub,v=(.tuple #[.pointer (some ⟨ub,0,none⟩),.int .i64 0])∧bM w' ub m c.Pg c.Pg (c.Pg+c.Wd)∧W5.heap.size≤ub,fun v w'=>∃ub,v=(.tuple #[.pointer (some ⟨ub,0,none⟩),.int .i64 0])∧bM w' ub m c.Pg c.Pg (c.Pg+c.Wd)∧W5.heap.size≤ub,fun v w'=>∃ub,v= .pointer (some ⟨ub,0,none⟩)∧bM w' ub m c.Pg c.Pg (c.Pg+c.Wd)∧W5.heap.size≤ub,fun v _=>True,fun v _=>v= .pointer (some ⟨w2.heap.size,0,none⟩),fun v _=>v= .pointer (some ⟨w2.heap.size,10,none⟩),fun v w'=>∃ub,(bM w' ub m c.Pg c.Pg (c.Pg+c.Wd)∧W5.heap.size≤ub)∧fT w' w2.heap.size c m rb ub none 0 0] (fun j=>false) (by kernel_rfl) (by kernel_rfl) (by kernel_rfl) (by kernel_rfl) rfl (fun _=>Fr.refl _ _) (fun _ _ h=>h.mono (fun _ h=>h.elim)) (fun _ _ _ h1 h2=>h1.trans h2 (fun _ h=>h.elim)) (fun _ _ _ h1 h2=>h1.trans h2 (fun _ h=>h.elim)) (fun _ _ _ h1 h2=>(h1.mono (fun _ h=>h.elim)).trans h2 (fun _ h=> .inl h)) (fun _ _ h=>h.size) ⟨fun _ _ _ h _=>h,fun _ _ _ h _=>h,fun _ _ _ h _=>h,fun _ _ _ h _=>h,fun _ _ _ h _=>h,fun _ _ _ h _=>h,fun _ _ _ h _=>h,fun _ _ _ h _=>h,fun _ _ _ h _=>h,fun _ _ _ h _=>h,fun _ _ _ h _=>h,fun _ _ _ h _=>h,fun v w1 w2 h hr=>let ⟨ub,e,h1,h2⟩:=h;⟨ub,e,ak.frame h1 hr (fun h=>h),h2⟩,fun v w1 w2 h hr=>let ⟨ub,e,h1,h2⟩:=h;⟨ub,e,ak.frame h1 hr (fun h=>h),h2⟩,fun v w1 w2 h hr=>let ⟨ub,e,h1,h2⟩:=h;⟨ub,e,ak.frame h1 hr (fun h=>h),h2⟩,fun _ _ _ h _=>h,fun _ _ _ h _=>h,fun _ _ _ h _=>h,fun v w1 w2 h hr=>let ⟨ub,⟨h1,h2⟩,h3⟩:=h;⟨ub,⟨ak.frame h1 hr (fun h=>h),h2⟩,ak.frame h3 hr (fun h=>h)⟩,trivial⟩ ⟨.inr (fun _ _ _ h _=>h),.inr (fun _ _ _ h _=>h),.inr (fun _ _ _ h _=>h),.inr (fun _ _ _ h _=>h),.inr (fun _ _ _ h _=>h),.inr (fun _ _ _ h _=>h),.inr (fun _ _ _ h _=>h),.inr (fun _ _ _ h _=>h),.inr (fun _ _ _ h _=>h),.inr (fun _ _ _ h _=>h),.inr (fun _ _ _ h _=>h),.inr (fun _ _ _ h _=>h),.inr (fun v w1 w2 h hr=>let ⟨ub,e,h1,h2⟩:=h;⟨ub,e,ak.frame h1 hr (fun e=>by have:=hhb5;omega),h2⟩),.inr (fun v w1 w2 h hr=>let ⟨ub,e,h1,h2⟩:=h;⟨ub,e,ak.frame h1 hr (fun e=>by have:=hhb5;omega),h2⟩),.inr (fun v w1 w2 h hr=>let ⟨ub,e,h1,h2⟩:=h;⟨ub,e,ak.frame h1 hr (fun e=>by have:=hhb5;omega),h2⟩),.inr (fun _ _ _ h _=>h),.inr (fun _ _ _ h _=>h),.inr (fun _ _ _ h _=>h),.inl rfl,trivial⟩ ?_;intro F hF;simp only [aS,List.take_succ_cons,List.take_zero,aa,ab,ac] at hF;subst hF;refine ⟨⟨fun vs w1 hw hw1 hd hx=> ?_,fun vs w1 hw hw1 hd hx=> ?_,fun vs w1 hw hw1 hd hx=> ?_,fun vs w1 hw hw1 hd hx=> ?_,fun vs w1 hw hw1 hd hx=> ?_,fun vs w1 hw hw1 hd hx=> ?_,fun vs w1 hw hw1 hd hx=> ?_,fun vs w1 hw hw1 hd hx=> ?_,fun vs w1 hw hw1 hd hx=> ?_,fun vs w1 hw hw1 hd hx=> ?_,fun vs w1 hw hw1 hd hx=> ?_,fun vs w1 hw hw1 hd hx=> ?_,fun vs w1 hw hw1 hd hx=> ?_,fun vs w1 hw hw1 hd hx=> ?_,fun vs w1 hw hw1 hd hx=> ?_,fun vs w1 hw hw1 hd hx=> ?_,fun vs w1 hw hw1 hd hx=> ?_,fun vs w1 hw hw1 hd hx=> ?_,fun vs w1 hw hw1 hd hx=> ?_,trivial⟩,?_⟩
  ·refine ai (.pointer (some ⟨w2.heap.size,0,none⟩)) ?_ ⟨rfl,Fr.refl _ _,fun h=>nomatch h⟩;go_simp
  ·refine ai (.pointer (some ⟨w2.heap.size,0,none⟩)) ?_ ⟨rfl,Fr.refl _ _,fun h=>nomatch h⟩;go_simp
  ·have h1:vs 1= .pointer (some ⟨w2.heap.size,0,none⟩):=hd 1 (by kernel_rfl);refine ai (.pointer (some ⟨w2.heap.size,0,none⟩)) ?_ ⟨rfl,Fr.refl _ _,fun h=>nomatch h⟩;go_simp
  ·have h2:vs 2= .pointer (some ⟨w2.heap.size,0,none⟩):=hd 2 (by kernel_rfl);refine ai (.pointer (some ⟨w2.heap.size,8,none⟩)) ?_ ⟨rfl,Fr.refl _ _,fun h=>nomatch h⟩;go_simp
  ·have h3:vs 3= .pointer (some ⟨w2.heap.size,8,none⟩):=hd 3 (by kernel_rfl);refine ai (.pointer (some ⟨m,0,none⟩)) ?_ ⟨rfl,Fr.refl _ _,fun h=>nomatch h⟩;have k8:=ak.cell (HHB5.out w1 (hw1 (by kernel_rfl))) 8 rfl;go_simp
  ·refine ai (.pointer (some ⟨w.heap.size,1,none⟩)) ?_ ⟨rfl,Fr.refl _ _,fun h=>nomatch h⟩;go_simp
  ·have h5:vs 5= .pointer (some ⟨w.heap.size,1,none⟩):=hd 5 (by kernel_rfl);refine ai (.int .i64 (c.Pg:Int)) ?_ ⟨rfl,Fr.refl _ _,fun h=>nomatch h⟩;have hbx:=HBX5.out w1 hw;have k1:=hbx.cell 1 rfl;go_simp
  ·refine ai (.pointer (some ⟨w.heap.size,1,none⟩)) ?_ ⟨rfl,Fr.refl _ _,fun h=>nomatch h⟩;go_simp
  ·have h7:vs 7= .pointer (some ⟨w.heap.size,1,none⟩):=hd 7 (by kernel_rfl);refine ai (.int .i64 (c.Pg:Int)) ?_ ⟨rfl,Fr.refl _ _,fun h=>nomatch h⟩;have hbx:=HBX5.out w1 hw;have k1:=hbx.cell 1 rfl;go_simp
  ·refine ai (.pointer (some ⟨w.heap.size,3,none⟩)) ?_ ⟨rfl,Fr.refl _ _,fun h=>nomatch h⟩;go_simp
  ·have h9:vs 9= .pointer (some ⟨w.heap.size,3,none⟩):=hd 9 (by kernel_rfl);refine ai (.int .i64 (c.Wd:Int)) ?_ ⟨rfl,Fr.refl _ _,fun h=>nomatch h⟩;have hbx:=HBX5.out w1 hw;have k3:=hbx.cell 3 rfl;go_simp
  ·have h8:vs 8= .int .i64 (c.Pg:Int):=hd 8 (by kernel_rfl);have h10:vs 10= .int .i64 (c.Wd:Int):=hd 10 (by kernel_rfl);refine ai (.int .i64 ((c.Pg+c.Wd:Nat):Int)) ?_ ⟨rfl,Fr.refl _ _,fun h=>nomatch h⟩;have hwrp:IntKind.i64.wrap ((c.Pg:Int)+(c.Wd:Int))=(c.Pg:Int)+(c.Wd:Int):=by rw [IntKind.wrap_i64];omega
   go_simp
  ·have h4:vs 4= .pointer (some ⟨m,0,none⟩):=hd 4 (by kernel_rfl);have h6:vs 6= .int .i64 (c.Pg:Int):=hd 6 (by kernel_rfl);have h11:vs 11= .int .i64 ((c.Pg+c.Wd:Nat):Int):=hd 11 (by kernel_rfl);have HW:=hw1 (by kernel_rfl);refine ay 121 #[m,.int .i64 (c.Pg:Int),.int .i64 ((c.Pg+c.Wd:Nat):Int)] (by go_simp) ((HBN.out w1 HW).mono ?_);rintro e w5 ⟨ub,rfl,h1,h2,h3⟩;exact ⟨_,rfl,⟨ub,rfl,h1,Nat.le_trans HW.size h2⟩,h3,fun h=>nomatch h⟩
  ·have h12:=hd 12 (by kernel_rfl);obtain ⟨ub,a1,a2,a3⟩:=h12;refine ai (.tuple #[ub,.int .i64 0]) (by go_simp) ⟨⟨ub,rfl,a2,a3⟩,Fr.refl _ _,fun h=>nomatch h⟩
  ·have h13:=hd 13 (by kernel_rfl);obtain ⟨ub,a1,a2,a3⟩:=h13;refine ai (.pointer (some ⟨ub,0,none⟩)) (by go_simp) ⟨⟨ub,rfl,a2,a3⟩,Fr.refl _ _,fun h=>nomatch h⟩
  ·have h13:=hd 13 (by kernel_rfl);obtain ⟨ub,a1,a2,a3⟩:=h13;refine ai (.int .i64 0) (by go_simp) ⟨trivial,Fr.refl _ _,fun h=>nomatch h⟩
  ·have h0:vs 0= .pointer (some ⟨w2.heap.size,0,none⟩):=hd 0 (by kernel_rfl);refine ai (.pointer (some ⟨w2.heap.size,0,none⟩)) ?_ ⟨rfl,Fr.refl _ _,fun h=>nomatch h⟩;go_simp
  ·have h16:vs 16= .pointer (some ⟨w2.heap.size,0,none⟩):=hd 16 (by kernel_rfl);refine ai (.pointer (some ⟨w2.heap.size,10,none⟩)) ?_ ⟨rfl,Fr.refl _ _,fun h=>nomatch h⟩;go_simp
  ·have h17:vs 17= .pointer (some ⟨w2.heap.size,10,none⟩):=hd 17 (by kernel_rfl);have h14:=hd 14 (by kernel_rfl);obtain ⟨ub,a1,a2,a3⟩:=h14;have HW:=hw1 (by kernel_rfl);have hb1:=HHB5.out w1 HW;have k10:=ak.cell hb1 10 rfl;have f10:=ak.free hb1 10;have hfs:=(Fr.refl (fun k=>k=w2.heap.size) w1).setCell ⟨w2.heap.size,10,none⟩ (.inl rfl) (.pointer (some ⟨ub,0,none⟩));refine cl (w':=w1.setCell ⟨w2.heap.size,10,none⟩ (.pointer (some ⟨ub,0,none⟩))) (by go_simp) ⟨⟨ub,⟨ak.frame a2 hfs (fun e=>by have h9:ub=w2.heap.size:=e;have:=hhb5;omega),a3⟩,hb1.set 10 _⟩,hfs,fun h=>nomatch h⟩
  intro vs5 w6 hw6 hp hx;obtain ⟨g0,g1,g2,g3,g4,g5,g6,g7,g8,g9,g10,g11,g12,g13,g14,g15,g16,g17,g18,_⟩:=hp;obtain ⟨ub,⟨b1,b2⟩,b3⟩:=g18;clear g0 g1 g2 g3 g4 g5 g6 g7 g8 g9 g10 g11 g12 g13 g14 g15 g16 g17 hx;simp only [List.drop_succ_cons,List.drop_zero];have hfin:qO c A w (.returned (.tuple #[.pointer (some ⟨w2.heap.size,0,none⟩),.int .i64 0])) w6:=by
   obtain ⟨g1,g2,g4,r1,r2,r3,r4,hfs,hm5,hr5,hz4,hz5,hz6⟩:=H9.out;have hf56:Fr (fun k=>k=w2.heap.size) W5 w6:=((Fr.refl (fun k=>k=w2.heap.size) W5).drew).trans hw6 (fun _ h=> .inl h);have hzw:=HF2.out.size;have hfall:Fr (fun _=>False) w w6:=(((HF4.out.trans g4 (fun k hk=> .inr (by have h9:k=w2.heap.size:=hk;omega))).trans r4 (fun _ h=>h.elim)).trans hfs (fun k hk=> .inr (by have h9:k=w2.heap.size:=hk;omega))).trans hf56 (fun k hk=> .inr (by have h9:k=w2.heap.size:=hk;omega));refine kC (w4:=W4) (w5:=w1) (w6:=W5) HC.out HT.out g2 hzw hhb (fun k hk=>(aF _ _ _ _ _ _ _).lt (fun _=>0) S w1 ⟨_,g1,fun _ _=>rfl⟩ k hk) r2 r3 hr5.blk.lt hr5.row.lt b2 hz4 (by omega) (hm5.frame hf56 (fun k hk e=>by have h9:k=w2.heap.size:=e;have:=g2 k hk;omega)) (hr5.frame hf56 (fun e=>by omega) (fun e=>by omega)) b1 b3 hfall
  rw [HQ.out] at hfin;have H:=ae hfin;clear hfin b1 b2 b3 H9 hw6 HBX5 HHB5 HBN hsum;go_wp2;exact H.out
 ·have hk:((c.kind:Int) !=3)=true:=by rw [bne_iff_ne];omega
  have hWv:(c.Pg:Int)+(c.Wd:Int)+(c.Wd:Int)=(c.W:Int):=by unfold Cf.W;rw [if_neg hk3];push_cast;omega
  have HWV:=ae hWv;clear hWv hk3;go_wp2;rw [HWV.out];clear hW4 hk;refine bp 13 12 (fun a b2=>Fr (fun k=>k=w2.heap.size) a b2) (fun a b2=>Fr (fun _=>False) a b2) [fun v _=>v= .pointer (some ⟨w2.heap.size,0,none⟩),fun v _=>v= .int .i64 (c.W:Int),fun v _=>v= .pointer (some ⟨w.heap.size,1,none⟩),fun v _=>v= .int .i64 (c.Pg:Int),fun v _=>v= .agg #[.int .i64 (c.kind:Int),.int .i64 (c.Pg:Int),.int .i64 (c.block:Int),.int .i64 (c.Wd:Int),.int .i64 (c.Sl:Int),.int .i64 (c.stack:Int),.int .i64 (c.Ah:Int),.float .f64 c.trig],fun v _=>v= .int .i64 (c.Fs:Int),fun v w'=>∃m S,v=(.tuple #[.pointer (some ⟨m,0,none⟩),.int .i64 0])∧bl w' m S c.Pg c.W c.Fs 0 0 (fun _=>false) (fun _=>0)∧∀k,S k→W4.heap.size≤k,fun v w'=>∃m S,v=(.tuple #[.pointer (some ⟨m,0,none⟩),.int .i64 0])∧bl w' m S c.Pg c.W c.Fs 0 0 (fun _=>false) (fun _=>0)∧∀k,S k→W4.heap.size≤k,fun v w'=>∃m S,v= .pointer (some ⟨m,0,none⟩)∧bl w' m S c.Pg c.W c.Fs 0 0 (fun _=>false) (fun _=>0)∧∀k,S k→W4.heap.size≤k,fun v _=>True,fun v _=>v= .pointer (some ⟨w2.heap.size,0,none⟩),fun v _=>v= .pointer (some ⟨w2.heap.size,8,none⟩),fun v w'=>∃m S,(bl w' m S c.Pg c.W c.Fs 0 0 (fun _=>false) (fun _=>0)∧∀k,S k→W4.heap.size≤k)∧ak w' w2.heap.size (vm c++[.pointer (some ⟨m,0,none⟩),.pointer none,.pointer none,.pointer none,.int .i64 0,.int .i64 0]) 117] (fun j=>false) (by kernel_rfl) (by kernel_rfl) (by kernel_rfl) (by kernel_rfl) rfl (fun _=>Fr.refl _ _) (fun _ _ h=>h.mono (fun _ h=>h.elim)) (fun _ _ _ h1 h2=>h1.trans h2 (fun _ h=>h.elim)) (fun _ _ _ h1 h2=>h1.trans h2 (fun _ h=>h.elim)) (fun _ _ _ h1 h2=>(h1.mono (fun _ h=>h.elim)).trans h2 (fun _ h=> .inl h)) (fun _ _ h=>h.size) ⟨fun _ _ _ h _=>h,fun _ _ _ h _=>h,fun _ _ _ h _=>h,fun _ _ _ h _=>h,fun _ _ _ h _=>h,fun _ _ _ h _=>h,fun v w1 w2 h hr=>let ⟨m,S,e,h1,h2⟩:=h;⟨m,S,e,h1.keep hr,h2⟩,fun v w1 w2 h hr=>let ⟨m,S,e,h1,h2⟩:=h;⟨m,S,e,h1.keep hr,h2⟩,fun v w1 w2 h hr=>let ⟨m,S,e,h1,h2⟩:=h;⟨m,S,e,h1.keep hr,h2⟩,fun _ _ _ h _=>h,fun _ _ _ h _=>h,fun _ _ _ h _=>h,fun v w1 w2 h hr=>let ⟨m,S,⟨h1,h2⟩,h3⟩:=h;⟨m,S,⟨h1.keep hr,h2⟩,h3.frame hr (fun h=>h)⟩,trivial⟩ ⟨.inr (fun _ _ _ h _=>h),.inr (fun _ _ _ h _=>h),.inr (fun _ _ _ h _=>h),.inr (fun _ _ _ h _=>h),.inr (fun _ _ _ h _=>h),.inr (fun _ _ _ h _=>h),.inr (fun v w1 w2 h hr=>let ⟨m,S,e,h1,h2⟩:=h;⟨m,S,e,h1.frame hr (fun k hk e=>by have:=h2 k hk;have:=hhb;omega),h2⟩),.inr (fun v w1 w2 h hr=>let ⟨m,S,e,h1,h2⟩:=h;⟨m,S,e,h1.frame hr (fun k hk e=>by have:=h2 k hk;have:=hhb;omega),h2⟩),.inr (fun v w1 w2 h hr=>let ⟨m,S,e,h1,h2⟩:=h;⟨m,S,e,h1.frame hr (fun k hk e=>by have:=h2 k hk;have:=hhb;omega),h2⟩),.inr (fun _ _ _ h _=>h),.inr (fun _ _ _ h _=>h),.inr (fun _ _ _ h _=>h),.inl rfl,trivial⟩ ?_;intro F hF;simp only [aS,List.take_succ_cons,List.take_zero,aa,ab,ac] at hF;subst hF;refine ⟨⟨fun vs w1 hw hw1 hd hx=> ?_,fun vs w1 hw hw1 hd hx=> ?_,fun vs w1 hw hw1 hd hx=> ?_,fun vs w1 hw hw1 hd hx=> ?_,fun vs w1 hw hw1 hd hx=> ?_,fun vs w1 hw hw1 hd hx=> ?_,fun vs w1 hw hw1 hd hx=> ?_,fun vs w1 hw hw1 hd hx=> ?_,fun vs w1 hw hw1 hd hx=> ?_,fun vs w1 hw hw1 hd hx=> ?_,fun vs w1 hw hw1 hd hx=> ?_,fun vs w1 hw hw1 hd hx=> ?_,fun vs w1 hw hw1 hd hx=> ?_,trivial⟩,?_⟩
  ·refine ai (.pointer (some ⟨w2.heap.size,0,none⟩)) ?_ ⟨rfl,Fr.refl _ _,fun h=>nomatch h⟩;go_simp
  ·refine ai (.int .i64 (c.W:Int)) ?_ ⟨rfl,Fr.refl _ _,fun h=>nomatch h⟩;go_simp
  ·refine ai (.pointer (some ⟨w.heap.size,1,none⟩)) ?_ ⟨rfl,Fr.refl _ _,fun h=>nomatch h⟩;go_simp
  ·have h2:vs 2= .pointer (some ⟨w.heap.size,1,none⟩):=hd 2 (by kernel_rfl);refine ai (.int .i64 (c.Pg:Int)) ?_ ⟨rfl,Fr.refl _ _,fun h=>nomatch h⟩;have hbx:=HBX.out w1 hw;have k1:=hbx.cell 1 rfl;go_simp
  ·have hbx:=HBX.out w1 hw;refine ai (.agg #[.int .i64 (c.kind:Int),.int .i64 (c.Pg:Int),.int .i64 (c.block:Int),.int .i64 (c.Wd:Int),.int .i64 (c.Sl:Int),.int .i64 (c.stack:Int),.int .i64 (c.Ah:Int),.float .f64 c.trig]) ?_ ⟨rfl,Fr.refl _ _,fun h=>nomatch h⟩;exact du rfl w.heap.size rfl 24 _ (0,0) _ hbx Tryz.underlying24 rfl HS8.out
  ·have h4:vs 4= .agg #[.int .i64 (c.kind:Int),.int .i64 (c.Pg:Int),.int .i64 (c.block:Int),.int .i64 (c.Wd:Int),.int .i64 (c.Sl:Int),.int .i64 (c.stack:Int),.int .i64 (c.Ah:Int),.float .f64 c.trig]:=hd 4 (by kernel_rfl);refine ay 119 #[.agg #[.int .i64 (c.kind:Int),.int .i64 (c.Pg:Int),.int .i64 (c.block:Int),.int .i64 (c.Wd:Int),.int .i64 (c.Sl:Int),.int .i64 (c.stack:Int),.int .i64 (c.Ah:Int),.float .f64 c.trig]] (by go_simp) ((HFR.out w1).mono ?_);rintro e w5 ⟨rfl,hf⟩;exact ⟨_,rfl,rfl,hf,fun h=>nomatch h⟩
  ·have h1:vs 1= .int .i64 (c.W:Int):=hd 1 (by kernel_rfl);have h3:vs 3= .int .i64 (c.Pg:Int):=hd 3 (by kernel_rfl);have h5:vs 5= .int .i64 (c.Fs:Int):=hd 5 (by kernel_rfl);have HW:=hw1 (by kernel_rfl);refine ay 118 #[.int .i64 (c.W:Int),.int .i64 (c.Pg:Int),.int .i64 (c.Fs:Int)] (by go_simp) ((HMN.out w1).mono ?_);rintro e w5 ⟨m,S,rfl,h1,h2,h3⟩;exact ⟨_,rfl,⟨m,S,rfl,h1,fun k hk=>Nat.le_trans HW.size (h2 k hk)⟩,h3,fun h=>nomatch h⟩
  ·have h6:=hd 6 (by kernel_rfl);obtain ⟨m,S,a1,a2,a3⟩:=h6;refine ai (.tuple #[m,.int .i64 0]) (by go_simp) ⟨⟨m,S,rfl,a2,a3⟩,Fr.refl _ _,fun h=>nomatch h⟩
  ·have h7:=hd 7 (by kernel_rfl);obtain ⟨m,S,a1,a2,a3⟩:=h7;refine ai (.pointer (some ⟨m,0,none⟩)) (by go_simp) ⟨⟨m,S,rfl,a2,a3⟩,Fr.refl _ _,fun h=>nomatch h⟩
  ·have h7:=hd 7 (by kernel_rfl);obtain ⟨m,S,a1,a2,a3⟩:=h7;refine ai (.int .i64 0) (by go_simp) ⟨trivial,Fr.refl _ _,fun h=>nomatch h⟩
  ·have h0:vs 0= .pointer (some ⟨w2.heap.size,0,none⟩):=hd 0 (by kernel_rfl);refine ai (.pointer (some ⟨w2.heap.size,0,none⟩)) ?_ ⟨rfl,Fr.refl _ _,fun h=>nomatch h⟩;go_simp
  ·have h10:vs 10= .pointer (some ⟨w2.heap.size,0,none⟩):=hd 10 (by kernel_rfl);refine ai (.pointer (some ⟨w2.heap.size,8,none⟩)) ?_ ⟨rfl,Fr.refl _ _,fun h=>nomatch h⟩;go_simp
  ·have h11:vs 11= .pointer (some ⟨w2.heap.size,8,none⟩):=hd 11 (by kernel_rfl);have h8:=hd 8 (by kernel_rfl);obtain ⟨m,S,a1,a2,a3⟩:=h8;have HW:=hw1 (by kernel_rfl);have hb1:=HHB.out w1 HW;have k8:=ak.cell hb1 8 rfl;have f8:=ak.free hb1 8;have hfs:=(Fr.refl (fun k=>k=w2.heap.size) w1).setCell ⟨w2.heap.size,8,none⟩ (.inl rfl) (.pointer (some ⟨m,0,none⟩));refine cl (w':=w1.setCell ⟨w2.heap.size,8,none⟩ (.pointer (some ⟨m,0,none⟩))) (by go_simp) ⟨⟨m,S,⟨a2.frame hfs (fun k hk e=>by have h9:k=w2.heap.size:=e;have:=a3 k hk;have:=hhb;omega),a3⟩,hb1.set 8 _⟩,hfs,fun h=>nomatch h⟩
  intro vs w1 hw hp hx;obtain ⟨g0,g1,g2,g3,g4,g5,g6,g7,g8,g9,g10,g11,g12,_⟩:=hp;obtain ⟨m,S,⟨a1,a2⟩,a3⟩:=g12;clear g0 g1 g2 g3 g4 g5 g6 g7 g8 g9 g10 g11 hx;simp only [List.drop_succ_cons,List.drop_zero];have hfd:Fr (fun k=>k=w2.heap.size) W4 w1:=((Fr.refl (fun k=>k=w2.heap.size) W4).drew).trans hw (fun _ h=> .inl h);have hbx1:=HBX.out w1 hw;have k4:=hbx1.cell 4 rfl;have HRN:=ae (nE c.Sl HC.out.slots1 HC.out.slots2 w1);have H8:=ae (af a1 (af a2 (af a3 (af hfd hbx1))));clear a1 a2 a3 hfd hbx1 hw HBX HHB HMN HWV k0 k1 k2 k3 k5 k6 k7;go_wp2_with fail
  refine (HRN.out).mono ?_;rintro e w5 ⟨rb,rg,rfl,r1,r2,r3,r4⟩;have hb5:=H8.out.2.2.1.frame r4 (fun h=>h);have k9:=ak.cell hb5 9 rfl;have f9:=ak.free hb5 9;obtain ⟨W5,hW5⟩:∃W5,w5.setCell ⟨w2.heap.size,9,none⟩ (.pointer (some ⟨rb,0,none⟩))=W5:=⟨_,rfl⟩;have hfs:Fr (fun k=>k=w2.heap.size) w5 W5:=by rw [←hW5];exact (Fr.refl (fun k=>k=w2.heap.size) w5).setCell ⟨w2.heap.size,9,none⟩ (.inl rfl) _
  have hb6:ak W5 w2.heap.size (vm c++[.pointer (some ⟨m,0,none⟩),.pointer (some ⟨rb,0,none⟩),.pointer none,.pointer none,.int .i64 0,.int .i64 0]) 117:=by rw [←hW5];exact hb5.set 9 _
  obtain ⟨g1,g2,g3,g4,g5⟩:=H8.out;have hz4:=g4.size;have hz5:=r4.size;have hz6:=hfs.size;have hm5:=(g1.keep r4).frame hfs (fun k hk e=>by have h9:k=w2.heap.size:=e;have:=g2 k hk;omega);have hr5:=r1.frame hfs (fun e=>by omega) (fun e=>by omega);have hbx5:=(g5.frame r4 (fun h=>h)).frame hfs (fun e=>by omega);have hhb5:w2.heap.size<W5.heap.size:=by omega
  have HBX5:=ae (fun w1 (hf:Fr (fun k=>k=w2.heap.size) W5.drew w1)=>hbx5.drew.frame hf (fun e=>by omega));have HHB5:=ae (fun w1 (hf:Fr (fun _=>False) W5.drew w1)=>hb6.drew.frame hf (fun h=>h));have HBN:=ae (fun w1 (hf:Fr (fun _=>False) W5.drew w1)=>lr (hm5.keep (((Fr.refl (fun _=>False) W5).drew).trans hf (fun _ h=>h.elim))) c.Pg (c.Pg+c.Wd) (by omega) (by have:=HW5.out;omega));have hsum:((c.Pg+c.Wd:Nat):Int)=(c.Pg:Int)+(c.Wd:Int):=by push_cast;rfl
  have H9:=ae (af g1 (af g2 (af g4 (af r1 (af r2 (af r3 (af r4 (af hfs (af hm5 (af hr5 (af hz4 (af hz5 hz6))))))))))));clear g1 g2 g3 g4 g5 r1 r2 r3 r4 hfs hm5 hr5 hz4 hz5 hz6 hb6 hb5 hbx5 HRN H8 k4;go_wp2;clear hW5 k9 f9;refine bp 19 18 (fun a b2=>Fr (fun k=>k=w2.heap.size) a b2) (fun a b2=>Fr (fun _=>False) a b2) [fun v _=>v= .pointer (some ⟨w2.heap.size,0,none⟩),fun v _=>v= .pointer (some ⟨w2.heap.size,0,none⟩),fun v _=>v= .pointer (some ⟨w2.heap.size,0,none⟩),fun v _=>v= .pointer (some ⟨w2.heap.size,8,none⟩),fun v _=>v= .pointer (some ⟨m,0,none⟩),fun v _=>v= .pointer (some ⟨w.heap.size,1,none⟩),fun v _=>v= .int .i64 (c.Pg:Int),fun v _=>v= .pointer (some ⟨w.heap.size,1,none⟩),fun v _=>v= .int .i64 (c.Pg:Int),fun v _=>v= .pointer (some ⟨w.heap.size,3,none⟩),fun v _=>v= .int .i64 (c.Wd:Int),fun v _=>v= .int .i64 ((c.Pg+c.Wd:Nat):Int),fun v w'=>∃ub,v=(.tuple #[.pointer (some ⟨ub,0,none⟩),.int .i64 0])∧bM w' ub m c.Pg c.Pg (c.Pg+c.Wd)∧W5.heap.size≤ub,fun v w'=>∃ub,v=(.tuple #[.pointer (some ⟨ub,0,none⟩),.int .i64 0])∧bM w' ub m c.Pg c.Pg (c.Pg+c.Wd)∧W5.heap.size≤ub,fun v w'=>∃ub,v= .pointer (some ⟨ub,0,none⟩)∧bM w' ub m c.Pg c.Pg (c.Pg+c.Wd)∧W5.heap.size≤ub,fun v _=>True,fun v _=>v= .pointer (some ⟨w2.heap.size,0,none⟩),fun v _=>v= .pointer (some ⟨w2.heap.size,10,none⟩),fun v w'=>∃ub,(bM w' ub m c.Pg c.Pg (c.Pg+c.Wd)∧W5.heap.size≤ub)∧fT w' w2.heap.size c m rb ub none 0 0] (fun j=>false) (by kernel_rfl) (by kernel_rfl) (by kernel_rfl) (by kernel_rfl) rfl (fun _=>Fr.refl _ _) (fun _ _ h=>h.mono (fun _ h=>h.elim)) (fun _ _ _ h1 h2=>h1.trans h2 (fun _ h=>h.elim)) (fun _ _ _ h1 h2=>h1.trans h2 (fun _ h=>h.elim)) (fun _ _ _ h1 h2=>(h1.mono (fun _ h=>h.elim)).trans h2 (fun _ h=> .inl h)) (fun _ _ h=>h.size) ⟨fun _ _ _ h _=>h,fun _ _ _ h _=>h,fun _ _ _ h _=>h,fun _ _ _ h _=>h,fun _ _ _ h _=>h,fun _ _ _ h _=>h,fun _ _ _ h _=>h,fun _ _ _ h _=>h,fun _ _ _ h _=>h,fun _ _ _ h _=>h,fun _ _ _ h _=>h,fun _ _ _ h _=>h,fun v w1 w2 h hr=>let ⟨ub,e,h1,h2⟩:=h;⟨ub,e,ak.frame h1 hr (fun h=>h),h2⟩,fun v w1 w2 h hr=>let ⟨ub,e,h1,h2⟩:=h;⟨ub,e,ak.frame h1 hr (fun h=>h),h2⟩,fun v w1 w2 h hr=>let ⟨ub,e,h1,h2⟩:=h;⟨ub,e,ak.frame h1 hr (fun h=>h),h2⟩,fun _ _ _ h _=>h,fun _ _ _ h _=>h,fun _ _ _ h _=>h,fun v w1 w2 h hr=>let ⟨ub,⟨h1,h2⟩,h3⟩:=h;⟨ub,⟨ak.frame h1 hr (fun h=>h),h2⟩,ak.frame h3 hr (fun h=>h)⟩,trivial⟩ ⟨.inr (fun _ _ _ h _=>h),.inr (fun _ _ _ h _=>h),.inr (fun _ _ _ h _=>h),.inr (fun _ _ _ h _=>h),.inr (fun _ _ _ h _=>h),.inr (fun _ _ _ h _=>h),.inr (fun _ _ _ h _=>h),.inr (fun _ _ _ h _=>h),.inr (fun _ _ _ h _=>h),.inr (fun _ _ _ h _=>h),.inr (fun _ _ _ h _=>h),.inr (fun _ _ _ h _=>h),.inr (fun v w1 w2 h hr=>let ⟨ub,e,h1,h2⟩:=h;⟨ub,e,ak.frame h1 hr (fun e=>by have:=hhb5;omega),h2⟩),.inr (fun v w1 w2 h hr=>let ⟨ub,e,h1,h2⟩:=h;⟨ub,e,ak.frame h1 hr (fun e=>by have:=hhb5;omega),h2⟩),.inr (fun v w1 w2 h hr=>let ⟨ub,e,h1,h2⟩:=h;⟨ub,e,ak.frame h1 hr (fun e=>by have:=hhb5;omega),h2⟩),.inr (fun _ _ _ h _=>h),.inr (fun _ _ _ h _=>h),.inr (fun _ _ _ h _=>h),.inl rfl,trivial⟩ ?_;intro F hF;simp only [aS,List.take_succ_cons,List.take_zero,aa,ab,ac] at hF;subst hF;refine ⟨⟨fun vs w1 hw hw1 hd hx=> ?_,fun vs w1 hw hw1 hd hx=> ?_,fun vs w1 hw hw1 hd hx=> ?_,fun vs w1 hw hw1 hd hx=> ?_,fun vs w1 hw hw1 hd hx=> ?_,fun vs w1 hw hw1 hd hx=> ?_,fun vs w1 hw hw1 hd hx=> ?_,fun vs w1 hw hw1 hd hx=> ?_,fun vs w1 hw hw1 hd hx=> ?_,fun vs w1 hw hw1 hd hx=> ?_,fun vs w1 hw hw1 hd hx=> ?_,fun vs w1 hw hw1 hd hx=> ?_,fun vs w1 hw hw1 hd hx=> ?_,fun vs w1 hw hw1 hd hx=> ?_,fun vs w1 hw hw1 hd hx=> ?_,fun vs w1 hw hw1 hd hx=> ?_,fun vs w1 hw hw1 hd hx=> ?_,fun vs w1 hw hw1 hd hx=> ?_,fun vs w1 hw hw1 hd hx=> ?_,trivial⟩,?_⟩
  ·refine ai (.pointer (some ⟨w2.heap.size,0,none⟩)) ?_ ⟨rfl,Fr.refl _ _,fun h=>nomatch h⟩;go_simp
  ·refine ai (.pointer (some ⟨w2.heap.size,0,none⟩)) ?_ ⟨rfl,Fr.refl _ _,fun h=>nomatch h⟩;go_simp
  ·have h1:vs 1= .pointer (some ⟨w2.heap.size,0,none⟩):=hd 1 (by kernel_rfl);refine ai (.pointer (some ⟨w2.heap.size,0,none⟩)) ?_ ⟨rfl,Fr.refl _ _,fun h=>nomatch h⟩;go_simp
  ·have h2:vs 2= .pointer (some ⟨w2.heap.size,0,none⟩):=hd 2 (by kernel_rfl);refine ai (.pointer (some ⟨w2.heap.size,8,none⟩)) ?_ ⟨rfl,Fr.refl _ _,fun h=>nomatch h⟩;go_simp
  ·have h3:vs 3= .pointer (some ⟨w2.heap.size,8,none⟩):=hd 3 (by kernel_rfl);refine ai (.pointer (some ⟨m,0,none⟩)) ?_ ⟨rfl,Fr.refl _ _,fun h=>nomatch h⟩;have k8:=ak.cell (HHB5.out w1 (hw1 (by kernel_rfl))) 8 rfl;go_simp
  ·refine ai (.pointer (some ⟨w.heap.size,1,none⟩)) ?_ ⟨rfl,Fr.refl _ _,fun h=>nomatch h⟩;go_simp
  ·have h5:vs 5= .pointer (some ⟨w.heap.size,1,none⟩):=hd 5 (by kernel_rfl);refine ai (.int .i64 (c.Pg:Int)) ?_ ⟨rfl,Fr.refl _ _,fun h=>nomatch h⟩;have hbx:=HBX5.out w1 hw;have k1:=hbx.cell 1 rfl;go_simp
  ·refine ai (.pointer (some ⟨w.heap.size,1,none⟩)) ?_ ⟨rfl,Fr.refl _ _,fun h=>nomatch h⟩;go_simp
  ·have h7:vs 7= .pointer (some ⟨w.heap.size,1,none⟩):=hd 7 (by kernel_rfl);refine ai (.int .i64 (c.Pg:Int)) ?_ ⟨rfl,Fr.refl _ _,fun h=>nomatch h⟩;have hbx:=HBX5.out w1 hw;have k1:=hbx.cell 1 rfl;go_simp
  ·refine ai (.pointer (some ⟨w.heap.size,3,none⟩)) ?_ ⟨rfl,Fr.refl _ _,fun h=>nomatch h⟩;go_simp
  ·have h9:vs 9= .pointer (some ⟨w.heap.size,3,none⟩):=hd 9 (by kernel_rfl);refine ai (.int .i64 (c.Wd:Int)) ?_ ⟨rfl,Fr.refl _ _,fun h=>nomatch h⟩;have hbx:=HBX5.out w1 hw;have k3:=hbx.cell 3 rfl;go_simp
  ·have h8:vs 8= .int .i64 (c.Pg:Int):=hd 8 (by kernel_rfl);have h10:vs 10= .int .i64 (c.Wd:Int):=hd 10 (by kernel_rfl);refine ai (.int .i64 ((c.Pg+c.Wd:Nat):Int)) ?_ ⟨rfl,Fr.refl _ _,fun h=>nomatch h⟩;have hwrp:IntKind.i64.wrap ((c.Pg:Int)+(c.Wd:Int))=(c.Pg:Int)+(c.Wd:Int):=by rw [IntKind.wrap_i64];omega
   go_simp
  ·have h4:vs 4= .pointer (some ⟨m,0,none⟩):=hd 4 (by kernel_rfl);have h6:vs 6= .int .i64 (c.Pg:Int):=hd 6 (by kernel_rfl);have h11:vs 11= .int .i64 ((c.Pg+c.Wd:Nat):Int):=hd 11 (by kernel_rfl);have HW:=hw1 (by kernel_rfl);refine ay 121 #[m,.int .i64 (c.Pg:Int),.int .i64 ((c.Pg+c.Wd:Nat):Int)] (by go_simp) ((HBN.out w1 HW).mono ?_);rintro e w5 ⟨ub,rfl,h1,h2,h3⟩;exact ⟨_,rfl,⟨ub,rfl,h1,Nat.le_trans HW.size h2⟩,h3,fun h=>nomatch h⟩
  ·have h12:=hd 12 (by kernel_rfl);obtain ⟨ub,a1,a2,a3⟩:=h12;refine ai (.tuple #[ub,.int .i64 0]) (by go_simp) ⟨⟨ub,rfl,a2,a3⟩,Fr.refl _ _,fun h=>nomatch h⟩
  ·have h13:=hd 13 (by kernel_rfl);obtain ⟨ub,a1,a2,a3⟩:=h13;refine ai (.pointer (some ⟨ub,0,none⟩)) (by go_simp) ⟨⟨ub,rfl,a2,a3⟩,Fr.refl _ _,fun h=>nomatch h⟩
  ·have h13:=hd 13 (by kernel_rfl);obtain ⟨ub,a1,a2,a3⟩:=h13;refine ai (.int .i64 0) (by go_simp) ⟨trivial,Fr.refl _ _,fun h=>nomatch h⟩
  ·have h0:vs 0= .pointer (some ⟨w2.heap.size,0,none⟩):=hd 0 (by kernel_rfl);refine ai (.pointer (some ⟨w2.heap.size,0,none⟩)) ?_ ⟨rfl,Fr.refl _ _,fun h=>nomatch h⟩;go_simp
  ·have h16:vs 16= .pointer (some ⟨w2.heap.size,0,none⟩):=hd 16 (by kernel_rfl);refine ai (.pointer (some ⟨w2.heap.size,10,none⟩)) ?_ ⟨rfl,Fr.refl _ _,fun h=>nomatch h⟩;go_simp
  ·have h17:vs 17= .pointer (some ⟨w2.heap.size,10,none⟩):=hd 17 (by kernel_rfl);have h14:=hd 14 (by kernel_rfl);obtain ⟨ub,a1,a2,a3⟩:=h14;have HW:=hw1 (by kernel_rfl);have hb1:=HHB5.out w1 HW;have k10:=ak.cell hb1 10 rfl;have f10:=ak.free hb1 10;have hfs:=(Fr.refl (fun k=>k=w2.heap.size) w1).setCell ⟨w2.heap.size,10,none⟩ (.inl rfl) (.pointer (some ⟨ub,0,none⟩));refine cl (w':=w1.setCell ⟨w2.heap.size,10,none⟩ (.pointer (some ⟨ub,0,none⟩))) (by go_simp) ⟨⟨ub,⟨ak.frame a2 hfs (fun e=>by have h9:ub=w2.heap.size:=e;have:=hhb5;omega),a3⟩,hb1.set 10 _⟩,hfs,fun h=>nomatch h⟩
  intro vs5 w6 hw6 hp hx;obtain ⟨g0,g1,g2,g3,g4,g5,g6,g7,g8,g9,g10,g11,g12,g13,g14,g15,g16,g17,g18,_⟩:=hp;obtain ⟨ub,⟨b1,b2⟩,b3⟩:=g18;clear g0 g1 g2 g3 g4 g5 g6 g7 g8 g9 g10 g11 g12 g13 g14 g15 g16 g17 hx;simp only [List.drop_succ_cons,List.drop_zero];have hfin:qO c A w (.returned (.tuple #[.pointer (some ⟨w2.heap.size,0,none⟩),.int .i64 0])) w6:=by
   obtain ⟨g1,g2,g4,r1,r2,r3,r4,hfs,hm5,hr5,hz4,hz5,hz6⟩:=H9.out;have hf56:Fr (fun k=>k=w2.heap.size) W5 w6:=((Fr.refl (fun k=>k=w2.heap.size) W5).drew).trans hw6 (fun _ h=> .inl h);have hzw:=HF2.out.size;have hfall:Fr (fun _=>False) w w6:=(((HF4.out.trans g4 (fun k hk=> .inr (by have h9:k=w2.heap.size:=hk;omega))).trans r4 (fun _ h=>h.elim)).trans hfs (fun k hk=> .inr (by have h9:k=w2.heap.size:=hk;omega))).trans hf56 (fun k hk=> .inr (by have h9:k=w2.heap.size:=hk;omega));refine kC (w4:=W4) (w5:=w1) (w6:=W5) HC.out HT.out g2 hzw hhb (fun k hk=>(aF _ _ _ _ _ _ _).lt (fun _=>0) S w1 ⟨_,g1,fun _ _=>rfl⟩ k hk) r2 r3 hr5.blk.lt hr5.row.lt b2 hz4 (by omega) (hm5.frame hf56 (fun k hk e=>by have h9:k=w2.heap.size:=e;have:=g2 k hk;omega)) (hr5.frame hf56 (fun e=>by omega) (fun e=>by omega)) b1 b3 hfall
  rw [HQ.out] at hfin;have H:=ae hfin;clear hfin b1 b2 b3 H9 hw6 HBX5 HHB5 HBN hsum;go_wp2;exact H.out
end
section
variable {v0 v1 v2 v3 v4 v5 v6:Int} {tr:Nat}
theorem dp {w:World} {b:Nat} {t:TypeId} (h:ak w b [.int .i64 v0,.int .i64 v1,.int .i64 v2,.int .i64 v3,.int .i64 v4,.int .i64 v5,.int .i64 v6,.float .f64 tr] t):w.cell? ⟨b,0,none⟩=some (.int .i64 v0)∧w.cell? ⟨b,1,none⟩=some (.int .i64 v1)∧w.cell? ⟨b,2,none⟩=some (.int .i64 v2)∧w.cell? ⟨b,3,none⟩=some (.int .i64 v3)∧w.cell? ⟨b,4,none⟩=some (.int .i64 v4)∧w.cell? ⟨b,5,none⟩=some (.int .i64 v5)∧w.cell? ⟨b,6,none⟩=some (.int .i64 v6)∧w.cell? ⟨b,7,none⟩=some (.float .f64 tr):=
 ⟨h.cell 0 rfl,h.cell 1 rfl,h.cell 2 rfl,h.cell 3 rfl,h.cell 4 rfl,h.cell 5 rfl,h.cell 6 rfl,h.cell 7 rfl⟩
theorem vU (b1:v1≤9223372036854775807) (b2:v2≤9223372036854775807) (b3:v3≤9223372036854775807) (hno:¬∃c,cM c∧d8 v0 v1 v2 v3 v4 v5 v6 tr=j4 c) (w:World):Calls Tryz.prog 49 #[d8 v0 v1 v2 v3 v4 v5 v6 tr] w fun e w'=>e= .returned (.tuple #[.pointer none,.int .i64 22])∧Fr (fun _=>False) w w':=by
 obtain ⟨W1,hW1⟩:∃W1,w.alloc (.cells #[.int .i64 v0,.int .i64 v1,.int .i64 v2,.int .i64 v3,.int .i64 v4,.int .i64 v5,.int .i64 v6,.float .f64 tr] 24)=W1:=⟨_,rfl⟩;have hf1:Fr (fun _=>False) w W1:=by rw [←hW1];exact (Fr.refl _ w).alloc _
 have hb1:ak W1 w.heap.size [.int .i64 v0,.int .i64 v1,.int .i64 v2,.int .i64 v3,.int .i64 v4,.int .i64 v5,.int .i64 v6,.float .f64 tr] 24:=by rw [←hW1];exact ak.new w _ _
 obtain ⟨k0,k1,k2,k3,k4,k5,k6,k7⟩:=dp hb1;have HCK:=ae (rA b1 b2 b3 hno W1);have HF1:=ae hf1;clear b1 b2 b3 hno hf1 hb1;unfold d8 at HCK ⊢;have HQ:Hid (∀w',Fr (fun _=>False) w w'→(fun e w'=>e=Ending.returned (.tuple #[.pointer none,.int .i64 22])∧Fr (fun _=>False) w w') (.returned (.tuple #[.pointer none,.int .i64 22])) w'):=ae (fun w' h=>⟨rfl,h⟩);generalize (fun e w'=>e=Ending.returned (.tuple #[.pointer none,.int .i64 22])∧Fr (fun _=>False) w w')=Q at*
 go_enter Tryz.func49,Tryz.ntmps49
 go_wp2_with fail
 refine (HCK.out).mono ?_;rintro e w2 ⟨rfl,hf2⟩;have HF2:=ae (HF1.out.trans hf2 (fun _ h=>h.elim));clear HCK hf2 HF1 hW1 k0 k1 k2 k3 k4 k5 k6 k7;have H:=ae (HQ.out w2 HF2.out);clear HQ HF2;go_wp2;exact H.out
end
def dS (k:Nat):Cf:=⟨k,4,4,16,3,2,1,4607182418800017408⟩
theorem wE {k:Nat} (h1:1≤k) (h2:k≤3):cM (dS k):=by
 refine ⟨?_,?_,?_,?_,?_,?_,?_,?_,?_,?_,?_,?_,?_,?_,?_,?_,?_⟩
 ·show k=1∨k=2∨k=3;omega
 ·exact (cZ _).2 ⟨2,by decide,rfl⟩
 ·show 1≤4;omega
 ·show 4≤256;omega
 ·exact (cZ _).2 ⟨2,by decide,rfl⟩
 ·show 1≤4;omega
 ·show 4≤1024;omega
 ·exact (cZ _).2 ⟨4,by decide,rfl⟩
 ·show 16≤16;omega
 ·show 16≤131072;omega
 ·show 4≤16;omega
 ·show 1≤3;omega
 ·show 3≤64;omega
 ·show 1≤2;omega
 ·show 2≤4096;omega
 ·show 1≤16;omega
 ·obtain rfl|rfl|rfl:k=1∨k=2∨k=3:=by omega
  ·decide
  ·decide
  ·decide
theorem rD (k:Nat) (w:World):Calls Tryz.prog 59 #[.int .i64 k] w fun e w'=>e= .returned (j4 (dS k))∧Fr (fun _=>False) w w':=by
 have hv:j4 (dS k)= .agg #[.int .i64 k,.int .i64 4,.int .i64 4,.int .i64 16,.int .i64 3,.int .i64 2,.int .i64 1,.float .f64 4607182418800017408]:=rfl;rw [hv];clear hv;have HS8:Hid ((Tryz.prog.info? 24).map (·.size)=some 8):=by show _=_;kernel_rfl
 have HON:Hid ((#[.int .i64 k,.int .i64 4,.int .i64 4,.int .i64 16,.int .i64 3,.int .i64 2,.int .i64 1,.float .f64 4607182418800017408]:Array Value).all (·.oneCell')=true):=ae (Go.all_oneCell_toArray (cs:=[.int .i64 k,.int .i64 4,.int .i64 4,.int .i64 16,.int .i64 3,.int .i64 2,.int .i64 1,.float .f64 4607182418800017408]) (fun v hv=>by simp only [List.mem_cons,List.not_mem_nil,or_false] at hv;rcases hv with rfl|rfl|rfl|rfl|rfl|rfl|rfl|rfl<;>rfl))
 go_enter Tryz.func59,Tryz.ntmps59
 go_wp2_with (refine wpList_store_row rfl 24 _ _ rfl w.heap.size #[.int .i64 k,.int .i64 4,.int .i64 4,.int .i64 16,.int .i64 3,.int .i64 2,.int .i64 1,.float .f64 4607182418800017408] rfl rfl 24 _ (heap_alloc_new _ _) HS8.out rfl HON.out ?_)
 generalize hW2:(World.alloc w _).setRow w.heap.size _=W2;have hb2:ak W2 w.heap.size [.int .i64 k,.int .i64 4,.int .i64 4,.int .i64 16,.int .i64 3,.int .i64 2,.int .i64 1,.float .f64 4607182418800017408] 24:=by rw [←hW2];exact setRow_heap _ _ _ _ _ _ (heap_alloc_new w _)
 have hf2:Fr (fun _=>False) w W2:=by
  rw [←hW2];exact ((Fr.refl _ w).alloc _).trans (S':=fun i=>i=w.heap.size) ⟨rfl,rfl,rfl,by simp,fun i _ h=>setRow_other _ _ _ _ (fun e=>h e)⟩ (fun i h=> .inr (by omega))
 refine bodyPost_ret (ff rfl _ _ _ _ _ _ _ rfl hb2 Tryz.underlying24 rfl HS8.out) rfl ?_;exact ⟨rfl,hf2⟩
section
variable {b:Nat} {c:Cf} {A A':AG} {rs rs' l l':List Nat} {T T':Nat→Prop} {w w':World}
theorem iW {x:Nat}:∀{l:List Nat},x∈l→x≤l.sum
 |y::l,h=>by
  rw [List.sum_cons];rcases List.mem_cons.1 h with rfl|h
  ·omega
  ·have:=iW h;omega
theorem oH (hA:∀x,A.np x=0) (z:Nat):Reach A.gr rs z↔z∈rs∧z≠0:=by
 constructor
 ·intro h
  induction h with
  |root h1 h2=>exact ⟨h1,h2⟩
  |step _ h2 _ _=>
   have h3:∀y,A.gr.ptrs y=[]:=fun y=>by unfold AG.gr;dsimp only;rw [hA];rfl
   rw [h3] at h2;cases h2
 ·rintro ⟨h1,h2⟩;exact .root h1 h2
theorem oG (hA:∀x,A.np x=0) (hn:l.Nodup) (hl:∀x,x∈l↔x∈rs∧x≠0):aL A rs l:=⟨hn,fun x=>(hl x).trans (oH hA x).symm⟩
def cO (b:Nat) (c:Cf) (A:AG) (rs:List Nat) (xb:Nat) (cs:List Value) (t:TypeId) (w0 w:World):Prop:=∃u n T,b8 b c A rs u n T w∧(∀k,T k→w0.heap.size≤k)∧¬T xb∧ak w xb cs t∧Fr (fun _=>False) w0 w
theorem cO.next {xb:Nat} {cs:List Value} {t:TypeId} {w0:World} {u n:Nat} (h0:∀k,T k→w0.heap.size≤k) (h1:¬T xb) (h2:ak w xb cs t) (h3:Fr (fun _=>False) w0 w) (hi:b8 b c A' rs' u n T' w') (hf:Fr T w w') (ht:∀k,T' k→T k∨w.heap.size≤k):cO b c A' rs' xb cs t w0 w':=by
 have hz:=h3.size;have hl:=h2.lt;exact ⟨u,n,T',hi,fun k hk=>(ht k hk).elim (h0 k) (fun h=>by omega),fun hx=>(ht _ hx).elim h1 (fun h=>by omega),h2.frame hf h1,h3.trans hf (fun k hk=> .inr (h0 k hk))⟩
theorem cO.blk {xb:Nat} {cs:List Value} {t:TypeId} {w0:World} (h:cO b c A rs xb cs t w0 w):ak w xb cs t:=let ⟨_,_,_,_,_,_,h,_⟩:=h;h
theorem cO.fr {xb:Nat} {cs:List Value} {t:TypeId} {w0:World} (h:cO b c A rs xb cs t w0 w):Fr (fun _=>False) w0 w:=let ⟨_,_,_,_,_,_,_,h⟩:=h;h
theorem cO.alloc {xb s k p f g:Nat} {cs:List Value} {t:TypeId} {w0:World} (h:cO b c A rs xb cs t w0 w) (hl:aL A rs l) (hs:s<c.Sl) (ho:bw p f g) (hk0:k≠0) (hkn:¬Reach A.gr rs k) (hfit:A.Wd l+(1+(p+f+g))≤c.Wd):Calls Tryz.prog 11 #[b,.int .i64 s,bP p f g] w fun e w'=>e= .returned (.int .i64 0)∧cO b c (A.new k p f g) (rs.set s k) xb cs t w0 w':=by
 obtain ⟨u,n,T,h1,h2,h3,h4,h5⟩:=h;refine (ek h1 hl hs ho hk0 hkn).mono ?_;rintro e w' (⟨_,rfl,u',n',T',g1,g2,g3⟩|⟨g0,_⟩)
 ·exact ⟨rfl,cO.next h2 h3 h4 h5 g1 g2 g3⟩
 ·omega
theorem cO.full {xb s p f g:Nat} {cs:List Value} {t:TypeId} {w0:World} (h:cO b c A rs xb cs t w0 w) (hl:aL A rs l) (hs:s<c.Sl) (ho:bw p f g) (hfit:c.Wd<A.Wd l+(1+(p+f+g))):Calls Tryz.prog 11 #[b,.int .i64 s,bP p f g] w fun e w'=>e= .returned (.int .i64 21)∧cO b c A rs xb cs t w0 w':=by
 obtain ⟨u,n,T,h1,h2,h3,h4,h5⟩:=h;obtain ⟨k,hk0,hkn⟩:∃k,k≠0∧¬Reach A.gr rs k:=by
  refine ⟨l.sum+1,by omega,fun hr=> ?_⟩;have hm:=(hl.2 _).2 hr;have:l.sum+1≤l.sum:=iW hm;omega
 refine (ek h1 hl hs ho hk0 hkn).mono ?_;rintro e w' (⟨g0,_⟩|⟨_,rfl,u',n',T',g1,g2,g3⟩)
 ·omega
 ·exact ⟨rfl,cO.next h2 h3 h4 h5 g1 g2 g3⟩
theorem cO.clear {xb s:Nat} {cs:List Value} {t:TypeId} {w0:World} (h:cO b c A rs xb cs t w0 w) (hs:s<c.Sl):Calls Tryz.prog 14 #[b,.int .i64 s] w fun e w'=>e= .returned (.int .i64 0)∧cO b c A (rs.set s 0) xb cs t w0 w':=by
 obtain ⟨u,n,T,h1,h2,h3,h4,h5⟩:=h;refine (kB h1 hs).mono ?_;rintro e w' ⟨rfl,u',n',T',g1,g2,g3⟩;exact ⟨rfl,cO.next h2 h3 h4 h5 g1 g2 g3⟩
end
def A7:AG:=⟨fun _=>0,fun _=>0,fun _=>7,fun _ _=>0⟩
theorem te (k:Nat):A7.new k 0 0 7=A7:=by
 unfold AG.new A7;congr 1<;>funext y<;>simp
theorem gm (l:List Nat):A7.Wd l=8*l.length:=by
 unfold AG.Wd
 induction l with
 |nil=>rfl
 |cons x l ih=>rw [List.map_cons,List.sum_cons,ih,List.length_cons];show 1+(0+0+7)+_=_;omega
theorem yH:bw ((0:Nat):Int) ((0:Nat):Int) ((7:Nat):Int):=by unfold bw;omega
theorem na {k b xb:Nat} {t:TypeId} {w0:World} (h1:1≤k) (h2:k≤3):
  (∀w,cO b (dS k) A7 [0,0,0] xb [.int .i64 0,.int .i64 0,.int .i64 7] t w0 w→Calls Tryz.prog 11 #[b,.int .i64 0,.agg #[.int .i64 0,.int .i64 0,.int .i64 7]] w fun e w'=>e= .returned (.int .i64 0)∧cO b (dS k) A7 [1,0,0] xb [.int .i64 0,.int .i64 0,.int .i64 7] t w0 w')∧
  (∀w,cO b (dS k) A7 [1,0,0] xb [.int .i64 0,.int .i64 0,.int .i64 7] t w0 w→Calls Tryz.prog 11 #[b,.int .i64 1,.agg #[.int .i64 0,.int .i64 0,.int .i64 7]] w fun e w'=>e= .returned (.int .i64 0)∧cO b (dS k) A7 [1,2,0] xb [.int .i64 0,.int .i64 0,.int .i64 7] t w0 w')∧
  (∀w,cO b (dS k) A7 [1,2,0] xb [.int .i64 0,.int .i64 0,.int .i64 7] t w0 w→Calls Tryz.prog 11 #[b,.int .i64 2,.agg #[.int .i64 0,.int .i64 0,.int .i64 7]] w fun e w'=>e= .returned (.int .i64 21)∧cO b (dS k) A7 [1,2,0] xb [.int .i64 0,.int .i64 0,.int .i64 7] t w0 w')∧
  (∀w,cO b (dS k) A7 [1,2,0] xb [.int .i64 0,.int .i64 0,.int .i64 7] t w0 w→Calls Tryz.prog 14 #[b,.int .i64 0] w fun e w'=>e= .returned (.int .i64 0)∧cO b (dS k) A7 [0,2,0] xb [.int .i64 0,.int .i64 0,.int .i64 7] t w0 w')∧
  (∀w,cO b (dS k) A7 [0,2,0] xb [.int .i64 0,.int .i64 0,.int .i64 7] t w0 w→Calls Tryz.prog 11 #[b,.int .i64 2,.agg #[.int .i64 0,.int .i64 0,.int .i64 7]] w fun e w'=>e= .returned (.int .i64 0)∧Fr (fun _=>False) w0 w'):=by
 have hnp:∀x,A7.np x=0:=fun _=>rfl
 have hl:∀rs l,l.Nodup→(∀x,x∈l↔x∈rs∧x≠0)→aL A7 rs l:=fun rs l hn h=>oG hnp hn h
 have l0:aL A7 [0,0,0] []:=hl _ _ .nil (fun x=>by simp);have l1:aL A7 [1,0,0] [1]:=hl _ _ (by simp) (fun x=>by simp;omega);have l2:aL A7 [1,2,0] [1,2]:=hl _ _ (by simp) (fun x=>by simp;omega);have l3:aL A7 [0,2,0] [2]:=hl _ _ (by simp) (fun x=>by simp;omega);refine ⟨fun w h=> ?_,fun w h=> ?_,fun w h=> ?_,fun w h=> ?_,fun w h=> ?_⟩
 ·have:=h.alloc (s:=0) (k:=1) l0 (show 0<3 by omega) yH (by omega) (fun hr=>by have:=(l0.2 _).2 hr;simp at this) (by rw [gm];show 0+_≤16;omega);rw [te] at this;exact this
 ·have:=h.alloc (s:=1) (k:=2) l1 (show 1<3 by omega) yH (by omega) (fun hr=>by have:=(l1.2 _).2 hr;simp at this) (by rw [gm];show 8+_≤16;omega);rw [te] at this;exact this
 ·exact h.full (s:=2) l2 (show 2<3 by omega) yH (by rw [gm];show 16<16+_;omega)
 ·exact h.clear (s:=0) (show 0<3 by omega)
 ·have:=h.alloc (s:=2) (k:=1) l3 (show 2<3 by omega) yH (by omega) (fun hr=>by have:=(l3.2 _).2 hr;simp at this) (by rw [gm];show 8+_≤16;omega);exact this.mono (fun e w' h=>⟨h.1,h.2.fr⟩)
theorem jt (w:World) (hT:bu w):Calls Tryz.prog 12 #[] w fun e w'=>e= .returned (.bool true)∧Fr (fun _=>False) w w':=by
 have HSO:=ae rD;have HNW:=ae (fun (k:Nat) (h1:1≤k) (h2:k≤3) (w1:World) (hf:Fr (fun _=>False) w w1)=>qp (wE h1 h2) (an hT hf (fun h=>h)) A7);have HV0:Hid (∀(k b:Nat) (w1 w2:World),qO (dS k) A7 w1 (.returned (.tuple #[.pointer (some ⟨b,0,none⟩),.int .i64 0])) w2→True):=ae (fun _ _ _ _ _=>trivial);have HF0:=ae (Fr.refl (fun _=>False) w);clear hT HV0;have HQ:Hid (∀w',Fr (fun _=>False) w w'→(fun e w'=>e=Ending.returned (.bool true)∧Fr (fun _=>False) w w') (.returned (.bool true)) w'):=ae (fun w' h=>⟨rfl,h⟩);generalize (fun e w'=>e=Ending.returned (.bool true)∧Fr (fun _=>False) w w')=Q at*
 go_enter Tryz.func12,Tryz.ntmps12
 go_wp2
 go_loopw [1] (fun x wr=>∃k:Nat,x= .int .i64 k∧1≤k∧k≤4∧Hid (Fr (fun _=>False) w wr)) (fun x _=>(5-intOf x).toNat)
 case atStart=>exact ⟨1,rfl,by omega,by omega,HF0⟩
 case round=>
  clear HF0;obtain ⟨k,rfl,hk1,hk4,hfr⟩:=hrel;by_cases hk:k≤3
  ·have c1:(k:Int)≤3:=by omega
   have HS1:=ae (HSO.out k wr);go_wp2_with fail
   refine (HS1.out).mono ?_;rintro e w1 ⟨rfl,hf1⟩;have HN1:=ae (HNW.out k hk1 hk w1 (hfr.out.trans hf1 (fun _ h=>h.elim)));have HF1:=ae (hfr.out.trans hf1 (fun _ h=>h.elim));have HK:=ae (af hk1 hk);clear HS1 hf1 HNW HSO hk1 hk4 hk;go_wp2_with fail
   refine (HN1.out).mono ?_;rintro e w2 ⟨b,T,rfl,hi,hT,hf2⟩;obtain ⟨W3,hW3⟩:∃W3,w2.alloc (.cells #[.int .i64 0,.int .i64 0,.int .i64 7] 31)=W3:=⟨_,rfl⟩;have hf3:Fr (fun _=>False) w2 W3:=by rw [←hW3];exact (Fr.refl _ w2).alloc _
   have hb3:ak W3 w2.heap.size [.int .i64 0,.int .i64 0,.int .i64 7] 31:=by rw [←hW3];exact ak.new w2 _ _
   have hv:cO b (dS k) A7 [0,0,0] w2.heap.size [.int .i64 0,.int .i64 0,.int .i64 7] 31 w1 W3:=⟨0,0,T,hi.keep hf3,hT,fun h=>by have:=hi.lt _ h;omega,hb3,hf2.trans hf3 (fun _ h=>h.elim)⟩;obtain ⟨q1,q2,q3,q4,q5⟩:=na (b:=b) (xb:=w2.heap.size) (t:=31) (w0:=w1) HK.out.1 HK.out.2;have HC1:=ae (q1 W3 hv);have HC:=ae (af q2 (af q3 (af q4 q5)));obtain ⟨c0,c1',c2⟩:=ch hb3;clear HN1 hi hT hf2 hf3 hb3 hv q1 q2 q3 q4 q5;go_wp2_with fail
   refine (HC1.out).mono ?_;rintro e w3 ⟨rfl,hv⟩;obtain ⟨c0,c1',c2⟩:=ch hv.blk;have HC2:=ae (HC.out.1 w3 hv);clear HC1 hv hW3;go_wp2_with fail
   refine (HC2.out).mono ?_;rintro e w4 ⟨rfl,hv⟩;obtain ⟨c0,c1',c2⟩:=ch hv.blk;have HC3:=ae (HC.out.2.1 w4 hv);clear HC2 hv;go_wp2_with fail
   refine (HC3.out).mono ?_;rintro e w5 ⟨rfl,hv⟩;have HC4:=ae (HC.out.2.2.1 w5 hv);clear HC3 hv;go_wp2_with fail
   refine (HC4.out).mono ?_;rintro e w6 ⟨rfl,hv⟩;obtain ⟨c0,c1',c2⟩:=ch hv.blk;have HC5:=ae (HC.out.2.2.2 w6 hv);clear HC4 hv HC;go_wp2_with fail
   refine (HC5.out).mono ?_;rintro e w7 ⟨rfl,hf7⟩;have HF7:=ae (HF1.out.trans hf7 (fun _ h=>h.elim));clear HC5 hf7 HF1 hfr;go_wp2;go_roundw
   case rel=>exact ⟨k+1,by go_num,by omega,by have:=HK.out.2;omega,HF7⟩
   case measure=>simp [intOf];have:=HK.out;omega
  ·have c1:¬(k:Int)≤3:=by omega
   have H:=ae (HQ.out wr hfr.out);clear HNW HSO hk1 hk4 hk HQ hfr;go_wp2;exact H.out
section
variable {v0 v1 v2 v3 v4 v5 v6:Int} {tr n cp:Nat} {p:Option Addr} {w:World}
theorem tR (w:World) (p:Option Addr) (n cp:Nat):Calls Tryz.prog 48 #[d8 v0 v1 v2 v3 v4 v5 v6 tr,.slice p n cp] w fun e w'=>e= .returned (.bool (decide (2048<v3)||decide ((120:Int)<(n:Int))))∧Fr (fun _=>False) w w':=by
 obtain ⟨W1,hW1⟩:∃W1,w.alloc (.cells #[.int .i64 v0,.int .i64 v1,.int .i64 v2,.int .i64 v3,.int .i64 v4,.int .i64 v5,.int .i64 v6,.float .f64 tr] 24)=W1:=⟨_,rfl⟩;have hf1:Fr (fun _=>False) w W1:=by rw [←hW1];exact (Fr.refl _ w).alloc _
 have hb1:ak W1 w.heap.size [.int .i64 v0,.int .i64 v1,.int .i64 v2,.int .i64 v3,.int .i64 v4,.int .i64 v5,.int .i64 v6,.float .f64 tr] 24:=by rw [←hW1];exact ak.new w _ _
 have k3:=hb1.cell 3 rfl;have HF1:=ae hf1;clear hf1 hb1;unfold d8;by_cases h1:2048<v3
 ·rw [decide_eq_true h1,Bool.true_or]
  go_enter Tryz.func48,Tryz.ntmps48
  go_wp2;go_ret;exact ⟨rfl,HF1.out⟩
 ·rw [decide_eq_false h1,Bool.false_or];have hd:decide (2048<v3)=false:=decide_eq_false h1;obtain ⟨N,hN⟩:∃N:Int,N=(n:Int):=⟨_,rfl⟩
  go_enter Tryz.func48,Tryz.ntmps48
  go_wp2;go_ret;exact ⟨rfl,HF1.out⟩
def vx (v0 v1 v2 v3 v4 v5 v6:Int) (tr n:Nat) (A:AG) (w:World) (e:Ending) (w':World):Prop:=
 (e= .returned (.pointer none)∧Fr (fun _=>False) w w')∨(∃c b T,cM c∧d8 v0 v1 v2 v3 v4 v5 v6 tr=j4 c∧v3≤2048∧n≤120∧e= .returned (.pointer (some ⟨b,0,none⟩))∧b8 b c A (List.replicate c.Sl 0) 0 0 T w'∧(∀k,T k→w.heap.size≤k)∧Fr (fun _=>False) w w')
theorem mQ (b1:v1≤9223372036854775807) (b2:v2≤9223372036854775807) (b3:v3≤9223372036854775807) (hT:bu w) (A:AG) (p:Option Addr) (n cp:Nat):Calls Tryz.prog 10 #[d8 v0 v1 v2 v3 v4 v5 v6 tr,.slice p n cp] w (vx v0 v1 v2 v3 v4 v5 v6 tr n A w):=by
 obtain ⟨W1,hW1⟩:∃W1,w.alloc (.cells #[.int .i64 v0,.int .i64 v1,.int .i64 v2,.int .i64 v3,.int .i64 v4,.int .i64 v5,.int .i64 v6,.float .f64 tr] 24)=W1:=⟨_,rfl⟩;have hf1:Fr (fun _=>False) w W1:=by rw [←hW1];exact (Fr.refl _ w).alloc _
 have hb1:ak W1 w.heap.size [.int .i64 v0,.int .i64 v1,.int .i64 v2,.int .i64 v3,.int .i64 v4,.int .i64 v5,.int .i64 v6,.float .f64 tr] 24:=by rw [←hW1];exact ak.new w _ _
 obtain ⟨k0,k1,k2,k3,k4,k5,k6,k7⟩:=dp hb1;have HFA:=ae (tR (v0:=v0) (v1:=v1) (v2:=v2) (v3:=v3) (v4:=v4) (v5:=v5) (v6:=v6) (tr:=tr) W1 p n cp);have HBX:=ae (fun w2 (hf:Fr (fun _=>False) W1 w2)=>dp (hb1.frame hf (fun h=>h)));have HF1:=ae hf1;have HNO:Hid (∀w',Fr (fun _=>False) w w'→vx v0 v1 v2 v3 v4 v5 v6 tr n A w (.returned (.pointer none)) w'):=ae (fun w' h=> .inl ⟨rfl,h⟩);have HNW:Hid (v3≤2048→n≤120→∀w1,Fr (fun _=>False) w w1→Calls Tryz.prog 49 #[d8 v0 v1 v2 v3 v4 v5 v6 tr] w1 fun e w'=>∃pv ev:Value,e= .returned (.tuple #[pv,ev])∧vx v0 v1 v2 v3 v4 v5 v6 tr n A w (.returned pv) w'):=by
  show v3≤2048→n≤120→∀w1,_
  intro g1 g2 w1 hf;by_cases hc:∃c,cM c∧d8 v0 v1 v2 v3 v4 v5 v6 tr=j4 c
  ·obtain ⟨c,hc,he⟩:=hc;have hh:=qp hc (an hT hf (fun h=>h)) A;rw [←he] at hh;refine hh.mono ?_;rintro e w' ⟨b,T,rfl,f1,f2,f3⟩;exact ⟨_,_,rfl,.inr ⟨c,b,T,hc,he,g1,g2,rfl,f1,fun k hk=>Nat.le_trans hf.size (f2 k hk),hf.trans f3 (fun _ h=>h.elim)⟩⟩
  ·refine (vU b1 b2 b3 hc w1).mono ?_;rintro e w' ⟨rfl,f3⟩;exact ⟨_,_,rfl,.inl ⟨rfl,hf.trans f3 (fun _ h=>h.elim)⟩⟩
 clear b1 b2 b3 hT hf1 hb1;unfold d8 at HFA HNW ⊢;generalize (vx v0 v1 v2 v3 v4 v5 v6 tr n A w)=Q at*
 go_enter Tryz.func10,Tryz.ntmps10
 go_wp2_with fail
 refine (HFA.out).mono ?_;rintro e w2 ⟨rfl,hf2⟩;obtain ⟨k0,k1,k2,k3,k4,k5,k6,k7⟩:=HBX.out w2 hf2;have hf02:=HF1.out.trans hf2 (fun _ h=>h.elim)
 cases hB:(decide (2048<v3)||decide ((120:Int)<(n:Int))) with
 |true=>
  have H:=ae (HNO.out w2 hf02);clear HFA HBX HF1 HNO HNW hf2 hf02 hB hW1;go_wp2;exact H.out
 |false=>
  rw [Bool.or_eq_false_iff,decide_eq_false_iff_not,decide_eq_false_iff_not] at hB;have HN2:=ae (HNW.out (by omega) (by omega) w2 hf02);clear HFA HBX HF1 HNO HNW hf2 hf02 hB hW1;go_wp2_with fail
  refine (HN2.out).mono ?_;rintro e w3 ⟨pv,ev,rfl,hq⟩;have H:=ae hq;clear HN2 hq k0 k1 k2 k3 k4 k5 k6 k7;go_wp2;exact H.out
end
end Go.Proofs.YthahbijbpinneaaGreatDoor
