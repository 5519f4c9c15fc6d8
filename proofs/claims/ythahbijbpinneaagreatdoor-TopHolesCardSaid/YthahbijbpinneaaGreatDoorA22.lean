import Derived.Test.YthahbijbpinneaaGreatDoorA16
import Derived.Test.YthahbijbpinneaaGreatDoorA21
set_option maxRecDepth 100000
set_option maxHeartbeats 8000000
set_option linter.all false
namespace Go.Proofs.YthahbijbpinneaaGreatDoor
open Go.RowKit
section
variable {b u n Ba ub m rb rg:Nat} {h:Hp} {c:Cf} {A:AG} {rs l0:List Nat} {T S:Nat→Prop} {φ L:Nat→Nat} {ns bs:Int} {w w1 w5 w6 w' w'':World}
def sR (b:Nat) (c:Cf) (A:AG) (rs:List Nat) (N:Nat) (T:Nat→Prop) (w w8:World):Prop:=∃T1,b8 b c A rs N 0 T1 w8∧Fr T w w8∧∀k,T1 k→T k∨w.heap.size≤k
def xd (b m rb:Nat) (c:Cf) (ns bs:Int) (A:AG) (rs:List Nat) (N:Nat) (T:Nat→Prop) (w:World) (To:Nat) (w5:World):Prop:=
 (∀w7,Fr (fun _=>False) w5 w7→Calls Tryz.prog 73 #[b,.int .i64 To,.int .i64 ((To+N:Nat):Int)] w7 fun e w'=>e= .returned (.tuple #[])∧eu b c m rb none ns bs To (To+N) c.Wd w7 w')∧
 (∀w7 w8,Fr (fun _=>False) w5 w7→eu b c m rb none ns bs To (To+N) c.Wd w7 w8→sR b c A rs N T w w8)
theorem jC {Pg W lo top:Nat} {mp:Nat→Bool} (hmp:∀q,mp q=(decide (lo≤q*Pg)&&decide (q*Pg<top))) (hlp:lo% Pg=0) (ht:top≤W):∀k,lo≤k→k<top→aX W Pg mp k:=fun k h1 h2=>by
 refine ⟨by omega,?_⟩;have hFq:lo=lo/Pg*Pg:=by have:=Nat.div_add_mod lo Pg;rw [Nat.mul_comm];omega
 have h3:=Nat.mul_le_mul_right Pg (Nat.div_le_div_right (c:=Pg) h1);have h4:=Nat.div_mul_le_self k Pg;rw [hmp,decide_eq_true (show lo≤k/Pg*Pg by omega),decide_eq_true (show k/Pg*Pg<top by omega)];rfl
theorem vL (hw:fU (fun _=>True) h c A rs φ L Ba u ub none 0 ns bs S w) (hT:∀k,T k↔gj h ub S k) (hk:c.kind=2) (hl0:aL A rs l0) (hf:Fr (fun _=>False) w w1) {e:Ending} (ho:pQ h.m h.rb h.rg c.Pg c.W c.Fs A rs (2*c.Pg+c.Wd-Ba) (2*c.Pg+c.Wd-Ba+c.Wd) S w1 e w5):
  e= .returned (.tuple #[.int .i64 ((2*c.Pg+c.Wd-Ba+A.Wd l0:Nat):Int),.int .i64 0])∧w1.heap.size≤w5.heap.size∧(∀cb cs t,w.heap.size≤cb→ak w1 cb cs t→ak w5 cb cs t)∧xd h.b h.m h.rb c ns bs A rs (A.Wd l0) T w (2*c.Pg+c.Wd-Ba) w5:=by
 have hw1:=hw.keep hf;have hoth:=hw.half.other (by omega);have hle:=hoth.le;have htp:=hoth.top;generalize 2*c.Pg+c.Wd-Ba=To at ho hoth hle htp ⊢;obtain ⟨φ',L',S',used',Hg',mp',l,rfl,q1,q2,q3,q4,q5,q6,q7,q8,q9⟩:=ho;rw [q3.Wd hl0] at q2 q4 q5 ⊢;obtain ⟨hW5,_⟩:=hw.cok.W5;have hlt1:=hw1.lt;have hz1:=hf.size;have hz9:=q9.size;obtain ⟨e1,e2,e3,e4,e5,e6,e7,e8,e9⟩:=hw.e;have hd:=hw.d;have htl:aN<w1.heap.size:=aE (hw1.tab 0 0 rfl);have hB5:fT w5 h.b c h.m h.rb ub none ns bs:=ak.frame hw1.blk q9 (fun h'=>h'.elim (fun h'=>(hd _ h').1 rfl) (fun e=>e2 e));have hSl:∀k,S' k→k<w5.heap.size:=(aF _ _ _ _ _ _ _).lt _ _ _ q1;have hSd:∀k,S' k→k≠h.b∧k≠h.rb∧k≠h.rg∧k≠ub∧k≠aN:=fun k hk=>by
  rcases q8 k hk with h1|h1
  ·exact hd k h1
  ·have h2:=hlt1 h.b (.inr (.inl rfl));have h3:=hlt1 h.rb (.inr (.inr (.inl rfl)));have h4:=hlt1 h.rg (.inr (.inr (.inr (.inl rfl))));have h5:=hlt1 ub (.inr (.inr (.inr (.inr rfl))));exact ⟨by omega,by omega,by omega,by omega,by omega⟩
 refine ⟨rfl,hz9,fun cb cs t hcb hb=>ak.frame hb q9 (fun h'=> ?_),fun w7 hf7=> ?_,fun w7 w8 hf7 hp=> ?_⟩
 ·have hlt:=hw.lt;have h3:=hlt h.rg (.inr (.inr (.inr (.inl rfl))));rcases h' with h'|h'
  ·have:=hlt cb (.inl h');omega
  ·omega
 ·obtain ⟨M,hm,_⟩:=(aF _ _ _ _ _ _ _).keep q1 hf7;exact mO (ak.frame hB5 hf7 (fun h=>h)) hm To (To+A.Wd l0) (by omega) q5 htp
 ·obtain ⟨ub',hb8,hr8,hub,hf8⟩:=hp;have hz7:=hf7.size;have hz8:=hf8.size;have hl5:=ak.lt hB5;have hf58:Fr (fun k=>k=h.b) w5 w8:=(hf7.mono (fun _ h=>h.elim)).trans hf8 (fun _ h=> .inl h);have hfit:A.Wd l0≤c.Wd:=by omega
  have hm8:=aR _ _ _ _ _ _ _ _ _ _ _ _ q1 hf58 (fun k hk=>(hSd k hk).1);refine ⟨gj h ub' S',⟨h,φ',L',To,ub',none,ns,bs,S',rfl,⟨hw.cok,hb8,q6.frame hf58 (Ne.symm e1) (Ne.symm e2),hr8,an q7 hf58 (Ne.symm e6),q4,hw.Sl,hfit,hoth,⟨rfl,used',Hg',mp',hm8,q2⟩,fun k hk=> ?_,e1,e2,?_,?_,?_,e6,e7,?_,e9⟩,fun k=>Iff.rfl,fun _=>rfl⟩,?_,?_⟩
  ·have h9:=hSl k hk;have:=hSd k hk;exact ⟨this.1,this.2.1,this.2.2.1,by omega,this.2.2.2.2⟩
  ·have:=hlt1 h.b (.inr (.inl rfl));omega
  ·have:=hlt1 h.rb (.inr (.inr (.inl rfl)));omega
  ·have:=hlt1 h.rg (.inr (.inr (.inr (.inl rfl))));omega
  ·omega
  ·refine (((hf.mono (fun _ h=>h.elim)).trans q9 (fun k hk=> .inl ?_)).trans hf58 (fun k hk=> .inl ?_))
   ·exact (hT k).2 (hk.elim .inl (fun e=> .inr (.inr (.inr (.inl e)))))
   ·exact (hT k).2 (.inr (.inl hk))
  ·rintro k (hk|hk|hk|hk|hk)
   ·rcases q8 k hk with h1|h1
    ·exact .inl ((hT k).2 (.inl h1))
    ·exact .inr (by omega)
   ·exact .inl ((hT k).2 (.inr (.inl hk)))
   ·exact .inl ((hT k).2 (.inr (.inr (.inl hk))))
   ·exact .inl ((hT k).2 (.inr (.inr (.inr (.inl hk)))))
   ·exact .inr (by omega)
theorem vK (hw:fU (fun _=>True) h c A rs φ L Ba u ub none 0 ns bs S w) (hk:c.kind=2) (hf:Fr (fun _=>False) w w1):Calls Tryz.prog 72 #[h.m,.pointer (some ⟨h.rb,0,none⟩),cG Ba (Ba+u) (2*c.Pg+c.Wd-Ba) (2*c.Pg+c.Wd-Ba+c.Wd) c.block c.stack c.Ah] w1 (pQ h.m h.rb h.rg c.Pg c.W c.Fs A rs (2*c.Pg+c.Wd-Ba) (2*c.Pg+c.Wd-Ba+c.Wd) S w1):=by
 have hw1:=hw.keep hf;obtain ⟨_,Us,Hg,mp,hm,hmp⟩:=hw1.mem;refine vM hm hw1.roots hw1.tab (fun h=>(hw.d _ h).2.2.2.2 rfl) ⟨fun h=>(hw.d _ h).2.1 rfl,fun h=>(hw.d _ h).2.2.1 rfl⟩ hw.e.2.2.2.2.2.2.1 Ba (Ba+u) _ _ c.block c.stack c.Ah (hw.half.conf hw.cok (by omega) hw.fits) hw.laid (by have:=hw.cok.slots1;have:=hw.Sl;omega) (by have:=hw.fits;omega) hmp ?_;obtain ⟨M,hmb,_⟩:=hm;have h1:=pJ hw.cok hw.half hw.fits hmb hmp;unfold Cf.Fs;rw [if_neg (by omega),if_pos hk,Nat.add_sub_cancel_left];omega
def qR (b m rb ub:Nat) (c:Cf) (ns bs:Int) (A:AG) (rs:List Nat) (N Ba u:Nat) (T:Nat→Prop) (w:World) (e:Ending) (w5:World):Prop:=
 e= .returned (.tuple #[.int .i64 ((Ba+N:Nat):Int),.int .i64 0])∧fT w5 b c m rb ub none ns bs∧bM w5 ub m Ba (Ba+u) (Ba+c.Wd)∧Ba+N≤Ba+c.Wd∧
 ∀w7 w8,Fr (fun _=>False) w5 w7→bM w8 ub m Ba (Ba+N) (Ba+c.Wd)→Fr (fun k=>k=ub) w7 w8→sR b c A rs N T w w8
theorem qR.Fh {N:Nat} {e:Ending} (h:qR b m rb ub c ns bs A rs N Ba u T w e w') (hf:Fr (fun _=>False) w' w''):qR b m rb ub c ns bs A rs N Ba u T w e w'':=by
 obtain ⟨h1,h2,h3,h4,h5⟩:=h;exact ⟨h1,ak.frame h2 hf (fun h=>h),ak.frame h3 hf (fun h=>h),h4,fun w7 w8 g1 g2 g3=>h5 w7 w8 (hf.trans g1 (fun _ h=>h.elim)) g2 g3⟩
theorem wu (hw:fU (fun _=>True) h c A rs φ L Ba u ub none 0 ns bs S w) (hT:∀k,T k↔gj h ub S k) (hl0:aL A rs l0) (hf:Fr (fun _=>False) w w1):Calls Tryz.prog 74 #[h.m,.pointer (some ⟨h.rb,0,none⟩),.int .i64 Ba,.int .i64 ((Ba+u:Nat):Int),.int .i64 (c.stack:Int)] w1 fun e w5=>qR h.b h.m h.rb ub c ns bs A rs (A.Wd l0) Ba u T w e w5∧w1.heap.size≤w5.heap.size:=by
 have hw1:=hw.keep hf;obtain ⟨_,Us,Hg,mp,hm,hmp⟩:=hw1.mem;have hle:=hw.half.le;have htp:=hw.half.top;have hfit:=hw.fits;have hpg:=hw.cok.page2;obtain ⟨hW5,_⟩:=hw.cok.W5;obtain ⟨G,hcG⟩:=hw.laid.conc;have hG:=cv.sound hw.laid hcG;have hlp:=hw.half.mod hw.cok;have hO:=cv.obj hw.laid hcG (jC hmp hlp (show Ba+u≤c.W by omega)) (by omega);obtain ⟨e1,e2,e3,e4,e5,e6,e7,e8,e9⟩:=hw.e;have hd:=hw.d;refine (callsIn_wide.1 (uE 0 hm hw1.roots hw1.tab (fun h=>(hw.d _ h).2.2.2.2 rfl) ⟨fun h=>(hw.d _ h).2.1 rfl,fun h=>(hw.d _ h).2.2.1 rfl⟩ Ba (Ba+u) c.stack hG hO (cv.low hw.laid hcG) (by omega) (by omega) (by omega) hw.cok.stack1 hw.cok.stack2 hmp hlp (hw.laid.small hcG (by omega)) e7)).mono ?_;rintro e w5 ⟨E,L',S',used',Hg',mp',rfl,q1,q2,q3,q4,q5,q6,q7,q8,q9⟩;have hE:=cv.ext hw.laid hcG q3 q4;have hcn:=(aL.cnt (hw.laid.wide (show Ba+u≤c.W by omega)) hE hl0).1;have hcn2:=(aL.cnt hw.laid hE hl0).1;have hwl:=hw.laid.words_le (by omega) hl0;rw [hcn] at q2 ⊢;have hlaid:=hw.laid.slide hE (show 1≤Ba by omega) (L':=L') (fun x hx i hi=>by
  have h1:=q5 (φ x) ((q3 _).2 ((cv.reach hw.laid hcG _).2 ⟨x,hx,rfl⟩)) i (by rw [hE.size x hx];exact hi);rw [hcG.ptrs x hx,List.length_map,List.length_range] at h1;exact h1)
 rw [hcn2] at hlaid;have hlt1:=hw1.lt;have hz1:=hf.size;have hz9:=q9.size;have htl:aN<w1.heap.size:=aE (hw1.tab 0 0 rfl);have hB5:fT w5 h.b c h.m h.rb ub none ns bs:=ak.frame hw1.blk q9 (fun h'=>h'.elim (fun h'=>(hd _ h').1 rfl) (fun e=>e2 e));have hR5:bM w5 ub h.m Ba (Ba+u) (Ba+c.Wd):=ak.frame hw1.reg q9 (fun h'=>h'.elim (fun h'=>(hd _ h').2.2.2.1 rfl) (fun e=>e5 e.symm));have hSl:∀k,S' k→k<w5.heap.size:=(aF _ _ _ _ _ _ _).lt _ _ _ q1;have hSd:∀k,S' k→k≠h.b∧k≠h.rb∧k≠h.rg∧k≠ub∧k≠aN:=fun k hk=>by
  rcases q8 k hk with h1|h1
  ·exact hd k h1
  ·have h2:=hlt1 h.b (.inr (.inl rfl));have h3:=hlt1 h.rb (.inr (.inr (.inl rfl)));have h4:=hlt1 h.rg (.inr (.inr (.inr (.inl rfl))));have h5:=hlt1 ub (.inr (.inr (.inr (.inr rfl))));exact ⟨by omega,by omega,by omega,by omega,by omega⟩
 refine ⟨⟨rfl,hB5,hR5,by omega,fun w7 w8 hf7 hr8 hf8=> ?_⟩,hz9⟩;have hf58:Fr (fun k=>k=ub) w5 w8:=(hf7.mono (fun _ h=>h.elim)).trans hf8 (fun _ h=> .inl h);have hm8:=aR _ _ _ _ _ _ _ _ _ _ _ _ q1 hf58 (fun k hk=>(hSd k hk).2.2.2.1);rw [List.map_map] at q6;have hrsE:rs.map (kN (goes E Ba) id∘φ)=rs.map (kN (goes E Ba) φ):=List.map_congr_left (fun z hz=>by
  show (if φ z=0 then 0 else goes E Ba (φ z))=if z=0 then 0 else goes E Ba (φ z)
  by_cases h0:z=0
  ·rw [if_pos h0,if_pos (by rw [h0];exact hw.laid.zero)]
  ·rw [if_neg h0,if_neg (by have:=hw.laid.pos (.root hz h0);omega)])
 rw [hrsE] at q6;refine ⟨gj h ub S',⟨h,_,L',Ba,ub,none,ns,bs,S',rfl,⟨hw.cok,ak.frame hB5 hf58 e3,q6.frame hf58 e4 e5,hr8,an q7 hf58 (Ne.symm e8),hlaid,hw.Sl,by omega,hw.half,⟨rfl,used',Hg',mp',hm8,q2⟩,hSd,e1,e2,e3,e4,e5,e6,e7,e8,e9⟩,fun k=>Iff.rfl,fun _=>rfl⟩,?_,?_⟩
 ·refine (((hf.mono (fun _ h=>h.elim)).trans q9 (fun k hk=> .inl ?_)).trans hf58 (fun k hk=> .inl ?_))
  ·exact (hT k).2 (hk.elim .inl (fun e=> .inr (.inr (.inr (.inl e)))))
  ·exact (hT k).2 (.inr (.inr (.inr (.inr hk))))
 ·rintro k (hk|hk)
  ·rcases q8 k hk with h1|h1
   ·exact .inl ((hT k).2 (.inl h1))
   ·exact .inr (by omega)
  ·exact .inl ((hT k).2 (.inr hk))
end
section
variable {b u n:Nat} {c:Cf} {A:AG} {rs:List Nat} {T:Nat→Prop} {w:World}
theorem yt (hi:b8 b c A rs u n T w) (hk:c.kind=1):Calls Tryz.prog 20 #[b] w (lk b c A rs T w):=by
 obtain ⟨HN,k0⟩:Hid (Calls Tryz.prog 50 #[b] w fun e w'=>e= .returned (.bool false)∧w=w')∧w.cell? ⟨b,0,none⟩=some (.int .i64 1):=by
  obtain ⟨h,φ,L,Ba,ub,cy,ns,bs,S,rfl,q2,q3,q4⟩:=hi;refine ⟨ae (cI q2.blk),?_⟩;have:=ak.cell q2.blk 0 rfl;rw [hk] at this;exact this
 have HF1:=ae (fW hi);have HF2:Hid (∀N n w2,ep b c A rs N n T w w2→Calls Tryz.prog 70 #[b] w2 fun e w3=>e= .returned (.tuple #[])∧ep b c A rs N 0 T w w3):=by
  show∀N n w2,_
  rintro N n w2 ⟨T1,g1,g2,g3⟩;refine (fW g1).mono ?_;rintro e w3 ⟨rfl,T2,f1,f2,f3⟩;have hz:=g2.size;exact ⟨rfl,T2,f1,g2.trans f2 g3,fun k hk=>(f3 k hk).elim (g3 k) (fun h=> .inr (by omega))⟩
 have HOP:Hid (∀w2,ep b c A rs u 0 T w w2→Calls Tryz.prog 58 #[b] w2 fun e w3=>e= .returned (.tuple #[])∧∃l n,aL A rs l∧ep b c A rs (A.Wd l) n T w w3):=by
  show∀w2,_
  rintro w2 ⟨T1,g1,g2,g3⟩;refine (mR g1 hk).mono ?_;rintro e w3 ⟨rfl,l,n1,T2,hl,f1,f2,f3⟩;have hz:=g2.size;exact ⟨rfl,l,n1,hl,T2,f1,g2.trans f2 g3,fun k hk=>(f3 k hk).elim (g3 k) (fun h=> .inr (by omega))⟩
 have HQ:Hid (∀l w3,aL A rs l→ep b c A rs (A.Wd l) 0 T w w3→lk b c A rs T w (.returned (.tuple #[])) w3):=ae (fun l w3 hl ⟨T1,g1,g2,g3⟩=>⟨rfl,l,T1,hl,g1,g2,g3⟩);clear hi;generalize (lk b c A rs T w)=Q at*
 go_enter Tryz.func20,Tryz.ntmps20
 go_wp2_with fail
 refine (HN.out).mono ?_;rintro e w1 ⟨rfl,rfl⟩;clear HN;go_wp2_with fail
 refine (HF1.out).mono ?_;rintro e w1 ⟨rfl,hf⟩;have HO1:=ae (HOP.out w1 hf);clear HF1 hf k0 HOP;go_wp2_with fail
 refine (HO1.out).mono ?_;rintro e w2 ⟨rfl,l,n1,hl,hf⟩;have HF3:=ae (HF2.out _ _ w2 hf);have HQ3:=ae (fun w3 h=>HQ.out l w3 hl h);clear HO1 hf HF2 HQ hl;go_wp2_with fail
 refine (HF3.out).mono ?_;rintro e w3 ⟨rfl,hf⟩;have H:=ae (HQ3.out w3 hf);clear HF3 hf HQ3;go_wp2;go_end0;exact H.out
theorem tN {l:List Nat} {w5:World} (hl:aL A rs l) (h:sR b c A rs (A.Wd l) T w w5):∃ns:Int,w5.cell? ⟨b,12,none⟩=some (.int .i64 ns)∧w5.frozen? ⟨b,12,none⟩=false∧∀v:Int,lk b c A rs T w (.returned (.tuple #[])) (w5.setCell ⟨b,12,none⟩ (.int .i64 v)):=by
 obtain ⟨T1,g1,g2,g3⟩:=h;obtain ⟨ns,h1,h2,h3⟩:=g1.count;exact ⟨ns,h1,h2,fun v=>⟨rfl,l,T1,hl,(h3 v).1,g2.trans (h3 v).2 g3,g3⟩⟩
theorem yu (hi:b8 b c A rs u n T w) (hk:c.kind=2):Calls Tryz.prog 20 #[b] w (lk b c A rs T w):=by
 have h0:=hi.plain (by omega);obtain ⟨h,φ,L,Ba,ub,cy,ns,bs,S,rfl,hw,hT,hcy⟩:=hi;obtain rfl:=hcy h0;subst h0;obtain ⟨l0,hl0⟩:=hw.laid.some;have HN:=ae (cI hw.blk);have k0:w.cell? ⟨h.b,0,none⟩=some (.int .i64 2):=by
  have:=ak.cell hw.blk 0 rfl;rw [hk] at this;exact this
 have HPL:=ae (kD hw.cok hw.blk hw.reg (by have:=hw.half.le;omega));have HOP:=ae (fun w1 (hf:Fr (fun _=>False) w w1)=>(vK hw hk hf).mono (fun e w5 ho=>vL (e:=e) (w5:=w5) hw hT hk hl0 hf ho));have HBK:=ae hw.blk;have HS7:Hid ((Tryz.prog.info? 143).map (·.size)=some 7):=by show _=_;kernel_rfl
 have HON:=ae (ur Ba (Ba+u:Nat) (2*c.Pg+c.Wd-Ba:Nat) (2*c.Pg+c.Wd-Ba+c.Wd:Nat) c.block c.stack c.Ah);have HQ:=ae (fun w5 (hh:sR h.b c A rs (A.Wd l0) T w w5)=>tN hl0 hh);clear hw hT hcy;unfold cG at HPL HOP;generalize (lk h.b c A rs T w)=Q at*;generalize 2*c.Pg+c.Wd-Ba=To at*;obtain ⟨X,hX⟩:∃X,X=To+A.Wd l0:=⟨_,rfl⟩;rw [←hX] at HOP;generalize To+c.Wd=Li at*;generalize Ba+u=Tp at*;obtain ⟨b,m,rb,rg⟩:=h;dsimp only at*
 go_enter Tryz.func20,Tryz.ntmps20
 go_wp2_with fail
 refine (HN.out).mono ?_;rintro e w1 ⟨rfl,rfl⟩;clear HN;have HX:=ae hX;clear hX;go_wp2_with fail
 refine (HPL.out).mono ?_;rintro e w2 ⟨rfl,hf2⟩;obtain ⟨W2,hW2⟩:∃W2,w2.alloc (.cells #[.int .i64 Ba,.int .i64 Tp,.int .i64 To,.int .i64 Li,.int .i64 (c.block:Int),.int .i64 (c.stack:Int),.int .i64 (c.Ah:Int)] 143)=W2:=⟨_,rfl⟩;have hfa:Fr (fun _=>False) w W2.drew:=by rw [←hW2];exact (hf2.alloc _).drew
 have HCB:Hid (ak W2.drew w2.heap.size [.int .i64 Ba,.int .i64 Tp,.int .i64 To,.int .i64 Li,.int .i64 (c.block:Int),.int .i64 (c.stack:Int),.int .i64 (c.Ah:Int)] 143):=by rw [←hW2];exact ae (ak.new w2 _ _)
 have hB2:fT W2.drew b c m rb ub none ns bs:=ak.frame HBK.out hfa (fun h=>h);have k8:=ak.cell hB2 8 rfl;have k9:=ak.cell hB2 9 rfl;have HZ:∃Z:World→Prop,Z=fun w5=>(∀cb cs t,w.heap.size≤cb→ak W2.drew cb cs t→ak w5 cb cs t)∧xd b m rb c ns bs A rs (A.Wd l0) T w To w5:=⟨_,rfl⟩
 obtain ⟨Z,hZ⟩:=HZ;have HOP2:Hid (Calls Tryz.prog 72 #[m,.pointer (some ⟨rb,0,none⟩),.agg #[.int .i64 Ba,.int .i64 Tp,.int .i64 To,.int .i64 Li,.int .i64 (c.block:Int),.int .i64 (c.stack:Int),.int .i64 (c.Ah:Int)]] W2.drew fun e w5=>e= .returned (.tuple #[.int .i64 X,.int .i64 0])∧W2.drew.heap.size≤w5.heap.size∧Z w5):=by
  rw [hZ];exact ae (HOP.out W2.drew hfa)
 have HZ:=ae hZ;have HF2:=ae hf2;have HOP:=HOP2;clear hf2 HPL hfa hB2 HOP2 HBK hZ k0;generalize c.block=bk at*;generalize c.stack=sk at*;generalize c.Ah=ad at*;go_wp2;refine bp 15 9 (fun a b2=>a.heap.size≤b2.heap.size) (fun a b2=>b2=a) [fun v _=>v= .pointer (some ⟨b,0,none⟩),fun v _=>v= .pointer (some ⟨b,0,none⟩),fun v _=>v= .pointer (some ⟨b,8,none⟩),fun v _=>v= .pointer (some ⟨m,0,none⟩),fun v _=>v= .pointer (some ⟨b,0,none⟩),fun v _=>v= .pointer (some ⟨b,0,none⟩),fun v _=>v= .pointer (some ⟨b,9,none⟩),fun v _=>v= .pointer (some ⟨rb,0,none⟩),fun v _=>v= .agg #[.int .i64 Ba,.int .i64 Tp,.int .i64 To,.int .i64 Li,.int .i64 bk,.int .i64 sk,.int .i64 ad],fun v w'=>v= .tuple #[.int .i64 X,.int .i64 0]∧Z w',fun v _=>v= .tuple #[.int .i64 X,.int .i64 0],fun v _=>v= .int .i64 X,fun v _=>v= .int .i64 0,fun v _=>v= .int .i64 X,fun v _=>v= .int .i64 0] (fun j=>false) (by kernel_rfl) (by kernel_rfl) (by kernel_rfl) (by kernel_rfl) rfl (fun _=>rfl) (fun _ _ h=>by rw [h];exact Nat.le_refl _) (fun _ _ _ h1 h2=>h2.trans h1) (fun _ _ _ h1 h2=>by subst h2;exact h1) (fun _ _ _ h1 h2=>by subst h1;exact h2) (fun _ _ h=>h) ⟨fun _ _ _ h _=>h,fun _ _ _ h _=>h,fun _ _ _ h _=>h,fun _ _ _ h _=>h,fun _ _ _ h _=>h,fun _ _ _ h _=>h,fun _ _ _ h _=>h,fun _ _ _ h _=>h,fun _ _ _ h _=>h,fun v w1 w2 h hr=>by subst hr;exact h,fun _ _ _ h _=>h,fun _ _ _ h _=>h,fun _ _ _ h _=>h,fun _ _ _ h _=>h,fun _ _ _ h _=>h,trivial⟩ ⟨.inr (fun _ _ _ h _=>h),.inr (fun _ _ _ h _=>h),.inr (fun _ _ _ h _=>h),.inr (fun _ _ _ h _=>h),.inr (fun _ _ _ h _=>h),.inr (fun _ _ _ h _=>h),.inr (fun _ _ _ h _=>h),.inr (fun _ _ _ h _=>h),.inr (fun _ _ _ h _=>h),.inl rfl,.inr (fun _ _ _ h _=>h),.inr (fun _ _ _ h _=>h),.inr (fun _ _ _ h _=>h),.inr (fun _ _ _ h _=>h),.inr (fun _ _ _ h _=>h),trivial⟩ ?_;intro F hF;simp only [aS,List.take_succ_cons,List.take_zero,aa,ab,ac] at hF;subst hF;refine ⟨⟨fun vs w1 hw hw1 hd hx=> ?_,fun vs w1 hw hw1 hd hx=> ?_,fun vs w1 hw hw1 hd hx=> ?_,fun vs w1 hw hw1 hd hx=> ?_,fun vs w1 hw hw1 hd hx=> ?_,fun vs w1 hw hw1 hd hx=> ?_,fun vs w1 hw hw1 hd hx=> ?_,fun vs w1 hw hw1 hd hx=> ?_,fun vs w1 hw hw1 hd hx=> ?_,fun vs w1 hw hw1 hd hx=> ?_,fun vs w1 hw hw1 hd hx=> ?_,fun vs w1 hw hw1 hd hx=> ?_,fun vs w1 hw hw1 hd hx=> ?_,fun vs w1 hw hw1 hd hx=> ?_,fun vs w1 hw hw1 hd hx=> ?_,trivial⟩,?_⟩
 ·refine ai (.pointer (some ⟨b,0,none⟩)) ?_ ⟨rfl,rfl,fun h=>nomatch h⟩;go_simp
 ·have h0:vs 0= .pointer (some ⟨b,0,none⟩):=hd 0 (by kernel_rfl);refine ai (.pointer (some ⟨b,0,none⟩)) ?_ ⟨rfl,rfl,fun h=>nomatch h⟩;go_simp
 ·have h1:vs 1= .pointer (some ⟨b,0,none⟩):=hd 1 (by kernel_rfl);refine ai (.pointer (some ⟨b,8,none⟩)) ?_ ⟨rfl,rfl,fun h=>nomatch h⟩;go_simp
 ·have h2:vs 2= .pointer (some ⟨b,8,none⟩):=hd 2 (by kernel_rfl);refine ai (.pointer (some ⟨m,0,none⟩)) ?_ ⟨rfl,rfl,fun h=>nomatch h⟩;have hwe:=hw1 (by kernel_rfl);subst hwe;go_simp
 ·refine ai (.pointer (some ⟨b,0,none⟩)) ?_ ⟨rfl,rfl,fun h=>nomatch h⟩;go_simp
 ·have h4:vs 4= .pointer (some ⟨b,0,none⟩):=hd 4 (by kernel_rfl);refine ai (.pointer (some ⟨b,0,none⟩)) ?_ ⟨rfl,rfl,fun h=>nomatch h⟩;go_simp
 ·have h5:vs 5= .pointer (some ⟨b,0,none⟩):=hd 5 (by kernel_rfl);refine ai (.pointer (some ⟨b,9,none⟩)) ?_ ⟨rfl,rfl,fun h=>nomatch h⟩;go_simp
 ·have h6:vs 6= .pointer (some ⟨b,9,none⟩):=hd 6 (by kernel_rfl);refine ai (.pointer (some ⟨rb,0,none⟩)) ?_ ⟨rfl,rfl,fun h=>nomatch h⟩;have hwe:=hw1 (by kernel_rfl);subst hwe;go_simp
 ·have hwe:=hw1 (by kernel_rfl);subst hwe;refine ai (.agg #[.int .i64 Ba,.int .i64 Tp,.int .i64 To,.int .i64 Li,.int .i64 bk,.int .i64 sk,.int .i64 ad]) ?_ ⟨rfl,rfl,fun h=>nomatch h⟩;exact du rfl w2.heap.size rfl 143 _ (0,0) _ HCB.out Tryz.underlying143 rfl HS7.out
 ·have h3:vs 3= .pointer (some ⟨m,0,none⟩):=hd 3 (by kernel_rfl);have h7:vs 7= .pointer (some ⟨rb,0,none⟩):=hd 7 (by kernel_rfl);have h8:vs 8= .agg #[.int .i64 Ba,.int .i64 Tp,.int .i64 To,.int .i64 Li,.int .i64 bk,.int .i64 sk,.int .i64 ad]:=hd 8 (by kernel_rfl);have hwe:=hw1 (by kernel_rfl);subst hwe;refine ay 72 #[m,.pointer (some ⟨rb,0,none⟩),.agg #[.int .i64 Ba,.int .i64 Tp,.int .i64 To,.int .i64 Li,.int .i64 bk,.int .i64 sk,.int .i64 ad]] (by go_simp) ((HOP.out).mono ?_);rintro e w5 ⟨rfl,hz,hp⟩;exact ⟨_,rfl,⟨rfl,hp⟩,hz,fun h=>nomatch h⟩
 ·have h9:=(hd 9 (by kernel_rfl)).1;refine ai (.tuple #[.int .i64 X,.int .i64 0]) ?_ ⟨rfl,rfl,fun h=>nomatch h⟩;go_simp
 ·have h10:vs 10= .tuple #[.int .i64 X,.int .i64 0]:=hd 10 (by kernel_rfl);refine ai (.int .i64 X) ?_ ⟨rfl,rfl,fun h=>nomatch h⟩;go_simp
 ·have h10:vs 10= .tuple #[.int .i64 X,.int .i64 0]:=hd 10 (by kernel_rfl);refine ai (.int .i64 0) ?_ ⟨rfl,rfl,fun h=>nomatch h⟩;go_simp
 ·have h11:vs 11= .int .i64 X:=hd 11 (by kernel_rfl);refine ai (.int .i64 X) ?_ ⟨rfl,rfl,fun h=>nomatch h⟩;go_simp
 ·have h12:vs 12= .int .i64 0:=hd 12 (by kernel_rfl);refine ai (.int .i64 0) ?_ ⟨rfl,rfl,fun h=>nomatch h⟩;go_simp
 intro vs w1 hw hp hx;obtain ⟨g0,g1,g2,g3,g4,g5,g6,g7,g8,g9,g10,g11,g12,g13,g14,_⟩:=hp;obtain ⟨_,hop⟩:=g9;simp only [g13,g14];clear g0 g1 g2 g3 g4 g5 g6 g7 g8 g10 g11 g12 g13 g14 hx hw;simp only [List.drop_succ_cons,List.drop_zero];rw [HZ.out] at hop;obtain ⟨hcb5,hp⟩:=hop;have hc5:=hcb5 _ _ _ HF2.out.size HCB.out;unfold xd at hp;rw [←HX.out] at hp;have HLI:=ae (hp.1 w1 (Fr.refl _ _));have HLJ:=ae (fun w8 h=>hp.2 w1 w8 (Fr.refl _ _) h);have k2:=hc5.cell 2 rfl;clear hcb5 hp hc5 HZ HCB HOP HF2 k8 k9;go_wp2_with fail
 refine (HLI.out).mono ?_;rintro e w6 ⟨rfl,hp⟩;obtain ⟨ns2,k12,f12,hq⟩:=HQ.out w6 (HLJ.out w6 hp);have H:=ae hq;clear HLI HLJ hp hq HQ k2;go_wp2;go_end0;exact H.out _
theorem yv (hi:b8 b c A rs u n T w) (hk:c.kind=3):Calls Tryz.prog 20 #[b] w (lk b c A rs T w):=by
 have h0:=hi.plain (by omega);obtain ⟨h,φ,L,Ba,ub,cy,ns,bs,S,rfl,hw,hT,hcy⟩:=hi;obtain rfl:=hcy h0;subst h0;obtain ⟨l0,hl0⟩:=hw.laid.some;have HN:=ae (cI hw.blk);have k0:w.cell? ⟨h.b,0,none⟩=some (.int .i64 3):=by
  have:=ak.cell hw.blk 0 rfl;rw [hk] at this;exact this
 have hfd:∀w1,Fr (fun _=>False) w.drew w1→Fr (fun _=>False) w w1:=fun w1 hf=>((Fr.refl (fun _=>False) w).drew).trans hf (fun _ h=>h.elim)
 have HOP:=ae (fun w1 (hf:Fr (fun _=>False) w.drew w1)=>(wu hw hT hl0 (hfd w1 hf)).mono (fun e w5 ho=>(show e= .returned (.tuple #[.int .i64 ((Ba+A.Wd l0:Nat):Int),.int .i64 0])∧w1.heap.size≤w5.heap.size∧qR h.b h.m h.rb ub c ns bs A rs (A.Wd l0) Ba u T w e w5 from ⟨ho.1.1,ho.2,ho.1⟩)));have HBA:=ae (fun w1 (hf:Fr (fun _=>False) w.drew w1)=>eb (hw.keep (hfd w1 hf)).reg);have HTA:=ae (fun w1 (hf:Fr (fun _=>False) w.drew w1)=>gu (hw.keep (hfd w1 hf)).reg);have HK:=ae (fun w1 (hf:Fr (fun _=>False) w.drew w1)=>(show w1.cell? ⟨h.b,8,none⟩=some (.pointer (some ⟨h.m,0,none⟩))∧w1.cell? ⟨h.b,9,none⟩=some (.pointer (some ⟨h.rb,0,none⟩))∧w1.cell? ⟨h.b,10,none⟩=some (.pointer (some ⟨ub,0,none⟩))∧w1.cell? ⟨h.b,5,none⟩=some (.int .i64 (c.stack:Int))∧True from
  ⟨ak.cell (hw.keep (hfd w1 hf)).blk 8 rfl,ak.cell (hw.keep (hfd w1 hf)).blk 9 rfl,ak.cell (hw.keep (hfd w1 hf)).blk 10 rfl,ak.cell (hw.keep (hfd w1 hf)).blk 5 rfl,trivial⟩))
 have HQ:=ae (fun w5 (hh:sR h.b c A rs (A.Wd l0) T w w5)=>tN hl0 hh);have HB0:Hid (fT w.drew h.b c h.m h.rb ub none ns bs):=ae hw.blk;clear hw hT hcy;generalize (lk h.b c A rs T w)=Q at*;obtain ⟨X,hX⟩:∃X,X=Ba+A.Wd l0:=⟨_,rfl⟩;rw [←hX] at HOP;have HX:=ae hX;clear hX hfd;obtain ⟨b,m,rb,rg⟩:=h;dsimp only at*;have HZ:∃Z:World→Prop,Z=fun w5=>qR b m rb ub c ns bs A rs (A.Wd l0) Ba u T w (.returned (.tuple #[.int .i64 X,.int .i64 0])) w5:=⟨_,rfl⟩
 obtain ⟨Z,hZ⟩:=HZ;have HZF:Hid (∀wa wb,Z wa→Fr (fun _=>False) wa wb→Z wb):=by
  show∀wa wb,_
  rw [hZ];exact fun wa wb h hf=>h.Fh hf
 have HZB:Hid (∀wa,Z wa→fT wa b c m rb ub none ns bs):=by
  show∀wa,_
  rw [hZ];exact fun wa h=>h.2.1
 have HOP2:Hid (∀w1,Fr (fun _=>False) w.drew w1→Calls Tryz.prog 74 #[m,.pointer (some ⟨rb,0,none⟩),.int .i64 Ba,.int .i64 ((Ba+u:Nat):Int),.int .i64 (c.stack:Int)] w1 fun e w5=>e= .returned (.tuple #[.int .i64 X,.int .i64 0])∧w1.heap.size≤w5.heap.size∧Z w5):=by
  show∀w1,_
  intro w1 hf;rw [hZ];refine (HOP.out w1 hf).mono ?_;rintro e w5 ⟨rfl,h2,h3⟩;exact ⟨rfl,h2,h3⟩
 have HZ:=ae hZ;clear HOP hZ;have HOP:=HOP2;clear HOP2;obtain ⟨Tp,hTp⟩:∃Tp,Tp=Ba+u:=⟨_,rfl⟩;rw [←hTp] at HOP HTA;have HTp:=ae hTp;clear hTp;obtain ⟨sk,hsk⟩:∃sk,sk=c.stack:=⟨_,rfl⟩;rw [←hsk] at HOP HK;clear hsk
 go_enter Tryz.func20,Tryz.ntmps20
 go_wp2_with fail
 refine (HN.out).mono ?_;rintro e w1 ⟨rfl,rfl⟩;clear HN;go_wp2;clear k0;refine bp 29 23 (fun a b2=>a.heap.size≤b2.heap.size∧(fT a b c m rb ub none ns bs→fT b2 b c m rb ub none ns bs)) (fun a b2=>Fr (fun _=>False) a b2) [fun v _=>v= .pointer (some ⟨b,0,none⟩),fun v _=>v= .pointer (some ⟨b,0,none⟩),fun v _=>v= .pointer (some ⟨b,8,none⟩),fun v _=>v= .pointer (some ⟨m,0,none⟩),fun v _=>v= .pointer (some ⟨b,0,none⟩),fun v _=>v= .pointer (some ⟨b,0,none⟩),fun v _=>v= .pointer (some ⟨b,9,none⟩),fun v _=>v= .pointer (some ⟨rb,0,none⟩),fun v _=>v= .pointer (some ⟨b,0,none⟩),fun v _=>v= .pointer (some ⟨b,0,none⟩),fun v _=>v= .pointer (some ⟨b,10,none⟩),fun v _=>v= .pointer (some ⟨ub,0,none⟩),fun v _=>v= .int .i64 Ba,fun v _=>v= .pointer (some ⟨b,0,none⟩),fun v _=>v= .pointer (some ⟨b,0,none⟩),fun v _=>v= .pointer (some ⟨b,10,none⟩),fun v _=>v= .pointer (some ⟨ub,0,none⟩),fun v _=>v= .int .i64 Tp,fun v _=>v= .pointer (some ⟨b,0,none⟩),fun v _=>v= .pointer (some ⟨b,0,none⟩),fun v _=>v= .pointer (some ⟨b,0,none⟩),fun v _=>v= .pointer (some ⟨b,5,none⟩),fun v _=>v= .int .i64 sk,fun v w'=>v= .tuple #[.int .i64 X,.int .i64 0]∧Z w',fun v _=>v= .tuple #[.int .i64 X,.int .i64 0],fun v _=>v= .int .i64 X,fun v _=>v= .int .i64 0,fun v _=>v= .int .i64 X,fun v _=>v= .int .i64 0] (fun j=>false) (by kernel_rfl) (by kernel_rfl) (by kernel_rfl) (by kernel_rfl) rfl (fun _=>Fr.refl _ _) (fun _ _ h=>⟨h.size,fun hb=>ak.frame hb h (fun h=>h)⟩) (fun _ _ _ h1 h2=>h1.trans h2 (fun _ h=>h.elim)) (fun _ _ _ h1 h2=>⟨Nat.le_trans h1.1 h2.size,fun hb=>ak.frame (h1.2 hb) h2 (fun h=>h)⟩) (fun _ _ _ h1 h2=>⟨Nat.le_trans h1.size h2.1,fun hb=>h2.2 (ak.frame hb h1 (fun h=>h))⟩) (fun _ _ h=>h.1) ⟨fun _ _ _ h _=>h,fun _ _ _ h _=>h,fun _ _ _ h _=>h,fun _ _ _ h _=>h,fun _ _ _ h _=>h,fun _ _ _ h _=>h,fun _ _ _ h _=>h,fun _ _ _ h _=>h,fun _ _ _ h _=>h,fun _ _ _ h _=>h,fun _ _ _ h _=>h,fun _ _ _ h _=>h,fun _ _ _ h _=>h,fun _ _ _ h _=>h,fun _ _ _ h _=>h,fun _ _ _ h _=>h,fun _ _ _ h _=>h,fun _ _ _ h _=>h,fun _ _ _ h _=>h,fun _ _ _ h _=>h,fun _ _ _ h _=>h,fun _ _ _ h _=>h,fun _ _ _ h _=>h,fun v w1 w2 h hr=>⟨h.1,HZF.out _ _ h.2 hr⟩,fun _ _ _ h _=>h,fun _ _ _ h _=>h,fun _ _ _ h _=>h,fun _ _ _ h _=>h,fun _ _ _ h _=>h,trivial⟩ ⟨.inr (fun _ _ _ h _=>h),.inr (fun _ _ _ h _=>h),.inr (fun _ _ _ h _=>h),.inr (fun _ _ _ h _=>h),.inr (fun _ _ _ h _=>h),.inr (fun _ _ _ h _=>h),.inr (fun _ _ _ h _=>h),.inr (fun _ _ _ h _=>h),.inr (fun _ _ _ h _=>h),.inr (fun _ _ _ h _=>h),.inr (fun _ _ _ h _=>h),.inr (fun _ _ _ h _=>h),.inr (fun _ _ _ h _=>h),.inr (fun _ _ _ h _=>h),.inr (fun _ _ _ h _=>h),.inr (fun _ _ _ h _=>h),.inr (fun _ _ _ h _=>h),.inr (fun _ _ _ h _=>h),.inr (fun _ _ _ h _=>h),.inr (fun _ _ _ h _=>h),.inr (fun _ _ _ h _=>h),.inr (fun _ _ _ h _=>h),.inr (fun _ _ _ h _=>h),.inl rfl,.inr (fun _ _ _ h _=>h),.inr (fun _ _ _ h _=>h),.inr (fun _ _ _ h _=>h),.inr (fun _ _ _ h _=>h),.inr (fun _ _ _ h _=>h),trivial⟩ ?_;intro F hF;simp only [aS,List.take_succ_cons,List.take_zero,aa,ab,ac] at hF;subst hF;refine ⟨⟨fun vs w1 hw hw1 hd hx=> ?_,fun vs w1 hw hw1 hd hx=> ?_,fun vs w1 hw hw1 hd hx=> ?_,fun vs w1 hw hw1 hd hx=> ?_,fun vs w1 hw hw1 hd hx=> ?_,fun vs w1 hw hw1 hd hx=> ?_,fun vs w1 hw hw1 hd hx=> ?_,fun vs w1 hw hw1 hd hx=> ?_,fun vs w1 hw hw1 hd hx=> ?_,fun vs w1 hw hw1 hd hx=> ?_,fun vs w1 hw hw1 hd hx=> ?_,fun vs w1 hw hw1 hd hx=> ?_,fun vs w1 hw hw1 hd hx=> ?_,fun vs w1 hw hw1 hd hx=> ?_,fun vs w1 hw hw1 hd hx=> ?_,fun vs w1 hw hw1 hd hx=> ?_,fun vs w1 hw hw1 hd hx=> ?_,fun vs w1 hw hw1 hd hx=> ?_,fun vs w1 hw hw1 hd hx=> ?_,fun vs w1 hw hw1 hd hx=> ?_,fun vs w1 hw hw1 hd hx=> ?_,fun vs w1 hw hw1 hd hx=> ?_,fun vs w1 hw hw1 hd hx=> ?_,fun vs w1 hw hw1 hd hx=> ?_,fun vs w1 hw hw1 hd hx=> ?_,fun vs w1 hw hw1 hd hx=> ?_,fun vs w1 hw hw1 hd hx=> ?_,fun vs w1 hw hw1 hd hx=> ?_,fun vs w1 hw hw1 hd hx=> ?_,trivial⟩,?_⟩
 ·refine ai (.pointer (some ⟨b,0,none⟩)) ?_ ⟨rfl,Fr.refl _ _,fun h=>nomatch h⟩;go_simp
 ·have h0:vs 0= .pointer (some ⟨b,0,none⟩):=hd 0 (by kernel_rfl);refine ai (.pointer (some ⟨b,0,none⟩)) ?_ ⟨rfl,Fr.refl _ _,fun h=>nomatch h⟩;go_simp
 ·have h1:vs 1= .pointer (some ⟨b,0,none⟩):=hd 1 (by kernel_rfl);refine ai (.pointer (some ⟨b,8,none⟩)) ?_ ⟨rfl,Fr.refl _ _,fun h=>nomatch h⟩;go_simp
 ·have h2:vs 2= .pointer (some ⟨b,8,none⟩):=hd 2 (by kernel_rfl);refine ai (.pointer (some ⟨m,0,none⟩)) ?_ ⟨rfl,Fr.refl _ _,fun h=>nomatch h⟩;have k8:=(HK.out w1 (hw1 (by kernel_rfl))).1;go_simp
 ·refine ai (.pointer (some ⟨b,0,none⟩)) ?_ ⟨rfl,Fr.refl _ _,fun h=>nomatch h⟩;go_simp
 ·have h4:vs 4= .pointer (some ⟨b,0,none⟩):=hd 4 (by kernel_rfl);refine ai (.pointer (some ⟨b,0,none⟩)) ?_ ⟨rfl,Fr.refl _ _,fun h=>nomatch h⟩;go_simp
 ·have h5:vs 5= .pointer (some ⟨b,0,none⟩):=hd 5 (by kernel_rfl);refine ai (.pointer (some ⟨b,9,none⟩)) ?_ ⟨rfl,Fr.refl _ _,fun h=>nomatch h⟩;go_simp
 ·have h6:vs 6= .pointer (some ⟨b,9,none⟩):=hd 6 (by kernel_rfl);refine ai (.pointer (some ⟨rb,0,none⟩)) ?_ ⟨rfl,Fr.refl _ _,fun h=>nomatch h⟩;have k9:=(HK.out w1 (hw1 (by kernel_rfl))).2.1;go_simp
 ·refine ai (.pointer (some ⟨b,0,none⟩)) ?_ ⟨rfl,Fr.refl _ _,fun h=>nomatch h⟩;go_simp
 ·have h8:vs 8= .pointer (some ⟨b,0,none⟩):=hd 8 (by kernel_rfl);refine ai (.pointer (some ⟨b,0,none⟩)) ?_ ⟨rfl,Fr.refl _ _,fun h=>nomatch h⟩;go_simp
 ·have h9:vs 9= .pointer (some ⟨b,0,none⟩):=hd 9 (by kernel_rfl);refine ai (.pointer (some ⟨b,10,none⟩)) ?_ ⟨rfl,Fr.refl _ _,fun h=>nomatch h⟩;go_simp
 ·have h10:vs 10= .pointer (some ⟨b,10,none⟩):=hd 10 (by kernel_rfl);refine ai (.pointer (some ⟨ub,0,none⟩)) ?_ ⟨rfl,Fr.refl _ _,fun h=>nomatch h⟩;have k10:=ak.cell (hw.2 HB0.out) 10 rfl;go_simp
 ·have h11:vs 11= .pointer (some ⟨ub,0,none⟩):=hd 11 (by kernel_rfl);refine ay 75 #[ub] (by go_simp) ((HBA.out w1 (hw1 (by kernel_rfl))).mono ?_);rintro e w5 ⟨rfl,rfl⟩;exact ⟨_,rfl,rfl,Fr.refl _ _,fun h=>nomatch h⟩
 ·refine ai (.pointer (some ⟨b,0,none⟩)) ?_ ⟨rfl,Fr.refl _ _,fun h=>nomatch h⟩;go_simp
 ·have h13:vs 13= .pointer (some ⟨b,0,none⟩):=hd 13 (by kernel_rfl);refine ai (.pointer (some ⟨b,0,none⟩)) ?_ ⟨rfl,Fr.refl _ _,fun h=>nomatch h⟩;go_simp
 ·have h14:vs 14= .pointer (some ⟨b,0,none⟩):=hd 14 (by kernel_rfl);refine ai (.pointer (some ⟨b,10,none⟩)) ?_ ⟨rfl,Fr.refl _ _,fun h=>nomatch h⟩;go_simp
 ·have h15:vs 15= .pointer (some ⟨b,10,none⟩):=hd 15 (by kernel_rfl);refine ai (.pointer (some ⟨ub,0,none⟩)) ?_ ⟨rfl,Fr.refl _ _,fun h=>nomatch h⟩;have k10:=ak.cell (hw.2 HB0.out) 10 rfl;go_simp
 ·have h16:vs 16= .pointer (some ⟨ub,0,none⟩):=hd 16 (by kernel_rfl);refine ay 76 #[ub] (by go_simp) ((HTA.out w1 (hw1 (by kernel_rfl))).mono ?_);rintro e w5 ⟨rfl,rfl⟩;exact ⟨_,rfl,rfl,Fr.refl _ _,fun h=>nomatch h⟩
 ·refine ai (.pointer (some ⟨b,0,none⟩)) ?_ ⟨rfl,Fr.refl _ _,fun h=>nomatch h⟩;go_simp
 ·have h18:vs 18= .pointer (some ⟨b,0,none⟩):=hd 18 (by kernel_rfl);refine ai (.pointer (some ⟨b,0,none⟩)) ?_ ⟨rfl,Fr.refl _ _,fun h=>nomatch h⟩;go_simp
 ·have h19:vs 19= .pointer (some ⟨b,0,none⟩):=hd 19 (by kernel_rfl);refine ai (.pointer (some ⟨b,0,none⟩)) ?_ ⟨rfl,Fr.refl _ _,fun h=>nomatch h⟩;go_simp
 ·have h20:vs 20= .pointer (some ⟨b,0,none⟩):=hd 20 (by kernel_rfl);refine ai (.pointer (some ⟨b,5,none⟩)) ?_ ⟨rfl,Fr.refl _ _,fun h=>nomatch h⟩;go_simp
 ·have h21:vs 21= .pointer (some ⟨b,5,none⟩):=hd 21 (by kernel_rfl);refine ai (.int .i64 sk) ?_ ⟨rfl,Fr.refl _ _,fun h=>nomatch h⟩;have k5:=(HK.out w1 (hw1 (by kernel_rfl))).2.2.2.1;go_simp
 ·have h3:vs 3= .pointer (some ⟨m,0,none⟩):=hd 3 (by kernel_rfl);have h7:vs 7= .pointer (some ⟨rb,0,none⟩):=hd 7 (by kernel_rfl);have h12:vs 12= .int .i64 Ba:=hd 12 (by kernel_rfl);have h17:vs 17= .int .i64 Tp:=hd 17 (by kernel_rfl);have h22:vs 22= .int .i64 sk:=hd 22 (by kernel_rfl);refine ay 74 #[m,.pointer (some ⟨rb,0,none⟩),.int .i64 Ba,.int .i64 Tp,.int .i64 sk] (by go_simp) ((HOP.out w1 (hw1 (by kernel_rfl))).mono ?_);rintro e w5 ⟨rfl,hz,hp⟩;exact ⟨_,rfl,⟨rfl,hp⟩,⟨hz,fun _=>HZB.out _ hp⟩,fun h=>nomatch h⟩
 ·have h23:=(hd 23 (by kernel_rfl)).1;refine ai (.tuple #[.int .i64 X,.int .i64 0]) ?_ ⟨rfl,Fr.refl _ _,fun h=>nomatch h⟩;go_simp
 ·have h24:vs 24= .tuple #[.int .i64 X,.int .i64 0]:=hd 24 (by kernel_rfl);refine ai (.int .i64 X) ?_ ⟨rfl,Fr.refl _ _,fun h=>nomatch h⟩;go_simp
 ·have h24:vs 24= .tuple #[.int .i64 X,.int .i64 0]:=hd 24 (by kernel_rfl);refine ai (.int .i64 0) ?_ ⟨rfl,Fr.refl _ _,fun h=>nomatch h⟩;go_simp
 ·have h25:vs 25= .int .i64 X:=hd 25 (by kernel_rfl);refine ai (.int .i64 X) ?_ ⟨rfl,Fr.refl _ _,fun h=>nomatch h⟩;go_simp
 ·have h26:vs 26= .int .i64 0:=hd 26 (by kernel_rfl);refine ai (.int .i64 0) ?_ ⟨rfl,Fr.refl _ _,fun h=>nomatch h⟩;go_simp
 intro vs w1 hw hp hx;obtain ⟨g0,g1,g2,g3,g4,g5,g6,g7,g8,g9,g10,g11,g12,g13,g14,g15,g16,g17,g18,g19,g20,g21,g22,g23,g24,g25,g26,g27,g28,_⟩:=hp;obtain ⟨_,hop⟩:=g23;simp only [g27,g28];clear g0 g1 g2 g3 g4 g5 g6 g7 g8 g9 g10 g11 g12 g13 g14 g15 g16 g17 g18 g19 g20 g21 g22 g24 g25 g26 g27 g28 hx hw;simp only [List.drop_succ_cons,List.drop_zero];rw [HZ.out] at hop;obtain ⟨_,hb5,hr5,hle,hp⟩:=hop;have HSE:=ae (ms hr5 (Ba+A.Wd l0) (by omega) hle);rw [←HX.out] at HSE hp;have HLJ:=ae (fun w8 h1 h2=>hp w1 w8 (Fr.refl _ _) h1 h2);have k10:=ak.cell hb5 10 rfl;clear hp hb5 hr5 hle HZ HOP HZF HZB HB0 HBA HTA HK;go_wp2_with fail
 refine (HSE.out).mono ?_;rintro e w6 ⟨rfl,hp1,hp2⟩;obtain ⟨ns2,k12,f12,hq⟩:=HQ.out w6 (HLJ.out w6 hp1 hp2);have H:=ae hq;clear HSE HLJ hp1 hp2 hq HQ k10;go_wp2;go_end0;exact H.out _
theorem iJ (hi:b8 b c A rs u n T w):Calls Tryz.prog 20 #[b] w (lk b c A rs T w):=by
 rcases hi.cf.1.kind1 with h|h|h
 ·exact yt hi h
 ·exact yu hi h
 ·exact yv hi h
end
section
variable {s:bg} {L M L' M':Nat→Nat} {mp mp':Nat→Bool} {mvd:Nat→Bool} {fr ah left top n:Nat}
theorem qB {P a b q:Nat} (hP:1≤P) (hab:a<b):(a/P≤q∧q≤(b-1)/P)↔∃k,a≤k∧k<b∧k/P=q:=by
 constructor
 ·rintro ⟨h1,h2⟩;have h3:q*P≤b-1:=(Nat.le_div_iff_mul_le (by omega)).1 h2;rcases Nat.le_total a (q*P) with h|h
  ·exact ⟨q*P,h,by omega,Nat.mul_div_cancel _ (by omega)⟩
  ·refine ⟨a,Nat.le_refl _,hab,Nat.le_antisymm h1 ((Nat.le_div_iff_mul_le (by omega)).2 h)⟩
 ·rintro ⟨k,h1,h2,rfl⟩;exact ⟨Nat.div_le_div_right h1,Nat.div_le_div_right (by omega)⟩
theorem sA (ho:bT s) (h1:1≤n) (hlow:s.to_+s.N≤top) (htop:top+n≤s.to_+s.R*s.P) (q:Nat):cU s mvd (top+n) q=(cU s mvd top q||(decide (top/s.P≤q)&&decide (q≤(top+n-1)/s.P))):=by
 have hP:=ho.P1;have hq:=ho.toq;have hd:∀i,(s.to_+i)/s.P=s.to_/s.P+i/s.P:=fun i=>oy hP i hq
 have hb:∀t r,eK s t r=true↔∃i,i/s.P=r∧s.N≤i∧s.to_+i<t:=fun t r=>by
  unfold eK;rw [aH hP];simp only [Bool.and_eq_true,decide_eq_true_eq]
 have hin:=qB (P:=s.P) (a:=top) (b:=top+n) (q:=q) hP (by omega);rw [Bool.eq_iff_iff];unfold cU;simp only [Bool.and_eq_true,Bool.or_eq_true,decide_eq_true_eq,hb];constructor
 ·rintro ⟨⟨h2,h3⟩,h4|⟨i,h5,h6,h7⟩⟩
  ·exact .inl ⟨⟨h2,h3⟩,.inl h4⟩
  ·by_cases h8:s.to_+i<top
   ·exact .inl ⟨⟨h2,h3⟩,.inr ⟨i,h5,h6,h8⟩⟩
   ·exact .inr (hin.2 ⟨s.to_+i,by omega,h7,by rw [hd];omega⟩)
 ·rintro (⟨⟨h2,h3⟩,h4|⟨i,h5,h6,h7⟩⟩|h)
  ·exact ⟨⟨h2,h3⟩,.inl h4⟩
  ·exact ⟨⟨h2,h3⟩,.inr ⟨i,h5,h6,by omega⟩⟩
  ·obtain ⟨k,h5,h6,h7⟩:=hin.1 h;obtain ⟨i,rfl⟩:∃i,k=s.to_+i:=⟨k-s.to_,by omega⟩;rw [hd] at h7;have h8:i/s.P<s.R:=by rw [Nat.div_lt_iff_lt_mul (by omega)];omega
   exact ⟨⟨by rw [←h7];exact Nat.le_add_right _ _,by rw [←h7];exact Nat.add_lt_add_left h8 _⟩,.inr ⟨i,by rw [←h7,Nat.add_sub_cancel_left],by omega,h6⟩⟩
theorem fu.put (ho:bT s) (h:fu s L M mp mvd fr ah left top) {lo top':Nat} (hlow:s.to_+s.N≤lo) (hlo:lo≤top) (htt:top≤top') (htop:top'≤s.to_+s.R*s.P) (hpg:∀q,q<s.W/s.P→mp' q=(eB s.P (aj s.E) (aY s.B mvd) q||cU s mvd top' q))
  (hL:∀k,k<lo→L' k=L k) (hM:∀k,k<s.W→mp (k/s.P)=true→(k<lo∨top'≤k)→M' k=M k) (hN:∀k,lo≤k→k<top'→M' k=L' k) (hroom:∃X,(∀k,X k=true→mvd k=true)∧gz s.P (s.W/s.P) s.R s.N (aj s.E) (aY s.B X) (eK s top')≤s.R):
  fu s L' M' mp' mvd fr ah left top':=by
 have hP:=ho.P1;have hq:=ho.toq;have hwq:=ho.Wq;have hto2:=ho.to2;have hd:∀i,(s.to_+i)/s.P=s.to_/s.P+i/s.P:=fun i=>oy hP i hq
 have hWp:∀k,k<s.W→k/s.P<s.W/s.P:=fun k hk=>by rw [Nat.div_lt_iff_lt_mul (by omega),←hwq];exact hk
 have hF:∀a,a<s.W→aj s.E a=true→s.F a<s.to_+s.N:=fun a ha hl=>by
  show goes s.E s.to_ a<_
  rw [mJ];have:=dX hl ha;unfold bg.N;omega
 have hfrom:∀a,a<s.W→aj s.E a=true→mvd (br s.E a/s.B)=false→M' a=M a:=fun a ha hl hm=>by
  refine hM a ha ?_ ?_
  ·rw [h.pages _ (hWp a ha),Bool.or_eq_true];left;unfold eB;rw [aH hP];refine ⟨a,rfl,?_⟩;show (aj s.E a&& !mvd (br s.E a/s.B))=true
   rw [hl,hm];rfl
  ·rcases (ho.from_ a hl).2 with h2|h2
   ·left;omega
   ·right;omega
 have hbeh:∀k,s.to_+s.N≤k→k<lo→M' k=M k:=fun k h2 h3=>by
  refine hM k (by omega) ?_ (.inl h3);obtain ⟨i,rfl⟩:∃i,k=s.to_+i:=⟨k-s.to_,by omega⟩;rw [h.pages _ (hWp _ (by omega)),Bool.or_eq_true];right;have h8:i/s.P<s.R:=by rw [Nat.div_lt_iff_lt_mul (by omega)];omega
  unfold cU;rw [hd,Bool.and_eq_true,Bool.and_eq_true,decide_eq_true_eq,decide_eq_true_eq,Bool.or_eq_true,Nat.add_sub_cancel_left];refine ⟨⟨Nat.le_add_right _ _,Nat.add_lt_add_left h8 _⟩,.inr ?_⟩;unfold eK;rw [aH hP];exact ⟨i,rfl,by rw [Bool.and_eq_true,decide_eq_true_eq,decide_eq_true_eq];exact ⟨by omega,by omega⟩⟩
 refine ⟨fun a ha hl hm=> ?_,fun a ha hl hm=> ?_,fun a ha hl hm h2 h3 h4=> ?_,fun a ha hl hm=> ?_,fun k h2 h3=> ?_,hpg,h.front,h.far,h.Ah,h.left,hroom⟩
 ·have h2:=hF a ha hl;rw [hL _ (by omega),←h.moved a ha hl hm];refine hM _ (by omega) ?_ (.inl (by omega));have h3:s.F a=s.to_+br s.E a:=rfl;rw [h.pages _ (hWp _ (by omega)),Bool.or_eq_true];right;have h8:br s.E a/s.P<s.R:=by rw [Nat.div_lt_iff_lt_mul (by omega)];omega
  unfold cU;rw [h3,hd,Bool.and_eq_true,Bool.and_eq_true,decide_eq_true_eq,decide_eq_true_eq,Bool.or_eq_true,Nat.add_sub_cancel_left];refine ⟨⟨Nat.le_add_right _ _,Nat.add_lt_add_left h8 _⟩,.inl ?_⟩;unfold fO;rw [aH hP];exact ⟨br s.E a,rfl,by rw [Bool.and_eq_true,decide_eq_true_eq];exact ⟨by omega,hm⟩⟩
 ·rw [dw hl (hfrom a ha hl hm),h.still a ha hl hm,hL _ (by have:=hF a ha hl;omega)]
 ·rw [hfrom a ha hl hm] at h4 ⊢;exact h.ptrs a ha hl hm h2 h3 h4
 ·rw [hfrom a ha hl hm];exact h.small a ha hl hm
 ·by_cases h4:k<lo
  ·rw [hbeh k h2 h4,h.behind k h2 (by omega),hL k h4]
  ·exact hN k (by omega) h3
theorem fu.grow (ho:bT s) (h:fu s L M mp mvd fr ah left top) (h1:1≤n) (hlow:s.to_+s.N≤top) (htop:top+n≤s.to_+s.R*s.P) (hmp:∀q,mp' q=(mp q||(decide (top/s.P≤q)&&decide (q≤(top+n-1)/s.P))))
  (hL:∀k,k<top→L' k=L k) (hM:∀k,k<s.W→mp (k/s.P)=true→(k<top∨top+n≤k)→M' k=M k) (hN:∀k,top≤k→k<top+n→M' k=L' k) (hroom:cnt mp' 0 (s.W/s.P)≤s.R):
  fu s L' M' mp' mvd fr ah left (top+n):=by
 have hpg:∀q,q<s.W/s.P→mp' q=(eB s.P (aj s.E) (aY s.B mvd) q||cU s mvd (top+n) q):=fun q hq=>by
  rw [hmp,h.pages q hq,sA ho h1 hlow htop,Bool.or_assoc]
 exact h.put ho hlow (Nat.le_refl _) (by omega) htop hpg hL hM hN ⟨mvd,fun _ h=>h,by rw [←jL ho hpg];exact hroom⟩
theorem ks (mp:Nat→Bool) (a:Nat):∀k,cnt mp a (a+k)+cnt (fun q=> !mp q) a (a+k)=k
 |0=>by rw [bC _ (by omega),bC _ (by omega)]
 |k+1=>by
  rw [←Nat.add_assoc,aC _ (by omega),aC _ (by omega)];have:=ks mp a k
  cases mp (a+k)<;>simp<;>omega
theorem vH (mp mp':Nat→Bool) {a e Q:Nat} (h1:a≤e) (h2:e≤Q) (h:∀q,mp' q=(mp q||(decide (a≤q)&&decide (q<e)))):cnt mp' 0 Q=cnt mp 0 Q+cnt (fun q=> !mp q) a e:=by
 rw [aw mp' (Nat.zero_le a) (by omega),aw mp' h1 h2,aw mp (Nat.zero_le a) (by omega),aw mp h1 h2,
  aJ (f:=mp') (g:=mp) (a:=0) (b:=a) (fun i _ hi=>by rw [h,decide_eq_false (by omega)];simp),aJ (f:=mp') (g:=mp) (a:=e) (b:=Q) (fun i hi _=>by rw [h,decide_eq_false (p:=i<e) (by omega)];simp),
  ib (f:=mp') (a:=a) (b:=e) (fun i h3 h4=>by rw [h,decide_eq_true h3,decide_eq_true h4];simp)]
 have:=ks mp a (e-a);rw [Nat.add_sub_cancel' h1] at this;omega
end
def j4 (c:Cf):Value:= .agg #[.int .i64 (c.kind:Int),.int .i64 (c.Pg:Int),.int .i64 (c.block:Int),.int .i64 (c.Wd:Int),.int .i64 (c.Sl:Int),.int .i64 (c.stack:Int),.int .i64 (c.Ah:Int),.float .f64 c.trig]
theorem jv {c:Cf} (w:World) (h1:1≤c.Pg) (h2:c.block≤1024) (h3:c.Ah≤16):Calls Tryz.prog 182 #[j4 c] w fun e w'=>e= .returned (.int .i64 (c.spare:Int))∧Fr (fun _=>False) w w':=by
 have hS8:Hid ((Tryz.prog.info? 24).map (·.size)=some 8):=by show _=_;kernel_rfl
 have hd0:decide ((c.Pg:Int)=0)=false:=by rw [decide_eq_false_iff_not];omega
 have hd1:¬c.Pg=0:=by omega
 have hq0:=Nat.div_le_self c.block c.Pg;have hq:IntKind.i64.wrap ((c.block:Int)/(c.Pg:Int))=((c.block/c.Pg:Nat):Int):=by
  rw [show (c.block:Int)/(c.Pg:Int)=((c.block/c.Pg:Nat):Int) from rfl];generalize c.block/c.Pg=X at*;rw [IntKind.wrap_i64];omega
 have ha:IntKind.i64.wrap ((c.Ah:Int)+2)=(c.Ah:Int)+2:=by rw [IntKind.wrap_i64];omega
 unfold j4
 go_enter Tryz.func182,Tryz.ntmps182
 obtain ⟨W1,hW1⟩:∃W1,w.alloc (.cells #[.int .i64 (c.kind:Int),.int .i64 (c.Pg:Int),.int .i64 (c.block:Int),.int .i64 (c.Wd:Int),.int .i64 (c.Sl:Int),.int .i64 (c.stack:Int),.int .i64 (c.Ah:Int),.float .f64 c.trig] 24)=W1:=⟨_,rfl⟩;have hf1:Fr (fun _=>False) w W1:=by rw [←hW1];exact (Fr.refl _ w).alloc _
 have hb1:ak W1 w.heap.size [.int .i64 (c.kind:Int),.int .i64 (c.Pg:Int),.int .i64 (c.block:Int),.int .i64 (c.Wd:Int),.int .i64 (c.Sl:Int),.int .i64 (c.stack:Int),.int .i64 (c.Ah:Int),.float .f64 c.trig] 24:=by rw [←hW1];exact ak.new w _ _
 have k6:=hb1.drew.cell 6 rfl;have k2:=hb1.drew.cell 2 rfl;have k1:=hb1.drew.cell 1 rfl;have HF1:=ae hf1;clear hf1 hb1;obtain ⟨Q,hQ⟩:∃Q,Q=c.block/c.Pg:=⟨_,rfl⟩;rw [←hQ] at hq hq0;have HQ:=ae hQ;clear hQ;go_wp2;clear hW1;refine aB (fun w'=>w'=W1.drew) 10 (by kernel_rfl) (by kernel_rfl) rfl ?_;simp only [List.take_succ_cons,List.take_zero,List.drop_succ_cons,List.drop_zero];refine ag (.pointer (some ⟨w.heap.size,6,none⟩)) rfl (fun w hw=>by go_simp) ?_;simp only [Act.put,aa,ab,ac];refine ag (.int .i64 (c.Ah:Int)) rfl (fun w hw=>by subst hw;go_simp) ?_;simp only [Act.put,aa,ab,ac];refine ag (.int .i64 ((c.Ah:Int)+2)) rfl (fun w hw=>by go_simp) ?_;simp only [Act.put,aa,ab,ac];refine ag (.pointer (some ⟨w.heap.size,2,none⟩)) rfl (fun w hw=>by go_simp) ?_;simp only [Act.put,aa,ab,ac];refine ag (.int .i64 (c.block:Int)) rfl (fun w hw=>by subst hw;go_simp) ?_;simp only [Act.put,aa,ab,ac];refine ag (.pointer (some ⟨w.heap.size,1,none⟩)) rfl (fun w hw=>by go_simp) ?_;simp only [Act.put,aa,ab,ac];refine ag (.int .i64 (c.Pg:Int)) rfl (fun w hw=>by subst hw;go_simp) ?_;simp only [Act.put,aa,ab,ac];refine ag (.int .i64 Q) rfl (fun w hw=>by go_simp) ?_;simp only [Act.put,aa,ab,ac];refine ag (.int .i64 ((max Q 1:Nat):Int)) rfl (fun w hw=>by go_simp;omega) ?_;simp only [Act.put,aa,ab,ac];refine ag (.int .i64 ((max Q 1+3:Nat):Int)) rfl (fun w hw=>by go_simp;rw [IntKind.wrap_i64];omega) ?_;simp only [Act.put,aa,ab,ac];refine wpQuiet_nil ?_;rintro w2 rfl;have hsp:∀M:Nat,M≤1024→wrap64 (((c.Ah:Int)+2)*((M:Int)+3))=(((c.Ah+2)*(M+3):Nat):Int):=fun M hM=>by
  have h4:(c.Ah+2)*(M+3)≤18*1027:=Nat.mul_le_mul (by omega) (by omega);have h5:((c.Ah:Int)+2)*((M:Int)+3)=(((c.Ah+2)*(M+3):Nat):Int):=by push_cast;rfl
  rw [h5];generalize (c.Ah+2)*(M+3)=Z at*;unfold wrap64;omega
 have hsp2:=hsp (max Q 1) (by omega);have hs3:(c.Ah+2)*(max Q 1+3)=c.spare:=by unfold Cf.spare;rw [HQ.out]
 rw [hs3] at hsp2;clear hsp hs3;go_wp2;go_ret;exact ⟨congrArg (fun x=>Ending.returned (.int .i64 x)) hsp2,HF1.out.drew⟩
section
variable {P:Program} {a:Act} {o:Oper}
theorem qD {ty:TypeId} {x:Operand} (ho:o.op= .load ty x) (b f:Nat) (hx:a.eval x= .pointer (some ⟨b,f,none⟩)) (cs:List Value) (d:TypeDesc) {w:World}
  (hg:w.rangeAt b f cs) (hu:P.underlying ty=some d) (hd:d.isRow=true) (hi:(P.info? ty).map (·.size)=some cs.length):
  (execOp a.eval o).run P w= .ok (.value (.agg cs.toArray)) w:=by
 unfold execOp;simp only [ho,hx,Instr.loadAt,Instr.sureAddr,Sem.run_bind,Sem.run_pure,Result.andThen_ok,run_loadVar_mid w b f ty cs d hg hu hd hi]
end
def xY (q:Nat→Prop) (b:Nat) (c:Cf) (A:AG) (rs:List Nat) (u n:Nat) (T:Nat→Prop) (w:World):Prop:=
 ∃h φ L Ba ub cy ns bs S,h.b=b∧fU q h c A rs φ L Ba u ub cy n ns bs S w∧(∀k,T k↔gj h ub S k)∧(n=0→cy=none)
def l7 (eL:Nat) (b:Nat) (c:Cf) (A:AG) (rs:List Nat) (u:Nat) (T:Nat→Prop) (w:World) (e:Ending) (w':World):Prop:=e= .returned (.tuple #[])∧∃n T',xY (fun Us=>Us+eL≤c.Wd/c.Pg) b c A rs u n T' w'∧Fr T w w'∧∀k,T' k→T k∨w.heap.size≤k
section
variable {b u n:Nat} {c:Cf} {A:AG} {rs:List Nat} {T:Nat→Prop} {w wr:World}
theorem ep.drew (hr:ep b c A rs u n T w wr):ep b c A rs u n T w wr.drew:=let ⟨T',h1,h2,h3⟩:=hr;⟨T',h1.keep ((Fr.refl _ _).drew),h2.drew,h3⟩
theorem uO (eL:Nat) (hr:ep b c A rs u n T w wr):
  (n=0∧(∀w',Fr (fun _=>False) wr w'→w'.cell? ⟨b,11,none⟩=some (.pointer none)∧True)∧∀w',Fr (fun _=>False) wr w'→l7 eL b c A rs u T w (.returned (.tuple #[])) w')∨
  (n≠0∧∃(y m Us:Nat),Us≤4096∧(∀w',Fr (fun _=>False) wr w'→w'.cell? ⟨b,11,none⟩=some (.pointer (some ⟨y,0,none⟩))∧w'.cell? ⟨b,8,none⟩=some (.pointer (some ⟨m,0,none⟩))∧True)∧(∀w',Fr (fun _=>False) wr w'→Calls Tryz.prog 183 #[m] w' fun e w''=>e= .returned (.int .i64 (c.Fs:Int))∧w'=w'')∧
   (∀w',Fr (fun _=>False) wr w'→Calls Tryz.prog 78 #[m] w' fun e w''=>e= .returned (.int .i64 Us)∧w'=w'')∧c.Fs=c.Wd/c.Pg+c.spare∧(∀w',Fr (fun _=>False) wr w'→w'.rangeAt b 0 [.int .i64 (c.kind:Int),.int .i64 (c.Pg:Int),.int .i64 (c.block:Int),.int .i64 (c.Wd:Int),.int .i64 (c.Sl:Int),.int .i64 (c.stack:Int),.int .i64 (c.Ah:Int),.float .f64 c.trig])∧
   (Us+eL≤c.Wd/c.Pg→∀w',Fr (fun _=>False) wr w'→l7 eL b c A rs u T w (.returned (.tuple #[])) w')):=by
 obtain ⟨T',⟨h,φ,L,Ba,ub,cy,ns,bs,S,rfl,hw,hT,hcy⟩,h2,h3⟩:=hr
 cases cy with
 |none=>
  left;refine ⟨hw.mem.1,fun w' hf=>⟨ak.cell (hw.keep hf).blk 11 rfl,trivial⟩,fun w' hf=>⟨rfl,n,T',⟨h,φ,L,Ba,ub,none,ns,bs,S,rfl,?_,hT,fun _=>rfl⟩,h2.trans hf (fun _ h=>h.elim),h3⟩⟩;have h1:=hw.keep hf;exact ⟨h1.cok,h1.blk,h1.roots,h1.reg,h1.tab,h1.laid,h1.Sl,h1.fits,h1.half,h1.mem,h1.d,h1.e⟩
 |some y=>
  right;refine ⟨fun h0=>(by cases hcy h0),?_⟩;obtain ⟨hk,cc,s,hf',hg,Mv,fr,ah,q1,⟨Us,_,q2⟩,r1,r2,r3,r4,r5,r6,r7,r8⟩:=id hw.mem;have hmem:∀w',Fr (fun _=>False) wr w'→∃Hg Sm mp M,bl w' h.m Sm c.Pg c.W c.Fs Us Hg mp M:=fun w' hf=>by
   obtain ⟨Hg,Sm,mp,M,fw,k,p1,p2,p3,p4,p5⟩:=q2.stays hf (fun _ _ h=>h) (fun h=>h);have hm:=p1.mem;rw [r2,r4,r6] at hm;exact ⟨Hg,Sm,mp,M,hm⟩
  refine ⟨y,h.m,Us,?_,fun w' hf=>⟨ak.cell (hw.keep hf).blk 11 rfl,ak.cell (hw.keep hf).blk 8 rfl,trivial⟩,fun w' hf=> ?_,fun w' hf=> ?_,?_,fun w' hf j v hv=> ?_,fun hq w' hf=>⟨rfl,n,T',⟨h,φ,L,Ba,ub,some y,ns,bs,S,rfl,?_,hT,hcy⟩,h2.trans hf (fun _ h=>h.elim),h3⟩⟩
  ·obtain ⟨Hg,Sm,mp,M,hm⟩:=hmem wr (Fr.refl _ _);have:=hm.at;omega
  ·obtain ⟨Hg,Sm,mp,M,hm⟩:=hmem w' hf;exact rS hm
  ·obtain ⟨Hg,Sm,mp,M,hm⟩:=hmem w' hf;exact kL hm
  ·unfold Cf.Fs;rw [if_pos hk]
  ·rw [Nat.zero_add];have hj:j<8:=(List.getElem?_eq_some_iff.1 hv).1;refine ak.cell (hw.keep hf).blk j ?_;unfold Cf.cells;rw [List.getElem?_append_left (by exact hj)];exact hv
  ·have h1:=hw.keep hf;exact ⟨h1.cok,h1.blk,h1.roots,h1.reg,h1.tab,h1.laid,h1.Sl,h1.fits,h1.half,⟨hk,cc,s,hf',hg,Mv,fr,ah,q1,⟨Us,hq,q2.stays hf (fun _ _ h=>h) (fun h=>h)⟩,r1,r2,r3,r4,r5,r6,r7,r8⟩,h1.d,h1.e⟩
theorem mS (hi:b8 b c A rs u n T w) (sz:Nat) (hsz:sz≤1024):Calls Tryz.prog 123 #[b,.int .i64 sz] w (l7 (sz/c.Pg+2) b c A rs u T w):=by
 have hcf:=hi.cf.1;have H0:=ae (show ep b c A rs u n T w w from ⟨T,hi,Fr.refl _ _,fun _ h=> .inl h⟩);have HST:=ae (fun n w1 (hh:ep b c A rs u n T w w1)=>(show Calls Tryz.prog 17 #[b] w1 fun e w2=>e= .returned (.bool (decide (n≠0)))∧ep b c A rs u (n-1) T w w2 from by
  obtain ⟨T',q1,q2,q3⟩:=hh;refine (mT q1).mono ?_;rintro e w2 ⟨rfl,T'',r1,r2,r3⟩;have hz:=q2.size;exact ⟨rfl,T'',r1,q2.trans r2 q3,fun k hk=>by
   rcases r3 k hk with h|h
   ·exact q3 k h
   ·exact .inr (by omega)⟩))
 have k1:w.cell? ⟨b,1,none⟩=some (.int .i64 (c.Pg:Int)):=by
  obtain ⟨h,φ,L,Ba,ub,cy,ns,bs,S,rfl,q2,q3,q4⟩:=hi;exact ak.cell q2.blk 1 rfl
 have HS8:Hid ((Tryz.prog.info? 24).map (·.size)=some 8):=by show _=_;kernel_rfl
 have hp1:=hcf.page2;have hd1:¬c.Pg=0:=by omega
 have hq0:=Nat.div_le_self sz c.Pg;have hq:IntKind.i64.wrap ((sz:Int)/(c.Pg:Int))=((sz/c.Pg:Nat):Int):=by
  rw [show (sz:Int)/(c.Pg:Int)=((sz/c.Pg:Nat):Int) from rfl];generalize sz/c.Pg=X at*;rw [IntKind.wrap_i64];omega
 have HSPA:=ae (fun w'=>jv (c:=c) w' hcf.page2 hcf.block3 hcf.ahead1);have hfr:=hcf.frames1;clear hcf hp1;obtain ⟨eL,hpgs⟩:∃eL,eL=sz/c.Pg+2:=⟨_,rfl⟩;have hpg1:eL≤2000:=by generalize sz/c.Pg=X at*;omega
 have hpg2:((sz/c.Pg:Nat):Int)+2=(eL:Int):=by rw [hpgs];push_cast;rfl
 have hpw:IntKind.i64.wrap (((sz/c.Pg:Nat):Int)+2)=(eL:Int):=by rw [hpg2,IntKind.wrap_i64];omega
 rw [←hpgs];have HFIND:=ae (fun n wr (hr:ep b c A rs u n T w wr)=>uO eL hr);clear hpg2 hpgs;generalize sz/c.Pg=X at*;have HPG:=ae hpg1;clear hpg1 hi;generalize (l7 eL b c A rs u T w)=Q at*
 go_enter Tryz.func123,Tryz.ntmps123
 go_wp2;clear k1 hq hq0 hd1 hpw
 go_loopw [] (fun wr=>∃n,Hid (ep b c A rs u n T w wr)) (fun wr=>dE (fun n=>ep b c A rs u n T w wr))
 case atStart=>exact ⟨n,H0⟩
 case round=>
  clear H0;obtain ⟨m0',hm⟩:=hrel;obtain ⟨hr,_⟩:=bS (P:=fun n=>ep b c A rs u n T w wr) hm.out;clear hm;generalize hm0:dE (fun n=>ep b c A rs u n T w wr)=m0 at hr;have HM0:=ae hm0;have HS:=ae (fun w1 (hf:Fr (fun _=>False) wr.drew w1)=>HST.out m0 w1 (let ⟨T',h1,h2,h3⟩:=hr;⟨T',h1.keep (((Fr.refl (fun _=>False) wr).drew).trans hf (fun _ h=>h.elim)),h2.trans (((Fr.refl (fun _=>False) wr).drew).trans hf (fun _ h=>h.elim)) (fun _ h=>h.elim),h3⟩));have hfi:=HFIND.out m0 wr.drew hr.drew;clear hm0 hr HFIND HST;rcases hfi with ⟨h0,hk,hq⟩|⟨h0,y,m,Us,hu,hk,hrm,hus,hfs,hrg,hq⟩
  ·have HK:=ae hk;have HQ:=ae hq;clear hk hq HS h0;go_wp2;refine aB (fun w'=>Fr (fun _=>False) wr.drew w') 24 (by kernel_rfl) (by kernel_rfl) (Fr.refl _ _) ?_;simp only [List.take_succ_cons,List.take_zero,List.drop_succ_cons,List.drop_zero];refine ag (.pointer (some ⟨b,0,none⟩)) rfl (fun w' hw=>by go_simp) ?_;simp only [Act.put,aa,ab,ac];refine ag (.pointer (some ⟨b,0,none⟩)) rfl (fun w' hw=>by go_simp) ?_;simp only [Act.put,aa,ab,ac];refine ag (.pointer (some ⟨b,11,none⟩)) rfl (fun w' hw=>by go_simp) ?_;simp only [Act.put,aa,ab,ac];refine ag (.pointer none) rfl (fun w' hw=>by have k11:=(HK.out w' hw).1;go_simp) ?_;simp only [Act.put,aa,ab,ac];refine ag (.bool false) rfl (fun w' hw=>by go_simp) ?_;simp only [Act.put,aa,ab,ac];refine ag (.bool false) rfl (fun w' hw=>by go_simp) ?_;simp only [Act.put,aa,ab,ac]
   go_big_quiet_skip
   go_big_quiet_skip
   go_big_quiet_skip
   go_big_quiet_skip
   go_big_quiet_skip
   go_big_quiet_skip
   go_big_quiet_skip
   go_big_quiet_skip
   go_big_quiet_skip
   go_big_quiet_skip
   go_big_quiet_skip
   go_big_quiet_skip
   go_big_quiet_skip
   go_big_quiet_skip
   go_big_quiet_skip
   go_big_quiet_skip
   go_big_quiet_skip
   go_big_quiet_skip
   refine wpQuiet_nil ?_;rintro w2 hf2;have H:=ae (HQ.out w2 hf2);clear hf2 HQ HK;go_wp2;go_end0;exact H.out
  ·rw [decide_eq_true h0] at HS;have HN0:=ae h0;generalize c.Wd/c.Pg=Y at hfs hq;have HK:=ae hk;have HQ:=ae hq;have HRG:=ae hrg;obtain ⟨sp,hsp⟩:∃sp,sp=c.spare:=⟨_,rfl⟩;have HSP:Hid (∀w',Fr (fun _=>False) wr.drew w'→Calls Tryz.prog 182 #[j4 c] w' fun e w''=>e= .returned (.int .i64 sp)∧Fr (fun _=>False) wr.drew w''):=by
    show∀w',_
    intro w' hf;rw [hsp];refine (HSPA.out w').mono ?_;rintro e w'' ⟨rfl,h⟩;exact ⟨rfl,hf.trans h (fun _ h=>h.elim)⟩
   have HRM:Hid (∀w',Fr (fun _=>False) wr.drew w'→Calls Tryz.prog 183 #[m] w' fun e w''=>e= .returned (.int .i64 (c.Fs:Int))∧Fr (fun _=>False) wr.drew w''):=by
    show∀w',_
    intro w' hf;refine (hrm w' hf).mono ?_;rintro e w'' ⟨rfl,rfl⟩;exact ⟨rfl,hf⟩
   have HUS:Hid (∀w',Fr (fun _=>False) wr.drew w'→Calls Tryz.prog 78 #[m] w' fun e w''=>e= .returned (.int .i64 Us)∧Fr (fun _=>False) wr.drew w''):=by
    show∀w',_
    intro w' hf;refine (hus w' hf).mono ?_;rintro e w'' ⟨rfl,rfl⟩;exact ⟨rfl,hf⟩
   rw [←hsp] at hfs;obtain ⟨fr,hfr2⟩:∃fr,fr=c.Fs:=⟨_,rfl⟩;rw [←hfr2] at hfs hfr HRM;have hw1:IntKind.i64.wrap ((fr:Int)-(Us:Int))=(fr:Int)-(Us:Int):=by rw [IntKind.wrap_i64];omega
   have hw2:IntKind.i64.wrap ((eL:Int)+(sp:Int))=(eL:Int)+(sp:Int):=by have:=HPG.out;rw [IntKind.wrap_i64];omega
   have hcmp:(¬(fr:Int)-(Us:Int)<(eL:Int)+(sp:Int))→Us+eL≤Y:=fun h=>by rw [hfs] at h;push_cast at h;omega
   have HCM:=ae hcmp;clear hk hq hrg hrm hus hsp hfr2 hfs hfr hu hcmp h0 HSPA;by_cases hlt:(fr:Int)-(Us:Int)<(eL:Int)+(sp:Int)
   ·clear HQ HCM;go_wp2;refine aB (fun w'=>Fr (fun _=>False) wr.drew w') 24 (by kernel_rfl) (by kernel_rfl) (Fr.refl _ _) ?_;simp only [List.take_succ_cons,List.take_zero,List.drop_succ_cons,List.drop_zero];refine ag (.pointer (some ⟨b,0,none⟩)) rfl (fun w' hw=>by go_simp) ?_;simp only [Act.put,aa,ab,ac];refine ag (.pointer (some ⟨b,0,none⟩)) rfl (fun w' hw=>by go_simp) ?_;simp only [Act.put,aa,ab,ac];refine ag (.pointer (some ⟨b,11,none⟩)) rfl (fun w' hw=>by go_simp) ?_;simp only [Act.put,aa,ab,ac];refine ag (.pointer (some ⟨y,0,none⟩)) rfl (fun w' hw=>by have k11:=(HK.out w' hw).1;go_simp) ?_;simp only [Act.put,aa,ab,ac];refine ag (.bool true) rfl (fun w' hw=>by go_simp) ?_;simp only [Act.put,aa,ab,ac];refine ag (.bool true) rfl (fun w' hw=>by go_simp) ?_;simp only [Act.put,aa,ab,ac];refine al (.pointer (some ⟨b,0,none⟩)) rfl (fun w' hw=>by go_simp) ?_;simp only [Act.put,aa,ab,ac];refine al (.pointer (some ⟨b,0,none⟩)) rfl (fun w' hw=>by go_simp) ?_;simp only [Act.put,aa,ab,ac];refine al (.pointer (some ⟨b,8,none⟩)) rfl (fun w' hw=>by go_simp) ?_;simp only [Act.put,aa,ab,ac];refine al (.pointer (some ⟨m,0,none⟩)) rfl (fun w' hw=>by have k8:=(HK.out w' hw).2.1;go_simp) ?_;simp only [Act.put,aa,ab,ac];refine cL (.int .i64 fr) 183 #[.pointer (some ⟨m,0,none⟩)] rfl (fun w'=>by go_simp) (fun w' hw=>HRM.out w' hw) ?_;simp only [Act.put,aa,ab,ac];refine al (.pointer (some ⟨b,0,none⟩)) rfl (fun w' hw=>by go_simp) ?_;simp only [Act.put,aa,ab,ac];refine al (.pointer (some ⟨b,0,none⟩)) rfl (fun w' hw=>by go_simp) ?_;simp only [Act.put,aa,ab,ac];refine al (.pointer (some ⟨b,8,none⟩)) rfl (fun w' hw=>by go_simp) ?_;simp only [Act.put,aa,ab,ac];refine al (.pointer (some ⟨m,0,none⟩)) rfl (fun w' hw=>by have k8:=(HK.out w' hw).2.1;go_simp) ?_;simp only [Act.put,aa,ab,ac];refine cL (.int .i64 Us) 78 #[.pointer (some ⟨m,0,none⟩)] rfl (fun w'=>by go_simp) (fun w' hw=>HUS.out w' hw) ?_;simp only [Act.put,aa,ab,ac];refine al (.int .i64 ((fr:Int)-(Us:Int))) rfl (fun w' hw=>by go_simp) ?_;simp only [Act.put,aa,ab,ac];refine al (.int .i64 eL) rfl (fun w' hw=>by go_simp) ?_;simp only [Act.put,aa,ab,ac];refine al (.pointer (some ⟨b,0,none⟩)) rfl (fun w' hw=>by go_simp) ?_;simp only [Act.put,aa,ab,ac];refine al (.pointer (some ⟨b,0,none⟩)) rfl (fun w' hw=>by go_simp) ?_;simp only [Act.put,aa,ab,ac];refine al (.pointer (some ⟨b,0,none⟩)) rfl (fun w' hw=>by go_simp) ?_;simp only [Act.put,aa,ab,ac];refine al (j4 c) rfl (fun w' hw=>qD rfl b 0 rfl _ _ (HRG.out w' hw) rfl rfl HS8.out) ?_;simp only [Act.put,aa,ab,ac];refine cL (.int .i64 sp) 182 #[j4 c] rfl (fun w'=>by go_simp) (fun w' hw=>HSP.out w' hw) ?_;simp only [Act.put,aa,ab,ac];refine al (.int .i64 ((eL:Int)+(sp:Int))) rfl (fun w' hw=>by go_simp) ?_;simp only [Act.put,aa,ab,ac];refine wpQuiet_nil ?_;rintro w2 hf2;have HS2:=ae (HS.out w2 hf2);clear HS HK HRG HRM HUS HSP hf2;go_wp2_with fail
    refine (HS2.out).mono ?_;rintro e w3 ⟨rfl,hq⟩;have H:=ae hq;clear hq HS2;go_wp2;go_roundw
    case rel=>exact ⟨m0-1,H⟩
    case measure=>exact Nat.lt_of_le_of_lt (bS (P:=fun n=>ep b c A rs u n T w w3) H.out).2 (by have:=HN0.out;have:=HM0.out;omega)
   ·have HQ2:=ae (HQ.out (HCM.out hlt));clear HQ HCM HS;go_wp2;refine aB (fun w'=>Fr (fun _=>False) wr.drew w') 24 (by kernel_rfl) (by kernel_rfl) (Fr.refl _ _) ?_;simp only [List.take_succ_cons,List.take_zero,List.drop_succ_cons,List.drop_zero];refine ag (.pointer (some ⟨b,0,none⟩)) rfl (fun w' hw=>by go_simp) ?_;simp only [Act.put,aa,ab,ac];refine ag (.pointer (some ⟨b,0,none⟩)) rfl (fun w' hw=>by go_simp) ?_;simp only [Act.put,aa,ab,ac];refine ag (.pointer (some ⟨b,11,none⟩)) rfl (fun w' hw=>by go_simp) ?_;simp only [Act.put,aa,ab,ac];refine ag (.pointer (some ⟨y,0,none⟩)) rfl (fun w' hw=>by have k11:=(HK.out w' hw).1;go_simp) ?_;simp only [Act.put,aa,ab,ac];refine ag (.bool true) rfl (fun w' hw=>by go_simp) ?_;simp only [Act.put,aa,ab,ac];refine ag (.bool true) rfl (fun w' hw=>by go_simp) ?_;simp only [Act.put,aa,ab,ac];refine al (.pointer (some ⟨b,0,none⟩)) rfl (fun w' hw=>by go_simp) ?_;simp only [Act.put,aa,ab,ac];refine al (.pointer (some ⟨b,0,none⟩)) rfl (fun w' hw=>by go_simp) ?_;simp only [Act.put,aa,ab,ac];refine al (.pointer (some ⟨b,8,none⟩)) rfl (fun w' hw=>by go_simp) ?_;simp only [Act.put,aa,ab,ac];refine al (.pointer (some ⟨m,0,none⟩)) rfl (fun w' hw=>by have k8:=(HK.out w' hw).2.1;go_simp) ?_;simp only [Act.put,aa,ab,ac];refine cL (.int .i64 fr) 183 #[.pointer (some ⟨m,0,none⟩)] rfl (fun w'=>by go_simp) (fun w' hw=>HRM.out w' hw) ?_;simp only [Act.put,aa,ab,ac];refine al (.pointer (some ⟨b,0,none⟩)) rfl (fun w' hw=>by go_simp) ?_;simp only [Act.put,aa,ab,ac];refine al (.pointer (some ⟨b,0,none⟩)) rfl (fun w' hw=>by go_simp) ?_;simp only [Act.put,aa,ab,ac];refine al (.pointer (some ⟨b,8,none⟩)) rfl (fun w' hw=>by go_simp) ?_;simp only [Act.put,aa,ab,ac];refine al (.pointer (some ⟨m,0,none⟩)) rfl (fun w' hw=>by have k8:=(HK.out w' hw).2.1;go_simp) ?_;simp only [Act.put,aa,ab,ac];refine cL (.int .i64 Us) 78 #[.pointer (some ⟨m,0,none⟩)] rfl (fun w'=>by go_simp) (fun w' hw=>HUS.out w' hw) ?_;simp only [Act.put,aa,ab,ac];refine al (.int .i64 ((fr:Int)-(Us:Int))) rfl (fun w' hw=>by go_simp) ?_;simp only [Act.put,aa,ab,ac];refine al (.int .i64 eL) rfl (fun w' hw=>by go_simp) ?_;simp only [Act.put,aa,ab,ac];refine al (.pointer (some ⟨b,0,none⟩)) rfl (fun w' hw=>by go_simp) ?_;simp only [Act.put,aa,ab,ac];refine al (.pointer (some ⟨b,0,none⟩)) rfl (fun w' hw=>by go_simp) ?_;simp only [Act.put,aa,ab,ac];refine al (.pointer (some ⟨b,0,none⟩)) rfl (fun w' hw=>by go_simp) ?_;simp only [Act.put,aa,ab,ac];refine al (j4 c) rfl (fun w' hw=>qD rfl b 0 rfl _ _ (HRG.out w' hw) rfl rfl HS8.out) ?_;simp only [Act.put,aa,ab,ac];refine cL (.int .i64 sp) 182 #[j4 c] rfl (fun w'=>by go_simp) (fun w' hw=>HSP.out w' hw) ?_;simp only [Act.put,aa,ab,ac];refine al (.int .i64 ((eL:Int)+(sp:Int))) rfl (fun w' hw=>by go_simp) ?_;simp only [Act.put,aa,ab,ac];refine wpQuiet_nil ?_;rintro w2 hf2;have H:=ae (HQ2.out w2 hf2);clear HK HRG HRM HUS HSP hf2 HQ2;go_wp2;go_end0;exact H.out
end
end Go.Proofs.YthahbijbpinneaaGreatDoor
