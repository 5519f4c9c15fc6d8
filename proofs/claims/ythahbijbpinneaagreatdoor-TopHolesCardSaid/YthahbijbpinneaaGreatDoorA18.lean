import Derived.Test.YthahbijbpinneaaGreatDoorA2
import Derived.Test.YthahbijbpinneaaGreatDoorA9
import Derived.Test.YthahbijbpinneaaGreatDoorA10
import Derived.Test.YthahbijbpinneaaGreatDoorA14
import Derived.Test.YthahbijbpinneaaGreatDoorA16
import Derived.Test.YthahbijbpinneaaGreatDoorA17
import Derived.Deep.RegionHeld3
import Derived.OrdersIn
import Derived.TacticsIn
set_option maxRecDepth 100000
set_option maxHeartbeats 8000000
set_option linter.all false
namespace Go.Proofs.YthahbijbpinneaaGreatDoor
open Go.RowKit
theorem fe {P:Program} {fn:Func} {p q:Tmp} {t1 t2:TypeId} {v u:Value} (h:fn.results= #[.cell p t1,.cell q t2]) (tmps:Array Value) (w:World) (a b:Addr) (hp:tmps.getD p undef= .pointer (some a)) (hq:tmps.getD q undef= .pointer (some b)) (h1:(loadVar t1 a).run P w= .ok v w) (h2:(loadVar t2 b).run P w= .ok u w):
  (results fn tmps).run P w= .ok (.tuple #[v,u]) w:=by
 have e:(results fn tmps).run P w=((asAddr (tmps.getD p undef)).run P w).andThen fun a w1=>((loadVar t1 a).run P w1).andThen fun v w2=>((asAddr (tmps.getD q undef)).run P w2).andThen fun b w3=>((loadVar t2 b).run P w3).andThen fun u w4=> .ok (.tuple #[v,u]) w4:=by
  simp only [results,h];simp [Sem.run_bind,Result.andThen]
 rw [e,hp,hq];simp [asAddr,Result.andThen,h1,h2]
theorem t9 {w:World} {a:Addr} {x:Int} (h:w.cell? a=some (.int .i64 x)):(loadVar 3 a).run Tryz.prog w= .ok (.int .i64 x) w:=by
 go_simp
theorem jy {w:World} {a:Addr} {x:Int} (h:w.cell? a=some (.int .i64 x)):(loadVar 28 a).run Tryz.prog w= .ok (.int .i64 x) w:=by
 go_simp
theorem fQ {P:Program} {c:Code} {Q:Exit→Act→World→Prop} {a:Act} {w:World} (h:c.wp P (fun e a w=>match e with| .normal=>Q .normal a w|_=>False) a w):c.wp P Q a w:=
 wp_mono h (fun e a w h=>by cases e<;>first|exact h|exact h.elim)
section
variable {m b g Pg W Fs Us Hg:Nat} {S:Nat→Prop} {mp:Nat→Bool} {L:Nat→Nat} {ls:List Nat} {G:Gr} {w:World}
def yf (m Pg W Fs Us Hg:Nat) (mp:Nat→Bool) (L:Nat→Nat) (S:Nat→Prop) (G:Gr) (ls:List Nat) (w:World) (e:Ending) (w':World):Prop:=
 ∃(E:Nat→Nat) (S':Nat→Prop),e= .returned (.tuple #[.int .i64 ((cnt (aj E) 0 W:Nat):Int),.int .i64 0])∧bi m Pg W Fs Us Hg mp L S' w'∧(∀k,S' k→S k∨w.heap.size≤k)∧(∀a,E a≠0↔Reach G ls a)∧bU G ls E∧Fr S w w'
def yL (m Pg W Fs Us Hg:Nat) (mp:Nat→Bool) (L:Nat→Nat) (S:Nat→Prop) (EL:aI) (G:Gr) (ls:List Nat) (wx w3:World) (st:dl):Prop:=
 ∃S',bi m Pg W Fs Us Hg mp L S' w3∧(∀k,S' k→S k∨wx.heap.size≤k)∧bA w3 EL W st.E∧bU G ls st.E∧st.nw=cnt (aj st.E) 0 W∧(∀a,st.E a≠0↔Reach G ls a)∧Fr (fun k=>S k∨EL.has k) wx w3
theorem ug {EL:aI} {w2:World} {Rm Tp:Nat} (hi:bi m Pg W Fs Us Hg mp L S w) (hT:bu w) (hSt:¬S aN) (hG:cg G ls Tp) (hO:∀a,G.size a≠0→dy L (aX W Pg mp) G a) (htop:Tp≤W) (h4:1≤Rm) (h5:Rm≤4096) (hf:Fr (fun _=>False) w w2) (he:bA w2 EL W (fun _=>0)) (hn:∀k,EL.has k→w.heap.size<k) (hrl:ls.length≤64)
  (cb:Nat) (hcb:cb<w2.heap.size):
  ∀(wx:World) (_:Fr (fun _=>False) w2 wx) (rb rc:Nat) (_:w2.heap.size≤rb) (_:rb<wx.heap.size) (_:∀(i a:Nat),ls[i]? =some a→wx.cell? ⟨rb,i,none⟩=some (.int .i64 a)),Calls Tryz.prog 68 #[.iface 112 (.pointer (some ⟨m,0,none⟩)),.slice (some ⟨rb,0,none⟩) ls.length rc,.pointer (some ⟨EL.m,0,none⟩),.int .i64 Rm] wx fun e w3=>
   ∃(st:dl) (nr nv:Int),e= .returned (.tuple #[.agg #[.int .i64 (st.no:Int),.int .i64 (st.nw:Int),.int .i64 nr,.int .i64 nv],.int .i64 0])∧(∀q cs t,w2.heap.size≤q→ak wx q cs t→ak w3 q cs t)∧(∀v,¬S cb→¬EL.has cb→wx.cell? ⟨cb,5,none⟩=some v→w3.cell? ⟨cb,5,none⟩=some v)∧yL m Pg W Fs Us Hg mp L S EL G ls wx w3 st:=by
 intro wx hx rb rc r1 r2 r3;have hlaw:=aF m Pg W Fs Us Hg mp;have hsl:=hlaw.lt _ _ _ hi;have hfw:=hf.trans hx (fun _ h=>h.elim);have hz:=hf.size;have htl:aN<w.heap.size:=aE (hT 0 0 rfl);have hel:=he.lt;refine (fY (w:=wx) (Rm:=Rm) hlaw (hlaw.keep hi hfw) hG htop hO h4 h5 (he.frame hx (fun _ _ h=>h)) (an hT hfw (fun h=>h)) (fun k hk=>⟨fun h=>by have:=hsl k hk;have:=hn k h;omega,fun e=>hSt (e▸hk)⟩) (fun h=>by have h1:=hn _ h;omega) rb rc ⟨r2,fun h=>by have:=hsl _ h;omega,fun h=>by have:=hel _ h;omega⟩ r3 (by omega)).mono ?_;rintro e w3 ⟨st,nr,nv,S',rfl,q1,q2,q3,q4,q5,q6⟩;refine ⟨st,nr,nv,rfl,fun q cs t hq hb=>hb.frame q6 (fun h=> ?_),fun v n1 n2 hc=> ?_,S',q1,q2,q3,q4.marked,?_,q5,q6⟩
 ·rcases h with h|h
  ·have:=hsl q h;omega
  ·have:=hel q h;omega
 ·exact (World.cell?_of_block (w:=wx) (w':=w3) (a:=⟨cb,5,none⟩) (q6.block _ (aE hc) (fun h=>h.elim n1 n2))).trans hc
 ·rw [q4.nw,aw (aj st.E) (Nat.zero_le Tp) htop,aD (a:=Tp) (b:=W) (fun i h1 _=>by
   rw [Bool.eq_false_iff];intro hl;obtain ⟨s,s1,s2⟩:=aQ.1 hl;have h6:=(q4.marked s (by omega)).2;have:=hG.top s (by omega);omega),Nat.add_zero]
def yC (m Pg W Fs Us Hg:Nat) (mp:Nat→Bool) (L:Nat→Nat) (S:Nat→Prop) (EL:aI) (G:Gr) (ls:List Nat) (w2:World) (sb:Nat) (st:dl) (wx:World):Prop:=
 w2.heap.size≤sb∧(∃nr nv:Int,ak wx sb [.int .i64 (st.no:Int),.int .i64 (st.nw:Int),.int .i64 nr,.int .i64 nv] 136)∧∃S',bi m Pg W Fs Us Hg mp L S' wx∧(∀k,S' k→S k∨w2.heap.size≤k)∧bA wx EL W st.E∧bU G ls st.E∧st.nw=cnt (aj st.E) 0 W∧(∀a,st.E a≠0↔Reach G ls a)∧Fr (fun k=>S k∨EL.has k) w2 wx
theorem qg {EL:aI} {w2 wx w4:World} {st:dl} {nr nv:Int} (h:yL m Pg W Fs Us Hg mp L S EL G ls wx w4 st) (hx:Fr (fun _=>False) w2 wx):yC m Pg W Fs Us Hg mp L S EL G ls w2 w4.heap.size st (w4.alloc (.cells #[.int .i64 (st.no:Int),.int .i64 (st.nw:Int),.int .i64 nr,.int .i64 nv] 136)):=by
 obtain ⟨S',q1,q2,q3,q4,q5,q6,q7⟩:=h;have hz:=hx.size;have hz2:=q7.size;have hf:Fr (fun _=>False) w4 (w4.alloc (.cells #[.int .i64 (st.no:Int),.int .i64 (st.nw:Int),.int .i64 nr,.int .i64 nv] 136)):=(Fr.refl _ w4).alloc _;exact ⟨by omega,⟨nr,nv,ak.new w4 _ _⟩,S',(aF m Pg W Fs Us Hg mp).keep q1 hf,fun k hk=>(q2 k hk).imp id (fun h=>by omega),q3.frame hf (fun _ _ h=>h),q4,q5,q6,((hx.mono (fun _ h=>h.elim)).trans q7 (fun k h=> .inl h)).trans hf (fun _ h=>h.elim)⟩
theorem iU {EL:aI} {w2 wx w4:World} {st:dl} {nr nv:Int} {sb:Nat} (h:yL m Pg W Fs Us Hg mp L S EL G ls wx w4 st) (hx:Fr (fun _=>False) w2 wx) (hsl:∀k,S k→k<w2.heap.size) (hel:∀k,EL.has k→k<w2.heap.size) (h1:w2.heap.size≤sb) (h2:sb<wx.heap.size) (hb:ak w4 sb [.int .i64 0,.int .i64 0,.int .i64 0,.int .i64 0] 136):
  yC m Pg W Fs Us Hg mp L S EL G ls w2 sb st ((((w4.setCell ⟨sb,0,none⟩ (.int .i64 (st.no:Int))).setCell ⟨sb,1,none⟩ (.int .i64 (st.nw:Int))).setCell ⟨sb,2,none⟩ (.int .i64 nr)).setCell ⟨sb,3,none⟩ (.int .i64 nv)):=by
 obtain ⟨S',q1,q2,q3,q4,q5,q6,q7⟩:=h;have hz:=hx.size;have hz2:=q7.size;have hf:Fr (fun k=>k=sb) w4 ((((w4.setCell ⟨sb,0,none⟩ (.int .i64 (st.no:Int))).setCell ⟨sb,1,none⟩ (.int .i64 (st.nw:Int))).setCell ⟨sb,2,none⟩ (.int .i64 nr)).setCell ⟨sb,3,none⟩ (.int .i64 nv)):=
  ((((Fr.refl (fun k=>k=sb) w4).setCell ⟨sb,0,none⟩ (.inl rfl) _).setCell ⟨sb,1,none⟩ (.inl rfl) _).setCell ⟨sb,2,none⟩ (.inl rfl) _).setCell ⟨sb,3,none⟩ (.inl rfl) _
 refine ⟨h1,⟨nr,nv,(((hb.set 0 _).set 1 _).set 2 _).set 3 _⟩,S',(aR m Pg W Fs Us Hg mp) _ _ _ _ _ q1 hf (fun k hk e=> ?_),fun k hk=>(q2 k hk).imp id (fun h=>by omega),q3.frame hf (fun k hk e=>by have:=hel k hk;omega),q4,q5,q6,((hx.mono (fun _ h=>h.elim)).trans q7 (fun k h=> .inl h)).trans hf (fun k h=> .inr (by omega))⟩;subst e;rcases q2 k hk with h|h
 ·have:=hsl k h;omega
 ·omega
def vh (EL:aI) (tb W cb:Nat) (cs:List Value) (E:Nat→Nat) (_:List (Nat×Nat)) (S:Nat→Prop) (w:World):Prop:=j6 EL tb W E w∧ak w cb cs 143∧∀k,¬S k
theorem vh.stays {EL:aI} {tb cb B:Nat} {cs:List Value} {E:Nat→Nat} (h1:∀k,EL.has k→k<B) (h2:tb<B) (h3:cb<B) (h4:aN<B):cq B (vh EL tb W cb cs E):=by
 rintro pre S W1 W2 T ⟨⟨q1,q2,q3⟩,q4,q5⟩ hf hT;exact ⟨⟨q1.frame hf (fun k hk ht=>by have:=h1 k hk;have:=(hT k ht).1;omega),an q2 hf (fun ht=>by have h5:=(hT aN ht).1;omega),q3.frame hf (fun ht=>by have:=(hT _ ht).1;omega)⟩,q4.frame hf (fun ht=>by have:=(hT _ ht).1;omega),q5⟩
attribute [local go_sem] Oper.semAt_some
theorem ri (d:Nat) (hi:bi m Pg W Fs Us Hg mp L S w) (hr:aW w b g ls) (hT:bu w) (hSt:¬S aN) (F Tp T Li B Rm ah:Nat) (hc:fS Pg W F Tp T Li B Rm ah) (hG:cg G ls Tp) (hO:∀a,G.size a≠0→dy L (aX W Pg mp) G a) (hlo:∀a,G.size a≠0→F≤a) (hl1:1≤ls.length) (hfit:Tp-F≤Li-T):
  CallsIn Fence.wide d Tryz.prog 143 #[m,.pointer (some ⟨b,0,none⟩),cG F Tp T Li B Rm ah] w (yf m Pg W Fs Us Hg mp L S G ls w):=by
 refine callsIn_of_wp_marks Tryz.func143 rfl trivial ?_ rfl;simp only [Tryz.ntmps143,List.size_toArray,List.length_cons,List.length_nil,Nat.reduceAdd,Nat.reduceSub,Array.replicate_succ,Array.replicate_zero,List.push_toArray,List.append_toArray,List.nil_append,List.cons_append];have HCV:Hid (∀F Tp T Li B st ah:Nat,cG F Tp T Li B st ah= .agg #[.int .i64 F,.int .i64 Tp,.int .i64 T,.int .i64 Li,.int .i64 B,.int .i64 st,.int .i64 ah]):=by
  show∀F Tp T Li B st ah:Nat,_
  intros;rfl
 have hlaw:=aF m Pg W Fs Us Hg mp;obtain ⟨e1,e2,e3,e4,e5,e6,e7,e8,hW1⟩:=hi.choose_spec.1.at;clear e1 e2 e4 e5 e6 e7 e8;have hsl:=hlaw.lt _ _ _ hi;have hrl:=hr.small;obtain ⟨W1,hW1d⟩:∃W1,((w.alloc (.cells #[.int .i64 F,.int .i64 Tp,.int .i64 T,.int .i64 Li,.int .i64 B,.int .i64 Rm,.int .i64 ah] 143)).alloc (.cells #[.int .i64 0] 3)).alloc (.cells #[.int .i64 0] 28)=W1:=⟨_,rfl⟩;have hf1:Fr (fun _=>False) w W1:=by rw [←hW1d];exact (((Fr.refl _ w).alloc _).alloc _).alloc _
 have HZ1:Hid (W1.heap.size=w.heap.size+3):=by
  show _=_
  rw [←hW1d,World.size_alloc,World.size_alloc,World.size_alloc]
 have hb1:ak W1 w.heap.size [.int .i64 F,.int .i64 Tp,.int .i64 T,.int .i64 Li,.int .i64 B,.int .i64 Rm,.int .i64 ah] 143:=by rw [←hW1d];exact ((ak.new w _ _).alloc _).alloc _
 have hb67:ak W1 (w.heap.size+1) [.int .i64 0] 3∧ak W1 (w.heap.size+1+1) [.int .i64 0] 28:=by
  rw [←hW1d];refine ⟨?_,?_⟩
  ·have:=(ak.new (w.alloc (.cells #[.int .i64 F,.int .i64 Tp,.int .i64 T,.int .i64 Li,.int .i64 B,.int .i64 Rm,.int .i64 ah] 143)) [.int .i64 0] 3).alloc (.cells #[.int .i64 0] 28);rwa [World.size_alloc] at this
  ·have:=ak.new ((w.alloc (.cells #[.int .i64 F,.int .i64 Tp,.int .i64 T,.int .i64 Li,.int .i64 B,.int .i64 Rm,.int .i64 ah] 143)).alloc (.cells #[.int .i64 0] 3)) [.int .i64 0] 28;rwa [World.size_alloc,World.size_alloc] at this
 have HB67:=ae hb67;clear hb67;have hr1:=hr.frame hf1 (fun h=>h) (fun h=>h);have HLN:=ae (jS hr1);have HCK:=ae (kX (hi.choose_spec.1.keep hf1) hc);unfold cG at HCK;unfold cG;have hl0:¬(ls.length:Int)=0:=by omega
 have HF1:=ae hf1;have HR1:=ae hr1;have HT1:=ae (an hT hf1 (fun h=>h));have HB1:=ae hb1;have HA1:=ae (af hi (af hr (af hT (af hSt (af hc (af hG (af hO (af hlo (af hfit (af hlaw (af hsl hrl)))))))))));have hwl:W≤1048576:=by omega
 have k0:=hb1.cell 0 rfl;have k1:=hb1.cell 1 rfl;have k2:=hb1.cell 2 rfl;have k3:=hb1.cell 3 rfl;have k4:=hb1.cell 4 rfl;have k5:=hb1.cell 5 rfl;have k6:=hb1.cell 6 rfl;clear hi hr hT hSt hc hG hO hlo hl1 hfit hlaw hsl hrl hf1 hb1 hr1 HCV e3;gi_wp2;clear hW1d;refine bt ((HLN.out).mono ?_);rintro e w' ⟨rfl,rfl⟩;clear HLN;gi_wp2;refine bt ((HCK.out).mono ?_);rintro e w1 ⟨rfl,hf2⟩;clear HCK k0 k1 k2 k3 k4 k5 k6;have HF2:=ae hf2;have HWD:=ae (cD (HA1.out.1.choose_spec.1.keep (HF1.out.trans hf2 (fun _ h=>h.elim))));clear hf2;gi_wp2;refine bt ((HWD.out).mono ?_);rintro e w' ⟨rfl,rfl⟩;have HNW:=ae (gw W hW1 hwl w1);clear HWD;gi_wp2;refine bt ((HNW.out).mono ?_);rintro e w2 ⟨EL,rfl,he,hn,hf⟩;clear HNW;have HE2:=ae (af he (af hn hf));have hf12:=HF2.out.trans hf (fun _ h=>h.elim);have HB2:=ae (HB1.out.frame hf12 (fun h=>h));have HC5:=ae (fun w' (hf:Fr (fun _=>False) w2 w')=>(HB2.out.frame hf (fun h=>h)).cell 5 rfl);have HAL:=ae (fun w' (hf:Fr (fun _=>False) w2 w')=>gN ((HR1.out.frame hf12 (fun h=>h) (fun h=>h)).frame hf (fun h=>h) (fun h=>h)));have HMK:=ae (ug (EL:=EL) (w2:=w2) (Rm:=Rm) (G:=G) (ls:=ls) (Tp:=Tp) HA1.out.1 HA1.out.2.2.1 HA1.out.2.2.2.1 HA1.out.2.2.2.2.2.1 HA1.out.2.2.2.2.2.2.1 HA1.out.2.2.2.2.1.F3 HA1.out.2.2.2.2.1.s1 HA1.out.2.2.2.2.1.s2 ((HF1.out).trans hf12 (fun _ h=>h.elim)) he (fun k hk=>by have h1:=hn k hk;have h2:W1.heap.size=w.heap.size+3:=HZ1.out;have h3:=HF2.out.size;omega) (HA1.out.2.2.2.2.2.2.2.2.2.2.2) w.heap.size (by have h1:W1.heap.size=w.heap.size+3:=HZ1.out;have h2:=hf12.size;omega));have HD0:=ae ((Fr.refl (fun _=>False) w2).drew);have HD1:=ae (fun o=>((Fr.refl (fun _=>False) w2).alloc o).drew);have HSE:=ae (show (∀k,S k→k<w2.heap.size)∧(∀k,EL.has k→k<w2.heap.size)∧w2.heap.size≥w.heap.size+3 from ⟨fun k hk=>by have h1:k<w.heap.size:=HA1.out.2.2.2.2.2.2.2.2.2.2.1 k hk;have h2:=HF1.out.size;have h3:=hf12.size;omega,fun k hk=>he.lt k hk,by have h2:W1.heap.size=w.heap.size+3:=HZ1.out;have h3:=hf12.size;omega⟩);have HNE:Hid (w2.heap.size≠w.heap.size):=ae (by have h1:=aE (HC5.out w2 (Fr.refl _ _));exact Nat.ne_of_gt h1);have HNS:=ae (show¬S w.heap.size∧¬EL.has w.heap.size from af (fun h=>by have h1:w.heap.size<w.heap.size:=HA1.out.2.2.2.2.2.2.2.2.2.2.1 _ h;omega) (fun h=>by have h1:=hn _ h;have h2:W1.heap.size=w.heap.size+3:=HZ1.out;have h3:=HF2.out.size;omega));clear he hn hf hf12;gi_wp2;refine wpIn_wide.2 ?_
 go_cut [11,12] from 15 to 69 (fun v11 v12 wx=>∃(sb:Nat) (st:dl),v11= .pointer (some ⟨sb,0,none⟩)∧v12= .int .i64 0∧Hid (yC m Pg W Fs Us Hg mp L S EL G ls w2 sb st wx))
 case first=>
  refine fQ ?_
  go_region_held3 (fun w'=>w'.cell? ⟨w.heap.size,5,none⟩=some (.int .i64 Rm)) (with_reducible first
   |assumption
   |exact HC5.out _ HD0.out
   |exact HC5.out _ (HD1.out _)
   |(refine (World.cell?_alloc_lt _ _ _ (World.block_lt_of_cell? _ _ (by assumption))).trans (by assumption))
   |((iterate 4 (refine (World.cell?_setCell_far _ _ _ _ (by first|exact Nat.ne_of_gt (World.block_lt_of_cell? _ _ hcf3)|exact Nat.ne_of_lt (World.block_lt_of_cell? _ _ hcf3)|exact Nat.ne_of_gt (World.block_lt_of_cell? _ _ hcf4)|exact Nat.ne_of_lt (World.block_lt_of_cell? _ _ hcf4)|exact HNE.out)).trans ?_));assumption)) (first
   |(go_at_call 69;refine (HAL.out _ (by with_reducible first|exact HD0.out|exact HD1.out _)).mono ?_;rintro e w3 ⟨rb,rc,rfl,r1,r2,r3,hf3⟩;(have hz3:Fr (fun _=>False) w2 w3:=by with_reducible first|exact HD0.out.trans hf3 (fun _ h=>h.elim)|exact (HD1.out _).trans hf3 (fun _ h=>h.elim));(have r1':w2.heap.size≤rb:=by with_reducible first|exact Nat.le_trans HD0.out.size r1|exact Nat.le_trans (HD1.out _).size r1);have hcf3:=HC5.out w3 hz3;(try (have hbq:ak w3 w2.heap.size [.int .i64 0,.int .i64 0,.int .i64 0,.int .i64 0] 136:=ak.frame (by with_reducible exact ak.drew (ak.new w2 _ _)) hf3 (fun h=>h)));clear hf3 r1)
   |(go_at_call 68;with_reducible refine (HMK.out w3 hz3 rb rc r1' r2 r3).mono ?_;rintro e w4 ⟨st,nr,nv,rfl,hkp,hc5,hmf⟩;have hcf4:=hc5 _ HNS.out.1 HNS.out.2 hcf3;(try (have hbk:=hkp _ _ _ (Nat.le_refl _) hbq;have k0:=hbk.cell 0 rfl;have k1:=hbk.cell 1 rfl;have k2:=hbk.cell 2 rfl;have k3:=hbk.cell 3 rfl;have l0:=hbk.free 0;have l1:=hbk.free 1;have l2:=hbk.free 2;have l3:=hbk.free 3));clear hc5)
   |(go_at_call 68;refine (HMK.out (w3.alloc _) (hz3.alloc _) rb rc r1' (by rw [World.size_alloc];omega) (fun i a ha=>(World.cell?_alloc_lt _ _ _ (World.block_lt_of_cell? _ _ (r3 i a ha))).trans (r3 i a ha))).mono ?_;rintro e w4 ⟨st,nr,nv,rfl,hkp,hc5,hmf⟩;have hcf4:=hc5 _ HNS.out.1 HNS.out.2 ((World.cell?_alloc_lt _ _ _ (World.block_lt_of_cell? _ _ hcf3)).trans hcf3);have hbk:=hkp _ _ _ hz3.size (ak.new w3 [.int .i64 0,.int .i64 0,.int .i64 0,.int .i64 0] 136);have k0:=hbk.cell 0 rfl;have k1:=hbk.cell 1 rfl;have k2:=hbk.cell 2 rfl;have k3:=hbk.cell 3 rfl;have l0:=hbk.free 0;have l1:=hbk.free 1;have l2:=hbk.free 2;have l3:=hbk.free 3;clear hc5))
  ·go_wp2;go_meet
   case rel=>exact ⟨_,st,rfl,rfl,ae (qg hmf hz3)⟩
  ·go_wp2;go_meet
   case rel=>exact ⟨_,st,rfl,rfl,ae (iU hmf (hz3.alloc _) HSE.out.1 HSE.out.2.1 hz3.size (by rw [World.size_alloc];omega) hbk)⟩
  ·go_wp2;go_meet
   case rel=>exact ⟨_,st,rfl,rfl,ae (iU hmf hz3 HSE.out.1 HSE.out.2.1 (Nat.le_refl _) hbq.lt hbk)⟩
 case rest=>
  clear HC5 HAL HMK HD0 HD1 HNE;obtain ⟨sb,st,rfl,rfl,hm⟩:=hcut;obtain ⟨z1,⟨nr,nv,zb⟩,S',z2,z3,z4,z5,z6,z7,z8⟩:=hm.out;have HB4:=ae (HB2.out.frame z8 (fun h=>h.elim HNS.out.1 HNS.out.2));have HA:=ae (dB EL.m wc);gi_wp2;refine bt ((HA.out).mono ?_);rintro e W7 ⟨rfl,hW7⟩;have hf7:Fr (fun _=>False) wc W7:=by rw [hW7];exact (Fr.refl _ wc).alloc _
  have htb:ak W7 wc.heap.size [.pointer (some ⟨EL.m,0,none⟩)] 132:=by rw [hW7];exact ak.new wc _ _
  have hz7:W7.heap.size=wc.heap.size+1:=by rw [hW7];exact Array.size_push _
  clear hW7 HA;obtain ⟨a1,a2,a3,a4,a5,a6,a7,a8,a9,a10,a11,a12⟩:=HA1.out;obtain ⟨e1,e2,e3⟩:=HE2.out;have hf12:=HF2.out.trans e3 (fun _ h=>h.elim);have htl:aN<w.heap.size:=aE (a3 0 0 rfl);have hT7:bu W7:=an (an (an HT1.out hf12 (fun h=>h)) z8 (fun h=>h.elim a4 (fun h=>by have h5:=e2 aN h;have h6:=HF2.out.size;have h7:W1.heap.size=w.heap.size+3:=HZ1.out;omega))) hf7 (fun h=>h);have hI0:vh EL wc.heap.size W w.heap.size [.int .i64 F,.int .i64 Tp,.int .i64 T,.int .i64 Li,.int .i64 B,.int .i64 Rm,.int .i64 ah] st.E [] (fun _=>False) W7:=
   ⟨⟨z4.frame hf7 (fun _ _ h=>h),hT7,htb⟩,HB4.out.frame hf7 (fun h=>h),fun _ h=>h⟩
  have hw2c:=z8.size;have hstay:cq W7.heap.size (vh EL wc.heap.size W w.heap.size [.int .i64 F,.int .i64 Tp,.int .i64 T,.int .i64 Li,.int .i64 B,.int .i64 Rm,.int .i64 ah] st.E):=
   vh.stays (fun k hk=>by have:=HSE.out.2.1 k hk;omega) (by omega) (by have:=HSE.out.2.2;omega) (by have:=HSE.out.2.2;omega)
  have HOB:=ae (fun (s n:Nat) (pre:List (Nat×Nat)) (hx:(aO st.E W)[pre.length]? =some (s,n))=>(show F≤s∧s+n≤Tp∧Tp≤524288 from by
   obtain ⟨m1,m2,m3⟩:=bh.1 (List.mem_of_getElem? hx);dsimp only at m1 m2 m3;have h1:=z5 s m2;have h2:G.size s≠0:=by rw [←h1.2];exact m2
   exact ⟨a8 s h2,by rw [m3,h1.2];exact a6.top s h2,by have:=a5.F3;have:=a1.choose_spec.1.at.2.2.1;omega⟩))
  have hsm2:=z4.small.2;have HZB:=ae zb;have HMX:=ae (af z1 (af z2 (af z3 (af z5 (af z6 (af z7 (af z8 (af hf7 (af hz7 hf12)))))))));have HNS2:=ae (show st.nw≤Li-T∧T≤Li∧Li≤524288 from by
   have h1:=a5.T2;have h2:=a5.T3;have h3:=a1.choose_spec.1.at.2.2.1;refine ⟨?_,by omega,by omega⟩;have h4:cnt (aj st.E) 0 W≤Tp-F:=by
    rw [aw (aj st.E) (Nat.zero_le F) (Nat.le_trans a5.F2 a5.F3),aw (aj st.E) a5.F2 a5.F3,aD (a:=0) (b:=F) (fun i _ hi=>by
     rw [Bool.eq_false_iff];intro hl;obtain ⟨s,s1,s2⟩:=aQ.1 hl;have h6:=z5 s (by omega);have:=a8 s (by omega);omega),aD (a:=Tp) (b:=W) (fun i hi _=>by
     rw [Bool.eq_false_iff];intro hl;obtain ⟨s,s1,s2⟩:=aQ.1 hl;have h6:=z5 s (by omega);have:=a6.top s (by omega);omega),Nat.zero_add,Nat.add_zero]
    exact be _ _ _
   omega)
  clear a1 a2 a3 a4 a5 a6 a7 a8 a9 a10 a11 a12 e1 e2 e3 htl hT7 hw2c z1 z2 z3 z4 z5 z6 z7 z8 zb hm htb hf12;gi_wp2;refine df (gf:=220) (lb:= #[wc.heap.size]) rfl (enters_of Tryz.func220 (by kernel_rfl) rfl) (encs:=fM) (fun _=>rfl) (dz (L:=EL) (tb:=wc.heap.size) (E:=st.E) hsm2) (vh EL wc.heap.size W w.heap.size [.int .i64 F,.int .i64 Tp,.int .i64 T,.int .i64 Li,.int .i64 B,.int .i64 Rm,.int .i64 ah] st.E) (fun _=>False) hstay (fun _ _ _ h=>h.1) (fun _ h=>h.elim) hI0
   ?a1 ?assign ?body ?done
  case assign=>
   intro k x W K hK;unfold fM;gi_wp2;exact hK
  case body=>
   intro l pre S9 x W9 hI hlen hf hs;obtain ⟨s,n⟩:=x;obtain ⟨o1,o2,o3⟩:=HOB.out s n pre hlen;have k0:=hI.2.1.cell 0 rfl;have k1:=hI.2.1.cell 1 rfl;have d1:decide ((s:Int)<(F:Int))=false:=by rw [decide_eq_false_iff_not];omega
   have d2:decide ((Tp:Int)<(s:Int)+(n:Int))=false:=by rw [decide_eq_false_iff_not];omega
   have hwr:IntKind.i64.wrap ((s:Int)+(n:Int))=(s:Int)+(n:Int):=by rw [IntKind.wrap_i64];omega
   have HI:=ae hI;clear hI hlen hf hs hI0 hstay HOB HMX HZB HNS2 HA1 HE2;gi_wp2;exact ⟨S9,HI.out,Fr.refl _ _,fun _ h=> .inl h⟩
  case done=>
   intro D S9 W9 hI hD hDn hSD hf9 hs9;obtain ⟨z1,z2,z3,z5,z6,z7,z8,hf7,hz7,hf12⟩:=HMX.out;obtain ⟨n1,n2,n3⟩:=HNS2.out;have hfc9:=hf7.trans hf9 (fun _ h=>h.elim);have hzb:=HZB.out.frame hfc9 (fun h=>h);have hsz:=HSE.out;have hn67:¬(S (w.heap.size+1)∨EL.has (w.heap.size+1))∧¬(S (w.heap.size+1+1)∨EL.has (w.heap.size+1+1)):=by
    have h1:=HA1.out.2.2.2.2.2.2.2.2.2.2.1;have h2:=HE2.out.2.1;have h3:=HF2.out.size;have h4:W1.heap.size=w.heap.size+3:=HZ1.out;refine ⟨fun h=> ?_,fun h=> ?_⟩
    ·rcases h with h|h
     ·have:=h1 _ h;omega
     ·have:=h2 _ h;omega
    ·rcases h with h|h
     ·have:=h1 _ h;omega
     ·have:=h2 _ h;omega
   have b6:=((HB67.out.1.frame hf12 (fun h=>h)).frame z8 hn67.1).frame hfc9 (fun h=>h);have b7:=((HB67.out.2.frame hf12 (fun h=>h)).frame z8 hn67.2).frame hfc9 (fun h=>h);have k2:=hI.2.1.cell 2 rfl;have k3:=hI.2.1.cell 3 rfl;have s1:=hzb.cell 1 rfl;have c6:=b6.cell 0 rfl;have c7:=b7.cell 0 rfl;have f6:=b6.free 0;have f7:=b7.free 0;have hne6:w.heap.size+1≠sb∧w.heap.size+1+1≠sb∧w.heap.size+1≠w.heap.size+1+1:=by omega
   have hwr:IntKind.i64.wrap ((Li:Int)-(T:Int))=(Li:Int)-(T:Int):=by rw [IntKind.wrap_i64];omega
   have d1:decide ((Li:Int)-(T:Int)<(st.nw:Int))=false:=by rw [decide_eq_false_iff_not];omega
   have HFIN:Hid (∀w',Fr (fun k=>k=w.heap.size+1∨k=w.heap.size+1+1∨k=D) W9 w'→yf m Pg W Fs Us Hg mp L S G ls w (.returned (.tuple #[.int .i64 (st.nw:Int),.int .i64 0])) w'):=by
    show∀w',_
    intro w' hfw;have hzc:=z8.size;have hz12:=hf12.size;have h4:W1.heap.size=w.heap.size+3:=HZ1.out;have hall:Fr S w w':=by
     have q1:Fr S w w2:=(HF1.out.mono (fun _ h=>h.elim)).trans hf12 (fun _ h=>h.elim);have q2:Fr S w wc:=q1.trans z8 (fun k hk=>by
      rcases hk with hk|hk
      ·exact .inl hk
      ·have:=HE2.out.2.1 k hk;have:=HF2.out.size;exact .inr (by omega))
     have q3:Fr S w W9:=q2.trans hfc9 (fun _ h=>h.elim);exact q3.trans hfw (fun k hk=>by rcases hk with rfl|rfl|rfl<;>exact .inr (by omega))
    refine ⟨st.E,S',by rw [z6],(aR m Pg W Fs Us Hg mp) _ _ _ _ _ ((aF m Pg W Fs Us Hg mp).keep z2 hfc9) hfw (fun k hk h=> ?_),fun k hk=>(z3 k hk).imp id (fun h=>by omega),z7,z5,hall⟩;have hkl:=(aF m Pg W Fs Us Hg mp).lt _ _ _ z2 k hk;have hz9:=hf7.size;rcases h with rfl|rfl|rfl
    ·rcases z3 _ hk with h|h
     ·exact hn67.1 (.inl h)
     ·omega
    ·rcases z3 _ hk with h|h
     ·exact hn67.2 (.inl h)
     ·omega
    ·omega
   have HD:=ae hD;have HDn:=ae (show D≠w.heap.size+1∧D≠w.heap.size+1+1 from by have:=z8.size;omega);have HB6:=ae b6;have HB7:=ae b7;clear hI hD hDn hSD hf9 hs9 z1 z2 z3 z5 z6 z7 z8 hf7 hz7 hf12 n1 n2 n3 hfc9 hzb hsz hn67 b6 b7 hI0 hstay HOB HMX HZB HNS2 HA1 HE2 HB4 HB67 HF1 HF2 HR1 HT1 HSE HZ1;gi_wp2;obtain ⟨Wf,hWf⟩:∃Wf,(W9.setCell ⟨w.heap.size+1,0,none⟩ (.int .i64 (st.nw:Int))).setCell ⟨w.heap.size+1+1,0,none⟩ (.int .i64 0)=Wf:=⟨_,rfl⟩;rw [hWf];have hff:Fr (fun k=>k=w.heap.size+1∨k=w.heap.size+1+1) W9 Wf:=by
    rw [←hWf];exact ((Fr.refl _ W9).setCell ⟨w.heap.size+1,0,none⟩ (.inl (.inl rfl)) _).setCell ⟨w.heap.size+1+1,0,none⟩ (.inl (.inr rfl)) _
   have h6:ak Wf (w.heap.size+1) [.int .i64 (st.nw:Int)] 3:=by
    rw [←hWf];exact (HB6.out.set 0 _).setOther _ _ hne6.2.2
   have h7:ak Wf (w.heap.size+1+1) [.int .i64 0] 28:=by
    rw [←hWf];exact (HB7.out.setOther _ _ (Ne.symm hne6.2.2)).set 0 _
   have hDf:Wf.heap[D]? =some (.deferred (some [])):=hff.heap HD.out (fun h=>h.elim HDn.out.1 HDn.out.2);have hfp:Fr (fun k=>k=D) Wf (Wf.putObj D (.deferred none)):=(Fr.refl _ Wf).putObj _ _ (.inl rfl);refine ⟨by simp,.inl ⟨_,_,rfl,run_takeDeferred hDf,?_⟩⟩;refine ⟨_,fe rfl _ _ ⟨w.heap.size+1,0,none⟩ ⟨w.heap.size+1+1,0,none⟩ rfl rfl (t9 ((h6.frame hfp (Ne.symm HDn.out.1)).cell 0 rfl)) (jy ((h7.frame hfp (Ne.symm HDn.out.2)).cell 0 rfl)),?_⟩;exact HFIN.out _ ((hff.mono (fun k hk=> .inl (hk.elim .inl (fun h=> .inr (.inl h))))).trans hfp (fun k hk=> .inl (.inr (.inr hk))))
end
theorem t8 {w:World} {a:Addr} {x:Option Addr} (h:w.cell? a=some (.pointer x)):(loadVar 132 a).run Tryz.prog w= .ok (.pointer x) w:=by
 go_simp
section
variable {m b g Pg W Fs Us Hg:Nat} {S:Nat→Prop} {mp:Nat→Bool} {L:Nat→Nat} {ls:List Nat} {G:Gr} {w:World}
attribute [local go_sem] Oper.semAt_some
theorem nN (d:Nat) (hi:bi m Pg W Fs Us Hg mp L S w) (hr:aW w b g ls) (hT:bu w) (hSt:¬S aN) (F Tp T Li B Rm ah:Nat) (hc:fS Pg W F Tp T Li B Rm ah) (hG:cg G ls Tp) (hO:∀a,G.size a≠0→dy L (aX W Pg mp) G a) (hlo:∀a,G.size a≠0→F≤a):
  CallsIn Fence.wide d Tryz.prog 189 #[m,.pointer (some ⟨b,0,none⟩),cG F Tp T Li B Rm ah] w (yG m Pg W Fs Us Hg mp L S G ls w):=by
 refine callsIn_of_wp_marks Tryz.func189 rfl trivial ?_ rfl;simp only [Tryz.ntmps189,List.size_toArray,List.length_cons,List.length_nil,Nat.reduceAdd,Nat.reduceSub,Array.replicate_succ,Array.replicate_zero,List.push_toArray,List.append_toArray,List.nil_append,List.cons_append];have HCV:Hid (∀F Tp T Li B st ah:Nat,cG F Tp T Li B st ah= .agg #[.int .i64 F,.int .i64 Tp,.int .i64 T,.int .i64 Li,.int .i64 B,.int .i64 st,.int .i64 ah]):=by
  show∀F Tp T Li B st ah:Nat,_
  intros;rfl
 have hlaw:=aF m Pg W Fs Us Hg mp;obtain ⟨e1,e2,e3,e4,e5,e6,e7,e8,hW1⟩:=hi.choose_spec.1.at;clear e1 e2 e4 e5 e6 e7 e8;have hsl:=hlaw.lt _ _ _ hi;have hrl:=hr.small;obtain ⟨W1,hW1d⟩:∃W1,((w.alloc (.cells #[.int .i64 F,.int .i64 Tp,.int .i64 T,.int .i64 Li,.int .i64 B,.int .i64 Rm,.int .i64 ah] 143)).alloc (.cells #[.pointer none] 132)).alloc (.cells #[.int .i64 0] 28)=W1:=⟨_,rfl⟩;have hf1:Fr (fun _=>False) w W1:=by rw [←hW1d];exact (((Fr.refl _ w).alloc _).alloc _).alloc _
 have HZ1:Hid (W1.heap.size=w.heap.size+3):=by
  show _=_
  rw [←hW1d,World.size_alloc,World.size_alloc,World.size_alloc]
 have hb1:ak W1 w.heap.size [.int .i64 F,.int .i64 Tp,.int .i64 T,.int .i64 Li,.int .i64 B,.int .i64 Rm,.int .i64 ah] 143:=by rw [←hW1d];exact ((ak.new w _ _).alloc _).alloc _
 have hb67:ak W1 (w.heap.size+1) [.pointer none] 132∧ak W1 (w.heap.size+1+1) [.int .i64 0] 28:=by
  rw [←hW1d];refine ⟨?_,?_⟩
  ·have:=(ak.new (w.alloc (.cells #[.int .i64 F,.int .i64 Tp,.int .i64 T,.int .i64 Li,.int .i64 B,.int .i64 Rm,.int .i64 ah] 143)) [.pointer none] 132).alloc (.cells #[.int .i64 0] 28);rwa [World.size_alloc] at this
  ·have:=ak.new ((w.alloc (.cells #[.int .i64 F,.int .i64 Tp,.int .i64 T,.int .i64 Li,.int .i64 B,.int .i64 Rm,.int .i64 ah] 143)).alloc (.cells #[.pointer none] 132)) [.int .i64 0] 28;rwa [World.size_alloc,World.size_alloc] at this
 have HB67:=ae hb67;clear hb67;have hr1:=hr.frame hf1 (fun h=>h) (fun h=>h);have HWD:=ae (cD (hi.choose_spec.1.keep hf1));unfold cG;have HF1:=ae hf1;have HR1:=ae hr1;have HT1:=ae (an hT hf1 (fun h=>h));have HB1:=ae hb1;have HA1:=ae (af hi (af hr (af hT (af hSt (af hc (af hG (af hO (af hlo (af hc (af hlaw (af hsl hrl)))))))))));have hwl:W≤1048576:=by omega
 have k0:=hb1.cell 0 rfl;have k1:=hb1.cell 1 rfl;have k2:=hb1.cell 2 rfl;have k3:=hb1.cell 3 rfl;have k4:=hb1.cell 4 rfl;have k5:=hb1.cell 5 rfl;have k6:=hb1.cell 6 rfl;clear hi hr hT hSt hc hG hO hlo hlaw hsl hrl hf1 hb1 hr1 HCV e3 k0 k1 k2 k3 k4 k5 k6;gi_wp2;clear hW1d;refine bt ((HWD.out).mono ?_);rintro e w' ⟨rfl,rfl⟩;have HNW:=ae (gw W hW1 hwl W1);have HF2:=ae (Fr.refl (fun _=>False) W1);clear HWD;gi_wp2;refine bt ((HNW.out).mono ?_);rintro e w2 ⟨EL,rfl,he,hn,hf⟩;clear HNW;have HE2:=ae (af he (af hn hf));have hf12:=HF2.out.trans hf (fun _ h=>h.elim);have HB2:=ae (HB1.out.frame hf12 (fun h=>h));have HC5:=ae (fun w' (hf:Fr (fun _=>False) w2 w')=>(HB2.out.frame hf (fun h=>h)).cell 5 rfl);have HAL:=ae (fun w' (hf:Fr (fun _=>False) w2 w')=>gN ((HR1.out.frame hf12 (fun h=>h) (fun h=>h)).frame hf (fun h=>h) (fun h=>h)));have HMK:=ae (ug (EL:=EL) (w2:=w2) (Rm:=Rm) (G:=G) (ls:=ls) (Tp:=Tp) HA1.out.1 HA1.out.2.2.1 HA1.out.2.2.2.1 HA1.out.2.2.2.2.2.1 HA1.out.2.2.2.2.2.2.1 HA1.out.2.2.2.2.1.F3 HA1.out.2.2.2.2.1.s1 HA1.out.2.2.2.2.1.s2 ((HF1.out).trans hf12 (fun _ h=>h.elim)) he (fun k hk=>by have h1:=hn k hk;have h2:W1.heap.size=w.heap.size+3:=HZ1.out;have h3:=HF2.out.size;omega) (HA1.out.2.2.2.2.2.2.2.2.2.2.2) w.heap.size (by have h1:W1.heap.size=w.heap.size+3:=HZ1.out;have h2:=hf12.size;omega));have HD0:=ae ((Fr.refl (fun _=>False) w2).drew);have HD1:=ae (fun o=>((Fr.refl (fun _=>False) w2).alloc o).drew);have HSE:=ae (show (∀k,S k→k<w2.heap.size)∧(∀k,EL.has k→k<w2.heap.size)∧w2.heap.size≥w.heap.size+3 from ⟨fun k hk=>by have h1:k<w.heap.size:=HA1.out.2.2.2.2.2.2.2.2.2.2.1 k hk;have h2:=HF1.out.size;have h3:=hf12.size;omega,fun k hk=>he.lt k hk,by have h2:W1.heap.size=w.heap.size+3:=HZ1.out;have h3:=hf12.size;omega⟩);have HNE:Hid (w2.heap.size≠w.heap.size):=ae (by have h1:=aE (HC5.out w2 (Fr.refl _ _));exact Nat.ne_of_gt h1);have HNS:=ae (show¬S w.heap.size∧¬EL.has w.heap.size from af (fun h=>by have h1:w.heap.size<w.heap.size:=HA1.out.2.2.2.2.2.2.2.2.2.2.1 _ h;omega) (fun h=>by have h1:=hn _ h;have h2:W1.heap.size=w.heap.size+3:=HZ1.out;have h3:=HF2.out.size;omega));clear he hn hf hf12;gi_wp2;refine wpIn_wide.2 ?_
 go_cut [10,11] from 14 to 50 (fun v11 v12 wx=>∃(sb:Nat) (st:dl),v11= .pointer (some ⟨sb,0,none⟩)∧v12= .int .i64 0∧Hid (yC m Pg W Fs Us Hg mp L S EL G ls w2 sb st wx))
 case first=>
  refine fQ ?_
  go_region_held3 (fun w'=>w'.cell? ⟨w.heap.size,5,none⟩=some (.int .i64 Rm)) (with_reducible first
   |assumption
   |exact HC5.out _ HD0.out
   |exact HC5.out _ (HD1.out _)
   |(refine (World.cell?_alloc_lt _ _ _ (World.block_lt_of_cell? _ _ (by assumption))).trans (by assumption))
   |((iterate 4 (refine (World.cell?_setCell_far _ _ _ _ (by first|exact Nat.ne_of_gt (World.block_lt_of_cell? _ _ hcf3)|exact Nat.ne_of_lt (World.block_lt_of_cell? _ _ hcf3)|exact Nat.ne_of_gt (World.block_lt_of_cell? _ _ hcf4)|exact Nat.ne_of_lt (World.block_lt_of_cell? _ _ hcf4)|exact HNE.out)).trans ?_));assumption)) (first
   |(go_at_call 69;refine (HAL.out _ (by with_reducible first|exact HD0.out|exact HD1.out _)).mono ?_;rintro e w3 ⟨rb,rc,rfl,r1,r2,r3,hf3⟩;(have hz3:Fr (fun _=>False) w2 w3:=by with_reducible first|exact HD0.out.trans hf3 (fun _ h=>h.elim)|exact (HD1.out _).trans hf3 (fun _ h=>h.elim));(have r1':w2.heap.size≤rb:=by with_reducible first|exact Nat.le_trans HD0.out.size r1|exact Nat.le_trans (HD1.out _).size r1);have hcf3:=HC5.out w3 hz3;(try (have hbq:ak w3 w2.heap.size [.int .i64 0,.int .i64 0,.int .i64 0,.int .i64 0] 136:=ak.frame (by with_reducible exact ak.drew (ak.new w2 _ _)) hf3 (fun h=>h)));clear hf3 r1)
   |(go_at_call 68;with_reducible refine (HMK.out w3 hz3 rb rc r1' r2 r3).mono ?_;rintro e w4 ⟨st,nr,nv,rfl,hkp,hc5,hmf⟩;have hcf4:=hc5 _ HNS.out.1 HNS.out.2 hcf3;(try (have hbk:=hkp _ _ _ (Nat.le_refl _) hbq;have k0:=hbk.cell 0 rfl;have k1:=hbk.cell 1 rfl;have k2:=hbk.cell 2 rfl;have k3:=hbk.cell 3 rfl;have l0:=hbk.free 0;have l1:=hbk.free 1;have l2:=hbk.free 2;have l3:=hbk.free 3));clear hc5)
   |(go_at_call 68;refine (HMK.out (w3.alloc _) (hz3.alloc _) rb rc r1' (by rw [World.size_alloc];omega) (fun i a ha=>(World.cell?_alloc_lt _ _ _ (World.block_lt_of_cell? _ _ (r3 i a ha))).trans (r3 i a ha))).mono ?_;rintro e w4 ⟨st,nr,nv,rfl,hkp,hc5,hmf⟩;have hcf4:=hc5 _ HNS.out.1 HNS.out.2 ((World.cell?_alloc_lt _ _ _ (World.block_lt_of_cell? _ _ hcf3)).trans hcf3);have hbk:=hkp _ _ _ hz3.size (ak.new w3 [.int .i64 0,.int .i64 0,.int .i64 0,.int .i64 0] 136);have k0:=hbk.cell 0 rfl;have k1:=hbk.cell 1 rfl;have k2:=hbk.cell 2 rfl;have k3:=hbk.cell 3 rfl;have l0:=hbk.free 0;have l1:=hbk.free 1;have l2:=hbk.free 2;have l3:=hbk.free 3;clear hc5))
  ·go_wp2;go_meet
   case rel=>exact ⟨_,st,rfl,rfl,ae (qg hmf hz3)⟩
  ·go_wp2;go_meet
   case rel=>exact ⟨_,st,rfl,rfl,ae (iU hmf (hz3.alloc _) HSE.out.1 HSE.out.2.1 hz3.size (by rw [World.size_alloc];omega) hbk)⟩
  ·go_wp2;go_meet
   case rel=>exact ⟨_,st,rfl,rfl,ae (iU hmf hz3 HSE.out.1 HSE.out.2.1 (Nat.le_refl _) hbq.lt hbk)⟩
 case rest=>
  clear HC5 HAL HMK HD0 HD1 HNE;obtain ⟨sb,st,rfl,rfl,hm⟩:=hcut;obtain ⟨z1,⟨nr,nv,zb⟩,S',z2,z3,z4,z5,z6,z7,z8⟩:=hm.out;have HB4:=ae (HB2.out.frame z8 (fun h=>h.elim HNS.out.1 HNS.out.2));have HA:=ae (dB EL.m wc);gi_wp2;refine bt ((HA.out).mono ?_);rintro e W7 ⟨rfl,hW7⟩;have hf7:Fr (fun _=>False) wc W7:=by rw [hW7];exact (Fr.refl _ wc).alloc _
  have htb:ak W7 wc.heap.size [.pointer (some ⟨EL.m,0,none⟩)] 132:=by rw [hW7];exact ak.new wc _ _
  have hz7:W7.heap.size=wc.heap.size+1:=by rw [hW7];exact Array.size_push _
  clear hW7 HA;obtain ⟨a1,a2,a3,a4,a5,a6,a7,a8,a9,a10,a11,a12⟩:=HA1.out;obtain ⟨e1,e2,e3⟩:=HE2.out;have hf12:=HF2.out.trans e3 (fun _ h=>h.elim);have htl:aN<w.heap.size:=aE (a3 0 0 rfl);have hT7:bu W7:=an (an (an HT1.out hf12 (fun h=>h)) z8 (fun h=>h.elim a4 (fun h=>by have h5:=e2 aN h;have h6:=HF2.out.size;have h7:W1.heap.size=w.heap.size+3:=HZ1.out;omega))) hf7 (fun h=>h);have hI0:vh EL wc.heap.size W w.heap.size [.int .i64 F,.int .i64 Tp,.int .i64 T,.int .i64 Li,.int .i64 B,.int .i64 Rm,.int .i64 ah] st.E [] (fun _=>False) W7:=
   ⟨⟨z4.frame hf7 (fun _ _ h=>h),hT7,htb⟩,HB4.out.frame hf7 (fun h=>h),fun _ h=>h⟩
  have hw2c:=z8.size;have hstay:cq W7.heap.size (vh EL wc.heap.size W w.heap.size [.int .i64 F,.int .i64 Tp,.int .i64 T,.int .i64 Li,.int .i64 B,.int .i64 Rm,.int .i64 ah] st.E):=
   vh.stays (fun k hk=>by have:=HSE.out.2.1 k hk;omega) (by omega) (by have:=HSE.out.2.2;omega) (by have:=HSE.out.2.2;omega)
  have HOB:=ae (fun (s n:Nat) (pre:List (Nat×Nat)) (hx:(aO st.E W)[pre.length]? =some (s,n))=>(show F≤s∧s+n≤Tp∧Tp≤524288 from by
   obtain ⟨m1,m2,m3⟩:=bh.1 (List.mem_of_getElem? hx);dsimp only at m1 m2 m3;have h1:=z5 s m2;have h2:G.size s≠0:=by rw [←h1.2];exact m2
   exact ⟨a8 s h2,by rw [m3,h1.2];exact a6.top s h2,by have:=a5.F3;have:=a1.choose_spec.1.at.2.2.1;omega⟩))
  have hsm2:=z4.small.2;have HZB:=ae zb;have HMX:=ae (af z1 (af z2 (af z3 (af z5 (af z6 (af z7 (af z8 (af hf7 (af hz7 hf12)))))))));clear a1 a2 a3 a4 a5 a6 a7 a8 a9 a10 a11 a12 e1 e2 e3 htl hT7 hw2c z1 z2 z3 z4 z5 z6 z7 z8 zb hm htb hf12;gi_wp2;refine df (gf:=220) (lb:= #[wc.heap.size]) rfl (enters_of Tryz.func220 (by kernel_rfl) rfl) (encs:=fM) (fun _=>rfl) (dz (L:=EL) (tb:=wc.heap.size) (E:=st.E) hsm2) (vh EL wc.heap.size W w.heap.size [.int .i64 F,.int .i64 Tp,.int .i64 T,.int .i64 Li,.int .i64 B,.int .i64 Rm,.int .i64 ah] st.E) (fun _=>False) hstay (fun _ _ _ h=>h.1) (fun _ h=>h.elim) hI0
   ?a1 ?assign ?body ?done
  case assign=>
   intro k x W K hK;unfold fM;gi_wp2;exact hK
  case body=>
   intro l pre S9 x W9 hI hlen hf hs;obtain ⟨s,n⟩:=x;obtain ⟨o1,o2,o3⟩:=HOB.out s n pre hlen;have k0:=hI.2.1.cell 0 rfl;have k1:=hI.2.1.cell 1 rfl;have d1:decide ((s:Int)<(F:Int))=false:=by rw [decide_eq_false_iff_not];omega
   have d2:decide ((Tp:Int)<(s:Int)+(n:Int))=false:=by rw [decide_eq_false_iff_not];omega
   have hwr:IntKind.i64.wrap ((s:Int)+(n:Int))=(s:Int)+(n:Int):=by rw [IntKind.wrap_i64];omega
   have HI:=ae hI;clear hI hlen hf hs hI0 hstay HOB HMX HZB HA1 HE2;gi_wp2;exact ⟨S9,HI.out,Fr.refl _ _,fun _ h=> .inl h⟩
  case done=>
   intro D S9 W9 hI hD hDn hSD hf9 hs9;obtain ⟨z1,z2,z3,z5,z6,z7,z8,hf7,hz7,hf12⟩:=HMX.out;have hfc9:=hf7.trans hf9 (fun _ h=>h.elim);have hzb:=HZB.out.frame hfc9 (fun h=>h);have hsz:=HSE.out;have hn67:¬(S (w.heap.size+1)∨EL.has (w.heap.size+1))∧¬(S (w.heap.size+1+1)∨EL.has (w.heap.size+1+1)):=by
    have h1:=HA1.out.2.2.2.2.2.2.2.2.2.2.1;have h2:=HE2.out.2.1;have h3:=HF2.out.size;have h4:W1.heap.size=w.heap.size+3:=HZ1.out;refine ⟨fun h=> ?_,fun h=> ?_⟩
    ·rcases h with h|h
     ·have:=h1 _ h;omega
     ·have:=h2 _ h;omega
    ·rcases h with h|h
     ·have:=h1 _ h;omega
     ·have:=h2 _ h;omega
   have b6:=((HB67.out.1.frame hf12 (fun h=>h)).frame z8 hn67.1).frame hfc9 (fun h=>h);have b7:=((HB67.out.2.frame hf12 (fun h=>h)).frame z8 hn67.2).frame hfc9 (fun h=>h);have c6:=b6.cell 0 rfl;have c7:=b7.cell 0 rfl;have f6:=b6.free 0;have f7:=b7.free 0;have hne6:w.heap.size+1≠sb∧w.heap.size+1+1≠sb∧w.heap.size+1≠w.heap.size+1+1:=by omega
   have HFIN:Hid (∀w',Fr (fun k=>k=w.heap.size+1∨k=w.heap.size+1+1∨k=D) W9 w'→yG m Pg W Fs Us Hg mp L S G ls w (.returned (.tuple #[.pointer (some ⟨EL.m,0,none⟩),.int .i64 0])) w'):=by
    show∀w',_
    intro w' hfw;have hzc:=z8.size;have hz12:=hf12.size;have h4:W1.heap.size=w.heap.size+3:=HZ1.out;have hall:Fr S w w':=by
     have q1:Fr S w w2:=(HF1.out.mono (fun _ h=>h.elim)).trans hf12 (fun _ h=>h.elim);have q2:Fr S w wc:=q1.trans z8 (fun k hk=>by
      rcases hk with hk|hk
      ·exact .inl hk
      ·have:=HE2.out.2.1 k hk;have:=HF2.out.size;exact .inr (by omega))
     have q3:Fr S w W9:=q2.trans hfc9 (fun _ h=>h.elim);exact q3.trans hfw (fun k hk=>by rcases hk with rfl|rfl|rfl<;>exact .inr (by omega))
    have hw19:Fr (fun _=>False) wc W9:=hfc9;refine ⟨EL,st.E,S',rfl,(aR m Pg W Fs Us Hg mp) _ _ _ _ _ ((aF m Pg W Fs Us Hg mp).keep z2 hfc9) hfw (fun k hk h=> ?_),fun k hk=>(z3 k hk).imp id (fun h=>by omega),fun k hk h=> ?_,hI.1.1.frame hfw (fun k hk h=> ?_),z7,z5,fun k hk=>by have:=HE2.out.2.1 k hk;omega,hall⟩
    rotate_left
    ·rcases z3 k hk with h5|h5
     ·have h6:k<w.heap.size:=HA1.out.2.2.2.2.2.2.2.2.2.2.1 k h5;have:=HE2.out.2.1 k h;omega
     ·have:=HSE.out.2.1 k h;omega
    ·have h5:=HE2.out.2.1 k hk;have h6:=HSE.out.2.1 k hk;rcases h with rfl|rfl|rfl<;>omega
    have hkl:=(aF m Pg W Fs Us Hg mp).lt _ _ _ z2 k hk;have hz9:=hf7.size;rcases h with rfl|rfl|rfl
    ·rcases z3 _ hk with h|h
     ·exact hn67.1 (.inl h)
     ·omega
    ·rcases z3 _ hk with h|h
     ·exact hn67.2 (.inl h)
     ·omega
    ·omega
   have HD:=ae hD;have HDn:=ae (show D≠w.heap.size+1∧D≠w.heap.size+1+1 from by have:=z8.size;omega);have HB6:=ae b6;have HB7:=ae b7;clear hI hD hDn hSD hf9 hs9 z1 z2 z3 z5 z6 z7 z8 hf7 hz7 hf12 hfc9 hzb hsz hn67 b6 b7 hI0 hstay HOB HMX HZB HA1 HE2 HB4 HB67 HF1 HF2 HR1 HT1 HSE HZ1;gi_wp2;obtain ⟨Wf,hWf⟩:∃Wf,(W9.setCell ⟨w.heap.size+1,0,none⟩ (.pointer (some ⟨EL.m,0,none⟩))).setCell ⟨w.heap.size+1+1,0,none⟩ (.int .i64 0)=Wf:=⟨_,rfl⟩;rw [hWf];have hff:Fr (fun k=>k=w.heap.size+1∨k=w.heap.size+1+1) W9 Wf:=by
    rw [←hWf];exact ((Fr.refl _ W9).setCell ⟨w.heap.size+1,0,none⟩ (.inl (.inl rfl)) _).setCell ⟨w.heap.size+1+1,0,none⟩ (.inl (.inr rfl)) _
   have h6:ak Wf (w.heap.size+1) [.pointer (some ⟨EL.m,0,none⟩)] 132:=by
    rw [←hWf];exact (HB6.out.set 0 _).setOther _ _ hne6.2.2
   have h7:ak Wf (w.heap.size+1+1) [.int .i64 0] 28:=by
    rw [←hWf];exact (HB7.out.setOther _ _ (Ne.symm hne6.2.2)).set 0 _
   have hDf:Wf.heap[D]? =some (.deferred (some [])):=hff.heap HD.out (fun h=>h.elim HDn.out.1 HDn.out.2);have hfp:Fr (fun k=>k=D) Wf (Wf.putObj D (.deferred none)):=(Fr.refl _ Wf).putObj _ _ (.inl rfl);refine ⟨by simp,.inl ⟨_,_,rfl,run_takeDeferred hDf,?_⟩⟩;refine ⟨_,fe rfl _ _ ⟨w.heap.size+1,0,none⟩ ⟨w.heap.size+1+1,0,none⟩ rfl rfl (t8 ((h6.frame hfp (Ne.symm HDn.out.1)).cell 0 rfl)) (jy ((h7.frame hfp (Ne.symm HDn.out.2)).cell 0 rfl)),?_⟩;exact HFIN.out _ ((hff.mono (fun k hk=> .inl (hk.elim .inl (fun h=> .inr (.inl h))))).trans hfp (fun k hk=> .inl (.inr (.inr hk))))
end
def ga (E:Nat→Nat) (P t q:Nat):Nat:=cnt (fun a=>aj E a&&decide (a/P=q)) 0 t
section
variable {E:Nat→Nat} {P W t u a q:Nat}
theorem uA:ga E P 0 q=0:=bc _ _
theorem uz (ha:aj E a=true):ga E P (a+1) q=ga E P a q+(if q=a/P then 1 else 0):=by
 unfold ga;rw [aC _ (Nat.zero_le a),ha,Bool.true_and];by_cases e:a/P=q
 ·subst e;simp
 ·rw [decide_eq_false e,if_neg Bool.false_ne_true,if_neg (Ne.symm e)]
theorem uy (h:t≤u) (hn:∀i,t≤i→i<u→aj E i=false):ga E P u q=ga E P t q:=by
 unfold ga;rw [aw _ (Nat.zero_le t) h,aD (a:=t) (b:=u) (fun i h1 h2=>by rw [hn i h1 h2];rfl),Nat.add_zero]
theorem xN:ga E P t q≤t:=by
 have:=be (fun a=>aj E a&&decide (a/P=q)) 0 t;unfold ga;omega
theorem lF (hP:1≤P) {i:Nat}:i/P=q↔q*P≤i∧i<q*P+P:=by
 constructor
 ·rintro rfl;have h1:=Nat.div_add_mod i P;have h2:=Nat.mod_lt i (show 0<P by omega);rw [Nat.mul_comm] at h1;omega
 ·rintro ⟨h1,h2⟩;exact eS (i:=i-q*P) hP (by omega) (by omega)
theorem qC {s:bg} (hP:1≤s.P) (hlive:∀a,aj s.E a=true→a<s.W) (q:Nat):ga s.E s.P s.W q=iR s (fun _=>false) q:=by
 unfold ga iR;have e1:∀N,s.W≤N→q*s.P+s.P≤N→cnt (fun a=>aj s.E a&&decide (a/s.P=q)) 0 N=cnt (fun a=>aj s.E a&& !false) (q*s.P) (q*s.P+s.P):=fun N _ h2=>by
  rw [aw _ (Nat.zero_le (q*s.P)) (show q*s.P≤N by omega),aw _ (show q*s.P≤q*s.P+s.P by omega) h2,
   aD (a:=0) (b:=q*s.P) (fun i _ h=>by rw [decide_eq_false (fun e=>by have:=(lF hP).1 e;omega),Bool.and_false]),
   aD (a:=q*s.P+s.P) (b:=N) (fun i h _=>by rw [decide_eq_false (fun e=>by have:=(lF hP).1 e;omega),Bool.and_false]),Nat.zero_add,Nat.add_zero]
  exact aJ (fun i h3 h4=>by rw [decide_eq_true ((lF hP).2 ⟨h3,h4⟩)];rfl)
 have e2:∀N,s.W≤N→cnt (fun a=>aj s.E a&&decide (a/s.P=q)) 0 N=cnt (fun a=>aj s.E a&&decide (a/s.P=q)) 0 s.W:=fun N h=>by
  rw [aw _ (Nat.zero_le s.W) h,aD (a:=s.W) (b:=N) (fun i h1 _=>by
   have:aj s.E i=false:=by
    rw [Bool.eq_false_iff];intro hl;have:=hlive i hl;omega
   rw [this];rfl),Nat.add_zero]
 rw [←e2 (s.W+(q*s.P+s.P)) (by omega)];exact e1 _ (by omega) (by omega)
theorem lJ {k j:Nat} {x y:Nat×Nat} (hx:(aO E W)[k]? =some x) (hy:(aO E W)[j]? =some y) (h:j<k):y.1<x.1:=
 eD hx (List.mem_iff_getElem?.2 ⟨j,by rw [List.getElem?_take,if_pos h];exact hy⟩)
def ul (E:Nat→Nat) (W k:Nat):Nat:=match (aO E W)[k]? with|some x=>x.1|none=>W
theorem um {k:Nat} {x:Nat×Nat} (hx:(aO E W)[k]? =some x):ul E W k=x.1:=by unfold ul;rw [hx]
theorem wg:ul E W (aO E W).length=W:=by unfold ul;rw [List.getElem?_eq_none (Nat.le_refl _)]
theorem qz (hA:cX E) (hW:∀s,E s≠0→s+E s≤W) {k m:Nat} (hm:∀j x,j<k→(aO E W)[j]? =some x→x.1+x.2≤m):∀i,m≤i→i<ul E W k→aj E i=false:=by
 intro i h1 h2;rw [Bool.eq_false_iff];intro hl;obtain ⟨s,s1,s2⟩:=aQ.1 hl;have h0:E s≠0:=by omega
 have hsW:=hW s h0;obtain ⟨j,hj⟩:=List.mem_iff_getElem?.1 (bh.2 ⟨show s<W by omega,h0,rfl⟩:(s,E s)∈aO E W);rcases Nat.lt_or_ge j k with hjk|hjk
 ·have:=hm j _ hjk hj;dsimp only at this;omega
 ·have hkl:k<(aO E W).length:=Nat.lt_of_le_of_lt hjk (List.getElem?_eq_some_iff.1 hj).1;have hk:=List.getElem?_eq_getElem hkl;rw [um hk] at h2;rcases Nat.lt_or_ge k j with hlt|hge
  ·have:=lJ hj hk hlt;dsimp only at this;omega
  ·obtain rfl:j=k:=by omega
   rw [hk] at hj;have:=congrArg Prod.fst (Option.some.inj hj);dsimp only at this;omega
theorem un (hA:cX E) {k:Nat} {x:Nat×Nat} (hx:(aO E W)[k]? =some x):∀j y,j<k+1→(aO E W)[j]? =some y→y.1+y.2≤x.1+x.2:=by
 intro j y hj hy;rcases Nat.lt_or_ge j k with h|h
 ·have h1:=lJ hx hy h;obtain ⟨_,y2,y3⟩:=bh.1 (List.mem_of_getElem? hy);obtain ⟨_,x2,x3⟩:=bh.1 (List.mem_of_getElem? hx);have:=hA y.1 x.1 h1 y2 x2;omega
 ·obtain rfl:j=k:=by omega
  rw [hx] at hy;rw [Option.some.inj hy];exact Nat.le_refl _
end
section
variable {A:AG} {rs:List Nat} {φ L:Nat→Nat} {lo hi:Nat}
theorem aP.heads (h:aP A rs φ L lo hi):∃hp hf hg:Nat→Nat,∀x,Reach A.gr rs x→hp (φ x)=A.np x∧hf (φ x)=A.nf x∧hg (φ x)=A.ng x:=by
 classical
 refine ⟨fun a=>if h:∃x,Reach A.gr rs x∧φ x=a then A.np h.choose else 0,fun a=>if h:∃x,Reach A.gr rs x∧φ x=a then A.nf h.choose else 0,fun a=>if h:∃x,Reach A.gr rs x∧φ x=a then A.ng h.choose else 0,fun x hx=> ?_⟩;have he:∃y,Reach A.gr rs y∧φ y=φ x:=⟨x,hx,rfl⟩;have e:he.choose=x:=h.inj he.choose_spec.1 hx he.choose_spec.2;refine ⟨?_,?_,?_⟩
 ·show (if h:∃y,Reach A.gr rs y∧φ y=φ x then A.np h.choose else 0)=_
  rw [dif_pos he,e]
 ·show (if h:∃y,Reach A.gr rs y∧φ y=φ x then A.nf h.choose else 0)=_
  rw [dif_pos he,e]
 ·show (if h:∃y,Reach A.gr rs y∧φ y=φ x then A.ng h.choose else 0)=_
  rw [dif_pos he,e]
theorem aP.congr2 (h:aP A rs φ L lo hi) {L':Nat→Nat} (hk:∀x,Reach A.gr rs x→∀i,i<A.sz x→L' (φ x+i)=L (φ x+i)):aP A rs φ L' lo hi:=by
 refine ⟨h.zero,h.one,h.lies,h.apart,fun x hx=> ?_,fun x hx i hi=> ?_,fun x hx i h1 h2=> ?_⟩
 ·have:=h.head x hx;exact ⟨by have h1:L' (φ x)=L (φ x):=hk x hx 0 (by unfold AG.sz;omega);rw [h1];exact this.1,this.2⟩
 ·rw [ea,hk x hx (1+i) (by unfold AG.sz;omega),←ea φ _ _];exact h.ptr x hx i hi
 ·rw [ea,hk x hx (1+i) (by unfold AG.sz;omega),←ea φ _ _];exact h.val x hx i h1 h2
theorem eA {f:Nat→Bool} {M a R:Nat} (h:∀i,i<M→f i=true→a≤i∧i<a+R):cnt f 0 M≤R:=by
 have hoff:∀b c,c≤M→(c≤a∨a+R≤b)→cnt f b c=0:=fun b c hc ho=>aD (fun i h1 h2=>by
  cases hf:f i with
  |false=>rfl
  |true=>have:=h i (by omega) hf;omega)
 rcases Nat.lt_or_ge a M with h1|h1
 ·rcases Nat.lt_or_ge (a+R) M with h2|h2
  ·have h3:=be f a (a+R);rw [aw f (Nat.zero_le a) (show a≤M by omega),aw f (show a≤a+R by omega) (show a+R≤M by omega),hoff 0 a (by omega) (.inl (Nat.le_refl _)),hoff (a+R) M (Nat.le_refl _) (.inr (Nat.le_refl _))];omega
  ·have h3:=be f a M;rw [aw f (Nat.zero_le a) (show a≤M by omega),hoff 0 a (by omega) (.inl (Nat.le_refl _))];omega
 ·rw [hoff 0 M (Nat.le_refl _) (.inl h1)];exact Nat.zero_le _
theorem aP.lives (h:aP A rs φ L lo hi) {E:Nat→Nat} (hE:eM A rs φ E) {W:Nat} (hW:∀a,E a≠0→a<W):∃l,aL A rs l:=by
 have hn:((aO E W).map Prod.fst).Nodup:=by
  unfold aO;rw [List.map_map];have e:(Prod.fst∘fun s=>(s,E s))=id:=rfl;rw [e,List.map_id];exact (iN _ _ _).imp (fun h=>Nat.ne_of_lt h)
 have ho:∀a∈(aO E W).map Prod.fst,∃x,Reach A.gr rs x∧φ x=a:=fun a ha=>by
  obtain ⟨x,hx,rfl⟩:=List.mem_map.1 ha;exact hE.some _ (bh.1 hx).2.1
 have hin:∀x,Reach A.gr rs x→φ x∈(aO E W).map Prod.fst:=fun x hx=>by
  have h0:E (φ x)≠0:=by rw [hE.size x hx];unfold AG.sz;omega
  exact List.mem_map.2 ⟨(φ x,E (φ x)),bh.2 ⟨hW _ h0,h0,rfl⟩,rfl⟩
 obtain ⟨l,h1,_⟩:=h.lives_ord (sz:=E) (fun x hx=>hE.size x hx) hn ho hin;exact ⟨l,h1⟩
end
section
variable {P:Program}
theorem pY {F:Fence} {m:Nat} {ops:Array Oper} {md:Region.Mode} {Q:Exit→Act→World→Prop}:∀(f:Nat) (listed:Array Bool) (a:Act) (w:World),oh (wpOpIn F m P ops Q) md ops Q f listed a w→wpAnyIn F m P md ops Q f listed a w
 |0,_,_,_,h=>h
 |f+1,_,_,_,h=>⟨h.1,fun i hi=>wpOpIn_mono (fun a w h=>pY f _ a w h) (h.2 i hi)⟩
theorem bZ.wpR {o:Oper} {a:Act} {w:World} {post:Value→World→Prop} {Q:Exit→Act→World→Prop} {k m:Nat} (hd:∀c,o.op≠ .defer c) (h:bZ P a.eval o w post):o.wpIn (Fence.wide.inRound k) m P a w (fun a' w'=>∃v,a'=a.put o.dst v∧post v w') Q:=by
 refine ⟨fun _ _=>trivial,?_⟩;rw [show (Fence.wide.inRound k).round=some k from rfl,Oper.semAt_some k a.eval o hd];unfold bZ at h;generalize (execOp a.eval o).run P w=r at*
 cases r with
 |halt x w'=>exact h.elim
 |ok n w'=>
  cases n<;>simp only [Oper.uponIn] at h ⊢
  case value v=>exact ⟨v,rfl,h⟩
  case skip=>exact ⟨_,rfl,h⟩
  case enter f args=>
   refine ⟨(fun h=>by cases h),(mu (d:=m) (Calls.mono h ?_)).2.2⟩;rintro e w'' ⟨v,rfl,hp⟩;exact ⟨v,rfl,hp⟩
theorem fR {id k m:Nat} {Q:Exit→Act→World→Prop} {a:Act} {w:World} {l:List Oper} (n d:Nat) (R R1:World→World→Prop) (ps:List (Value→World→Prop)) (nw:Nat→Bool) (hm:P.follows .mixedOrders=true) (h1:fd l=true) (h2:dQ l=true)
  (h3:(decide (n=l.length)&&Region.seqB .any l.toArray 0 n (eY l.length n))=true) (hl:ps.length=n)
  (hrf:∀w,R1 w w) (h1r:∀w w',R1 w w'→R w w') (htr1:∀w1 w2 w3,R1 w1 w2→R1 w2 w3→R1 w1 w3) (htrA:∀w1 w2 w3,R w1 w2→R1 w2 w3→R w1 w3) (htrB:∀w1 w2 w3,R1 w1 w2→R w2 w3→R w1 w3) (hz:∀w w',R w w'→w.heap.size≤w'.heap.size) (hst1:kY R1 ps) (hst:nP R d 0 ps)
  (h:∀F:(Nat→Value)→Act,(F=fun vs=>{a with tmps:=aS vs 0 (l.take n) a.tmps})→dO P (bF l d) F w.drew d R R1 (iq ps) nw 0 (l.take n)∧∀vs w',R w.drew w'→qV vs w' 0 ps→(∀i j,nw i=true→nw j=true→i<n→j<n→i≠j→dA (vs i)≠dA (vs j))→Q .normal (F vs) w'):
  (Code.region id l.toArray true).wpIn (Fence.wide.inRound k) m P Q a w:=by
 obtain ⟨hops,hend⟩:=h _ rfl;rw [Bool.and_eq_true,decide_eq_true_eq] at h3;obtain ⟨hn,hsq⟩:=h3;subst hn;refine wpIn_region_any hm ?_;have hrep:∀j,(Array.replicate l.toArray.size false).getD j true=true→¬j<l.length:=fun j hl hj=>by
  have h3:(Array.replicate l.toArray.size false).getD j true=false:=getD_in (by simpa using hj) (getD_replicate_false _ _);rw [h3] at hl;cases hl
 have hu:(pI l.length (Array.replicate l.toArray.size false)).length=l.length:=by
  unfold pI;rw [List.filter_eq_self.2 (fun j hj=> ?_),List.length_range];have:=List.mem_range.1 hj
  cases hl:(Array.replicate l.toArray.size false).getD j true with
  |false=>rfl
  |true=>exact absurd (show j<l.length by omega) (hrep j hl)
 have hok:=jP h1 h2;have:=kV (W1:=wpOpIn (Fence.wide.inRound k) m P l.toArray Q) (nw:=nw) (n:=l.length) (d:=d) (R:=R) (R1:=R1) (Ps:=iq ps) (a0:=a) (w0:=w.drew) (Q:=Q) hok (fun i K K' a w h h2=>wpOpIn_mono h h2) (fun i o a w post ho hp=>by
  unfold wpOpIn;simp only [show l.toArray[i]? =some o by simpa using ho];rw [if_pos (by unfold Region.wanted;rw [hok.guard i o ho])];exact hp.wpR (hok.dfr i o ho)) (Nat.le_refl _) (fun D t h1 h2=>absurd h2 (by omega)) h1r htr1 htrA htrB (fun j=>fm j hst1) (fun j v w w' hj hp hr=>gP 0 j hst (by omega) v w w' hp hr) hz hops (fun vs w' q1 q2 _ q4=> ?_) l.length (Array.replicate l.toArray.size false) (fun _=>undef) a w.drew hu ⟨fun j _ hj hl=>absurd (show j<l.length by omega) (hrep j hl),fun i j _ _ hi _ hl _ _=>absurd (show i<l.length by omega) (hrep i hl),by simp,fun j h5 hj=>absurd hj (by omega),fun k i hk=>absurd hk.1 (hrep k hk.2),rfl,h1r _ _ (hrf _),fun _=>hrf _,fun j hj hl=>absurd (show j<l.length by omega) (hrep j hl),fun j o d hj hl _=>absurd (List.getElem?_eq_some_iff.1 hj).1 (hrep j hl),fun t _=>rfl⟩
 ·rw [Nat.sub_self,Nat.add_zero] at this;have h5:=pY _ _ _ _ this;rwa [show l.toArray.size=l.length by simp]
 ·rw [Nat.sub_self];refine ⟨by simpa [Region.seqB] using hsq,q2|>fun _=>hend vs w' q1 (gn ps 0 (fun j hj=> ?_)) q4⟩;rw [Nat.zero_add];exact q2 j (by omega)
end
structure xZ where
 c3:Nat
 c5:Nat
 c13:Nat
 tb:Nat
 b:Nat
 g:Nat
def Cy.conf (c:Cy):List Value:=[.int .i64 (c.from_:Int),.int .i64 (c.top:Int),.int .i64 (c.to_:Int),.int .i64 (c.Lm:Int),.int .i64 (c.B:Int),.int .i64 (c.stack:Int),.int .i64 (c.Ah:Int)]
structure wP (c:Cy) (x:xZ) (W:Nat) (E:Nat→Nat) (ls:List Nat) (w:World):Prop where
 all:j6 c.EL x.tb W E w
 b3:ak w x.c3 [.pointer (some ⟨c.m,0,none⟩)] 112
 b5:ak w x.c5 c.conf 143
 b13:ak w x.c13 [.pointer (some ⟨c.y,0,none⟩)] 115
 y:sK w c c.nb 0 0
 mv:ak w c.mv (ol (List.replicate c.nb false)) 4
 plan:ca c.lo c.hi w c.pl W c.B E c.to_
 roots:aW w x.b x.g ls
def pS (c:Cy) (x:xZ) (k:Nat):Prop:=c.EL.has k∨k=x.tb∨k=x.c3∨k=x.c5∨k=x.c13∨k=c.y∨k=c.mv∨(c.lo≤k∧k<c.hi)∨k=x.b∨k=x.g∨k=aN
section
variable {c:Cy} {x:xZ} {W:Nat} {E:Nat→Nat} {ls:List Nat} {w w':World} {T:Nat→Prop}
theorem wP.frame (h:wP c x W E ls w) (hf:Fr T w w') (hT:∀k,T k→¬pS c x k):wP c x W E ls w':=by
 have n:∀k,pS c x k→¬T k:=fun k hk ht=>hT k ht hk
 obtain ⟨q1,q2,q3⟩:=h.all;exact ⟨⟨q1.frame hf (fun k hk=>n k (.inl hk)),an q2 hf (n _ (.inr (.inr (.inr (.inr (.inr (.inr (.inr (.inr (.inr (.inr rfl))))))))))),q3.frame hf (n _ (.inr (.inl rfl)))⟩,
  h.b3.frame hf (n _ (.inr (.inr (.inl rfl)))),h.b5.frame hf (n _ (.inr (.inr (.inr (.inl rfl))))),h.b13.frame hf (n _ (.inr (.inr (.inr (.inr (.inl rfl)))))),ak.frame h.y hf (n _ (.inr (.inr (.inr (.inr (.inr (.inl rfl))))))),h.mv.frame hf (n _ (.inr (.inr (.inr (.inr (.inr (.inr (.inl rfl)))))))),
  h.plan.frame hf (fun i hi=>by
   by_cases hx:c.lo≤i∧i<c.hi
   ·exact absurd hi (n i (.inr (.inr (.inr (.inr (.inr (.inr (.inr (.inl hx)))))))))
   ·omega),
  h.roots.frame hf (n _ (.inr (.inr (.inr (.inr (.inr (.inr (.inr (.inr (.inl rfl)))))))))) (n _ (.inr (.inr (.inr (.inr (.inr (.inr (.inr (.inr (.inr (.inl rfl)))))))))))⟩
end
def kj (m Pg W Fs Us Hg:Nat) (mp:Nat→Bool) (L:Nat→Nat) (E hp hf hg:Nat→Nat) (c:Cy) (t:Nat) (pre:List (Nat×Nat)) (S:Nat→Prop) (w:World):Prop:=
 ∃Sm fw n ns f,(∀k,S k↔(Sm k∨k=c.wb∨k=c.sb))∧¬Sm c.wb∧¬Sm c.sb∧c.wb≠c.sb∧bi m Pg W Fs Us Hg mp L Sm w∧bK w c.wb n fw∧(∀q,(fw q).getD 0=ga E Pg t q)∧n≤t∧cN w c.sb ns f∧ns≤pre.length∧∀x∈pre,nW (f x.1)=(hp x.1,hf x.1,hg x.1)
section
variable {m Pg W Fs Us Hg:Nat} {mp:Nat→Bool} {L E hp hf hg:Nat→Nat} {c:Cy} {x:xZ} {t:Nat} {pre:List (Nat×Nat)} {ls:List Nat} {S T:Nat→Prop} {w w':World}
theorem kj.frame (h:kj m Pg W Fs Us Hg mp L E hp hf hg c t pre S w) (hr:Fr T w w') (hT:∀k,S k→¬T k):kj m Pg W Fs Us Hg mp L E hp hf hg c t pre S w':=by
 obtain ⟨Sm,fw,n,ns,f,q1,q2,q3,q4,q5,q6,q7,q8,q9,q10,q11⟩:=h;exact ⟨Sm,fw,n,ns,f,q1,q2,q3,q4,(aR m Pg W Fs Us Hg mp) _ _ _ _ _ q5 hr (fun k hk=>hT k ((q1 k).2 (.inl hk))),q6.frame hr (hT _ ((q1 _).2 (.inr (.inl rfl)))),q7,q8,q9.frame hr (hT _ ((q1 _).2 (.inr (.inr rfl)))),q10,q11⟩
theorem kj.lt (h:kj m Pg W Fs Us Hg mp L E hp hf hg c t pre S w):∀k,S k→k<w.heap.size:=by
 obtain ⟨Sm,fw,n,ns,f,q1,q2,q3,q4,q5,q6,q7,q8,q9,q10,q11⟩:=h;intro k hk;rcases (q1 k).1 hk with h|h|h
 ·exact (aF m Pg W Fs Us Hg mp).lt _ _ _ q5 k h
 ·rw [h];exact q6.lt
 ·rw [h];exact q9.lt
def xo (m Pg W Fs Us Hg:Nat) (mp:Nat→Bool) (L E hp hf hg:Nat→Nat) (c:Cy) (x:xZ) (ls:List Nat) (pre:List (Nat×Nat)) (S:Nat→Prop) (w:World):Prop:=
 (∀k,S k→¬pS c x k)∧wP c x W E ls w∧kj m Pg W Fs Us Hg mp L E hp hf hg c (ul E W pre.length) pre S w
theorem xo.stays {B:Nat} (hB:∀k,pS c x k→k<B):cq B (xo m Pg W Fs Us Hg mp L E hp hf hg c x ls):=by
 rintro pre S W1 W2 T ⟨q1,q2,q3⟩ hr hT;exact ⟨q1,q2.frame hr (fun k hk hb=>by have:=(hT k hk).1;have:=hB k hb;omega),q3.frame hr (fun k hk ht=>(hT k ht).2 hk)⟩
theorem kj.head {Sm S1:Nat→Prop} {fw:Nat→Option Nat} {nn ns s n:Nat} {f:Nat→Option (Nat×Nat×Nat)} (q2:¬Sm c.wb) (q3:¬Sm c.sb) (q4:c.wb≠c.sb) (q6:bK w c.wb nn fw) (q7:∀q,(fw q).getD 0=ga E Pg s q) (q8:nn≤s) (q10:ns≤pre.length) (q11:∀x∈pre,nW (f x.1)=(hp x.1,hf x.1,hg x.1)) (hpre:∀x∈pre,x.1<s)
  (hsl:∀k,S1 k→Sm k∨w.heap.size≤k) (hfr:Fr (fun k=>Sm k∨k=c.sb) w w') (hm:bi m Pg W Fs Us Hg mp L S1 w') (hh:cN w' c.sb (ns+1) (dg f s (hp s,hf s,hg s))) (hlt:c.sb<w.heap.size):
  kj m Pg W Fs Us Hg mp L E hp hf hg c s (pre++[(s,n)]) (fun k=>S1 k∨k=c.wb∨k=c.sb) w':=by
 have hwl:=q6.lt;refine ⟨S1,fw,nn,ns+1,_,fun k=>Iff.rfl,fun h=>(hsl _ h).elim q2 (fun h=>by omega),fun h=>(hsl _ h).elim q3 (fun h=>by omega),q4,hm,q6.frame hfr (fun h=>h.elim q2 q4),q7,q8,hh,by rw [List.length_append,List.length_singleton];omega,fun x hx=> ?_⟩;rcases List.mem_append.1 hx with h|h
 ·have:=hpre x h;unfold dg;rw [if_neg (by omega)];exact q11 x h
 ·rw [List.mem_singleton.1 h];unfold dg;rw [if_pos rfl];rfl
theorem kj.word {a:Nat} (h:kj m Pg W Fs Us Hg mp L E hp hf hg c a pre S w) (ha:aj E a=true) (hA:a<1048576) (hpg:1≤Pg):∃V:Nat,V≤a∧(Instr.lookup 33 (.map (some c.wb)) (.int .i64 ((a/Pg:Nat):Int)) false).run Tryz.prog w= .ok (.int .i64 V) w∧
  ∃w',(Instr.mapUpdate 33 (.map (some c.wb)) (.int .i64 ((a/Pg:Nat):Int)) (.int .i64 ((V+1:Nat):Int))).run Tryz.prog w= .ok () w'∧kj m Pg W Fs Us Hg mp L E hp hf hg c (a+1) pre S w'∧Fr (fun k=>k=c.wb) w w':=by
 obtain ⟨Sm,fw,n,ns,f,q1,q2,q3,q4,q5,q6,q7,q8,q9,q10,q11⟩:=h;have hq:a/Pg<4611686018427387904:=by have:=Nat.div_le_self a Pg;omega
 have hv:=xN (E:=E) (P:=Pg) (t:=a) (q:=a/Pg);refine ⟨ga E Pg a (a/Pg),hv,?_,?_⟩
 ·have:=q6.look (a/Pg) hq;rwa [q7] at this
 ·obtain ⟨w',r1,r2,r3⟩:=q6.put (a/Pg) (ga E Pg a (a/Pg)+1) hq (by omega) (by omega);refine ⟨w',r1,⟨Sm,_,_,ns,f,q1,q2,q3,q4,(aR m Pg W Fs Us Hg mp) _ _ _ _ _ q5 r3 (fun k hk e=>q2 (e▸hk)),r2,fun q=> ?_,?_,q9.frame r3 (Ne.symm q4),q10,q11⟩,r3⟩
  ·rw [uz ha];unfold dg;by_cases e:q=a/Pg
   ·rw [if_pos e,if_pos e,e];rfl
   ·rw [if_neg e,if_neg e,q7,Nat.add_zero]
  ·split<;>omega
theorem kj.skip {t':Nat} (h:kj m Pg W Fs Us Hg mp L E hp hf hg c t pre S w) (ht:t≤t') (hn:∀i,t≤i→i<t'→aj E i=false):kj m Pg W Fs Us Hg mp L E hp hf hg c t' pre S w:=by
 obtain ⟨Sm,fw,n,ns,f,q1,q2,q3,q4,q5,q6,q7,q8,q9⟩:=h;exact ⟨Sm,fw,n,ns,f,q1,q2,q3,q4,q5,q6,fun q=>by rw [uy ht hn];exact q7 q,by omega,q9⟩
end
end Go.Proofs.YthahbijbpinneaaGreatDoor
