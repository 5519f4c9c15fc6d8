import Derived.Test.YthahbijbpinneaaGreatDoorA1
import Derived.Shelf.Abstract
import Derived.OwnWalk
import Derived.RangeFuncBox
import Derived.RangeFuncLeaves
import Derived.OwnWalkIn
import Derived.TacticsInMore
import Derived.LoopNIn
import Derived.LoopIn
set_option maxRecDepth 100000
set_option maxHeartbeats 8000000
set_option linter.all false
namespace Go.Proofs.YthahbijbpinneaaGreatDoor
open Go.RowKit
def lY (w:World) (b g n cb F T:Nat) (f:Nat→Bool) (K:Nat) (W:World):Prop:=
 ∃ws V,aV W b g n ws∧(∀j,au ws j=eT f F T K j)∧ak W cb [.int .i64 V] 3∧Fr (fun k=>k=g∨k=cb) w W
def mi (w:World) (b g n cb F T:Nat) (f:Nat→Bool) (K:Nat) (W:World):Prop:=
 ∃ws V,aV W b g n ws∧(∀j,au ws j=ft f F T K j)∧ak W cb [.int .i64 V] 3∧Fr (fun k=>k=g∨k=cb) w W
def gU (w:World) (b g n cb F T:Nat) (ws:List Nat) (K:Nat) (W:World):Prop:=
 aV W b g n ws∧ak W cb [.int .i64 ((cnt (cK (au ws) F T) (64*(F/64)) (64*K):Nat):Int)] 3∧Fr (fun k=>k=cb) w W
theorem oF {f:Nat→Bool} {F T j:Nat}:eT f F T (F/64) j=f j:=by
 unfold eT;have:(decide (F≤j)&&decide (j<T)&&decide (j<64*(F/64)))=false:=by
  rw [Bool.eq_false_iff];simp only [ne_eq,Bool.and_eq_true,decide_eq_true_eq];omega
 rw [this,Bool.or_false]
theorem pM {f:Nat→Bool} {F T j:Nat}:ft f F T (F/64) j=f j:=by
 unfold ft;have:(decide (F≤j)&&decide (j<T)&&decide (j<64*(F/64)))=false:=by
  rw [Bool.eq_false_iff];simp only [ne_eq,Bool.and_eq_true,decide_eq_true_eq];omega
 rw [this,Bool.not_false,Bool.and_true]
theorem tF {f:Nat→Bool} {F T j:Nat}:eT f F T (if F<T then (T-1)/64+1 else F/64) j=(f j||(decide (F≤j)&&decide (j<T))):=by
 unfold eT;congr 1
 rw [Bool.eq_iff_iff];simp only [Bool.and_eq_true,decide_eq_true_eq];split<;>omega
theorem ve {f:Nat→Bool} {F T j:Nat}:ft f F T (if F<T then (T-1)/64+1 else F/64) j=(f j&& !(decide (F≤j)&&decide (j<T))):=by
 unfold ft;congr 2
 rw [Bool.eq_iff_iff];simp only [Bool.and_eq_true,decide_eq_true_eq];split<;>omega
theorem oE {w W W':World} {b g n cb F T K:Nat} {f:Nat→Bool} (hT:T≤n) (hf:∀j,n≤j→f j=false) (hcb:cb≠g) (hb:b≠cb) {ws:List Nat} {x:Nat} (h1:aV W b g n ws) (h2:∀j,au ws j=eT f F T K j) {V:Int} (h3:ak W cb [.int .i64 V] 3) (h4:Fr (fun k=>k=g∨k=cb) w W)
  (hx:ws[K]? =some x) (V':Int) (hW:W'=(W.setCell ⟨cb,0,none⟩ (.int .i64 V')).drew.setCell ⟨g,K,none⟩ (.int .u64 ((x|||ci F T K:Nat):Int))):lY w b g n cb F T f (K+1) W':=by
 have hbits:=ro (F:=F) (T:=T) hx h2;have hfa:Fr (fun k=>k=cb) W (W.setCell ⟨cb,0,none⟩ (.int .i64 V')).drew:=((Fr.refl (fun k=>k=cb) W).setCell ⟨cb,0,none⟩ (.inl rfl) _).drew;have hv:=h1.frame hfa hb (fun e=>hcb e.symm);have hxl:=h1.lt x (List.mem_of_getElem? hx);refine ⟨_,V',qI hv hx (x|||ci F T K) (Nat.or_lt_two_pow (n:=64) hxl (gH _ _ _)) (fun j hj=> ?_) _ rfl hW,hbits,?_,?_⟩
 ·rw [hbits];unfold eT;rw [hf j hj,decide_eq_false (show¬j<T by omega),Bool.and_false,Bool.false_and,Bool.or_false]
 ·rw [hW];exact (h3.set 0 (.int .i64 V')).drew.setOther _ _ hcb
 ·rw [hW];exact (((h4.setCell ⟨cb,0,none⟩ (.inl (.inr rfl)) _).drew).setCell ⟨g,K,none⟩ (.inl (.inl rfl)) _)
theorem pL {w W W':World} {b g n cb F T K y:Nat} {f:Nat→Bool} (hf:∀j,n≤j→f j=false) (hcb:cb≠g) (hb:b≠cb) {ws:List Nat} {x:Nat} (h1:aV W b g n ws) (h2:∀j,au ws j=ft f F T K j) {V:Int} (h3:ak W cb [.int .i64 V] 3) (h4:Fr (fun k=>k=g∨k=cb) w W)
  (hx:ws[K]? =some x) (hy:y<18446744073709551616) (hq:∀q,q<64→y.testBit q=(x.testBit q&& !(ci F T K).testBit q)) (V':Int) (hW:W'=(W.setCell ⟨cb,0,none⟩ (.int .i64 V')).drew.setCell ⟨g,K,none⟩ (.int .u64 y)):mi w b g n cb F T f (K+1) W':=by
 have hbits:=sG (F:=F) (T:=T) hx hq h2;have hfa:Fr (fun k=>k=cb) W (W.setCell ⟨cb,0,none⟩ (.int .i64 V')).drew:=((Fr.refl (fun k=>k=cb) W).setCell ⟨cb,0,none⟩ (.inl rfl) _).drew;have hv:=h1.frame hfa hb (fun e=>hcb e.symm);refine ⟨_,V',qI hv hx y hy (fun j hj=> ?_) _ rfl hW,hbits,?_,?_⟩
 ·rw [hbits];unfold ft;rw [hf j hj,Bool.false_and]
 ·rw [hW];exact (h3.set 0 (.int .i64 V')).drew.setOther _ _ hcb
 ·rw [hW];exact (((h4.setCell ⟨cb,0,none⟩ (.inl (.inr rfl)) _).drew).setCell ⟨g,K,none⟩ (.inl (.inl rfl)) _)
theorem jY {w:World} {b g n K:Nat} {ws:List Nat} (h:aV w b g n ws) (hK:64*K<n):∃x,ws[K]? =some x∧x<18446744073709551616∧w.cell? ⟨g,K,none⟩=some (.int .u64 x):=by
 have hl:K<ws.length:=by rw [h.len];omega
 obtain ⟨x,hx⟩:∃x,ws[K]? =some x:=⟨_,List.getElem?_eq_getElem hl⟩;exact ⟨x,hx,h.lt x (List.mem_of_getElem? hx),h.at hx⟩
theorem pK {w:World} {b g n:Nat} {ws:List Nat} (h:aV w b g n ws):∃c,(n+63)/64≤c∧w.cell? ⟨b,0,none⟩=some (.slice (some ⟨g,0,none⟩) ((n+63)/64) c):=by
 have:=h.c0;rwa [h.len] at this
theorem aV.drew {w:World} {b g n:Nat} {ws:List Nat} (h:aV w b g n ws):aV w.drew b g n ws:=h.frame (S:=fun _=>False) ((Fr.refl _ w).drew) (fun h=>h) (fun h=>h)
theorem sC {w:World} {b g n F T:Nat} {ws:List Nat} (h:aV w b g n ws) (hFT:F≤T) (hT:T≤n):Calls Tryz.prog 258 #[b,.int .i64 F,.int .i64 T] w fun e w'=>(∃V,e= .returned (.int .i64 V))∧∃ws',aV w' b g n ws'∧(∀j,au ws' j=(au ws j||(decide (F≤j)&&decide (j<T))))∧Fr (fun k=>k=g) w w':=by
 have hgl:=h.glt;have hbl:=h.blt;have hsz:(w.alloc (.cells #[.int .i64 0] 3)).heap.size=w.heap.size+1:=by simp
 have hw0:Fr (fun k=>k=g∨k=w.heap.size) w (w.alloc (.cells #[.int .i64 0] 3)):=(Fr.refl _ w).alloc _;have h0:lY w b g n w.heap.size F T (au ws) (F/64) (w.alloc (.cells #[.int .i64 0] 3)):=⟨ws,0,h.frame (S:=fun _=>False) ((Fr.refl _ w).alloc _) (fun h=>h) (fun h=>h),fun j=>oF.symm,ak.new w _ _,hw0⟩;have HE:=ae (jp (w:=w.alloc (.cells #[.int .i64 0] 3)) (b:=b) (g:=g) (n:=n) rfl 282 w.heap.size F T (enters_of Tryz.func282 (by kernel_rfl) rfl) hFT hT h.small (T:Int) (by omega) (lY w b g n w.heap.size F T (au ws))
  (fun K W ⟨ws',V,q1,q2,q3,q4⟩=>⟨pK q1,ws',V,q1.drew,q2,q3.drew,q4.drew⟩) ((h.frame (S:=fun _=>False) ((Fr.refl _ w).alloc _) (fun h=>h) (fun h=>h)).c1)
  (fun K W hK1 hK2 hK3 ⟨ws',V,q1,q2,q3,q4⟩=>by
   obtain ⟨x,hx,hxl,hc⟩:=jY (K:=K) q1 (by omega);refine (xy x (ci F T K) V hxl (gH _ _ _) hc (q1.free K) (q3.cell 0 rfl) (q3.free 0) (by omega)).mono ?_;rintro e W' ⟨rfl,V',hW⟩;exact ⟨rfl,oE hT h.off (by omega) (by omega) q1 q2 q3 q4 hx V' hW⟩) h0
  (fun e W=>e= .returned (.tuple #[])∧lY w b g n w.heap.size F T (au ws) (if F<T then (T-1)/64+1 else F/64) W) (fun W hW=>⟨rfl,hW⟩))
 have hend:∀W,lY w b g n w.heap.size F T (au ws) (if F<T then (T-1)/64+1 else F/64) W→(∃V,W.cell? ⟨w.heap.size,0,none⟩=some (.int .i64 V))∧∃ws',aV W b g n ws'∧(∀j,au ws' j=(au ws j||(decide (F≤j)&&decide (j<T))))∧Fr (fun k=>k=g) w W:=fun W ⟨ws',V,q1,q2,q3,q4⟩=>
  ⟨⟨V,q3.cell 0 rfl⟩,ws',q1,fun j=>by rw [q2,tF],q4.mono (fun i hi=>by rcases hi with hi|hi;exact .inl hi;exact .inr (by omega))⟩
 have HEND:=ae hend;clear hend h0 hw0 h hgl hbl
 go_enter Tryz.func258,Tryz.ntmps258
 go_wp2_with fail
 refine (HE.out).mono ?_;rintro e w' ⟨rfl,h2⟩;obtain ⟨⟨V,hV⟩,h3⟩:=HEND.out _ h2;have H3:=ae h3;clear h2 h3;go_wp2;go_ret;exact ⟨⟨V,rfl⟩,H3.out⟩
theorem lg {w:World} {b g n F T:Nat} {ws:List Nat} (h:aV w b g n ws) (hFT:F≤T) (hT:T≤n):Calls Tryz.prog 202 #[b,.int .i64 F,.int .i64 T] w fun e w'=>(∃V,e= .returned (.int .i64 V))∧∃ws',aV w' b g n ws'∧(∀j,au ws' j=(au ws j&& !(decide (F≤j)&&decide (j<T))))∧Fr (fun k=>k=g) w w':=by
 have hgl:=h.glt;have hbl:=h.blt;have hsz:(w.alloc (.cells #[.int .i64 0] 3)).heap.size=w.heap.size+1:=by simp
 have hw0:Fr (fun k=>k=g∨k=w.heap.size) w (w.alloc (.cells #[.int .i64 0] 3)):=(Fr.refl _ w).alloc _;have h0:mi w b g n w.heap.size F T (au ws) (F/64) (w.alloc (.cells #[.int .i64 0] 3)):=⟨ws,0,h.frame (S:=fun _=>False) ((Fr.refl _ w).alloc _) (fun h=>h) (fun h=>h),fun j=>pM.symm,ak.new w _ _,hw0⟩;have HE:=ae (jp (w:=w.alloc (.cells #[.int .i64 0] 3)) (b:=b) (g:=g) (n:=n) rfl 246 w.heap.size F T (enters_of Tryz.func246 (by kernel_rfl) rfl) hFT hT h.small (T:Int) (by omega) (mi w b g n w.heap.size F T (au ws))
  (fun K W ⟨ws',V,q1,q2,q3,q4⟩=>⟨pK q1,ws',V,q1.drew,q2,q3.drew,q4.drew⟩) ((h.frame (S:=fun _=>False) ((Fr.refl _ w).alloc _) (fun h=>h) (fun h=>h)).c1)
  (fun K W hK1 hK2 hK3 ⟨ws',V,q1,q2,q3,q4⟩=>by
   obtain ⟨x,hx,hxl,hc⟩:=jY (K:=K) q1 (by omega);obtain ⟨y,hy,hyb,hyq⟩:=iD x (ci F T K) hxl (gH _ _ _);refine (xU x (ci F T K) V hxl (gH _ _ _) hc (q1.free K) (q3.cell 0 rfl) (q3.free 0) (by omega) y hyb).mono ?_;rintro e W' ⟨rfl,V',hW⟩;exact ⟨rfl,pL h.off (by omega) (by omega) q1 q2 q3 q4 hx hy hyq V' hW⟩) h0
  (fun e W=>e= .returned (.tuple #[])∧mi w b g n w.heap.size F T (au ws) (if F<T then (T-1)/64+1 else F/64) W) (fun W hW=>⟨rfl,hW⟩))
 have hend:∀W,mi w b g n w.heap.size F T (au ws) (if F<T then (T-1)/64+1 else F/64) W→(∃V,W.cell? ⟨w.heap.size,0,none⟩=some (.int .i64 V))∧∃ws',aV W b g n ws'∧(∀j,au ws' j=(au ws j&& !(decide (F≤j)&&decide (j<T))))∧Fr (fun k=>k=g) w W:=fun W ⟨ws',V,q1,q2,q3,q4⟩=>
  ⟨⟨V,q3.cell 0 rfl⟩,ws',q1,fun j=>by rw [q2,ve],q4.mono (fun i hi=>by rcases hi with hi|hi;exact .inl hi;exact .inr (by omega))⟩
 have HEND:=ae hend;clear hend h0 hw0 h hgl hbl
 go_enter Tryz.func202,Tryz.ntmps202
 go_wp2_with fail
 refine (HE.out).mono ?_;rintro e w' ⟨rfl,h2⟩;obtain ⟨⟨V,hV⟩,h3⟩:=HEND.out _ h2;have H3:=ae h3;clear h2 h3;go_wp2;go_ret;exact ⟨⟨V,rfl⟩,H3.out⟩
theorem mB {w W W':World} {b g n cb F T K:Nat} {ws:List Nat} (hcb:cb≠g) (hb:b≠cb) (hK:F/64≤K) (h:gU w b g n cb F T ws K W) {x:Nat} (hx:ws[K]? =some x)
  (hW:W'=(W.setCell ⟨cb,0,none⟩ (.int .i64 (((cnt (cK (au ws) F T) (64*(F/64)) (64*K):Nat):Int)+(cW (qr (ci F T K&&&x) 0 64) 64:Nat)))).drew):gU w b g n cb F T ws (K+1) W':=by
 obtain ⟨h1,h2,h3⟩:=h;have hfa:Fr (fun k=>k=cb) W W':=by rw [hW];exact ((Fr.refl (fun k=>k=cb) W).setCell ⟨cb,0,none⟩ (.inl rfl) _).drew
 refine ⟨h1.frame hfa hb (fun e=>hcb e.symm),?_,h3.trans hfa (fun i hi=> .inl hi)⟩;rw [hW];have:=(h2.set 0 (.int .i64 (((cnt (cK (au ws) F T) (64*(F/64)) (64*K):Nat):Int)+(cW (qr (ci F T K&&&x) 0 64) 64:Nat)))).drew;rw [ot hx] at this ⊢;have e:cnt (cK (au ws) F T) (64*(F/64)) (64*(K+1))=cnt (cK (au ws) F T) (64*(F/64)) (64*K)+cnt (cK (au ws) F T) (64*K) (64*(K+1)):=aw _ (by omega) (by omega);rw [e];exact this
theorem jX {w:World} {b g n F T:Nat} {ws:List Nat} (h:aV w b g n ws) (hFT:F≤T) (hT:T≤n) (X:Int) (hX:min X (n:Int)=(T:Int)):Calls Tryz.prog 284 #[b,.int .i64 F,.int .i64 X] w fun e w'=>e= .returned (.int .i64 ((cnt (au ws) F T:Nat):Int))∧Fr (fun _=>False) w w':=by
 have hgl:=h.glt;have hbl:=h.blt;have hnn:=h.small;have h0:gU w b g n w.heap.size F T ws (F/64) (w.alloc (.cells #[.int .i64 0] 3)):=⟨h.frame (S:=fun _=>False) ((Fr.refl _ w).alloc _) (fun h=>h) (fun h=>h),by rw [bC _ (Nat.le_refl _)];exact ak.new w _ _,(Fr.refl _ w).alloc _⟩;have hsm:∀K,cnt (cK (au ws) F T) (64*(F/64)) (64*K)≤1048576:=fun K=>by
  by_cases h1:64*K≤T
  ·have:=be (cK (au ws) F T) (64*(F/64)) (64*K);omega
  ·by_cases h2:64*(F/64)≤T
   ·rw [aw (cK (au ws) F T) h2 (show T≤64*K by omega),aD (a:=T) (b:=64*K) (fun i h _=>by unfold cK;rw [decide_eq_false (show¬i<T by omega),Bool.and_false];rfl)];have:=be (cK (au ws) F T) (64*(F/64)) T;omega
   ·omega
 have HE:=ae (jp (w:=w.alloc (.cells #[.int .i64 0] 3)) (b:=b) (g:=g) (n:=n) rfl 292 w.heap.size F T (enters_of Tryz.func292 (by kernel_rfl) rfl) hFT hT h.small X hX (gU w b g n w.heap.size F T ws)
  (fun K W ⟨q1,q2,q3⟩=>⟨pK q1,q1.drew,q2.drew,q3.drew⟩) ((h.frame (S:=fun _=>False) ((Fr.refl _ w).alloc _) (fun h=>h) (fun h=>h)).c1)
  (fun K W hK1 hK2 hK3 hJ=>by
   obtain ⟨q1,q2,q3⟩:=id hJ;obtain ⟨x,hx,hxl,hc⟩:=jY (K:=K) q1 (by omega);refine (vJ x (ci F T K) _ hxl (gH _ _ _) hc (q2.cell 0 rfl) (q2.free 0) ⟨by omega,by have:=hsm K;omega⟩).mono ?_;rintro e W' ⟨rfl,hW⟩;exact ⟨rfl,mB (by omega) (by omega) hK1 hJ hx hW⟩) h0
  (fun e W=>e= .returned (.tuple #[])∧gU w b g n w.heap.size F T ws (if F<T then (T-1)/64+1 else F/64) W) (fun W hW=>⟨rfl,hW⟩))
 have hend:∀W,gU w b g n w.heap.size F T ws (if F<T then (T-1)/64+1 else F/64) W→W.cell? ⟨w.heap.size,0,none⟩=some (.int .i64 ((cnt (au ws) F T:Nat):Int))∧Fr (fun _=>False) w W:=fun W ⟨q1,q2,q3⟩=>by
  refine ⟨?_,q3.mono (fun i hi=> .inr (by omega))⟩;have:=q2.cell 0 rfl;by_cases hlt:F<T
  ·rw [if_pos hlt,mC _ (by omega) hFT (by omega)] at this;exact this
  ·rw [if_neg hlt,bC _ (Nat.le_refl _)] at this;rw [bC _ (show T≤F by omega)];exact this
 have HEND:=ae hend;generalize cnt (au ws) F T=N at*;clear hend h0 h hgl hbl hsm
 go_enter Tryz.func284,Tryz.ntmps284
 go_wp2_with fail
 refine (HE.out).mono ?_;rintro e w' ⟨rfl,h2⟩;obtain ⟨hV,h3⟩:=HEND.out _ h2;have H3:=ae h3;clear h2 h3;go_wp2;go_ret;exact ⟨rfl,H3.out⟩
def cX (E:Nat→Nat):Prop:=∀a b,a<b→E a≠0→E b≠0→a+E a≤b
def aU (E:Nat→Nat) (a:Nat):Bool:=E a !=0
def kf (E:Nat→Nat) (e:Nat):Bool:=(List.range (e+1)).any fun s=>E s !=0&&s+E s==e+1
def aj (E:Nat→Nat) (a:Nat):Bool:=(List.range (a+1)).any fun s=>decide (a<s+E s)
theorem aQ {E:Nat→Nat} {a:Nat}:aj E a=true↔∃s,s≤a∧a<s+E s:=by
 unfold aj;simp only [List.any_eq_true,List.mem_range,decide_eq_true_eq];exact ⟨fun ⟨s,h1,h2⟩=>⟨s,by omega,h2⟩,fun ⟨s,h1,h2⟩=>⟨s,by omega,h2⟩⟩
theorem gv {E:Nat→Nat} {e:Nat}:kf E e=true↔∃s,E s≠0∧s+E s=e+1:=by
 unfold kf;simp only [List.any_eq_true,List.mem_range,Bool.and_eq_true,bne_iff_ne,beq_iff_eq];exact ⟨fun ⟨s,_,h1,h2⟩=>⟨s,h1,h2⟩,fun ⟨s,h1,h2⟩=>⟨s,by omega,h1,h2⟩⟩
theorem bH {E:Nat→Nat} {a:Nat}:aU E a=true↔E a≠0:=by unfold aU;exact bne_iff_ne
theorem cX.owner {E:Nat→Nat} (h:cX E) {s t a:Nat} (hs:s≤a) (hs2:a<s+E s) (ht:t≤a) (ht2:a<t+E t):s=t:=by
 rcases Nat.lt_trichotomy s t with hlt|heq|hgt
 ·have:=h s t hlt (by omega) (by omega);omega
 ·exact heq
 ·have:=h t s hgt (by omega) (by omega);omega
theorem cX.end_of {E:Nat→Nat} (h:cX E) {s:Nat} (hs:E s≠0):kf E (s+E s-1)=true∧∀j,s≤j→j<s+E s-1→kf E j=false:=by
 refine ⟨gv.2 ⟨s,hs,by omega⟩,fun j h1 h2=> ?_⟩
 cases hj:kf E j with
 |false=>rfl
 |true=>
  obtain ⟨t,ht,he⟩:=gv.1 hj;rcases Nat.lt_trichotomy s t with hlt|heq|hgt
  ·have:=h s t hlt hs ht;omega
  ·subst heq;omega
  ·have:=h t s hgt ht hs;omega
theorem gE {E:Nat→Nat} {s i:Nat} (hi:i<E s):aj E (s+i)=true:=aQ.2 ⟨s,by omega,by omega⟩
theorem xu {E:Nat→Nat} {s i:Nat} (hi:i≤E s):cnt (aj E) 0 (s+i)=cnt (aj E) 0 s+i:=by
 rw [aw (aj E) (Nat.zero_le s) (Nat.le_add_right s i),ib (a:=s) (b:=s+i) (fun j h1 h2=>by
  have:=gE (E:=E) (s:=s) (i:=j-s) (by omega);rwa [show s+(j-s)=j by omega] at this)]
 omega
theorem yx {E:Nat→Nat} {a b:Nat} (h:∀s,E s≠0→s+E s≤a∨b≤s):∀j,a≤j→j<b→aj E j=false:=by
 intro j h1 h2
 cases hj:aj E j with
 |false=>rfl
 |true=>
  obtain ⟨s,hs1,hs2⟩:=aQ.1 hj;rcases h s (by omega) with h|h<;>omega
def goes (E:Nat→Nat) (Ba a:Nat):Nat:=Ba+cnt (aj E) 0 a
theorem iV {E:Nat→Nat} {Ba s i:Nat} (hi:i≤E s):goes E Ba (s+i)=goes E Ba s+i:=by unfold goes;rw [xu hi];omega
theorem eh {E:Nat→Nat} {Ba a b:Nat} (h:a≤b):goes E Ba a≤goes E Ba b:=by
 unfold goes;have:=cQ (aj E) (a:=0) h;omega
theorem kA {E:Nat→Nat} {Ba a:Nat} (h:∀s,E s≠0→Ba≤s) (ha:Ba≤a):goes E Ba a≤a:=by
 unfold goes;rw [aw (aj E) (Nat.zero_le Ba) ha,aD (a:=0) (b:=Ba) (fun j _ h2=>by
  cases hj:aj E j with
  |false=>rfl
  |true=>
   obtain ⟨s,hs1,hs2⟩:=aQ.1 hj;have:=h s (by omega);omega)]
 have:=be (aj E) Ba a;omega
def bq (E:Nat→Nat) (s n:Nat):Nat→Nat:=fun a=>if a=s then n else E a
theorem pB {E:Nat→Nat} (h:cX E) {s n:Nat} (hn:n≠0) (h1:∀a,a<s→E a≠0→a+E a≤s) (h2:∀b,s≤b→E b≠0→s+n≤b):cX (bq E s n):=by
 intro a b hab ha hb;unfold bq at*;by_cases e1:a=s
 ·subst e1;rw [if_pos rfl];rw [if_neg (by omega)] at hb;exact h2 b (by omega) hb
 ·rw [if_neg e1] at ha ⊢;by_cases e2:b=s
  ·subst e2;exact h1 a hab ha
  ·rw [if_neg e2] at hb;exact h a b hab ha hb
structure aI where
 m:Nat
 s:Nat
 gs:Nat
 e:Nat
 ge:Nat
def aI.has (L:aI) (k:Nat):Prop:=k=L.m∨k=L.s∨k=L.gs∨k=L.e∨k=L.ge
def aI.turns (L:aI) (k:Nat):Prop:=k=L.m∨k=L.gs∨k=L.ge
theorem aI.turns_has {L:aI} {k:Nat} (h:L.turns k):L.has k:=by
 rcases h with h|h|h
 ·exact .inl h
 ·exact .inr (.inr (.inl h))
 ·exact .inr (.inr (.inr (.inr h)))
structure bA (w:World) (L:aI) (W:Nat) (E:Nat→Nat):Prop where
 blk:ak w L.m [.pointer (some ⟨L.s,0,none⟩),.pointer (some ⟨L.e,0,none⟩),.int .i64 ((cnt (aU E) 0 W:Nat):Int)] 215
 sv:∃ws,aV w L.s L.gs W ws∧∀j,au ws j=aU E j
 ev:∃ws,aV w L.e L.ge W ws∧∀j,au ws j=kf E j
 apart:cX E
 top:∀a,E a≠0→a+E a≤W
 d1:L.m≠L.gs
 d2:L.m≠L.ge
 d3:L.s≠L.ge
 d4:L.e≠L.gs
 d5:L.gs≠L.ge
 d6:L.s≠L.m
 d7:L.e≠L.m
theorem bA.frame {S:Nat→Prop} {w w':World} {L:aI} {W:Nat} {E:Nat→Nat} (h:bA w L W E) (hf:Fr S w w') (hn:∀k,L.has k→¬S k):bA w' L W E:=
 ⟨h.blk.frame hf (hn _ (.inl rfl)),let ⟨ws,h1,h2⟩:=h.sv;⟨ws,h1.frame hf (hn _ (.inr (.inl rfl))) (hn _ (.inr (.inr (.inl rfl)))),h2⟩,
  let ⟨ws,h1,h2⟩:=h.ev;⟨ws,h1.frame hf (hn _ (.inr (.inr (.inr (.inl rfl))))) (hn _ (.inr (.inr (.inr (.inr rfl))))),h2⟩,h.apart,h.top,h.d1,h.d2,h.d3,h.d4,h.d5,h.d6,h.d7⟩
theorem bA.small {w:World} {L:aI} {W:Nat} {E:Nat→Nat} (h:bA w L W E):1≤W∧W≤1048576:=let ⟨_,h1,_⟩:=h.sv;⟨h1.one,h1.small⟩
theorem bA.lt {w:World} {L:aI} {W:Nat} {E:Nat→Nat} (h:bA w L W E):∀k,L.has k→k<w.heap.size:=by
 obtain ⟨ws,h1,_⟩:=h.sv;obtain ⟨we,h2,_⟩:=h.ev;rintro k (rfl|rfl|rfl|rfl|rfl)
 ·exact h.blk.lt
 ·exact h1.blt
 ·exact h1.glt
 ·exact h2.blt
 ·exact h2.glt
theorem cH {w:World} {m s e:Nat} {v:Value} (h:ak w m [.pointer (some ⟨s,0,none⟩),.pointer (some ⟨e,0,none⟩),v] 215):Calls Tryz.prog 200 #[m] w fun e w'=>e= .returned (.bool false)∧w=w':=by
 have c0:=h.cell 0 rfl;clear h
 go_enter Tryz.func200,Tryz.ntmps200
 go_wp2;go_ret;exact ⟨rfl,rfl⟩
theorem cC {w:World} {L:aI} {W:Nat} {E:Nat→Nat} (h:bA w L W E):Calls Tryz.prog 136 #[L.m] w fun e w'=>e= .returned (.int .i64 W)∧w=w':=by
 have HN:=ae (cH h.blk);have c0:=h.blk.cell 0 rfl;obtain ⟨ws,h1,_⟩:=h.sv;have HL:=ae (fq h1);clear h h1
 go_enter Tryz.func136,Tryz.ntmps136
 go_wp2_with fail
 refine (HN.out).mono ?_;rintro e w' ⟨rfl,rfl⟩;go_wp2_with fail
 refine (HL.out).mono ?_;rintro e w' ⟨rfl,rfl⟩;go_wp2;go_ret;exact ⟨rfl,rfl⟩
theorem jq {w:World} {L:aI} {W:Nat} {E:Nat→Nat} (h:bA w L W E) (hT:bu w) (a:Nat) (ha:E a≠0):Calls Tryz.prog 222 #[L.m,.int .i64 a] w fun e w'=>e= .returned (.int .i64 (E a:Int))∧w=w':=by
 have c1:=h.blk.cell 1 rfl;obtain ⟨ws,h1,h2⟩:=h.ev;have htop:=h.top a ha;have hsm:=h.small;obtain ⟨he1,he2⟩:=h.apart.end_of ha;have HN:=ae (en h1 hT a (by omega));have hpost:∀e w',gl (au ws) W a w e w'→e= .returned (.tuple #[.int .i64 ((a+E a-1:Nat):Int),.bool true])∧w=w':=by
  rintro e w' ⟨hp,hw⟩;refine ⟨?_,hw⟩;rcases hp with ⟨j,hj,rfl⟩|⟨hj,rfl⟩
  ·have:j=a+E a-1:=by
    rcases Nat.lt_trichotomy j (a+E a-1) with hlt|heq|hgt
    ·have:=he2 j hj.1 hlt;rw [←h2,hj.2.2.1] at this;cases this
    ·exact heq
    ·have:=hj.2.2.2 (a+E a-1) (by omega) hgt;rw [h2,he1] at this;cases this
   rw [this]
  ·have:=hj (a+E a-1) (by omega) (by omega);rw [h2,he1] at this;cases this
 have HP:=ae hpost;have hx:((a+E a-1:Nat):Int)=(a:Int)+(E a:Int)-1:=by omega
 rw [hx] at HP;generalize E a=n at*;have hb1:(a:Int)≤1048576:=by omega
 have hb2:(n:Int)≤1048576:=by omega
 clear h h1 h2 he1 he2 hpost hx
 go_enter Tryz.func222,Tryz.ntmps222
 go_wp2_with fail
 refine (HN.out).mono ?_;rintro e w' hp;obtain ⟨rfl,rfl⟩:=HP.out _ _ hp;clear hp;go_wp2;go_ret;refine ⟨?_,rfl⟩;exact congrArg (fun z=>Ending.returned (.int .i64 z)) (by omega)
def ce (E:Nat→Nat) (a:Nat) (w:World) (e:Ending) (w':World):Prop:=
 ((∃s n:Nat,s≤a∧E s=n∧a<s+n∧e= .returned (.tuple #[.int .i64 s,.int .i64 n,.bool true]))∨((∀s,s≤a→s+E s≤a)∧e= .returned (.tuple #[.int .i64 0,.int .i64 0,.bool false])))∧w=w'
theorem ee {w:World} {L:aI} {W:Nat} {E:Nat→Nat} (h:bA w L W E) (hT:bu w) (a:Nat) (ha:a≤1048576):Calls Tryz.prog 243 #[L.m,.int .i64 a] w (ce E a w):=by
 have HN:=ae (cH h.blk);have HW:=ae (cC h);have c0:=h.blk.cell 0 rfl;have hsm:=h.small;have hb1:(a:Int)≤1048576:=by omega
 by_cases hin:W≤a
 ·have hend:ce E a w (.returned (.tuple #[.int .i64 0,.int .i64 0,.bool false])) w:=⟨.inr ⟨fun s hs=>by
   by_cases he:E s=0
   ·omega
   ·have:=h.top s he;omega,rfl⟩,rfl⟩
  have HEND:=ae hend;have hbW:(W:Int)≤(a:Int):=by omega
  generalize ce E a w=Q at*;clear h hT hend hin hsm
  go_enter Tryz.func243,Tryz.ntmps243
  go_wp2_with fail
  refine (HN.out).mono ?_;rintro e w' ⟨rfl,rfl⟩;go_wp2_with fail
  refine (HW.out).mono ?_;rintro e w' ⟨rfl,rfl⟩;go_wp2
  go_ret3
  exact HEND.out
 ·obtain ⟨ws,h1,h2⟩:=h.sv;have HL:=ae (sD h1 (a+1) (by omega) (by omega));rw [show ((a+1:Nat):Int)=(a:Int)+1 by omega] at HL;have hnone:∀w',(∀j,j<a+1→au ws j=false)→w=w'→ce E a w (.returned (.tuple #[.int .i64 0,.int .i64 0,.bool false])) w':=fun w' hj hw=>⟨.inr ⟨fun s hs=>by
   by_cases he:E s=0
   ·omega
   ·have:=hj s (by omega)
    (rw [h2,bH.2 he] at this;cases this),rfl⟩,hw⟩
  have hsome:∀j,pf (au ws) (a+1) j→j≤a∧E j≠0∧E j≤1048576∧(a<j+E j→ce E a w (.returned (.tuple #[.int .i64 j,.int .i64 (E j:Int),.bool true])) w)∧(j+E j≤a→ce E a w (.returned (.tuple #[.int .i64 0,.int .i64 0,.bool false])) w):=fun j hj=>by
   have hE:E j≠0:=by have:=hj.2.1;rw [h2] at this;exact bH.1 this
   have:=h.top j hE;refine ⟨by have:=hj.1;omega,hE,by omega,fun hlt=>⟨.inl ⟨j,E j,by have:=hj.1;omega,rfl,hlt,rfl⟩,rfl⟩,fun hle=>⟨.inr ⟨fun s hs=> ?_,rfl⟩,rfl⟩⟩;by_cases he:E s=0
   ·omega
   ·rcases Nat.lt_trichotomy s j with hlt|heq|hgt
    ·have:=h.apart s j hlt he hE;omega
    ·subst heq;exact hle
    ·have:=hj.2.2 s hgt (by omega);rw [h2,bH.2 he] at this;cases this
  have HZ:=ae (jq h hT);have HNO:=ae hnone;have HSO:=ae hsome;have hbW:(a:Int)<(W:Int):=by omega
  generalize ce E a w=Q at*;clear h hT h1 h2 hnone hsome hin hsm
  go_enter Tryz.func243,Tryz.ntmps243
  go_wp2_with fail
  refine (HN.out).mono ?_;rintro e w' ⟨rfl,rfl⟩;go_wp2_with fail
  refine (HW.out).mono ?_;rintro e w' ⟨rfl,rfl⟩;go_wp2_with fail
  refine (HL.out).mono ?_;rintro e w' ⟨hp,rfl⟩;rcases hp with ⟨j,hj,rfl⟩|⟨hj,rfl⟩
  ·obtain ⟨q1,q2,q3,q4,q5⟩:=HSO.out j hj;have HZ2:=ae (HZ.out j q2);have HY:=ae q4;have HX:=ae q5;clear q4 q5 hj;generalize E j=n at*;have b1:(j:Int)≤(a:Int):=by omega
   have b2:(n:Int)≤1048576:=by omega
   by_cases hlt:a<j+n
   ·have b3:(a:Int)<(j:Int)+(n:Int):=by omega
    have HQ:=ae (HY.out hlt);go_wp2_with fail
    refine (HZ2.out).mono ?_;rintro e w' ⟨rfl,rfl⟩;go_wp2
    go_ret3
    exact HQ.out
   ·have b3:(j:Int)+(n:Int)≤(a:Int):=by omega
    have HQ:=ae (HX.out (by omega));go_wp2_with fail
    refine (HZ2.out).mono ?_;rintro e w' ⟨rfl,rfl⟩;go_wp2
    go_ret3
    exact HQ.out
  ·have HQ:=ae (HNO.out _ hj rfl);clear hj;go_wp2
   go_ret3
   exact HQ.out
def cF (E:Nat→Nat) (W a:Nat) (w:World) (e:Ending) (w':World):Prop:=
 ((∃s n:Nat,eW (aU E) a W s∧E s=n∧e= .returned (.tuple #[.int .i64 s,.int .i64 n,.bool true]))∨((∀s,a≤s→s<W→aU E s=false)∧e= .returned (.tuple #[.int .i64 0,.int .i64 0,.bool false])))∧w=w'
theorem ig {w:World} {L:aI} {W:Nat} {E:Nat→Nat} (h:bA w L W E) (hT:bu w) (a:Nat) (ha:a≤1048576):Calls Tryz.prog 215 #[L.m,.int .i64 a] w (cF E W a w):=by
 have HN:=ae (cH h.blk);have c0:=h.blk.cell 0 rfl;have hsm:=h.small;have hb1:(a:Int)≤1048576:=by omega
 obtain ⟨ws,h1,h2⟩:=h.sv;have HL:=ae (en h1 hT a ha);have hnone:(∀j,a≤j→j<W→au ws j=false)→cF E W a w (.returned (.tuple #[.int .i64 0,.int .i64 0,.bool false])) w:=fun hj=>⟨.inr ⟨fun s q1 q2=>by rw [←h2];exact hj s q1 q2,rfl⟩,rfl⟩
 have hsome:∀j,eW (au ws) a W j→E j≠0∧cF E W a w (.returned (.tuple #[.int .i64 j,.int .i64 (E j:Int),.bool true])) w:=fun j hj=>
  ⟨by have:=hj.2.2.1;rw [h2] at this;exact bH.1 this,.inl ⟨j,E j,⟨hj.1,hj.2.1,by rw [←h2];exact hj.2.2.1,fun k q1 q2=>by rw [←h2];exact hj.2.2.2 k q1 q2⟩,rfl,rfl⟩,rfl⟩
 have HZ:=ae (jq h hT);have HNO:=ae hnone;have HSO:=ae hsome;generalize cF E W a w=Q at*;clear h hT h1 h2 hnone hsome hsm
 go_enter Tryz.func215,Tryz.ntmps215
 go_wp2_with fail
 refine (HN.out).mono ?_;rintro e w' ⟨rfl,rfl⟩;go_wp2_with fail
 refine (HL.out).mono ?_;rintro e w' ⟨hp,rfl⟩;rcases hp with ⟨j,hj,rfl⟩|⟨hj,rfl⟩
 ·obtain ⟨q2,q4⟩:=HSO.out j hj;have HZ2:=ae (HZ.out j q2);have HQ:=ae q4;clear q4 hj;generalize E j=n at*;go_wp2_with fail
  refine (HZ2.out).mono ?_;rintro e w' ⟨rfl,rfl⟩;go_wp2
  go_ret3
  exact HQ.out
 ·have HQ:=ae (HNO.out hj);clear hj;go_wp2
  go_ret3
  exact HQ.out
structure Gr where
 size:Nat→Nat
 ptrs:Nat→List Nat
inductive Reach (G:Gr) (rs:List Nat):Nat→Prop
 |root {a:Nat}:a∈rs→a≠0→Reach G rs a
 |step {a p:Nat}:Reach G rs a→p∈G.ptrs a→p≠0→Reach G rs p
theorem Reach.pos {G:Gr} {rs:List Nat} {a:Nat} (h:Reach G rs a):a≠0:=by cases h<;>assumption
structure cg (G:Gr) (rs:List Nat) (N:Nat):Prop where
 apart:cX G.size
 top:∀a,G.size a≠0→a+G.size a≤N
 root:∀a∈rs,a≠0→G.size a≠0
 ptr:∀a,G.size a≠0→∀p∈G.ptrs a,p≠0→G.size p≠0
theorem cg.reach {G:Gr} {rs:List Nat} {N:Nat} (h:cg G rs N) {a:Nat} (hr:Reach G rs a):G.size a≠0:=by
 induction hr with
 |root h1 h2=>exact h.root _ h1 h2
 |step _ h1 h2 ih=>exact h.ptr _ ih _ h1 h2
def bU (G:Gr) (rs:List Nat) (E:Nat→Nat):Prop:=∀a,E a≠0→Reach G rs a∧E a=G.size a
def qN (G:Gr) (E:Nat→Nat) (a:Nat):Prop:=∀p∈G.ptrs a,p≠0→E p≠0
theorem bU.none (G:Gr) (rs:List Nat):bU G rs (fun _=>0):=fun _ h=>absurd rfl h
theorem bU.put {G:Gr} {rs:List Nat} {E:Nat→Nat} (h:bU G rs E) {a:Nat} (ha:Reach G rs a):bU G rs (bq E a (G.size a)):=by
 intro b hb;unfold bq at*;by_cases e:b=a
 ·subst e;rw [if_pos rfl];exact ⟨ha,rfl⟩
 ·rw [if_neg e] at hb ⊢;exact h b hb
theorem bU.Rm {G:Gr} {rs:List Nat} {E:Nat→Nat} {N a:Nat} (h:bU G rs E) (hS:cg G rs N) (ha:G.size a≠0) (he:E a=0):
  (∀s,s≤a→s+E s≤a)∧(∀s,a≤s→E s≠0→a+G.size a≤s):=by
 constructor
 ·intro s hs;by_cases hz:E s=0
  ·omega
  ·by_cases hsa:s=a
   ·subst hsa;exact absurd he hz
   ·rw [(h s hz).2];exact hS.apart s a (by omega) (by rw [←(h s hz).2];exact hz) ha
 ·intro s hs hz;by_cases hsa:s=a
  ·subst hsa;exact absurd he hz
  ·exact hS.apart a s (by omega) ha (by rw [←(h s hz).2];exact hz)
theorem oe {G:Gr} {rs:List Nat} {E:Nat→Nat} (hr:∀a∈rs,a≠0→E a≠0) (hd:∀a,E a≠0→qN G E a) {a:Nat} (h:Reach G rs a):E a≠0:=by
 induction h with
 |root h1 h2=>exact hr _ h1 h2
 |step _ h1 h2 ih=>exact hd _ ih _ h1 h2
theorem pi {G:Gr} {rs:List Nat} {E:Nat→Nat} (hm:bU G rs E) (hr:∀a∈rs,a≠0→E a≠0) (hd:∀a,E a≠0→qN G E a) (a:Nat):E a≠0↔Reach G rs a:=
 ⟨fun h=>(hm a h).1,oe hr hd⟩
theorem gd {E:Nat→Nat} {a n N:Nat} (hn:n≠0) (he:E a=0) (ha:a<N):cnt (aU (bq E a n)) 0 N=cnt (aU E) 0 N+1:=by
 rw [aw (aU (bq E a n)) (Nat.zero_le a) (Nat.le_of_lt ha),aw (aU E) (Nat.zero_le a) (Nat.le_of_lt ha),
  aJ (f:=aU (bq E a n)) (g:=aU E) (a:=0) (b:=a) (fun i _ h=>by unfold aU bq;rw [if_neg (by omega)])]
 have h1:∀f:Nat→Bool,cnt f a N=(if f a then 1 else 0)+cnt f (a+1) N:=fun f=>by
  rw [aw f (show a≤a+1 from Nat.le_succ a) (show a+1≤N from ha),aC f (Nat.le_refl a),bC f (Nat.le_refl a),Nat.zero_add]
 rw [h1 (aU (bq E a n)),h1 (aU E),aJ (f:=aU (bq E a n)) (g:=aU E) (a:=a+1) (b:=N) (fun i h _=>by unfold aU bq;rw [if_neg (by omega)])];have e1:aU (bq E a n) a=true:=bH.2 (by unfold bq;rw [if_pos rfl];exact hn);have e2:aU E a=false:=by unfold aU;rw [he];rfl
 rw [e1,e2];simp;omega
theorem pE {E:Nat→Nat} {s n:Nat} (hn:n≠0) (j:Nat):aU (bq E s n) j=(aU E j||j==s):=by
 unfold aU bq;by_cases e:j=s
 ·subst e;simp [hn]
 ·simp [e]
theorem tD {E:Nat→Nat} {s n:Nat} (hn:n≠0) (he:E s=0) (j:Nat):kf (bq E s n) j=(kf E j||j==s+n-1):=by
 rw [Bool.eq_iff_iff,Bool.or_eq_true,gv,gv,beq_iff_eq];constructor
 ·rintro ⟨t,h1,h2⟩;unfold bq at h1 h2;by_cases e:t=s
  ·subst e;rw [if_pos rfl] at h2;exact .inr (by omega)
  ·rw [if_neg e] at h1 h2;exact .inl ⟨t,h1,h2⟩
 ·rintro (⟨t,h1,h2⟩|h)
  ·refine ⟨t,?_⟩;unfold bq;rw [if_neg (fun e=>h1 (by rw [e];exact he))];exact ⟨h1,h2⟩
  ·refine ⟨s,?_⟩;unfold bq;rw [if_pos rfl];exact ⟨hn,by omega⟩
theorem fo (j:Nat):aU (fun _=>0) j=false:=rfl
theorem ku (j:Nat):kf (fun _=>0) j=false:=by
 rw [Bool.eq_false_iff,ne_eq,gv];rintro ⟨t,h,_⟩;exact h rfl
theorem gw (W:Nat) (h1:1≤W) (h2:W≤1048576) (w:World):Calls Tryz.prog 66 #[.int .i64 W] w fun e w'=>∃L:aI,e= .returned (.tuple #[.pointer (some ⟨L.m,0,none⟩),.int .i64 0])∧bA w' L W (fun _=>0)∧(∀k,L.has k→w.heap.size≤k)∧Fr (fun _=>False) w w':=by
 have HV:=ae (fun w=>qJ W h1 h2 w);clear h1 h2
 go_enter Tryz.func66,Tryz.ntmps66
 go_wp2_with fail
 refine (HV.out _).mono ?_;rintro e w1 ⟨b1,g1,rfl,hv1,hb1,hg1,hf1⟩;have HV1:=ae hv1;have HF1:=ae hf1;have HB1:=ae (af hb1 hg1);clear hv1 hf1 hb1 hg1;go_wp2_with fail
 refine (HV.out _).mono ?_;rintro e w2 ⟨b2,g2,rfl,hv2,hb2,hg2,hf2⟩;have HV2:=ae hv2;have HF2:=ae hf2;have HB2:=ae (af hb2 hg2);clear hv2 hf2 hb2 hg2;go_wp2;go_ret2;have hs1:=HV1.out.blt;have hs2:=HV1.out.glt;have hs3:=HV2.out.blt;have hs4:=HV2.out.glt;have hz1:=HF1.out.size;have hz2:=HF2.out.size;have hn1:=HB1.out;have hn2:=HB2.out;have hfa:Fr (fun _=>False) w2 (w2.alloc (.cells #[.pointer (some ⟨b1,0,none⟩),.pointer (some ⟨b2,0,none⟩),.int .i64 0] 215)):=(Fr.refl _ w2).alloc _;refine ⟨⟨w2.heap.size,b1,g1,b2,g2⟩,rfl,⟨?_,⟨_,(HV1.out.frame HF2.out (fun h=>h) (fun h=>h)).frame hfa (fun h=>h) (fun h=>h),fun j=>by rw [gq];rfl⟩,⟨_,HV2.out.frame hfa (fun h=>h) (fun h=>h),fun j=>by rw [gq,ku]⟩,
  fun a b _ h=>absurd rfl h,fun a h=>absurd rfl h,by show w2.heap.size≠g1;omega,by show w2.heap.size≠g2;omega,by show b1≠g2;omega,by show b2≠g1;omega,by show g1≠g2;omega,by show b1≠w2.heap.size;omega,by show b2≠w2.heap.size;omega⟩,?_,(HF1.out.trans HF2.out (fun _ h=> .inl h)).trans hfa (fun _ h=> .inl h)⟩
 ·rw [aD (fun i _ _=>fo i)];exact ak.new w2 _ _
 ·rintro k (h|h|h|h|h)<;>(rw [h];dsimp only;omega)
theorem vE {w w1 w2 w3:World} {L:aI} {W a n:Nat} {E:Nat→Nat} (h:bA w L W E) (hn:n≠0) (he:E a=0) (hap:cX (bq E a n)) (htop:a+n≤W)
  (h1:∃ws,aV w1 L.s L.gs W ws∧∀j,au ws j=(aU E j||j==a)) (hf1:Fr (fun k=>k=L.gs) w w1)
  (h2:∃ws,aV w2 L.e L.ge W ws∧∀j,au ws j=(kf E j||j==a+n-1)) (hf2:Fr (fun k=>k=L.ge) w1 w2)
  (hw:w3=w2.setCell ⟨L.m,2,none⟩ (.int .i64 ((cnt (aU E) 0 W:Nat)+1))):bA w3 L W (bq E a n)∧Fr L.turns w w3:=by
 have hfs:Fr (fun k=>k=L.m) w2 w3:=by rw [hw];exact (Fr.refl (fun k=>k=L.m) w2).setCell ⟨L.m,2,none⟩ (.inl rfl) _
 refine ⟨⟨?_,?_,?_,hap,?_,h.d1,h.d2,h.d3,h.d4,h.d5,h.d6,h.d7⟩,?_⟩
 ·have hb:=((h.blk.frame hf1 h.d1).frame hf2 h.d2).set 2 (.int .i64 ((cnt (aU E) 0 W:Nat)+1));rw [gd hn he (by omega),hw];exact hb
 ·obtain ⟨ws,q1,q2⟩:=h1;exact ⟨ws,(q1.frame hf2 h.d3 h.d5).frame hfs h.d6 (fun e=>h.d1 e.symm),fun j=>by rw [q2,pE hn]⟩
 ·obtain ⟨ws,q1,q2⟩:=h2;exact ⟨ws,q1.frame hfs h.d7 (fun e=>h.d2 e.symm),fun j=>by rw [q2,tD hn he]⟩
 ·intro b hb;unfold bq at hb ⊢;by_cases e:b=a
  ·subst e;rw [if_pos rfl];exact htop
  ·rw [if_neg e] at hb ⊢;exact h.top b hb
 ·exact ((hf1.mono (S':=L.turns) (fun k hk=> .inl (.inr (.inl hk)))).trans hf2 (fun k hk=> .inl (.inr (.inr hk)))).trans hfs (fun k hk=> .inl (.inl hk))
theorem qk {w:World} {L:aI} {W:Nat} {E:Nat→Nat} (h:bA w L W E) (hT:bu w) (a n:Nat) (hn:1≤n) (htop:a+n≤W) (hb:∀s,s≤a→s+E s≤a) (ha:∀s,a≤s→E s≠0→a+n≤s):
  Calls Tryz.prog 218 #[L.m,.int .i64 a,.int .i64 n] w fun e w'=>e= .returned (.int .i64 0)∧bA w' L W (bq E a n)∧Fr L.turns w w':=by
 have HN:=ae (cH h.blk);have HW:=ae (cC h);have hsm:=h.small;have HF:=ae (ee h hT a (by omega));have HX:=ae (ig h hT a (by omega));have he:E a=0:=by have:=hb a (Nat.le_refl a);omega
 have hap:cX (bq E a n):=pB h.apart (by omega) (fun s hs _=>hb s (by omega)) ha;have hfind:∀e w',ce E a w e w'→e= .returned (.tuple #[.int .i64 0,.int .i64 0,.bool false])∧w=w':=by
  rintro e w' ⟨⟨s,k,q1,q2,q3,_⟩|⟨_,q⟩,hw⟩
  ·have:=hb s q1;omega
  ·exact ⟨q,hw⟩
 have hnext:∀e w',cF E W a w e w'→((∃s k:Nat,a+n≤s∧s≤1048576∧e= .returned (.tuple #[.int .i64 s,.int .i64 k,.bool true]))∨e= .returned (.tuple #[.int .i64 0,.int .i64 0,.bool false]))∧w=w':=by
  rintro e w' ⟨⟨s,k,q1,q2,q3⟩|⟨_,q⟩,hw⟩
  ·exact ⟨.inl ⟨s,k,ha s q1.1 (bH.1 q1.2.2.1),by have:=q1.2.1;omega,q3⟩,hw⟩
  ·exact ⟨.inr q,hw⟩
 have c0:=h.blk.cell 0 rfl;obtain ⟨ws,v1,v2⟩:=h.sv;obtain ⟨we,u1,u2⟩:=h.ev;have HS1:=ae (qK v1 (show a<W by omega));have HS2:=ae (fun w1 (hf:Fr (fun k=>k=L.gs) w w1)=>(⟨(h.blk.frame hf h.d1).cell 1 rfl,qK (u1.frame hf h.d4 (fun e=>h.d5 e.symm)) (show a+n-1<W by omega)⟩:_∧_));have HS3:=ae (fun w1 w2 (hf:Fr (fun k=>k=L.gs) w w1) (hf2:Fr (fun k=>k=L.ge) w1 w2)=>(⟨((h.blk.frame hf h.d1).frame hf2 h.d2).cell 2 rfl,((h.blk.frame hf h.d1).frame hf2 h.d2).free 2⟩:_∧_));have hend:∀w1 w2 w3 ws1 ws2,aV w1 L.s L.gs W ws1→(∀j,au ws1 j=(au ws j||j==a))→Fr (fun k=>k=L.gs) w w1→aV w2 L.e L.ge W ws2→(∀j,au ws2 j=(au we j||j==a+n-1))→Fr (fun k=>k=L.ge) w1 w2→
   w3=w2.setCell ⟨L.m,2,none⟩ (.int .i64 ((cnt (aU E) 0 W:Nat)+1))→bA w3 L W (bq E a n)∧Fr L.turns w w3:=fun w1 w2 w3 ws1 ws2 h1 h2 hf1 h3 h4 hf2 hw=>
  vE h (by omega) he hap htop ⟨ws1,h1,fun j=>by rw [h2 j,v2]⟩ hf1 ⟨ws2,h3,fun j=>by rw [h4 j,u2]⟩ hf2 hw
 have HEND:=ae hend;have HFI:=ae hfind;have HNX:=ae hnext;have hcn:=be (aU E) 0 W;generalize cnt (aU E) 0 W=N at*;have b1:(a:Int)<(W:Int):=by omega
 have b2:(n:Int)≤(W:Int)-(a:Int):=by omega
 have b3:(W:Int)≤1048576:=by omega
 have b4:(N:Int)≤1048576:=by omega
 have b5:(1:Int)≤(n:Int):=by omega
 have hx:((a+n-1:Nat):Int)=(a:Int)+(n:Int)-1:=by omega
 rw [hx] at HS2;clear h hT hb ha hap hfind hnext hend v1 v2 u1 u2 hx hsm htop hcn he hn
 go_enter Tryz.func218,Tryz.ntmps218
 go_wp2_with fail
 refine (HN.out).mono ?_;rintro e w' ⟨rfl,rfl⟩;go_wp2_with fail
 refine (HW.out).mono ?_;rintro e w' ⟨rfl,rfl⟩;go_wp2_with fail
 refine (HW.out).mono ?_;rintro e w' ⟨rfl,rfl⟩;go_wp2_with fail
 refine (HF.out).mono ?_;rintro e w' hp;obtain ⟨rfl,rfl⟩:=HFI.out _ _ hp;clear hp;go_wp2_with fail
 refine (HX.out).mono ?_;rintro e w' hp;obtain ⟨hp2,rfl⟩:=HNX.out _ _ hp;clear hp;rcases hp2 with ⟨s,k,hs,hs2,rfl⟩|rfl
 all_goals
  first
   |have hs3:(a:Int)+(n:Int)≤(s:Int):=by omega
    have hs4:(s:Int)≤1048576:=by omega
   |skip
  go_wp2_with fail
  refine (HS1.out).mono ?_;rintro e w1 ⟨rfl,ws1,q1,q2,q3⟩;obtain ⟨c1,hS⟩:=HS2.out w1 q3;have HQ:=ae (af q1 (af q2 q3));have HSS:=ae hS;clear q1 q2 q3 hS;go_wp2_with fail
  refine (HSS.out).mono ?_;rintro e w2 ⟨rfl,ws2,r1,r2,r3⟩;obtain ⟨c2,c3⟩:=HS3.out w1 w2 HQ.out.2.2 r3;have HR:=ae (af r1 (af r2 r3));clear r1 r2 r3;go_wp2;go_ret;exact ⟨rfl,HEND.out w1 w2 _ ws1 ws2 HQ.out.1 HQ.out.2.1 HQ.out.2.2 HR.out.1 HR.out.2.1 HR.out.2.2 rfl⟩
theorem bA.drew {w:World} {L:aI} {W:Nat} {E:Nat→Nat} (h:bA w L W E):bA w.drew L W E:=h.frame (S:=fun _=>False) ((Fr.refl _ w).drew) (fun _ _ h=>h)
theorem sF {w w1 w2 w3:World} {L:aI} {W:Nat} {E:Nat→Nat} (h:bA w L W E)
  (h1:∃ws,aV w1 L.s L.gs W ws∧∀j,au ws j=false) (hf1:Fr (fun k=>k=L.gs) w w1)
  (h2:∃ws,aV w2 L.e L.ge W ws∧∀j,au ws j=false) (hf2:Fr (fun k=>k=L.ge) w1 w2)
  (hw:w3=w2.setCell ⟨L.m,2,none⟩ (.int .i64 0)):bA w3 L W (fun _=>0)∧Fr L.turns w w3:=by
 have hfs:Fr (fun k=>k=L.m) w2 w3:=by rw [hw];exact (Fr.refl (fun k=>k=L.m) w2).setCell ⟨L.m,2,none⟩ (.inl rfl) _
 refine ⟨⟨?_,?_,?_,fun a b _ h=>absurd rfl h,fun a h=>absurd rfl h,h.d1,h.d2,h.d3,h.d4,h.d5,h.d6,h.d7⟩,?_⟩
 ·have hb:=((h.blk.frame hf1 h.d1).frame hf2 h.d2).set 2 (.int .i64 0);rw [aD (fun i _ _=>fo i),hw];exact hb
 ·obtain ⟨ws,q1,q2⟩:=h1;exact ⟨ws,(q1.frame hf2 h.d3 h.d5).frame hfs h.d6 (fun e=>h.d1 e.symm),fun j=>by rw [q2,fo]⟩
 ·obtain ⟨ws,q1,q2⟩:=h2;exact ⟨ws,q1.frame hfs h.d7 (fun e=>h.d2 e.symm),fun j=>by rw [q2,ku]⟩
 ·exact ((hf1.mono (S':=L.turns) (fun k hk=> .inl (.inr (.inl hk)))).trans hf2 (fun k hk=> .inl (.inr (.inr hk)))).trans hfs (fun k hk=> .inl (.inl hk))
theorem oA {w:World} {L:aI} {W:Nat} {v:Value} (h:ak w L.m [.pointer (some ⟨L.s,0,none⟩),.pointer (some ⟨L.e,0,none⟩),v] 215) {ws:List Nat} (h1:aV w L.s L.gs W ws):Calls Tryz.prog 136 #[L.m] w fun e w'=>e= .returned (.int .i64 W)∧w=w':=by
 have HN:=ae (cH h);have c0:=h.cell 0 rfl;have HL:=ae (fq h1);clear h h1
 go_enter Tryz.func136,Tryz.ntmps136
 go_wp2_with fail
 refine (HN.out).mono ?_;rintro e w' ⟨rfl,rfl⟩;go_wp2_with fail
 refine (HL.out).mono ?_;rintro e w' ⟨rfl,rfl⟩;go_wp2;go_ret;exact ⟨rfl,rfl⟩
theorem km {f:Nat→Bool} {W:Nat} (h:∀j,W≤j→f j=false) (j:Nat):(f j&& !(decide (0≤j)&&decide (j<W)))=false:=by
 by_cases hj:j<W
 ·simp [hj]
 ·rw [h j (by omega)];rfl
theorem rk {w:World} {L:aI} {W:Nat} {E:Nat→Nat} (h:bA w L W E):Calls Tryz.prog 138 #[L.m] w fun e w'=>e= .returned (.tuple #[])∧bA w' L W (fun _=>0)∧Fr L.turns w w':=by
 have HN:=ae (cH h.blk);obtain ⟨ws,v1,v2⟩:=h.sv;obtain ⟨we,u1,u2⟩:=h.ev;have HW1:=ae (cC h.drew);have hs1:∀x,x=w.drew→Calls Tryz.prog 202 #[L.s,.int .i64 0,.int .i64 W] x fun e w'=>(∃V,e= .returned (.int .i64 V))∧(∃ws',aV w' L.s L.gs W ws'∧∀j,au ws' j=false)∧Fr (fun k=>k=L.gs) w w':=by
  rintro x rfl;refine (lg v1.drew (F:=0) (T:=W) (Nat.zero_le _) (Nat.le_refl _)).mono ?_;rintro e w' ⟨q1,ws',q2,q3,q4⟩;exact ⟨q1,⟨ws',q2,fun j=>by rw [q3];exact km v1.off j⟩,((Fr.refl (fun k=>k=L.gs) w).drew).trans q4 (fun _ h=> .inl h)⟩
 have HS1:=ae hs1;have hs2:∀w1,Fr (fun k=>k=L.gs) w w1→(∃ws',aV w1 L.s L.gs W ws'∧∀j,au ws' j=false)→(w1.drew.cell? ⟨L.m,1,none⟩=some (.pointer (some ⟨L.e,0,none⟩)))∧Calls Tryz.prog 136 #[L.m] w1.drew (fun e w'=>e= .returned (.int .i64 W)∧w1.drew=w')∧
   ∀x,x=w1.drew→Calls Tryz.prog 202 #[L.e,.int .i64 0,.int .i64 W] x fun e w'=>(∃V,e= .returned (.int .i64 V))∧(∃ws',aV w' L.e L.ge W ws'∧∀j,au ws' j=false)∧Fr (fun k=>k=L.ge) w1 w':=by
  rintro w1 hf ⟨ws1,hv,_⟩;have hb:=(h.blk.frame hf h.d1);refine ⟨hb.drew.cell 1 rfl,oA hb.drew hv.drew,?_⟩;rintro x rfl;have hu:=(u1.frame hf h.d4 (fun e=>h.d5 e.symm));refine (lg hu.drew (F:=0) (T:=W) (Nat.zero_le _) (Nat.le_refl _)).mono ?_;rintro e w' ⟨q1,ws',q2,q3,q4⟩;exact ⟨q1,⟨ws',q2,fun j=>by rw [q3];exact km hu.off j⟩,((Fr.refl (fun k=>k=L.ge) w1).drew).trans q4 (fun _ h=> .inl h)⟩
 have HS2:=ae hs2;have hs3:∀w1 w2,Fr (fun k=>k=L.gs) w w1→Fr (fun k=>k=L.ge) w1 w2→w2.frozen? ⟨L.m,2,none⟩=false∧∃z,w2.cell? ⟨L.m,2,none⟩=some (.int .i64 z):=fun w1 w2 hf hf2=>⟨((h.blk.frame hf h.d1).frame hf2 h.d2).free 2,_,((h.blk.frame hf h.d1).frame hf2 h.d2).cell 2 rfl⟩
 have HS3:=ae hs3;have HEND:=ae (fun w1 w2 w3 h1 hf1 h2 hf2 hw=>sF (w1:=w1) (w2:=w2) (w3:=w3) h h1 hf1 h2 hf2 hw);have d0:w.drew.cell? ⟨L.m,0,none⟩=some (.pointer (some ⟨L.s,0,none⟩)):=h.blk.drew.cell 0 rfl;clear h v1 v2 u1 u2 hs1 hs2 hs3
 go_enter Tryz.func138,Tryz.ntmps138
 go_wp2_with fail
 refine (HN.out).mono ?_;rintro e w' ⟨rfl,rfl⟩;go_wp2;refine aB (fun w'=>w'=w.drew) 6 (by kernel_rfl) (by kernel_rfl) rfl ?_;simp only [List.take_succ_cons,List.take_zero,List.drop_succ_cons,List.drop_zero];refine ag (.pointer (some ⟨L.m,0,none⟩)) rfl (fun w hw=>by go_simp) ?_;simp only [Act.put,aa,ab,ac];refine ag (.pointer (some ⟨L.m,0,none⟩)) rfl (fun w hw=>by go_simp) ?_;simp only [Act.put,aa,ab,ac];refine ag (.pointer (some ⟨L.m,0,none⟩)) rfl (fun w hw=>by go_simp) ?_;simp only [Act.put,aa,ab,ac];refine ag (.pointer (some ⟨L.s,0,none⟩)) rfl (fun w hw=>by subst hw;go_simp) ?_;simp only [Act.put,aa,ab,ac];refine ag (.pointer (some ⟨L.m,0,none⟩)) rfl (fun w hw=>by go_simp) ?_;simp only [Act.put,aa,ab,ac];refine aA (.int .i64 W) 136 #[L.m] rfl (fun w=>by go_simp) (fun w hw=>by subst hw;exact (HW1.out).mono fun e w' h=>⟨h.1,h.2.symm⟩) ?_;simp only [Act.put,aa,ab,ac];refine wpQuiet_nil ?_;rintro w2 rfl;go_wp2_with fail
 refine (HS1.out _ rfl).mono ?_;rintro e w1 ⟨⟨V,rfl⟩,h1,hf1⟩;obtain ⟨d1,hW,hS⟩:=HS2.out w1 hf1 h1;have HA:=ae (af h1 hf1);have HW2:=ae hW;have HSS:=ae hS;clear h1 hf1 hW hS d0;go_wp2;refine aB (fun w'=>w'=w1.drew) 6 (by kernel_rfl) (by kernel_rfl) rfl ?_;simp only [List.take_succ_cons,List.take_zero,List.drop_succ_cons,List.drop_zero];refine ag (.pointer (some ⟨L.m,0,none⟩)) rfl (fun w hw=>by go_simp) ?_;simp only [Act.put,aa,ab,ac];refine ag (.pointer (some ⟨L.m,0,none⟩)) rfl (fun w hw=>by go_simp) ?_;simp only [Act.put,aa,ab,ac];refine ag (.pointer (some ⟨L.m,1,none⟩)) rfl (fun w hw=>by go_simp) ?_;simp only [Act.put,aa,ab,ac];refine ag (.pointer (some ⟨L.e,0,none⟩)) rfl (fun w hw=>by subst hw;go_simp) ?_;simp only [Act.put,aa,ab,ac];refine ag (.pointer (some ⟨L.m,0,none⟩)) rfl (fun w hw=>by go_simp) ?_;simp only [Act.put,aa,ab,ac];refine aA (.int .i64 W) 136 #[L.m] rfl (fun w=>by go_simp) (fun w hw=>by subst hw;exact (HW2.out).mono fun e w' h=>⟨h.1,h.2.symm⟩) ?_;simp only [Act.put,aa,ab,ac];refine wpQuiet_nil ?_;rintro w4 rfl;go_wp2_with fail
 refine (HSS.out _ rfl).mono ?_;rintro e w5 ⟨⟨V2,rfl⟩,h2,hf2⟩;obtain ⟨c3,z,c4⟩:=HS3.out w1 w5 HA.out.2 hf2;have HB:=ae (af h2 hf2);clear h2 hf2 d1;go_wp2;go_end0;exact ⟨rfl,HEND.out w1 w5 _ HA.out.1 HA.out.2 HB.out.1 HB.out.2 rfl⟩
section
open Go.RowKit Go.Shelf
theorem Fr.putObj {S:Nat→Prop} {a w:World} (h:Fr S a w) (l:Nat) (o:Obj) (hl:S l∨a.heap.size≤l):Fr S a (w.putObj l o):=
 ⟨h.os,h.tape,h.output,by show a.heap.size≤(w.putObj l o).heap.size;rw [World.putObj];simp;exact h.size,fun k hk hn=>(World.putObj_heap_other (fun e=>by subst e;rcases hl with hl|hl;exact hn hl;omega)).trans (h.block k hk hn)⟩
theorem bt {d:Nat} {P:Program} {f:FuncId} {args:Array Value} {w:World} {R:Ending→World→Prop} (h:Calls P f args w R):Fence.wide.fn f∧(Fence.wide.depth.isSome=true→1≤d)∧CallsIn Fence.wide (d-1) P f args w R:=
 ⟨trivial,(fun h=>by cases h),callsIn_wide.2 h⟩
theorem mu {d k:Nat} {P:Program} {f:FuncId} {args:Array Value} {w:World} {R:Ending→World→Prop} (h:Calls P f args w R):(Fence.wide.inRound k).fn f∧((Fence.wide.inRound k).depth.isSome=true→1≤d)∧CallsIn (Fence.wide.inRound k) (d-1) P f args w R:=
 ⟨trivial,(fun h=>by cases h),(callsIn_wide (n:=d-1)).2 h⟩
theorem yq {d d' k l:Nat} {P:Program} {f:FuncId} {tmps:Array Value} {assign body:Code} {w:World} {R:Ending→World→Prop} (h:RoundIn Fence.wide d P l f tmps assign body w R):((Fence.wide.inRound k).depth.isSome=true→1≤d')∧RoundIn (Fence.wide.inRound k) (d'-1) P l f tmps assign body w R:=
 ⟨(fun h=>by cases h),h.1,fun c cs _=>h.2 c cs (room_wide _)⟩
def s8 {α:Type} (J:List α→(Nat→Prop)→World→Prop) (pre:List α) (S:Nat→Prop) (W W':World):Prop:=
 ∃S':Nat→Prop,J pre S' W'∧Fr S W W'∧∀k,S' k→S k∨W.heap.size≤k
def cq {α:Type} (B:Nat) (J:List α→(Nat→Prop)→World→Prop):Prop:=
 ∀pre S W1 W2 (T:Nat→Prop),J pre S W1→Fr T W1 W2→(∀k,T k→B≤k∧¬S k)→J pre S W2
theorem cq.mono {α:Type} {B B':Nat} {J:List α→(Nat→Prop)→World→Prop} (h:cq B J) (hB:B≤B'):cq B' J:=
 fun pre S W1 W2 T hj hf ht=>h pre S W1 W2 T hj hf (fun k hk=>⟨Nat.le_trans hB (ht k hk).1,(ht k hk).2⟩)
theorem cq.Fh {α:Type} {B:Nat} {J:List α→(Nat→Prop)→World→Prop} (h:cq B J) {pre:List α} {S:Nat→Prop} {W1 W2:World} (hj:J pre S W1) (hf:Fr (fun _=>False) W1 W2):J pre S W2:=
 h pre S W1 W2 _ hj hf (fun _ h=>h.elim)
def ll {α:Type} (gf:Nat) (lb:Array Value) (encs:α→Array Value) (xs:List α) (R:World→Prop):Prop:=
 ∀(d l:Nat) (J:List α→(Nat→Prop)→World→Prop) (S₀:Nat→Prop) (W:World),cq W.heap.size J→(∀pre S W1,J pre S W1→R W1)→
  (∀pre S x W1,J pre S W1→xs[pre.length]? =some x→YieldAt Fence.wide (d-1) Tryz.prog l (encs x) W1 fun e W'=>e= .returned (.bool true)∧s8 J (pre++[x]) S W1 W')→
  (∀k,S₀ k→k<W.heap.size)→J [] S₀ W→
  CallsIn Fence.wide d Tryz.prog gf (#[.func (.yield l) #[] #[]]++lb) W fun e W'=>(∃v,e= .returned v)∧∃S,J xs S W'
theorem df {α:Type} {g:Operand} {ps:Array Tmp} {assign body:Code} {Q:Exit→Act→World→Prop} {a:Act} {w:World} {d:Nat} {gf:Nat} {lb:Array Value}
  (hg:a.eval g= .func (.func gf) #[] lb) (eg:∀args w,(callFunc gf args).run Tryz.prog w= .ok (.enter gf args) w) {encs:α→Array Value} (hps:∀x,(encs x).size=ps.size)
  {xs:List α} {R:World→Prop} (hseq:ll gf lb encs xs R) (I:List α→(Nat→Prop)→World→Prop) (S₀:Nat→Prop) (hS:cq w.heap.size I) (hR:∀pre S W,I pre S W→R W) (hS0:∀k,S₀ k→k<w.heap.size) (h0:I [] S₀ w)
  (a₁:α→Act)
  (hassign:∀(l:Nat) (x:α) (W:World) (K:Act→World→Prop),K (a₁ x) W→
   assign.wpIn (Fence.wide.inRound l) (d-1-1) Tryz.prog (Exit.then K (fun _ _ _=>False)) {tmps:=(ps.zip (encs x)).foldl (fun t (p,v)=>t.setIfInBounds p v) a.tmps,defers:=[]} W)
  (hbody:∀(l:Nat) (pre:List α) (S:Nat→Prop) (x:α) (W:World),I pre S W→xs[pre.length]? =some x→Fr S₀ w W→(∀k,S k→S₀ k∨w.heap.size≤k)→body.wpIn (Fence.wide.inRound l) (d-1-1) Tryz.prog
   (fun e _ W'=>e= .normal∧s8 I (pre++[x]) S W W') (a₁ x) W)
  (hdone:∀(D:Nat) (S:Nat→Prop) (W:World),I xs S W→W.heap[D]? =some (.deferred (some []))→w.heap.size≤D→¬S D→Fr S₀ w W→(∀k,S k→S₀ k∨w.heap.size≤k)→Q .normal {a with defers:={target:= .collected D,args:= #[]}::a.defers} W):
  (Code.rangeFunc g ps assign body).wpIn Fence.wide d Tryz.prog Q a w:=by
 refine wpIn_rangeFunc ?_;intro fn hfn;obtain ⟨rec,hrec⟩:∃rec:LoopState→Option Code→Loop,rec=fun st pe=>{state:=st,pending:=pe,fn,tmps:=a.tmps,params:=ps,assign,body,defers:=w.heap.size}:=⟨_,rfl⟩
 obtain ⟨W1,hW1⟩:∃W1,(w.alloc (.deferred (some []))).alloc (.loop (rec .ready none))=W1:=⟨_,rfl⟩;have hL1:W1.heap[w.heap.size+1]? =some (.loop (rec .ready none)):=by
  rw [←hW1];have:=World.alloc_heap_new (w.alloc (.deferred (some []))) (.loop (rec .ready none));rwa [World.size_alloc] at this
 have hK1:W1.heap[w.heap.size]? =some (.deferred (some [])):=by
  rw [←hW1];exact (Below.heap_alloc _ _ _ (by simp)).trans (World.alloc_heap_new w _)
 have hf1:Fr (fun _=>False) w W1:=by rw [←hW1];exact ((Fr.refl _ w).alloc _).alloc _
 have hsz1:W1.heap.size=w.heap.size+2:=by rw [←hW1];simp
 have hI1:I [] S₀ W1:=hS.Fh h0 hf1;refine ⟨w.heap.size+1,[{target:= .collected w.heap.size,args:= #[]}],W1,{target:= .fn (.func gf) lb,args:= #[.func (.yield (w.heap.size+1)) #[] #[]]},W1,gf,
  #[.func (.yield (w.heap.size+1)) #[] #[]]++lb,W1,?_,?_,fun _ _=>trivial,?_,(fun h=>by cases h),?_⟩
 ·rw [←hW1,hrec];exact run_enterLoop_outer _ _ _ _ _
 ·simp only [resolve,hg];simp [go_sem]
 ·simp [invoke,go_sem,eg]
 ·refine (hseq (d-1) (w.heap.size+1)
   (fun pre S W=>I pre S W∧(W.heap[w.heap.size+1]? =some (.loop (rec .ready none))∧W.heap[w.heap.size]? =some (.deferred (some [])))∧(¬S (w.heap.size+1)∧¬S w.heap.size)∧Fr S₀ w W∧∀k,S k→S₀ k∨w.heap.size≤k) S₀
   W1 ?_ (fun pre S W h=>hR pre S W h.1) ?_ (fun k hk=>by have:=hS0 k hk;omega) ⟨hI1,⟨hL1,hK1⟩,⟨fun h=>by have:=hS0 _ h;omega,fun h=>by have:=hS0 _ h;omega⟩,hf1.mono (fun _ h=>h.elim),fun k hk=> .inl hk⟩).mono ?_
  ·rintro pre S A B T ⟨hi,⟨hl,hk⟩,hn,hf,hs⟩ hft hT;exact ⟨hS pre S A B T hi hft (fun k hk=>⟨by have:=(hT k hk).1;omega,(hT k hk).2⟩),⟨hft.heap hl (fun h=>by have:=(hT _ h).1;omega),hft.heap hk (fun h=>by have:=(hT _ h).1;omega)⟩,hn,
    hf.trans hft (fun k hk=> .inr (by have:=(hT k hk).1;omega)),hs⟩
  ·rintro pre S x W ⟨hi,⟨hl,hk⟩,hn,hf,hs⟩ hlen;have hlt:w.heap.size+1<W.heap.size:=(Array.getElem?_eq_some_iff.1 hl).1;have hy:=run_yield (P:=Tryz.prog) (args:=encs x) hl (by rw [hrec];exact hps x);rw [hrec] at hy;refine ⟨fn,_,assign,body,hy,roundIn_of_wpIn hfn (hassign _ x W _ ⟨_,run_beginRound hl (by rw [hrec]),?_⟩)⟩;obtain ⟨W2,hW2⟩:∃W2,W.putObj (w.heap.size+1) (.loop {rec .ready none with state:= .busy})=W2:=⟨_,rfl⟩;have hf2:Fr (fun k=>k=w.heap.size+1) W W2:=by rw [←hW2];exact (Fr.refl _ W).putObj _ _ (.inl rfl)
   have hl2:W2.heap[w.heap.size+1]? =some (.loop {rec .ready none with state:= .busy}):=by rw [←hW2];exact World.putObj_heap_same hlt
   have hk2:W2.heap[w.heap.size]? =some (.deferred (some [])):=hf2.heap hk (by omega);have hi2:I pre S W2:=hS pre S W W2 _ hi hf2 (fun k hk=>by subst hk;exact ⟨by omega,hn.1⟩);have hfw2:Fr S₀ w W2:=hf.trans hf2 (fun k hk=> .inr (by omega));rw [hW2];refine wpIn_mono (hbody _ pre S x _ hi2 hlen hfw2 hs) ?_;rintro e a3 W3 ⟨rfl,S',hi3,hf3,hs3⟩;have hl3:=hf3.heap hl2 hn.1;have hk3:=hf3.heap hk2 hn.2;have hr:=run_endRound (P:=Tryz.prog) none hl3;rw [hrec] at hr;have hsz2:=hf2.size;have hn3:¬S' (w.heap.size+1)∧¬S' w.heap.size:=⟨fun h=>by rcases hs3 _ h with h|h;exact hn.1 h;omega,fun h=>by rcases hs3 _ h with h|h;exact hn.2 h;omega⟩;have hs':∀k,S' k→S₀ k∨w.heap.size≤k:=fun k hk=>by
    rcases hs3 k hk with h|h
    ·exact hs k h
    ·have:=hf.size;exact .inr (by omega)
   have hf4:Fr (fun k=>k=w.heap.size+1) W3 (W3.putObj (w.heap.size+1) (.loop {rec .ready none with state:= .ready})):=(Fr.refl _ W3).putObj _ _ (.inl rfl);have hfw3:Fr S₀ w W3:=hfw2.trans hf3 hs;have hl4:(W3.putObj (w.heap.size+1) (.loop {rec .ready none with state:= .ready})).heap[w.heap.size+1]? =some (.loop (rec .ready none)):=by
    have:=World.putObj_heap_same (w:=W3) (o:= .loop {rec .ready none with state:= .ready}) (Array.getElem?_eq_some_iff.1 hl3).1;rw [this,hrec]
   refine ⟨_,_,hr,rfl,S',⟨?_,⟨?_,?_⟩,hn3,?_,hs'⟩,?_,?_⟩
   ·have:=hS (pre++[x]) S' W3 _ _ hi3 hf4 (fun k hk=>by subst hk;exact ⟨by omega,hn3.1⟩);rw [hrec] at this;exact this
   ·rw [hrec] at hl4;rw [hrec];exact hl4
   ·have:=hf4.heap hk3 (by omega);rw [hrec] at this;exact this
   ·have:=hfw3.trans hf4 (fun k hk=> .inr (by omega));rw [hrec] at this;exact this
   ·have hfa:Fr (fun k=>S k∨k=w.heap.size+1) W (W3.putObj (w.heap.size+1) (.loop {rec .ready none with state:= .ready})):=((hf2.mono (S':=fun k=>S k∨k=w.heap.size+1) (fun k hk=> .inl (.inr hk))).trans hf3 (fun k hk=> .inl (.inl hk))).trans hf4 (fun k hk=> .inl (.inr hk));have hfb:Fr S W (W3.putObj (w.heap.size+1) (.loop {rec .ready none with state:= .ready})):=⟨hfa.os,hfa.tape,hfa.output,hfa.size,fun k hk hs=>by
     by_cases e:k=w.heap.size+1
     ·subst e;rw [hl4,hl]
     ·exact hfa.block k hk (fun h=>by rcases h with h|h;exact hs h;exact e h)⟩
    rw [hrec] at hfb;exact hfb
   ·intro k hk;rcases hs3 k hk with h|h
    ·exact .inl h
    ·exact .inr (by omega)
  ·rintro e W2 ⟨⟨v,rfl⟩,S,hi,⟨hl,hk⟩,hn,hf,hs⟩;have hf4:∀o,Fr (fun k=>k=w.heap.size+1) W2 (W2.putObj (w.heap.size+1) o):=fun o=>(Fr.refl _ W2).putObj _ _ (.inl rfl)
   exact ⟨none,_,by have:=run_endLoop (P:=Tryz.prog) hl (by rw [hrec];simp);rw [hrec] at this;exact this,hdone _ S _ (hS xs S W2 _ _ hi (hf4 _) (fun k hk=>by subst hk;exact ⟨by omega,hn.1⟩)) ((hf4 _).heap hk (by omega)) (Nat.le_refl _) hn.2 (hf.trans (hf4 _) (fun k hk=> .inr (by omega))) hs⟩
end
section
open Go.RowKit Go.Shelf
def bf (f:Nat→Bool) (a n:Nat):List Nat:=(List.range' a (n-a)).filter f
theorem nA {a j n:Nat} (h1:a≤j) (h2:j<n):List.range' a (n-a)=List.range' a (j-a)++j::List.range' (j+1) (n-(j+1)):=by
 have e1:n-a=(j-a)+(n-j):=by omega
 rw [e1,←List.range'_append_1,show a+(j-a)=j by omega,show n-j=(n-(j+1))+1 by omega,List.range'_succ]
theorem kQ {f:Nat→Bool} {a n j:Nat} (h:eW f a n j):bf f a n=j::bf f (j+1) n:=by
 unfold bf;rw [nA h.1 h.2.1,List.filter_append,List.filter_cons_of_pos h.2.2.1];have:(List.range' a (j-a)).filter f=[]:=List.filter_eq_nil_iff.2 (fun x hx=>by
  rw [List.mem_range'_1] at hx;rw [h.2.2.2 x hx.1 (by omega)];exact Bool.false_ne_true)
 rw [this,List.nil_append]
theorem kR {f:Nat→Bool} {a n:Nat} (h:∀j,a≤j→j<n→f j=false):bf f a n=[]:=List.filter_eq_nil_iff.2 (fun x hx=>by
 rw [List.mem_range'_1] at hx;rw [h x hx.1 (by omega)];exact Bool.false_ne_true)
theorem jA {f:Nat→Bool} {a n x:Nat}:x∈bf f a n↔a≤x∧x<n∧f x=true:=by
 unfold bf;rw [List.mem_filter,List.mem_range'_1];exact ⟨fun ⟨⟨h1,h2⟩,h3⟩=>⟨h1,by omega,h3⟩,fun ⟨h1,h2,h3⟩=>⟨⟨h1,by omega⟩,h3⟩⟩
def vQ (i:Nat):Array Value:= #[.int .i64 i]
def wO (b g n tb:Nat) (f:Nat→Bool) (W:World):Prop:=(∃ws,aV W b g n ws∧∀j,au ws j=f j)∧bu W∧ak W tb [.pointer (some ⟨b,0,none⟩)] 211
theorem rU {b g n tb:Nat} {f:Nat→Bool} (hn:n≤1048576):ll 262 #[.pointer (some ⟨tb,0,none⟩)] vQ (bf f 0 n) (wO b g n tb f):=by
 intro d l J S₀ W hS hR hY hS0 h0;refine callsIn_of_wp Tryz.func262 rfl trivial ?_ rfl;simp only [Tryz.ntmps262,List.size_toArray,List.length_cons,List.length_nil,Nat.reduceAdd,Nat.reduceSub,Array.replicate_succ,Array.replicate_zero,List.push_toArray,List.append_toArray,List.nil_append,List.cons_append];obtain ⟨⟨ws,hv,hbits⟩,hT,htb⟩:=hR _ _ _ h0;have c0:=htb.cell 0 rfl;have HN:=ae (en hv hT 0 (by omega));rw [show ((0:Nat):Int)=0 from rfl,funext hbits] at HN;have HS:=ae hS;have HR:=ae hR;have HY:=ae hY;have H0:=ae h0;clear hS hR hY h0 hv hbits hT htb hS0;gi_wp2;refine bt ((HN.out).mono ?_);rintro e w' ⟨hp,rfl⟩;have HP:Hid (∃(i:Nat) (is:Bool),e= .returned (.tuple #[.int .i64 i,.bool is])∧i≤1048576∧(is=true→bf f 0 n=i::bf f (i+1) n∧i<n)∧(is=false→bf f 0 n=[])):=by
  rcases hp with ⟨j,hj,rfl⟩|⟨hj,rfl⟩
  ·exact ⟨j,true,rfl,by have:=hj.2.1;omega,fun _=>⟨kQ hj,hj.2.1⟩,(fun h=>by cases h)⟩
  ·exact ⟨0,false,rfl,by omega,(fun h=>by cases h),fun _=>kR hj⟩
 clear hp HN;obtain ⟨i,is,rfl,hi,hp⟩:=HP.out;have HQ:=ae hp;clear hp HP;gi_wp2
 gi_loopw [3,4] (fun p q wr=>∃(i:Nat) (is:Bool),p= .int .i64 i∧q= .bool is∧i≤1048576∧Hid (∃pre S,J pre S wr∧(is=true→bf f 0 n=pre++i::bf f (i+1) n∧i<n)∧(is=false→bf f 0 n=pre)))
  (fun p q _=>match q with| .bool true=>n+1-(intOf p).toNat|_=>0)
 case atStart=>exact ⟨i,is,rfl,rfl,hi,⟨[],S₀,H0.out,HQ.out.1,HQ.out.2⟩⟩
 case round=>
  clear HQ H0 hi;obtain ⟨i,is,rfl,rfl,hi,hr⟩:=hrel
  cases is with
  |false=>
   obtain ⟨pre,S,hj,_,hx⟩:=hr.out;have HX:Hid (∃S,J (bf f 0 n) S wr):=⟨S,by rw [hx rfl];exact hj⟩;clear hr hj hx;gi_wp2;refine ⟨fun f h=>(by cases h),?_⟩;gi_wp2;go_end0;exact ⟨⟨_,rfl⟩,HX.out⟩
  |true=>
   obtain ⟨pre,S,hj,hx,_⟩:=hr.out;obtain ⟨hx,hin⟩:=hx rfl;obtain ⟨fn,tmps,assign,body,hy,hR⟩:=HY.out pre S i wr hj (by rw [hx];simp);unfold vQ at hy;have HRR:=ae hR;have HX:=ae hx;clear hr hj hx hR;gi_wp2;refine ⟨(fun h=>by cases h),HRR.out.mono ?_⟩;rintro e W3 ⟨rfl,S',hJ3,hf3,hs3⟩;obtain ⟨⟨ws,hv,hbits⟩,hT,htb⟩:=HR.out _ _ _ hJ3;have c3:=htb.cell 0 rfl;have HN:=ae (en hv hT (i+1) (by omega));rw [show ((i+1:Nat):Int)=(i:Int)+1 by omega,funext hbits] at HN;have HJ3:=ae hJ3;clear hv hbits hT htb hJ3 hf3 hs3 HRR;gi_wp2;refine bt ((HN.out).mono ?_);rintro e w' ⟨hp,rfl⟩;have HP:Hid (∃(k:Nat) (is:Bool),e= .returned (.tuple #[.int .i64 k,.bool is])∧k≤1048576∧(is=true→(bf f 0 n=(pre++[i])++k::bf f (k+1) n∧k<n)∧i<k)∧(is=false→bf f 0 n=pre++[i])):=by
    rcases hp with ⟨j,hj,rfl⟩|⟨hj,rfl⟩
    ·exact ⟨j,true,rfl,by have:=hj.2.1;omega,fun _=>⟨⟨by rw [HX.out,kQ hj];simp,hj.2.1⟩,by have:=hj.1;omega⟩,(fun h=>by cases h)⟩
    ·exact ⟨0,false,rfl,by omega,(fun h=>by cases h),fun _=>by rw [HX.out,kR hj]⟩
   clear hp HN;obtain ⟨k,is,rfl,hk,hp⟩:=HP.out;have HQ:=ae hp;clear hp HP;gi_wp2;refine ⟨⟨k,is,rfl,rfl,hk,⟨pre++[i],S',HJ3.out,fun h=>(HQ.out.1 h).1,HQ.out.2⟩⟩,?_⟩
   cases is with
   |false=>simp [intOf];omega
   |true=>have:=(HQ.out.1 rfl).2;simp [intOf];omega
end
end Go.Proofs.YthahbijbpinneaaGreatDoor
