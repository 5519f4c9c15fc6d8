import Derived.Test.YthahbijbpinneaaGreatDoorA0
import Derived.Test.YthahbijbpinneaaGreatDoorA1
import Derived.Test.YthahbijbpinneaaGreatDoorA3
import Derived.Test.YthahbijbpinneaaGreatDoorA5
import Derived.Test.YthahbijbpinneaaGreatDoorA7
import Derived.Recover
import Derived.Shelf.Abstract
import Derived.Maps.AppendAt
import Derived.Test.YthahbijbpinneaaGreatDoorShelf
set_option maxRecDepth 100000
set_option maxHeartbeats 8000000
set_option linter.all false
namespace Go.Proofs.YthahbijbpinneaaGreatDoor
open Go.RowKit
theorem om (p q r:Addr) (w:World):
  CallsD Tryz.prog 237 #[.pointer (some p),.pointer (some q),.pointer (some r)] .returning w fun e u' w'=>e= .returned (.tuple #[])∧u'= .returning∧w'=w:=by
 refine callsD_of_wpS Tryz.func237 rfl fun c₀ cs hu=> ?_
 apply wpS_seq;apply wpS_region;simp [wpOpsS,go_sem,recoverD,hu,Tryz.ntmps237,Exit.thenS];apply wpS_seq;apply wpS_seq;apply wpS_region;simp [wpOpsS,go_sem,Exit.thenS];refine wpS_cond (t:=true) (by simp [Act.eval,Array.replicate]) ?_;simp only [if_true];refine wpS_of_wp (wp_ret ?_)
 cases c₀
 simp_all [bodyPostS,results,Tryz.results237,Exit.thenS]
def gY (w:World) (R:World→World→Prop) (e:Ending) (w':World):Prop:=e= .returned (.agg #[.int .i64 0,.int .i64 0])∧∃w1 w2,Fr (fun _=>False) w w1∧R w1 w2∧Fr (fun k=>w.heap.size≤k∧k<w1.heap.size) w2 w'
theorem wo (t:TypeId) (v:Value) (F b:Nat) (cap:Array Value) (eg:∀args w,(callFunc F args).run Tryz.prog w= .ok (.enter F args) w) (w:World) (R:World→World→Prop)
  (hb:ak w b [.iface t v,.slice none 0 0] 270)
  (hB:∀w1,Fr (fun _=>False) w w1→Calls Tryz.prog F (#[.pointer (some ⟨b,0,none⟩)]++cap) w1 fun e w2=>e= .returned (.tuple #[])∧R w1 w2∧∃T:Nat→Prop,(∀k,T k→k<w.heap.size∨w1.heap.size≤k)∧Fr T w1 w2):
  Calls Tryz.prog 184 #[b,.func (.func F) #[] cap] w (gY w R):=by
 have hmf:∀(fn:Fn) (first cap:Array Value) (w:World),(Instr.makeFunc fn first cap).run Tryz.prog w= .ok (.func fn first cap) w:=fun _ _ _ _=>rfl
 have hb0:=hb.cell 1 rfl
 go_enter_defers Tryz.func184,Tryz.ntmps184
 go_upto_region 1 with fail
 obtain ⟨W1,hW1⟩:∃W1,(w.alloc (.cells #[b] 199)).alloc (.cells #[.int .i64 0,.int .i64 0] 197)=W1:=⟨_,rfl⟩;rw [hW1];have hbl:=hb.lt;have hz:W1.heap.size=w.heap.size+2:=by rw [←hW1];exact (Array.size_push _).trans (congrArg (· +1) (Array.size_push _))
 have hF1:Fr (fun _=>False) w W1:=by rw [←hW1];exact ((Fr.refl _ w).alloc _).alloc _
 have hP:ak W1 w.heap.size [.pointer (some ⟨b,0,none⟩)] 199:=by rw [←hW1];exact (ak.new w [.pointer (some ⟨b,0,none⟩)] 199).alloc _
 have hO:ak W1 (w.heap.size+1) [.int .i64 0,.int .i64 0] 197:=by
  have h:=ak.new (w.alloc (.cells #[b] 199)) [.int .i64 0,.int .i64 0] 197;have h2:(w.alloc (.cells #[b] 199)).heap.size=w.heap.size+1:=Array.size_push _;rw [h2] at h;rw [←hW1];exact h
 have hb1:=(hb.frame hF1 (fun h=>h)).cell 1 rfl;have hp1:=hP.cell 0 rfl;have hp2:∀o,(W1.alloc o).cell? ⟨w.heap.size,0,none⟩=some (.pointer (some ⟨b,0,none⟩)):=fun o=>(hP.alloc o).cell 0 rfl
 have HB:=ae hB;have HP:=ae (af hF1 (af hP (af hO (af hz hbl))));clear hW1 hF1 hP hO hz hb hB hb0 hbl
 go_upto_region 3 with fail
 have hF2:Fr (fun _=>False) w (W1.alloc (.cells #[.int .i64 0] 3)):=HP.out.1.alloc _;have hO2:ak (W1.alloc (.cells #[.int .i64 0] 3)) (w.heap.size+1) [.int .i64 0,.int .i64 0] 197:=HP.out.2.2.1.alloc _;have hz2:(W1.alloc (.cells #[.int .i64 0] 3)).heap.size=w.heap.size+3:=(Array.size_push _).trans (congrArg (· +1) HP.out.2.2.2.1);have hp3:=hp2 (.cells #[.int .i64 0] 3);have HBc:=ae (HB.out _ hF2);have HFF:=ae (af hF2 (af hO2 hz2));generalize W1.alloc (.cells #[.int .i64 0] 3)=W2 at*;clear HB HP hF2 hO2 hz2 hb1 hp1 hp2;generalize W1.heap.size=n at*;clear W1;go_wp2_with fail
 refine (HBc.out).mono ?_;rintro e w3 ⟨rfl,hR,T,hT,hf⟩;have hO3:=HFF.out.2.1.frame hf (fun h=>by have:=hT _ h;have:=HFF.out.2.2;omega);have HE:Hid (∀w4,w4=w3.setCells (w.heap.size+1) 0 [.int .i64 0,.int .i64 0]→ak w4 (w.heap.size+1) [.int .i64 0,.int .i64 0] 197∧gY w R (.returned (.agg #[.int .i64 0,.int .i64 0])) w4):=by
  show∀w4,_
  rintro w4 rfl;refine ⟨(hO3.set 0 _).set 1 _,rfl,W2,w3,HFF.out.1,hR,?_⟩;have:=HFF.out.2.2;exact ((Fr.refl _ w3).setCell ⟨w.heap.size+1,0,none⟩ (.inl ⟨Nat.le_succ _,by show w.heap.size+1<_;omega⟩) _).setCell ⟨w.heap.size+1,1,none⟩ (.inl ⟨Nat.le_succ _,by show w.heap.size+1<_;omega⟩) _
 have HT:Hid (w3.there (w.heap.size+1) 0 2):=by
  show w3.there _ _ _
  intro i hi
  match i,hi with
  |0,_=>exact ⟨by rw [hO3.cell 0 rfl];rfl,hO3.free 0⟩
  |1,_=>exact ⟨by rw [hO3.cell 1 rfl];rfl,hO3.free 1⟩
 have HS2:Hid ((Tryz.prog.info? 197).map (·.size)=some 2):=by show _=_;kernel_rfl
 have HON:Hid ((#[Value.int .i64 0,.int .i64 0].all (·.oneCell'))=true):=by show _=_;exact Go.all_oneCell_toArray (cs:=[.int .i64 0,.int .i64 0]) (fun v hv=>by simp only [List.mem_cons,List.not_mem_nil,or_false] at hv;rcases hv with rfl|rfl<;>rfl)
 clear hR hT hf hO3 HBc HFF;go_wp2_with (refine wpList_store_mid rfl 197 _ _ rfl (w.heap.size+1) 0 #[.int .i64 0,.int .i64 0] rfl rfl HT.out HS2.out HON.out ?_)
 obtain ⟨hq,hpost⟩:=HE.out _ rfl;refine leaves_cons (f:=237) (args:= #[w.heap.size,.pointer (some ⟨n,0,none⟩),.pointer (some ⟨w.heap.size+1,0,none⟩)]) (by simp) (by simp [go_sem]) ?_;refine (om ⟨w.heap.size,0,none⟩ ⟨n,0,none⟩ ⟨w.heap.size+1,0,none⟩ _).mono ?_;rintro e u' w'' ⟨rfl,rfl,rfl⟩;exact ⟨_,results_cell_row rfl _ _ _ _ _ _ _ rfl hq Tryz.underlying197 rfl HS2.out,hpost⟩
theorem lT (t:TypeId) (v:Value) (F:Nat) (cap:Array Value) (eg:∀args w,(callFunc F args).run Tryz.prog w= .ok (.enter F args) w) (w:World) (R:World→World→Prop)
  (hB:∀b w1,Fr (fun _=>False) w w1→w.heap.size≤b→b<w1.heap.size→ak w1 b [.iface t v,.slice none 0 0] 270→Calls Tryz.prog F (#[.pointer (some ⟨b,0,none⟩)]++cap) w1 fun e w2=>e= .returned (.tuple #[])∧R w1 w2∧∃T:Nat→Prop,(∀k,T k→k=b∨k<w.heap.size∨w1.heap.size≤k)∧Fr T w1 w2):
  Calls Tryz.prog 126 #[.iface t v,.func (.func F) #[] cap] w (gY w R):=by
 have HB:=ae hB;clear hB;have HS2:Hid ((Tryz.prog.info? 197).map (·.size)=some 2):=by show _=_;kernel_rfl
 have HON:Hid ((#[Value.int .i64 0,.int .i64 0].all (·.oneCell'))=true):=by show _=_;exact Go.all_oneCell_toArray (cs:=[.int .i64 0,.int .i64 0]) (fun v hv=>by simp only [List.mem_cons,List.not_mem_nil,or_false] at hv;rcases hv with rfl|rfl<;>rfl)
 go_enter Tryz.func126,Tryz.ntmps126
 go_upto_region 1 with fail
 obtain ⟨W1,hW1⟩:∃W1,w.alloc (.cells #[.int .i64 0,.int .i64 0] 197)=W1:=⟨_,rfl⟩;have hz:W1.heap.size=w.heap.size+1:=by rw [←hW1];exact Array.size_push _
 have hF1:Fr (fun _=>False) w W1:=by rw [←hW1];exact (Fr.refl _ w).alloc _
 have hO:ak W1 w.heap.size [.int .i64 0,.int .i64 0] 197:=by rw [←hW1];exact ak.new w _ _
 rw [hW1];have HP:=ae (af hF1 (af hO hz));clear hW1 hF1 hO hz;go_wp2_with fail
 have hF2:Fr (fun _=>False) w (W1.alloc (.cells #[.iface t v,.slice none 0 0] 270)):=HP.out.1.alloc _;have hb2:=ak.new W1 [.iface t v,.slice none 0 0] 270;have hO2:ak (W1.alloc (.cells #[.iface t v,.slice none 0 0] 270)) w.heap.size [.int .i64 0,.int .i64 0] 197:=HP.out.2.1.alloc _;have hz2:(W1.alloc (.cells #[.iface t v,.slice none 0 0] 270)).heap.size=w.heap.size+2:=(Array.size_push _).trans (congrArg (· +1) HP.out.2.2);have hz1:=HP.out.2.2;obtain ⟨b,hb⟩:∃b,b=W1.heap.size:=⟨_,rfl⟩;rw [←hb] at hb2 hz1 ⊢;clear HP hb;generalize W1.alloc (.cells #[.iface t v,.slice none 0 0] 270)=W2 at*;clear W1;have HPA:=ae (wo t v F b cap eg W2 (fun w1 w2=>R w1 w2∧∃T:Nat→Prop,(∀k,T k→k=b∨k<w.heap.size∨w1.heap.size≤k)∧Fr T w1 w2) hb2 (fun w1 hf1=>by
  have hs1:=hf1.size;refine (HB.out b w1 (hF2.trans hf1 (fun _ h=>h.elim)) (by omega) (by omega) (hb2.frame hf1 (fun h=>h))).mono ?_;rintro e w2 ⟨rfl,hR,T,hT,hf⟩;exact ⟨rfl,⟨hR,T,hT,hf⟩,T,fun k hk=>by have:=hT k hk;omega,hf⟩))
 refine (HPA.out).mono ?_;rintro e w3 ⟨rfl,w1,w2,hf1,⟨hR,T,hT,hfT⟩,hf3⟩;have hs1:=hf1.size;have hO3:=((hO2.frame hf1 (fun h=>h)).frame hfT (fun h=>by have:=hT _ h;omega)).frame hf3 (fun h=>by have:=h.1;omega);have HE:Hid (∀w4,w4=w3.setCells w.heap.size 0 [.int .i64 0,.int .i64 0]→ak w4 w.heap.size [.int .i64 0,.int .i64 0] 197∧gY w R (.returned (.agg #[.int .i64 0,.int .i64 0])) w4):=by
  show∀w4,_
  rintro w4 rfl;refine ⟨(hO3.set 0 _).set 1 _,rfl,w1,w2,hF2.trans hf1 (fun _ h=>h.elim),hR,?_⟩;have hf3':=hf3.mono (S':=fun k=>w.heap.size≤k∧k<w1.heap.size) (fun k h=> .inl ⟨by have:=h.1;omega,h.2⟩);exact (hf3'.setCell ⟨w.heap.size,0,none⟩ (.inl ⟨Nat.le_refl _,by show w.heap.size<_;omega⟩) _).setCell ⟨w.heap.size,1,none⟩ (.inl ⟨Nat.le_refl _,by show w.heap.size<_;omega⟩) _
 have HT:Hid (w3.there w.heap.size 0 2):=by
  show w3.there _ _ _
  intro i hi
  match i,hi with
  |0,_=>exact ⟨by rw [hO3.cell 0 rfl];rfl,hO3.free 0⟩
  |1,_=>exact ⟨by rw [hO3.cell 1 rfl];rfl,hO3.free 1⟩
 clear hR hT hfT hf1 hf3 hO3 HPA HB hF2 hb2 hO2 hz2 hz1 hs1;go_wp2_with (refine wpList_store_mid rfl 197 _ _ rfl w.heap.size 0 #[.int .i64 0,.int .i64 0] rfl rfl HT.out HS2.out HON.out ?_)
 obtain ⟨hq,hpost⟩:=HE.out _ rfl;refine bodyPost_ret (results_cell_row rfl _ _ _ _ _ _ _ rfl hq Tryz.underlying197 rfl HS2.out) rfl ?_;exact hpost
def mj (I:dW) (t:TypeId) (v:Value) (b lo:Nat) (L:Nat→Nat) (S:Nat→Prop) (n:Nat) (w:World):Prop:=
 I L S w∧b<lo∧lo≤w.heap.size∧¬S b∧∃sl xs,ak w b [.iface t v,sl] 270∧w.ownsRow lo 274 2 sl n xs∧∀k,sl.ownBlock=some k→¬S k
def sM (I:dW) (t:TypeId) (v:Value) (b lo:Nat) (L:Nat→Nat) (S:Nat→Prop) (n:Nat) (w w':World):Prop:=
 ∃S':Nat→Prop,mj I t v b lo L S' n w'∧Fr (fun k=>S k∨k=b∨lo≤k) w w'∧∀k,S' k→S k∨w.heap.size≤k
section
variable {t:TypeId} {v:Value} {fl fs:Nat} {r:Value} {I:dW} {dom:Nat→Prop} {L L' L'':Nat→Nat} {S:Nat→Prop} {w w1 w2:World} {b lo n:Nat}
theorem mj.sp (h:mj I t v b lo L S n w) (hp:dM I L' S w w1):sM I t v b lo L' S n w w1:=by
 obtain ⟨h1,h2,h3,h4,sl,xs,h5,h6,h7⟩:=h;obtain ⟨S',q1,q2,q3⟩:=hp;have hs:=q2.size;have hb:=h5.lt;refine ⟨S',⟨q1,h2,by omega,fun h=> ?_,sl,xs,h5.frame q2 h4,bm h6 q2 h7,fun k hk h=> ?_⟩,q2.mono (fun k h=> .inl (.inl h)),q3⟩
 ·rcases q3 _ h with h|h
  ·exact h4 h
  ·omega
 ·rcases q3 _ h with h|h
  ·exact h7 k hk h
  ·have:=(h6.lt k hk).2;omega
theorem mj.Fh (hs:ba t v fl r I dom) (h:mj I t v b lo L S n w) (hf:Fr (fun _=>False) w w1):sM I t v b lo L S n w w1:=h.sp (hs.Fh h.1 hf)
theorem fJ {n':Nat} {S1:Nat→Prop} (_hlo:lo≤w.heap.size) (q2:Fr (fun k=>S k∨k=b∨lo≤k) w w1) (q3:∀k,S1 k→S k∨w.heap.size≤k) (h:sM I t v b lo L' S1 n' w1 w2):sM I t v b lo L' S n' w w2:=by
 obtain ⟨S2,r1,r2,r3⟩:=h;have hs:=q2.size;refine ⟨S2,r1,q2.trans r2 (fun k h=> ?_),fun k h=> ?_⟩
 ·rcases h with h|h|h
  ·exact (q3 k h).imp .inl id
  ·exact .inl (.inr (.inl h))
  ·exact .inl (.inr (.inr h))
 ·rcases r3 k h with h|h
  ·exact q3 k h
  ·exact .inr (by omega)
theorem mj.cells (h:mj I t v b lo L S n w):w.cell? ⟨b,0,none⟩=some (.iface t v):=let ⟨_,_,_,_,_,_,h,_⟩:=h;h.cell 0 rfl
def ml (I:dW) (t:TypeId) (v:Value) (b lo:Nat) (L:Nat→Nat) (S:Nat→Prop) (n:Nat) (w:World) (r:Value) (e:Ending) (w':World):Prop:=e= .returned r∧sM I t v b lo L S n w w'
theorem lh (hs:ba t v fl r I dom) (h:mj I t v b lo L S n w) (a:Nat) (hd:dom a):Calls Tryz.prog 185 #[b,.int .i64 a] w (ml I t v b lo L S n w (.int .u64 (L a:Int))):=by
 have HM:=hs.mload;have HE:=hs.eload;have HL:=ae (hs.load L S w a h.1 hd);have c0:=h.cells;have HP:=ae (fun w' (hp:dM I L S w w')=>h.sp hp);generalize L a=x at*;unfold ml;clear hs h hd
 go_enter Tryz.func185,Tryz.ntmps185
 go_wp2_with fail
 refine (HL.out).mono ?_;rintro e w2 ⟨rfl,hp⟩;have hq:=HP.out _ hp;clear hp HP HL c0;go_wp2;go_ret;exact ⟨rfl,hq⟩
theorem tW:(Tryz.prog.info? 274).map (fun i=>(i.zero,i.size,i.bytes))=some (some (.agg #[.int .i64 0,.int .u64 0]),2,16):=by kernel_rfl
theorem mj.entry {sl sl':Value} {xs ys:List Value} {w3:World} (h:mj I t v b lo L S n w) (hb:ak w b [.iface t v,sl] 270) (ho:w.ownsRow lo 274 2 sl n xs) (hf:Fr (fun _=>False) w w2)
  (ho3:w3.ownsRow lo 274 2 sl' (n+1) ys) (hg:w2.grownBy w3 sl.ownBlock) (hv:sl'.ownBlock=sl.ownBlock∨sl'.ownBlock=some w2.heap.size) (hlt:∀k,S k→k<w.heap.size) (hsg:cP I):
  ∃c,ak w3 b [.iface t v,c] 270∧∀w4,w4=w3.setCell ⟨b,1,none⟩ sl'→sM I t v b lo L S (n+1) w w4:=by
 obtain ⟨h1,h2,h3,h4,sl0,xs0,h5,h6,h7⟩:=h;have e1:sl0=sl:=by
  have:=h5.symm.trans hb;simp only [Option.some.injEq,Obj.cells.injEq,List.cons.injEq,Array.mk.injEq] at this
  simpa using this.1
 subst e1;have hbl:=hb.lt;have hlt':=fun k (hk:sl0.ownBlock=some k)=>ho.lt k hk
 have hf2:Fr (fun k=>sl0.ownBlock=some k) w w3:=(hf.mono (S':=fun k=>sl0.ownBlock=some k) (fun _ h=>h.elim)).trans (Fr.of_grown hg) (fun i hi=> .inl hi);have hb3:=hb.frame hf2 (fun hk=>by have:=(hlt' b hk).1;omega);refine ⟨sl0,hb3,?_⟩;rintro w4 rfl;have hf4:Fr (fun k=>S k∨k=b∨lo≤k) w (w3.setCell ⟨b,1,none⟩ sl'):=(hf2.mono (S':=fun k=>S k∨k=b∨lo≤k) (fun k hk=> .inl (.inr (.inr (hlt' k hk).1)))).setCell ⟨b,1,none⟩ (.inl (.inr (.inl rfl))) sl';have hs4:=hf4.size;refine ⟨S,⟨?_,h2,by omega,h4,sl',ys,hb3.set 1 sl',?_,?_⟩,hf4,fun k h=> .inl h⟩
 ·refine hsg L S w _ (fun k=>sl0.ownBlock=some k∨k=b) h1 ((hf2.mono (fun k hk=> .inl (.inl hk))).setCell ⟨b,1,none⟩ (.inl (.inr rfl)) sl') ?_;rintro k hk (hk2|rfl)
  ·exact h7 k hk2 hk
  ·exact h4 hk
 ·exact bm ho3 ((Fr.refl (fun k=>k=b) w3).setCell ⟨b,1,none⟩ (.inl rfl) sl') (fun k hk e=>by have:=(ho3.lt k hk).1;omega)
 ·intro k hk h;rcases hv with e|e
  ·exact h7 k (e▸hk) h
  ·rw [e] at hk;simp only [Option.some.injEq] at hk;have:=hlt k h;have:=hf.size;omega
theorem gg (hsg:cP I) (hs:ba t v fl r I dom) (ht:ka t v fs r I dom) (h:mj I t v b lo L S n w) (a x:Nat) (hd:dom a) (hx:x<18446744073709551616) (hn:n<1000000000):Calls Tryz.prog 128 #[b,.int .i64 a,.int .u64 x] w (ml I t v b lo (bG L a x) S (n+1) w (.tuple #[])):=by
 have HM:=ht.mstore;have HE:=ht.estore;have HL:=ae (lh hs h a hd);have c0:=h.cells;have HT:=ae (fun w1 S1 (h1:mj I t v b lo L S1 n w1)=>ht.store L S1 w1 a x h1.1 hd hx);have HEn:=ae (fun S1 (wa w2 w3:World) (sl sl':Value) (xs ys:List Value) (h1:mj I t v b lo (bG L a x) S1 n wa) hb ho hf ho3 hg hv=>mj.entry (w:=wa) (w2:=w2) (w3:=w3) (sl:=sl) (sl':=sl') (xs:=xs) (ys:=ys) h1 hb ho hf ho3 hg hv (hs.lt _ _ _ h1.1) hsg);obtain ⟨i0,hi,hz0,hz1,hz2⟩:=info_parts tW;obtain ⟨y,hy⟩:∃y,L a=y:=⟨_,rfl⟩;rw [hy] at HL;obtain ⟨L2,hL2⟩:∃L2,L2=bG L a x:=⟨_,rfl⟩;rw [←hL2] at HT HEn ⊢;unfold ml at*;have hl0:=h.2.2.1;clear hsg hs ht h hd hx hy hL2
 go_enter Tryz.func128,Tryz.ntmps128
 go_wp2_with fail
 refine (HL.out).mono ?_;rintro e w1 ⟨rfl,S1,hw1,hf1,hS1⟩;have HT1:=ae (HT.out _ _ hw1);have HSp:=ae (fun w' hp=>hw1.sp (w1:=w') (L':=L2) hp);have c1:=hw1.cells;have HF1:=ae (af hf1 hS1);have hl1:=hf1.size;clear hw1 hf1 hS1 HL HT c0;go_wp2_with fail
 refine (HT1.out).mono ?_;rintro e w2 ⟨rfl,hp⟩;obtain ⟨S2,hw2,hf2,hS2⟩:=HSp.out _ hp;obtain ⟨g1,h2,h3,g2,sl,xs,hb,ho,g3⟩:=id hw2;have c2:=hb.cell 0 rfl;have c3:=hb.cell 1 rfl;have HF2:=ae (af hf2 hS2);have HEn2:=ae (fun wb w3 sl' ys hf ho3 hg hv=>HEn.out S2 w2 wb w3 sl sl' xs ys hw2 hb ho hf ho3 hg hv);have HB:=ae (af hb ho);have hlo:=h3;clear hp HSp HT1 HEn hw2 hf2 hS2 hb c1 h2 h3 ho g1 g2 g3;go_wp2_with (at_builtin;refine Hid.out ?_)
 unfold Hid;have hfa:Fr (fun _=>False) w2 (w2.alloc (.cells #[.int .i64 a,.int .u64 y] 274)):=(Fr.refl _ w2).alloc _;have hnew:ak (w2.alloc (.cells #[.int .i64 a,.int .u64 y] 274)) w2.heap.size [.int .i64 a,.int .u64 y] 274:=ak.new w2 _ _;have hzz:=hfa.size;have HFa:=ae hfa;have hoa:=bm HB.out.2 hfa (fun _ _ h=>h);refine wpList_append_own_at _ rfl _ _ 268 rfl lo 274 i0 _ 2 16 Tryz.underlying268 hi hz0 hz1 hz2 rfl (by decide) _ n xs rfl hoa ⟨w2.heap.size,0,none⟩ 1 1 [.int .i64 a,.int .u64 y] rfl rfl ?_ ?_ (by unfold maxLen;omega) (by omega) (by omega) ?_
 ·intro j u' hj;have:=hnew.cell j hj;rwa [show ((⟨w2.heap.size,0,none⟩:Addr).add j)=⟨w2.heap.size,j,none⟩ by unfold Addr.add;split<;>simp_all]
 ·intro u' hu';simp only [List.mem_cons,List.not_mem_nil,or_false] at hu';rcases hu' with rfl|rfl<;>rfl
 ·intro v' w3 ho2 hg _ hv;obtain ⟨g,cap,rfl⟩:∃g cap,v'= .slice (some ⟨g,0,none⟩) (n+1) cap:=by
   rcases ho2.2 with ⟨_,h⟩|⟨g,cap,_,h,_⟩
   ·omega
   ·exact ⟨g,cap,h⟩
  obtain ⟨c,hb3,hE⟩:=HEn2.out _ w3 _ _ hfa ho2 hg hv;have c4:=hb3.cell 1 rfl;have f4:=hb3.free 1;have HE4:=ae hE;clear hfa hnew hzz HFa hoa ho2 hg hv hb3 hE HEn2 HB c2 c3;go_wp2;go_end0;exact ⟨rfl,fJ hl0 HF1.out.1 HF1.out.2 (fJ (by omega) HF2.out.1 HF2.out.2 (HE4.out _ rfl))⟩
end
def gI (L:Nat→Nat) (a W n:Nat):Nat→Nat:=fun k=>if k=a then W else if a<k∧k<a+1+n then 0 else L k
theorem uf (L:Nat→Nat) (a W:Nat):gI L a W 0=bG L a W:=by
 funext k;unfold gI bG;by_cases h:k=a
 ·rw [if_pos h,if_pos h]
 ·rw [if_neg h,if_neg h,if_neg (by omega)]
theorem ue (L:Nat→Nat) (a W n:Nat):bG (gI L a W n) (a+1+n) 0=gI L a W (n+1):=by
 funext k;show (if k=a+1+n then 0 else if k=a then W else if a<k∧k<a+1+n then 0 else L k)=if k=a then W else if a<k∧k<a+1+(n+1) then 0 else L k
 by_cases h:k=a+1+n
 ·subst h;rw [if_pos rfl,if_neg (by omega),if_pos (by omega)]
 ·rw [if_neg h];by_cases h2:k=a
  ·rw [if_pos h2,if_pos h2]
  ·rw [if_neg h2,if_neg h2];by_cases h3:a<k∧k<a+1+n
   ·rw [if_pos h3,if_pos (by omega)]
   ·rw [if_neg h3,if_neg (by omega)]
def ma (w:World) (c1 c2 c3 a W p f g:Nat):Prop:=ak w c1 [.int .i64 a] 3∧ak w c2 [.int .u64 W] 46∧ak w c3 [.int .i64 p,.int .i64 f,.int .i64 g] 31
theorem ma.keep {w w':World} {c1 c2 c3 a W p f g:Nat} {T:Nat→Prop} (h:ma w c1 c2 c3 a W p f g) (hf:Fr T w w') (h1:¬T c1) (h2:¬T c2) (h3:¬T c3):ma w' c1 c2 c3 a W p f g:=⟨h.1.frame hf h1,h.2.1.frame hf h2,h.2.2.frame hf h3⟩
section
variable {t:TypeId} {v:Value} {fl fs:Nat} {r:Value} {I:dW} {dom:Nat→Prop} {L L' L'':Nat→Nat} {S:Nat→Prop} {w w1 w2:World} {b lo n:Nat}
theorem xG (hsg:cP I) (hs:ba t v fl r I dom) (ht:ka t v fs r I dom) (h:mj I t v b lo L S 0 w) (c1 c2 c3 a p f g:Nat) (hc:ma w c1 c2 c3 a (eI p f g) p f g) (ho:bw p f g)
  (hout:∀k,k=c1∨k=c2∨k=c3→¬S k∧k≠b∧k<lo) (hA:a<4611686018427387904) (hdom:∀k,a≤k→k<a+1+(p+f+g)→dom k):
  Calls Tryz.prog 127 #[b,.pointer (some ⟨c1,0,none⟩),.pointer (some ⟨c2,0,none⟩),.pointer (some ⟨c3,0,none⟩)] w (ml I t v b lo (gI L a (eI p f g) (p+f+g)) S (p+f+g+1) w (.tuple #[])):=by
 have hW:eI p f g<18446744073709551616:=by obtain ⟨_,h1,_,h2,_,h3,_⟩:=ho;exact tP (by omega) (by omega) (by omega)
 have hN:p+f+g<256:=by obtain ⟨_,h1,_,h2,_,h3,h4⟩:=ho;omega
 have HS:=ae (fun w1=>cY p f g w1);have hsz:cu p f g=((1+(p+f+g):Nat):Int):=by rw [cu,if_pos ho];push_cast;omega
 rw [hsz] at HS;unfold bP at HS;have HST0:=ae (gg hsg hs ht h a (eI p f g) (hdom a (by omega) (by omega)) hW (by omega));rw [←uf] at HST0;have HST:=ae (fun i (hi:i<p+f+g) w' (hp:sM I t v b lo (gI L a (eI p f g) i) S (i+1) w w')=>by
  obtain ⟨S',h1,h2,h3⟩:=hp;have hq:=gg hsg hs ht h1 (a+1+i) 0 (hdom _ (by omega) (by omega)) (by omega) (by omega);rw [ue] at hq;exact hq.mono (fun e w2 ⟨he,hr⟩=>(⟨he,fJ h.2.2.1 h2 h3 hr⟩:ml I t v b lo (gI L a (eI p f g) (i+1)) S (i+1+1) w (.tuple #[]) e w2)))
 have HCP:=ae (fun w' n' i (hp:sM I t v b lo (gI L a (eI p f g) i) S n' w w')=>hc.keep hp.choose_spec.2.1 (fun h=>by have:=hout c1 (.inl rfl);rcases h with h|h|h;exact this.1 h;exact this.2.1 h;omega) (fun h=>by have:=hout c2 (.inr (.inl rfl));rcases h with h|h|h;exact this.1 h;exact this.2.1 h;omega) (fun h=>by have:=hout c3 (.inr (.inr rfl));rcases h with h|h|h;exact this.1 h;exact this.2.1 h;omega));have HKS:=ae (fun w' w2 n' i (hp:sM I t v b lo (gI L a (eI p f g) i) S n' w w') (hf:Fr (fun _=>False) w' w2)=>(fJ h.2.2.1 hp.choose_spec.2.1 hp.choose_spec.2.2 (hp.choose_spec.1.Fh hs hf):sM I t v b lo (gI L a (eI p f g) i) S n' w w2));have HS3:Hid ((Tryz.prog.info? 31).map (·.size)=some 3):=by show _=_;kernel_rfl
 have k1:=hc.1.cell 0 rfl;have k2:=hc.2.1.cell 0 rfl;unfold dN at HS;unfold ml at*;generalize eI p f g=W at*;generalize hNN:p+f+g=N at*;have hw1:IntKind.i64.wrap (1+(N:Int)-1)=(N:Int):=by rw [IntKind.wrap_i64];omega
 clear hsg hs ht h hc ho hout hdom hW hsz hNN
 go_enter Tryz.func127,Tryz.ntmps127
 go_wp2_with fail
 refine (HST0.out).mono ?_;rintro e w1 ⟨rfl,hp1⟩;have HC1:=ae (HCP.out _ _ _ hp1);have HP1:=ae hp1;clear hp1 HST0 k1 k2;go_wp2_with (refine wpList_load_row rfl 31 _ rfl c3 rfl 31 #[.int .i64 p,.int .i64 f,.int .i64 g] _ _ HC1.out.2.2 Tryz.underlying31 rfl HS3.out ?_)
 refine (HS.out _).mono ?_;rintro e w2 ⟨rfl,hf2⟩;have HP2:=ae (HKS.out _ _ _ _ HP1.out hf2);clear hf2 HP1 HC1 HS;have hw2:IntKind.i64.wrap ((a:Int)+1)=(a:Int)+1:=by rw [IntKind.wrap_i64];omega
 rw [show ((1+N:Nat):Int)=1+(N:Int) by push_cast;rfl];go_wp2
 go_loopw [13] (fun x wr=>∃(i:Nat),x= .int .i64 i∧i≤N∧Hid (sM I t v b lo (gI L a W i) S (i+1) w wr)) (fun x _=>(N-intOf x).toNat)
 case atStart=>exact ⟨0,rfl,by omega,HP2.out⟩
 case round=>
  clear HP2;obtain ⟨i,rfl,h1,hr⟩:=hrel;have HC:=ae (HCP.out _ _ _ hr.out);have k1:=HC.out.1.cell 0 rfl;by_cases hlt:i<N
  ·have hlti:(i:Int)<(N:Int):=by omega
   have hw3:IntKind.i64.wrap ((a:Int)+1+(i:Int))=(a:Int)+1+(i:Int):=by rw [IntKind.wrap_i64];omega
   have HSi:=HST.out i hlt _ hr.out;rw [show ((a+1+i:Nat):Int)=(a:Int)+1+(i:Int) by push_cast;rfl,show ((0:Nat):Int)=0 from rfl] at HSi;have HSi':=ae HSi;clear HSi hr HC;go_wp2_with fail
   refine (HSi'.out).mono ?_;rintro e w3 ⟨rfl,hp3⟩;have HP3:=ae hp3;clear hp3 HSi';go_wp2;go_roundw
   case rel=>exact ⟨i+1,by go_num,by omega,HP3⟩
   case measure=>simp [intOf];omega
  ·have hiN:i=N:=by omega
   subst hiN;go_wp2;go_end0;exact ⟨rfl,hr.out⟩
end
section
variable {t:TypeId} {v:Value} {fl fs:Nat} {r:Value} {I:dW} {dom:Nat→Prop} {L L' L'':Nat→Nat} {S:Nat→Prop} {w w1 w2:World} {b lo n:Nat}
theorem wG (hs:ba t v fl r I dom) (hi:I L S w) (F:Nat) (cap:Array Value) (eg:∀args w,(callFunc F args).run Tryz.prog w= .ok (.enter F args) w)
  (hB:∀b w1,Fr (fun _=>False) w w1→w.heap.size≤b→mj I t v b w1.heap.size L S 0 w1→Calls Tryz.prog F (#[.pointer (some ⟨b,0,none⟩)]++cap) w1 (ml I t v b w1.heap.size L' S n w1 (.tuple #[]))):
  Calls Tryz.prog 126 #[.iface t v,.func (.func F) #[] cap] w (cw I L' S w (.agg #[.int .i64 0,.int .i64 0])):=by
 have hlt:=hs.lt _ _ _ hi;refine (lT t v F cap eg w (fun w1 w2=>∃S':Nat→Prop,I L' S' w2∧Fr (fun k=>S k∨w.heap.size≤k) w1 w2∧∀k,S' k→S k∨w1.heap.size≤k) (fun b w1 hf hb hb2 hB1=> ?_)).mono ?_
 ·refine (hB b w1 hf hb ⟨hs.keep hi hf,hb2,Nat.le_refl _,fun h=>by have:=hlt b h;omega,_,[],hB1,World.ownsRow_nil _ _ _ _,fun k hk=>by simp [Value.ownBlock] at hk⟩).mono ?_;rintro e w2 ⟨rfl,S',h1,h2,h3⟩;refine ⟨rfl,⟨S',h1.1,h2.mono (fun k h=> ?_),h3⟩,_,fun k h=> ?_,h2⟩
  ·have:=hf.size;rcases h with h|h|h
   ·exact .inl (.inl h)
   ·exact .inl (.inr (by omega))
   ·exact .inl (.inr (by omega))
  ·rcases h with h|h|h
   ·exact .inr (.inl (hlt k h))
   ·exact .inl h
   ·exact .inr (.inr h)
 ·rintro e w' ⟨rfl,w1,w2,hf1,⟨S',h1,h2,h3⟩,hf3⟩;have hz:=hf1.size;refine ⟨rfl,S',hs.stays_new hi h1 hf3 (fun k hk hh=> ?_) (fun k hh=>hh.1),?_,fun k hk=> ?_⟩
  ·rcases h3 k hk with h|h
   ·have:=hlt k h;omega
   ·omega
  ·exact ((hf1.mono (S':=S) (fun _ h=>h.elim)).trans h2 (fun k h=>h)).trans hf3 (fun k h=> .inr h.1)
  ·rcases h3 k hk with h|h
   ·exact .inl h
   ·exact .inr (by omega)
theorem nl (hsg:cP I) (hs:ba t v fl r I dom) (ht:ka t v fs r I dom) (hi:I L S w) (a p f g:Nat) (ha:1≤a) (hA:a<4611686018427387904) (ho:bw p f g) (hdom:∀k,a≤k→k<a+1+(p+f+g)→dom k):
  Calls Tryz.prog 55 #[.iface t v,.int .i64 a,bP p f g] w (cw I (gI L a (eI p f g) (p+f+g)) S w (.int .i64 0)):=by
 have hmf:∀(fn:Fn) (first cap:Array Value) (w:World),(Instr.makeFunc fn first cap).run Tryz.prog w= .ok (.func fn first cap) w:=fun _ _ _ _=>rfl
 have HPUT:=ae (fun w1=>tT p f g ho w1);have hlt:=hs.lt _ _ _ hi;have HRUN:=ae (fun W (hf:Fr (fun _=>False) w W) c1 c2 c3 (hc:ma W c1 c2 c3 a (eI p f g) p f g) (h1:w.heap.size≤c1∧w.heap.size≤c2∧w.heap.size≤c3)=>wG (L':=gI L a (eI p f g) (p+f+g)) (n:=p+f+g+1) hs (hs.keep hi hf) 127 #[.pointer (some ⟨c1,0,none⟩),.pointer (some ⟨c2,0,none⟩),.pointer (some ⟨c3,0,none⟩)] (enters_of Tryz.func127 (by kernel_rfl) rfl) (fun b w1 hf1 hb hw=>xG hsg hs ht hw c1 c2 c3 a p f g (hc.keep hf1 (fun h=>h) (fun h=>h) (fun h=>h)) ho (fun k hk=>by
  have l1:=hc.1.lt;have l2:=hc.2.1.lt;have l3:=hc.2.2.lt;have:=hf1.size;rcases hk with rfl|rfl|rfl
  ·exact ⟨fun h=>by have:=hlt _ h;omega,by omega,by omega⟩
  ·exact ⟨fun h=>by have:=hlt _ h;omega,by omega,by omega⟩
  ·exact ⟨fun h=>by have:=hlt _ h;omega,by omega,by omega⟩) hA hdom))
 have HEND:=ae (fun W w' (hf:Fr (fun _=>False) w W) (hp:dM I (gI L a (eI p f g) (p+f+g)) S W w')=>hs.Ah hf hi hp);unfold wU at HPUT;generalize gI L a (eI p f g) (p+f+g)=L2 at*;have HS3:Hid ((Tryz.prog.info? 31).map (·.size)=some 3):=by show _=_;kernel_rfl
 generalize eI p f g=X at*;unfold cw at*;have ha':(1:Int)≤(a:Int):=by omega
 clear hsg hs ht hi ho hdom hlt hA ha;unfold bP at*
 go_enter Tryz.func55,Tryz.ntmps55
 go_upto_region 1 with fail
 obtain ⟨W1,hW1⟩:∃W1,(w.alloc (.cells #[.int .i64 a] 3)).alloc (.cells #[.int .i64 p,.int .i64 f,.int .i64 g] 31)=W1:=⟨_,rfl⟩;have hz1:(w.alloc (.cells #[.int .i64 a] 3)).heap.size=w.heap.size+1:=Array.size_push _;have hF1:Fr (fun _=>False) w W1:=by rw [←hW1];exact ((Fr.refl _ w).alloc _).alloc _
 have hA1:ak W1 w.heap.size [.int .i64 a] 3:=by rw [←hW1];exact (ak.new w [.int .i64 a] 3).alloc _
 have hH1:ak W1 (w.heap.size+1) [.int .i64 p,.int .i64 f,.int .i64 g] 31:=by
  have h:=ak.new (w.alloc (.cells #[.int .i64 a] 3)) [.int .i64 p,.int .i64 f,.int .i64 g] 31;rw [hz1] at h;rw [←hW1];exact h
 rw [hW1];clear hW1 hz1;have k1:=hA1.cell 0 rfl;have HF:=ae (af hF1 (af hA1 hH1));clear hF1 hA1 hH1;go_wp2_with (refine wpList_load_row rfl 31 _ rfl (w.heap.size+1) rfl 31 #[.int .i64 p,.int .i64 f,.int .i64 g] _ _ HF.out.2.2 Tryz.underlying31 rfl HS3.out ?_)
 refine (HPUT.out _).mono ?_;rintro e W2 ⟨rfl,hf2⟩;have hF2:=HF.out.1.trans hf2 (fun _ h=>h.elim);have hA2:=HF.out.2.1.frame hf2 (fun h=>h);have hH2:=HF.out.2.2.frame hf2 (fun h=>h);have HR:=ae (HRUN.out (W2.alloc (.cells #[.int .u64 X] 46)) (hF2.alloc _) w.heap.size W2.heap.size (w.heap.size+1) ⟨hA2.alloc _,ak.new W2 _ _,hH2.alloc _⟩ ⟨Nat.le_refl _,hF2.size,by omega⟩);have HE:=ae (HEND.out _ · (hF2.alloc (.cells #[.int .u64 X] 46)));clear HRUN HEND HPUT hf2 hF2 hA2 hH2 HF k1;go_wp2_with fail
 refine (HR.out).mono ?_;rintro e W3 ⟨rfl,hp⟩;have hq:=HE.out _ hp;clear HR HE hp;have hfld:(Instr.field 197 (.agg #[.int .i64 0,.int .i64 0]) 0).run Tryz.prog W3= .ok (.int .i64 0) W3:=by kernel_rfl
 go_wp2;go_ret;exact ⟨rfl,hq⟩
end
def gR (L:Nat→Nat) (fr z n:Nat):Nat→Nat:=fun k=>if z≤k∧k<z+n then L (fr+(k-z)) else L k
theorem tm (L:Nat→Nat) (fr z:Nat):gR L fr z 0=L:=by
 funext k;unfold gR;rw [if_neg (by omega)]
theorem tl (L:Nat→Nat) (fr z n:Nat):bG (gR L fr z n) (z+n) (L (fr+n))=gR L fr z (n+1):=by
 funext k;show (if k=z+n then L (fr+n) else if z≤k∧k<z+n then L (fr+(k-z)) else L k)=if z≤k∧k<z+(n+1) then L (fr+(k-z)) else L k
 by_cases h:k=z+n
 ·subst h;rw [if_pos rfl,if_pos (by omega),show z+n-z=n by omega]
 ·rw [if_neg h];by_cases h3:z≤k∧k<z+n
  ·rw [if_pos h3,if_pos (by omega)]
  ·rw [if_neg h3,if_neg (by omega)]
def cR (L:Nat→Nat) (fr n i:Nat):List Nat:=(List.range n).map (fun j=>if j<i then L (fr+j) else 0)
theorem ow (L:Nat→Nat) (fr n:Nat):cR L fr n 0=List.replicate n 0:=by
 unfold cR;apply List.ext_getElem?;intro j;rw [List.getElem?_map,List.getElem?_replicate];by_cases h:j<n
 ·rw [List.getElem?_range h,if_pos h];rfl
 ·rw [List.getElem?_eq_none (by simpa using h),if_neg h];rfl
theorem fz (L:Nat→Nat) (fr n i j:Nat) (h:j<n):(cR L fr n i)[j]? =some (if j<i then L (fr+j) else 0):=by
 unfold cR;rw [List.getElem?_map,List.getElem?_range h];rfl
theorem rf (L:Nat→Nat) (fr n i:Nat) (h:i<n):(cR L fr n i).set i (L (fr+i))=cR L fr n (i+1):=by
 apply List.ext_getElem?;intro j;by_cases hj:j<n
 ·rw [fz _ _ _ _ _ hj,List.getElem?_set];by_cases e:i=j
  ·subst e;rw [if_pos rfl,if_pos (by simpa [cR] using h),if_pos (by omega)]
  ·rw [if_neg e,fz _ _ _ _ _ hj];by_cases h2:j<i
   ·rw [if_pos h2,if_pos (by omega)]
   ·rw [if_neg h2,if_neg (by omega)]
 ·rw [List.getElem?_eq_none (by simpa [cR] using hj),List.getElem?_eq_none (by simpa [cR] using hj)]
def li (I:dW) (t:TypeId) (v:Value) (b lo q:Nat) (L:Nat→Nat) (S:Nat→Prop) (m:Nat) (xs:List Nat) (w w':World):Prop:=
 ∃S':Nat→Prop,mj I t v b lo L S' m w'∧Fr (fun k=>S k∨k=b∨q≤k) w w'∧(∀k,S' k→S k∨w.heap.size≤k)∧ak w' q (bz xs) 46∧w.heap.size≤w'.heap.size
section
variable {t:TypeId} {v:Value} {fl fs:Nat} {r:Value} {I:dW} {dom:Nat→Prop} {L L' L'':Nat→Nat} {S S1:Nat→Prop} {w w1 w2:World} {b lo q m m' n:Nat} {xs:List Nat}
theorem li.op (hq:q<lo) (hb:b<q) (hlo:lo=w.heap.size) (hS:¬S q) (h2:Fr (fun k=>S k∨k=b∨q≤k) w w1) (h3:∀k,S1 k→S k∨w.heap.size≤k) (h4:ak w1 q (bz xs) 46) (hp:sM I t v b lo L' S1 m' w1 w2):li I t v b lo q L' S m' xs w w2:=by
 obtain ⟨S2,r1,r2,r3⟩:=hp;have hz:=h2.size;have hz2:=r2.size;refine ⟨S2,r1,h2.trans r2 (fun k h=> ?_),fun k h=> ?_,h4.frame r2 (fun h=> ?_),by omega⟩
 ·rcases h with h|h|h
  ·exact (h3 k h).imp .inl id
  ·exact .inl (.inr (.inl h))
  ·exact .inl (.inr (.inr (by omega)))
 ·rcases r3 k h with h|h
  ·exact h3 k h
  ·exact .inr (by omega)
 ·rcases h with h|h|h
  ·rcases h3 _ h with h|h
   ·exact hS h
   ·omega
  ·omega
  ·omega
theorem li.set (hsg:cP I) (hq:q<lo) (hb:b<q) (hlo:lo=w.heap.size) (hS:¬S q) (h:li I t v b lo q L S m xs w w1) (i y:Nat):li I t v b lo q L S m (xs.set i y) w (w1.setCell ⟨q,i,none⟩ (.int .u64 y)):=by
 obtain ⟨S1,⟨a1,a2,a3,a4,sl,ys,a5,a6,a7⟩,h2,h3,h4,h5⟩:=h;have hn:¬S1 q:=fun h=>by rcases h3 _ h with h|h;exact hS h;omega
 have hf:Fr (fun k=>k=q) w1 (w1.setCell ⟨q,i,none⟩ (.int .u64 y)):=(Fr.refl (fun k=>k=q) w1).setCell ⟨q,i,none⟩ (.inl rfl) _;have hz:=hf.size;refine ⟨S1,⟨hsg _ _ _ _ _ a1 hf (fun k hk e=>hn (e▸hk)),a2,by omega,a4,sl,ys,a5.frame hf (fun e=>by omega),bm a6 hf (fun k hk e=>by have:=(a6.lt k hk).1;omega),a7⟩,h2.trans hf (fun k e=> .inl (.inr (.inr (by omega)))),h3,?_,by omega⟩;have:=h4.set i (.int .u64 y);unfold bz at*;rw [List.map_set];exact this
def lW (w:World) (c1 c2 c3 fr z p f g:Nat):Prop:=ak w c1 [.int .i64 p,.int .i64 f,.int .i64 g] 31∧ak w c2 [.int .i64 fr] 3∧ak w c3 [.int .i64 z] 3
theorem lW.keep {w w':World} {c1 c2 c3 fr z p f g:Nat} {T:Nat→Prop} (h:lW w c1 c2 c3 fr z p f g) (hf:Fr T w w') (h1:¬T c1) (h2:¬T c2) (h3:¬T c3):lW w' c1 c2 c3 fr z p f g:=⟨h.1.frame hf h1,h.2.1.frame hf h2,h.2.2.frame hf h3⟩
def vD (I:dW) (b:Nat) (L:Nat→Nat) (S:Nat→Prop) (w:World) (e:Ending) (w':World):Prop:=e= .returned (.tuple #[])∧∃S':Nat→Prop,I L S' w'∧Fr (fun k=>S k∨k=b∨w.heap.size≤k) w w'∧∀k,S' k→S k∨w.heap.size≤k
theorem xK (hsg:cP I) (hs:ba t v fl r I dom) (ht:ka t v fs r I dom) (hi:I L S w) (hb:ak w b [.iface t v,.slice none 0 0] 270) (c1 c2 c3 fr z p f g:Nat) (hc:lW w c1 c2 c3 fr z p f g) (ho:bw p f g)
  (hout:∀k,k=c1∨k=c2∨k=c3∨k=b→¬S k) (hcb:c1≠b∧c2≠b∧c3≠b) (hA:fr<4611686018427387904) (hZ:z<4611686018427387904) (hd1:∀k,fr≤k→k<fr+(1+(p+f+g))→dom k∧L k<18446744073709551616) (hd2:∀k,z≤k→k<z+(1+(p+f+g))→dom k):
  Calls Tryz.prog 254 #[b,.pointer (some ⟨c1,0,none⟩),.pointer (some ⟨c2,0,none⟩),.pointer (some ⟨c3,0,none⟩)] w (vD I b (gR L fr z (1+(p+f+g))) S w):=by
 have hN:p+f+g<256:=by obtain ⟨_,h1,_,h2,_,h3,h4⟩:=ho;omega
 have HS:=ae (fun w1=>cY p f g w1);have hsz:cu p f g=((1+(p+f+g):Nat):Int):=by rw [cu,if_pos ho];push_cast;omega
 rw [hsz] at HS;unfold bP at HS;have HS3:Hid ((Tryz.prog.info? 31).map (·.size)=some 3):=by show _=_;kernel_rfl
 obtain ⟨n,hn⟩:∃n,1+(p+f+g)=n:=⟨_,rfl⟩;rw [hn] at HS hd1 hd2 ⊢;have hN2:n≤256:=by omega
 have hmk:=nc n (by omega) (n:Int) rfl;have hlt:=hs.lt _ _ _ hi;have hbl:=hb.lt;unfold dN at HS;have HH:=ae hc.1;have HR0:=ae (fun w1 (hf:Fr (fun _=>False) w w1)=>by
  have hz:=hf.size;have hfa:Fr (fun _=>False) w (w1.alloc (.cells (bz (List.replicate n 0)).toArray 46)):=hf.alloc _;have hsz1:(w1.alloc (.cells (bz (List.replicate n 0)).toArray 46)).heap.size=w1.heap.size+1:=Array.size_push _;have h0:li I t v b (w1.heap.size+1) w1.heap.size L S 0 (cR L fr n 0) (w1.alloc (.cells (bz (List.replicate n 0)).toArray 46)) (w1.alloc (.cells (bz (List.replicate n 0)).toArray 46)):=
   ⟨S,⟨hs.keep hi hfa,by omega,by omega,hout b (by simp),_,[],hb.frame hfa (fun h=>h),World.ownsRow_nil _ _ _ _,fun k hk=>by simp [Value.ownBlock] at hk⟩,Fr.refl _ _,fun _ h=> .inl h,by rw [ow];exact ak.new w1 _ _,Nat.le_refl _⟩
  exact (⟨hfa,hsz1,hz,h0⟩:Fr (fun _=>False) w (w1.alloc (.cells (bz (List.replicate n 0)).toArray 46))∧(w1.alloc (.cells (bz (List.replicate n 0)).toArray 46)).heap.size=w1.heap.size+1∧w.heap.size≤w1.heap.size∧li I t v b (w1.heap.size+1) w1.heap.size L S 0 (cR L fr n 0) (w1.alloc (.cells (bz (List.replicate n 0)).toArray 46)) (w1.alloc (.cells (bz (List.replicate n 0)).toArray 46))))
 have HLD:=ae (fun (W:World) q (hq:w.heap.size≤q∧W.heap.size=q+1) w1 i (hi2:i<n) (h:li I t v b (q+1) q L S 0 (cR L fr n i) W w1)=>by
  obtain ⟨S1,h1,h2,h3,h4,h5⟩:=h;have hqS:¬S q:=fun h=>by have:=hlt _ h;omega
  exact (lh hs h1 (fr+i) (hd1 _ (by omega) (by omega)).1).mono (fun e w2 ⟨he,hp⟩=>(⟨he,li.op (by omega) (by omega) hq.2.symm hqS h2 h3 h4 hp⟩:e=Ending.returned (.int .u64 ((L (fr+i):Nat):Int))∧li I t v b (q+1) q L S 0 (cR L fr n i) W w2)))
 have HPUT:=ae (fun (W:World) q (hq:w.heap.size≤q∧W.heap.size=q+1) w1 i (hi2:i<n) (h:li I t v b (q+1) q L S 0 (cR L fr n i) W w1)=>by
  have hqS:¬S q:=fun h=>by have:=hlt _ h;omega
  have:=li.set hsg (by omega) (by omega) hq.2.symm hqS h i (L (fr+i));rw [rf _ _ _ _ hi2] at this;exact this)
 have HST:=ae (fun (W:World) q (hq:w.heap.size≤q∧W.heap.size=q+1) w1 i (hi2:i<n) (h:li I t v b (q+1) q (gR L fr z i) S i (cR L fr n n) W w1)=>by
  obtain ⟨S1,h1,h2,h3,h4,h5⟩:=h;have hqS:¬S q:=fun h=>by have:=hlt _ h;omega
  have hk:=gg hsg hs ht h1 (z+i) (L (fr+i)) (hd2 _ (by omega) (by omega)) (hd1 _ (by omega) (by omega)).2 (by omega);rw [tl] at hk;exact hk.mono (fun e w2 ⟨he,hp⟩=>(⟨he,li.op (by omega) (by omega) hq.2.symm hqS h2 h3 h4 hp⟩:e=Ending.returned (.tuple #[])∧li I t v b (q+1) q (gR L fr z (i+1)) S (i+1) (cR L fr n n) W w2)))
 have HCAP:=ae (fun (W:World) q (hq:w.heap.size≤q∧W.heap.size=q+1) (hfW:Fr (fun _=>False) w W) w1 (hf:Fr (fun k=>S k∨k=b∨q≤k) W w1)=>(hc.keep hfW (fun h=>h) (fun h=>h) (fun h=>h)).keep hf
  (fun h=>by have l1:=hc.1.lt;rcases h with h|h|h;exact hout c1 (by simp) h;exact hcb.1 h;omega)
  (fun h=>by have l1:=hc.2.1.lt;rcases h with h|h|h;exact hout c2 (by simp) h;exact hcb.2.1 h;omega)
  (fun h=>by have l1:=hc.2.2.lt;rcases h with h|h|h;exact hout c3 (by simp) h;exact hcb.2.2 h;omega))
 have HEND:=ae (fun (W:World) q (hq:w.heap.size≤q∧W.heap.size=q+1) (hfW:Fr (fun _=>False) w W) w1 m xs (h:li I t v b (q+1) q (gR L fr z n) S m xs W w1)=>by
  obtain ⟨S1,h1,h2,h3,h4,h5⟩:=h;exact (show vD I b (gR L fr z n) S w (Ending.returned (.tuple #[])) w1 from ⟨rfl,S1,h1.1,(hfW.mono (S':=fun k=>S k∨k=b∨w.heap.size≤k) (fun _ h=>h.elim)).trans h2 (fun k h=>by
   rcases h with h|h|h
   ·exact .inl (.inl h)
   ·exact .inl (.inr (.inl h))
   ·exact .inl (.inr (.inr (by omega)))),fun k h=>by
   rcases h3 k h with h|h
   ·exact .inl h
   ·exact .inr (by omega)⟩))
 obtain ⟨Q,hQ⟩:∃Q,Q=vD I b (gR L fr z n) S w:=⟨_,rfl⟩;rw [←hQ] at HEND ⊢;clear hQ hsg hs ht hi hb hc ho hout hcb hd1 hd2 hsz hN hlt hbl
 go_enter Tryz.func254,Tryz.ntmps254
 go_wp2_with (refine wpList_load_row rfl 31 _ rfl c1 rfl 31 #[.int .i64 p,.int .i64 f,.int .i64 g] _ _ HH.out Tryz.underlying31 rfl HS3.out ?_)
 refine (HS.out _).mono ?_;rintro e w1 ⟨rfl,hf1⟩;have HR1:=ae (HR0.out _ hf1);clear HR0 HS hf1
 go_upto_region 1 with fail
 obtain ⟨W,hW⟩:∃W,w1.alloc (.cells (bz (List.replicate n 0)).toArray 46)=W:=⟨_,rfl⟩;rw [hW] at HR1 ⊢;clear hW hmk HS3 HH;obtain ⟨hfW,hz1,hz2,h0⟩:=HR1.out;generalize w1.heap.size=q at*;have hq:w.heap.size≤q∧W.heap.size=q+1:=⟨hz2,hz1⟩;have HLDq:=ae (HLD.out W q hq);have HPUTq:=ae (HPUT.out W q hq);have HSTq:=ae (HST.out W q hq);have HCAPq:=ae (HCAP.out W q hq hfW);have HENDq:=ae (HEND.out W q hq hfW);have H0:=ae h0;clear HLD HPUT HST HCAP HEND HR1 hfW hz1 hz2 hq h0 w1;go_wp2
 go_loopw [14] (fun x wr=>∃(i:Nat),x= .int .i64 i∧i≤n∧Hid (li I t v b (q+1) q L S 0 (cR L fr n i) W wr)) (fun x _=>(n-intOf x).toNat)
 case atStart=>exact ⟨0,rfl,by omega,H0⟩
 case round=>
  clear H0;obtain ⟨i,rfl,h1,hr⟩:=hrel;by_cases hlt:i<n
  ·have hlti:(i:Int)<(n:Int):=by omega
   have k2:=(HCAPq.out _ hr.out.choose_spec.2.1).2.1.cell 0 rfl;have hw1:IntKind.i64.wrap ((fr:Int)+(i:Int))=(fr:Int)+(i:Int):=by rw [IntKind.wrap_i64];omega
   have HLi:=HLDq.out _ i hlt hr.out;rw [show ((fr+i:Nat):Int)=(fr:Int)+(i:Int) by push_cast;rfl] at HLi;have HLi':=ae HLi;clear HLi hr;go_wp2_with fail
   refine (HLi'.out).mono ?_;rintro e w3 ⟨rfl,hp3⟩;have HP3:=ae (HPUTq.out _ i hlt hp3);have hbk:=hp3.choose_spec.2.2.2.1;have ck:=hbk.cell i (v:= .int .u64 ((if i<i then L (fr+i) else 0:Nat):Int)) (by unfold bz;rw [List.getElem?_map,fz _ _ _ _ _ hlt];rfl);have fk:=hbk.free i;clear hp3 hbk HLi';go_wp2;go_roundw
   case rel=>exact ⟨i+1,by go_num,by omega,HP3⟩
   case measure=>simp [intOf];omega
  ·have hiN:i=n:=by omega
   have H1:=ae (show li I t v b (q+1) q (gR L fr z 0) S 0 (cR L fr n n) W wr from by rw [tm];rw [hiN] at hr;exact hr.out);have hni:¬(i:Int)<(n:Int):=by omega
   clear hr h1 hlt hiN HLDq HPUTq;go_wp2
   go_loopw [28] (fun x wr=>∃(i:Nat),x= .int .i64 i∧i≤n∧Hid (li I t v b (q+1) q (gR L fr z i) S i (cR L fr n n) W wr)) (fun x _=>(n-intOf x).toNat)
   case atStart=>exact ⟨0,rfl,by omega,H1⟩
   case round=>
    clear H1 hni;obtain ⟨j,rfl,h1,hr⟩:=hrel;by_cases hlt:j<n
    ·have hlti:(j:Int)<(n:Int):=by omega
     have k3:=(HCAPq.out _ hr.out.choose_spec.2.1).2.2.cell 0 rfl;have ck:=hr.out.choose_spec.2.2.2.1.cell j (v:= .int .u64 ((L (fr+j):Nat):Int)) (by unfold bz;rw [List.getElem?_map,fz _ _ _ _ _ hlt,if_pos hlt];rfl);have hw1:IntKind.i64.wrap ((z:Int)+(j:Int))=(z:Int)+(j:Int):=by rw [IntKind.wrap_i64];omega
     have HLi:=HSTq.out _ j hlt hr.out;rw [show ((z+j:Nat):Int)=(z:Int)+(j:Int) by push_cast;rfl] at HLi;have HLi':=ae HLi;clear HLi hr;go_wp2_with fail
     refine (HLi'.out).mono ?_;rintro e w3 ⟨rfl,hp3⟩;have HP3:=ae hp3;clear hp3 HLi';go_wp2;go_roundw
     case rel=>exact ⟨j+1,by go_num,by omega,HP3⟩
     case measure=>simp [intOf];omega
    ·have hjN:j=n:=by omega
     have hni:¬(j:Int)<(n:Int):=by omega
     have H2:=ae (HENDq.out wr j _ (by rw [←hjN] at*;rw [hjN];rw [hjN] at hr;exact hr.out));clear hr h1 hlt hjN;go_wp2;go_end0;exact H2.out
end
section
variable {t:TypeId} {v:Value} {fl fs:Nat} {r:Value} {I:dW} {dom:Nat→Prop} {L L' L'':Nat→Nat} {S:Nat→Prop} {w w1 w2:World} {b lo n:Nat}
theorem u7 (hs:ba t v fl r I dom) (hi:I L S w) (F:Nat) (cap:Array Value) (eg:∀args w,(callFunc F args).run Tryz.prog w= .ok (.enter F args) w)
  (hB:∀b w1,Fr (fun _=>False) w w1→w.heap.size≤b→I L S w1→ak w1 b [.iface t v,.slice none 0 0] 270→Calls Tryz.prog F (#[.pointer (some ⟨b,0,none⟩)]++cap) w1 (vD I b L' S w1)):
  Calls Tryz.prog 126 #[.iface t v,.func (.func F) #[] cap] w (cw I L' S w (.agg #[.int .i64 0,.int .i64 0])):=by
 have hlt:=hs.lt _ _ _ hi;refine (lT t v F cap eg w (fun w1 w2=>∃S':Nat→Prop,I L' S' w2∧Fr (fun k=>S k∨w.heap.size≤k) w1 w2∧∀k,S' k→S k∨w1.heap.size≤k) (fun b w1 hf hb hb2 hB1=> ?_)).mono ?_
 ·refine (hB b w1 hf hb (hs.keep hi hf) hB1).mono ?_;rintro e w2 ⟨rfl,S',h1,h2,h3⟩;refine ⟨rfl,⟨S',h1,h2.mono (fun k h=> ?_),h3⟩,_,fun k h=> ?_,h2⟩
  ·have:=hf.size;rcases h with h|h|h
   ·exact .inl (.inl h)
   ·exact .inl (.inr (by omega))
   ·exact .inl (.inr (by omega))
  ·rcases h with h|h|h
   ·exact .inr (.inl (hlt k h))
   ·exact .inl h
   ·exact .inr (.inr h)
 ·rintro e w' ⟨rfl,w1,w2,hf1,⟨S',h1,h2,h3⟩,hf3⟩;have hz:=hf1.size;refine ⟨rfl,S',hs.stays_new hi h1 hf3 (fun k hk hh=> ?_) (fun k hh=>hh.1),?_,fun k hk=> ?_⟩
  ·rcases h3 k hk with h|h
   ·have:=hlt k h;omega
   ·omega
  ·exact ((hf1.mono (S':=S) (fun _ h=>h.elim)).trans h2 (fun k h=>h)).trans hf3 (fun k h=> .inr h.1)
  ·rcases h3 k hk with h|h
   ·exact .inl h
   ·exact .inr (by omega)
theorem uo (hsg:cP I) (hs:ba t v fl r I dom) (ht:ka t v fs r I dom) (hi:I L S w) (a z p f g:Nat) (ha:1≤a) (hz:1≤z) (hA:a<4611686018427387904) (hZ:z<4611686018427387904) (ho:d9 L a p f g) (hd1:∀k,a≤k→k<a+(1+(p+f+g))→dom k∧L k<18446744073709551616) (hd2:∀k,z≤k→k<z+(1+(p+f+g))→dom k):
  Calls Tryz.prog 212 #[.iface t v,.int .i64 a,.int .i64 z] w (cw I (gR L a z (1+(p+f+g))) S w (.int .i64 0)):=by
 have hmf:∀(fn:Fn) (first cap:Array Value) (w:World),(Instr.makeFunc fn first cap).run Tryz.prog w= .ok (.func fn first cap) w:=fun _ _ _ _=>rfl
 have hlt:=hs.lt _ _ _ hi;have HRD:=ae (fun W (hf:Fr (fun _=>False) w W)=>eZ hs (hs.keep hi hf) a p f g ha (hd1 a (Nat.le_refl _) (by omega)).1 ho);have HRUN:=ae (fun W S1 (h1:I L S1 W) c1 c2 c3 (hc:lW W c1 c2 c3 a z p f g) (hS:¬S1 c1∧¬S1 c2∧¬S1 c3)=>u7 (L':=gR L a z (1+(p+f+g))) hs h1 254 #[.pointer (some ⟨c1,0,none⟩),.pointer (some ⟨c2,0,none⟩),.pointer (some ⟨c3,0,none⟩)] (enters_of Tryz.func254 (by kernel_rfl) rfl) (fun b w1 hf1 hb hw hbk=>xK hsg hs ht hw hbk c1 c2 c3 a z p f g (hc.keep hf1 (fun h=>h) (fun h=>h) (fun h=>h)) ho.2 (fun k hk=>by
   have hl:=hs.lt _ _ _ h1;rcases hk with rfl|rfl|rfl|rfl
   ·exact hS.1
   ·exact hS.2.1
   ·exact hS.2.2
   ·exact fun h=>by have:=hl _ h;omega) (by
   have l1:=hc.1.lt;have l2:=hc.2.1.lt;have l3:=hc.2.2.lt;exact ⟨by omega,by omega,by omega⟩) hA hZ hd1 hd2))
 have HK:=ae (fun (W1 W2 W3 W':World) (hf1:Fr (fun _=>False) w W1) (hp:dM I L S W1 W2) S2 (hS2:I L S2 W3∧Fr S W1 W2∧Fr (fun _=>False) W2 W3∧(∀k,S2 k→S k∨W1.heap.size≤k)) (hp2:dM I (gR L a z (1+(p+f+g))) S2 W3 W')=>by
  have hz1:=hS2.2.1.size;exact (show dM I (gR L a z (1+(p+f+g))) S w W' from hs.Ah hf1 hi (iw (hS2.2.1.trans hS2.2.2.1 (fun _ h=>h.elim)) hS2.2.2.2 hp2)))
 have HKE:=ae (fun (W2 W3:World) S2 (h:I L S2 W2) (hf:Fr (fun _=>False) W2 W3)=>hs.keep h hf);have HLT:=ae (fun (W2:World) S2 (h:I L S2 W2)=>hs.lt _ _ _ h);unfold lm at HRD;generalize gR L a z (1+(p+f+g))=L2 at*;unfold cw at*;have ha':(1:Int)≤(a:Int):=by omega
 have hz':(1:Int)≤(z:Int):=by omega
 clear hsg hs ht hi ho hd1 hd2 hA ha hZ hz;unfold bP at*
 go_enter Tryz.func212,Tryz.ntmps212
 go_upto_region 1 with fail
 obtain ⟨W1,hW1⟩:∃W1,(w.alloc (.cells #[.int .i64 a] 3)).alloc (.cells #[.int .i64 z] 3)=W1:=⟨_,rfl⟩;have hz1:(w.alloc (.cells #[.int .i64 a] 3)).heap.size=w.heap.size+1:=Array.size_push _;have hF1:Fr (fun _=>False) w W1:=by rw [←hW1];exact ((Fr.refl _ w).alloc _).alloc _
 have hA1:ak W1 w.heap.size [.int .i64 a] 3:=by rw [←hW1];exact (ak.new w [.int .i64 a] 3).alloc _
 have hH1:ak W1 (w.heap.size+1) [.int .i64 z] 3:=by
  have h:=ak.new (w.alloc (.cells #[.int .i64 a] 3)) [.int .i64 z] 3;rw [hz1] at h;rw [←hW1];exact h
 rw [hW1];clear hW1 hz1;have k1:=hA1.cell 0 rfl;have HF:=ae (af hF1 (af hA1 hH1));have HRD1:=ae (HRD.out _ hF1);clear hF1 hA1 hH1 HRD;go_wp2_with fail
 refine (HRD1.out).mono ?_;rintro e W2 ⟨rfl,hp⟩;obtain ⟨S2,q1,q2,q3⟩:=id hp;have hsz:=HF.out.1.size;have hl1:=HF.out.2.1.lt;have hl2:=HF.out.2.2.lt;have n1:¬S w.heap.size:=fun h=>by have:=hlt _ h;omega
 have n2:¬S (w.heap.size+1):=fun h=>by have:=hlt _ h;omega
 have hA2:=HF.out.2.1.frame q2 n1;have hH2:=HF.out.2.2.frame q2 n2;have hsz2:=q2.size;obtain ⟨W3,hW3⟩:∃W3,W2.alloc (.cells #[.int .i64 p,.int .i64 f,.int .i64 g] 31)=W3:=⟨_,rfl⟩;have hF3:Fr (fun _=>False) W2 W3:=by rw [←hW3];exact (Fr.refl _ _).alloc _
 have hB3:ak W3 W2.heap.size [.int .i64 p,.int .i64 f,.int .i64 g] 31:=by rw [←hW3];exact ak.new W2 _ _
 have k3:=(hH2.frame hF3 (fun h=>h)).cell 0 rfl;have hS2l:∀k,S2 k→k<W2.heap.size:=HLT.out _ _ q1;have HR:=ae (HRUN.out W3 S2 (HKE.out _ _ _ q1 hF3) W2.heap.size w.heap.size (w.heap.size+1) ⟨hB3,hA2.frame hF3 (fun h=>h),hH2.frame hF3 (fun h=>h)⟩ ⟨fun h=>by have:=hS2l _ h;omega,fun h=>by rcases q3 _ h with h|h;exact n1 h;omega,fun h=>by rcases q3 _ h with h|h;exact n2 h;omega⟩);have HE:=ae (fun W' hp2=>HK.out W1 W2 W3 W' HF.out.1 hp S2 ⟨HKE.out _ _ _ q1 hF3,q2,hF3,q3⟩ hp2);clear HRUN HK HKE HF q1 q2 q3 hp hA2 hH2 hF3 hB3 n1 n2 hsz hsz2 hl1 hl2 hS2l HRD1 hlt k1 HLT
 go_upto_region 2 with fail
 clear hW3;go_wp2_with fail
 refine (HR.out).mono ?_;rintro e W' ⟨rfl,hp⟩;have hq:=HE.out _ hp;have hfld:(Instr.field 197 (.agg #[.int .i64 0,.int .i64 0]) 0).run Tryz.prog W'= .ok (.int .i64 0) W':=by kernel_rfl
 clear HR HE hp;go_wp2;go_ret;exact ⟨rfl,hq⟩
end
def aX (W Pg:Nat) (mp:Nat→Bool) (a:Nat):Prop:=a<W∧mp (a/Pg)=true
def bi (m Pg W Rm Us Hg:Nat) (mp:Nat→Bool):dW:=fun L S w=>∃M,bl w m S Pg W Rm Us Hg mp M∧∀a,aX W Pg mp a→M a=L a
theorem bl.lt {S:Nat→Prop} {w:World} {m Pg W Rm Us Hg:Nat} {mp:Nat→Bool} {M:Nat→Nat} (h:bl w m S Pg W Rm Us Hg mp M):∀k,S k→k<w.heap.size:=by
 obtain ⟨p,vw,vt,vb,ws,tk,bk,Tm,g,gt,ts,fr,n,q1,q2,q3,q4,q5,q6,q7,q8,q9,q10⟩:=h;intro k hk;rcases (q10 k).1 hk with h|(h|h|h|h)|(h|h|h)
 ·rw [h];exact q1.lt
 ·rw [h];exact q2.blk.lt
 ·exact (q2.rw.lt k h).2
 ·exact (q2.rt.lt k h).2
 ·exact (q2.rb.lt k h).2
 ·rw [h];exact q3.blk.lt
 ·rw [h];exact q3.row.lt
 ·obtain ⟨i,hi⟩:=List.mem_iff_getElem?.1 h;exact (q3.tab i k hi).lt
theorem aR (m Pg W Rm Us Hg:Nat) (mp:Nat→Bool):cP (bi m Pg W Rm Us Hg mp):=fun L S w1 w2 T ⟨M,h1,h2⟩ hf hn=>⟨M,h1.frame hf hn,h2⟩
theorem aF (m Pg W Rm Us Hg:Nat) (mp:Nat→Bool):ba 112 (.pointer (some ⟨m,0,none⟩)) 223 (.pointer (some ⟨m,0,none⟩)) (bi m Pg W Rm Us Hg mp) (aX W Pg mp) where
 mload:=fun w=>by kernel_rfl
 eload:=enters_of Tryz.func223 (by kernel_rfl) rfl
 stays:=fun L S w1 w2 T ⟨M,h1,h2⟩ hf hn _=>⟨M,h1.frame hf hn,h2⟩
 tabl:= .inl (aR m Pg W Rm Us Hg mp)
 lt:=fun L S w ⟨M,h1,_⟩=>h1.lt
 load:=fun L S w a ⟨M,h1,h2⟩ ha=>(dH h1 a ha.1 ha.2).mono (fun e w' ⟨h3,h4⟩=>⟨by rw [h3,h2 a ha],S,⟨M,h1.keep h4,h2⟩,h4.mono (fun _ h=>h.elim),fun k hk=> .inl hk⟩)
theorem jB (m Pg W Rm Us Hg:Nat) (mp:Nat→Bool):ka 112 (.pointer (some ⟨m,0,none⟩)) 224 (.pointer (some ⟨m,0,none⟩)) (bi m Pg W Rm Us Hg mp) (aX W Pg mp) where
 mstore:=fun w=>by kernel_rfl
 estore:=enters_of Tryz.func224 (by kernel_rfl) rfl
 store:=fun L S w a x ⟨M,h1,h2⟩ ha hx=>(io h1 a x ha.1 ha.2 hx).mono (fun e w' ⟨h3,h4,h5⟩=>⟨h3,S,⟨bG M a x,h4,fun b hb=>by
  unfold bG;split
  ·rfl
  ·exact h2 b hb⟩,h5,fun k hk=> .inl hk⟩)
def eV (l:List Nat):List Value:=l.map fun x:Nat=>Value.int .i64 x
structure aW (w:World) (b g:Nat) (ls:List Nat):Prop where
 blk:ak w b [.slice (some ⟨g,0,none⟩) ls.length ls.length] 193
 row:ak w g (eV ls) 3
 ne:b≠g
 one:1≤ls.length
 small:ls.length≤64
theorem aW.frame {T:Nat→Prop} {w w':World} {b g:Nat} {ls:List Nat} (h:aW w b g ls) (hf:Fr T w w') (h1:¬T b) (h2:¬T g):aW w' b g ls:=⟨h.blk.frame hf h1,h.row.frame hf h2,h.ne,h.one,h.small⟩
theorem aW.get {w:World} {b g:Nat} {ls:List Nat} (h:aW w b g ls) {i a:Nat} (hi:ls[i]? =some a):w.cell? ⟨g,i,none⟩=some (.int .i64 a):=h.row.cell i (by unfold eV;rw [List.getElem?_map,hi];rfl)
theorem it {w:World} {b g:Nat} {ls:List Nat} (h:aW w b g ls) (x k c:Nat) (hx:∀j,j<k→∃i:Nat,i<ls.length∧w.cell? ⟨x,j,none⟩=some (.int .i64 i)) (hk:k≤64):
  Calls Tryz.prog 122 #[b,.slice (some ⟨x,0,none⟩) k c] w fun e w'=>e= .returned (.int .i64 0)∧w=w':=by
 have c0:=h.blk.cell 0 rfl;have HX:=ae hx;have hs:=h.small;clear h hx
 go_enter Tryz.func122,Tryz.ntmps122
 go_wp2
 go_loopw [11] (fun p wr=>∃(i:Nat),p= .int .i64 i∧i≤k∧wr=w) (fun p _=>(k-intOf p).toNat)
 case atStart=>exact ⟨0,rfl,by omega,by first|trivial|rfl⟩
 case round=>
  obtain ⟨i,rfl,h1,rfl⟩:=hrel;by_cases hlt:i<k
  ·have hlti:(i:Int)<(k:Int):=by omega
   obtain ⟨j,hj,ck⟩:=HX.out i hlt;have d1:¬(j:Int)<0:=by omega
   have d2:decide ((ls.length:Int)≤(j:Int))=false:=by rw [decide_eq_false_iff_not];omega
   go_wp2;go_roundw
   case rel=>exact ⟨i+1,by go_num,by omega,by first|trivial|rfl⟩
   case measure=>simp [intOf];omega
  ·have hni:¬(i:Int)<(k:Int):=by omega
   clear h1 hlt;go_wp2;go_ret;exact ⟨rfl,rfl⟩
theorem rJ (k:Nat) (hk:k≤16777216) (X:Int) (hX:X=(k:Int)) (w:World):(Instr.makeSlice 123 (.int .i64 X) (.int .i64 X)).run Tryz.prog w= .ok (.slice (some ⟨w.heap.size,0,none⟩) k k) (w.alloc (.cells (eV (List.replicate k 0)).toArray 3)):=by
 obtain ⟨i0,hi,hz,hs,hb⟩:=info_parts dD;subst hX;have h:=run_makeSlice (P:=Tryz.prog) w 123 3 i0 (.int .i64 0) Tryz.underlying123 hi hz .i64 .i64 (k:Int) (k:Int) (by omega) (Int.le_refl _) (by rw [hs,Int.toNat_natCast];omega) (by rw [hb];omega) (by omega);rw [hs,Int.toNat_natCast,Nat.mul_one,show (Value.int .i64 0).cells= #[.int .i64 0] from rfl,gG] at h;rw [h];have e:(eV (List.replicate k 0)).toArray=Array.replicate k (.int .i64 0):=by unfold eV;rw [List.map_replicate];simp
 rw [e]
theorem nE (n:Nat) (h1:1≤n) (h2:n≤64) (w:World):Calls Tryz.prog 120 #[.int .i64 n] w fun e w'=>∃b g,e= .returned (.tuple #[.pointer (some ⟨b,0,none⟩),.int .i64 0])∧aW w' b g (List.replicate n 0)∧w.heap.size≤b∧w.heap.size≤g∧Fr (fun _=>False) w w':=by
 have hmk:=rJ n (by omega) (n:Int) rfl w;have d1:¬(n:Int)<1:=by omega
 have d2:¬(64:Int)<(n:Int):=by omega
 have HE:Hid (∀W1 W2,W1=w.alloc (.cells (eV (List.replicate n 0)).toArray 3)→W2=W1.alloc (.cells #[.slice (some ⟨w.heap.size,0,none⟩) n n] 193)→aW W2 (w.heap.size+1) w.heap.size (List.replicate n 0)∧w.heap.size≤w.heap.size+1∧w.heap.size≤w.heap.size∧Fr (fun _=>False) w W2):=by
  show∀W1 W2,_
  rintro W1 W2 rfl rfl;have hz:(w.alloc (.cells (eV (List.replicate n 0)).toArray 3)).heap.size=w.heap.size+1:=Array.size_push _;have hb:=ak.new (w.alloc (.cells (eV (List.replicate n 0)).toArray 3)) [.slice (some ⟨w.heap.size,0,none⟩) n n] 193;rw [hz] at hb;refine ⟨⟨by rw [List.length_replicate];exact hb,(ak.new w _ _).alloc _,by omega,by rw [List.length_replicate];exact h1,by rw [List.length_replicate];exact h2⟩,by omega,Nat.le_refl _,((Fr.refl _ w).alloc _).alloc _⟩
 go_enter Tryz.func120,Tryz.ntmps120
 go_wp2;refine bodyPost_ret (results_tmp2 rfl _ _ _) rfl ?_;exact ⟨_,rfl,_,HE.out _ _ rfl rfl⟩
theorem jS {w:World} {b g:Nat} {ls:List Nat} (h:aW w b g ls):Calls Tryz.prog 187 #[b] w fun e w'=>e= .returned (.int .i64 (ls.length:Int))∧w=w':=by
 have c0:=h.blk.cell 0 rfl;clear h
 go_enter Tryz.func187,Tryz.ntmps187
 go_wp2;go_ret;exact ⟨rfl,rfl⟩
theorem nD {w:World} {b g:Nat} {ls:List Nat} (h:aW w b g ls) (i a:Nat) (hi:ls[i]? =some a):Calls Tryz.prog 51 #[b,.int .i64 i] w fun e w'=>e= .returned (.tuple #[.int .i64 a,.int .i64 0])∧Fr (fun _=>False) w w':=by
 have hlt:=(List.getElem?_eq_some_iff.1 hi).1;have HC:Hid (∀W1,W1=w.alloc (.cells #[.int .i64 i] 3)→Fr (fun _=>False) w W1∧W1.cell? ⟨b,0,none⟩=some (.slice (some ⟨g,0,none⟩) ls.length ls.length)∧W1.cell? ⟨g,i,none⟩=some (.int .i64 a)∧Calls Tryz.prog 122 #[b,.slice (some ⟨w.heap.size,0,none⟩) 1 1] W1 fun e w'=>e= .returned (.int .i64 0)∧W1=w'):=by
  show∀W1,_
  rintro W1 rfl;have hf:Fr (fun _=>False) w (w.alloc (.cells #[.int .i64 i] 3)):=(Fr.refl _ w).alloc _;have h':=h.frame hf (fun h=>h) (fun h=>h);refine ⟨hf,h'.blk.cell 0 rfl,h'.get hi,it h' w.heap.size 1 1 (fun j hj=>⟨i,hlt,?_⟩) (by omega)⟩;have:j=0:=by omega
  subst this;exact (ak.new w [.int .i64 i] 3).cell 0 rfl
 have hlti:(i:Int)<(ls.length:Int):=by omega
 clear h hi
 go_enter Tryz.func51,Tryz.ntmps51
 go_wp2_with fail
 obtain ⟨hf,c0,ck,hch⟩:=HC.out _ rfl;generalize w.alloc (.cells #[.int .i64 i] 3)=W1 at*;have HCH:=ae hch;have HF:=ae hf;clear hch hf HC;refine (HCH.out).mono ?_;rintro e w' ⟨rfl,rfl⟩;clear HCH;go_wp2;go_ret2;exact ⟨rfl,HF.out⟩
theorem nF {w:World} {b g:Nat} {ls:List Nat} (h:aW w b g ls) (i a:Nat) (hlt:i<ls.length):Calls Tryz.prog 56 #[b,.int .i64 i,.int .i64 a] w fun e w'=>e= .returned (.int .i64 0)∧aW w' b g (ls.set i a)∧Fr (fun k=>k=g) w w':=by
 have HC:Hid (∀W1,W1=w.alloc (.cells #[.int .i64 i] 3)→W1.cell? ⟨b,0,none⟩=some (.slice (some ⟨g,0,none⟩) ls.length ls.length)∧W1.cell? ⟨g,i,none⟩=some (.int .i64 ((ls.getD i 0:Nat):Int))∧W1.frozen? ⟨g,i,none⟩=false∧(∀W2,W2=W1.setCell ⟨g,i,none⟩ (.int .i64 a)→aW W2 b g (ls.set i a)∧Fr (fun k=>k=g) w W2)∧Calls Tryz.prog 122 #[b,.slice (some ⟨w.heap.size,0,none⟩) 1 1] W1 fun e w'=>e= .returned (.int .i64 0)∧W1=w'):=by
  show∀W1,_
  rintro W1 rfl;have hf:Fr (fun _=>False) w (w.alloc (.cells #[.int .i64 i] 3)):=(Fr.refl _ w).alloc _;have h':=h.frame hf (fun h=>h) (fun h=>h);refine ⟨h'.blk.cell 0 rfl,h'.get (by rw [List.getElem?_eq_getElem hlt,List.getD_eq_getElem?_getD,List.getElem?_eq_getElem hlt];rfl),h'.row.free i,?_,it h' w.heap.size 1 1 (fun j hj=>⟨i,hlt,?_⟩) (by omega)⟩
  ·rintro W2 rfl;refine ⟨⟨by rw [List.length_set];exact h'.blk.setOther _ _ h'.ne,?_,h'.ne,by rw [List.length_set];exact h'.one,by rw [List.length_set];exact h'.small⟩,(hf.mono (S':=fun k=>k=g) (fun _ h=>h.elim)).setCell ⟨g,i,none⟩ (.inl rfl) _⟩;have:=h'.row.set i (.int .i64 a);unfold eV at*;rw [List.map_set];exact this
  ·have:j=0:=by omega
   subst this;exact (ak.new w [.int .i64 i] 3).cell 0 rfl
 have hlti:(i:Int)<(ls.length:Int):=by omega
 have ha:¬(a:Int)<0:=by omega
 clear h
 go_enter Tryz.func56,Tryz.ntmps56
 go_wp2_with fail
 obtain ⟨c0,ck,fk,hE,hch⟩:=HC.out _ rfl;generalize w.alloc (.cells #[.int .i64 i] 3)=W1 at*;have HCH:=ae hch;have HE:=ae hE;clear hch hE HC;refine (HCH.out).mono ?_;rintro e w' ⟨rfl,rfl⟩;clear HCH;go_wp2;go_ret;exact ⟨rfl,HE.out _ rfl⟩
def s9 (ls:List Nat) (w:World) (e:Ending) (w':World):Prop:=∃g cap,e= .returned (.slice (some ⟨g,0,none⟩) ls.length cap)∧w.heap.size≤g∧g<w'.heap.size∧(∀(i a:Nat),ls[i]? =some a→w'.cell? ⟨g,i,none⟩=some (.int .i64 a))∧Fr (fun _=>False) w w'
theorem gN {w:World} {b g:Nat} {ls:List Nat} (h:aW w b g ls):Calls Tryz.prog 69 #[b] w (s9 ls w):=by
 have c0:=h.blk.cell 0 rfl;have hs:=h.small;have HC:=ae (Tryz.slices_Clone_int g 0 ls.length ls.length (ls.map Int.ofNat) w (by simp) (by omega) (fun j hj=>by
  rw [List.length_map] at hj;rw [Nat.zero_add];have:=h.get (List.getElem?_eq_getElem hj);rw [this,List.getD_eq_getElem?_getD,List.getElem?_map,List.getElem?_eq_getElem hj];rfl))
 have h1:=h.one;have HE:Hid (∀v' w',w'.ownsRow w.heap.size 3 1 v' ls.length (((ls.map Int.ofNat).take ls.length).map (Value.int .i64))→Below w.heap.size w w'→s9 ls w (.returned v') w'):=by
  show∀v' w',_
  intro v' w' ho hb;rcases ho.2 with ⟨_,h0⟩|⟨g',cap,cur,rfl,h2,h3,_⟩
  ·omega
  ·refine ⟨g',cap,rfl,h2,(Array.getElem?_eq_some_iff.1 h3).1,fun i a hi=> ?_,Fr.of_below hb⟩;have hil:=(List.getElem?_eq_some_iff.1 hi).1;rw [ho.cellAt i (by omega),List.getElem?_map,List.getElem?_take,if_pos hil,List.getElem?_map,hi];rfl
 generalize (s9 ls w)=Q at*;clear h h1 hs
 go_enter Tryz.func69,Tryz.ntmps69
 go_wp2_with fail
 refine (HC.out).mono ?_;rintro e w' ⟨v',rfl,ho,_,hb⟩;have HQ:=ae (HE.out v' w' ho hb);clear ho hb HE HC c0;go_wp2;exact HQ.out
end Go.Proofs.YthahbijbpinneaaGreatDoor
