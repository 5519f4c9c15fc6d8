import Derived.Test.YthahbijbpinneaaGreatDoorA0
import Derived.Test.YthahbijbpinneaaGreatDoorA1
import Derived.Test.YthahbijbpinneaaGreatDoorA4
set_option maxRecDepth 100000
set_option maxHeartbeats 8000000
set_option linter.all false
namespace Go.Proofs.YthahbijbpinneaaGreatDoor
open Go.RowKit
section
open Go.RowKit Go.Shelf
theorem rl {lo hi:Nat} {w:World} {p W k Ba:Nat} {E:Nat→Nat} (h:cB lo hi w p W k E Ba) (hb:Ba≤1048576) (b:Nat) (hbt:Ba+cnt (aj E) 0 W≤b):Calls Tryz.prog 271 #[p,.int .i64 b] w fun e w'=>e= .returned (.tuple #[.int .i64 0,.int .i64 11])∧Fr (fun _=>False) w w':=by
 have HT:=ae (ef h hb);rw [show ((Ba+cnt (aj E) 0 W:Nat):Int)=(Ba:Int)+((cnt (aj E) 0 W:Nat):Int) by omega] at HT;obtain ⟨t,o,q1,q2,q3,q4⟩:=h;have c2:=q3.cell 2 rfl;generalize cnt (aj E) 0 W=N at*;have b1:(Ba:Int)≤(b:Int):=by omega
 have b2:(Ba:Int)+(N:Int)≤(b:Int):=by omega
 clear q1 q2 q3 q4 hbt
 go_enter Tryz.func271,Tryz.ntmps271
 go_wp2_with fail
 refine (HT.out).mono ?_;rintro e w1 ⟨rfl,hf1⟩;have HF:=ae hf1;clear hf1;go_wp2;go_ret2;exact ⟨rfl,HF.out⟩
theorem jM {lo hi:Nat} {w:World} {q W k Ba:Nat} {E:Nat→Nat} (h:ca lo hi w q W k E Ba) (hb:Ba≤1048576) (b:Nat) (hbt:Ba+cnt (aj E) 0 W≤b):Calls Tryz.prog 317 #[q,.int .i64 b] w fun e w'=>e= .returned (.tuple #[.int .i64 0,.int .i64 11])∧Fr (fun _=>False) w w':=by
 obtain ⟨p,q1,q2,q3,q4,q5,q6,q7⟩:=h;have c0:=q3.cell 0 rfl;have HF:=ae (rl q4 hb b hbt);clear q1 q2 q3 q4 q5 q6 q7 hbt
 go_enter Tryz.func317,Tryz.ntmps317
 go_wp2_with fail
 refine (HF.out).mono ?_;rintro e w1 ⟨rfl,hf1⟩;have HF1:=ae hf1;clear hf1;go_wp2;go_ret2;exact ⟨rfl,HF1.out⟩
theorem kU {lo hi:Nat} {w:World} {q W k Ba:Nat} {E:Nat→Nat} (h:ca lo hi w q W k E Ba) (hT:bu w) (hb:Ba≤1048576) (b:Nat) (hb1:Ba≤b) (hb2:b<Ba+cnt (aj E) 0 W):Calls Tryz.prog 317 #[q,.int .i64 b] w fun e w'=>e= .returned (.tuple #[.int .i64 (((b-Ba)/k:Nat):Int),.int .i64 0])∧Fr (fun _=>False) w w':=by
 obtain ⟨p,q1,q2,q3,q4,q5,q6,q7⟩:=h;have c0:=q3.cell 0 rfl;obtain ⟨a,ha⟩:=jn hb1 hb2;have hN:=bx (E:=E) q4.off;have HF:=ae (ii q4 hT hb b a ha);have HA:=ae (fun w1 (hf:Fr (fun _=>False) w w1)=>(af ((q3.frame hf (fun h=>h)).drew.cell 0 rfl) (af ((q3.frame hf (fun h=>h)).drew.cell 1 rfl) (kw (q4.keep (hf.drew))))));have hd:(b:Int)-(Ba:Int)=((b-Ba:Nat):Int):=by omega
 obtain ⟨D,hD⟩:∃D,b-Ba=D:=⟨_,rfl⟩;rw [hD] at hd ⊢;have hq:(D:Int).tdiv (k:Int)=((D/k:Nat):Int):=bV D k;have hDk:D/k≤D:=Nat.div_le_self _ _;generalize D/k=B at*;have hkz:¬k=0:=by omega
 have b1:(B:Int)≤1048576:=by omega
 have b2:(b:Int)≤2097152:=by omega
 have b3:(Ba:Int)≤(b:Int):=by omega
 have b4:(D:Int)≤2097152:=by omega
 clear q1 q2 q3 q4 q5 q6 q7 ha hD hb1 hb2 hN hDk hT
 go_enter Tryz.func317,Tryz.ntmps317
 go_wp2_with fail
 refine (HF.out).mono ?_;rintro e w1 ⟨rfl,hf1⟩;have HF1:=ae hf1;obtain ⟨d0,d1,hB⟩:=HA.out w1 hf1;have HB:=ae hB;clear hf1 hB HA c0;go_wp2;refine ar (fun w'=>w'=w1.drew) (by kernel_rfl) (by kernel_rfl) rfl ?_;refine ag (.int .i64 b) rfl (fun w hw=>by go_simp) ?_;simp only [Act.put,aa,ab,ac];refine ag (.pointer (some ⟨q,0,none⟩)) rfl (fun w hw=>by go_simp) ?_;simp only [Act.put,aa,ab,ac];refine ag (.pointer (some ⟨q,0,none⟩)) rfl (fun w hw=>by go_simp) ?_;simp only [Act.put,aa,ab,ac];refine ag (.pointer (some ⟨q,0,none⟩)) rfl (fun w hw=>by go_simp) ?_;simp only [Act.put,aa,ab,ac];refine ag (.pointer (some ⟨p,0,none⟩)) rfl (fun w hw=>by subst hw;go_simp) ?_;simp only [Act.put,aa,ab,ac];refine aA (.int .i64 Ba) 241 #[p] rfl (fun w=>by go_simp) (fun w hw=>by subst hw;exact (HB.out).mono fun e w' h=>⟨h.1,h.2.symm⟩) ?_;simp only [Act.put,aa,ab,ac];refine ag (.int .i64 D) rfl (fun w hw=>by go_simp;rw [IntKind.wrap_i64];omega) ?_;simp only [Act.put,aa,ab,ac];refine ag (.pointer (some ⟨q,0,none⟩)) rfl (fun w hw=>by go_simp) ?_;simp only [Act.put,aa,ab,ac];refine ag (.pointer (some ⟨q,0,none⟩)) rfl (fun w hw=>by go_simp) ?_;simp only [Act.put,aa,ab,ac];refine ag (.pointer (some ⟨q,1,none⟩)) rfl (fun w hw=>by go_simp) ?_;simp only [Act.put,aa,ab,ac];refine ag (.int .i64 k) rfl (fun w hw=>by subst hw;go_simp) ?_;simp only [Act.put,aa,ab,ac];refine ag (.int .i64 B) rfl (fun w hw=>by go_simp;rw [IntKind.wrap_i64];omega) ?_;simp only [Act.put,aa,ab,ac];refine ag (.int .i64 B) rfl (fun w hw=>by go_simp) ?_;simp only [Act.put,aa,ab,ac];refine ag (.int .i64 0) rfl (fun w hw=>by go_simp) ?_;simp only [Act.put,aa,ab,ac];refine wpQuiet_nil ?_;rintro w2 rfl;go_wp2;go_ret2;exact ⟨rfl,HF1.out.drew⟩
theorem jQ {lo hi:Nat} {w:World} {q W k Ba:Nat} {E:Nat→Nat} (h:ca lo hi w q W k E Ba) (hb:Ba≤1048576) (K:Nat) (hK:K<gS (cnt (aj E) 0 W) k):Calls Tryz.prog 196 #[q,.int .i64 K] w fun e w'=>e= .returned (.tuple #[.int .i64 ((Ba+K*k:Nat):Int),.int .i64 ((min (Ba+K*k+k) (Ba+cnt (aj E) 0 W):Nat):Int),.int .i64 0])∧Fr (fun _=>False) w w':=by
 have HBL:=ae (iP h);obtain ⟨p,q1,q2,q3,q4,q5,q6,q7⟩:=h;have hN:=bx (E:=E) q4.off;have hKk:=px q6 hK;have HA:=ae (fun w1 (hf:Fr (fun _=>False) w w1)=>(af ((q3.frame hf (fun h=>h)).drew.cell 0 rfl) (af ((q3.frame hf (fun h=>h)).drew.cell 1 rfl) (kw (q4.keep (hf.drew))))));have HT:=ae (fun w1 (hf:Fr (fun _=>False) w w1)=>ef (q4.keep hf) hb);have HCL:=ae (fun w1 (hf:Fr (fun _=>False) w w1)=>(af ((q3.frame hf (fun h=>h)).cell 0 rfl) ((q3.frame hf (fun h=>h)).cell 1 rfl)));rw [show ((Ba+cnt (aj E) 0 W:Nat):Int)=(Ba:Int)+((cnt (aj E) 0 W:Nat):Int) by omega] at HT;have hK1:K≤K*k:=Nat.le_mul_of_pos_right K (by omega);have hKi:(K:Int)*(k:Int)=((K*k:Nat):Int):=by simp
 have hnb:gS (cnt (aj E) 0 W) k≤cnt (aj E) 0 W+k:=by unfold gS;exact Nat.le_trans (Nat.div_le_self _ _) (by omega)
 generalize cnt (aj E) 0 W=N at*;generalize gS N k=B at*;generalize K*k=M at*;have e1:((Ba+M:Nat):Int)=(Ba:Int)+(M:Int):=by omega
 have e2:((min (Ba+M+k) (Ba+N):Nat):Int)=min ((Ba:Int)+(M:Int)+(k:Int)) ((Ba:Int)+(N:Int)):=by omega
 rw [e1,e2];have b1:(K:Int)<(B:Int):=by omega
 have b2:(M:Int)≤1048576:=by omega
 have b3:(k:Int)≤1024:=by omega
 have b4:(Ba:Int)≤1048576:=by omega
 have b5:(N:Int)≤1048576:=by omega
 have b6:(B:Int)≤2097152:=by omega
 clear q1 q2 q3 q4 q5 q6 q7 e1 e2 hKk hK hK1
 go_enter Tryz.func196,Tryz.ntmps196
 go_wp2_with fail
 refine (HBL.out).mono ?_;rintro e w1 ⟨rfl,hf1⟩;obtain ⟨d0,d1,hB⟩:=HA.out w1 hf1;have HB:=ae hB;have HF1:=ae hf1;clear hf1 hB HBL;go_wp2;refine ar (fun w'=>w'=w1.drew) (by kernel_rfl) (by kernel_rfl) rfl ?_;refine ag (.pointer (some ⟨q,0,none⟩)) rfl (fun w hw=>by go_simp) ?_;simp only [Act.put,aa,ab,ac];refine ag (.pointer (some ⟨q,0,none⟩)) rfl (fun w hw=>by go_simp) ?_;simp only [Act.put,aa,ab,ac];refine ag (.pointer (some ⟨q,0,none⟩)) rfl (fun w hw=>by go_simp) ?_;simp only [Act.put,aa,ab,ac];refine ag (.pointer (some ⟨p,0,none⟩)) rfl (fun w hw=>by subst hw;go_simp) ?_;simp only [Act.put,aa,ab,ac];refine aA (.int .i64 Ba) 241 #[p] rfl (fun w=>by go_simp) (fun w hw=>by subst hw;exact (HB.out).mono fun e w' h=>⟨h.1,h.2.symm⟩) ?_;simp only [Act.put,aa,ab,ac];refine ag (.int .i64 K) rfl (fun w hw=>by go_simp) ?_;simp only [Act.put,aa,ab,ac];refine ag (.pointer (some ⟨q,0,none⟩)) rfl (fun w hw=>by go_simp) ?_;simp only [Act.put,aa,ab,ac];refine ag (.pointer (some ⟨q,0,none⟩)) rfl (fun w hw=>by go_simp) ?_;simp only [Act.put,aa,ab,ac];refine ag (.pointer (some ⟨q,1,none⟩)) rfl (fun w hw=>by go_simp) ?_;simp only [Act.put,aa,ab,ac];refine ag (.int .i64 k) rfl (fun w hw=>by subst hw;go_simp) ?_;simp only [Act.put,aa,ab,ac];refine ag (.int .i64 M) rfl (fun w hw=>by go_simp;rw [IntKind.wrap_i64];omega) ?_;simp only [Act.put,aa,ab,ac];refine ag (.int .i64 ((Ba:Int)+(M:Int))) rfl (fun w hw=>by go_simp;rw [IntKind.wrap_i64];omega) ?_;simp only [Act.put,aa,ab,ac];refine ag (.int .i64 ((Ba:Int)+(M:Int))) rfl (fun w hw=>by go_simp) ?_;simp only [Act.put,aa,ab,ac];refine wpQuiet_nil ?_;rintro w2 rfl;have HC:=ae (fun w' (hf:Fr (fun _=>False) w1.drew.drew w')=>HCL.out w' (HF1.out.drew.drew.trans hf (fun _ h=>h.elim)));have HT2:=ae (fun w' (hf:Fr (fun _=>False) w1.drew.drew w')=>HT.out w' (HF1.out.drew.drew.trans hf (fun _ h=>h.elim)));clear d0 d1 HB HA HCL HT;go_wp2;refine ar (fun w'=>Fr (fun _=>False) w1.drew.drew w') (by kernel_rfl) (by kernel_rfl) (Fr.refl _ _) ?_;refine ag (.int .i64 ((Ba:Int)+(M:Int))) rfl (fun w hw=>by go_simp) ?_;simp only [Act.put,aa,ab,ac];refine ag (.int .i64 ((Ba:Int)+(M:Int))) rfl (fun w hw=>by go_simp) ?_;simp only [Act.put,aa,ab,ac];refine ag (.pointer (some ⟨q,0,none⟩)) rfl (fun w hw=>by go_simp) ?_;simp only [Act.put,aa,ab,ac];refine ag (.pointer (some ⟨q,0,none⟩)) rfl (fun w hw=>by go_simp) ?_;simp only [Act.put,aa,ab,ac];refine ag (.pointer (some ⟨q,1,none⟩)) rfl (fun w hw=>by go_simp) ?_;simp only [Act.put,aa,ab,ac];refine ag (.int .i64 k) rfl (fun w hw=>by have d:=(HC.out _ hw).2;go_simp) ?_;simp only [Act.put,aa,ab,ac];refine ag (.int .i64 ((Ba:Int)+(M:Int)+(k:Int))) rfl (fun w hw=>by go_simp;rw [IntKind.wrap_i64];omega) ?_;simp only [Act.put,aa,ab,ac];refine ag (.pointer (some ⟨q,0,none⟩)) rfl (fun w hw=>by go_simp) ?_;simp only [Act.put,aa,ab,ac];refine ag (.pointer (some ⟨q,0,none⟩)) rfl (fun w hw=>by go_simp) ?_;simp only [Act.put,aa,ab,ac];refine ag (.pointer (some ⟨q,0,none⟩)) rfl (fun w hw=>by go_simp) ?_;simp only [Act.put,aa,ab,ac];refine ag (.pointer (some ⟨p,0,none⟩)) rfl (fun w hw=>by have d:=(HC.out _ hw).1;go_simp) ?_;simp only [Act.put,aa,ab,ac];refine aA (.int .i64 ((Ba:Int)+(N:Int))) 153 #[.pointer (some ⟨p,0,none⟩)] rfl (fun w=>by go_simp) (fun w hw=>(HT2.out w hw).mono fun e w' h=>⟨h.1,hw.trans h.2 (fun _ h=>h.elim)⟩) ?_;simp only [Act.put,aa,ab,ac];refine ag (.int .i64 (min ((Ba:Int)+(M:Int)+(k:Int)) ((Ba:Int)+(N:Int)))) rfl (fun w hw=>by go_simp) ?_;simp only [Act.put,aa,ab,ac];refine ag (.int .i64 ((Ba:Int)+(M:Int))) rfl (fun w hw=>by go_simp) ?_;simp only [Act.put,aa,ab,ac];refine ag (.int .i64 (min ((Ba:Int)+(M:Int)+(k:Int)) ((Ba:Int)+(N:Int)))) rfl (fun w hw=>by go_simp) ?_;simp only [Act.put,aa,ab,ac];refine ag (.int .i64 0) rfl (fun w hw=>by go_simp) ?_;simp only [Act.put,aa,ab,ac];refine wpQuiet_nil ?_;intro w4 hw4;have HW:=ae (HF1.out.drew.drew.trans hw4 (fun _ h=>h.elim));clear hw4;go_wp2
 go_ret3
 exact ⟨rfl,HW.out⟩
end
section
open Go.RowKit Go.Shelf
def j9 (E:Nat→Nat) (Ba W t F n:Nat):Prop:=∀i,i<n→qf E Ba W (t+i) (F+i)
def vB (E:Nat→Nat) (Ba W t u:Nat) (w:World) (e:Ending) (w':World):Prop:=∃F n:Nat,e= .returned (.tuple #[.int .i64 F,.int .i64 n])∧1≤n∧t+n≤u∧j9 E Ba W t F n∧Fr (fun _=>False) w w'
theorem uI {lo hi:Nat} {w:World} {q W k Ba:Nat} {E:Nat→Nat} (h:ca lo hi w q W k E Ba) (hT:bu w) (hb:Ba≤1048576) (t u:Nat) (h1:Ba≤t) (h2:t<u) (h3:u≤Ba+cnt (aj E) 0 W):Calls Tryz.prog 242 #[q,.int .i64 t,.int .i64 u] w (vB E Ba W t u w):=by
 obtain ⟨p,q1,q2,q3,q4,q5,q6,q7⟩:=h;have hN:=bx (E:=E) q4.off;have hW:=q4.off;have HF:=ae (fun w' (hf:Fr (fun _=>False) w w') b a (hba:qf E Ba W b a)=>ii (q4.keep hf) (an hT hf (fun h=>h)) hb b a hba);have HC:=ae (fun w' (hf:Fr (fun _=>False) w w')=>(q3.frame hf (fun h=>h)).cell 0 rfl);obtain ⟨F,hF⟩:=jn h1 (show t<Ba+cnt (aj E) 0 W by omega);have hFW:=hF.1;have HS0:Hid (j9 E Ba W t F 1):=fun i hi=>by
  have h0:i=0:=by omega
  rw [h0];exact hF
 have HF0:=ae (HF.out w (Fr.refl _ w) t F hF);have HEX:=ae (fun b (hb1:Ba≤b) (hb2:b<u)=>jn (E:=E) (W:=W) hb1 (show b<Ba+cnt (aj E) 0 W by omega));have c0:=HC.out w (Fr.refl _ w);have b1:(t:Int)<(u:Int):=by omega
 have b2:(u:Int)≤2097152:=by omega
 have b3:(F:Int)≤1048576:=by omega
 clear q1 q2 q3 q4 q5 q6 q7 hT hF h3 hN
 go_enter Tryz.func242,Tryz.ntmps242
 go_wp2_with fail
 refine (HF0.out).mono ?_;rintro e w1 ⟨rfl,hf1⟩;have HF1:=ae hf1;clear hf1 c0 HF0;go_wp2
 go_loopw [10] (fun p wr=>∃n:Nat,p= .int .i64 n∧1≤n∧t+n≤u∧Hid (j9 E Ba W t F n∧Fr (fun _=>False) w wr)) (fun p _=>(u-intOf p).toNat)
 case atStart=>exact ⟨1,rfl,Nat.le_refl 1,by omega,HS0.out,HF1.out⟩
 case round=>
  obtain ⟨n,rfl,hn1,hn2,hr⟩:=hrel;by_cases hlt:t+n<u
  ·have hlti:(t:Int)+(n:Int)<(u:Int):=by omega
   obtain ⟨a,ha⟩:=HEX.out (t+n) (by omega) hlt;have haW:=ha.1;have HFA:=ae (HF.out wr hr.out.2 (t+n) a ha);rw [show ((t+n:Nat):Int)=(t:Int)+(n:Int) by omega] at HFA;have c0:=HC.out wr hr.out.2;have b4:(a:Int)≤1048576:=by omega
   by_cases he:a=F+n
   ·have HN:Hid (j9 E Ba W t F (n+1)):=fun i hi=>by
     by_cases hin:i=n
     ·subst hin;rw [←he];exact ha
     ·exact hr.out.1 i (by omega)
    have HW:=ae hr.out.2;have hae:(a:Int)=(F:Int)+(n:Int):=by omega
    clear ha hr he;go_wp2_with fail
    refine (HFA.out).mono ?_;rintro e w2 ⟨rfl,hf2⟩;have HW2:=ae (HW.out.trans hf2 (fun _ h=>h.elim));clear hf2 c0 HW;go_wp2;go_roundw
    case rel=>exact ⟨n+1,by go_num,by omega,by omega,HN.out,HW2.out⟩
    case measure=>simp [intOf];omega
   ·have hae:¬(a:Int)=(F:Int)+(n:Int):=by omega
    have HR:=ae hr.out;clear ha hr;go_wp2_with fail
    refine (HFA.out).mono ?_;rintro e w2 ⟨rfl,hf2⟩;have HW2:=ae (HR.out.2.trans hf2 (fun _ h=>h.elim));clear hf2 c0;go_wp2;go_ret2;exact ⟨F,n,rfl,hn1,hn2,HR.out.1,HW2.out⟩
  ·have hlti:¬(t:Int)+(n:Int)<(u:Int):=by omega
   have HR:=ae hr.out;clear hr;go_wp2;go_ret2;exact ⟨F,n,rfl,hn1,hn2,HR.out.1,HR.out.2⟩
end
section
open Go.RowKit Go.Shelf
theorem pa:(Tryz.prog.info? 286).map (fun i=>(i.zero,i.size,i.bytes))=some (some (.agg #[.int .i64 0,.int .i64 0,.int .i64 0]),3,24):=by kernel_rfl
def cT:List (Nat×Nat×Nat)→List Value
 |[]=>[]
 |x::l=> .int .i64 (x.1:Int):: .int .i64 (x.2.1:Int):: .int .i64 (x.2.2:Int)::cT l
theorem py (l:List (Nat×Nat×Nat)) (x:Nat×Nat×Nat):cT (l++[x])=cT l++[.int .i64 (x.1:Int),.int .i64 (x.2.1:Int),.int .i64 (x.2.2:Int)]:=by
 induction l with
 |nil=>rfl
 |cons y l ih=>simp only [List.cons_append,cT,ih]
def gX (E:Nat→Nat) (Ba W:Nat):Nat→List (Nat×Nat×Nat)→Nat→Prop
 |t,[],u=>t=u
 |t,x::l,u=>x.2.1=t∧1≤x.2.2∧j9 E Ba W t x.1 x.2.2∧gX E Ba W (t+x.2.2) l u
theorem gX.app {E:Nat→Nat} {Ba W F n:Nat}:∀{t u:Nat} {l:List (Nat×Nat×Nat)},gX E Ba W t l u→1≤n→j9 E Ba W u F n→gX E Ba W t (l++[(F,u,n)]) (u+n)
 |t,u,[],h,h1,h2=>by obtain rfl:t=u:=h;exact ⟨rfl,h1,h2,rfl⟩
 |t,u,x::l,⟨q1,q2,q3,q4⟩,h1,h2=>⟨q1,q2,q3,q4.app h1 h2⟩
def oc (E:Nat→Nat) (Ba W t u:Nat) (w:World) (e:Ending) (w':World):Prop:=
 ∃v l,e= .returned (.tuple #[v,.int .i64 0])∧w'.ownsRow w.heap.size 286 3 v l.length (cT l)∧gX E Ba W t l u∧Fr (fun _=>False) w w'
theorem rZ {w w1 w2 w3:World} {v v':Value} {l:List (Nat×Nat×Nat)} {x:Nat×Nat×Nat} (hw:Fr (fun _=>False) w w1) (ho:w1.ownsRow w.heap.size 286 3 v l.length (cT l)) (hf:Fr (fun _=>False) w1 w2)
  (ho2:w3.ownsRow w.heap.size 286 3 v' (l.length+1) (cT l++[.int .i64 (x.1:Int),.int .i64 (x.2.1:Int),.int .i64 (x.2.2:Int)])) (hg:w2.grownBy w3 v.ownBlock):
  w3.ownsRow w.heap.size 286 3 v' (l++[x]).length (cT (l++[x]))∧Fr (fun _=>False) w w3:=by
 refine ⟨by rw [py,List.length_append];exact ho2,(hw.trans hf (fun _ h=>h.elim)).trans (Fr.of_grown hg) (fun i hi=> .inr (ho.lt i hi).1)⟩
theorem bm {S:Nat→Prop} {w w':World} {Ba:Nat} {e:TypeId} {size:Nat} {v:Value} {n:Nat} {xs:List Value} (h:w.ownsRow Ba e size v n xs)
  (hf:Fr S w w') (hn:∀k,v.ownBlock=some k→¬S k):w'.ownsRow Ba e size v n xs:=by
 refine ⟨h.1,?_⟩;rcases h.2 with hl|⟨g,cap,cur,rfl,hb,hg,r⟩
 ·exact Or.inl hl
 ·exact Or.inr ⟨g,cap,cur,rfl,hb,hf.heap hg (hn g rfl),r⟩
theorem ny {lo hi:Nat} {w:World} {q W k Ba:Nat} {E:Nat→Nat} (h:ca lo hi w q W k E Ba) (hT:bu w) (hb:Ba≤1048576) (K:Nat) (hK:K<gS (cnt (aj E) 0 W) k):Calls Tryz.prog 197 #[q,.int .i64 K] w (oc E Ba W (Ba+K*k) (min (Ba+K*k+k) (Ba+cnt (aj E) 0 W)) w):=by
 have HR:=ae (jQ h hb K hK);have hN:=bx (E:=E) h.small;have hk1:1≤k:=let ⟨_,_,_,_,_,_,h,_⟩:=h;h
 have hk2:k≤1024:=let ⟨_,_,_,_,_,_,_,h⟩:=h;h
 have hKk:=px hk1 hK;have HRU:=ae (fun w' (hf:Fr (fun _=>False) w w') t (h1:Ba≤t) (h2:t<min (Ba+K*k+k) (Ba+cnt (aj E) 0 W))=>uI (h.keep hf) (an hT hf (fun h=>h)) hb t (min (Ba+K*k+k) (Ba+cnt (aj E) 0 W)) h1 h2 (by omega));obtain ⟨i0,hi,hz0,hz1,hz2⟩:=info_parts pa;obtain ⟨s,hs⟩:∃s,Ba+K*k=s:=⟨_,rfl⟩;obtain ⟨u,hu⟩:∃u,min (Ba+K*k+k) (Ba+cnt (aj E) 0 W)=u:=⟨_,rfl⟩;rw [hs] at HR hu;rw [hs,hu] at HRU;rw [hu] at HR;rw [hs,hu];have hsu:s≤u:=by omega
 have hsb:Ba≤s:=by omega
 have hus:u≤s+1024:=by omega
 have hs2:s≤2097152:=by omega
 clear h hT hK hKk hs hu hN
 go_enter Tryz.func197,Tryz.ntmps197
 go_wp2_with fail
 refine (HR.out).mono ?_;rintro e w1 ⟨rfl,hf1⟩;have HF1:=ae hf1;clear hf1 HR;go_wp2
 go_loopw [6,9] (fun p v wr=>∃(t:Nat) (l:List (Nat×Nat×Nat)),p= .int .i64 t∧s≤t∧t≤u∧l.length≤t-s∧Hid (wr.ownsRow w.heap.size 286 3 v l.length (cT l)∧gX E Ba W s l t∧Fr (fun _=>False) w wr)) (fun p _ _=>(u-intOf p).toNat)
 case atStart=>exact ⟨s,[],rfl,Nat.le_refl s,hsu,by simp,World.ownsRow_nil _ _ _ _,rfl,HF1.out⟩
 case round=>
  clear HF1;obtain ⟨t,l,rfl,h1,h2,h3,hr⟩:=hrel;by_cases hlt:t<u
  ·have hlti:(t:Int)<(u:Int):=by omega
   have HRN:=ae (HRU.out wr hr.out.2.2 t (by omega) hlt);go_wp2_with fail
   refine (HRN.out).mono ?_;rintro e w2 ⟨F,n,rfl,r1,r2,r3,r4⟩;have HN:=ae (af r3 r4);clear r3 r4 HRN;have b1:(t:Int)+(n:Int)≤(u:Int):=by omega
   have b2:(u:Int)≤2098176:=by omega
   go_wp2_with (at_builtin;refine Hid.out ?_)
   unfold Hid;have hfa:Fr (fun _=>False) w2 (w2.alloc (.cells #[.int .i64 F,.int .i64 t,.int .i64 n] 286)):=(Fr.refl _ w2).alloc _;have hnew:ak (w2.alloc (.cells #[.int .i64 F,.int .i64 t,.int .i64 n] 286)) w2.heap.size [.int .i64 F,.int .i64 t,.int .i64 n] 286:=ak.new w2 _ _;have hzz:=(hr.out.2.2.trans HN.out.2 (fun _ h=>h.elim)).size;refine wpList_append_own _ rfl _ _ 282 rfl w.heap.size 286 i0 _ 3 24 Tryz.underlying282 hi hz0 hz1 hz2 rfl (by decide) _ l.length (cT l) rfl (bm (bm hr.out.1 HN.out.2 (fun _ _ h=>h)) hfa (fun _ _ h=>h)) ⟨w2.heap.size,0,none⟩ 1 1 [.int .i64 F,.int .i64 t,.int .i64 n] rfl rfl ?_ ?_ (by unfold maxLen;omega) (by omega) (by simp;omega) ?_
   ·intro j u' hj;have:=hnew.cell j hj;rwa [show ((⟨w2.heap.size,0,none⟩:Addr).add j)=⟨w2.heap.size,j,none⟩ by unfold Addr.add;split<;>simp_all]
   ·intro u' hu';simp only [List.mem_cons,List.not_mem_nil,or_false] at hu';rcases hu' with rfl|rfl|rfl<;>rfl
   ·intro v' w3 ho2 hg _;have HP:=ae (rZ (x:=(F,t,n)) hr.out.2.2 hr.out.1 (HN.out.2.trans hfa (fun _ h=>h.elim)) ho2 hg);have HPC:=ae (gX.app hr.out.2.1 r1 HN.out.1);clear hfa hnew hzz ho2 hg hr HN;go_wp2;go_roundw
    case rel=>exact ⟨t+n,l++[(F,t,n)],by go_num,by omega,by omega,by rw [List.length_append,List.length_singleton];omega,HP.out.1,HPC.out,HP.out.2⟩
    case measure=>simp [intOf];omega
  ·have htu:t=u:=by omega
   subst htu;have HR:=ae hr.out;have hlti:¬(t:Int)<(t:Int):=by omega
   clear hr hlt;go_wp2;go_ret2;exact ⟨_,l,rfl,HR.out.1,HR.out.2.1,HR.out.2.2⟩
end
theorem jK {w:World} {g cap n:Nat} {c xs:List Value} {e:TypeId} (h:ak w g c e) (hc:c.length=cap) (hn:n≤cap) (hm:cap≤maxLen) (ht:c.take n=xs):w.ownsRow 0 e 1 (.slice (some ⟨g,0,none⟩) n cap) n xs:=by
 have hl:xs.length=n:=by rw [←ht,List.length_take];omega
 exact ⟨by simp [hl],.inr ⟨g,cap,c.toArray,rfl,Nat.zero_le _,h,hn,hm,by simp [hc],by simpa using ht⟩⟩
theorem fV {w:World} {g cap n:Nat} {xs:List Value} {e:TypeId} (h:w.ownsRow 0 e 1 (.slice (some ⟨g,0,none⟩) n cap) n xs):∃c,ak w g c e∧c.length=cap∧n≤cap∧cap≤maxLen∧c.take n=xs:=by
 obtain ⟨hl,hh⟩:=h;rcases hh with ⟨h0,_⟩|⟨g',cap',cur,hv,_,hg,hn,hm,hs,ht⟩
 ·cases h0
 ·cases hv
  exact ⟨cur.toList,by unfold ak;simpa using hg,by simpa using hs,hn,hm,by simpa using ht⟩
theorem dI {w:World} {n:Nat} {v:Value} {xs:List Value} {e:TypeId} (h:w.ownsRow 0 e 1 v n xs) (hn:1≤n):∃g cap,v= .slice (some ⟨g,0,none⟩) n cap∧n≤cap∧cap≤9223372036854775807∧g<w.heap.size:=by
 rcases h.2 with ⟨_,h0⟩|⟨g,cap,cur,hv,_,hg,h1,h2,_⟩
 ·omega
 ·exact ⟨g,cap,hv,h1,by unfold maxLen at h2;omega,(Array.getElem?_eq_some_iff.1 hg).1⟩
theorem fZ {w:World} {g cap n j:Nat} {xs:List Value} {e:TypeId} {u:Value} (h:w.ownsRow 0 e 1 (.slice (some ⟨g,0,none⟩) n cap) n xs) (hu:xs[j]? =some u):w.cell? ⟨g,j,none⟩=some u∧w.frozen? ⟨g,j,none⟩=false:=by
 obtain ⟨c,hb,hc,hn,hm,ht⟩:=fV h;refine ⟨hb.cell j ?_,hb.free j⟩;have hj:=(List.getElem?_eq_some_iff.1 hu).1;rw [←ht,List.getElem?_take] at hu;split at hu
 ·exact hu
 ·cases hu
theorem lL {w:World} {g cap n j:Nat} {xs:List Value} {e:TypeId} (u:Value) (h:w.ownsRow 0 e 1 (.slice (some ⟨g,0,none⟩) n cap) n xs) (hj:j<n):(w.setCell ⟨g,j,none⟩ u).ownsRow 0 e 1 (.slice (some ⟨g,0,none⟩) n cap) n (xs.set j u):=by
 obtain ⟨c,hb,hc,hn,hm,ht⟩:=fV h;refine jK (hb.set j u) (by rw [List.length_set];exact hc) hn hm ?_;rw [←ht,List.take_set]
theorem cS {w:World} {v v':Value} {n n' s s':Nat} {xs xs':List Value} {e e':TypeId} {b b':Nat} (h:w.ownsRow b e s v n xs) (h':w.ownsRow b' e' s' v' n' xs') (he:e≠e') {g:Nat} (hg:v.ownBlock=some g):v'.ownBlock≠some g:=by
 intro hg';rcases h.2 with ⟨rfl,_⟩|⟨g1,c1,cur1,rfl,_,hh1,_⟩
 ·cases hg
 ·rcases h'.2 with ⟨rfl,_⟩|⟨g2,c2,cur2,rfl,_,hh2,_⟩
  ·cases hg'
  ·simp only [Value.ownBlock,Option.some.injEq] at hg hg';subst hg;subst hg';rw [hh1] at hh2;simp only [Option.some.injEq,Obj.cells.injEq] at hh2;exact he hh2.2.1
theorem bJ {w:World} {v:Value} {n s b k:Nat} {xs c:List Value} {e t:TypeId} (h:w.ownsRow b e s v n xs) (hb:ak w k c t) (he:e≠t):v.ownBlock≠some k:=by
 intro hg;rcases h.2 with ⟨rfl,_⟩|⟨g1,c1,cur1,rfl,_,hh1,_⟩
 ·cases hg
 ·simp only [Value.ownBlock,Option.some.injEq] at hg;subst hg;unfold ak at hb;rw [hh1] at hb;simp only [Option.some.injEq,Obj.cells.injEq] at hb;exact he hb.2.1
structure aZ (w:World) (p:Nat) (vw vt vb:Value) (ws:List Nat) (tk:List Bool) (bk:List Nat) (Rm Pg Us Hg:Nat) (Tm:Int):Prop where
 blk:ak w p [vw,vt,vb,.int .i64 Rm,.int .i64 Pg,.int .i64 Us,.int .i64 Hg,.int .i64 Tm] 307
 rw:w.ownsRow 0 46 1 vw ws.length (bz ws)
 rt:w.ownsRow 0 4 1 vt tk.length (tk.map Value.bool)
 rb:w.ownsRow 0 3 1 vb bk.length (bk.map fun (f:Nat)=>Value.int .i64 f)
 len:ws.length=tk.length*Pg
 lt:∀x∈ws,x<18446744073709551616
 cnt:Us+bk.length=tk.length
 free:∀f∈bk,tk[f]? =some false
 nd:bk.Nodup
 most:tk.length≤Rm
 room1:Rm≤4096
 page1:1≤Pg
 page2:Pg≤256
 high1:Hg≤Rm
def bn (p:Nat) (vw vt vb:Value) (k:Nat):Prop:=k=p∨vw.ownBlock=some k∨vt.ownBlock=some k∨vb.ownBlock=some k
theorem aZ.frame {S:Nat→Prop} {w w':World} {p Rm Pg Us Hg:Nat} {Tm:Int} {vw vt vb:Value} {ws:List Nat} {tk:List Bool} {bk:List Nat} (h:aZ w p vw vt vb ws tk bk Rm Pg Us Hg Tm) (hf:Fr S w w') (hn:∀k,bn p vw vt vb k→¬S k):aZ w' p vw vt vb ws tk bk Rm Pg Us Hg Tm:=
 ⟨h.blk.frame hf (hn _ (.inl rfl)),ao h.rw hf (fun k hk=>hn k (.inr (.inl hk))),ao h.rt hf (fun k hk=>hn k (.inr (.inr (.inl hk)))),ao h.rb hf (fun k hk=>hn k (.inr (.inr (.inr hk)))),h.len,h.lt,h.cnt,h.free,h.nd,h.most,h.room1,h.page1,h.page2,h.high1⟩
section
variable {w:World} {p Rm Pg Us Hg:Nat} {Tm:Int} {vw vt vb:Value} {ws:List Nat} {tk:List Bool} {bk:List Nat}
theorem ij (h:aZ w p vw vt vb ws tk bk Rm Pg Us Hg Tm):Calls Tryz.prog 210 #[p] w fun e w'=>e= .returned (.int .i64 Pg)∧w=w':=by
 have c:=h.blk.cell 4 rfl;clear h
 go_enter Tryz.func210,Tryz.ntmps210
 go_wp2;go_ret;exact ⟨rfl,rfl⟩
theorem rx (h:aZ w p vw vt vb ws tk bk Rm Pg Us Hg Tm):Calls Tryz.prog 236 #[p] w fun e w'=>e= .returned (.int .i64 Rm)∧w=w':=by
 have c:=h.blk.cell 3 rfl;clear h
 go_enter Tryz.func236,Tryz.ntmps236
 go_wp2;go_ret;exact ⟨rfl,rfl⟩
theorem rz (h:aZ w p vw vt vb ws tk bk Rm Pg Us Hg Tm):Calls Tryz.prog 159 #[p] w fun e w'=>e= .returned (.int .i64 Us)∧w=w':=by
 have c:=h.blk.cell 5 rfl;clear h
 go_enter Tryz.func159,Tryz.ntmps159
 go_wp2;go_ret;exact ⟨rfl,rfl⟩
theorem rn (h:aZ w p vw vt vb ws tk bk Rm Pg Us Hg Tm):Calls Tryz.prog 160 #[p] w fun e w'=>e= .returned (.int .i64 Hg)∧w=w':=by
 have c:=h.blk.cell 6 rfl;clear h
 go_enter Tryz.func160,Tryz.ntmps160
 go_wp2;go_ret;exact ⟨rfl,rfl⟩
theorem ky (h:aZ w p vw vt vb ws tk bk Rm Pg Us Hg Tm) (f:Nat) (hf:tk[f]? =some true):Calls Tryz.prog 256 #[p,.int .i64 f] w fun e w'=>e= .returned (.int .i64 0)∧w=w':=by
 have hfl:=(List.getElem?_eq_some_iff.1 hf).1;obtain ⟨g,cap,rfl,_⟩:=dI h.rt (by omega);have c1:=h.blk.cell 1 rfl;have c2:=(fZ (j:=f) h.rt (by rw [List.getElem?_map,hf];rfl)).1;generalize tk.length=n at*;have b1:(f:Int)<(n:Int):=by omega
 clear h hf
 go_enter Tryz.func256,Tryz.ntmps256
 go_wp2;go_ret;exact ⟨rfl,rfl⟩
theorem dd {f n Pg:Nat} (hf:f<n):f*Pg+Pg≤n*Pg:=by
 have:=Nat.mul_le_mul_right Pg hf;rw [Nat.succ_mul] at this;exact this
theorem jr {g n cap:Nat} (c0:w.cell? ⟨p,0,none⟩=some (.slice (some ⟨g,0,none⟩) n cap)) (c4:w.cell? ⟨p,4,none⟩=some (.int .i64 Pg)) (hp1:1≤Pg) (f:Nat) (hfr:f*Pg+Pg≤n) (hc:n≤cap) (hc2:cap≤9223372036854775807):Calls Tryz.prog 280 #[p,.int .i64 f] w fun e w'=>e= .returned (.slice (some ⟨g,f*Pg,none⟩) Pg Pg)∧w=w':=by
 have hfi:(f:Int)*(Pg:Int)=((f*Pg:Nat):Int):=by simp
 generalize f*Pg=F at*;have b1:(F:Int)+(Pg:Int)≤(n:Int):=by omega
 have b2:(n:Int)≤(cap:Int):=by omega
 have b3:(cap:Int)≤9223372036854775807:=by omega
 have b4:(1:Int)≤(Pg:Int):=by omega
 have b5:(0:Int)≤(F:Int):=by omega
 go_enter Tryz.func280,Tryz.ntmps280
 go_wp2;go_ret;exact ⟨by simp,rfl⟩
theorem oB (h:aZ w p vw vt vb ws tk bk Rm Pg Us Hg Tm) (f:Nat) (hf:f<tk.length):Calls Tryz.prog 280 #[p,.int .i64 f] w fun e w'=>(∃g cap,vw= .slice (some ⟨g,0,none⟩) ws.length cap∧e= .returned (.slice (some ⟨g,f*Pg,none⟩) Pg Pg))∧w=w':=by
 have hfr:=dd (Pg:=Pg) hf;have hlen:=h.len;have hp1:=h.page1;obtain ⟨g,cap,rfl,hc,hc2,_⟩:=dI h.rw (by omega);refine (jr (h.blk.cell 0 rfl) (h.blk.cell 4 rfl) hp1 f (by omega) hc hc2).mono ?_;rintro e w' ⟨rfl,rfl⟩;exact ⟨⟨g,cap,rfl,rfl⟩,rfl⟩
end
theorem kF:(Tryz.prog.info? 4).map (fun i=>(i.zero,i.size,i.bytes))=some (some (.bool false),1,1):=by kernel_rfl
section
variable {w:World} {p Rm Pg Us Hg:Nat} {Tm:Int} {vw vt vb:Value} {ws:List Nat} {tk:List Bool} {bk:List Nat}
theorem ja {f n Pg i l:Nat} (hf:f<n) (hi:i<Pg) (hl:l=n*Pg):f*Pg+i<l:=by
 have:=dd (Pg:=Pg) hf;omega
theorem aZ.word (h:aZ w p vw vt vb ws tk bk Rm Pg Us Hg Tm) {f i:Nat} (hf:tk[f]? =some true) (hi:i<Pg):∃g cap x,vw= .slice (some ⟨g,0,none⟩) ws.length cap∧ws[f*Pg+i]? =some x∧x<18446744073709551616∧w.cell? ⟨g,f*Pg+i,none⟩=some (.int .u64 x)∧w.frozen? ⟨g,f*Pg+i,none⟩=false:=by
 have hfl:=(List.getElem?_eq_some_iff.1 hf).1;have hlt:=ja hfl hi h.len;obtain ⟨x,hx⟩:∃x,ws[f*Pg+i]? =some x:=⟨_,List.getElem?_eq_getElem hlt⟩;obtain ⟨g,cap,hv,_⟩:=dI h.rw (by omega);have hr:=h.rw;rw [hv] at hr;have:=fZ hr (j:=f*Pg+i) (u:= .int .u64 x) (by unfold bz;rw [List.getElem?_map,hx];rfl);exact ⟨g,cap,x,hv,hx,h.lt x (List.mem_of_getElem? hx),this.1,this.2⟩
theorem mI (h:aZ w p vw vt vb ws tk bk Rm Pg Us Hg Tm) (f i:Nat) (hf:tk[f]? =some true) (hi:i<Pg):Calls Tryz.prog 286 #[p,.int .i64 f,.int .i64 i] w fun e w'=>(∃g cap,vw= .slice (some ⟨g,0,none⟩) ws.length cap∧e= .returned (.tuple #[.pointer (some ⟨g,f*Pg+i,none⟩),.int .i64 0]))∧w=w':=by
 have HC:=ae (ky h f hf);have HFR:=ae (oB h f (List.getElem?_eq_some_iff.1 hf).1);have c4:=h.blk.cell 4 rfl;have b1:(i:Int)<(Pg:Int):=by omega
 clear h hf
 go_enter Tryz.func286,Tryz.ntmps286
 go_wp2_with fail
 refine (HC.out).mono ?_;rintro e w' ⟨rfl,rfl⟩;go_wp2_with fail
 refine (HFR.out).mono ?_;rintro e w' ⟨⟨g,cap,hv,rfl⟩,rfl⟩;have HV:=ae hv;clear hv;go_wp2;go_ret2;exact ⟨⟨g,cap,HV.out,rfl⟩,rfl⟩
theorem tH (h:aZ w p vw vt vb ws tk bk Rm Pg Us Hg Tm) (f i:Nat) (hf:tk[f]? =some true) (hi:i<Pg):Calls Tryz.prog 264 #[p,.int .i64 f,.int .i64 i] w fun e w'=>e= .returned (.tuple #[.int .u64 ((ws.getD (f*Pg+i) 0:Nat):Int),.int .i64 0])∧w=w':=by
 have HWD:=ae (mI h f i hf hi);obtain ⟨g,cap,x,rfl,hx,_,hc,_⟩:=h.word hf hi;have hxx:ws.getD (f*Pg+i) 0=x:=by rw [List.getD_eq_getElem?_getD,hx];rfl
 rw [hxx];clear h hf hx hxx
 go_enter Tryz.func264,Tryz.ntmps264
 go_wp2_with fail
 refine (HWD.out).mono ?_;rintro e w' ⟨⟨g',cap',hv,rfl⟩,rfl⟩
 cases hv
 go_wp2;go_ret2;exact ⟨rfl,rfl⟩
theorem aZ.stored (h:aZ w p vw vt vb ws tk bk Rm Pg Us Hg Tm) {f i g cap x:Nat} (hf:tk[f]? =some true) (hi:i<Pg) (hv:vw= .slice (some ⟨g,0,none⟩) ws.length cap) (hx:x<18446744073709551616):
  aZ (w.setCell ⟨g,f*Pg+i,none⟩ (.int .u64 x)) p vw vt vb (ws.set (f*Pg+i) x) tk bk Rm Pg Us Hg Tm∧Fr (fun k=>vw.ownBlock=some k) w (w.setCell ⟨g,f*Pg+i,none⟩ (.int .u64 x)):=by
 have hfl:=(List.getElem?_eq_some_iff.1 hf).1;have hlt:=ja hfl hi h.len;have hg:vw.ownBlock=some g:=by rw [hv];rfl
 have hfs:Fr (fun k=>k=g) w (w.setCell ⟨g,f*Pg+i,none⟩ (.int .u64 x)):=(Fr.refl (fun k=>k=g) w).setCell ⟨g,f*Pg+i,none⟩ (.inl rfl) _;have hr:=h.rw;rw [hv] at hr;have hset:=lL (.int .u64 x) hr hlt;have n1:=cS h.rw h.rt (by decide) hg;have n2:=cS h.rw h.rb (by decide) hg;have n3:=bJ h.rw h.blk (by decide);refine ⟨⟨h.blk.frame hfs (fun e=>n3 (by rw [hg,e])),?_,ao h.rt hfs (fun k hk e=>n1 (by rw [hk,e])),ao h.rb hfs (fun k hk e=>n2 (by rw [hk,e])),by rw [List.length_set];exact h.len,?_,h.cnt,h.free,h.nd,h.most,h.room1,h.page1,h.page2,h.high1⟩,hfs.mono (fun k hk=> .inl (by rw [hk];exact hg))⟩
 ·rw [hv,List.length_set];unfold bz at hset ⊢;rw [List.map_set];exact hset
 ·intro y hy;rcases List.mem_or_eq_of_mem_set hy with h2|h2
  ·exact h.lt y h2
  ·rw [h2];exact hx
theorem ry (h:aZ w p vw vt vb ws tk bk Rm Pg Us Hg Tm) (f i x:Nat) (hf:tk[f]? =some true) (hi:i<Pg) (hx:x<18446744073709551616):Calls Tryz.prog 265 #[p,.int .i64 f,.int .i64 i,.int .u64 x] w fun e w'=>e= .returned (.int .i64 0)∧aZ w' p vw vt vb (ws.set (f*Pg+i) x) tk bk Rm Pg Us Hg Tm∧Fr (fun k=>vw.ownBlock=some k) w w':=by
 have HWD:=ae (mI h f i hf hi);obtain ⟨g,cap,y,hv,hy,_,hc,hz⟩:=h.word hf hi;have HST:=ae (h.stored hf hi hv hx);clear h hf hy hx
 go_enter Tryz.func265,Tryz.ntmps265
 go_wp2_with fail
 refine (HWD.out).mono ?_;rintro e w' ⟨⟨g',cap',hv',rfl⟩,rfl⟩;rw [hv] at hv'
 cases hv'
 have HV:=ae hv;clear hv;go_wp2;go_ret;exact ⟨rfl,HST.out.1,HST.out.2⟩
end
section
variable {w:World} {p Rm Pg Us Hg:Nat} {Tm:Int} {vw vt vb:Value} {ws:List Nat} {tk:List Bool} {bk:List Nat}
theorem aZ.give1 (h:aZ w p vw vt vb ws tk bk Rm Pg Us Hg Tm) {f g cap:Nat} (hf:f<tk.length) (hv:vt= .slice (some ⟨g,0,none⟩) tk.length cap) (b:Bool):
  ak (w.setCell ⟨g,f,none⟩ (.bool b)) p [vw,vt,vb,.int .i64 Rm,.int .i64 Pg,.int .i64 Us,.int .i64 Hg,.int .i64 Tm] 307∧
  (w.setCell ⟨g,f,none⟩ (.bool b)).ownsRow 0 46 1 vw ws.length (bz ws)∧(w.setCell ⟨g,f,none⟩ (.bool b)).ownsRow 0 4 1 vt (tk.set f b).length ((tk.set f b).map Value.bool)∧
  (w.setCell ⟨g,f,none⟩ (.bool b)).ownsRow 0 3 1 vb bk.length (bk.map fun (f:Nat)=>Value.int .i64 f)∧Fr (fun k=>vt.ownBlock=some k) w (w.setCell ⟨g,f,none⟩ (.bool b)):=by
 have hg:vt.ownBlock=some g:=by rw [hv];rfl
 have hfs:Fr (fun k=>k=g) w (w.setCell ⟨g,f,none⟩ (.bool b)):=(Fr.refl (fun k=>k=g) w).setCell ⟨g,f,none⟩ (.inl rfl) _;have hr:=h.rt;rw [hv] at hr;have hset:=lL (.bool b) hr hf;have n1:=cS h.rt h.rw (by decide) hg;have n2:=cS h.rt h.rb (by decide) hg;have n3:=bJ h.rt h.blk (by decide);refine ⟨h.blk.frame hfs (fun e=>n3 (by rw [hg,e])),ao h.rw hfs (fun k hk e=>n1 (by rw [hk,e])),?_,ao h.rb hfs (fun k hk e=>n2 (by rw [hk,e])),hfs.mono (fun k hk=> .inl (by rw [hk];exact hg))⟩;rw [List.length_set,List.map_set,hv];exact hset
def sQ (w:World) (p:Nat) (vw vt vb:Value) (ws:List Nat) (tk:List Bool) (bk:List Nat) (Rm Pg Us Hg:Nat) (Tm:Int) (f:Nat) (e:Ending) (w':World):Prop:=
 e= .returned (.int .i64 0)∧∃vb',aZ w' p vw vt vb' ws (tk.set f false) (bk++[f]) Rm Pg (Us-1) Hg Tm∧Fr (bn p vw vt vb) w w'∧∀g,vb'.ownBlock=some g→vb.ownBlock=some g∨w.heap.size≤g
theorem tJ {tk:List Bool} {f g:Nat} (h:tk[g]? =some false):(tk.set f false)[g]? =some false:=by
 rw [List.getElem?_set];by_cases e:f=g
 ·subst e;rw [if_pos rfl,if_pos (List.getElem?_eq_some_iff.1 h).1]
 ·rw [if_neg e];exact h
theorem aZ.give2 {w1 w2 w3 W:World} {f g cap:Nat} (h:aZ w p vw vt vb ws tk bk Rm Pg Us Hg Tm) (hf:tk[f]? =some true) (hu:1≤Us)
  (hb:ak w1 p [vw,vt,vb,.int .i64 Rm,.int .i64 Pg,.int .i64 Us,.int .i64 Hg,.int .i64 Tm] 307)
  (hw:w1.ownsRow 0 46 1 vw ws.length (bz ws)) (ht:w1.ownsRow 0 4 1 vt (tk.set f false).length ((tk.set f false).map Value.bool)) (hr:w1.ownsRow 0 3 1 vb bk.length (bk.map fun (f:Nat)=>Value.int .i64 f)) (h1:Fr (fun k=>vt.ownBlock=some k) w w1)
  (h2:Fr (fun _=>False) w1 w2) (ho:w3.ownsRow 0 3 1 (.slice (some ⟨g,0,none⟩) (bk.length+1) cap) (bk.length+1) ((bk.map fun (f:Nat)=>Value.int .i64 f)++[.int .i64 f])) (h3:Fr (fun k=>vb.ownBlock=some k) w2 w3) (hg:vb.ownBlock=some g∨w2.heap.size≤g):
  ak w3 p [vw,vt,vb,.int .i64 Rm,.int .i64 Pg,.int .i64 Us,.int .i64 Hg,.int .i64 Tm] 307∧
  ∀W,W=(w3.setCell ⟨p,2,none⟩ (.slice (some ⟨g,0,none⟩) (bk.length+1) cap)).setCell ⟨p,5,none⟩ (.int .i64 ((Us:Int)-1))→
   aZ W p vw vt (.slice (some ⟨g,0,none⟩) (bk.length+1) cap) ws (tk.set f false) (bk++[f]) Rm Pg (Us-1) Hg Tm∧Fr (bn p vw vt vb) w W∧∀g',(Value.slice (some ⟨g,0,none⟩) (bk.length+1) cap).ownBlock=some g'→vb.ownBlock=some g'∨w.heap.size≤g':=by
 have hfl:=(List.getElem?_eq_some_iff.1 hf).1;have nb:=bJ hr hb (by decide);have nw:∀k,vw.ownBlock=some k→vb.ownBlock≠some k:=fun k hk=>cS hw hr (by decide) hk
 have nt:∀k,vt.ownBlock=some k→vb.ownBlock≠some k:=fun k hk=>cS ht hr (by decide) hk
 have hb3:=(hb.frame h2 (fun h=>h)).frame h3 nb;refine ⟨hb3,?_⟩;rintro W rfl;have hz1:=h1.size;have hz2:=h2.size;have hpl:=hb.lt;have hgp:g≠p:=fun e=>by
  rcases hg with hg|hg
  ·exact nb (by rw [hg,e])
  ·omega
 have hfs:Fr (fun k=>k=p) w3 ((w3.setCell ⟨p,2,none⟩ (.slice (some ⟨g,0,none⟩) (bk.length+1) cap)).setCell ⟨p,5,none⟩ (.int .i64 ((Us:Int)-1))):=((Fr.refl (fun k=>k=p) w3).setCell ⟨p,2,none⟩ (.inl rfl) _).setCell ⟨p,5,none⟩ (.inl rfl) _;have mw:=bJ hw hb (by decide);have mt:=bJ ht hb (by decide);have hu':((Us-1:Nat):Int)=(Us:Int)-1:=by omega
 refine ⟨⟨?_,?_,?_,?_,by rw [List.length_set];exact h.len,h.lt,?_,?_,?_,by rw [List.length_set];exact h.most,h.room1,h.page1,h.page2,h.high1⟩,?_,?_⟩
 ·rw [hu'];exact (hb3.set 2 _).set 5 _
 ·exact ao (ao (ao hw h2 (fun _ _ h=>h)) h3 nw) hfs (fun k hk e=>mw (by rw [hk,e]))
 ·exact ao (ao (ao ht h2 (fun _ _ h=>h)) h3 nt) hfs (fun k hk e=>mt (by rw [hk,e]))
 ·have:=ao ho hfs (fun k hk e=>hgp (by simp only [Value.ownBlock,Option.some.injEq] at hk;omega));rw [List.length_append,List.length_singleton,List.map_append];exact this
 ·have:=h.cnt;rw [List.length_append,List.length_singleton,List.length_set];omega
 ·intro k hk;rcases List.mem_append.1 hk with hk|hk
  ·exact tJ (h.free k hk)
  ·rw [List.mem_singleton] at hk;rw [hk,List.getElem?_set,if_pos rfl,if_pos hfl]
 ·rw [List.nodup_append];refine ⟨h.nd,by simp,?_⟩;intro a ha b hb e;rw [List.mem_singleton] at hb;subst hb;subst e;have:=h.free a ha;rw [hf] at this;cases this
 ·exact (((h1.mono (S':=bn p vw vt vb) (fun k hk=> .inl (.inr (.inr (.inl hk))))).trans h2 (fun _ h=>h.elim)).trans h3 (fun k hk=> .inl (.inr (.inr (.inr hk))))).trans hfs (fun k hk=> .inl (.inl hk))
 ·intro g' hg';simp only [Value.ownBlock,Option.some.injEq] at hg';subst hg';rcases hg with hg|hg
  ·exact .inl hg
  ·exact .inr (by omega)
theorem tE (h:aZ w p vw vt vb ws tk bk Rm Pg Us Hg Tm) (f:Nat) (hf:tk[f]? =some true) (hu:1≤Us):Calls Tryz.prog 214 #[p,.int .i64 f] w (sQ w p vw vt vb ws tk bk Rm Pg Us Hg Tm f):=by
 have HC:=ae (ky h f hf);have hfl:=(List.getElem?_eq_some_iff.1 hf).1;obtain ⟨g,cap,hv,_⟩:=dI h.rt (by omega);obtain ⟨i0,hi,hz0,hz1,hz2⟩:=info_parts dD;have c1:=h.blk.cell 1 rfl;have hr:=h.rt;rw [hv] at hr c1;have c2:=(fZ (j:=f) hr (by rw [List.getElem?_map,hf];rfl)).1;have c3:=(fZ (j:=f) hr (by rw [List.getElem?_map,hf];rfl)).2;have H1:=ae (h.give1 hfl hv false);have HG:=ae (fun w1 w2 w3 g cap hb hw ht hr h1 h2 ho h3 hg=>aZ.give2 (w1:=w1) (w2:=w2) (w3:=w3) (W:=w3) (g:=g) (cap:=cap) h hf hu hb hw ht hr h1 h2 ho h3 hg);have hc:=h.cnt;have hm:=h.most;have hrm:=h.room1;have hbl:bk.length≤4096:=by omega
 generalize hn:tk.length=n at*;have b1:(f:Int)<(n:Int):=by omega
 have b2:(1:Int)≤(Us:Int):=by omega
 have b3:(Us:Int)≤4096:=by omega
 have HV:=ae hv;clear h hf hr hc hm hrm hfl hv hn
 go_enter Tryz.func214,Tryz.ntmps214
 go_wp2_with fail
 refine (HC.out).mono ?_;rintro e w' ⟨rfl,rfl⟩
 go_upto_region 5 with fail
 obtain ⟨w1,hw1⟩:∃w1,w.setCell ⟨g,f,none⟩ (.bool false)=w1:=⟨_,rfl⟩;rw [hw1] at H1 ⊢;obtain ⟨a1,a2,a3,a4,a5⟩:=H1.out;have c5:=a1.cell 2 rfl;have hz:=a5.size;have HA:=ae (af a1 (af a2 (af a3 (af a4 a5))));clear a1 a2 a3 a5 H1 hw1 c1 c2 c3 HC;go_wp2_with (at_builtin;refine Hid.out ?_)
 unfold Hid;have hfa:Fr (fun _=>False) w1 (w1.alloc (.cells #[.int .i64 f] 3)):=(Fr.refl _ w1).alloc _;refine bI rfl _ _ 123 rfl 3 i0 (.int .i64 0) 8 Tryz.underlying123 hi hz0 hz1 hz2 rfl vb bk.length _ rfl (ao a4 hfa (fun _ _ h=>h)) ⟨w1.heap.size,0,none⟩ _ (.int .i64 f) rfl ((ak.new w1 [.int .i64 f] 3).cell 0 rfl) rfl (by unfold maxLen;omega) (by omega) ?_;intro g2 cap2 w3 ho hf3 hg3;obtain ⟨q1,q2⟩:=HG.out w1 _ w3 g2 cap2 HA.out.1 HA.out.2.1 HA.out.2.2.1 HA.out.2.2.2.1 HA.out.2.2.2.2 hfa ho hf3 hg3;have d2:=q1.cell 2 rfl;have e2:=q1.free 2;have d5:=(q1.set 2 (.slice (some ⟨g2,0,none⟩) (bk.length+1) cap2)).cell 5 rfl;have e5:=(q1.set 2 (.slice (some ⟨g2,0,none⟩) (bk.length+1) cap2)).free 5;have HQ:=ae q2;clear hfa ho hf3 hg3 a4 q1 q2 c5;go_wp2;go_ret;exact ⟨rfl,_,HQ.out _ rfl⟩
end
section
variable {w:World} {p Rm Pg Us Hg:Nat} {Tm:Int} {vw vt vb:Value} {ws:List Nat} {tk:List Bool} {bk:List Nat}
structure iS (w w':World) (p:Nat) (vw vt vb:Value) (ws:List Nat) (tk:List Bool) (Rm Pg Us Hg:Nat) (Tm:Int) (f:Nat) (vw' vt' vb':Value) (ws':List Nat) (tk':List Bool) (bk':List Nat):Prop where
 blk:ak w' p [vw',vt',vb',.int .i64 Rm,.int .i64 Pg,.int .i64 Us,.int .i64 Hg,.int .i64 Tm] 307
 rw:w'.ownsRow 0 46 1 vw' ws'.length (bz ws')
 rt:w'.ownsRow 0 4 1 vt' tk'.length (tk'.map Value.bool)
 rb:w'.ownsRow 0 3 1 vb' bk'.length (bk'.map fun (f:Nat)=>Value.int .i64 f)
 len:ws'.length=tk'.length*Pg
 lt:∀x∈ws',x<18446744073709551616
 cnt:Us+1+bk'.length=tk'.length
 free:∀g∈bk',tk'[g]? =some false
 nd:bk'.Nodup
 most:tk'.length≤Rm
 new:f∉bk'
 none:tk'[f]? =some false
 old:∀g,tk[g]? =some true→tk'[g]? =some true∧g≠f∧∀i,i<Pg→ws'.getD (g*Pg+i) 0=ws.getD (g*Pg+i) 0
 was:tk[f]? ≠some true
 fr:Fr (bn p vw vt vb) w w'
 own:∀g,bn p vw' vt' vb' g→bn p vw vt vb g∨w.heap.size≤g
def gV (w:World) (p:Nat) (vw vt vb:Value) (ws:List Nat) (tk:List Bool) (Rm Pg Us Hg:Nat) (Tm:Int) (e:Ending) (w':World):Prop:=
 ∃f vw' vt' vb' ws' tk' bk',e= .returned (.int .i64 ((f:Nat):Int))∧iS w w' p vw vt vb ws tk Rm Pg Us Hg Tm f vw' vt' vb' ws' tk' bk'
theorem oJ {w1:World} {f g cap:Nat} {bk0:List Nat} (h:aZ w p vw vt (.slice (some ⟨g,0,none⟩) (bk0.length+1) cap) ws tk (bk0++[f]) Rm Pg Us Hg Tm) (hw:w1=w.setCell ⟨p,2,none⟩ (.slice (some ⟨g,0,none⟩) bk0.length cap)):
  iS w w1 p vw vt (.slice (some ⟨g,0,none⟩) (bk0.length+1) cap) ws tk Rm Pg Us Hg Tm f vw vt (.slice (some ⟨g,0,none⟩) bk0.length cap) ws tk bk0:=by
 have hfs:Fr (fun k=>k=p) w w1:=by rw [hw];exact (Fr.refl (fun k=>k=p) w).setCell ⟨p,2,none⟩ (.inl rfl) _
 have nw:=bJ h.rw h.blk (by decide);have nt:=bJ h.rt h.blk (by decide);have nb:=bJ h.rb h.blk (by decide);have hnd:=h.nd;rw [List.nodup_append] at hnd;have hr:=h.rb;rw [List.length_append,List.length_singleton,List.map_append,List.map_singleton] at hr;have hff:=h.free f (by simp);refine ⟨by rw [hw];exact h.blk.set 2 _,ao h.rw hfs (fun k hk e=>nw (by rw [hk,e])),ao h.rt hfs (fun k hk e=>nt (by rw [hk,e])),ao (eE hr).1 hfs (fun k hk e=>nb (by simp only [Value.ownBlock,Option.some.injEq] at hk ⊢;omega)),h.len,h.lt,?_,fun g' hg'=>h.free g' (by simp [hg']),hnd.1,h.most,?_,hff,?_,by rw [hff];simp,hfs.mono (fun k hk=> .inl (.inl hk)),?_⟩
 ·have:=h.cnt;rw [List.length_append,List.length_singleton] at this;omega
 ·intro hf;exact hnd.2.2 f hf f (by simp) rfl
 ·exact fun g' hg'=>⟨hg',fun e=>by (rw [e,hff] at hg';cases hg'),fun _ _=>rfl⟩
 ·rintro k (h|h|h|h)
  ·exact .inl (.inl h)
  ·exact .inl (.inr (.inl h))
  ·exact .inl (.inr (.inr (.inl h)))
  ·exact .inl (.inr (.inr (.inr h)))
theorem mG (h:aZ w p vw vt vb ws tk bk Rm Pg Us Hg Tm) (hb:bk≠[]):Calls Tryz.prog 279 #[p] w (gV w p vw vt vb ws tk Rm Pg Us Hg Tm):=by
 obtain ⟨bk0,f,rfl⟩:∃l x,bk=l++[x]:=⟨_,_,(List.dropLast_concat_getLast hb).symm⟩;have hl:(bk0++[f]).length=bk0.length+1:=by simp
 have hr:=h.rb;rw [hl] at hr;obtain ⟨g,cap,rfl,hc1,hc2,_⟩:=dI hr (by omega);rw [List.map_append,List.map_singleton] at hr;have c2:=h.blk.cell 2 rfl;have e2:=h.blk.free 2;have cx:=(eE hr).2;have HE:=ae (fun w1 hw=>oJ (w1:=w1) h hw);generalize bk0.length=n at*;have b1:(n:Int)+1≤(cap:Int):=by omega
 have b2:(cap:Int)≤9223372036854775807:=by omega
 clear h hb hl hr
 go_enter Tryz.func279,Tryz.ntmps279
 go_wp2;go_ret;exact ⟨f,_,_,_,_,_,_,rfl,HE.out _ rfl⟩
theorem rr {w1 w2:World} {g1 cap1:Nat} (h:aZ w p vw vt vb ws tk [] Rm Pg Us Hg Tm) (hroom:Us<Rm)
  (hfa:Fr (fun _=>False) w w1) (ho1:w2.ownsRow 0 4 1 (.slice (some ⟨g1,0,none⟩) (tk.length+1) cap1) (tk.length+1) (tk.map Value.bool++[.bool false])) (hf2:Fr (fun k=>vt.ownBlock=some k) w1 w2) (hg1:vt.ownBlock=some g1∨w1.heap.size≤g1):
  ak w2 p [vw,vt,vb,.int .i64 Rm,.int .i64 Pg,.int .i64 Us,.int .i64 Hg,.int .i64 Tm] 307∧
  ∀w3,w3=w2.setCell ⟨p,1,none⟩ (.slice (some ⟨g1,0,none⟩) (tk.length+1) cap1)→
   ak w3 p [vw,.slice (some ⟨g1,0,none⟩) (tk.length+1) cap1,vb,.int .i64 Rm,.int .i64 Pg,.int .i64 Us,.int .i64 Hg,.int .i64 Tm] 307∧w3.ownsRow 0 46 1 vw ws.length (bz ws)∧
   ∀w4 g2 cap2,w4.ownsRow 0 46 1 (.slice (some ⟨g2,0,none⟩) (ws.length+Pg) cap2) (ws.length+Pg) (bz ws++List.replicate Pg (.int .u64 0))→Fr (fun k=>vw.ownBlock=some k) w3.drew w4→(vw.ownBlock=some g2∨w3.heap.size≤g2)→
    ak w4 p [vw,.slice (some ⟨g1,0,none⟩) (tk.length+1) cap1,vb,.int .i64 Rm,.int .i64 Pg,.int .i64 Us,.int .i64 Hg,.int .i64 Tm] 307∧
    ∀W,W=w4.setCell ⟨p,0,none⟩ (.slice (some ⟨g2,0,none⟩) (ws.length+Pg) cap2)→
     iS w W p vw vt vb ws tk Rm Pg Us Hg Tm tk.length (.slice (some ⟨g2,0,none⟩) (ws.length+Pg) cap2) (.slice (some ⟨g1,0,none⟩) (tk.length+1) cap1) vb (ws++List.replicate Pg 0) (tk++[false]) []:=by
 have nt:=bJ h.rt h.blk (by decide);have nw:=bJ h.rw h.blk (by decide);have nb:=bJ h.rb h.blk (by decide);have tw:∀k,vw.ownBlock=some k→vt.ownBlock≠some k:=fun k hk=>cS h.rw h.rt (by decide) hk
 have tb:∀k,vb.ownBlock=some k→vt.ownBlock≠some k:=fun k hk=>cS h.rb h.rt (by decide) hk
 have wb:∀k,vb.ownBlock=some k→vw.ownBlock≠some k:=fun k hk=>cS h.rb h.rw (by decide) hk
 have hz1:=hfa.size;have hz2:=hf2.size;have hb2:=(h.blk.frame hfa (fun h=>h)).frame hf2 nt;refine ⟨hb2,?_⟩;rintro w3 rfl;have hfs:Fr (fun k=>k=p) w2 (w2.setCell ⟨p,1,none⟩ (.slice (some ⟨g1,0,none⟩) (tk.length+1) cap1)):=(Fr.refl (fun k=>k=p) w2).setCell ⟨p,1,none⟩ (.inl rfl) _;have hb3:=hb2.set 1 (.slice (some ⟨g1,0,none⟩) (tk.length+1) cap1);have hw3:=ao (ao (ao h.rw hfa (fun _ _ h=>h)) hf2 tw) hfs (fun k hk e=>nw (by rw [hk,e]));have hr3:=ao (ao (ao h.rb hfa (fun _ _ h=>h)) hf2 tb) hfs (fun k hk e=>nb (by rw [hk,e]));have hg1p:g1≠p:=fun e=>by
  rcases hg1 with hg|hg
  ·exact nt (by rw [hg,e])
  ·have:=h.blk.lt;omega
 have ht3:=ao ho1 hfs (fun k hk e=>hg1p (by simp only [Value.ownBlock,Option.some.injEq] at hk;omega));have hz3:=hfs.size;refine ⟨hb3,hw3,?_⟩;intro w4 g2 cap2 ho2 hf4 hg2;have nw3:=bJ hw3 hb3 (by decide);have hb4:=hb3.drew.frame hf4 nw3;refine ⟨hb4,?_⟩;rintro W rfl;have hfe:Fr (fun k=>k=p) w4 (w4.setCell ⟨p,0,none⟩ (.slice (some ⟨g2,0,none⟩) (ws.length+Pg) cap2)):=(Fr.refl (fun k=>k=p) w4).setCell ⟨p,0,none⟩ (.inl rfl) _;have hpl:=hb3.lt;have hg2p:g2≠p:=fun e=>by
  rcases hg2 with hg|hg
  ·exact nw3 (by rw [hg,e])
  ·omega
 have t4:∀k,(Value.slice (some ⟨g1,0,none⟩) (tk.length+1) cap1).ownBlock=some k→vw.ownBlock≠some k:=fun k hk=>cS ht3 hw3 (by decide) hk
 have hd:∀{e:TypeId} {v:Value} {n:Nat} {xs:List Value},(w2.setCell ⟨p,1,none⟩ (.slice (some ⟨g1,0,none⟩) (tk.length+1) cap1)).ownsRow 0 e 1 v n xs→(w2.setCell ⟨p,1,none⟩ (.slice (some ⟨g1,0,none⟩) (tk.length+1) cap1)).drew.ownsRow 0 e 1 v n xs:=fun h=>h
 have hcnt:=h.cnt;rw [List.length_nil] at hcnt;have hlen:=h.len;refine ⟨hb4.set 0 _,?_,?_,?_,?_,?_,?_,by simp,by simp,?_,by simp,by simp,?_,by simp,?_,?_⟩
 ·have:=ao ho2 hfe (fun k hk e=>hg2p (by simp only [Value.ownBlock,Option.some.injEq] at hk;omega));have e:bz (ws++List.replicate Pg 0)=bz ws++List.replicate Pg (.int .u64 0):=by unfold bz;rw [List.map_append,List.map_replicate];rfl
  rw [e,List.length_append,List.length_replicate];exact this
 ·have:=ao (ao (hd ht3) hf4 t4) hfe (fun k hk e=>hg1p (by simp only [Value.ownBlock,Option.some.injEq] at hk;omega));rw [List.length_append,List.length_singleton,List.map_append];exact this
 ·exact ao (ao (hd hr3) hf4 wb) hfe (fun k hk e=>nb (by rw [hk,e]))
 ·rw [List.length_append,List.length_append,List.length_replicate,List.length_singleton,hlen,Nat.succ_mul]
 ·intro x hx;rcases List.mem_append.1 hx with hx|hx
  ·exact h.lt x hx
  ·rw [List.eq_of_mem_replicate hx];decide
 ·rw [List.length_append,List.length_singleton,List.length_nil];omega
 ·rw [List.length_append,List.length_singleton];omega
 ·intro g hg;have hgl:=(List.getElem?_eq_some_iff.1 hg).1;refine ⟨by rw [List.getElem?_append_left hgl];exact hg,by omega,fun i hi=> ?_⟩;have:=ja hgl hi hlen;rw [List.getD_eq_getElem?_getD,List.getD_eq_getElem?_getD,List.getElem?_append_left this]
 ·exact (((((hfa.mono (S':=bn p vw vt vb) (fun _ h=>h.elim)).trans hf2 (fun k hk=> .inl (.inr (.inr (.inl hk))))).trans hfs (fun k hk=> .inl (.inl hk))).drew).trans hf4 (fun k hk=> .inl (.inr (.inl hk)))).trans hfe (fun k hk=> .inl (.inl hk))
 ·rintro k (hk|hk|hk|hk)
  ·exact .inl (.inl hk)
  ·simp only [Value.ownBlock,Option.some.injEq] at hk;subst hk;rcases hg2 with hg|hg
   ·exact .inl (.inr (.inl hg))
   ·exact .inr (by omega)
  ·simp only [Value.ownBlock,Option.some.injEq] at hk;subst hk;rcases hg1 with hg|hg
   ·exact .inl (.inr (.inr (.inl hg)))
   ·exact .inr (by omega)
  ·exact .inl (.inr (.inr (.inr hk)))
theorem oD (h:aZ w p vw vt vb ws tk [] Rm Pg Us Hg Tm) (hroom:Us<Rm):Calls Tryz.prog 279 #[p] w (gV w p vw vt vb ws tk Rm Pg Us Hg Tm):=by
 obtain ⟨pb,cb,rfl⟩:=bY h.rb;obtain ⟨pt,ct,rfl⟩:=bY h.rt;obtain ⟨i0,hi,hz0,hz1,hz2⟩:=info_parts kF;obtain ⟨j0,hj,hy0,hy1,hy2⟩:=info_parts gD;have c1:=h.blk.cell 1 rfl;have c2:=h.blk.cell 2 rfl;have hcnt:=h.cnt;have hr1:=h.room1;have hp1:=h.page1;have hp2:=h.page2;have hlen:=h.len;rw [List.length_nil] at hcnt;have hrt:=h.rt;have HN:=ae (fun w1 w2 g1 cap1 hfa ho1 hf2 hg1=>rr (w1:=w1) (w2:=w2) (g1:=g1) (cap1:=cap1) h hroom hfa ho1 hf2 hg1);have hwl:ws.length+Pg≤1048576:=by
  rw [hlen];have:tk.length*Pg+Pg≤4096*Pg:=by rw [←Nat.succ_mul];exact Nat.mul_le_mul_right Pg (by omega)
  have:4096*Pg≤4096*256:=Nat.mul_le_mul_left _ hp2;omega
 have htl:tk.length≤4096:=by omega
 clear h hlen hcnt
 go_enter Tryz.func279,Tryz.ntmps279
 go_wp2_with (at_builtin;refine Hid.out ?_)
 unfold Hid;have hfa:Fr (fun _=>False) w (w.alloc (.cells #[.bool false] 4)):=(Fr.refl _ w).alloc _;refine bI rfl _ _ 207 rfl 4 i0 (.bool false) 1 Tryz.underlying207 hi hz0 hz1 hz2 rfl (.slice pt tk.length ct) tk.length _ rfl (ao hrt hfa (fun _ _ h=>h)) ⟨w.heap.size,0,none⟩ _ (.bool false) rfl ((ak.new w [.bool false] 4).cell 0 rfl) rfl (by unfold maxLen;omega) (by omega) ?_;intro g1 cap1 w2 ho1 hf2 hg1;obtain ⟨q1,q2⟩:=HN.out _ w2 g1 cap1 hfa ho1 hf2 hg1;have d1:=q1.cell 1 rfl;have e1:=q1.free 1;have HQ:=ae q2;clear hfa ho1 hf2 hg1 q1 q2 HN c1 c2 hrt
 go_upto_region 8 with fail
 obtain ⟨w3,hw3⟩:∃w3,w2.setCell ⟨p,1,none⟩ (.slice (some ⟨g1,0,none⟩) (tk.length+1) cap1)=w3:=⟨_,rfl⟩;rw [hw3];obtain ⟨r1,r2,r3⟩:=HQ.out w3 hw3.symm;have k0:w3.drew.cell? ⟨p,0,none⟩=some vw:=r1.drew.cell 0 rfl;have k4:w3.drew.cell? ⟨p,4,none⟩=some (.int .i64 Pg):=r1.drew.cell 4 rfl;have hrw:w3.drew.ownsRow 0 46 1 vw ws.length (bz ws):=r2;have HR:=ae r3;clear d1 e1 HQ hw3 r1 r2 r3;refine wp_region_any (by kernel_rfl) ?_;change wpAny _ _ _ _ _ _ _ (World.drew _);refine wpAny_take (i:=0) (v:= .pointer (some ⟨p,0,none⟩)) rfl (by kernel_rfl) (by kernel_rfl) (by kernel_rfl) (fun _ _ _ h=>h) (Or.inl ⟨by rfl,fun w=>by go_simp⟩) ?_;refine wpAny_take (i:=1) (v:= .pointer (some ⟨p,0,none⟩)) rfl (by kernel_rfl) (by kernel_rfl) (by kernel_rfl) (fun _ _ _ h=>h) (Or.inl ⟨by rfl,fun w=>by go_simp⟩) ?_;refine wpAny_take (i:=2) (v:= .pointer (some ⟨p,0,none⟩)) rfl (by kernel_rfl) (by kernel_rfl) (by kernel_rfl) (fun _ _ _ h=>h) (Or.inl ⟨by rfl,fun w=>by go_simp⟩) ?_;refine wpAny_take (i:=3) (v:= .pointer (some ⟨p,0,none⟩)) rfl (by kernel_rfl) (by kernel_rfl) (by kernel_rfl) (fun _ _ _ h=>h) (Or.inl ⟨by rfl,fun w=>by go_simp⟩) ?_;refine wpAny_take (i:=5) (v:= .pointer (some ⟨p,0,none⟩)) rfl (by kernel_rfl) (by kernel_rfl) (by kernel_rfl) (fun _ _ _ h=>h) (Or.inl ⟨by rfl,fun w=>by go_simp⟩) ?_;refine wpAny_take (i:=6) (v:= .pointer (some ⟨p,0,none⟩)) rfl (by kernel_rfl) (by kernel_rfl) (by kernel_rfl) (fun _ _ _ h=>h) (Or.inl ⟨by rfl,fun w=>by go_simp⟩) ?_;refine wpAny_take (i:=7) (v:= .pointer (some ⟨p,4,none⟩)) rfl (by kernel_rfl) (by kernel_rfl) (by kernel_rfl) (fun _ _ _ h=>h) (Or.inl ⟨by rfl,fun w=>by go_simp⟩) ?_;simp only [Act.put];refine wpAny_ready (rs:=[4,8]) (by kernel_rfl) (by simp) ?_;refine AllReady.cons rfl (fun K hK=> ?_) (AllReady.cons rfl (fun K hK=> ?_) AllReady.nil)
 ·go_simp;refine hK _ _ ?_;clear hK K;refine wpAny_ready (rs:=[8]) (by kernel_rfl) (by simp) ?_;refine AllReady.cons rfl (fun K hK=> ?_) AllReady.nil;go_simp;refine hK _ _ ?_;clear hK K;refine wpAny_ready (rs:=[9]) (by kernel_rfl) (by simp) ?_;refine AllReady.cons rfl (fun K hK=> ?_) AllReady.nil;refine dU rfl _ _ 98 3 rfl 46 j0 (.int .u64 0) .i64 8 Tryz.underlying98 Tryz.underlying3 hj hy0 hy1 hy2 rfl rfl vw ws.length _ rfl hrw Pg rfl (by omega) (by unfold maxLen;omega) (by omega) ?_;intro g2 cap2 w4 ho2 hf4 hg2;obtain ⟨s1,s2⟩:=HR.out w4 g2 cap2 ho2 hf4 hg2;have k5:=s1.cell 0 rfl;have k6:=s1.free 0;have HS:=ae s2;clear ho2 hf4 hg2 s1 s2 HR k0 k4 hrw;refine hK _ _ ?_;clear hK K;refine wpAny_ready (rs:=[10]) (by kernel_rfl) (by simp) ?_;refine AllReady.cons rfl (fun K hK=> ?_) AllReady.nil;go_simp;refine hK _ _ ?_;clear hK K;refine wpAny_ready (rs:=[11]) (by kernel_rfl) (by simp) ?_;refine AllReady.cons rfl (fun K hK=> ?_) AllReady.nil;go_simp;refine hK _ _ ?_;clear hK K;refine wpAny_ready (rs:=[12]) (by kernel_rfl) (by simp) ?_;refine AllReady.cons rfl (fun K hK=> ?_) AllReady.nil;go_simp;refine hK _ _ ?_;clear hK K;refine wpAny_done (by kernel_rfl) ?_ _;go_wp2;go_ret;exact ⟨tk.length,_,_,_,_,_,_,rfl,HS.out _ rfl⟩
 ·go_simp;refine hK _ _ ?_;clear hK K;refine wpAny_ready (rs:=[4]) (by kernel_rfl) (by simp) ?_;refine AllReady.cons rfl (fun K hK=> ?_) AllReady.nil;go_simp;refine hK _ _ ?_;clear hK K;refine wpAny_ready (rs:=[9]) (by kernel_rfl) (by simp) ?_;refine AllReady.cons rfl (fun K hK=> ?_) AllReady.nil;refine dU rfl _ _ 98 3 rfl 46 j0 (.int .u64 0) .i64 8 Tryz.underlying98 Tryz.underlying3 hj hy0 hy1 hy2 rfl rfl vw ws.length _ rfl hrw Pg rfl (by omega) (by unfold maxLen;omega) (by omega) ?_;intro g2 cap2 w4 ho2 hf4 hg2;obtain ⟨s1,s2⟩:=HR.out w4 g2 cap2 ho2 hf4 hg2;have k5:=s1.cell 0 rfl;have k6:=s1.free 0;have HS:=ae s2;clear ho2 hf4 hg2 s1 s2 HR k0 k4 hrw;refine hK _ _ ?_;clear hK K;refine wpAny_ready (rs:=[10]) (by kernel_rfl) (by simp) ?_;refine AllReady.cons rfl (fun K hK=> ?_) AllReady.nil;go_simp;refine hK _ _ ?_;clear hK K;refine wpAny_ready (rs:=[11]) (by kernel_rfl) (by simp) ?_;refine AllReady.cons rfl (fun K hK=> ?_) AllReady.nil;go_simp;refine hK _ _ ?_;clear hK K;refine wpAny_ready (rs:=[12]) (by kernel_rfl) (by simp) ?_;refine AllReady.cons rfl (fun K hK=> ?_) AllReady.nil;go_simp;refine hK _ _ ?_;clear hK K;refine wpAny_done (by kernel_rfl) ?_ _;go_wp2;go_ret;exact ⟨tk.length,_,_,_,_,_,_,rfl,HS.out _ rfl⟩
end
theorem lU {P:Program} {w:World} {ops:Array Oper} {rest:List Oper} {o:Oper} {a:Act} {Q:Exit→Act→World→Prop} (hgd:o.guard=none) (s:Operand) (t:TypeId)
  (ho:o.op= .call {callee:= .builtin .clear,args:= #[s],argTypes:= #[t]})
  (H:∃w',(Builtin.clear_ #[t] o.type #[a.eval s]).run P w= .ok (.tuple #[]) w'∧wpList P ops Q rest (a.put o.dst (.tuple #[])) w'):wpList P ops Q (o::rest) a w:=by
 obtain ⟨w',hr,h⟩:=H;refine wpList_plain hgd fun K hK=> ?_
 unfold Oper.wp execOp;simp only [ho,resolve,invoke,builtin,Sem.run_bind,Sem.run_pure,Result.andThen_ok,List.map_toArray,List.map_cons,List.map_nil,hr];exact hK _ _ h
theorem Fr.setCells {S:Nat→Prop} {a:World} {g:Nat} (hp:S g∨a.heap.size≤g):∀(vs:List Value) (o:Nat) {w:World},Fr S a w→Fr S a (w.setCells g o vs)
 |[],_,_,h=>h
 |v::r,o,_,h=>Fr.setCells hp r (o+1) (h.setCell ⟨g,o,none⟩ hp v)
theorem ak.setCells {b:Nat} {t:TypeId}:∀(vs:List Value) (pre suf:List Value) {w:World},ak w b (pre++suf) t→vs.length≤suf.length→ak (w.setCells b pre.length vs) b (pre++(vs++suf.drop vs.length)) t
 |[],pre,suf,_,h,_=>by simpa [World.setCells] using h
 |v::r,pre,[],_,_,hl=>by simp at hl
 |v::r,pre,s::suf,w,h,hl=>by
  have h1:ak (w.setCell ⟨b,pre.length,none⟩ v) b ((pre++[v])++suf) t:=by
   have:=h.set pre.length v;rw [show (pre++s::suf).set pre.length v=(pre++[v])++suf by simp] at this;exact this
  have h2:=ak.setCells r (pre++[v]) suf h1 (by simpa using hl);rw [show (pre++[v]).length=pre.length+1 by simp] at h2;have e:pre++(v::r++(s::suf).drop (v::r).length)=pre++[v]++(r++suf.drop r.length):=by simp
  rw [e];exact h2
theorem lM {w:World} {g cap n o:Nat} {xs:List Value} {e:TypeId} (vs:List Value) (h:w.ownsRow 0 e 1 (.slice (some ⟨g,0,none⟩) n cap) n xs) (ho:o+vs.length≤n):(w.setCells g o vs).ownsRow 0 e 1 (.slice (some ⟨g,0,none⟩) n cap) n (xs.take o++vs++xs.drop (o+vs.length)):=by
 obtain ⟨c,hb,hc,hn,hm,ht⟩:=fV h;have hlo:(c.take o).length=o:=by rw [List.length_take];omega
 have hb2:=ak.setCells vs (c.take o) (c.drop o) (by rw [List.take_append_drop];exact hb) (by rw [List.length_drop];omega);rw [hlo] at hb2;refine jK hb2 (by simp only [List.length_append,List.length_take,List.length_drop];omega) hn hm ?_;rw [←ht,List.take_append,hlo,List.take_of_length_le (by omega),List.take_append,List.take_of_length_le (show vs.length≤n-o by omega),List.drop_drop,List.take_take,Nat.min_eq_left (by omega),List.drop_take,List.append_assoc];congr 3
 omega
theorem tL {xs vs:List Nat} {o k:Nat} (ho:o+vs.length≤xs.length) (hk:k<o∨o+vs.length≤k):(xs.take o++vs++xs.drop (o+vs.length)).getD k 0=xs.getD k 0:=by
 rw [List.getD_eq_getElem?_getD,List.getD_eq_getElem?_getD];congr 1
 rcases hk with hk|hk
 ·rw [List.append_assoc,List.getElem?_append_left (by rw [List.length_take];omega),List.getElem?_take,if_pos hk]
 ·rw [List.getElem?_append_right (by rw [List.length_append,List.length_take];omega),List.getElem?_drop,List.length_append,List.length_take];congr 1
  omega
end Go.Proofs.YthahbijbpinneaaGreatDoor
