import Derived.Test.YthahbijbpinneaaGreatDoorA4
import Derived.Test.YthahbijbpinneaaGreatDoorA7
import Derived.Test.YthahbijbpinneaaGreatDoorA12
set_option maxRecDepth 100000
set_option maxHeartbeats 8000000
set_option linter.all false
namespace Go.Proofs.YthahbijbpinneaaGreatDoor
open Go.RowKit
def ye (s:bg) (i:Nat):Nat:=((List.range s.W).find? (fun a=>aj s.E a&&decide (br s.E a=i))).getD 0
theorem pX {s:bg} {a:Nat} (ha:aj s.E a=true) (haW:a<s.W):ye s (br s.E a)=a:=by
 unfold ye
 cases hf:(List.range s.W).find? (fun b=>aj s.E b&&decide (br s.E b=br s.E a)) with
 |none=>
  have:=List.find?_eq_none.1 hf a (List.mem_range.2 haW);rw [ha] at this;simp at this
 |some b=>
  have h1:=List.find?_some hf;rw [Bool.and_eq_true,decide_eq_true_eq] at h1;exact lE h1.1 ha h1.2
def j5 (s:bg) (M:Nat→Nat) (t u:Nat):Nat→Nat:=fun x=>if t≤x∧x<u then gT s.E s.hp M s.F (ye s (x-s.to_)) else M x
theorem th (s:bg) (M:Nat→Nat) (t:Nat):j5 s M t t=M:=by
 funext x;unfold j5;rw [if_neg (by omega)]
def mr (X:Nat→Bool) (i0 i1:Nat):Nat→Bool:=fun j=>X j||decide (i0≤j∧j<i1)
theorem tf (X:Nat→Bool) (i:Nat):mr X i i=X:=by
 funext j;unfold mr;rw [decide_eq_false (by omega),Bool.or_false]
section
variable {s:bg} {L M M1 M3:Nat→Nat} {mp mp1 mp3:Nat→Bool} {mvd:Nat→Bool} {fr ah left top k:Nat} {fw:Nat→Option Nat}
def cA (mvd:Nat→Bool) (k:Nat):Nat→Bool:=fun j=>mvd j||decide (j=k)
theorem bT.Fa (ho:bT s) {a:Nat} (ha:aj s.E a=true):s.to_≤s.F a∧s.F a<s.to_+s.N∧s.F a<s.W:=by
 have h1:=dX ha (ho.from_ a ha).1;have h2:=ho.N2;have h3:=ho.to2;have h4:s.F a=s.to_+br s.E a:=rfl;have h5:s.N=cnt (aj s.E) 0 s.W:=rfl;omega
theorem bT.ne (ho:bT s) {a x:Nat} (ha:aj s.E a=true) (h1:s.to_≤x) (h2:x<s.to_+s.N):a≠x:=by
 have h3:=(ho.from_ a ha).2;have h4:=ho.N2;omega
theorem qm (hP:1≤s.P) {X:Nat→Bool} {a:Nat} (ha:aj s.E a=true) (hx:X (br s.E a)=false):eB s.P (aj s.E) X (a/s.P)=true:=
 (aH hP).2 ⟨a,rfl,by rw [Bool.and_eq_true,Bool.not_eq_true'];exact ⟨ha,hx⟩⟩
theorem fu.from_page (ho:bT s) (h:fu s L M mp mvd fr ah left top) {a:Nat} (ha:aj s.E a=true) (hx:mvd (br s.E a/s.B)=false):mp (a/s.P)=true:=by
 rw [h.pages _ (dq (ho.from_ a ha).1 ho.P1 ho.W1),qm ho.P1 ha hx];rfl
theorem bT.pgF (ho:bT s) {i:Nat} (hi:i<s.R*s.P):(s.to_+i)/s.P=s.to_/s.P+i/s.P∧i/s.P<s.R:=
 ⟨oy ho.P1 i ho.toq,by rw [Nat.div_lt_iff_lt_mul (by have:=ho.P1;omega)];exact hi⟩
theorem jU (ho:bT s) {a:Nat} (ha:aj s.E a=true) (hx:mvd (br s.E a/s.B)=true):cU s mvd top (s.F a/s.P)=true:=by
 have h1:=dX ha (ho.from_ a ha).1;have h2:=ho.pgF (i:=br s.E a) (by have:=ho.N2;have h5:s.N=cnt (aj s.E) 0 s.W:=rfl;omega);have h3:s.F a=s.to_+br s.E a:=rfl;unfold cU;rw [h3,h2.1,decide_eq_true (Nat.le_add_right (s.to_/s.P) (br s.E a/s.P)),decide_eq_true (Nat.add_lt_add_left h2.2 (s.to_/s.P)),Nat.add_sub_cancel_left];have h4:fO s.P s.N (aY s.B mvd) (br s.E a/s.P)=true:=(aH ho.P1).2 ⟨br s.E a,rfl,by rw [Bool.and_eq_true,decide_eq_true_eq];exact ⟨h1,hx⟩⟩;rw [h4];rfl
theorem fu.to_page (ho:bT s) (h:fu s L M mp mvd fr ah left top) {a:Nat} (ha:aj s.E a=true) (hx:mvd (br s.E a/s.B)=true):mp (s.F a/s.P)=true:=by
 rw [h.pages _ (dq (ho.Fa ha).2.2 ho.P1 ho.W1),jU ho ha hx,Bool.or_true]
theorem fu.beh_page (ho:bT s) (h:fu s L M mp mvd fr ah left top) (htop:top≤s.to_+s.R*s.P) {x:Nat} (h1:s.to_+s.N≤x) (h2:x<top):cU s mvd top (x/s.P)=true∧mp (x/s.P)=true:=by
 have h3:=ho.pgF (i:=x-s.to_) (by omega);rw [show s.to_+(x-s.to_)=x by omega] at h3;have h4:eK s top ((x-s.to_)/s.P)=true:=(aH ho.P1).2 ⟨x-s.to_,rfl,by rw [Bool.and_eq_true,decide_eq_true_eq,decide_eq_true_eq];omega⟩;have h5:cU s mvd top (x/s.P)=true:=by
  unfold cU;rw [h3.1,decide_eq_true (Nat.le_add_right (s.to_/s.P) ((x-s.to_)/s.P)),decide_eq_true (Nat.add_lt_add_left h3.2 (s.to_/s.P)),Nat.add_sub_cancel_left,h4];simp
 exact ⟨h5,by rw [h.pages _ (dq (by have:=ho.to2;omega) ho.P1 ho.W1),h5,Bool.or_true]⟩
theorem eR (hB:1≤s.B) (hk:k<s.nb):k*s.B<s.N:=px hB hk
theorem kp (ho:bT s) (hk:k<s.nb) (r:Nat):ec s.B s.P s.N k r=true↔k*s.B/s.P≤r∧r≤(min (k*s.B+s.B) s.N-1)/s.P:=by
 have hB:=ho.B1;have hP:=ho.P1;have hkN:=eR hB hk;unfold ec;rw [aH hP];constructor
 ·rintro ⟨i,h1,h2⟩;rw [Bool.and_eq_true,decide_eq_true_eq,decide_eq_true_eq] at h2;have h3:k*s.B≤i:=by rw [←h2.2];exact Nat.div_mul_le_self i s.B
  have h4:i<k*s.B+s.B:=by
   have h5:=Nat.div_add_mod i s.B;have h6:=Nat.mod_lt i (show 0<s.B by omega);rw [h2.2,Nat.mul_comm] at h5;omega
  rw [←h1];exact ⟨Nat.div_le_div_right h3,Nat.div_le_div_right (by omega)⟩
 ·rintro ⟨h1,h2⟩;have hr:=Nat.div_mul_le_self (min (k*s.B+s.B) s.N-1) s.P;have h3:r*s.P≤min (k*s.B+s.B) s.N-1:=Nat.le_trans (Nat.mul_le_mul_right _ h2) hr;have h4:k*s.B<r*s.P+s.P:=by
   have h5:=Nat.div_add_mod (k*s.B) s.P;have h6:=Nat.mod_lt (k*s.B) (show 0<s.P by omega);have h7:=Nat.mul_le_mul_right s.P h1;rw [Nat.mul_comm] at h5;omega
  refine ⟨max (k*s.B) (r*s.P),?_,?_⟩
  ·exact eS (i:=max (k*s.B) (r*s.P)-r*s.P) hP (by omega) (by omega)
  ·rw [Bool.and_eq_true,decide_eq_true_eq,decide_eq_true_eq];refine ⟨by omega,?_⟩;exact eS (i:=max (k*s.B) (r*s.P)-k*s.B) hB (by omega) (by omega)
theorem fu.need (ho:bT s) (h:fu s L M mp mvd fr ah left top) (hk:k<s.nb) (hka:k=fr∨ah<s.Ah) {t u:Nat} (ht:t=s.to_+k*s.B) (hu:u=min (s.to_+k*s.B+s.B) (s.to_+s.N)):
  cnt mp 0 (s.W/s.P)+cnt (bR mp) (t/s.P) ((u-1)/s.P+1)≤s.R+(s.Ah+2)*(pu s.B s.P+3):=by
 have hB:=ho.B1;have hP:=ho.P1;have hkN:=eR hB hk;have h1:=h.bound ho;have h2:=be (bR mp) (t/s.P) ((u-1)/s.P+1);have h3:=ho.N2;have h4:=(ho.pgF (i:=k*s.B) (by omega)).1;have h5:=(ho.pgF (i:=min (k*s.B+s.B) s.N-1) (by omega)).1;have e1:t/s.P=s.to_/s.P+k*s.B/s.P:=by rw [ht];exact h4
 have e2:(u-1)/s.P=s.to_/s.P+(min (k*s.B+s.B) s.N-1)/s.P:=by rw [←h5];congr 1;omega
 have h6:ec s.B s.P s.N k ((min (k*s.B+s.B) s.N-1)/s.P)=true:=(kp ho hk _).2 ⟨Nat.div_le_div_right (by omega),Nat.le_refl _⟩;have h7:=(ji hP hB ho.div h6).2;have h8:ah≤s.Ah:=h.Ah.2;have h9:pu s.B s.P*ah≤pu s.B s.P*s.Ah:=Nat.mul_le_mul_left _ h8;have h10:(s.Ah+2)*(pu s.B s.P+3)=pu s.B s.P*s.Ah+2*pu s.B s.P+3*s.Ah+6:=by
  rw [Nat.add_mul,Nat.mul_add,Nat.mul_comm s.Ah];omega
 rw [h10];omega
theorem nR (ho:bT s) (hk:k<s.nb) {t u:Nat} (ht:t=s.to_+k*s.B) (hu:u=min (s.to_+k*s.B+s.B) (s.to_+s.N)) (q:Nat):
  cU s (cA mvd k) top q=(cU s mvd top q||(decide (t/s.P≤q)&&decide (q≤(u-1)/s.P))):=by
 have hB:=ho.B1;have hP:=ho.P1;have hkN:=eR hB hk;have h3:=ho.N2;have h4:=(ho.pgF (i:=k*s.B) (by omega)).1;have h5:=ho.pgF (i:=min (k*s.B+s.B) s.N-1) (by omega);have e1:t/s.P=s.to_/s.P+k*s.B/s.P:=by rw [ht];exact h4
 have e2:(u-1)/s.P=s.to_/s.P+(min (k*s.B+s.B) s.N-1)/s.P:=by rw [←h5.1];congr 1;omega
 have hbk:=kp ho hk (q-s.to_/s.P);have htp:fO s.P s.N (aY s.B (cA mvd k)) (q-s.to_/s.P)=(fO s.P s.N (aY s.B mvd) (q-s.to_/s.P)||ec s.B s.P s.N k (q-s.to_/s.P)):=by
  unfold fO ec;rw [Bool.eq_iff_iff,Bool.or_eq_true,aH hP,aH hP,aH hP];constructor
  ·rintro ⟨i,i1,i2⟩;rw [Bool.and_eq_true] at i2;have i3:(mvd (i/s.B)||decide (i/s.B=k))=true:=i2.2;rw [Bool.or_eq_true] at i3;rcases i3 with i3|i3
   ·exact .inl ⟨i,i1,by rw [Bool.and_eq_true];exact ⟨i2.1,i3⟩⟩
   ·exact .inr ⟨i,i1,by rw [Bool.and_eq_true];exact ⟨i2.1,i3⟩⟩
  ·rintro (⟨i,i1,i2⟩|⟨i,i1,i2⟩)
   ·rw [Bool.and_eq_true] at i2;refine ⟨i,i1,?_⟩;rw [Bool.and_eq_true];exact ⟨i2.1,by show (mvd (i/s.B)||decide (i/s.B=k))=true;have i3:mvd (i/s.B)=true:=i2.2;rw [i3];rfl⟩
   ·rw [Bool.and_eq_true] at i2;refine ⟨i,i1,?_⟩;rw [Bool.and_eq_true];exact ⟨i2.1,by show (mvd (i/s.B)||decide (i/s.B=k))=true;rw [i2.2,Bool.or_true]⟩
 unfold cU;rw [htp];by_cases hq:s.to_/s.P≤q∧q<s.to_/s.P+s.R
 ·rw [decide_eq_true hq.1,decide_eq_true hq.2];have hb2:ec s.B s.P s.N k (q-s.to_/s.P)=(decide (t/s.P≤q)&&decide (q≤(u-1)/s.P)):=by
   rw [Bool.eq_iff_iff,hbk,Bool.and_eq_true,decide_eq_true_eq,decide_eq_true_eq,e1,e2];constructor
   ·rintro ⟨q1,q2⟩;omega
   ·rintro ⟨q1,q2⟩;omega
  rw [hb2]
  cases fO s.P s.N (aY s.B mvd) (q-s.to_/s.P)<;>cases eK s top (q-s.to_/s.P)<;>simp
 ·have z1:=Nat.zero_le (k*s.B/s.P);have h6:(decide (s.to_/s.P≤q)&&decide (q<s.to_/s.P+s.R))=false:=by
   rw [Bool.and_eq_false_iff,decide_eq_false_iff_not,decide_eq_false_iff_not];omega
  have h7:(decide (t/s.P≤q)&&decide (q≤(u-1)/s.P))=false:=by
   rw [Bool.and_eq_false_iff,decide_eq_false_iff_not,decide_eq_false_iff_not,e1,e2];omega
  rw [h6,h7];simp
theorem fu.drn (ho:bT s) (h:fu s L M mp mvd fr ah left top) (hk:k<s.nb) {t u:Nat} (ht:t=s.to_+k*s.B) (hu:u=min (s.to_+k*s.B+s.B) (s.to_+s.N)) (hmp:∀q,mp1 q=(mp q||(decide (t/s.P≤q)&&decide (q≤(u-1)/s.P))))
  (hfw:∀q,(fw q).getD 0=iR s (aY s.B mvd) q):xX s (aY s.B mvd) (cU s (cA mvd k) top) mp1 fw:=
 ⟨hfw,fun q hq=>by rw [hmp,h.pages q hq,nR ho hk ht hu,Bool.or_assoc],fun a ha=>sy ho ha⟩
theorem kr (hB:1≤s.B) {i:Nat} (hi:i<s.N):aY s.B (cA mvd k) i=mr (aY s.B mvd) (k*s.B) (min (k*s.B+s.B) s.N) i:=by
 unfold aY cA mr;congr 1
 rw [decide_eq_decide];constructor
 ·intro e;have h1:=Nat.div_mul_le_self i s.B;have h5:=Nat.div_add_mod i s.B;have h6:=Nat.mod_lt i (show 0<s.B by omega);rw [e] at h1;rw [e,Nat.mul_comm] at h5;omega
 ·rintro ⟨h1,h2⟩;exact eS (i:=i-k*s.B) hB (by omega) (by omega)
theorem vS (ho:bT s) (q:Nat):eB s.P (aj s.E) (mr (aY s.B mvd) (k*s.B) (min (k*s.B+s.B) s.N)) q=eB s.P (aj s.E) (aY s.B (cA mvd k)) q:=by
 unfold eB eL;congr 1
 funext i;show (aj s.E (q*s.P+i)&& !mr (aY s.B mvd) (k*s.B) (min (k*s.B+s.B) s.N) (br s.E (q*s.P+i)))=(aj s.E (q*s.P+i)&& !aY s.B (cA mvd k) (br s.E (q*s.P+i)))
 cases hl:aj s.E (q*s.P+i) with
 |false=>rfl
 |true=>
  have:=dX hl (ho.from_ _ hl).1;rw [kr ho.B1 this]
theorem wt (ho:bT s) (q:Nat):iR s (mr (aY s.B mvd) (k*s.B) (min (k*s.B+s.B) s.N)) q=iR s (aY s.B (cA mvd k)) q:=by
 unfold iR;refine aJ (fun i _ _=> ?_);show (aj s.E i&& !mr (aY s.B mvd) (k*s.B) (min (k*s.B+s.B) s.N) (br s.E i))=(aj s.E i&& !aY s.B (cA mvd k) (br s.E i))
 cases hl:aj s.E i with
 |false=>rfl
 |true=>
  have:=dX hl (ho.from_ _ hl).1;rw [kr ho.B1 this]
theorem fu.move (ho:bT s) (h:fu s L M mp mvd fr ah left top) (hk:k<s.nb) (hkm:mvd k=false) {t u:Nat} (ht:t=s.to_+k*s.B) (hu:u=min (s.to_+k*s.B+s.B) (s.to_+s.N)) (htop:top≤s.to_+s.R*s.P)
  (hmp:∀q,mp1 q=(mp q||(decide (t/s.P≤q)&&decide (q≤(u-1)/s.P)))) (hM1:∀b,b<s.W→mp (b/s.P)=true→M1 b=M b)
  (hd:xX s (mr (aY s.B mvd) (k*s.B) (min (k*s.B+s.B) s.N)) (cU s (cA mvd k) top) mp3 fw) (hM3:∀b,b<s.W→mp3 (b/s.P)=true→M3 b=j5 s M1 t u b)
  {fr' ah' left':Nat} (hf:(∀j,j<fr'→cA mvd k j=true)∧fr'≤s.nb∧(fr'<s.nb→cA mvd k fr'=false)) (ha:ah'=cnt (cA mvd k) fr' s.nb∧ah'≤s.Ah) (hl:left'+1=left):
  fu s L M3 mp3 (cA mvd k) fr' ah' left' top∧∀q,(fw q).getD 0=iR s (aY s.B (cA mvd k)) q:=by
 have hB:=ho.B1;have hP:=ho.P1;have hkN:=eR hB hk;have hpg:∀q,q<s.W/s.P→mp3 q=(eB s.P (aj s.E) (aY s.B (cA mvd k)) q||cU s (cA mvd k) top q):=fun q hq=>by rw [hd.pages q hq,vS ho]
 have hin:∀a,aj s.E a=true→(br s.E a/s.B=k↔t≤s.F a∧s.F a<u):=fun a ha=>by
  have h1:=dX ha (ho.from_ a ha).1;have h3:s.F a=s.to_+br s.E a:=rfl;have h5:s.N=cnt (aj s.E) 0 s.W:=rfl;rw [h3,ht,hu];constructor
  ·intro e;have h1:=Nat.div_mul_le_self (br s.E a) s.B;have h5:=Nat.div_add_mod (br s.E a) s.B;have h6:=Nat.mod_lt (br s.E a) (show 0<s.B by omega);rw [e] at h1;rw [e,Nat.mul_comm] at h5;omega
  ·rintro ⟨h1,h2⟩;exact eS (i:=br s.E a-k*s.B) hB (by omega) (by omega)
 have hcm:∀x,x<s.W→mp (x/s.P)=true→¬(t≤x∧x<u)→mp3 (x/s.P)=true→M3 x=M x:=fun x hx h1 h2 h3=>by
  rw [hM3 x hx h3];unfold j5;rw [if_neg h2,hM1 x hx h1]
 have hst:∀a,a<s.W→aj s.E a=true→cA mvd k (br s.E a/s.B)=false→M3 a=M a∧mvd (br s.E a/s.B)=false:=fun a haW ha hm=>by
  have h1:mvd (br s.E a/s.B)=false:=by unfold cA at hm;rw [Bool.or_eq_false_iff] at hm;exact hm.1
  refine ⟨hcm a haW (h.from_page ho ha h1) (fun hh=> ?_) ?_,h1⟩
  ·exact ho.ne ha (by omega) (by omega) rfl
  ·rw [hpg _ (dq haW hP ho.W1),qm hP ha hm];rfl
 refine ⟨⟨fun a haW ha hm=> ?_,fun a haW ha hm=> ?_,fun a haW ha hm=> ?_,fun a haW ha hm=> ?_,fun x h1 h2=> ?_,hpg,hf,fun j hj=> ?_,ha,?_,?_⟩,fun q=>by rw [hd.cnts,wt ho]⟩
 ·have hFW:=ho.Fa ha;have hm3:mp3 (s.F a/s.P)=true:=by rw [hpg _ (dq hFW.2.2 hP ho.W1),jU ho ha hm,Bool.or_true]
  by_cases e:br s.E a/s.B=k
  ·rw [hM3 _ hFW.2.2 hm3];unfold j5;rw [if_pos ((hin a ha).1 e),show s.F a-s.to_=br s.E a from by show s.to_+br s.E a-s.to_=_;omega,pX ha haW];have hmk:mvd (br s.E a/s.B)=false:=by rw [e];exact hkm
   rw [dw ha (hM1 a haW (h.from_page ho ha hmk))];exact h.still a haW ha hmk
  ·have h1:mvd (br s.E a/s.B)=true:=by unfold cA at hm;rw [decide_eq_false e,Bool.or_false] at hm;exact hm
   rw [hcm _ hFW.2.2 (h.to_page ho ha h1) (fun hh=>e ((hin a ha).2 hh)) hm3];exact h.moved a haW ha h1
 ·obtain ⟨h1,h2⟩:=hst a haW ha hm;rw [dw ha h1];exact h.still a haW ha h2
 ·obtain ⟨h1,h2⟩:=hst a haW ha hm;rw [h1];exact h.ptrs a haW ha h2
 ·obtain ⟨h1,h2⟩:=hst a haW ha hm;rw [h1];exact h.small a haW ha h2
 ·have hxW:x<s.W:=by have:=ho.to2;omega
  rw [hcm x hxW (h.beh_page ho htop h1 h2).2 (by omega) ?_]
  ·exact h.behind x h1 h2
  ·rw [hpg _ (dq hxW hP ho.W1),nR ho hk ht hu,(h.beh_page ho htop h1 h2).1];simp
 ·unfold cA;rw [h.far j hj,decide_eq_false (by omega)];rfl
 ·have h1:=h.left;have h2:cnt (cA mvd k) 0 s.nb=cnt mvd 0 s.nb+1:=by
   have h4:∀f:Nat→Bool,cnt f 0 s.nb=cnt f 0 k+(if f k then 1 else 0)+cnt f (k+1) s.nb:=fun f=>by
    rw [aw f (Nat.zero_le (k+1)) (show k+1≤s.nb from hk),aC f (Nat.zero_le k)]
   rw [h4,h4 mvd,aJ (f:=cA mvd k) (g:=mvd) (a:=0) (b:=k) (fun i _ hi=>by unfold cA;rw [decide_eq_false (by omega),Bool.or_false]),aJ (f:=cA mvd k) (g:=mvd) (a:=k+1) (b:=s.nb) (fun i hi _=>by unfold cA;rw [decide_eq_false (by omega),Bool.or_false])];have h5:cA mvd k k=true:=by unfold cA;simp
   rw [h5,hkm];simp;omega
  omega
 ·obtain ⟨X,x1,x2⟩:=h.Rm;exact ⟨X,fun j hj=>by unfold cA;rw [x1 j hj];rfl,x2⟩
end
theorem jN:∀{l:List (Nat×Nat×Nat)} {j:Nat} {x:Nat×Nat×Nat},l[j]? =some x→(cT l)[3*j]? =some (.int .i64 (x.1:Int))∧(cT l)[3*j+1]? =some (.int .i64 (x.2.1:Int))∧(cT l)[3*j+2]? =some (.int .i64 (x.2.2:Int))
 |[],j,x,h=>by simp at h
 |y::l,0,x,h=>by
  simp only [List.getElem?_cons_zero,Option.some.injEq] at h;subst h;exact ⟨rfl,rfl,rfl⟩
 |y::l,j+1,x,h=>by
  rw [List.getElem?_cons_succ] at h;have:=jN h;rw [show 3*(j+1)=3*j+1+1+1 by omega];exact this
def me (w:World) (g:Nat) (l:List (Nat×Nat×Nat)):Prop:=∀j x,l[j]? =some x→w.rangeAt g (3*j) [.int .i64 (x.1:Int),.int .i64 (x.2.1:Int),.int .i64 (x.2.2:Int)]
theorem me.frame {T:Nat→Prop} {w w':World} {g:Nat} {l:List (Nat×Nat×Nat)} (h:me w g l) (hf:Fr T w w') (hn:¬T g):me w' g l:=fun j x hx i v hv=>
 (World.cell?_of_block (w:=w) (w':=w') (a:=⟨g,3*j+i,none⟩) (hf.block g (aE (h j x hx i v hv)) hn)).trans (h j x hx i v hv)
theorem uB {w:World} {b g cap:Nat} {l:List (Nat×Nat×Nat)} (h:w.ownsRow b 286 3 (.slice (some ⟨g,0,none⟩) l.length cap) l.length (cT l)):me w g l:=by
 intro j x hx i v hv;have hc:=h.cells (g:=g) rfl;have ha:∀k,(⟨g,0,none⟩:Addr).add k=⟨g,k,none⟩:=fun k=>by unfold Addr.add;split<;>simp_all
 obtain ⟨h1,h2,h3⟩:=jN hx
 match i,hv with
 |0,hv=>simp at hv;subst hv;have:=hc _ _ h1;rwa [ha] at this
 |1,hv=>simp at hv;subst hv;have:=hc _ _ h2;rwa [ha] at this
 |2,hv=>simp at hv;subst hv;have:=hc _ _ h3;rwa [ha] at this
theorem gL {E:Nat→Nat} {Ba W:Nat}:∀{t:Nat} {l:List (Nat×Nat×Nat)} {u:Nat},gX E Ba W t l u→t+l.length≤u
 |t,[],u,h=>by have:t=u:=h;simp;omega
 |t,x::l,u,h=>by
  obtain ⟨h1,h2,h3,h4⟩:=h;have:=gL h4;rw [List.length_cons];omega
theorem rY {E:Nat→Nat} {Ba W p u j:Nat} {l:List (Nat×Nat×Nat)} (h:gX E Ba W p (l.drop j) u) (hj:j<l.length):∃F n,l[j]? =some (F,p,n)∧1≤n∧j9 E Ba W p F n∧gX E Ba W (p+n) (l.drop (j+1)) u:=by
 rw [List.drop_eq_getElem_cons hj] at h;obtain ⟨h1,h2,h3,h4⟩:=h;refine ⟨l[j].1,l[j].2.2,?_,h2,h3,h4⟩;rw [List.getElem?_eq_getElem hj,←h1]
section
variable {c:Cy} {s:bg} {hf hg:Nat→Nat} {Fs Us Hg:Nat} {Sm:Nat→Prop} {mp mp1:Nat→Bool} {L M M1:Nat→Nat} {Mv:List Bool} {fw:Nat→Option Nat} {n left fr ah k top:Nat} {w w' w0:World} {mvd:Nat→Bool}
theorem bT.inBlk (ho:bT s) (hk:k<s.nb) {t u:Nat} (ht:t=s.to_+k*s.B) (hu:u=min (s.to_+k*s.B+s.B) (s.to_+s.N)) {a:Nat} (ha:aj s.E a=true):br s.E a/s.B=k↔t≤s.F a∧s.F a<u:=by
 have hB:=ho.B1;have h1:=dX ha (ho.from_ a ha).1;have h3:s.F a=s.to_+br s.E a:=rfl;have h5:s.N=cnt (aj s.E) 0 s.W:=rfl;rw [h3,ht,hu];constructor
 ·intro e;have h1:=Nat.div_mul_le_self (br s.E a) s.B;have h5:=Nat.div_add_mod (br s.E a) s.B;have h6:=Nat.mod_lt (br s.E a) (show 0<s.B by omega);rw [e] at h1;rw [e,Nat.mul_comm] at h5;omega
 ·rintro ⟨h1,h2⟩;exact eS (i:=br s.E a-k*s.B) hB (by omega) (by omega)
structure yn (s:bg) (mvd:Nat→Bool) (k t u F p n:Nat):Prop where
 t:t≤p
 u:p+n≤u
 live:∀i,i<n→aj s.E (F+i)=true∧F+i<s.W∧s.F (F+i)=p+i∧br s.E (F+i)=br s.E F+i∧br s.E (F+i)/s.B=k
 at_:1≤n→br s.E F+s.to_=p
theorem ux (ho:bT s) (hk:k<s.nb) {t u:Nat} (ht:t=s.to_+k*s.B) (hu:u=min (s.to_+k*s.B+s.B) (s.to_+s.N)) {F p n:Nat} (htp:t≤p) (hpu:p+n≤u) (h1:1≤n) (hs:j9 s.E s.to_ s.W p F n):yn s mvd k t u F p n:=by
 have hat:br s.E F+s.to_=p:=by
  obtain ⟨_,_,h4⟩:=hs 0 (by omega);rw [Nat.add_zero,Nat.add_zero,mJ] at h4;omega
 refine ⟨htp,hpu,fun i hi=> ?_,fun _=>hat⟩;obtain ⟨h2,h3,h4⟩:=hs i hi;have h5:s.to_+br s.E (F+i)=p+i:=h4;exact ⟨h3,h2,h4,by omega,(ho.inBlk hk ht hu h3).2 ⟨by show t≤s.to_+br s.E (F+i);omega,by show s.to_+br s.E (F+i)<u;omega⟩⟩
theorem xM (ho:bT s) (h:fu s L M mp mvd fr ah left top) (hk:k<s.nb) (hkm:mvd k=false) {t u:Nat} (ht:t=s.to_+k*s.B) (hu:u=min (s.to_+k*s.B+s.B) (s.to_+s.N)) {F p n:Nat} (hp:yn s mvd k t u F p n) (hn1:1≤n)
  (hmp:∀q,mp1 q=(mp q||(decide (t/s.P≤q)&&decide (q≤(u-1)/s.P)))) (hM1:∀b,b<s.W→mp (b/s.P)=true→M1 b=M b) (hd:∀a,s.E a≠0→bw (s.hp a) (hf a) (hg a)) (hto:c.to_=s.to_) (hb:s.to_≤1048576):
  yF c s hf hg mp1 (j5 s M1 t p) F p n:=by
 have htu:u≤s.to_+s.N∧s.to_≤t:=by omega
 have hW:=ho.to2;have hN:=ho.N2;have hu1:=hp.u;have ht1:=hp.t;have hunm:∀i,i<n→mvd (br s.E (F+i)/s.B)=false:=fun i hi=>by rw [(hp.live i hi).2.2.2.2];exact hkm
 have hne:∀i j,i<n→j<n→p+i≠F+j:=fun i j hi hj e=>ho.ne (hp.live j hj).1 (x:=p+i) (by omega) (by omega) e.symm
 have hm:∀i,i<n→j5 s M1 t p (F+i)=M (F+i):=fun i hi=>by
  unfold j5;rw [if_neg (fun hh=>ho.ne (hp.live i hi).1 (x:=F+i) (by omega) (by omega) rfl),hM1 _ (hp.live i hi).2.1 (h.from_page ho (hp.live i hi).1 (hunm i hi))]
 refine ⟨ho.apart,?_,by omega,fun i hi=>(hp.live i hi).1,hne,fun i hi=> ?_,fun i hi=> ?_,fun i hi q1 q2 q3=> ?_,fun i hi=> ?_,hd,by omega⟩
 ·have:=(hp.live (n-1) (by omega)).2.1;omega
 ·rw [hmp,h.from_page ho (hp.live i hi).1 (hunm i hi)];rfl
 ·rw [hmp,decide_eq_true (Nat.div_le_div_right (c:=s.P) (show t≤p+i by omega)),decide_eq_true (Nat.div_le_div_right (c:=s.P) (show p+i≤u-1 by omega))];simp
 ·rw [hm i hi] at q3 ⊢;exact h.ptrs _ (hp.live i hi).2.1 (hp.live i hi).1 (hunm i hi) q1 q2 q3
 ·rw [hm i hi];exact h.small _ (hp.live i hi).2.1 (hp.live i hi).1 (hunm i hi)
theorem yr (ho:bT s) {t u F p n:Nat} (hp:yn s mvd k t u F p n) (htu:s.to_≤t) (huN:u≤s.to_+s.N):ke s (j5 s M1 t p) F p n=j5 s M1 t (p+n):=by
 funext x;have ht1:=hp.t;have hu1:=hp.u;unfold ke;by_cases h1:p≤x∧x<p+n
 ·rw [if_pos h1];have hl:=hp.live (x-p) (by omega);have e1:j5 s M1 t p (F+(x-p))=M1 (F+(x-p)):=by
   unfold j5;rw [if_neg (fun hh=>ho.ne hl.1 (x:=F+(x-p)) (by omega) (by omega) rfl)]
  rw [dw hl.1 e1];show _=(if t≤x∧x<p+n then gT s.E s.hp M1 s.F (ye s (x-s.to_)) else M1 x)
  rw [if_pos (by omega)];have h4:s.to_+br s.E (F+(x-p))=p+(x-p):=hl.2.2.1;rw [show x-s.to_=br s.E (F+(x-p)) by omega,pX hl.1 hl.2.1]
 ·rw [if_neg h1];show (if t≤x∧x<p then gT s.E s.hp M1 s.F (ye s (x-s.to_)) else M1 x)=(if t≤x∧x<p+n then gT s.E s.hp M1 s.F (ye s (x-s.to_)) else M1 x)
  by_cases h2:t≤x∧x<p
  ·rw [if_pos h2,if_pos (by omega)]
  ·rw [if_neg h2,if_neg (by omega)]
theorem yp {F p n t u i0:Nat} {X:Nat→Bool} (hp:yn s mvd k t u F p n) (h1:1≤n) (h0:i0≤p-s.to_) (htu:s.to_≤t):tA s (mr X i0 (p-s.to_)) F n=mr X i0 (p+n-s.to_):=by
 funext j;have hat:=hp.at_ h1;have ht1:=hp.t;unfold tA mr;rw [Bool.or_assoc,←Bool.decide_or];congr 1
 rw [decide_eq_decide];omega
end
structure pR (c:Cy) (s:bg) (hf hg:Nat→Nat) (Fs top:Nat):Prop where
 ok:bT s
 hd:∀a,s.E a≠0→bw (s.hp a) (hf a) (hg a)
 top1:top≤s.to_+s.R*s.P
 low1:s.to_+s.N≤top
 fr1:Fs=s.R+(s.Ah+2)*(pu s.B s.P+3)
 to_:s.to_≤524288
 nb:c.nb=s.nb
 ah:c.Ah=s.Ah
 N:s.N≤524288
 B:s.B≤1024
 a16:s.Ah≤16
def da (Mv:List Bool) (k:Nat):Bool:=Mv.getD k false
theorem qw {Mv:List Bool} {k:Nat} (hk:k<Mv.length):da (Mv.set k true)=cA (da Mv) k:=by
 funext j;unfold da cA;by_cases e:j=k
 ·subst e;rw [decide_eq_true rfl,Bool.or_true];simp [List.getD,hk]
 ·rw [decide_eq_false e,Bool.or_false];simp only [List.getD,List.getElem?_set,if_neg (Ne.symm e)]
def dZ (c:Cy) (s:bg) (hf hg:Nat→Nat) (Fs top:Nat) (Mv:List Bool) (left fr ah:Nat) (L:Nat→Nat) (S:Nat→Prop) (w:World):Prop:=
 ∃Us Hg Sm mp M fw n,dL c s hf hg Fs Us Hg Sm mp M Mv fw n left fr ah w∧fu s L M mp (da Mv) fr ah left top∧(∀q,(fw q).getD 0=iR s (aY s.B (da Mv)) q)∧n<4611686018427387904∧∀k,S k↔(Sm k∨c.has k)
def vy (c:Cy) (s:bg) (hf hg:Nat→Nat) (Fs top:Nat) (Mv:List Bool) (left fr k:Nat) (L:Nat→Nat) (S:Nat→Prop) (w:World) (e:Ending) (w':World):Prop:=
 e= .returned (.int .i64 0)∧∃fr' ah' S',dZ c s hf hg Fs top (Mv.set k true) (left-1) fr' ah' L S' w'∧fr≤fr'∧(k=fr→fr<fr')∧Fr S w w'∧∀j,S' j→S j∨w.heap.size≤j
def kg (w:World) (y:Nat):Nat:=match w.cell? ⟨y,12,none⟩ with|some (.int _ f)=>f.toNat|_=>0
section
variable {c:Cy} {s:bg} {hf hg:Nat→Nat} {Fs Us Hg top:Nat} {Sm S:Nat→Prop} {mp mp1:Nat→Bool} {L M M1:Nat→Nat} {Mv:List Bool} {fw:Nat→Option Nat} {n left fr ah k:Nat} {w w' w0:World} {mvd:Nat→Bool}
theorem lx {mvd:Nat→Bool} {k f m:Nat} (hfk:f≤k) (hk:k<m) (hkm:mvd k=false):cnt (cA mvd k) f m=cnt mvd f m+1:=by
 have h4:∀g:Nat→Bool,cnt g f m=cnt g f k+(if g k then 1 else 0)+cnt g (k+1) m:=fun g=>by
  rw [aw g (show f≤k+1 by omega) (show k+1≤m from hk),aC g hfk]
 rw [h4,h4 mvd,aJ (f:=cA mvd k) (g:=mvd) (a:=f) (b:=k) (fun i _ hi=>by unfold cA;rw [decide_eq_false (by omega),Bool.or_false]),aJ (f:=cA mvd k) (g:=mvd) (a:=k+1) (b:=m) (fun i hi _=>by unfold cA;rw [decide_eq_false (by omega),Bool.or_false])];have h5:cA mvd k k=true:=by unfold cA;simp
 rw [h5,hkm];simp;omega
theorem rv (h:fu s L M mp mvd fr ah left top) (hk:k<s.nb) (hkm:mvd k=false) (hka:k=fr∨ah<s.Ah) {f a:Nat} (h1:∀j,j<f→cA mvd k j=true) (h2:fr≤f) (h3:f≤s.nb) (h4:f<s.nb→cA mvd k f=false) (h5:a=cnt (cA mvd k) f s.nb):a≤s.Ah∧(k=fr→fr<f):=by
 obtain ⟨p1,p2,p3⟩:=h.front;obtain ⟨q1,q2⟩:=h.Ah;have hkf:fr≤k:=by
  rcases Nat.lt_or_ge k fr with hh|hh
  ·rw [p1 k hh] at hkm;cases hkm
  ·exact hh
 by_cases e:k=fr
 ·have hlt:fr<f:=by
   rcases Nat.lt_or_ge fr f with hh|hh
   ·exact hh
   ·have e2:f=fr:=by omega
    have h6:=h4 (by omega);rw [e2,←e] at h6;unfold cA at h6;simp at h6
  refine ⟨?_,fun _=>hlt⟩;have h6:cnt (cA mvd k) f s.nb=cnt mvd f s.nb:=aJ (fun i hi _=>by unfold cA;rw [decide_eq_false (by omega),Bool.or_false]);have h7:cnt mvd fr s.nb=cnt mvd fr f+cnt mvd f s.nb:=aw mvd h2 h3;omega
 ·have hkl:fr<k:=by omega
  have h6:cA mvd k fr=false:=by
   unfold cA;rw [p3 (by omega),decide_eq_false (by omega)];rfl
  have e2:f=fr:=by
   rcases Nat.lt_or_ge fr f with hh|hh
   ·rw [h1 fr hh] at h6;cases h6
   ·omega
  subst e2;rw [lx (by omega) hk hkm] at h5;exact ⟨by omega,fun e3=>absurd e3 e⟩
theorem nM (ht:pR c s hf hg Fs top) (h:dZ c s hf hg Fs top Mv left fr ah L S w) (hk:k<s.nb) (hkm:da Mv k=false) (hka:k=fr∨ah<s.Ah):
  Calls Tryz.prog 133 #[c.y,.int .i64 k] w (vy c s hf hg Fs top Mv left fr k L S w):=by
 obtain ⟨Us,Hg,Sm,mp,M,fw,n,hw,hp,hfw,hn,hS⟩:=h;have ho:=ht.ok;have hkN:=eR ho.B1 hk;obtain ⟨t,htd⟩:∃t,t=s.to_+k*s.B:=⟨_,rfl⟩;obtain ⟨u,hud⟩:∃u,u=min (s.to_+k*s.B+s.B) (s.to_+s.N):=⟨_,rfl⟩;have hB1:=ho.B1;have htu:t<u:=by omega
 have huN:u≤s.to_+s.N:=by omega
 have hW:=ho.to2;have hN2:=ho.N2;have hRG:=jQ hw.plan (by have:=hw.to_;have:=ht.to_;omega) k (by rw [hw.B];exact hk);have hPI:=fun w1 (hh:ca c.lo c.hi w1 c.pl s.W c.B s.E c.to_) (hT:bu w1)=>ny hh hT (by have:=hw.to_;have:=ht.to_;omega) k (by rw [hw.B];exact hk)
 rw [hw.B,hw.to_] at hRG hPI;rw [←htd,show cnt (aj s.E) 0 s.W=s.N from rfl,htd,←hud,←htd] at hRG hPI;have hroom:Us+cnt (bR mp) (t/s.P) ((u-1)/s.P+1)≤Fs:=by
  have h1:=hp.need ho hk hka htd hud;rw [ht.fr1,hw.mem.at.2.2.2.2.2.2.2.1];exact h1
 have HRG:=ae hRG;have HND:=ae (fun w1 (hf1:Fr (fun _=>False) w w1)=>gK (hw.mem.keep hf1) t u htu (by omega) hroom);have HPI:=ae hPI;have HC1:=ae (fun w1 (hf1:Fr (fun _=>False) w w1)=>af ((hw.Fh hf1).blk.cell 0 rfl) ((hw.Fh hf1).blk.cell 8 rfl));have HW:=ae hw;have HP:=ae hp;have c8:=hw.blk.cell 8 rfl;have HX:=ae (af hfw (af hn (af hS (af ht (af hka (af hk (af hkm (af htd hud))))))));have hkI:(k:Int)≤524288:=by have:=ht.N;have h2:=Nat.le_mul_of_pos_right k (show 0<s.B by omega);omega
 have huI:(u:Int)≤1048576:=by have:=ht.N;have:=ht.to_;omega
 have HQ:Hid (∀(fr' ah':Nat) (S':Nat→Prop) (w':World),dZ c s hf hg Fs top (Mv.set k true) (left-1) fr' ah' L S' w'→fr≤fr'→(k=fr→fr<fr')→Fr S w w'→(∀j,S' j→S j∨w.heap.size≤j)→vy c s hf hg Fs top Mv left fr k L S w (.returned (.int .i64 0)) w'):=by
  show∀(fr' ah':Nat) (S':Nat→Prop) (w':World),_
  exact fun fr' ah' S' w' h1 h2 h3 h4 h5=>⟨rfl,fr',ah',S',h1,h2,h3,h4,h5⟩
 clear hw hp hfw hn hS ht hka hk hkm htd hud hRG hPI ho hkN hB1 huN hW hN2 hroom;generalize (vy c s hf hg Fs top Mv left fr k L S w)=Q at*
 go_enter Tryz.func133,Tryz.ntmps133
 go_wp2_with fail
 refine (HRG.out).mono ?_;rintro e w1 ⟨rfl,hf1⟩;obtain ⟨c0,_⟩:=HC1.out w1 hf1;have HN1:=ae (HND.out w1 hf1);have HF1:=ae hf1;clear hf1 HND HRG c8;go_wp2_with fail
 refine (HN1.out).mono ?_;rintro e w2 ⟨rfl,Sm1,high1,mp1,M1,n1,n2,n3,n4,n5⟩;have hw2:=(HW.out.Fh HF1.out).mem_ n1 n4 n5;have c8:=hw2.blk.cell 8 rfl;have HP2:=ae (HPI.out w2 (by have h9:=hw2.plan;rw [HW.out.B,HW.out.to_] at h9;exact h9) hw2.tab);have H2:=ae (af hw2 (af n2 (af n3 (af n4 n5))));clear hw2 n1 n2 n3 n4 n5 HN1 HPI c0 HC1;go_wp2_with fail
 refine (HP2.out).mono ?_;rintro e w3 ⟨v,l,rfl,hrow,hpc,hf3⟩;obtain ⟨g,cap,rfl,hgb⟩:∃g cap,v= .slice (some ⟨g,0,none⟩) l.length cap∧w2.heap.size≤g:=by
  rcases hrow.2 with ⟨h1,h2⟩|⟨g,cap,cur,h1,h2,_⟩
  ·have:l.length=0:=by have:=h2;omega
   have h3:l=[]:=List.eq_nil_of_length_eq_zero this;subst h3;have:t=u:=hpc;omega
  ·exact ⟨g,cap,h1,h2⟩
 have hpr:=uB hrow;have hlen:=gL hpc;obtain ⟨hw2,n2,n3,n4,n5⟩:=H2.out;have hw3:=hw2.Fh hf3;have hgS:¬Sm1 g:=fun hs=>by have:=hw2.mem.lt g hs;omega
 have hg3:g<w3.heap.size:=by
  have h0:0<l.length:=by
   by_cases h0:l.length=0
   ·have h3:l=[]:=List.eq_nil_of_length_eq_zero h0;subst h3;have:t=u:=hpc;omega
   ·omega
  have:=hpr 0 l[0] (List.getElem?_eq_getElem h0) 0 _ rfl;exact aE this
 obtain ⟨hfw,hn,hS,ht,hka,hk,hkm,htd,hud⟩:=HX.out;have ho:=ht.ok;have hN2:=ho.N2;have HCP:=ae (fun (j F p n':Nat) (wr:World) (hj:l[j]? =some (F,p,n')) (h1:1≤n') (hs:j9 s.E s.to_ s.W p F n') (htp:t≤p) (hpu:p+n'≤u) (hr:dL c s hf hg Fs (Us+cnt (bR mp) (t/s.P) ((u-1)/s.P+1)) high1 Sm1 mp1 (j5 s M1 t p) Mv fw n left fr ah wr∧Fr (fun k=>Sm1 k∨w3.heap.size≤k) w3 wr)=>
  (let hb:=ux ho hk htd hud htp hpu h1 hs
   (uQ hr.1 F p n' (xM ho HP.out hk hkm htd hud hb h1 n2 n3 ht.hd HW.out.to_ (by have:=ht.to_;omega))).mono (fun e w' ⟨q1,q2,q3⟩=>(⟨q1,by rw [yr ho hb (by omega) (by omega)] at q2;exact q2,hr.2.trans q3 (fun k hk=> .inl (.inl hk))⟩:e=Ending.returned (.tuple #[])∧dL c s hf hg Fs (Us+cnt (bR mp) (t/s.P) ((u-1)/s.P+1)) high1 Sm1 mp1 (j5 s M1 t (p+n')) Mv fw n left fr ah w'∧Fr (fun k=>Sm1 k∨w3.heap.size≤k) w3 w'))))
 have H3:=ae (⟨by rw [th];exact hw3,Fr.refl _ _⟩:dL c s hf hg Fs (Us+cnt (bR mp) (t/s.P) ((u-1)/s.P+1)) high1 Sm1 mp1 (j5 s M1 t t) Mv fw n left fr ah w3∧Fr (fun k=>Sm1 k∨w3.heap.size≤k) w3 w3);have HPR:=ae (fun (wr:World) (hf:Fr (fun k=>Sm1 k∨w3.heap.size≤k) w3 wr)=>hpr.frame hf (fun h=>by rcases h with h|h;exact hgS h;omega));have HPC:=ae hpc;have HNX:=ae (fun (j p:Nat) (hh:gX s.E s.to_ s.W p (l.drop j) u) (hj:j<l.length)=>rY hh hj);have HFR:=ae (fun (w4 w5:World) (h4:dL c s hf hg Fs (Us+cnt (bR mp) (t/s.P) ((u-1)/s.P+1)) high1 Sm1 mp1 (j5 s M1 t t) Mv fw n left fr ah w4∧Fr (fun k=>Sm1 k∨w3.heap.size≤k) w3 w4) (hf:Fr (fun _=>False) w4 w5)=>af (h4.1.Fh hf) (h4.2.trans hf (fun _ h=>h.elim)));have HH:=ae (af hf3 (af hgS (af hg3 hgb)));have hS3:Hid ((Tryz.prog.info? 286).map (·.size)=some 3):=by show _=_;kernel_rfl
 have hl1:l.length≤1048576:=by have:=ht.N;have:=ht.to_;omega
 clear hrow hpc hf3 hpr hw2 n2 n3 n4 n5 hw3 hgS hg3 hfw hn hS ht hka hk hkm htd hud ho HP2 c8 hgb hN2;go_wp2
 go_loopw [46] (fun x wr=>∃j p:Nat,x= .int .i64 j∧j≤l.length∧t≤p∧gX s.E s.to_ s.W p (l.drop j) u∧Hid (dL c s hf hg Fs (Us+cnt (bR mp) (t/s.P) ((u-1)/s.P+1)) high1 Sm1 mp1 (j5 s M1 t p) Mv fw n left fr ah wr∧Fr (fun k=>Sm1 k∨w3.heap.size≤k) w3 wr)) (fun x _=>(l.length-intOf x).toNat)
 case atStart=>exact ⟨0,t,rfl,Nat.zero_le _,Nat.le_refl _,by simpa using HPC.out,H3⟩
 case round=>
  clear H3 HFR;obtain ⟨j,p,rfl,hj,htp,hpd,hr⟩:=hrel;by_cases hlt:j<l.length
  ·obtain ⟨F,n',hx,hn1,hsd,hpd2⟩:=HNX.out j p hpd hlt;have hpu:=gL hpd2;have HC:=ae (fun w5 (hf:Fr (fun _=>False) wr w5)=>HCP.out j F p n' w5 hx hn1 hsd htp (by omega) ⟨hr.out.1.Fh hf,hr.out.2.trans hf (fun _ h=>h.elim)⟩);have hrg:=HPR.out wr hr.out.2 j _ hx;rw [Nat.mul_comm] at hrg;have e0:=hrg 0 _ rfl;have e1:=hrg 1 _ rfl;have e2:=hrg 2 _ rfl;rw [Nat.add_zero] at e0;dsimp only at e0 e1 e2;have HPD2:=ae hpd2;have c1:(j:Int)<(l.length:Int):=by omega
   clear hr HCP HPR HNX hpd hpd2 hsd hx hrg;go_wp2_with fail
   refine (HC.out _ ((Fr.refl _ wr).alloc _)).mono ?_;rintro e w6 ⟨rfl,hq⟩;have HQ6:=ae hq;clear hq HC e0 e1 e2;go_wp2;go_roundw
   case rel=>exact ⟨j+1,p+n',by go_num,by omega,by omega,HPD2.out,HQ6⟩
   case measure=>simp [intOf];omega
  ·have hjl:j=l.length:=by omega
   subst hjl;obtain ⟨w4,e4⟩:∃w4,w4=wr:=⟨_,rfl⟩;subst e4;have hpu:p=u:=by
    rw [List.drop_length] at hpd;exact hpd
   subst hpu;have c1:¬(l.length:Int)<(l.length:Int):=by omega
   obtain ⟨hw4,hf4⟩:=hr.out;obtain ⟨hw2,n2,n3,n4,n5⟩:=H2.out;obtain ⟨hf3,hgS,hg3,hgb⟩:=HH.out;obtain ⟨hfw,hn,hS,ht,hka,hk,hkm,htd,hud⟩:=HX.out;have ho:=ht.ok;have hN2:=ho.N2;have hpr4:=HPR.out w4 hf4;have hgw:g≠c.wb:=fun e=>by have:=hw2.wds.lt;omega
   have hD0:iz c s hf hg Fs Mv n left fr ah (j5 s M1 t p) (cU s (cA (da Mv) k) top) Sm1 w4 (mr (aY s.B (da Mv)) (k*s.B) (t-s.to_)) w4:=by
    rw [show t-s.to_=k*s.B by omega,tf];exact ⟨_,_,Sm1,mp1,_,fw,hw4,HP.out.drn ho hk htd hud n2 hfw,fun _ _ _=>rfl,Fr.refl _ _,fun _ h=> .inl h⟩
   have HDR:=ae (fun (j F q n':Nat) (wq:World) (hj:l[j]? =some (F,q,n')) (h1:1≤n') (hs:j9 s.E s.to_ s.W q F n') (htp:t≤q) (hpu:q+n'≤p) (hr:iz c s hf hg Fs Mv n left fr ah (j5 s M1 t p) (cU s (cA (da Mv) k) top) Sm1 w4 (mr (aY s.B (da Mv)) (k*s.B) (q-s.to_)) wq)=>
    (let hb:yn s (da Mv) k t p F q n':=ux ho hk htd hud htp hpu h1 hs
     let hat:=hb.at_ h1
     (sr ho.P1 hn ho.W1 hr F q n' (by have:=(hb.live (n'-1) (by omega)).2.1;omega) (fun i hi=>⟨(hb.live i hi).1,(hb.live i hi).2.2.2.1⟩) (fun i hi=>by
      have h6:da Mv ((br s.E F+i)/s.B)=false:=by rw [←(hb.live i hi).2.2.2.1,(hb.live i hi).2.2.2.2];exact hkm
      unfold mr aY;rw [h6,decide_eq_false (by omega)];rfl)).mono (fun e w' ⟨q1,q2⟩=>(⟨q1,by rw [yp hb h1 (by omega) (by omega)] at q2;exact q2⟩:e=Ending.returned (.tuple #[])∧iz c s hf hg Fs Mv n left fr ah (j5 s M1 t p) (cU s (cA (da Mv) k) top) Sm1 w4 (mr (aY s.B (da Mv)) (k*s.B) (q+n'-s.to_)) w'))))
   have HPR2:=ae (fun (wq:World) (X:Nat→Bool) (hr:iz c s hf hg Fs Mv n left fr ah (j5 s M1 t p) (cU s (cA (da Mv) k) top) Sm1 w4 X wq)=>(show me wq g l from by
    obtain ⟨_,_,_,_,_,_,_,_,_,q4,_⟩:=hr;exact hpr4.frame q4 (fun h=>by rcases h with h|h;exact hgS h;exact hgw h)))
   have HD0:=ae hD0;have HR:=ae (af hw4 hf4);clear hw4 hf4 hw2 n2 n3 n4 n5 hf3 hgS hg3 hgb hfw hn hS ht hka hk hkm htd hud ho hN2 hpr4 hgw hD0 hr hpd HCP HPR hlt htp;go_wp2
   go_loopw [56] (fun x wq=>∃j q:Nat,x= .int .i64 j∧j≤l.length∧t≤q∧gX s.E s.to_ s.W q (l.drop j) p∧Hid (iz c s hf hg Fs Mv n left fr ah (j5 s M1 t p) (cU s (cA (da Mv) k) top) Sm1 w4 (mr (aY s.B (da Mv)) (k*s.B) (q-s.to_)) wq)) (fun x _=>(l.length-intOf x).toNat)
   case atStart=>exact ⟨0,t,rfl,Nat.zero_le _,Nat.le_refl _,by simpa using HPC.out,HD0⟩
   case round=>
    clear HD0;obtain ⟨j,q,rfl,hj,htp,hpd,hr⟩:=hrel;by_cases hlt:j<l.length
    ·obtain ⟨F,n',hx,hn1,hsd,hpd2⟩:=HNX.out j q hpd hlt;have hpu:=gL hpd2;have HC:=ae (fun w5 (hf:Fr (fun _=>False) wr w5)=>HDR.out j F q n' w5 hx hn1 hsd htp (by omega) (hr.out.Fh hf));have hrg:=HPR2.out wr _ hr.out j _ hx;rw [Nat.mul_comm] at hrg;have e0:=hrg 0 _ rfl;have e1:=hrg 1 _ rfl;have e2:=hrg 2 _ rfl;rw [Nat.add_zero] at e0;dsimp only at e0 e1 e2;have HPD2:=ae hpd2;have c2:(j:Int)<(l.length:Int):=by omega
     clear hr HDR HPR2 HNX hpd hpd2 hsd hx hrg;go_wp2_with fail
     refine (HC.out _ ((Fr.refl _ wr).alloc _)).mono ?_;rintro e w6 ⟨rfl,hq⟩;have HQ6:=ae hq;clear hq HC e0 e1 e2;go_wp2;go_roundw
     case rel=>exact ⟨j+1,q+n',by go_num,by omega,by omega,HPD2.out,HQ6⟩
     case measure=>simp [intOf];omega
    ·have hjl:j=l.length:=by omega
     subst hjl;have hqu:q=p:=by
      rw [List.drop_length] at hpd;exact hpd
     subst hqu;clear HDR HPR2 HNX hpd hlt htp;obtain ⟨w5,e5⟩:∃w5,w5=wr:=⟨_,rfl⟩;subst e5;obtain ⟨used3,high3,Sm3,mp3,M3,fw3,hw5,hd5,hM5,hf5,hs5⟩:=hr.out;obtain ⟨hw4,hf4⟩:=HR.out;obtain ⟨hw2,n2,n3,n4,n5⟩:=H2.out;obtain ⟨hf3,hgS,hg3,hgb⟩:=HH.out;obtain ⟨hfw,hn,hS,ht,hka,hk,hkm,htd,hud⟩:=HX.out;have ho:=ht.ok;have hN2:=ho.N2;have hp:=HP.out;have hkl:k<Mv.length:=by rw [hw5.len,ht.nb];exact hk
     have hmvF:=qw hkl;have hleft:=hp.left;have hl1:1≤left:=by
      have h6:=lx (f:=0) (Nat.zero_le k) hk hkm;have h7:=be (cA (da Mv) k) 0 s.nb;omega
     have hfr0:=hp.front;have hah:=hp.Ah;have hkf:fr≤k:=by
      rcases Nat.lt_or_ge k fr with hh|hh
      ·rw [hfr0.1 k hh] at hkm;cases hkm
      ·exact hh
     rw [show q-s.to_=min (k*s.B+s.B) s.N by omega] at hd5;have HEND:Hid (∀f a wz,dL c s hf hg Fs used3 high3 Sm3 mp3 M3 (Mv.set k true) fw3 n (left-1) f a wz→Fr (fun j=>j=c.mv∨j=c.y) w5 wz→(∀j,j<f→cA (da Mv) k j=true)→fr≤f→f≤s.nb→(f<s.nb→cA (da Mv) k f=false)→a=cnt (cA (da Mv) k) f s.nb→Q (.returned (.int .i64 0)) wz):=by
      show∀f a wz,_
      intro f a wz b1 b2 b3 b4 b5 b6 b7;obtain ⟨e1,e2⟩:=rv hp hk hkm hka b3 b4 b5 b6 b7;obtain ⟨g1,g2⟩:=hp.move ho hk hkm htd hud ht.top1 n2 n3 hd5 (fun b hb hm=>hM5 b hb hm) ⟨b3,b5,b6⟩ ⟨b7,e1⟩ (show left-1+1=left by omega);rw [←hmvF] at g1 g2;refine HQ.out f a (fun j=>Sm3 j∨c.has j) wz ⟨used3,high3,Sm3,mp3,M3,fw3,n,b1,g1,g2,hn,fun j=>Iff.rfl⟩ b4 e2 ?_ ?_
      ·have z1:=HF1.out.size;have z2:=n4.size;have z3:=hf3.size;have hSm1:∀j,Sm1 j→Sm j∨w.heap.size≤j:=fun j hj=>(n5 j hj).imp id (fun h=>by omega)
       refine ((((((HF1.out.mono (S':=S) (fun _ h=>h.elim)).trans n4 (fun j hj=> .inl ((hS j).2 (.inl hj)))).trans hf3 (fun _ h=>h.elim)).trans hf4 (fun j hj=> ?_)).trans hf5 (fun j hj=> ?_)).trans b2 (fun j hj=> ?_))
       ·rcases hj with h|h
        ·exact (hSm1 j h).imp (fun h=>(hS j).2 (.inl h)) id
        ·exact .inr (by omega)
       ·rcases hj with h|h
        ·exact (hSm1 j h).imp (fun h=>(hS j).2 (.inl h)) id
        ·exact .inl ((hS j).2 (.inr (.inr (.inr (.inl h)))))
       ·rcases hj with h|h
        ·exact .inl ((hS j).2 (.inr (.inr (.inl h))))
        ·exact .inl ((hS j).2 (.inr (.inl h)))
      ·intro j hj;have z1:=HF1.out.size;have z2:=n4.size;have z3:=hf3.size;have z4:=hf4.size;rcases hj with h|h
       ·rcases hs5 j h with h|h
        ·rcases n5 j h with h|h
         ·exact .inl ((hS j).2 (.inl h))
         ·exact .inr (by omega)
        ·exact .inr (by omega)
       ·exact .inl ((hS j).2 (.inr h))
     have hW6:∀W6,w5.setCell ⟨c.mv,k,none⟩ (.bool true)=W6→dL c s hf hg Fs used3 high3 Sm3 mp3 M3 (Mv.set k true) fw3 n left fr ah W6∧Fr (fun j=>j=c.mv∨j=c.y) w5 W6:=by
      rintro W6 rfl;have f6:Fr (fun j=>j=c.mv) w5 (w5.setCell ⟨c.mv,k,none⟩ (.bool true)):=(Fr.refl (fun j=>j=c.mv) w5).setCell ⟨c.mv,k,none⟩ (.inl rfl) _;refine ⟨hw5.mv_ ?_ (by rw [List.length_set];exact hw5.len) f6,f6.mono (fun _ h=> .inl (.inl h))⟩;have:=hw5.mv.set k (.bool true);unfold ol at*;rwa [List.map_set]
     have hW8:∀W6 W7 W8,dL c s hf hg Fs used3 high3 Sm3 mp3 M3 (Mv.set k true) fw3 n left fr ah W6→Fr (fun j=>j=c.mv∨j=c.y) w5 W6→W6.setCell ⟨c.y,11,none⟩ (.int .i64 ((left-1:Nat):Int))=W7→W7.setCell ⟨c.y,13,none⟩ (.int .i64 ((ah+1:Nat):Int))=W8→dL c s hf hg Fs used3 high3 Sm3 mp3 M3 (Mv.set k true) fw3 n (left-1) fr (ah+1) W8∧Fr (fun j=>j=c.mv∨j=c.y) w5 W8:=by
      rintro W6 W7 W8 b1 b2 rfl rfl;have f7:Fr (fun j=>j=c.y) W6 ((W6.setCell ⟨c.y,11,none⟩ (.int .i64 ((left-1:Nat):Int))).setCell ⟨c.y,13,none⟩ (.int .i64 ((ah+1:Nat):Int))):=((Fr.refl (fun j=>j=c.y) W6).setCell ⟨c.y,11,none⟩ (.inl rfl) _).setCell ⟨c.y,13,none⟩ (.inl rfl) _;exact ⟨b1.y_ ((b1.blk.set 11 _).set 13 _) f7,b2.trans f7 (fun _ h=> .inl (.inr h))⟩
     have HW6:=ae hW6;have HW8:=ae hW8;have hC7:∀W6,dL c s hf hg Fs used3 high3 Sm3 mp3 M3 (Mv.set k true) fw3 n left fr ah W6→(W6.cell? ⟨c.y,11,none⟩=some (.int .i64 left)∧W6.frozen? ⟨c.y,11,none⟩=false)∧∀W7,W6.setCell ⟨c.y,11,none⟩ (.int .i64 ((left-1:Nat):Int))=W7→W7.cell? ⟨c.y,13,none⟩=some (.int .i64 ah)∧W7.frozen? ⟨c.y,13,none⟩=false:=by
      intro W6 b1;refine ⟨⟨b1.blk.cell 11 rfl,b1.blk.free 11⟩,?_⟩;rintro W7 rfl;exact ⟨(b1.blk.set 11 _).cell 13 rfl,(b1.blk.set 11 _).free 13⟩
     have HC7:=ae hC7;have c10:=hw5.blk.cell 10 rfl;have d0:=hw5.mv.cell k (fx hkl);have d1:=hw5.mv.free k;have HNX2:=ae (af hfr0 (af hah (af hk (af hkm (af hkf (af hkl (af hmvF (af ht hw5.len))))))));have hkn:k<c.nb:=by rw [ht.nb];exact hk
     have hknI:(k:Int)<(c.nb:Int):=by omega
     have hlI:(left:Int)≤1048576:=by have:=ht.N;have h8:=ht.nb;have:s.nb≤1048576:=by {have h9:s.nb=gS s.N s.B:=rfl;unfold gS at h9;have:=Nat.div_le_self (s.N+s.B-1) s.B;have:=ht.B;omega};omega
     have hlW:IntKind.i64.wrap ((left:Int)-1)=((left-1:Nat):Int):=by rw [IntKind.wrap_i64];omega
     have haW:IntKind.i64.wrap ((ah:Int)+1)=((ah+1:Nat):Int):=by have:=ht.a16;rw [IntKind.wrap_i64];omega
     clear hw5 hd5 hM5 hf5 hs5 hw4 hf4 hw2 n2 n3 n4 n5 hf3 hgS hg3 hgb hfw hn hS ht hka hk hkm htd hud ho hN2 hp hkl hmvF hleft hl1 hfr0 hah hkf hW6 hW8 hC7 hr HQ HR H2 HH HX HP HPC HF1 HW
     go_upto_region 17 with fail
     obtain ⟨W6,hW6⟩:∃W6,w5.setCell ⟨c.mv,k,none⟩ (.bool true)=W6:=⟨_,rfl⟩;rw [hW6];obtain ⟨b1,b2⟩:=HW6.out W6 hW6;have c0:=b1.blk.cell 0 rfl;obtain ⟨⟨k1,k2⟩,k3⟩:=HC7.out W6 b1;have K3:=ae k3;have B6:=ae (af b1 b2);clear hW6 b1 b2 k3 HW6 HC7 c10 d0 d1 c0
     go_upto_region 18 with fail
     obtain ⟨W7,hW7⟩:∃W7,W6.setCell ⟨c.y,11,none⟩ (.int .i64 ((left-1:Nat):Int))=W7:=⟨_,rfl⟩;rw [hW7];obtain ⟨k3,k4⟩:=K3.out W7 hW7;have HW7:=ae hW7;clear hW7 k1 k2 K3
     go_upto_region 19 with fail
     obtain ⟨W8,hW8⟩:∃W8,W7.setCell ⟨c.y,13,none⟩ (.int .i64 ((ah+1:Nat):Int))=W8:=⟨_,rfl⟩;rw [show (ah:Int)+1=((ah+1:Nat):Int) by push_cast;rfl,hW8];have H8:=ae (HW8.out W6 W7 W8 B6.out.1 B6.out.2 HW7.out hW8);clear hW8 HW7 HW8 B6 k3 k4
     go_loopw [] (fun wz=>∃f a:Nat,Hid ((dL c s hf hg Fs used3 high3 Sm3 mp3 M3 (Mv.set k true) fw3 n (left-1) f a wz∧Fr (fun j=>j=c.mv∨j=c.y) w5 wz)∧(∀j,j<f→cA (da Mv) k j=true)∧fr≤f∧f≤s.nb∧a=cnt (cA (da Mv) k) f s.nb)) (fun wz=>c.nb-kg wz c.y)
     case atStart=>
      obtain ⟨x1,x2,x3,x4,x5,x6,x7,x8,x9⟩:=HNX2.out;refine ⟨fr,ah+1,ae ⟨H8.out,fun j hj=>by unfold cA;rw [x1.1 j hj];rfl,Nat.le_refl _,x1.2.1,?_⟩⟩;rw [lx x5 x3 x4,x2.1]
     case round=>
      clear H8;obtain ⟨f,a,hr⟩:=hrel;obtain ⟨⟨b1,b2⟩,b3,b4,b5,b6⟩:=hr.out;obtain ⟨x1,x2,x3,x4,x5,x6,x7,x8,x9⟩:=HNX2.out;have c12:=b1.blk.drew.cell 12 rfl;have c10:=b1.blk.drew.cell 10 rfl;have hnbS:c.nb=s.nb:=x8.nb;have hnbI:(c.nb:Int)≤1048576:=by have:=x8.N;have:s.nb≤1048576:=by {have h9:s.nb=gS s.N s.B:=rfl;unfold gS at h9;have:=Nat.div_le_self (s.N+s.B-1) s.B;have:=x8.B;omega};omega
      have hlen:(Mv.set k true).length=c.nb:=by rw [List.length_set];exact x9
      by_cases hfn:f<s.nb
      ·have d0:=b1.mv.drew.cell f (fx (by rw [hlen,hnbS];exact hfn));have hmf:(Mv.set k true).getD f false=cA (da Mv) k f:=by rw [←x7];rfl
       rw [hmf] at d0;have hfI:(f:Int)<(c.nb:Int):=by omega
       cases hmk:cA (da Mv) k f with
       |true=>
        rw [hmk] at d0;have hal:1≤a:=by
         have h6:=ia (Nat.le_refl f) hfn hmk;omega
        have hca:a-1=cnt (cA (da Mv) k) (f+1) s.nb:=by
         have h6:=aw (cA (da Mv) k) (show f≤f+1 by omega) (show f+1≤s.nb by omega);rw [aC _ (Nat.le_refl f),bc,hmk] at h6;simp only [if_true] at h6;omega
        have halI:(a:Int)≤1048576:=by
         have h6:=be (cA (da Mv) k) f s.nb;omega
        have haW2:IntKind.i64.wrap ((a:Int)-1)=((a-1:Nat):Int):=by rw [IntKind.wrap_i64];omega
        have hfW:IntKind.i64.wrap ((f:Int)+1)=((f+1:Nat):Int):=by rw [IntKind.wrap_i64];omega
        have fr12:=b1.blk.drew.free 12;have HR2:Hid (∀Wa,wr.drew.setCell ⟨c.y,12,none⟩ (.int .i64 ((f+1:Nat):Int))=Wa→(Wa.cell? ⟨c.y,13,none⟩=some (.int .i64 a)∧Wa.frozen? ⟨c.y,13,none⟩=false)∧∀Wb,Wa.setCell ⟨c.y,13,none⟩ (.int .i64 ((a-1:Nat):Int))=Wb→kg Wb c.y=f+1∧((dL c s hf hg Fs used3 high3 Sm3 mp3 M3 (Mv.set k true) fw3 n (left-1) (f+1) (a-1) Wb∧Fr (fun j=>j=c.mv∨j=c.y) w5 Wb)∧(∀j,j<f+1→cA (da Mv) k j=true)∧fr≤f+1∧f+1≤s.nb∧a-1=cnt (cA (da Mv) k) (f+1) s.nb)):=by
         show∀Wa,_
         rintro Wa rfl;refine ⟨⟨(b1.blk.drew.set 12 _).cell 13 rfl,(b1.blk.drew.set 12 _).free 13⟩,?_⟩;rintro Wb rfl;have f7:Fr (fun j=>j=c.y) wr.drew ((wr.drew.setCell ⟨c.y,12,none⟩ (.int .i64 ((f+1:Nat):Int))).setCell ⟨c.y,13,none⟩ (.int .i64 ((a-1:Nat):Int))):=((Fr.refl (fun j=>j=c.y) wr.drew).setCell ⟨c.y,12,none⟩ (.inl rfl) _).setCell ⟨c.y,13,none⟩ (.inl rfl) _;have g1:=(b1.Fh ((Fr.refl _ wr).drew)).y_ ((b1.blk.drew.set 12 _).set 13 _) f7;refine ⟨?_,⟨⟨g1,(b2.drew).trans f7 (fun _ h=> .inl (.inr h))⟩,fun j hj=> ?_,by omega,by omega,hca⟩⟩
         ·unfold kg;rw [g1.blk.cell 12 rfl];rfl
         ·by_cases e:j=f
          ·rw [e];exact hmk
          ·exact b3 j (by omega)
        have hfo:kg wr c.y=f:=by
         unfold kg;rw [b1.blk.cell 12 rfl];rfl
        clear x1 x2 x3 x4 x5 x6 x7 x8 x9 hr b1 b2 b3 b4 b5 b6 hca hmk hmf;go_wp2;refine ar (fun w'=>w'=wr.drew) (by kernel_rfl) (by kernel_rfl) rfl ?_;refine ag (.pointer (some ⟨c.y,0,none⟩)) rfl (fun w' hw=>by go_simp) ?_;simp only [Act.put,aa,ab,ac];refine ag (.pointer (some ⟨c.y,0,none⟩)) rfl (fun w' hw=>by go_simp) ?_;simp only [Act.put,aa,ab,ac];refine ag (.pointer (some ⟨c.y,12,none⟩)) rfl (fun w' hw=>by go_simp) ?_;simp only [Act.put,aa,ab,ac];refine ag (.int .i64 f) rfl (fun w' hw=>by subst hw;go_simp) ?_;simp only [Act.put,aa,ab,ac];refine ag (.pointer (some ⟨c.y,0,none⟩)) rfl (fun w' hw=>by go_simp) ?_;simp only [Act.put,aa,ab,ac];refine ag (.pointer (some ⟨c.y,0,none⟩)) rfl (fun w' hw=>by go_simp) ?_;simp only [Act.put,aa,ab,ac];refine ag (.pointer (some ⟨c.y,10,none⟩)) rfl (fun w' hw=>by go_simp) ?_;simp only [Act.put,aa,ab,ac];refine ag (.slice (some ⟨c.mv,0,none⟩) c.nb c.nb) rfl (fun w' hw=>by subst hw;go_simp) ?_;simp only [Act.put,aa,ab,ac];refine ag (.int .i64 (c.nb:Int)) rfl (fun w' hw=>by go_simp) ?_;simp only [Act.put,aa,ab,ac];refine ag (.bool true) rfl (fun w' hw=>by go_simp) ?_;simp only [Act.put,aa,ab,ac];refine ag (.bool true) rfl (fun w' hw=>by go_simp) ?_;simp only [Act.put,aa,ab,ac];refine al (.pointer (some ⟨c.y,0,none⟩)) rfl (fun w' hw=>by go_simp) ?_;simp only [Act.put,aa,ab,ac];refine al (.pointer (some ⟨c.y,0,none⟩)) rfl (fun w' hw=>by go_simp) ?_;simp only [Act.put,aa,ab,ac];refine al (.pointer (some ⟨c.y,10,none⟩)) rfl (fun w' hw=>by go_simp) ?_;simp only [Act.put,aa,ab,ac];refine al (.slice (some ⟨c.mv,0,none⟩) c.nb c.nb) rfl (fun w' hw=>by subst hw;go_simp) ?_;simp only [Act.put,aa,ab,ac];refine al (.pointer (some ⟨c.y,0,none⟩)) rfl (fun w' hw=>by go_simp) ?_;simp only [Act.put,aa,ab,ac];refine al (.pointer (some ⟨c.y,0,none⟩)) rfl (fun w' hw=>by go_simp) ?_;simp only [Act.put,aa,ab,ac];refine al (.pointer (some ⟨c.y,12,none⟩)) rfl (fun w' hw=>by go_simp) ?_;simp only [Act.put,aa,ab,ac];refine al (.int .i64 f) rfl (fun w' hw=>by subst hw;go_simp) ?_;simp only [Act.put,aa,ab,ac];refine al (.pointer (some ⟨c.mv,f,none⟩)) rfl (fun w' hw=>by go_simp) ?_;simp only [Act.put,aa,ab,ac];refine al (.bool true) rfl (fun w' hw=>by subst hw;go_simp) ?_;simp only [Act.put,aa,ab,ac];refine ag (.bool true) rfl (fun w' hw=>by go_simp) ?_;simp only [Act.put,aa,ab,ac];refine wpQuiet_nil ?_;rintro w2 rfl
        go_upto_region 21 with fail
        obtain ⟨Wa,hWa⟩:∃Wa,(wr.setCell ⟨c.y,12,none⟩ (.int .i64 ((f:Int)+1))).drew=Wa:=⟨_,rfl⟩;rw [hWa];obtain ⟨⟨k3,k4⟩,hz⟩:=HR2.out Wa (by rw [←hWa];rfl);have HZ:=ae hz;clear hz HR2 hWa c12 c10 d0 fr12;go_wp2;go_roundw
        case rel=>exact ⟨f+1,a-1,ae (HZ.out _ rfl).2⟩
        case measure=>
         rw [(HZ.out _ rfl).1,hfo];omega
       |false=>
        rw [hmk] at d0;have HE:=ae (HEND.out f a wr.drew (b1.Fh ((Fr.refl _ wr).drew)) (b2.trans (S':=fun _=>False) ((Fr.refl _ wr).drew) (fun _ h=>h.elim)) b3 b4 b5 (fun _=>hmk) b6);clear x1 x2 x3 x4 x5 x6 x7 x8 x9 hr b1 b2 b3 b4 b5 b6 hmk hmf;go_wp2;refine ar (fun w'=>w'=wr.drew) (by kernel_rfl) (by kernel_rfl) rfl ?_;refine ag (.pointer (some ⟨c.y,0,none⟩)) rfl (fun w' hw=>by go_simp) ?_;simp only [Act.put,aa,ab,ac];refine ag (.pointer (some ⟨c.y,0,none⟩)) rfl (fun w' hw=>by go_simp) ?_;simp only [Act.put,aa,ab,ac];refine ag (.pointer (some ⟨c.y,12,none⟩)) rfl (fun w' hw=>by go_simp) ?_;simp only [Act.put,aa,ab,ac];refine ag (.int .i64 f) rfl (fun w' hw=>by subst hw;go_simp) ?_;simp only [Act.put,aa,ab,ac];refine ag (.pointer (some ⟨c.y,0,none⟩)) rfl (fun w' hw=>by go_simp) ?_;simp only [Act.put,aa,ab,ac];refine ag (.pointer (some ⟨c.y,0,none⟩)) rfl (fun w' hw=>by go_simp) ?_;simp only [Act.put,aa,ab,ac];refine ag (.pointer (some ⟨c.y,10,none⟩)) rfl (fun w' hw=>by go_simp) ?_;simp only [Act.put,aa,ab,ac];refine ag (.slice (some ⟨c.mv,0,none⟩) c.nb c.nb) rfl (fun w' hw=>by subst hw;go_simp) ?_;simp only [Act.put,aa,ab,ac];refine ag (.int .i64 (c.nb:Int)) rfl (fun w' hw=>by go_simp) ?_;simp only [Act.put,aa,ab,ac];refine ag (.bool true) rfl (fun w' hw=>by go_simp) ?_;simp only [Act.put,aa,ab,ac];refine ag (.bool true) rfl (fun w' hw=>by go_simp) ?_;simp only [Act.put,aa,ab,ac];refine al (.pointer (some ⟨c.y,0,none⟩)) rfl (fun w' hw=>by go_simp) ?_;simp only [Act.put,aa,ab,ac];refine al (.pointer (some ⟨c.y,0,none⟩)) rfl (fun w' hw=>by go_simp) ?_;simp only [Act.put,aa,ab,ac];refine al (.pointer (some ⟨c.y,10,none⟩)) rfl (fun w' hw=>by go_simp) ?_;simp only [Act.put,aa,ab,ac];refine al (.slice (some ⟨c.mv,0,none⟩) c.nb c.nb) rfl (fun w' hw=>by subst hw;go_simp) ?_;simp only [Act.put,aa,ab,ac];refine al (.pointer (some ⟨c.y,0,none⟩)) rfl (fun w' hw=>by go_simp) ?_;simp only [Act.put,aa,ab,ac];refine al (.pointer (some ⟨c.y,0,none⟩)) rfl (fun w' hw=>by go_simp) ?_;simp only [Act.put,aa,ab,ac];refine al (.pointer (some ⟨c.y,12,none⟩)) rfl (fun w' hw=>by go_simp) ?_;simp only [Act.put,aa,ab,ac];refine al (.int .i64 f) rfl (fun w' hw=>by subst hw;go_simp) ?_;simp only [Act.put,aa,ab,ac];refine al (.pointer (some ⟨c.mv,f,none⟩)) rfl (fun w' hw=>by go_simp) ?_;simp only [Act.put,aa,ab,ac];refine al (.bool false) rfl (fun w' hw=>by subst hw;go_simp) ?_;simp only [Act.put,aa,ab,ac];refine ag (.bool false) rfl (fun w' hw=>by go_simp) ?_;simp only [Act.put,aa,ab,ac];refine wpQuiet_nil ?_;rintro w2 rfl;go_wp2;exact HE.out
      ·have HFN:=ae (decide_eq_false (show¬f<c.nb by omega));obtain ⟨B0,hB0⟩:∃B0,B0=decide (f<c.nb):=⟨_,rfl⟩;have HB0:=ae hB0;have HE:=ae (HEND.out f a wr.drew (b1.Fh ((Fr.refl _ wr).drew)) (b2.trans (S':=fun _=>False) ((Fr.refl _ wr).drew) (fun _ h=>h.elim)) b3 b4 b5 (fun h=>absurd h hfn) b6);clear x1 x2 x3 x4 x5 x6 x7 x8 x9 hr b1 b2 b3 b4 b5 b6 hfn hnbS hlen hB0 c1 hj hl1 htu huI hkn hknI hlI hlW haW;go_wp2;refine ar (fun w'=>w'=wr.drew) (by kernel_rfl) (by kernel_rfl) rfl ?_;refine ag (.pointer (some ⟨c.y,0,none⟩)) rfl (fun w' hw=>by go_simp) ?_;simp only [Act.put,aa,ab,ac];refine ag (.pointer (some ⟨c.y,0,none⟩)) rfl (fun w' hw=>by go_simp) ?_;simp only [Act.put,aa,ab,ac];refine ag (.pointer (some ⟨c.y,12,none⟩)) rfl (fun w' hw=>by go_simp) ?_;simp only [Act.put,aa,ab,ac];refine ag (.int .i64 f) rfl (fun w' hw=>by subst hw;go_simp) ?_;simp only [Act.put,aa,ab,ac];refine ag (.pointer (some ⟨c.y,0,none⟩)) rfl (fun w' hw=>by go_simp) ?_;simp only [Act.put,aa,ab,ac];refine ag (.pointer (some ⟨c.y,0,none⟩)) rfl (fun w' hw=>by go_simp) ?_;simp only [Act.put,aa,ab,ac];refine ag (.pointer (some ⟨c.y,10,none⟩)) rfl (fun w' hw=>by go_simp) ?_;simp only [Act.put,aa,ab,ac];refine ag (.slice (some ⟨c.mv,0,none⟩) c.nb c.nb) rfl (fun w' hw=>by subst hw;go_simp) ?_;simp only [Act.put,aa,ab,ac];refine ag (.int .i64 (c.nb:Int)) rfl (fun w' hw=>by go_simp) ?_;simp only [Act.put,aa,ab,ac];refine ag (.bool B0) rfl (fun w' hw=>by rw [HB0.out];go_simp) ?_;simp only [Act.put,aa,ab,ac];refine ag (.bool B0) rfl (fun w' hw=>by go_simp) ?_;simp only [Act.put,aa,ab,ac];have HBF:=HB0.out.trans HFN.out;clear HB0 HFN
       cases B0
       case true=>cases HBF
       go_big_quiet_skip
       go_big_quiet_skip
       go_big_quiet_skip
       go_big_quiet_skip
       go_big_quiet_skip
       go_big_quiet_skip
       go_big_quiet_skip
       go_big_quiet_skip
       go_big_quiet_skip
       go_big_quiet_skip
       refine ag (.bool false) rfl (fun w' hw=>by go_simp) ?_;simp only [Act.put,aa,ab,ac];refine wpQuiet_nil ?_;rintro w2 rfl;go_wp2;exact HE.out
end
section
variable {c:Cy} {s:bg} {hf hg:Nat→Nat} {Fs top:Nat} {S:Nat→Prop} {L:Nat→Nat} {Mv:List Bool} {left fr ah k:Nat} {w w':World}
theorem dZ.stays {T:Nat→Prop} (h:dZ c s hf hg Fs top Mv left fr ah L S w) (hf':Fr T w w') (hn:∀k,S k→¬T k) (ht:¬T aN):dZ c s hf hg Fs top Mv left fr ah L S w':=by
 obtain ⟨Us,Hg,Sm,mp,M,fw,n,q1,q2,q3,q4,q5⟩:=h;exact ⟨Us,Hg,Sm,mp,M,fw,n,q1.frame hf' (fun k hk=>hn k ((q5 k).2 (.inr hk))) (fun k hk=>hn k ((q5 k).2 (.inl hk))) ht,q2,q3,q4,q5⟩
theorem dZ.Fh (h:dZ c s hf hg Fs top Mv left fr ah L S w) (hf':Fr (fun _=>False) w w'):dZ c s hf hg Fs top Mv left fr ah L S w':=h.stays hf' (fun _ _ h=>h) (fun h=>h)
theorem dZ.lt (h:dZ c s hf hg Fs top Mv left fr ah L S w):∀k,S k→k<w.heap.size:=by
 obtain ⟨Us,Hg,Sm,mp,M,fw,n,q1,q2,q3,q4,q5⟩:=h;intro k hk;rcases (q5 k).1 hk with h|h
 ·exact q1.mem.lt k h
 ·exact q1.lt k h
theorem dZ.tabl (h:dZ c s hf hg Fs top Mv left fr ah L S w):aN<w.heap.size:=by
 obtain ⟨Us,Hg,Sm,mp,M,fw,n,q1,_⟩:=h;exact q1.tabl
theorem dZ.cells (ht:pR c s hf hg Fs top) (h:dZ c s hf hg Fs top Mv left fr ah L S w):sK w c left fr ah∧ak w c.mv (ol Mv) 4∧Mv.length=s.nb∧ca c.lo c.hi w c.pl s.W s.B s.E s.to_∧bu w:=by
 obtain ⟨Us,Hg,Sm,mp,M,fw,n,q1,_⟩:=h;exact ⟨q1.blk,q1.mv,by rw [q1.len,ht.nb],by have:=q1.plan;rwa [q1.B,q1.to_] at this,q1.tab⟩
theorem dZ.fronts (h:dZ c s hf hg Fs top Mv left fr ah L S w):((∀k,k<fr→da Mv k=true)∧fr≤s.nb∧(fr<s.nb→da Mv fr=false))∧(ah=cnt (da Mv) fr s.nb∧ah≤s.Ah)∧left+cnt (da Mv) 0 s.nb=s.nb:=by
 obtain ⟨Us,Hg,Sm,mp,M,fw,n,q1,q2,_⟩:=h;exact ⟨q2.front,q2.Ah,q2.left⟩
theorem dZ.open_ (h:dZ c s hf hg Fs top Mv left fr ah L S w) (hl:left≠0):fr<s.nb∧da Mv fr=false:=by
 obtain ⟨⟨f1,f2,f3⟩,_,f4⟩:=h.fronts;rcases Nat.lt_or_ge fr s.nb with h1|h1
 ·exact ⟨h1,f3 h1⟩
 ·have:=ib (f:=da Mv) (a:=0) (b:=s.nb) (fun i _ hi=>f1 i (by omega));omega
def pW (c:Cy) (s:bg) (hf hg:Nat→Nat) (Fs top:Nat) (Mv:List Bool) (left fr:Nat) (L:Nat→Nat) (S:Nat→Prop) (w:World) (e:Ending) (w':World):Prop:=
 e= .returned (.tuple #[.bool true,.int .i64 0])∧∃fr' ah' S',dZ c s hf hg Fs top (Mv.set fr true) (left-1) fr' ah' L S' w'∧fr<fr'∧Fr S w w'∧∀j,S' j→S j∨w.heap.size≤j
theorem nO (ht:pR c s hf hg Fs top) (h:dZ c s hf hg Fs top Mv left fr ah L S w) (hl:left≠0):
  Calls Tryz.prog 65 #[c.y] w (pW c s hf hg Fs top Mv left fr L S w):=by
 obtain ⟨h1,h2⟩:=h.open_ hl;obtain ⟨b1,_⟩:=dZ.cells ht h;have HM:=ae (nM ht h h1 h2 (.inl rfl));have c11:=b1.cell 11 rfl;have c12:=b1.cell 12 rfl;have hl0:((left:Int)==0)=false:=by rw [beq_eq_false_iff_ne];omega
 have hl1:¬(left:Int)=0:=by omega
 have HQ:Hid (∀e w',vy c s hf hg Fs top Mv left fr fr L S w e w'→e= .returned (.int .i64 0)∧pW c s hf hg Fs top Mv left fr L S w (.returned (.tuple #[.bool true,.int .i64 0])) w'):=by
  show∀e w',_
  rintro e w' ⟨rfl,fr',ah',S',q1,q2,q3,q4,q5⟩;exact ⟨rfl,rfl,fr',ah',S',q1,q3 rfl,q4,q5⟩
 clear ht h b1 h1 h2 hl;generalize (pW c s hf hg Fs top Mv left fr L S w)=Q at*
 go_enter Tryz.func65,Tryz.ntmps65
 go_wp2_with fail
 refine (HM.out).mono ?_;intro e w1 hp;obtain ⟨rfl,hq⟩:=HQ.out _ _ hp;have H:=ae hq;clear hp hq HM HQ c11 c12;go_wp2;exact H.out
theorem uU (ht:pR c s hf hg Fs top) (h:dZ c s hf hg Fs top Mv left fr ah L S w) (a:Nat) (h1:s.to_≤a) (h2:a<top):
  Calls Tryz.prog 320 #[c.y,.int .i64 a] w fun e w'=>e= .returned (.tuple #[.int .u64 ((L a:Nat):Int),.int .i64 0])∧Fr (fun _=>False) w w':=by
 obtain ⟨Us,Hg,Sm,mp,M,fw,n,hw,hp,_,_,_⟩:=h;have ho:=ht.ok;have hto:=ht.to_;have hpl:ca c.lo c.hi w c.pl s.W s.B s.E s.to_:=by have:=hw.plan;rwa [hw.B,hw.to_] at this
 have haW:a<s.W:=by have:=ht.top1;have:=ho.to2;omega
 have c0:=hw.blk.cell 0 rfl;have c8:=hw.blk.cell 8 rfl;rcases Nat.lt_or_ge a (s.to_+s.N) with haN|haN
 ·obtain ⟨b,b1,b2,b3⟩:=o0 (E:=s.E) (W:=s.W) (i:=a-s.to_) (by have:s.N=cnt (aj s.E) 0 s.W:=rfl;omega);have hFb:s.F b=a:=by show s.to_+br s.E b=a;omega
  have HB:=ae (kU hpl hw.tab (by omega) a h1 haN);have hkb:(a-s.to_)/s.B<s.nb:=by
   have h3:s.nb=gS s.N s.B:=rfl;have h4:=pw (N:=s.N) (k:=s.B) ho.B1;rw [h3,Nat.div_lt_iff_lt_mul (by have:=ho.B1;omega)];omega
  have hkl:(a-s.to_)/s.B<Mv.length:=by rw [hw.len,ht.nb];exact hkb
  have hkn:(((a-s.to_)/s.B:Nat):Int)<(c.nb:Int):=by rw [ht.nb];omega
  have c10:=hw.blk.cell 10 rfl;have d0:=hw.mv.cell _ (fx hkl)
  cases hm:da Mv ((a-s.to_)/s.B) with
  |true=>
   have hL:M a=L a:=by
    have:=hp.moved b b1 b2 (by rw [b3];exact hm);rwa [hFb] at this
   have hpg:mp (a/s.P)=true:=by
    have:=hp.to_page ho b2 (by rw [b3];exact hm);rwa [hFb] at this
   have HLD:=ae (fun w1 (hf:Fr (fun _=>False) w w1)=>dH (hw.mem.keep hf) a haW hpg);rw [hL] at HLD;have HC:=ae (fun w1 (hf:Fr (fun _=>False) w w1)=>af ((hw.Fh hf).blk.cell 0 rfl) (af ((hw.Fh hf).blk.cell 10 rfl) ((hw.Fh hf).mv.cell _ (fx hkl))));rw [show Mv.getD ((a-s.to_)/s.B) false=true from hm] at HC;clear hw hp ht ho hpl hFb b1 b2 b3 hL hpg hm d0 c10 c0 hkb;generalize (a-s.to_)/s.B=kk at*;generalize L a=X at*
   go_enter Tryz.func320,Tryz.ntmps320
   go_wp2_with fail
   refine (HB.out).mono ?_;rintro e w1 ⟨rfl,hf1⟩;obtain ⟨c0,c10,d0⟩:=HC.out w1 hf1;have HL1:=ae (HLD.out w1 hf1);have HF:=ae hf1;clear hf1 HB HLD HC c8;go_wp2_with fail
   refine (HL1.out).mono ?_;rintro e w2 ⟨rfl,hf2⟩;have H:=ae (HF.out.trans hf2 (fun _ h=>h.elim));clear hf2 HL1 c0 c10 d0;go_wp2;go_ret2;exact ⟨rfl,H.out⟩
  |false=>
   have hmb:da Mv (br s.E b/s.B)=false:=by rw [b3];exact hm
   have hL:gT s.E s.hp M s.F b=L a:=by
    have:=hp.still b b1 b2 hmb;rwa [hFb] at this
   have hpg:=hp.from_page ho b2 hmb;have hob:=bX b2;have hW9:=hw.mem.at.2.2.1;obtain ⟨ns,f,q1,q2⟩:=hw.shp;have HLK:=ae (fun w1 (hf:Fr (fun _=>False) w w1)=>(q1.frame hf (fun h=>h)).look (aT s.E b) (by omega));rw [q2 _ (by omega)] at HLK;have HFR:=ae (fun w1 (hf:Fr (fun _=>False) w w1) p (hh:cB c.lo c.hi w1 p s.W s.B s.E s.to_)=>ii hh (hw.Fh hf).tab (by omega) a b ⟨b1,b2,hFb⟩);have HPF:=ae (fun w1 (hf:Fr (fun _=>False) w w1)=>dt (hpl.keep hf));have HFD:=ae (fun w1 (hf:Fr (fun _=>False) w w1)=>qi (hw.Fh hf) ho.apart b b1 b2);have HWD:=ae (fun w1 (hfr:Fr (fun _=>False) w w1)=>nQ (hw.Fh hfr).blk (hw.Fh hfr).plan (by have:=hw.to_;omega) (hw.Fh hfr).mem b (aT s.E b) (s.hp (aT s.E b)) (hf (aT s.E b)) (hg (aT s.E b)) hob.1 b1 hpg (ht.hd _ (by omega)) (hp.ptrs b b1 b2 hmb) (hp.small b b1 b2 hmb));rw [show gB M (goes s.E c.to_) (aT s.E b) (s.hp (aT s.E b)) (b-aT s.E b)=L a from by rw [←hL,hw.to_];rfl] at HWD;have HC:=ae (fun w1 (hf:Fr (fun _=>False) w w1)=>af ((hw.Fh hf).blk.cell 8 rfl) (af ((hw.Fh hf).blk.cell 9 rfl) (af ((hw.Fh hf).blk.cell 15 rfl) (af ((hw.Fh hf).blk.cell 10 rfl) ((hw.Fh hf).mv.cell _ (fx hkl))))));rw [show Mv.getD ((a-s.to_)/s.B) false=false from hm] at HC;have hbI:(b:Int)≤1048576:=by have:=hw.mem.at.2.2.1;omega
   clear hw hp ht ho hpl hFb b1 b2 b3 hL hpg hm d0 c10 c0 hkb hmb hob q1 q2;unfold qU bP at*;generalize (a-s.to_)/s.B=kk at*;generalize L a=X at*;generalize aT s.E b=st at*;generalize s.hp st=x1 at*;generalize hf st=x2 at*;generalize hg st=x3 at*
   go_enter Tryz.func320,Tryz.ntmps320
   go_wp2_with fail
   refine (HB.out).mono ?_;rintro e w1 ⟨rfl,hf1⟩;obtain ⟨c8,c9,c15,c10,d0⟩:=HC.out w1 hf1;have HP1:=ae (HPF.out w1 hf1);have HF:=ae hf1;clear hf1 HB HPF;go_wp2_with fail
   refine (HP1.out).mono ?_;rintro e w' ⟨⟨p,rfl,hp⟩,rfl⟩;have HR1:=ae (HFR.out w1 HF.out p hp);clear hp HP1 HFR;go_wp2_with fail
   refine (HR1.out).mono ?_;rintro e w2 ⟨rfl,hf2⟩;have hf3:=HF.out.trans hf2 (fun _ h=>h.elim);clear c8 c9 c15 c10 d0;obtain ⟨c8,c9,c15,c10,d0⟩:=HC.out w2 hf3;have HF2:=ae hf3;have HD2:=ae (HFD.out w2 hf3);have hlk:=HLK.out w2 hf3;have HW2:=ae (HWD.out w2 hf3);clear hf2 hf3 HR1 HC HFD HLK HWD c8 c10 d0 HF;go_wp2_with fail
   refine (HD2.out).mono ?_;rintro e w' ⟨rfl,rfl⟩;clear HD2;go_wp2_with fail
   refine (HW2.out).mono ?_;rintro e w3 ⟨rfl,hf3⟩;have H:=ae (HF2.out.trans hf3 (fun _ h=>h.elim));clear hf3 HW2 HF2 c9 c15 hlk;go_wp2;go_ret2;exact ⟨rfl,H.out⟩
 ·have HB:=ae (jM hpl (by omega) a haN);have hb:=hp.beh_page ho ht.top1 haN h2;have HLD:=ae (fun w1 (hf:Fr (fun _=>False) w w1)=>dH (hw.mem.keep hf) a haW hb.2);rw [hp.behind a haN h2] at HLD;have HC:=ae (fun w1 (hf:Fr (fun _=>False) w w1)=>(hw.Fh hf).blk.cell 0 rfl);clear hw hp ht ho hpl hb c0;generalize L a=X at*
  go_enter Tryz.func320,Tryz.ntmps320
  go_wp2_with fail
  refine (HB.out).mono ?_;rintro e w1 ⟨rfl,hf1⟩;have c0:=HC.out w1 hf1;have HL1:=ae (HLD.out w1 hf1);have HF:=ae hf1;clear hf1 HB HLD HC c8;go_wp2_with fail
  refine (HL1.out).mono ?_;rintro e w2 ⟨rfl,hf2⟩;have H:=ae (HF.out.trans hf2 (fun _ h=>h.elim));clear hf2 HL1 c0;go_wp2;go_ret2;exact ⟨rfl,H.out⟩
end
end Go.Proofs.YthahbijbpinneaaGreatDoor
