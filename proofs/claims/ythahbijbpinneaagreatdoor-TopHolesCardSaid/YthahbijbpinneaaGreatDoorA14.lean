import Derived.Test.YthahbijbpinneaaGreatDoorA7
import Derived.Test.YthahbijbpinneaaGreatDoorA13
set_option maxRecDepth 100000
set_option maxHeartbeats 8000000
set_option linter.all false
namespace Go.Proofs.YthahbijbpinneaaGreatDoor
open Go.RowKit
section
variable {c:Cy} {s:bg} {hf hg:Nat→Nat} {Fs top:Nat} {S:Nat→Prop} {L:Nat→Nat} {Mv:List Bool} {left fr ah k:Nat} {w w' w0:World}
def nX (c:Cy) (s:bg) (hf hg:Nat→Nat) (Fs top:Nat) (L:Nat→Nat) (S:Nat→Prop) (w0:World) (Mv:List Bool) (left fr ah:Nat) (w:World):Prop:=
 ∃S',dZ c s hf hg Fs top Mv left fr ah L S' w∧Fr S w0 w∧∀j,S' j→S j∨w0.heap.size≤j
theorem nX.Fh (h:nX c s hf hg Fs top L S w0 Mv left fr ah w) (hf':Fr (fun _=>False) w w'):nX c s hf hg Fs top L S w0 Mv left fr ah w':=by
 obtain ⟨S',q1,q2,q3⟩:=h;exact ⟨S',q1.Fh hf',q2.trans hf' (fun _ h=>h.elim),q3⟩
theorem nX.go {L':Nat→Nat} {mvl':List Bool} {left' fr' ah':Nat} {S1 S2:Nat→Prop} (q2:Fr S w0 w) (q3:∀j,S1 j→S j∨w0.heap.size≤j) (r1:dZ c s hf hg Fs top mvl' left' fr' ah' L' S2 w') (r2:Fr S1 w w') (r3:∀j,S2 j→S1 j∨w.heap.size≤j):nX c s hf hg Fs top L' S w0 mvl' left' fr' ah' w':=
 ⟨S2,r1,q2.trans r2 q3,fun j hj=>by
  have:=q2.size;rcases r3 j hj with h|h
  ·exact q3 j h
  ·exact .inr (by omega)⟩
def iB (c:Cy) (s:bg) (hf hg:Nat→Nat) (Fs top:Nat) (L:Nat→Nat) (S:Nat→Prop) (a:Nat) (w:World) (e:Ending) (w':World):Prop:=
 e= .returned (.int .i64 0)∧∃mvl' left' fr' ah',nX c s hf hg Fs top L S w mvl' left' fr' ah' w'∧(a<s.to_+s.N→da mvl' ((a-s.to_)/s.B)=true)
theorem kZ (ht:pR c s hf hg Fs top) (h:dZ c s hf hg Fs top Mv left fr ah L S w) (a:Nat) (h1:s.to_≤a) (h2:a<top):
  Calls Tryz.prog 316 #[c.y,.int .i64 a] w (iB c s hf hg Fs top L S a w):=by
 obtain ⟨b1,b2,b3,hpl,hT⟩:=dZ.cells ht h;have ho:=ht.ok;have hto:=ht.to_;have c8:=b1.cell 8 rfl;have hG0:nX c s hf hg Fs top L S w Mv left fr ah w:=⟨S,h,Fr.refl _ _,fun _ h=> .inl h⟩;rcases Nat.lt_or_ge a (s.to_+s.N) with haN|haN
 ·have HB:=ae (kU hpl hT (by omega) a h1 haN);have hkb:(a-s.to_)/s.B<s.nb:=by
   have h3:s.nb=gS s.N s.B:=rfl;have h4:=pw (N:=s.N) (k:=s.B) ho.B1;rw [h3,Nat.div_lt_iff_lt_mul (by have:=ho.B1;omega)];omega
  have HQ:Hid (∀mvl' left' fr' ah' w',nX c s hf hg Fs top L S w mvl' left' fr' ah' w'→da mvl' ((a-s.to_)/s.B)=true→iB c s hf hg Fs top L S a w (.returned (.int .i64 0)) w'):=by
   show∀mvl' left' fr' ah' w',_
   exact fun mvl' left' fr' ah' w' q1 q2=>⟨rfl,mvl',left',fr',ah',q1,fun _=>q2⟩
  have hnb20:s.nb≤1048576:=by
   have h9:s.nb=gS s.N s.B:=rfl;unfold gS at h9;have:=Nat.div_le_self (s.N+s.B-1) s.B;have:=ht.N;have:=ht.B;omega
  generalize hkk:(a-s.to_)/s.B=kk at*;have hkn:(kk:Int)<(c.nb:Int):=by rw [ht.nb];omega
  have HC:=ae (fun mvl' left' fr' ah' w1 (hg1:nX c s hf hg Fs top L S w mvl' left' fr' ah' w1)=>(show w1.cell? ⟨c.y,7,none⟩=some (.int .i64 (s.Ah:Int))∧w1.cell? ⟨c.y,10,none⟩=some (.slice (some ⟨c.mv,0,none⟩) c.nb c.nb)∧w1.cell? ⟨c.y,12,none⟩=some (.int .i64 (fr':Int))∧w1.cell? ⟨c.y,13,none⟩=some (.int .i64 (ah':Int))∧w1.cell? ⟨c.mv,kk,none⟩=some (.bool (da mvl' kk))∧fr'≤1048576∧ah'≤16 from by
   obtain ⟨S',q1,_⟩:=hg1;obtain ⟨d1,d2,d3,_⟩:=dZ.cells ht q1;obtain ⟨⟨_,f2,_⟩,⟨_,f4⟩,_⟩:=q1.fronts;have:=ht.a16;exact ⟨by rw [←ht.ah];exact d1.cell 7 rfl,d1.cell 10 rfl,d1.cell 12 rfl,d1.cell 13 rfl,d2.cell kk (fx (by rw [d3];exact hkb)),by omega,by omega⟩))
  have HST:=ae (fun mvl' left' fr' ah' w1 (hg1:nX c s hf hg Fs top L S w mvl' left' fr' ah' w1) (hlt:fr'<kk)=>(show Calls Tryz.prog 65 #[c.y] w1 fun e w'=>e= .returned (.tuple #[.bool true,.int .i64 0])∧∃mvl2 left2 fr2 ah2,nX c s hf hg Fs top L S w mvl2 left2 fr2 ah2 w'∧fr'<fr2 from by
   obtain ⟨S',q1,q2,q3⟩:=hg1;obtain ⟨⟨f1,f2,f3⟩,_,f4⟩:=q1.fronts;have hl:left'≠0:=fun e=>by
    have h5:=ia (f:=fun i=> !da mvl' i) (Nat.zero_le fr') (show fr'<s.nb by omega) (by rw [f3 (by omega)];rfl);have h6:∀m,cnt (da mvl') 0 m+cnt (fun i=> !da mvl' i) 0 m=m:=fun m=>by
     induction m with
     |zero=>rw [bc,bc]
     |succ m ih=>
      rw [aC _ (Nat.zero_le m),aC _ (Nat.zero_le m)]
      cases da mvl' m<;>simp<;>omega
    have:=h6 s.nb;omega
   refine (nO ht q1 hl).mono ?_;rintro e w' ⟨rfl,fr2,ah2,S2,r1,r2,r3,r4⟩;exact ⟨rfl,_,_,fr2,ah2,nX.go q2 q3 r1 r3 r4,r2⟩))
  have HMV:=ae (fun mvl' left' fr' ah' w1 (hg1:nX c s hf hg Fs top L S w mvl' left' fr' ah' w1) (hm:da mvl' kk=false) (hex:¬fr'<kk∨ah'<s.Ah)=>(show Calls Tryz.prog 133 #[c.y,.int .i64 kk] w1 fun e w'=>e= .returned (.int .i64 0)∧iB c s hf hg Fs top L S a w (.returned (.int .i64 0)) w' from by
   obtain ⟨S',q1,q2,q3⟩:=hg1;obtain ⟨⟨f1,f2,f3⟩,_,f4⟩:=q1.fronts;have hka:kk=fr'∨ah'<s.Ah:=by
    rcases hex with h|h
    ·left;rcases Nat.lt_or_ge kk fr' with h5|h5
     ·rw [f1 kk h5] at hm;cases hm
     ·omega
    ·exact .inr h
   obtain ⟨_,_,d3,_⟩:=dZ.cells ht q1;refine (nM ht q1 hkb hm hka).mono ?_;rintro e w' ⟨rfl,fr2,ah2,S2,r1,r2,r3,r4,r5⟩;refine ⟨rfl,HQ.out _ _ fr2 ah2 _ (nX.go q2 q3 r1 r4 r5) ?_⟩;rw [qw (by rw [d3];exact hkb)];unfold cA;rw [decide_eq_true rfl,Bool.or_true]))
  have HF0:=ae hG0;have HBF:=ae (fun w1 (hf:Fr (fun _=>False) w w1)=>hG0.Fh hf);have hsa:(s.Ah:Int)≤16:=by have:=ht.a16;omega
  have hkI:(kk:Int)≤1048576:=by omega
  clear h b1 b2 b3 hpl hT ho hto hG0 hkb hkk ht;generalize (iB c s hf hg Fs top L S a w)=Q at*
  go_enter Tryz.func316,Tryz.ntmps316
  go_wp2_with fail
  refine (HB.out).mono ?_;rintro e w1 ⟨rfl,hf1⟩;have HG1:=ae (HBF.out w1 hf1);obtain ⟨c7,c10,c12,c13,d0,hfr,hah⟩:=HC.out _ _ _ _ w1 HG1.out;clear hf1 HB HBF HF0 c8
  cases hm:da Mv kk with
  |true=>
   rw [hm] at d0;have HE:=ae (HQ.out _ _ _ _ w1 HG1.out hm);clear HQ HC HST HMV HG1 hm c7 c12 c13;go_wp2;exact HE.out
  |false=>
   rw [hm] at d0;clear hm c7 c12 c13;go_wp2;clear c10 d0 hfr hah
   go_loopw [] (fun wr=>∃(m:List Bool) (l f h:Nat),Hid (nX c s hf hg Fs top L S w m l f h wr)) (fun wr=>kk-kg wr c.y)
   case atStart=>exact ⟨Mv,left,fr,ah,HG1⟩
   case round=>
    clear HG1;obtain ⟨m,l,f,h,hr⟩:=hrel;obtain ⟨c7,c10,c12,c13,d0,hf1,hh1⟩:=HC.out _ _ _ _ wr.drew (hr.out.Fh ((Fr.refl _ wr).drew));have HRD:=ae (hr.out.Fh (w':=wr.drew) ((Fr.refl _ wr).drew));have hfo:kg wr c.y=f:=by
     unfold kg;rw [show wr.cell? ⟨c.y,12,none⟩=some (.int .i64 f) from c12];rfl
    obtain ⟨BA,hBA⟩:∃BA,BA=decide (f<kk):=⟨_,rfl⟩;have HBA:=ae hBA;clear hBA;obtain ⟨BB,hBB⟩:∃BB,BB=decide (s.Ah≤h):=⟨_,rfl⟩;have HBB:=ae hBB;clear hBB;by_cases hfk:f<kk
    ·by_cases hah2:s.Ah≤h
     ·have HS2:=ae (HST.out _ _ _ _ wr.drew HRD.out hfk);clear HQ HMV HRD hr d0;go_wp2;refine ar (fun w'=>w'=wr.drew) (by kernel_rfl) (by kernel_rfl) rfl ?_;refine ag (.pointer (some ⟨c.y,0,none⟩)) rfl (fun w' hw=>by go_simp) ?_;simp only [Act.put,aa,ab,ac];refine ag (.pointer (some ⟨c.y,0,none⟩)) rfl (fun w' hw=>by go_simp) ?_;simp only [Act.put,aa,ab,ac];refine ag (.pointer (some ⟨c.y,12,none⟩)) rfl (fun w' hw=>by go_simp) ?_;simp only [Act.put,aa,ab,ac];refine ag (.int .i64 f) rfl (fun w' hw=>by subst hw;go_simp) ?_;simp only [Act.put,aa,ab,ac];refine ag (.int .i64 kk) rfl (fun w' hw=>by go_simp) ?_;simp only [Act.put,aa,ab,ac];refine ag (.bool BA) rfl (fun w' hw=>by rw [HBA.out];go_simp) ?_;simp only [Act.put,aa,ab,ac];refine ag (.bool BA) rfl (fun w' hw=>by go_simp) ?_;simp only [Act.put,aa,ab,ac];have HBF:=HBA.out.trans (decide_eq_true hfk);clear HBA
      cases BA
      case false=>cases HBF
      clear HBF;refine al (.pointer (some ⟨c.y,0,none⟩)) rfl (fun w' hw=>by go_simp) ?_;simp only [Act.put,aa,ab,ac];refine al (.pointer (some ⟨c.y,0,none⟩)) rfl (fun w' hw=>by go_simp) ?_;simp only [Act.put,aa,ab,ac];refine al (.pointer (some ⟨c.y,13,none⟩)) rfl (fun w' hw=>by go_simp) ?_;simp only [Act.put,aa,ab,ac];refine al (.int .i64 h) rfl (fun w' hw=>by subst hw;go_simp) ?_;simp only [Act.put,aa,ab,ac];refine al (.pointer (some ⟨c.y,0,none⟩)) rfl (fun w' hw=>by go_simp) ?_;simp only [Act.put,aa,ab,ac];refine al (.pointer (some ⟨c.y,0,none⟩)) rfl (fun w' hw=>by go_simp) ?_;simp only [Act.put,aa,ab,ac];refine al (.pointer (some ⟨c.y,1,none⟩)) rfl (fun w' hw=>by go_simp) ?_;simp only [Act.put,aa,ab,ac];refine al (.pointer (some ⟨c.y,7,none⟩)) rfl (fun w' hw=>by go_simp) ?_;simp only [Act.put,aa,ab,ac];refine al (.int .i64 (s.Ah:Int)) rfl (fun w' hw=>by subst hw;go_simp) ?_;simp only [Act.put,aa,ab,ac];refine al (.bool BB) rfl (fun w' hw=>by rw [HBB.out];go_simp) ?_;simp only [Act.put,aa,ab,ac];refine ag (.bool BB) rfl (fun w' hw=>by go_simp) ?_;simp only [Act.put,aa,ab,ac];have HBF:=HBB.out.trans (decide_eq_true hah2);clear HBB
      cases BB
      case false=>cases HBF
      clear HBF;refine wpQuiet_nil ?_;rintro w2 rfl;clear HC HST c7 c10 c12 c13;go_wp2_with fail
      refine (HS2.out).mono ?_;rintro e w5 ⟨rfl,m2,l2,f2,h2,g5,g6⟩;have hfo2:kg w5 c.y=f2:=by
       obtain ⟨S5,g7,_⟩:=g5;obtain ⟨Us,Hg,Sm,mp,M,fw,n,q1,_⟩:=g7;unfold kg;rw [q1.blk.cell 12 rfl];rfl
      have G5:=ae g5;clear g5 HS2;go_wp2;go_roundw
      case rel=>exact ⟨m2,l2,f2,h2,G5⟩
      case measure=>
       rw [hfo2,hfo];omega
     ·clear d0;go_wp2;refine ar (fun w'=>w'=wr.drew) (by kernel_rfl) (by kernel_rfl) rfl ?_;refine ag (.pointer (some ⟨c.y,0,none⟩)) rfl (fun w' hw=>by go_simp) ?_;simp only [Act.put,aa,ab,ac];refine ag (.pointer (some ⟨c.y,0,none⟩)) rfl (fun w' hw=>by go_simp) ?_;simp only [Act.put,aa,ab,ac];refine ag (.pointer (some ⟨c.y,12,none⟩)) rfl (fun w' hw=>by go_simp) ?_;simp only [Act.put,aa,ab,ac];refine ag (.int .i64 f) rfl (fun w' hw=>by subst hw;go_simp) ?_;simp only [Act.put,aa,ab,ac];refine ag (.int .i64 kk) rfl (fun w' hw=>by go_simp) ?_;simp only [Act.put,aa,ab,ac];refine ag (.bool BA) rfl (fun w' hw=>by rw [HBA.out];go_simp) ?_;simp only [Act.put,aa,ab,ac];refine ag (.bool BA) rfl (fun w' hw=>by go_simp) ?_;simp only [Act.put,aa,ab,ac];have HBF:=HBA.out.trans (decide_eq_true hfk);clear HBA
      cases BA
      case false=>cases HBF
      clear HBF;refine al (.pointer (some ⟨c.y,0,none⟩)) rfl (fun w' hw=>by go_simp) ?_;simp only [Act.put,aa,ab,ac];refine al (.pointer (some ⟨c.y,0,none⟩)) rfl (fun w' hw=>by go_simp) ?_;simp only [Act.put,aa,ab,ac];refine al (.pointer (some ⟨c.y,13,none⟩)) rfl (fun w' hw=>by go_simp) ?_;simp only [Act.put,aa,ab,ac];refine al (.int .i64 h) rfl (fun w' hw=>by subst hw;go_simp) ?_;simp only [Act.put,aa,ab,ac];refine al (.pointer (some ⟨c.y,0,none⟩)) rfl (fun w' hw=>by go_simp) ?_;simp only [Act.put,aa,ab,ac];refine al (.pointer (some ⟨c.y,0,none⟩)) rfl (fun w' hw=>by go_simp) ?_;simp only [Act.put,aa,ab,ac];refine al (.pointer (some ⟨c.y,1,none⟩)) rfl (fun w' hw=>by go_simp) ?_;simp only [Act.put,aa,ab,ac];refine al (.pointer (some ⟨c.y,7,none⟩)) rfl (fun w' hw=>by go_simp) ?_;simp only [Act.put,aa,ab,ac];refine al (.int .i64 (s.Ah:Int)) rfl (fun w' hw=>by subst hw;go_simp) ?_;simp only [Act.put,aa,ab,ac];refine al (.bool BB) rfl (fun w' hw=>by rw [HBB.out];go_simp) ?_;simp only [Act.put,aa,ab,ac];refine ag (.bool BB) rfl (fun w' hw=>by go_simp) ?_;simp only [Act.put,aa,ab,ac];have HBF:=HBB.out.trans (decide_eq_false hah2);clear HBB
      cases BB
      case true=>cases HBF
      clear HBF;refine wpQuiet_nil ?_;rintro w2 rfl;obtain ⟨e7,e10,e12,e13,e0,_,_⟩:=HC.out _ _ _ _ wr.drew HRD.out
      cases hm:da m kk with
      |true=>
       rw [hm] at e0;have HE:=ae (HQ.out _ _ _ _ wr.drew HRD.out hm);clear HQ HC HST HMV hr HRD hm e7 e12 e13 hfk;go_wp2;exact HE.out
      |false=>
       rw [hm] at e0;have HM2:=ae (HMV.out _ _ _ _ wr.drew HRD.out hm (.inr (by omega)));clear HQ HC HST HMV hr HRD hm e7 e12 e13 hfk;go_wp2_with fail
       refine (HM2.out).mono ?_;rintro e w5 ⟨rfl,h5⟩;have H5:=ae h5;clear h5 HM2 e0 e10;go_wp2;exact H5.out
    ·clear d0;go_wp2;refine ar (fun w'=>w'=wr.drew) (by kernel_rfl) (by kernel_rfl) rfl ?_;refine ag (.pointer (some ⟨c.y,0,none⟩)) rfl (fun w' hw=>by go_simp) ?_;simp only [Act.put,aa,ab,ac];refine ag (.pointer (some ⟨c.y,0,none⟩)) rfl (fun w' hw=>by go_simp) ?_;simp only [Act.put,aa,ab,ac];refine ag (.pointer (some ⟨c.y,12,none⟩)) rfl (fun w' hw=>by go_simp) ?_;simp only [Act.put,aa,ab,ac];refine ag (.int .i64 f) rfl (fun w' hw=>by subst hw;go_simp) ?_;simp only [Act.put,aa,ab,ac];refine ag (.int .i64 kk) rfl (fun w' hw=>by go_simp) ?_;simp only [Act.put,aa,ab,ac];refine ag (.bool BA) rfl (fun w' hw=>by rw [HBA.out];go_simp) ?_;simp only [Act.put,aa,ab,ac];refine ag (.bool BA) rfl (fun w' hw=>by go_simp) ?_;simp only [Act.put,aa,ab,ac];have HBF:=HBA.out.trans (decide_eq_false hfk);clear HBA
     cases BA
     case true=>cases HBF
     clear HBF
     go_big_quiet_skip
     go_big_quiet_skip
     go_big_quiet_skip
     go_big_quiet_skip
     go_big_quiet_skip
     go_big_quiet_skip
     go_big_quiet_skip
     go_big_quiet_skip
     go_big_quiet_skip
     go_big_quiet_skip
     refine ag (.bool false) rfl (fun w' hw=>by go_simp) ?_;simp only [Act.put,aa,ab,ac];refine wpQuiet_nil ?_;rintro w2 rfl;obtain ⟨e7,e10,e12,e13,e0,_,_⟩:=HC.out _ _ _ _ wr.drew HRD.out
     cases hm:da m kk with
     |true=>
      rw [hm] at e0;have HE:=ae (HQ.out _ _ _ _ wr.drew HRD.out hm);clear HQ HC HST HMV hr HRD hm e7 e12 e13 hfk;go_wp2;exact HE.out
     |false=>
      rw [hm] at e0;have HM2:=ae (HMV.out _ _ _ _ wr.drew HRD.out hm (.inl hfk));clear HQ HC HST HMV hr HRD hm e7 e12 e13 hfk;go_wp2_with fail
      refine (HM2.out).mono ?_;rintro e w5 ⟨rfl,h5⟩;have H5:=ae h5;clear h5 HM2 e0 e10;go_wp2;exact H5.out
 ·have HB:=ae (jM hpl (by omega) a haN);have HQ:Hid (∀w',Fr (fun _=>False) w w'→iB c s hf hg Fs top L S a w (.returned (.int .i64 0)) w'):=by
   show∀w',_
   exact fun w' hf=>⟨rfl,Mv,left,fr,ah,hG0.Fh hf,fun h=>absurd h (by omega)⟩
  clear ht h b1 b2 b3 hpl hT ho hto hG0 h1 h2 haN;generalize (iB c s hf hg Fs top L S a w)=Q at*
  go_enter Tryz.func316,Tryz.ntmps316
  go_wp2_with fail
  refine (HB.out).mono ?_;rintro e w1 ⟨rfl,hf1⟩;have H:=ae (HQ.out w1 hf1);clear hf1 HB HQ c8;go_wp2;exact H.out
end
theorem fu.store {s:bg} {L M:Nat→Nat} {mp:Nat→Bool} {mvd:Nat→Bool} {fr ah left top:Nat} (ho:bT s) (h:fu s L M mp mvd fr ah left top) (htop:top≤s.to_+s.R*s.P) {a x:Nat} (h1:s.to_≤a) (h2:a<top) (hm:a<s.to_+s.N→mvd ((a-s.to_)/s.B)=true):
  fu s (bG L a x) (bG M a x) mp mvd fr ah left top:=by
 have hne:∀b,aj s.E b=true→b≠a:=fun b hb e=>by
  have h3:=(ho.from_ b hb).2;omega
 have hfr:∀b,aj s.E b=true→mvd (br s.E b/s.B)=false→s.F b≠a:=fun b hb hu e=>by
  have h3:=ho.Fa hb;have h4:s.F b=s.to_+br s.E b:=rfl;have h5:=hm (by omega);rw [show a-s.to_=br s.E b by omega,hu] at h5
  cases h5
 refine ⟨fun b hbW hb hu=> ?_,fun b hbW hb hu=> ?_,fun b hbW hb hu=> ?_,fun b hbW hb hu=> ?_,fun k k1 k2=> ?_,h.pages,h.front,h.far,h.Ah,h.left,h.Rm⟩
 ·unfold bG;split
  ·rfl
  ·exact h.moved b hbW hb hu
 ·have e:bG M a x b=M b:=if_neg (hne b hb);rw [dw hb e,h.still b hbW hb hu];exact (if_neg (hfr b hb hu)).symm
 ·have e:bG M a x b=M b:=if_neg (hne b hb);rw [e];exact h.ptrs b hbW hb hu
 ·have e:bG M a x b=M b:=if_neg (hne b hb);rw [e];exact h.small b hbW hb hu
 ·unfold bG;split
  ·rfl
  ·exact h.behind k k1 k2
section
variable {c:Cy} {s:bg} {hf hg:Nat→Nat} {Fs top:Nat} {S:Nat→Prop} {L:Nat→Nat} {Mv:List Bool} {left fr ah k:Nat} {w w' w0:World}
def j8 (c:Cy) (s:bg) (hf hg:Nat→Nat) (Fs top:Nat):dW:=fun L S w=>∃Mv left fr ah,dZ c s hf hg Fs top Mv left fr ah L S w
def qh (s:bg) (top a:Nat):Prop:=s.to_≤a∧a<top
theorem dZ.word (ht:pR c s hf hg Fs top) (h:dZ c s hf hg Fs top Mv left fr ah L S w) {a:Nat} (h1:s.to_≤a) (h2:a<top) (hm:a<s.to_+s.N→da Mv ((a-s.to_)/s.B)=true):
  (Calls Tryz.prog 223 #[c.m,.int .i64 a] w fun e w'=>e= .returned (.tuple #[.int .u64 ((L a:Nat):Int),.int .i64 0])∧Fr (fun _=>False) w w')∧
  ∀x:Nat,x<18446744073709551616→Calls Tryz.prog 224 #[c.m,.int .i64 a,.int .u64 x] w fun e w'=>e= .returned (.int .i64 0)∧dZ c s hf hg Fs top Mv left fr ah (bG L a x) S w'∧Fr S w w':=by
 obtain ⟨Us,Hg,Sm,mp,M,fw,n,hw,hp,q3,q4,q5⟩:=h;have ho:=ht.ok;have haW:a<s.W:=by have:=ht.top1;have:=ho.to2;omega
 have hpg:mp (a/s.P)=true∧M a=L a:=by
  rcases Nat.lt_or_ge a (s.to_+s.N) with haN|haN
  ·obtain ⟨b,b1,b2,b3⟩:=o0 (E:=s.E) (W:=s.W) (i:=a-s.to_) (by have:s.N=cnt (aj s.E) 0 s.W:=rfl;omega);have hFb:s.F b=a:=by show s.to_+br s.E b=a;omega
   have hmb:da Mv (br s.E b/s.B)=true:=by rw [b3];exact hm haN
   have e1:=hp.to_page ho b2 hmb;have e2:=hp.moved b b1 b2 hmb;rw [hFb] at e1 e2;exact ⟨e1,e2⟩
  ·exact ⟨(hp.beh_page ho ht.top1 haN h2).2,hp.behind a haN h2⟩
 refine ⟨?_,fun x hx=> ?_⟩
 ·have:=dH hw.mem a haW hpg.1;rwa [hpg.2] at this
 ·refine (mE hw a x haW hpg.1 hx).mono ?_;rintro e w' ⟨rfl,r1,r2⟩;exact ⟨rfl,⟨Us,Hg,Sm,mp,_,fw,n,r1,hp.store ho ht.top1 h1 h2 hm,q3,q4,q5⟩,r2.mono (fun k hk=> .inl ((q5 k).2 (.inl hk)))⟩
theorem uS (ht:pR c s hf hg Fs top) (h:j8 c s hf hg Fs top L S w) (a:Nat) (hd:qh s top a):
  Calls Tryz.prog 314 #[c.y,.int .i64 a] w fun e w'=>e= .returned (.tuple #[.int .u64 ((L a:Nat):Int),.int .i64 0])∧dM (j8 c s hf hg Fs top) L S w w':=by
 obtain ⟨Mv,left,fr,ah,h⟩:=h;have HT:=ae (kZ ht h a hd.1 hd.2);have HQ:Hid (∀e w1,iB c s hf hg Fs top L S a w e w1→e= .returned (.int .i64 0)∧w1.cell? ⟨c.y,0,none⟩=some (.pointer (some ⟨c.m,0,none⟩))∧(Calls Tryz.prog 223 #[c.m,.int .i64 a] w1 fun e w'=>e= .returned (.tuple #[.int .u64 ((L a:Nat):Int),.int .i64 0])∧dM (j8 c s hf hg Fs top) L S w w')):=by
  show∀e w1,_
  rintro e w1 ⟨rfl,m,l,f,g,⟨S',q1,q2,q3⟩,q4⟩;refine ⟨rfl,(dZ.cells ht q1).1.cell 0 rfl,((dZ.word ht q1 hd.1 hd.2 q4).1).mono ?_⟩;rintro e w2 ⟨rfl,hf2⟩;exact ⟨rfl,S',⟨m,l,f,g,q1.Fh hf2⟩,q2.trans hf2 (fun _ h=>h.elim),q3⟩
 clear ht h hd;generalize (dM (j8 c s hf hg Fs top) L S w)=Q at*;generalize L a=X at*
 go_enter Tryz.func314,Tryz.ntmps314
 go_wp2_with fail
 refine (HT.out).mono ?_;intro e w1 hp;obtain ⟨rfl,c0,hl⟩:=HQ.out _ _ hp;have HL:=ae hl;clear hp HT HQ hl;go_wp2_with fail
 refine (HL.out).mono ?_;rintro e w2 ⟨rfl,hq⟩;have H:=ae hq;clear hq HL c0;go_wp2;go_ret2;exact ⟨rfl,H.out⟩
theorem sw (ht:pR c s hf hg Fs top) (h:j8 c s hf hg Fs top L S w) (a x:Nat) (hd:qh s top a) (hx:x<18446744073709551616):
  Calls Tryz.prog 315 #[c.y,.int .i64 a,.int .u64 x] w fun e w'=>e= .returned (.int .i64 0)∧dM (j8 c s hf hg Fs top) (bG L a x) S w w':=by
 obtain ⟨Mv,left,fr,ah,h⟩:=h;have HT:=ae (kZ ht h a hd.1 hd.2);have HQ:Hid (∀e w1,iB c s hf hg Fs top L S a w e w1→e= .returned (.int .i64 0)∧w1.cell? ⟨c.y,0,none⟩=some (.pointer (some ⟨c.m,0,none⟩))∧(Calls Tryz.prog 224 #[c.m,.int .i64 a,.int .u64 x] w1 fun e w'=>e= .returned (.int .i64 0)∧dM (j8 c s hf hg Fs top) (bG L a x) S w w')):=by
  show∀e w1,_
  rintro e w1 ⟨rfl,m,l,f,g,⟨S',q1,q2,q3⟩,q4⟩;refine ⟨rfl,(dZ.cells ht q1).1.cell 0 rfl,((dZ.word ht q1 hd.1 hd.2 q4).2 x hx).mono ?_⟩;rintro e w2 ⟨rfl,r1,r2⟩;exact ⟨rfl,S',⟨m,l,f,g,r1⟩,q2.trans r2 q3,q3⟩
 clear ht h hd hx;generalize (dM (j8 c s hf hg Fs top) (bG L a x) S w)=Q at*
 go_enter Tryz.func315,Tryz.ntmps315
 go_wp2_with fail
 refine (HT.out).mono ?_;intro e w1 hp;obtain ⟨rfl,c0,hl⟩:=HQ.out _ _ hp;have HL:=ae hl;clear hp HT HQ hl;go_wp2_with fail
 refine (HL.out).mono ?_;rintro e w2 ⟨rfl,hq⟩;have H:=ae hq;clear hq HL c0;go_wp2;go_ret;exact ⟨rfl,H.out⟩
theorem vP (ht:pR c s hf hg Fs top):ba 115 (.pointer (some ⟨c.y,0,none⟩)) 314 (.pointer (some ⟨c.y,0,none⟩)) (j8 c s hf hg Fs top) (qh s top) where
 mload:=fun w=>by kernel_rfl
 eload:=enters_of Tryz.func314 (by kernel_rfl) rfl
 stays:=fun L S w1 w2 T ⟨m,l,f,g,q⟩ hf hn ht=>⟨m,l,f,g,q.stays hf hn ht⟩
 tabl:= .inr (fun L S w ⟨_,_,_,_,q⟩=>q.tabl)
 lt:=fun L S w ⟨_,_,_,_,q⟩=>q.lt
 load:=fun L S w a h ha=>uS ht h a ha
theorem xv (ht:pR c s hf hg Fs top):ka 115 (.pointer (some ⟨c.y,0,none⟩)) 315 (.pointer (some ⟨c.y,0,none⟩)) (j8 c s hf hg Fs top) (qh s top) where
 mstore:=fun w=>by kernel_rfl
 estore:=enters_of Tryz.func315 (by kernel_rfl) rfl
 store:=fun L S w a x h ha hx=>sw ht h a x ha hx
end
theorem sH {w:World} (g k cp:Nat) (hk:k≤64) (h:∀j,j<k→∃a b c:Int,w.cell? ⟨g,j*3,none⟩=some (.int .i64 a)∧w.cell? ⟨g,j*3+1,none⟩=some (.int .i64 b)∧w.cell? ⟨g,j*3+2,none⟩=some (.int .i64 c)∧a≤b∧b≤c):
  Calls Tryz.prog 239 #[.slice (some ⟨g,0,none⟩) k cp] w fun e w'=>e= .returned (.bool true)∧Fr (fun _=>False) w w':=by
 have H:=ae (fun (j:Nat) (w1:World) (hf:Fr (fun _=>False) w w1) (hj:j<k)=>(show∃a b c:Int,w1.cell? ⟨g,j*3,none⟩=some (.int .i64 a)∧w1.cell? ⟨g,j*3+1,none⟩=some (.int .i64 b)∧w1.cell? ⟨g,j*3+2,none⟩=some (.int .i64 c)∧a≤b∧b≤c from by
  obtain ⟨a,b,c,h1,h2,h3,h4⟩:=h j hj;exact ⟨a,b,c,(World.cell?_of_block (w:=w) (hf.block _ (aE h1) (fun h=>h))).trans h1,(World.cell?_of_block (w:=w) (hf.block _ (aE h2) (fun h=>h))).trans h2,(World.cell?_of_block (w:=w) (hf.block _ (aE h3) (fun h=>h))).trans h3,h4⟩))
 have H0:=ae (Fr.refl (fun _=>False) w);clear h
 go_enter Tryz.func239,Tryz.ntmps239
 go_wp2
 go_loopw [7] (fun x wr=>∃j:Nat,x= .int .i64 j∧j≤k∧Hid (Fr (fun _=>False) w wr)) (fun x _=>(k-intOf x).toNat)
 case atStart=>exact ⟨0,rfl,Nat.zero_le _,H0⟩
 case round=>
  clear H0;obtain ⟨j,rfl,hj,hr⟩:=hrel;by_cases hlt:j<k
  ·obtain ⟨a,b,c,e0,e1,e2,h1,h2⟩:=H.out j wr hr.out hlt;have HR:=ae (hr.out.alloc (.cells #[.int .i64 a,.int .i64 b,.int .i64 c] 50));have c1:(j:Int)<(k:Int):=by omega
   have d1:¬b<a:=by omega
   have d2:¬c<b:=by omega
   clear hr H h1 h2;go_wp2;go_roundw
   case rel=>exact ⟨j+1,by go_num,by omega,HR⟩
   case measure=>simp [intOf];omega
  ·have hjk:j=k:=by omega
   subst hjk;have c1:¬(j:Int)<(j:Int):=by omega
   clear H hlt;go_wp2;go_ret;exact ⟨rfl,hr.out⟩
def cG (F Tp T Li B st ah:Nat):Value:= .agg #[.int .i64 F,.int .i64 Tp,.int .i64 T,.int .i64 Li,.int .i64 B,.int .i64 st,.int .i64 ah]
structure fS (Pg W F Tp T Li B st ah:Nat):Prop where
 B0:aK (B:Int)=true
 B1:1≤B
 B2:B≤1024
 s1:1≤st
 s2:st≤4096
 a1:ah≤16
 F1:Pg≤F
 F2:F≤Tp
 F3:Tp≤W
 T1:Pg≤T
 T2:T<Li
 T3:Li≤W
 F4:F% Pg=0
 T4:T% Pg=0
 L4:Li% Pg=0
 P:aK (Pg:Int)=true
 ap:Li≤F∨(Tp+Pg-1)/Pg*Pg≤T
section
variable {w:World} {m Pg W Fs Us Hg:Nat} {S:Nat→Prop} {mp:Nat→Bool} {M:Nat→Nat}
theorem kX (hm:bl w m S Pg W Fs Us Hg mp M) {F Tp T Li B st ah:Nat} (hc:fS Pg W F Tp T Li B st ah):
  Calls Tryz.prog 188 #[m,cG F Tp T Li B st ah] w fun e w'=>e= .returned (.int .i64 0)∧Fr (fun _=>False) w w':=by
 obtain ⟨p1,p2,hW,hWp,_,_,_,_,hW1⟩:=hm.at;have HPG:=ae (fun w1 (hf:Fr (fun _=>False) w w1)=>dv (hm.keep hf));have HWD:=ae (fun w1 (hf:Fr (fun _=>False) w w1)=>cD (hm.keep hf));have HPW:=ae (fun w1=>dR (B:Int) (by have:=hc.B2;omega) true hc.B0 w1);have HUP:=ae (fun w1=>va Tp Pg hc.P p1 (by omega) (by have:=hc.F3;omega) w1);obtain ⟨EN,hEN⟩:∃EN,EN=(Tp+Pg-1)/Pg*Pg:=⟨_,rfl⟩;have hap:=hc.ap;rw [←hEN] at HUP hap;have q1:((F:Int).tmod (Pg:Int))=0:=by rw [show ((F:Int).tmod (Pg:Int))=((F% Pg:Nat):Int) from rfl,hc.F4];rfl
 have q2:((T:Int).tmod (Pg:Int))=0:=by rw [show ((T:Int).tmod (Pg:Int))=((T% Pg:Nat):Int) from rfl,hc.T4];rfl
 have q3:((Li:Int).tmod (Pg:Int))=0:=by rw [show ((Li:Int).tmod (Pg:Int))=((Li% Pg:Nat):Int) from rfl,hc.L4];rfl
 have hp0:((Pg:Int)==0)=false:=by rw [beq_eq_false_iff_ne];omega
 have hkz:¬Pg=0:=by omega
 have HWI:=ae (fun (w1:World) (g:Nat) (hb:ak w1 g [.int .i64 1,.int .i64 B,.int .i64 1024,.int .i64 1,.int .i64 st,.int .i64 4096,.int .i64 0,.int .i64 ah,.int .i64 16,.int .i64 Pg,.int .i64 F,.int .i64 W,.int .i64 F,.int .i64 Tp,.int .i64 W,.int .i64 Pg,.int .i64 T,.int .i64 W,.int .i64 T,.int .i64 Li,.int .i64 W] 50)=>sH (w:=w1) g 7 7 (by omega) (fun j hj=>by
  have hh:=hc;obtain ⟨B0,B1,B2,s1,s2,a1,F1,F2,F3,T1,T2,T3,_,_,_,_,_⟩:=hh
  match j,hj with
  |0,_=>exact ⟨_,_,_,hb.cell 0 rfl,hb.cell 1 rfl,hb.cell 2 rfl,by omega,by omega⟩
  |1,_=>exact ⟨_,_,_,hb.cell 3 rfl,hb.cell 4 rfl,hb.cell 5 rfl,by omega,by omega⟩
  |2,_=>exact ⟨_,_,_,hb.cell 6 rfl,hb.cell 7 rfl,hb.cell 8 rfl,by omega,by omega⟩
  |3,_=>exact ⟨_,_,_,hb.cell 9 rfl,hb.cell 10 rfl,hb.cell 11 rfl,by omega,by omega⟩
  |4,_=>exact ⟨_,_,_,hb.cell 12 rfl,hb.cell 13 rfl,hb.cell 14 rfl,by omega,by omega⟩
  |5,_=>exact ⟨_,_,_,hb.cell 15 rfl,hb.cell 16 rfl,hb.cell 17 rfl,by omega,by omega⟩
  |6,_=>exact ⟨_,_,_,hb.cell 18 rfl,hb.cell 19 rfl,hb.cell 20 rfl,by omega,by omega⟩))
 obtain ⟨W1,hW1d⟩:∃W1,w.alloc (.cells #[.int .i64 F,.int .i64 Tp,.int .i64 T,.int .i64 Li,.int .i64 B,.int .i64 st,.int .i64 ah] 143)=W1:=⟨_,rfl⟩;have hf1:Fr (fun _=>False) w W1:=by rw [←hW1d];exact (Fr.refl _ w).alloc _
 have hb1:ak W1 w.heap.size [.int .i64 F,.int .i64 Tp,.int .i64 T,.int .i64 Li,.int .i64 B,.int .i64 st,.int .i64 ah] 143:=by rw [←hW1d];exact ak.new w _ _
 have hTL:=hc.T2;have hN:F≤524288∧T≤524288∧Li≤524288∧Tp≤524288:=by have:=hc.F2;have:=hc.F3;have:=hc.T3;omega
 have HF1:=ae hf1;have HB1:=ae hb1;have HP1:=ae (HPG.out W1 hf1);have k0:=hb1.cell 0 rfl;have k1:=hb1.cell 1 rfl;have k2:=hb1.cell 2 rfl;have k3:=hb1.cell 3 rfl;have k4:=hb1.cell 4 rfl;have k5:=hb1.cell 5 rfl;have k6:=hb1.cell 6 rfl;clear hm hc hf1 hb1 hEN;unfold cG
 go_enter Tryz.func188,Tryz.ntmps188
 go_wp2_with fail
 refine (HP1.out).mono ?_;rintro e w' ⟨rfl,rfl⟩;have HW1:=ae (HWD.out W1 HF1.out);go_wp2_with fail
 refine (HW1.out).mono ?_;rintro e w' ⟨rfl,rfl⟩;clear HW1 HP1 HPG HWD hW1d;go_wp2_with fail
 refine (HPW.out W1).mono ?_;rintro e w' ⟨rfl,rfl⟩;clear HPW;go_wp2_with fail
 refine (HWI.out _ _ (ak.new W1 _ _)).mono ?_;rintro e w2 ⟨rfl,hf2⟩;have hf12:Fr (fun _=>False) W1 w2:=((Fr.refl (fun _=>False) W1).alloc _).trans hf2 (fun _ h=>h.elim);have hb2:=HB1.out.frame hf12 (fun h=>h);have HF2:=ae (HF1.out.trans hf12 (fun _ h=>h.elim));have HB2:=ae hb2;have j0:=hb2.drew.cell 0 rfl;have j2:=hb2.drew.cell 2 rfl;have j3:=hb2.drew.cell 3 rfl;clear hf12 hf2 hb2 HB1 HF1 HWI k0 k1 k2 k3 k4 k5 k6;go_wp2;refine ar (fun w'=>w'=w2.drew) (by kernel_rfl) (by kernel_rfl) rfl ?_;refine ag (.pointer (some ⟨w.heap.size,0,none⟩)) rfl (fun w' hw=>by go_simp) ?_;simp only [Act.put,aa,ab,ac];refine ag (.int .i64 F) rfl (fun w' hw=>by subst hw;go_simp) ?_;simp only [Act.put,aa,ab,ac];refine ag (.int .i64 Pg) rfl (fun w' hw=>by go_simp) ?_;simp only [Act.put,aa,ab,ac];refine ag (.int .i64 0) rfl (fun w' hw=>by go_simp) ?_;simp only [Act.put,aa,ab,ac];refine ag (.pointer (some ⟨w.heap.size,2,none⟩)) rfl (fun w' hw=>by go_simp) ?_;simp only [Act.put,aa,ab,ac];refine ag (.int .i64 T) rfl (fun w' hw=>by subst hw;go_simp) ?_;simp only [Act.put,aa,ab,ac];refine ag (.int .i64 Pg) rfl (fun w' hw=>by go_simp) ?_;simp only [Act.put,aa,ab,ac];refine ag (.int .i64 0) rfl (fun w' hw=>by go_simp) ?_;simp only [Act.put,aa,ab,ac];refine ag (.int .i64 0) rfl (fun w' hw=>by go_simp;rfl) ?_;simp only [Act.put,aa,ab,ac];refine ag (.pointer (some ⟨w.heap.size,3,none⟩)) rfl (fun w' hw=>by go_simp) ?_;simp only [Act.put,aa,ab,ac];refine ag (.int .i64 Li) rfl (fun w' hw=>by subst hw;go_simp) ?_;simp only [Act.put,aa,ab,ac];refine ag (.int .i64 Pg) rfl (fun w' hw=>by go_simp) ?_;simp only [Act.put,aa,ab,ac];refine ag (.int .i64 0) rfl (fun w' hw=>by go_simp) ?_;simp only [Act.put,aa,ab,ac];refine ag (.int .i64 0) rfl (fun w' hw=>by go_simp;rfl) ?_;simp only [Act.put,aa,ab,ac];refine ag (.bool false) rfl (fun w' hw=>by go_simp) ?_;simp only [Act.put,aa,ab,ac];refine wpQuiet_nil ?_;rintro w3 rfl;have hb3:=HB2.out.drew;have k0:=hb3.cell 0 rfl;have k1:=hb3.cell 1 rfl;have k2:=hb3.cell 2 rfl;have k3:=hb3.cell 3 rfl;have HF3:=ae (HF2.out.drew);clear hb3 HB2 HF2 j0 j2 j3;go_wp2_with fail
 refine (HUP.out _).mono ?_;rintro e w' ⟨rfl,rfl⟩;clear HUP;have c1:(T:Int)<(Li:Int):=by omega
 by_cases e1:F<EN
 ·have d1:(F:Int)<(EN:Int):=by omega
  by_cases e2:F<Li
  ·have d2:(F:Int)<(Li:Int):=by omega
   have d3:¬(T:Int)<(EN:Int):=by omega
   clear hap e1 e2 hTL;go_wp2;go_ret;exact ⟨rfl,HF3.out⟩
  ·have d2:¬(F:Int)<(Li:Int):=by omega
   clear hap e1 e2 hTL;go_wp2;go_ret;exact ⟨rfl,HF3.out⟩
 ·have d1:¬(F:Int)<(EN:Int):=by omega
  clear hap e1 hTL;go_wp2;go_ret;exact ⟨rfl,HF3.out⟩
end
def bM (w:World) (b m Ba top Lm:Nat):Prop:=ak w b [.pointer (some ⟨m,0,none⟩),.int .i64 Ba,.int .i64 top,.int .i64 Lm] 243
section
variable {w:World} {b m Ba top Lm:Nat}
theorem ed (h:bM w b m Ba top Lm):Calls Tryz.prog 158 #[b] w fun e w'=>e= .returned (.bool false)∧w=w':=by
 have c0:=h.cell 0 rfl;clear h
 go_enter Tryz.func158,Tryz.ntmps158
 go_wp2;go_ret;exact ⟨rfl,rfl⟩
theorem eb (h:bM w b m Ba top Lm):Calls Tryz.prog 75 #[b] w fun e w'=>e= .returned (.int .i64 Ba)∧w=w':=by
 have HN:=ae (ed h);have c0:=h.cell 1 rfl;clear h
 go_enter Tryz.func75,Tryz.ntmps75
 go_wp2_with fail
 refine (HN.out).mono ?_;rintro e w1 ⟨rfl,rfl⟩;clear HN;go_wp2;go_ret;exact ⟨rfl,rfl⟩
theorem gu (h:bM w b m Ba top Lm):Calls Tryz.prog 76 #[b] w fun e w'=>e= .returned (.int .i64 top)∧w=w':=by
 have HN:=ae (ed h);have c0:=h.cell 2 rfl;clear h
 go_enter Tryz.func76,Tryz.ntmps76
 go_wp2_with fail
 refine (HN.out).mono ?_;rintro e w1 ⟨rfl,rfl⟩;clear HN;go_wp2;go_ret;exact ⟨rfl,rfl⟩
theorem ms (h:bM w b m Ba top Lm) (x:Nat) (h1:Ba≤x) (h2:x≤Lm):Calls Tryz.prog 77 #[b,.int .i64 x] w fun e w'=>e= .returned (.int .i64 0)∧bM w' b m Ba x Lm∧Fr (fun k=>k=b) w w':=by
 have HN:=ae (ed h);have c1:=h.cell 1 rfl;have c2:=h.cell 2 rfl;have f2:=h.free 2;have c3:=h.cell 3 rfl;have HE:Hid (∀w',w'=w.setCell ⟨b,2,none⟩ (.int .i64 x)→bM w' b m Ba x Lm∧Fr (fun k=>k=b) w w'):=by
  show∀w',_
  rintro w' rfl;exact ⟨h.set 2 _,(Fr.refl (fun k=>k=b) w).setCell ⟨b,2,none⟩ (.inl rfl) _⟩
 have d1:decide ((x:Int)<(Ba:Int))=false:=by rw [decide_eq_false_iff_not];omega
 have d2:decide ((Lm:Int)<(x:Int))=false:=by rw [decide_eq_false_iff_not];omega
 have d1':¬(x:Int)<(Ba:Int):=by omega
 have d2':¬(Lm:Int)<(x:Int):=by omega
 clear h h1 h2
 go_enter Tryz.func77,Tryz.ntmps77
 go_wp2_with fail
 refine (HN.out).mono ?_;rintro e w1 ⟨rfl,rfl⟩;clear HN;go_wp2;go_ret;exact ⟨rfl,HE.out _ rfl⟩
theorem lr {S:Nat→Prop} {Pg W Rm Us Hg:Nat} {mp:Nat→Bool} {M:Nat→Nat} (h:bl w m S Pg W Rm Us Hg mp M) (Ba Lm:Nat) (h1:Ba≤Lm) (h2:Lm≤W):Calls Tryz.prog 121 #[m,.int .i64 Ba,.int .i64 Lm] w fun e w'=>∃b,e= .returned (.tuple #[.pointer (some ⟨b,0,none⟩),.int .i64 0])∧bM w' b m Ba Ba Lm∧w.heap.size≤b∧Fr (fun _=>False) w w':=by
 have HW:=ae (cD h);obtain ⟨_,_,_,_,_,_,_,_,hW1⟩:=h.at;have hW0:((W:Int)==0)=false:=by rw [beq_eq_false_iff_ne];omega
 have d1:¬(Ba:Int)<0:=by omega
 have d2:decide ((Lm:Int)<(Ba:Int))=false:=by rw [decide_eq_false_iff_not];omega
 have d2':¬(Lm:Int)<(Ba:Int):=by omega
 have d3:decide ((W:Int)<(Lm:Int))=false:=by rw [decide_eq_false_iff_not];omega
 have d3':¬(W:Int)<(Lm:Int):=by omega
 have HE:Hid (∀w',w'=w.alloc (.cells #[m,.int .i64 Ba,.int .i64 Ba,.int .i64 Lm] 243)→bM w' w.heap.size m Ba Ba Lm∧w.heap.size≤w.heap.size∧Fr (fun _=>False) w w'):=by
  show∀w',_
  rintro w' rfl;exact ⟨ak.new w _ _,Nat.le_refl _,(Fr.refl _ w).alloc _⟩
 clear h h1 h2 hW1
 go_enter Tryz.func121,Tryz.ntmps121
 go_wp2_with fail
 refine (HW.out).mono ?_;rintro e w1 ⟨rfl,rfl⟩;go_wp2_with fail
 refine (HW.out).mono ?_;rintro e w1 ⟨rfl,rfl⟩;clear HW;go_wp2;refine bodyPost_ret (results_tmp2 rfl _ _ _) rfl ?_;exact ⟨_,rfl,HE.out _ rfl⟩
theorem qW (h:bM w b m Ba top Lm) (n:Nat) (h1:1≤n) (ht:top≤Lm) (hn:Lm-top<n) (hL:Lm≤1048576):Calls Tryz.prog 124 #[b,.int .i64 n] w fun e w'=>e= .returned (.tuple #[.int .i64 0,.int .i64 21])∧Fr (fun _=>False) w w':=by
 have HN:=ae (ed h);have c2:=h.cell 2 rfl;have c3:=h.cell 3 rfl;have d1:¬(n:Int)<1:=by omega
 have hw:IntKind.i64.wrap ((Lm:Int)-(top:Int))=(Lm:Int)-(top:Int):=by rw [IntKind.wrap_i64];omega
 have d2:decide ((Lm:Int)-(top:Int)<(n:Int))=true:=by rw [decide_eq_true_eq];omega
 have d2':(Lm:Int)-(top:Int)<(n:Int):=by omega
 clear h
 go_enter Tryz.func124,Tryz.ntmps124
 go_wp2_with fail
 refine (HN.out).mono ?_;rintro e w1 ⟨rfl,rfl⟩;clear HN;go_wp2
 go_quiet (fail)
 go_wp2;go_ret2;exact ⟨rfl,(Fr.refl _ _).drewN _⟩
end
section
variable {w:World} {b m Ba top Lm:Nat} {S:Nat→Prop} {Pg W Rm Us Hg:Nat} {mp:Nat→Bool} {M:Nat→Nat}
def sN (w:World) (b m Ba top Lm n:Nat) (S:Nat→Prop) (Pg W Rm Us:Nat) (mp:Nat→Bool) (M:Nat→Nat) (e:Ending) (w':World):Prop:=
 e= .returned (.tuple #[.int .i64 top,.int .i64 0])∧bM w' b m Ba (top+n) Lm∧∃S' Hg' mp' M',bl w' m S' Pg W Rm (Us+cnt (bR mp) (top/Pg) ((top+n-1)/Pg+1)) Hg' mp' M'∧(∀q,mp' q=(mp q||(decide (top/Pg≤q)&&decide (q≤(top+n-1)/Pg))))∧(∀a,a<W→mp (a/Pg)=true→M' a=M a)∧Fr (fun k=>S k∨k=b) w w'∧∀k,S' k→S k∨w.heap.size≤k
theorem ko (h:bM w b m Ba top Lm) (hm:bl w m S Pg W Rm Us Hg mp M) (hb:¬S b) (n:Nat) (h1:1≤n) (hn:top+n≤Lm) (hL:Lm≤W) (hr:Us+cnt (bR mp) (top/Pg) ((top+n-1)/Pg+1)≤Rm):Calls Tryz.prog 124 #[b,.int .i64 n] w (sN w b m Ba top Lm n S Pg W Rm Us mp M):=by
 have HN:=ae (ed h);have hW:=hm.at.2.2.1;have c0:=h.cell 0 rfl;have c2:=h.cell 2 rfl;have c3:=h.cell 3 rfl;have d1:¬(n:Int)<1:=by omega
 have hw:IntKind.i64.wrap ((Lm:Int)-(top:Int))=(Lm:Int)-(top:Int):=by rw [IntKind.wrap_i64];omega
 have hw2:IntKind.i64.wrap ((top:Int)+(n:Int))=(top:Int)+(n:Int):=by rw [IntKind.wrap_i64];omega
 have d2:decide ((Lm:Int)-(top:Int)<(n:Int))=false:=by rw [decide_eq_false_iff_not];omega
 have d2':¬(Lm:Int)-(top:Int)<(n:Int):=by omega
 have HND:=ae (fun w1 (hf:Fr (fun _=>False) w w1)=>gK (hm.keep hf) top (top+n) (by omega) (by omega) hr);rw [show ((top+n:Nat):Int)=(top:Int)+(n:Int) by push_cast;rfl] at HND;have HB:=ae (af h hb);have HE:Hid (∀w1 e w',Fr (fun _=>False) w w1→mc w1 m S Pg W Rm Us mp M (top/Pg) ((top+n-1)/Pg) e w'→e= .returned (.int .i64 0)∧bM w' b m Ba top Lm∧∀w2,w2=w'.setCell ⟨b,2,none⟩ (.int .i64 ((top:Int)+(n:Int)))→sN w b m Ba top Lm n S Pg W Rm Us mp M (.returned (.tuple #[.int .i64 top,.int .i64 0])) w2):=by
  show∀w1 e w',_
  rintro w1 e w' hf ⟨rfl,S',Hg',mp',M',q1,q2,q3,q4,q5⟩;have hb':bM w' b m Ba top Lm:=ak.frame (ak.frame h hf (fun h=>h)) q4 hb;have hbl:b<w.heap.size:=ak.lt h;have hz:=hf.size;refine ⟨rfl,hb',?_⟩;rintro w2 rfl;have hfs:Fr (fun k=>k=b) w' (w'.setCell ⟨b,2,none⟩ (.int .i64 ((top:Int)+(n:Int)))):=(Fr.refl (fun k=>k=b) w').setCell ⟨b,2,none⟩ (.inl rfl) _;refine ⟨rfl,?_,S',Hg',mp',M',q1.frame hfs (fun k hk e=> ?_),q2,q3,(((hf.mono (S':=fun k=>S k∨k=b) (fun _ h=>h.elim)).trans q4 (fun k h=> .inl (.inl h)))).trans hfs (fun k h=> .inl (.inr h)),fun k hk=> ?_⟩
  ·have:=ak.set hb' 2 (.int .i64 ((top:Int)+(n:Int)));unfold bM;rw [show ((top+n:Nat):Int)=(top:Int)+(n:Int) by push_cast;rfl];exact this
  ·subst e;rcases q5 _ hk with h|h
   ·exact hb h
   ·omega
  ·rcases q5 k hk with h|h
   ·exact .inl h
   ·exact .inr (by omega)
 clear h hm hb h1 hn hL hr hW
 go_enter Tryz.func124,Tryz.ntmps124
 go_wp2_with fail
 refine (HN.out).mono ?_;rintro e w1 ⟨rfl,rfl⟩;clear HN;go_wp2
 go_quiet (fail)
 go_wp2;refine aB (fun w'=>w'=(w.drewN nq).drew) 14 (by kernel_rfl) (by kernel_rfl) rfl ?_;simp only [List.take_succ_cons,List.take_zero,List.drop_succ_cons,List.drop_zero];refine ag (.pointer (some ⟨b,0,none⟩)) rfl (fun w hw=>by go_simp) ?_;simp only [Act.put,aa,ab,ac];refine ag (.pointer (some ⟨b,0,none⟩)) rfl (fun w hw=>by go_simp) ?_;simp only [Act.put,aa,ab,ac];refine ag (.pointer (some ⟨b,0,none⟩)) rfl (fun w hw=>by go_simp) ?_;simp only [Act.put,aa,ab,ac];refine ag (.pointer (some ⟨m,0,none⟩)) rfl (fun w hw=>by subst hw;go_simp) ?_;simp only [Act.put,aa,ab,ac];refine ag (.pointer (some ⟨b,0,none⟩)) rfl (fun w hw=>by go_simp) ?_;simp only [Act.put,aa,ab,ac];refine ag (.pointer (some ⟨b,0,none⟩)) rfl (fun w hw=>by go_simp) ?_;simp only [Act.put,aa,ab,ac];refine ag (.pointer (some ⟨b,2,none⟩)) rfl (fun w hw=>by go_simp) ?_;simp only [Act.put,aa,ab,ac];refine ag (.int .i64 top) rfl (fun w hw=>by subst hw;go_simp) ?_;simp only [Act.put,aa,ab,ac];refine ag (.pointer (some ⟨b,0,none⟩)) rfl (fun w hw=>by go_simp) ?_;simp only [Act.put,aa,ab,ac];refine ag (.pointer (some ⟨b,0,none⟩)) rfl (fun w hw=>by go_simp) ?_;simp only [Act.put,aa,ab,ac];refine ag (.pointer (some ⟨b,2,none⟩)) rfl (fun w hw=>by go_simp) ?_;simp only [Act.put,aa,ab,ac];refine ag (.int .i64 top) rfl (fun w hw=>by subst hw;go_simp) ?_;simp only [Act.put,aa,ab,ac];refine ag (.int .i64 n) rfl (fun w hw=>by go_simp) ?_;simp only [Act.put,aa,ab,ac];refine ag (.int .i64 ((top:Int)+(n:Int))) rfl (fun w hw=>by subst hw;go_simp) ?_;simp only [Act.put,aa,ab,ac];refine wpQuiet_nil ?_;rintro w6 rfl;have hfd:Fr (fun _=>False) w (w.drewN nq).drew:=((Fr.refl _ _).drewN _).drew;have HND1:=ae (HND.out _ hfd);have HE1:=ae (fun e w' h=>HE.out _ e w' hfd h);clear HND HE c0 c2 c3 hw hfd;go_wp2_with fail
 refine (HND1.out).mono ?_;intro e w3 hp;obtain ⟨rfl,hr,hE⟩:=HE1.out _ _ hp;have k2:=ak.cell hr 2 rfl;have f2:=ak.free hr 2;have HE2:=ae hE;clear hp hr hE HND1 HE1 HB;go_wp2;go_ret2;exact HE2.out _ rfl
end
structure Cf where
 kind:Nat
 Pg:Nat
 block:Nat
 Wd:Nat
 Sl:Nat
 stack:Nat
 Ah:Nat
 trig:Nat
def Cf.spare (c:Cf):Nat:=(c.Ah+2)*(max (c.block/c.Pg) 1+3)
def Cf.Fs (c:Cf):Nat:=c.Wd/c.Pg+if c.kind=1 then c.spare else if c.kind=2 then c.Wd/c.Pg else 0
def Cf.W (c:Cf):Nat:=c.Pg+c.Wd+if c.kind=3 then 0 else c.Wd
structure cM (c:Cf):Prop where
 kind1:c.kind=1∨c.kind=2∨c.kind=3
 page1:aK (c.Pg:Int)=true
 page2:1≤c.Pg
 page3:c.Pg≤256
 block1:aK (c.block:Int)=true
 block2:1≤c.block
 block3:c.block≤1024
 words1:aK (c.Wd:Int)=true
 words2:16≤c.Wd
 words3:c.Wd≤131072
 words4:c.Pg≤c.Wd
 slots1:1≤c.Sl
 slots2:c.Sl≤64
 stack1:1≤c.stack
 stack2:c.stack≤4096
 ahead1:c.Ah≤16
 frames1:c.Fs≤4096
def Cf.cells (c:Cf):List Value:=[.int .i64 (c.kind:Int),.int .i64 (c.Pg:Int),.int .i64 (c.block:Int),.int .i64 (c.Wd:Int),.int .i64 (c.Sl:Int),.int .i64 (c.stack:Int),.int .i64 (c.Ah:Int),.float .f64 c.trig]
def iG (cy:Option Nat):Value:= .pointer (cy.map fun y=>⟨y,0,none⟩)
def fT (w:World) (b:Nat) (c:Cf) (m rb ub:Nat) (cy:Option Nat) (ns bs:Int):Prop:=ak w b (c.cells++[.pointer (some ⟨m,0,none⟩),.pointer (some ⟨rb,0,none⟩),.pointer (some ⟨ub,0,none⟩),iG cy,.int .i64 ns,.int .i64 bs]) 117
section
variable {w:World} {b m rb ub:Nat} {c:Cf} {cy:Option Nat} {ns bs:Int}
theorem cI (h:fT w b c m rb ub cy ns bs):Calls Tryz.prog 50 #[b] w fun e w'=>e= .returned (.bool false)∧w=w':=by
 have c8:=h.cell 8 rfl;clear h
 go_enter Tryz.func50,Tryz.ntmps50
 go_wp2;go_ret;exact ⟨rfl,rfl⟩
variable {Ba top Lm:Nat}
theorem fT.reads (h:fT w b c m rb ub cy ns bs) (hu:bM w ub m Ba top Lm):∀w',Fr (fun _=>False) w w'→(w'.cell? ⟨b,1,none⟩=some (.int .i64 (c.Pg:Int))∧w'.cell? ⟨b,2,none⟩=some (.int .i64 (c.block:Int))∧w'.cell? ⟨b,3,none⟩=some (.int .i64 (c.Wd:Int))∧w'.cell? ⟨b,5,none⟩=some (.int .i64 (c.stack:Int))∧w'.cell? ⟨b,6,none⟩=some (.int .i64 (c.Ah:Int))∧w'.cell? ⟨b,8,none⟩=some (.pointer (some ⟨m,0,none⟩))∧w'.cell? ⟨b,10,none⟩=some (.pointer (some ⟨ub,0,none⟩))):=fun w' hf=>
 have g:ak w' b _ _:=h.frame hf (fun h=>h)
 ⟨g.cell 1 rfl,g.cell 2 rfl,g.cell 3 rfl,g.cell 5 rfl,g.cell 6 rfl,g.cell 8 rfl,g.cell 10 rfl⟩
theorem oX (hc:cM c) (h:fT w b c m rb ub cy ns bs) (hu:bM w ub m Ba top Lm) (hb:Ba≤2*c.Pg+c.Wd):Calls Tryz.prog 142 #[b] w fun e w'=>e= .returned (.int .i64 ((2*c.Pg+c.Wd-Ba:Nat):Int))∧Fr (fun _=>False) w w':=by
 have HC:=ae (h.reads hu);have HBA:=ae (fun w' (hf:Fr (fun _=>False) w w')=>eb (show bM w' ub m Ba top Lm from ak.frame hu hf (fun h=>h)));have h1:=hc.page3;have h2:=hc.words3;have e1:((2*c.Pg+c.Wd-Ba:Nat):Int)=2*(c.Pg:Int)+(c.Wd:Int)-(Ba:Int):=by omega
 rw [e1];clear h hu hc e1;generalize c.Pg=pg at*;generalize c.Wd=wd at*
 go_enter Tryz.func142,Tryz.ntmps142
 go_wp2;refine ar (fun w'=>Fr (fun _=>False) w w') (by kernel_rfl) (by kernel_rfl) ((Fr.refl _ w).drew) ?_;refine ag (.pointer (some ⟨b,0,none⟩)) rfl (fun w' hw=>by go_simp) ?_;simp only [Act.put,aa,ab,ac];refine ag (.pointer (some ⟨b,0,none⟩)) rfl (fun w' hw=>by go_simp) ?_;simp only [Act.put,aa,ab,ac];refine ag (.pointer (some ⟨b,0,none⟩)) rfl (fun w' hw=>by go_simp) ?_;simp only [Act.put,aa,ab,ac];refine ag (.pointer (some ⟨b,1,none⟩)) rfl (fun w' hw=>by go_simp) ?_;simp only [Act.put,aa,ab,ac];refine ag (.int .i64 pg) rfl (fun w' hw=>by obtain ⟨c1,c2,c3,c5,c6,c8,c10⟩:=HC.out w' hw;go_simp) ?_;simp only [Act.put,aa,ab,ac];refine ag (.int .i64 (2*(pg:Int))) rfl (fun w' hw=>by go_simp;rw [IntKind.wrap_i64];omega) ?_;simp only [Act.put,aa,ab,ac];refine ag (.pointer (some ⟨b,0,none⟩)) rfl (fun w' hw=>by go_simp) ?_;simp only [Act.put,aa,ab,ac];refine ag (.pointer (some ⟨b,0,none⟩)) rfl (fun w' hw=>by go_simp) ?_;simp only [Act.put,aa,ab,ac];refine ag (.pointer (some ⟨b,0,none⟩)) rfl (fun w' hw=>by go_simp) ?_;simp only [Act.put,aa,ab,ac];refine ag (.pointer (some ⟨b,3,none⟩)) rfl (fun w' hw=>by go_simp) ?_;simp only [Act.put,aa,ab,ac];refine ag (.int .i64 wd) rfl (fun w' hw=>by obtain ⟨c1,c2,c3,c5,c6,c8,c10⟩:=HC.out w' hw;go_simp) ?_;simp only [Act.put,aa,ab,ac];refine ag (.int .i64 (2*(pg:Int)+(wd:Int))) rfl (fun w' hw=>by go_simp;rw [IntKind.wrap_i64];omega) ?_;simp only [Act.put,aa,ab,ac];refine ag (.pointer (some ⟨b,0,none⟩)) rfl (fun w' hw=>by go_simp) ?_;simp only [Act.put,aa,ab,ac];refine ag (.pointer (some ⟨b,0,none⟩)) rfl (fun w' hw=>by go_simp) ?_;simp only [Act.put,aa,ab,ac];refine ag (.pointer (some ⟨b,10,none⟩)) rfl (fun w' hw=>by go_simp) ?_;simp only [Act.put,aa,ab,ac];refine ag (.pointer (some ⟨ub,0,none⟩)) rfl (fun w' hw=>by obtain ⟨c1,c2,c3,c5,c6,c8,c10⟩:=HC.out w' hw;go_simp) ?_;simp only [Act.put,aa,ab,ac];refine aA (.int .i64 Ba) 75 #[ub] rfl (fun w'=>by go_simp) (fun w' hw=>(HBA.out w' hw).mono fun e w2 h=>⟨h.1,h.2▸hw⟩) ?_;simp only [Act.put,aa,ab,ac];refine ag (.int .i64 (2*(pg:Int)+(wd:Int)-(Ba:Int))) rfl (fun w' hw=>by go_simp;rw [IntKind.wrap_i64];omega) ?_;simp only [Act.put,aa,ab,ac];refine ag (.int .i64 (2*(pg:Int)+(wd:Int)-(Ba:Int))) rfl (fun w' hw=>by go_simp) ?_;simp only [Act.put,aa,ab,ac];refine wpQuiet_nil ?_;intro w2 hw2;go_wp2;go_ret;exact ⟨rfl,hw2⟩
end
theorem ff {P:Program} {fn:Func} {p:Tmp} {ty:TypeId} (h:fn.results= #[.cell p ty]) (tmps:Array Value) (w:World) (g:Nat) (t:TypeId) (cs:Array Value) (fr:Nat×Nat) (d:TypeDesc)
  (hp:tmps.getD p undef= .pointer (some ⟨g,0,none⟩)) (hg:w.heap[g]? =some (.cells cs t fr))
  (hu:P.underlying ty=some d) (hd:(match d with| .struct _| .array _ _=>true|_=>false)=true) (hi:(P.info? ty).map (·.size)=some cs.size):
  (results fn tmps).run P w= .ok (.agg cs) w:=by
 have e:(results fn tmps).run P w=((asAddr (tmps.getD p undef)).run P w).andThen fun a w₁=>(loadVar ty a).run P w₁:=by
  simp only [results,h];simp [Sem.run_bind,Result.andThen]
 rw [e,hp];simp [asAddr,run_loadVar_row w g t ty cs fr d hg hu hd hi,Result.andThen]
theorem ur (a b c d e f g:Int):(#[Value.int .i64 a,.int .i64 b,.int .i64 c,.int .i64 d,.int .i64 e,.int .i64 f,.int .i64 g]:Array Value).all (·.oneCell')=true:=
 Go.all_oneCell_toArray (cs:=[.int .i64 a,.int .i64 b,.int .i64 c,.int .i64 d,.int .i64 e,.int .i64 f,.int .i64 g]) (fun v hv=>by simp only [List.mem_cons,List.not_mem_nil,or_false] at hv;rcases hv with rfl|rfl|rfl|rfl|rfl|rfl|rfl<;>rfl)
section
variable {w:World} {b m rb ub:Nat} {c:Cf} {cy:Option Nat} {ns bs:Int} {Ba top Lm:Nat}
theorem kD (hc:cM c) (h:fT w b c m rb ub cy ns bs) (hu:bM w ub m Ba top Lm) (hb:Ba≤2*c.Pg+c.Wd):Calls Tryz.prog 71 #[b] w fun e w'=>e= .returned (cG Ba top (2*c.Pg+c.Wd-Ba) (2*c.Pg+c.Wd-Ba+c.Wd) c.block c.stack c.Ah)∧Fr (fun _=>False) w w':=by
 obtain ⟨W1,hW1⟩:∃W1,w.alloc (.cells #[.int .i64 0,.int .i64 0,.int .i64 0,.int .i64 0,.int .i64 0,.int .i64 0,.int .i64 0] 143)=W1:=⟨_,rfl⟩;have hf1:Fr (fun _=>False) w W1:=by rw [←hW1];exact (Fr.refl _ w).alloc _
 have hb1:ak W1 w.heap.size [.int .i64 0,.int .i64 0,.int .i64 0,.int .i64 0,.int .i64 0,.int .i64 0,.int .i64 0] 143:=by rw [←hW1];exact ak.new w _ _
 have HO:=ae (oX hc (ak.frame h hf1 (fun h=>h)) (show bM W1 ub m Ba top Lm from ak.frame hu hf1 (fun h=>h)) hb);have HC:=ae (fun w' (hf:Fr (fun _=>False) W1 w')=>h.reads hu w' (hf1.trans hf (fun _ h=>h.elim)));have HBA:=ae (fun w' (hf:Fr (fun _=>False) W1 w')=>eb (show bM w' ub m Ba top Lm from ak.frame hu (hf1.trans hf (fun _ h=>h.elim)) (fun h=>h)));have HTA:=ae (fun w' (hf:Fr (fun _=>False) W1 w')=>gu (show bM w' ub m Ba top Lm from ak.frame hu (hf1.trans hf (fun _ h=>h.elim)) (fun h=>h)));have HS7:Hid ((Tryz.prog.info? 143).map (·.size)=some 7):=by show _=_;kernel_rfl
 have HON:=ae (ur Ba top (2*c.Pg+c.Wd-Ba:Nat) (2*c.Pg+c.Wd-Ba+c.Wd:Nat) c.block c.stack c.Ah);have HB1:=ae hb1;have HF1:=ae hf1;have h1:=hc.page3;have h2:=hc.words3;clear h hu hc hb hf1 hb1;unfold cG;have hT:2*c.Pg+c.Wd-Ba≤1048576:=by omega
 generalize 2*c.Pg+c.Wd-Ba=T at*;have hcast:((T+c.Wd:Nat):Int)=(T:Int)+(c.Wd:Int):=by push_cast;rfl
 rw [hcast] at HON ⊢;generalize c.Pg=pg at*;generalize c.Wd=wd at*;generalize c.block=bk at*;generalize c.stack=sk at*;generalize c.Ah=ad at*;clear hcast
 go_enter Tryz.func71,Tryz.ntmps71
 go_wp2_with fail
 refine (HO.out).mono ?_;rintro e w2 ⟨rfl,hf2⟩;have HC2:=ae (fun w' (hf:Fr (fun _=>False) w2 w')=>HC.out w' (hf2.trans hf (fun _ h=>h.elim)));have HB2:=ae (fun w' (hf:Fr (fun _=>False) w2 w')=>HBA.out w' (hf2.trans hf (fun _ h=>h.elim)));have HT2:=ae (fun w' (hf:Fr (fun _=>False) w2 w')=>HTA.out w' (hf2.trans hf (fun _ h=>h.elim)));have HK2:=ae (fun w' (hf:Fr (fun _=>False) w2 w')=>af (HB1.out.frame (hf2.trans hf (fun _ h=>h.elim)) (fun h=>h)) (HF1.out.trans (hf2.trans hf (fun _ h=>h.elim)) (fun _ h=>h.elim)));clear hf2 HO HC HBA HTA HB1 HF1 hW1;go_wp2;refine aB (fun w'=>Fr (fun _=>False) w2 w') 34 (by kernel_rfl) (by kernel_rfl) ((Fr.refl _ w2).drew) ?_;simp only [List.take_succ_cons,List.take_zero,List.drop_succ_cons,List.drop_zero];refine ag (.pointer (some ⟨b,0,none⟩)) rfl (fun w' hw=>by go_simp) ?_;simp only [Act.put,aa,ab,ac];refine ag (.pointer (some ⟨b,0,none⟩)) rfl (fun w' hw=>by go_simp) ?_;simp only [Act.put,aa,ab,ac];refine ag (.pointer (some ⟨b,10,none⟩)) rfl (fun w' hw=>by go_simp) ?_;simp only [Act.put,aa,ab,ac];refine ag (.pointer (some ⟨ub,0,none⟩)) rfl (fun w' hw=>by obtain ⟨c1,c2,c3,c5,c6,c8,c10⟩:=HC2.out w' hw;go_simp) ?_;simp only [Act.put,aa,ab,ac];refine aA (.int .i64 Ba) 75 #[ub] rfl (fun w'=>by go_simp) (fun w' hw=>(HB2.out w' hw).mono fun e w2 h=>⟨h.1,h.2▸hw⟩) ?_;simp only [Act.put,aa,ab,ac];refine ag (.pointer (some ⟨b,0,none⟩)) rfl (fun w' hw=>by go_simp) ?_;simp only [Act.put,aa,ab,ac];refine ag (.pointer (some ⟨b,0,none⟩)) rfl (fun w' hw=>by go_simp) ?_;simp only [Act.put,aa,ab,ac];refine ag (.pointer (some ⟨b,10,none⟩)) rfl (fun w' hw=>by go_simp) ?_;simp only [Act.put,aa,ab,ac];refine ag (.pointer (some ⟨ub,0,none⟩)) rfl (fun w' hw=>by obtain ⟨c1,c2,c3,c5,c6,c8,c10⟩:=HC2.out w' hw;go_simp) ?_;simp only [Act.put,aa,ab,ac];refine aA (.int .i64 top) 76 #[ub] rfl (fun w'=>by go_simp) (fun w' hw=>(HT2.out w' hw).mono fun e w2 h=>⟨h.1,h.2▸hw⟩) ?_;simp only [Act.put,aa,ab,ac];refine ag (.int .i64 T) rfl (fun w' hw=>by go_simp) ?_;simp only [Act.put,aa,ab,ac];refine ag (.int .i64 T) rfl (fun w' hw=>by go_simp) ?_;simp only [Act.put,aa,ab,ac];refine ag (.pointer (some ⟨b,0,none⟩)) rfl (fun w' hw=>by go_simp) ?_;simp only [Act.put,aa,ab,ac];refine ag (.pointer (some ⟨b,0,none⟩)) rfl (fun w' hw=>by go_simp) ?_;simp only [Act.put,aa,ab,ac];refine ag (.pointer (some ⟨b,0,none⟩)) rfl (fun w' hw=>by go_simp) ?_;simp only [Act.put,aa,ab,ac];refine ag (.pointer (some ⟨b,3,none⟩)) rfl (fun w' hw=>by go_simp) ?_;simp only [Act.put,aa,ab,ac];refine ag (.int .i64 wd) rfl (fun w' hw=>by obtain ⟨c1,c2,c3,c5,c6,c8,c10⟩:=HC2.out w' hw;go_simp) ?_;simp only [Act.put,aa,ab,ac];refine ag (.int .i64 ((T:Int)+(wd:Int))) rfl (fun w' hw=>by go_simp;rw [IntKind.wrap_i64];omega) ?_;simp only [Act.put,aa,ab,ac];refine ag (.pointer (some ⟨b,0,none⟩)) rfl (fun w' hw=>by go_simp) ?_;simp only [Act.put,aa,ab,ac];refine ag (.pointer (some ⟨b,0,none⟩)) rfl (fun w' hw=>by go_simp) ?_;simp only [Act.put,aa,ab,ac];refine ag (.pointer (some ⟨b,0,none⟩)) rfl (fun w' hw=>by go_simp) ?_;simp only [Act.put,aa,ab,ac];refine ag (.pointer (some ⟨b,2,none⟩)) rfl (fun w' hw=>by go_simp) ?_;simp only [Act.put,aa,ab,ac];refine ag (.int .i64 bk) rfl (fun w' hw=>by obtain ⟨c1,c2,c3,c5,c6,c8,c10⟩:=HC2.out w' hw;go_simp) ?_;simp only [Act.put,aa,ab,ac];refine ag (.pointer (some ⟨b,0,none⟩)) rfl (fun w' hw=>by go_simp) ?_;simp only [Act.put,aa,ab,ac];refine ag (.pointer (some ⟨b,0,none⟩)) rfl (fun w' hw=>by go_simp) ?_;simp only [Act.put,aa,ab,ac];refine ag (.pointer (some ⟨b,0,none⟩)) rfl (fun w' hw=>by go_simp) ?_;simp only [Act.put,aa,ab,ac];refine ag (.pointer (some ⟨b,5,none⟩)) rfl (fun w' hw=>by go_simp) ?_;simp only [Act.put,aa,ab,ac];refine ag (.int .i64 sk) rfl (fun w' hw=>by obtain ⟨c1,c2,c3,c5,c6,c8,c10⟩:=HC2.out w' hw;go_simp) ?_;simp only [Act.put,aa,ab,ac];refine ag (.pointer (some ⟨b,0,none⟩)) rfl (fun w' hw=>by go_simp) ?_;simp only [Act.put,aa,ab,ac];refine ag (.pointer (some ⟨b,0,none⟩)) rfl (fun w' hw=>by go_simp) ?_;simp only [Act.put,aa,ab,ac];refine ag (.pointer (some ⟨b,0,none⟩)) rfl (fun w' hw=>by go_simp) ?_;simp only [Act.put,aa,ab,ac];refine ag (.pointer (some ⟨b,6,none⟩)) rfl (fun w' hw=>by go_simp) ?_;simp only [Act.put,aa,ab,ac];refine ag (.int .i64 ad) rfl (fun w' hw=>by obtain ⟨c1,c2,c3,c5,c6,c8,c10⟩:=HC2.out w' hw;go_simp) ?_;simp only [Act.put,aa,ab,ac];refine ag (.agg #[.int .i64 Ba,.int .i64 top,.int .i64 T,.int .i64 ((T:Int)+(wd:Int)),.int .i64 bk,.int .i64 sk,.int .i64 ad]) rfl (fun w' hw=>by go_simp) ?_;simp only [Act.put,aa,ab,ac];refine wpQuiet_nil ?_;intro w3 hw3;obtain ⟨g1,g2⟩:=HK2.out w3 hw3;have hth:w3.there w.heap.size 0 7:=fun j hj=>by
  match j,hj with
  |0,_=>exact ⟨by rw [g1.cell 0 rfl];rfl,g1.free 0⟩
  |1,_=>exact ⟨by rw [g1.cell 1 rfl];rfl,g1.free 1⟩
  |2,_=>exact ⟨by rw [g1.cell 2 rfl];rfl,g1.free 2⟩
  |3,_=>exact ⟨by rw [g1.cell 3 rfl];rfl,g1.free 3⟩
  |4,_=>exact ⟨by rw [g1.cell 4 rfl];rfl,g1.free 4⟩
  |5,_=>exact ⟨by rw [g1.cell 5 rfl];rfl,g1.free 5⟩
  |6,_=>exact ⟨by rw [g1.cell 6 rfl];rfl,g1.free 6⟩
 have HTH:=ae hth;have G1:=ae g1;have G2:=ae g2;clear hth g1 g2 hw3 HC2 HB2 HT2 HK2;go_wp2_with (refine wpList_store_mid rfl 143 _ _ rfl w.heap.size 0 #[.int .i64 Ba,.int .i64 top,.int .i64 T,.int .i64 ((T:Int)+(wd:Int)),.int .i64 bk,.int .i64 sk,.int .i64 ad] rfl rfl HTH.out HS7.out HON.out ?_)
 have hbW:=((((((G1.out.set 0 (.int .i64 Ba)).set 1 (.int .i64 top)).set 2 (.int .i64 T)).set 3 (.int .i64 ((T:Int)+(wd:Int)))).set 4 (.int .i64 bk)).set 5 (.int .i64 sk)).set 6 (.int .i64 ad);have hfW:Fr (fun _=>False) w (w3.setCells w.heap.size 0 [.int .i64 Ba,.int .i64 top,.int .i64 T,.int .i64 ((T:Int)+(wd:Int)),.int .i64 bk,.int .i64 sk,.int .i64 ad]):=((((((G2.out.setCell ⟨w.heap.size,0,none⟩ (.inr (Nat.le_refl _)) _).setCell ⟨w.heap.size,1,none⟩ (.inr (Nat.le_refl _)) _).setCell ⟨w.heap.size,2,none⟩ (.inr (Nat.le_refl _)) _).setCell ⟨w.heap.size,3,none⟩ (.inr (Nat.le_refl _)) _).setCell ⟨w.heap.size,4,none⟩ (.inr (Nat.le_refl _)) _).setCell ⟨w.heap.size,5,none⟩ (.inr (Nat.le_refl _)) _).setCell ⟨w.heap.size,6,none⟩ (.inr (Nat.le_refl _)) _;refine bodyPost_ret (ff rfl _ _ _ _ _ _ _ rfl hbW Tryz.underlying143 rfl HS7.out) rfl ?_;exact ⟨rfl,hfW⟩
end
def vq (xs:List Nat) (w:World) (e:Ending) (w':World):Prop:=∃g cap,e= .returned (.tuple #[.slice (some ⟨g,0,none⟩) xs.length cap,.int .i64 0])∧(∀(j a:Nat),xs[j]? =some a→w'.cell? ⟨g,j,none⟩=some (.int .i64 a))∧Fr (fun _=>False) w w'
section
variable {w:World} {b m rb rg ub:Nat} {c:Cf} {cy:Option Nat} {ns bs:Int} {ls:List Nat}
def yD (xs:List Nat) (w:World) (j:Nat) (v:Value) (wr:World):Prop:=wr.ownsRow 0 3 1 v j (eV (xs.take j))∧(∀k,v.ownBlock=some k→w.heap.size≤k)∧Fr (fun _=>False) w wr
theorem tS (h:fT w b c m rb ub cy ns bs) (hr:aW w rb rg ls) (x cp:Nat) (xs:List Nat) (hx:∀(j a:Nat),xs[j]? =some a→∃i:Nat,w.cell? ⟨x,j,none⟩=some (.int .i64 i)∧ls[i]? =some a) (h1:1≤xs.length) (h2:xs.length≤8):
  Calls Tryz.prog 60 #[b,.slice (some ⟨x,0,none⟩) xs.length cp] w (vq xs w):=by
 obtain ⟨i0,hi,hz0,hz1,hz2⟩:=info_parts dD;have HN:=ae (cI h);have HRD:=ae (fun (j:Nat) (wr:World) (hf:Fr (fun _=>False) w wr) (hj:j<xs.length)=>(show∃i:Nat,wr.cell? ⟨x,j,none⟩=some (.int .i64 i)∧wr.cell? ⟨b,9,none⟩=some (.pointer (some ⟨rb,0,none⟩))∧Calls Tryz.prog 51 #[rb,.int .i64 i] wr fun e w'=>e= .returned (.tuple #[.int .i64 ((xs[j]:Nat):Int),.int .i64 0])∧Fr (fun _=>False) wr w' from by
  obtain ⟨i,q1,q2⟩:=hx j xs[j] (List.getElem?_eq_getElem hj);exact ⟨i,(World.cell?_of_block (w:=w) (hf.block _ (aE q1) (fun h=>h))).trans q1,(show ak wr b _ _ from ak.frame h hf (fun h=>h)).cell 9 rfl,nD (hr.frame hf (fun h=>h) (fun h=>h)) i xs[j] q2⟩))
 have HEN:Hid (∀v wr,yD xs w xs.length v wr→∃g cap,v= .slice (some ⟨g,0,none⟩) xs.length cap∧vq xs w (.returned (.tuple #[.slice (some ⟨g,0,none⟩) xs.length cap,.int .i64 0])) wr):=by
  show∀v wr,_
  rintro v wr ⟨q1,q2,q3⟩;rw [List.take_length] at q1;rcases q1.2 with ⟨_,h0⟩|⟨g,cap,cur,rfl,_⟩
  ·omega
  ·refine ⟨g,cap,rfl,g,cap,rfl,fun j a ha=> ?_,q3⟩;have ha2:∀k,(⟨g,0,none⟩:Addr).add k=⟨g,k,none⟩:=fun k=>by unfold Addr.add;split<;>simp_all
   have:=q1.cells (g:=g) rfl j (.int .i64 a) (by unfold eV;rw [List.getElem?_map,ha];rfl);rwa [ha2] at this
 have H0:Hid (yD xs w 0 (.slice none 0 0) w):=ae ⟨World.ownsRow_nil _ _ _ _,fun k hk=>by simp [Value.ownBlock] at hk,Fr.refl _ _⟩;clear h hr hx;generalize (vq xs w)=Q at*
 go_enter Tryz.func60,Tryz.ntmps60
 go_wp2_with fail
 refine (HN.out).mono ?_;rintro e w' ⟨rfl,rfl⟩;clear HN;go_wp2
 go_loopw [6,15] (fun v z wr=>∃j:Nat,z= .int .i64 j∧j≤xs.length∧Hid (yD xs w j v wr)) (fun _ z _=>(xs.length-intOf z).toNat)
 case atStart=>exact ⟨0,rfl,Nat.zero_le _,H0⟩
 case round=>
  clear H0;obtain ⟨j,rfl,hj,hq⟩:=hrel;by_cases hlt:j<xs.length
  ·obtain ⟨i,d0,d1,hg⟩:=HRD.out j wr hq.out.2.2 hlt;have HG:=ae hg;have c1:(j:Int)<(xs.length:Int):=by omega
   have HTK:Hid (eV (xs.take (j+1))=eV (xs.take j)++[.int .i64 ((xs[j]:Nat):Int)]):=by
    show _=_
    unfold eV;rw [List.take_add_one,List.getElem?_eq_getElem hlt,List.map_append];rfl
   generalize xs[j]=A at*;clear hg HRD HEN;go_wp2_with fail
   refine (HG.out).mono ?_;rintro e w2 ⟨rfl,hf2⟩;have HF2:=ae hf2;clear hf2 HG d0 d1;go_wp2_with (at_builtin;refine Hid.out ?_)
   unfold Hid;have hfa:Fr (fun _=>False) w2 (w2.alloc (.cells #[.int .i64 A] 3)):=(Fr.refl _ w2).alloc _;have hfw:=HF2.out.trans hfa (fun _ h=>h.elim);refine bI rfl _ _ 123 rfl 3 i0 (.int .i64 0) 8 Tryz.underlying123 hi hz0 hz1 hz2 rfl u6 j (eV (xs.take j)) rfl (ao hq.out.1 hfw (fun _ _ h=>h)) ⟨w2.heap.size,0,none⟩ _ (.int .i64 A) rfl ((ak.new w2 [.int .i64 A] 3).cell 0 rfl) rfl (by unfold maxLen;omega) (by omega) ?_;intro g cap w4 ho f2 hgl;have HN4:Hid (yD xs w (j+1) (.slice (some ⟨g,0,none⟩) (j+1) cap) w4):=by
    have hz:=(hq.out.2.2.trans hfw (fun _ h=>h.elim)).size;refine ae ⟨by rw [HTK.out];exact ho,fun k hk=> ?_,(hq.out.2.2.trans hfw (fun _ h=>h.elim)).trans f2 (fun k hk=> .inr (hq.out.2.1 k hk))⟩;simp only [Value.ownBlock,Option.some.injEq] at hk;subst hk;rcases hgl with h|h
    ·exact hq.out.2.1 _ h
    ·omega
   clear hfa hfw ho f2 hgl hq HTK HF2;go_wp2;go_roundw
   case rel=>exact ⟨j+1,by go_num,by omega,HN4⟩
   case measure=>simp [intOf];omega
  ·have hjk:j=xs.length:=by omega
   subst hjk;obtain ⟨g,cap,rfl,hz⟩:=HEN.out _ wr hq.out;have HZ:=ae hz;have c1:¬(xs.length:Int)<(xs.length:Int):=by omega
   clear hz hq HEN HRD hlt;go_wp2;exact HZ.out
end
end Go.Proofs.YthahbijbpinneaaGreatDoor
