import Derived.Test.YthahbijbpinneaaGreatDoorA2
import Derived.Test.YthahbijbpinneaaGreatDoorA3
import Derived.Test.YthahbijbpinneaaGreatDoorA4
import Derived.Test.YthahbijbpinneaaGreatDoorA5
import Derived.Test.YthahbijbpinneaaGreatDoorA7
import Derived.Test.YthahbijbpinneaaGreatDoorA8
import Derived.Shelf.Abstract
set_option maxRecDepth 100000
set_option maxHeartbeats 8000000
set_option linter.all false
namespace Go.Proofs.YthahbijbpinneaaGreatDoor
open Go.RowKit
theorem sn {w:World} {b g:Nat} {ls:List Nat} (h:aW w b g ls) (i f a:Nat) (hlt:i<ls.length) (hf:ls[f]? =some a):Calls Tryz.prog 64 #[b,.int .i64 i,.int .i64 f] w fun e w'=>e= .returned (.int .i64 0)∧aW w' b g (ls.set i a)∧Fr (fun k=>k=g) w w':=by
 have hfl:=(List.getElem?_eq_some_iff.1 hf).1;have HC:Hid (∀W1,W1=w.alloc (.cells #[.int .i64 i,.int .i64 f] 3)→W1.cell? ⟨b,0,none⟩=some (.slice (some ⟨g,0,none⟩) ls.length ls.length)∧W1.cell? ⟨g,f,none⟩=some (.int .i64 a)∧W1.cell? ⟨g,i,none⟩=some (.int .i64 ((ls.getD i 0:Nat):Int))∧W1.frozen? ⟨g,i,none⟩=false∧(∀W2,W2=W1.drew.setCell ⟨g,i,none⟩ (.int .i64 a)→aW W2 b g (ls.set i a)∧Fr (fun k=>k=g) w W2)∧Calls Tryz.prog 122 #[b,.slice (some ⟨w.heap.size,0,none⟩) 2 2] W1 fun e w'=>e= .returned (.int .i64 0)∧W1=w'):=by
  show∀W1,_
  rintro W1 rfl;have hfr:Fr (fun _=>False) w (w.alloc (.cells #[.int .i64 i,.int .i64 f] 3)):=(Fr.refl _ w).alloc _;have h':=h.frame hfr (fun h=>h) (fun h=>h);have hd:Fr (fun _=>False) (w.alloc (.cells #[.int .i64 i,.int .i64 f] 3)) (w.alloc (.cells #[.int .i64 i,.int .i64 f] 3)).drew:=(Fr.refl _ _).drew;have h2:=h'.frame hd (fun h=>h) (fun h=>h);refine ⟨h'.blk.cell 0 rfl,h'.get hf,h'.get (by rw [List.getElem?_eq_getElem hlt,List.getD_eq_getElem?_getD,List.getElem?_eq_getElem hlt];rfl),h'.row.free i,?_,it h' w.heap.size 2 2 (fun j hj=> ?_) (by omega)⟩
  ·rintro W2 rfl;refine ⟨⟨by rw [List.length_set];exact h2.blk.setOther _ _ h'.ne,?_,h'.ne,by rw [List.length_set];exact h'.one,by rw [List.length_set];exact h'.small⟩,((hfr.trans hd (fun _ h=>h.elim)).mono (S':=fun k=>k=g) (fun _ h=>h.elim)).setCell ⟨g,i,none⟩ (.inl rfl) _⟩;have:=h2.row.set i (.int .i64 a);unfold eV at*;rw [List.map_set];exact this
  ·match j,hj with
   |0,_=>exact ⟨i,hlt,(ak.new w [.int .i64 i,.int .i64 f] 3).cell 0 rfl⟩
   |1,_=>exact ⟨f,hfl,(ak.new w [.int .i64 i,.int .i64 f] 3).cell 1 rfl⟩
 have hlti:(i:Int)<(ls.length:Int):=by omega
 have hlti2:(f:Int)<(ls.length:Int):=by omega
 clear h hf
 go_enter Tryz.func64,Tryz.ntmps64
 go_wp2_with fail
 obtain ⟨c0,cf,ck,fk,hE,hch⟩:=HC.out _ rfl;generalize w.alloc (.cells #[.int .i64 i,.int .i64 f] 3)=W1 at*;have HCH:=ae hch;have HE:=ae hE;clear hch hE HC;refine (HCH.out).mono ?_;rintro e w' ⟨rfl,rfl⟩;clear HCH;generalize ls.length=n at*;go_wp2;refine aB (fun w'=>w'=W1.drew) 12 (by kernel_rfl) (by kernel_rfl) rfl ?_;simp only [List.take_succ_cons,List.take_zero,List.drop_succ_cons,List.drop_zero];refine ag (.pointer (some ⟨b,0,none⟩)) rfl (fun w hw=>by go_simp) ?_;simp only [Act.put,aa,ab,ac];refine ag (.pointer (some ⟨b,0,none⟩)) rfl (fun w hw=>by go_simp) ?_;simp only [Act.put,aa,ab,ac];refine ag (.pointer (some ⟨b,0,none⟩)) rfl (fun w hw=>by go_simp) ?_;simp only [Act.put,aa,ab,ac];refine ag (.slice (some ⟨g,0,none⟩) n n) rfl (fun w hw=>by subst hw;go_simp) ?_;simp only [Act.put,aa,ab,ac];refine ag (.int .i64 i) rfl (fun w hw=>by go_simp) ?_;simp only [Act.put,aa,ab,ac];refine ag (.pointer (some ⟨b,0,none⟩)) rfl (fun w hw=>by go_simp) ?_;simp only [Act.put,aa,ab,ac];refine ag (.pointer (some ⟨b,0,none⟩)) rfl (fun w hw=>by go_simp) ?_;simp only [Act.put,aa,ab,ac];refine ag (.pointer (some ⟨b,0,none⟩)) rfl (fun w hw=>by go_simp) ?_;simp only [Act.put,aa,ab,ac];refine ag (.slice (some ⟨g,0,none⟩) n n) rfl (fun w hw=>by subst hw;go_simp) ?_;simp only [Act.put,aa,ab,ac];refine ag (.int .i64 f) rfl (fun w hw=>by go_simp) ?_;simp only [Act.put,aa,ab,ac];refine ag (.pointer (some ⟨g,f,none⟩)) rfl (fun w hw=>by go_simp) ?_;simp only [Act.put,aa,ab,ac];refine ag (.int .i64 a) rfl (fun w hw=>by subst hw;go_simp) ?_;simp only [Act.put,aa,ab,ac];refine wpQuiet_nil ?_;rintro w6 rfl;go_wp2;go_ret;exact ⟨rfl,HE.out _ rfl⟩
def yd (J:List Nat→World→Prop) (b g:Nat) (ls rs:List Nat) (w:World):Prop:=aW w b g (rs++ls.drop rs.length)∧J rs w
def vC (J:List Nat→World→Prop) (b g:Nat) (ls:List Nat) (e:Ending) (w':World):Prop:=e= .returned (.tuple #[])∧∃rs,rs.length=ls.length∧aW w' b g rs∧J rs w'
theorem xQ {J:List Nat→World→Prop} {b g x:Nat} {ls rs:List Nat} {w:World} (hset:∀rs w1 w2,J rs w1→Fr (fun k=>k=g) w1 w2→J rs w2) (hl:rs.length<ls.length) (h:aW w b g (rs++ls.drop rs.length)) (hj:J (rs++[x]) w):
  yd J b g ls (rs++[x]) (w.setCell ⟨g,rs.length,none⟩ (.int .i64 x)):=by
 have hd:ls.drop rs.length=ls[rs.length]::ls.drop (rs.length+1):=List.drop_eq_getElem_cons hl;have e:(rs++ls.drop rs.length).set rs.length x=(rs++[x])++ls.drop (rs++[x]).length:=by
  rw [hd,List.length_append,List.length_singleton,List.append_assoc];rw [List.set_append_right _ _ (Nat.le_refl _),Nat.sub_self];rfl
 have hf:Fr (fun k=>k=g) w (w.setCell ⟨g,rs.length,none⟩ (.int .i64 x)):=(Fr.refl (fun k=>k=g) w).setCell ⟨g,rs.length,none⟩ (.inl rfl) _;refine ⟨?_,hset _ _ _ hj hf⟩;rw [←e];refine ⟨by rw [List.length_set];exact h.blk.setOther _ _ h.ne,?_,h.ne,by rw [List.length_set];exact h.one,by rw [List.length_set];exact h.small⟩;have:=h.row.set rs.length (.int .i64 x);unfold eV at*;rw [List.map_set];exact this
theorem iu (F:Nat) (first cap:Array Value) (eg:∀args w,(callFunc F args).run Tryz.prog w= .ok (.enter F args) w) (J:List Nat→World→Prop) {w:World} {b g:Nat} {ls:List Nat} (h:aW w b g ls) (h0:J [] w)
  (hset:∀rs w1 w2,J rs w1→Fr (fun k=>k=g) w1 w2→J rs w2)
  (hzero:∀rs w1,J rs w1→ls[rs.length]? =some 0→J (rs++[0]) w1)
  (hcall:∀rs a w1,aW w1 b g (rs++ls.drop rs.length)→J rs w1→ls[rs.length]? =some a→a≠0→Calls Tryz.prog F (first++ #[.int .i64 a]++cap) w1 fun e w2=>∃x:Nat,e= .returned (.int .i64 x)∧aW w2 b g (rs++ls.drop rs.length)∧J (rs++[x]) w2):
  Calls Tryz.prog 145 #[b,.func (.func F) first cap] w (vC J b g ls):=by
 have hlen:=h.small;have HS:=ae (fun rs x w1 (hl:rs.length<ls.length) h hj=>xQ (J:=J) (b:=b) (g:=g) (x:=x) (ls:=ls) (rs:=rs) (w:=w1) hset hl h hj);have HDR:=ae (fun rs w1 (hi:yd J b g ls rs w1)=>(⟨hi.1.frame ((Fr.refl (fun _=>False) w1).drew) (fun h=>h) (fun h=>h),hset _ _ _ hi.2 ((Fr.refl _ w1).drew)⟩:aW w1.drew b g (rs++ls.drop rs.length)∧J rs w1.drew));have HC:=ae hcall;have HZ:=ae hzero;have H0:=ae (show yd J b g ls [] w from ⟨h,h0⟩);have HSL:Hid (∀rs w1,rs.length≤ls.length→aW w1 b g (rs++ls.drop rs.length)→w1.cell? ⟨b,0,none⟩=some (.slice (some ⟨g,0,none⟩) ls.length ls.length)):=by
  show∀rs w1,_
  intro rs w1 hl hr;have:=hr.blk.cell 0 rfl;rw [List.length_append,List.length_drop,show rs.length+(ls.length-rs.length)=ls.length by omega] at this;exact this
 have HG:Hid (∀rs w1 (a:Nat),ls[rs.length]? =some a→aW w1 b g (rs++ls.drop rs.length)→w1.cell? ⟨g,rs.length,none⟩=some (.int .i64 a)∧w1.frozen? ⟨g,rs.length,none⟩=false):=by
  show∀rs w1 a,_
  intro rs w1 a ha hr;refine ⟨hr.get ?_,hr.row.free _⟩;rw [List.getElem?_append_right (Nat.le_refl _),Nat.sub_self,List.getElem?_drop,Nat.add_zero];exact ha
 have HE:Hid (∀rs w',rs.length=ls.length→yd J b g ls rs w'→vC J b g ls (.returned (.tuple #[])) w'):=by
  show∀rs w',_
  intro rs w' hl hi;refine ⟨rfl,rs,hl,?_,hi.2⟩;have:=hi.1;rw [hl,List.drop_length,List.append_nil] at this;exact this
 have HA:Hid (∀i,i<ls.length→∃a,ls[i]? =some a):=by
  show∀i,_
  exact fun i hi=>⟨_,List.getElem?_eq_getElem hi⟩
 have c0:=HSL.out [] w (Nat.zero_le _) h;generalize (vC J b g ls)=Q at*;clear h h0 hset hzero hcall
 go_enter Tryz.func145,Tryz.ntmps145
 go_wp2
 go_loopw [13] (fun p wr=>∃rs:List Nat,p= .int .i64 (rs.length:Int)∧rs.length≤ls.length∧Hid (yd J b g ls rs wr)) (fun p _=>(ls.length-intOf p).toNat)
 case atStart=>exact ⟨[],rfl,Nat.zero_le _,H0⟩
 case round=>
  clear H0 c0;obtain ⟨rs,rfl,h1,hr⟩:=hrel;by_cases hlt:rs.length<ls.length
  ·have hlti:(rs.length:Int)<(ls.length:Int):=by omega
   obtain ⟨a,ha⟩:=HA.out _ hlt;have ck:=(HG.out rs wr a ha hr.out.1).1;by_cases ha0:a=0
   ·subst ha0;have HN:=ae (show yd J b g ls (rs++[0]) wr from ⟨by
     have h2:=hr.out.1;have hd:ls.drop rs.length=ls[rs.length]::ls.drop (rs.length+1):=List.drop_eq_getElem_cons hlt;have h3:ls[rs.length]=0:=(List.getElem?_eq_some_iff.1 ha).2;rw [hd,h3] at h2;rw [List.length_append,List.length_singleton,List.append_assoc];exact h2,HZ.out rs wr hr.out.2 ha⟩)
    rw [show ((0:Nat):Int)=0 from rfl] at ck;clear hr ha;go_wp2;go_roundw
    case rel=>exact ⟨rs++[0],by rw [List.length_append,List.length_singleton];go_num,by rw [List.length_append,List.length_singleton];omega,HN⟩
    case measure=>simp [intOf];omega
   ·have ha0':¬(a:Int)=0:=by omega
    obtain ⟨hrd,hjd⟩:=HDR.out rs wr hr.out;have c0:=HSL.out rs _ h1 hrd;have HCL:=ae (HC.out rs a _ hrd hjd ha ha0);have HA0:=ae ha;clear hr ha hrd hjd ha0;go_wp2;refine wp_region_any (by kernel_rfl) ?_;change wpAny _ _ _ _ _ _ _ (World.drew _);generalize hwd:wr.drew=wd at*;refine wpAny_take (i:=0) (v:= .pointer (some ⟨b,0,none⟩)) rfl (by kernel_rfl) (by kernel_rfl) (by kernel_rfl) (fun _ _ _ h=>h) (Or.inl ⟨by rfl,fun w=>by go_simp⟩) ?_;refine wpAny_take (i:=1) (v:= .pointer (some ⟨b,0,none⟩)) rfl (by kernel_rfl) (by kernel_rfl) (by kernel_rfl) (fun _ _ _ h=>h) (Or.inl ⟨by rfl,fun w=>by go_simp⟩) ?_;refine wpAny_take (i:=2) (v:= .pointer (some ⟨b,0,none⟩)) rfl (by kernel_rfl) (by kernel_rfl) (by kernel_rfl) (fun _ _ _ h=>h) (Or.inl ⟨by rfl,fun w=>by go_simp⟩) ?_;refine wpAny_take (i:=4) (v:= .int .i64 (rs.length:Int)) rfl (by kernel_rfl) (by kernel_rfl) (by kernel_rfl) (fun _ _ _ h=>h) (Or.inl ⟨by rfl,fun w=>by go_simp⟩) ?_;refine wpAny_take (i:=5) (v:= .func (.func F) first cap) rfl (by kernel_rfl) (by kernel_rfl) (by kernel_rfl) (fun _ _ _ h=>h) (Or.inl ⟨by rfl,fun w=>by go_simp⟩) ?_;refine wpAny_take (i:=6) (v:= .int .i64 a) rfl (by kernel_rfl) (by kernel_rfl) (by kernel_rfl) (fun _ _ _ h=>h) (Or.inl ⟨by rfl,fun w=>by go_simp⟩) ?_;simp only [Act.put];refine wpAny_ready (rs:=[3,7]) (by kernel_rfl) (by simp) ?_;refine AllReady.cons rfl (fun K hK=> ?_) (AllReady.cons rfl (fun K hK=> ?_) AllReady.nil)
    ·go_simp;refine hK _ _ ?_;clear hK K;refine wpAny_ready (rs:=[7]) (by kernel_rfl) (by simp) ?_;refine AllReady.cons rfl (fun K hK=> ?_) AllReady.nil;go_simp;refine (HCL.out).mono ?_;rintro e w2 ⟨x,rfl,hr2,hj2⟩;have c0:=HSL.out rs _ h1 hr2;obtain ⟨ck2,fk2⟩:=HG.out rs _ a HA0.out hr2;have HT:=ae (HS.out rs x w2 hlt hr2 hj2);have hmx:max (x:Int) 0=(x:Int):=by omega
     clear hr2 hj2 HCL;refine hK _ _ ?_;clear hK K;refine wpAny_ready (rs:=[8]) (by kernel_rfl) (by simp) ?_;refine AllReady.cons rfl (fun K hK=> ?_) AllReady.nil;go_simp;refine hK _ _ ?_;clear hK K;refine wpAny_ready (rs:=[9]) (by kernel_rfl) (by simp) ?_;refine AllReady.cons rfl (fun K hK=> ?_) AllReady.nil;go_simp;refine hK _ _ ?_;clear hK K;refine wpAny_ready (rs:=[10]) (by kernel_rfl) (by simp) ?_;refine AllReady.cons rfl (fun K hK=> ?_) AllReady.nil;go_simp;refine hK _ _ ?_;clear hK K;refine wpAny_done (by kernel_rfl) ?_ _;go_wp2;go_roundw
     case rel=>exact ⟨rs++[x],by rw [List.length_append,List.length_singleton];go_num,by rw [List.length_append,List.length_singleton];omega,HT⟩
     case measure=>simp [intOf];omega
    ·go_simp;refine (HCL.out).mono ?_;rintro e w2 ⟨x,rfl,hr2,hj2⟩;have c0:=HSL.out rs _ h1 hr2;obtain ⟨ck2,fk2⟩:=HG.out rs _ a HA0.out hr2;have HT:=ae (HS.out rs x w2 hlt hr2 hj2);have hmx:max (x:Int) 0=(x:Int):=by omega
     clear hr2 hj2 HCL;refine hK _ _ ?_;clear hK K;refine wpAny_ready (rs:=[3,8]) (by kernel_rfl) (by simp) ?_;refine AllReady.cons rfl (fun K hK=> ?_) (AllReady.cons rfl (fun K hK=> ?_) AllReady.nil)
     ·go_simp;refine hK _ _ ?_;clear hK K;refine wpAny_ready (rs:=[8]) (by kernel_rfl) (by simp) ?_;refine AllReady.cons rfl (fun K hK=> ?_) AllReady.nil;go_simp;refine hK _ _ ?_;clear hK K;refine wpAny_ready (rs:=[9]) (by kernel_rfl) (by simp) ?_;refine AllReady.cons rfl (fun K hK=> ?_) AllReady.nil;go_simp;refine hK _ _ ?_;clear hK K;refine wpAny_ready (rs:=[10]) (by kernel_rfl) (by simp) ?_;refine AllReady.cons rfl (fun K hK=> ?_) AllReady.nil;go_simp;refine hK _ _ ?_;clear hK K;refine wpAny_done (by kernel_rfl) ?_ _;go_wp2;go_roundw
      case rel=>exact ⟨rs++[x],by rw [List.length_append,List.length_singleton];go_num,by rw [List.length_append,List.length_singleton];omega,HT⟩
      case measure=>simp [intOf];omega
     ·go_simp;refine hK _ _ ?_;clear hK K;refine wpAny_ready (rs:=[3]) (by kernel_rfl) (by simp) ?_;refine AllReady.cons rfl (fun K hK=> ?_) AllReady.nil;go_simp;refine hK _ _ ?_;clear hK K;refine wpAny_ready (rs:=[9]) (by kernel_rfl) (by simp) ?_;refine AllReady.cons rfl (fun K hK=> ?_) AllReady.nil;go_simp;refine hK _ _ ?_;clear hK K;refine wpAny_ready (rs:=[10]) (by kernel_rfl) (by simp) ?_;refine AllReady.cons rfl (fun K hK=> ?_) AllReady.nil;go_simp;refine hK _ _ ?_;clear hK K;refine wpAny_done (by kernel_rfl) ?_ _;go_wp2;go_roundw
      case rel=>exact ⟨rs++[x],by rw [List.length_append,List.length_singleton];go_num,by rw [List.length_append,List.length_singleton];omega,HT⟩
      case measure=>simp [intOf];omega
  ·have hni:¬(rs.length:Int)<(ls.length:Int):=by omega
   have HQ:=ae (HE.out rs wr (by omega) hr.out);clear hr h1 hlt;go_wp2;go_end0;exact HQ.out
theorem pA {w:World} {m b g Pg W Fs Us Hg:Nat} {S:Nat→Prop} {mp:Nat→Bool} {M:Nat→Nat} {ls:List Nat} (h:bl w m S Pg W Fs Us Hg mp M) (hr:aW w b g ls) (from_ top Rm:Nat) (h1:1≤from_) (h2:from_≤top) (h3:top≤W) (h4:1≤Rm) (h5:Rm≤4096):
  Calls Tryz.prog 150 #[m,.pointer (some ⟨b,0,none⟩),.int .i64 from_,.int .i64 top,.int .i64 Rm] w fun e w'=>e= .returned (.int .i64 0)∧w=w':=by
 have HW:=ae (cD h);have HL:=ae (jS hr);obtain ⟨e1,e2,e3,e4,e5,e6,e7,e8,hW1⟩:=h.at;have hl1:=hr.one;have hW0:((W:Int)==0)=false:=by rw [beq_eq_false_iff_ne];omega
 have hL0:((ls.length:Int)==0)=false:=by rw [beq_eq_false_iff_ne];omega
 have d1:¬(from_:Int)<1:=by omega
 have d2:decide ((top:Int)<(from_:Int))=false:=by rw [decide_eq_false_iff_not];omega
 have d3:decide ((W:Int)<(top:Int))=false:=by rw [decide_eq_false_iff_not];omega
 have d4:¬(Rm:Int)<1:=by omega
 have d5:¬(4096:Int)<(Rm:Int):=by omega
 have n2:¬top<from_:=by omega
 have n3:¬W<top:=by omega
 clear h hr h1 h2 h3 h4 h5 hW1 hl1 e1 e2 e3 e4 e5 e6 e7 e8
 go_enter Tryz.func150,Tryz.ntmps150
 go_wp2_with fail
 refine (HW.out).mono ?_;rintro e w1 ⟨rfl,rfl⟩;go_wp2_with fail
 refine (HL.out).mono ?_;rintro e w1 ⟨rfl,rfl⟩;go_wp2_with fail
 refine (HW.out).mono ?_;rintro e w1 ⟨rfl,rfl⟩;clear HW HL;go_wp2;go_ret;exact ⟨rfl,rfl⟩
section
variable {t:TypeId} {v:Value} {fl fs:Nat} {r:Value} {I:dW} {dom:Nat→Prop} {L L' L'':Nat→Nat} {S:Nat→Prop} {w w1 w2:World}
theorem iO (hs:ba t v fl r I dom) (hi:I L S w) (a i p f g x:Nat) (ha:1≤a) (hA:a<4611686018427387904) (hI:i<256) (hd:dom a) (ho:d9 L a p f g) (hk:cJ p f g i=1) (hd2:dom (a+1+i)) (hx:L (a+1+i)=x) (hX:x<2147483648):Calls Tryz.prog 87 #[.iface t v,.int .i64 a,.int .i64 i] w (cw I L S w (.tuple #[.int .i64 x,.int .i64 0])):=by
 have HG:=ae (wi hs hi a i p f g 1 x ha hA hI hd ho hk hd2 hx);rw [show ((1:Nat):Int)=1 from rfl] at HG;unfold cw at*;obtain ⟨B,hB⟩:∃B:Int,B=2147483647:=⟨_,rfl⟩;have h1:(x:Int)≤B:=by omega
 have h2:decide (B<(x:Int))=false:=by rw [decide_eq_false_iff_not];omega
 have h3:IntKind.i64.wrap (x:Int)=x:=by rw [IntKind.wrap_i64];omega
 rw [hB] at h2;clear hB h1;clear hs hi hd ho hk hd2 hx ha hA hI hX;generalize (x:Int)=X at*
 go_enter Tryz.func87,Tryz.ntmps87
 go_wp2_with fail
 refine (HG.out).mono ?_;rintro e W1 ⟨rfl,hp⟩;clear HG;go_wp2;go_ret2;exact ⟨rfl,hp⟩
theorem jJ (hs:ba t v fl r I dom) (ht:ka t v fs r I dom) (hi:I L S w) (a i p f g x:Nat) (ha:1≤a) (hA:a<4611686018427387904) (hI:i<256) (hd:dom a) (ho:d9 L a p f g) (hk:cJ p f g i=1) (hd2:dom (a+1+i)) (hx:x<2147483648):Calls Tryz.prog 61 #[.iface t v,.int .i64 a,.int .i64 i,.int .i64 x] w (cw I (bG L (a+1+i) x) S w (.int .i64 0)):=by
 have HP:=ae (kS hs hi a i p f g 1 ha hA hI hd ho hk);rw [show ((1:Nat):Int)=1 from rfl] at HP;have HM:=ht.mstore;have HE:=ht.estore;have HL:=ae (fun w1 (h:dM I L S w w1)=>dM.store ht hd2 (Nat.lt_trans hx (by omega)) h);obtain ⟨z,hz⟩:∃z:Int,z=((a+1+i:Nat):Int):=⟨_,rfl⟩;obtain ⟨L2,hL2⟩:∃L2,L2=bG L (a+1+i) x:=⟨_,rfl⟩;rw [←hz] at HP HL;rw [←hL2] at HL ⊢;obtain ⟨B,hB⟩:∃B:Int,B=2147483647:=⟨_,rfl⟩;have h0:decide ((x:Int)<0)=false:=by rw [decide_eq_false_iff_not];omega
 have h2:decide (B<(x:Int))=false:=by rw [decide_eq_false_iff_not];omega
 have h3:IntKind.u64.wrap (x:Int)=x:=by rw [IntKind.wrap_u64];omega
 rw [hB] at h2;clear hB;generalize (x:Int)=X at*;clear hs hi hd ho hk hd2 hx hz ha hA hI ht hL2;unfold cw at*
 go_enter Tryz.func61,Tryz.ntmps61
 go_wp2_with fail
 refine (HP.out).mono ?_;rintro e W1 ⟨rfl,hp⟩;have HL1:=ae (HL.out _ hp);clear hp HL HP;go_wp2_with fail
 refine (HL1.out).mono ?_;rintro e W2 ⟨rfl,hp2⟩;clear HL1;go_wp2;go_ret;exact ⟨rfl,hp2⟩
end
structure dl where
 E:Nat→Nat
 xs:List Nat
 lost:Bool
 no:Nat
 nw:Nat
def aN:Nat:=1
structure sL (EL:aI) (kb sb n0:Nat) (S0:Nat→Prop):Prop where
 s:∀k,S0 k→¬EL.has k∧k≠kb∧k≠sb∧k≠aN∧k<n0
 e:∀k,EL.has k→k≠kb∧k≠sb∧k≠aN∧k<n0
 k1:kb<n0
 s1:sb<n0
 t1:aN<n0
 d1:kb≠sb
 d2:kb≠aN
 d3:sb≠aN
def yV (EL:aI) (kb sb n0:Nat) (S0:Nat→Prop) (k:Nat):Prop:=S0 k∨EL.has k∨k=kb∨k=sb∨n0≤k
structure eJ (I:dW) (t:TypeId) (v wk:Value) (L:Nat→Nat) (EL:aI) (W kb sb Rm:Nat) (S0:Nat→Prop) (w0:World) (PB:Nat→Prop) (wp:World) (S:Nat→Prop) (sv:Value) (Hg nr nv:Int) (st:dl) (w:World):Prop where
 sp:I L S w
 blk:ak w kb [.iface t v,.pointer (some ⟨EL.m,0,none⟩),.pointer (some ⟨sb,0,none⟩),wk,.int .i64 (st.no:Int),.int .i64 (st.nw:Int),.int .i64 nr,.int .i64 nv] 225
 ext:bA w EL W st.E
 stk:ln w 291 sb sv (st.xs.map Int.ofNat) Rm Hg st.lost
 tab:bu w
 s0:∀k,S k→S0 k∨w0.heap.size≤k
 sv0:∀k,sv.ownBlock=some k→w0.heap.size≤k∧¬S k
 fr:Fr (yV EL kb sb w0.heap.size S0) w0 w
 prot:∀k,PB k→w0.heap.size≤k∧k<w.heap.size∧¬S k∧sv.ownBlock≠some k∧w.heap[k]? =wp.heap[k]?
def dh (I:dW) (t:TypeId) (v wk:Value) (L:Nat→Nat) (EL:aI) (W kb sb Rm:Nat) (S0:Nat→Prop) (w0:World) (PB:Nat→Prop) (wp:World) (st:dl) (w:World):Prop:=
 ∃S sv Hg nr nv,eJ I t v wk L EL W kb sb Rm S0 w0 PB wp S sv Hg nr nv st w
section
variable {I:dW} {t:TypeId} {v wk:Value} {L:Nat→Nat} {EL:aI} {W kb sb Rm:Nat} {S0:Nat→Prop} {w0:World} {PB:Nat→Prop} {wp:World} {S S1:Nat→Prop} {sv sv1:Value} {Hg high1 nr nv:Int} {st:dl} {w w1:World} {fl:Nat} {r:Value} {dom:Nat→Prop}
theorem eJ.size (h:eJ I t v wk L EL W kb sb Rm S0 w0 PB wp S sv Hg nr nv st w):w0.heap.size≤w.heap.size:=h.fr.size
theorem eJ.svlt (h:eJ I t v wk L EL W kb sb Rm S0 w0 PB wp S sv Hg nr nv st w):∀k,sv.ownBlock=some k→k<w.heap.size:=fun k hk=>(h.stk.2.1.lt k hk).2
theorem ln.keep {T:Nat→Prop} {ty:TypeId} {b:Nat} {xs:List Int} {Rm Hg:Int} {lost:Bool} (h:ln w ty b sv xs Rm Hg lost) (hf:Fr T w w1) (hb:¬T b) (hv:∀k,sv.ownBlock=some k→¬T k):ln w1 ty b sv xs Rm Hg lost:=
 ⟨h.1.frame hf hb,bm h.2.1 hf hv,h.2.2⟩
theorem eJ.sp_ (hS:sL EL kb sb w0.heap.size S0) (h:eJ I t v wk L EL W kb sb Rm S0 w0 PB wp S sv Hg nr nv st w) (hp:dM I L S w w1):dh I t v wk L EL W kb sb Rm S0 w0 PB wp st w1:=by
 obtain ⟨S1,q1,q2,q3⟩:=hp;have hsz:=h.size;have hx:∀k,k<w0.heap.size→¬S0 k→¬S k:=fun k hk hn hs=>by
  rcases h.s0 k hs with h|h
  ·exact hn h
  ·omega
 refine ⟨S1,sv,Hg,nr,nv,q1,h.blk.frame q2 (hx _ hS.k1 (fun e=>(hS.s _ e).2.1 rfl)),h.ext.frame q2 (fun k hk=>hx k (hS.e k hk).2.2.2 (fun e=>(hS.s _ e).1 hk)),h.stk.keep q2 (hx _ hS.s1 (fun e=>(hS.s _ e).2.2.1 rfl)) (fun k hk=>(h.sv0 k hk).2),an h.tab q2 (hx _ hS.t1 (fun e=>(hS.s _ e).2.2.2.1 rfl)),fun k hk=> ?_,fun k hk=>⟨(h.sv0 k hk).1,fun hs=> ?_⟩,h.fr.trans q2 (fun k hk=> .inl ?_),fun k hk=> ?_⟩
 ·rcases q3 k hk with h1|h1
  ·exact h.s0 k h1
  ·exact .inr (by omega)
 ·rcases q3 k hs with h1|h1
  ·exact (h.sv0 k hk).2 h1
  ·have:=h.svlt k hk;omega
 ·rcases h.s0 k hk with h1|h1
  ·exact .inl h1
  ·exact .inr (.inr (.inr (.inr h1)))
 ·obtain ⟨p1,p2,p3,p4,p5⟩:=h.prot k hk;have:=q2.size;exact ⟨p1,by omega,fun hs=>by rcases q3 k hs with h1|h1;exact p3 h1;omega,p4,(q2.block k p2 p3).trans p5⟩
theorem dh.Fh (hs:ba t v fl r I dom) (hS:sL EL kb sb w0.heap.size S0) (h:dh I t v wk L EL W kb sb Rm S0 w0 PB wp st w) (hf:Fr (fun _=>False) w w1):dh I t v wk L EL W kb sb Rm S0 w0 PB wp st w1:=by
 obtain ⟨S,sv,Hg,nr,nv,h⟩:=h;exact h.sp_ hS (hs.Fh h.sp hf)
theorem eJ.ext_ (hs:ba t v fl r I dom) (hS:sL EL kb sb w0.heap.size S0) (h:eJ I t v wk L EL W kb sb Rm S0 w0 PB wp S sv Hg nr nv st w) {E':Nat→Nat} (he:bA w1 EL W E') (hf:Fr EL.turns w w1):dh I t v wk L EL W kb sb Rm S0 w0 PB wp {st with E:=E'} w1:=by
 have hsz:=h.size;refine ⟨S,sv,Hg,nr,nv,hs.stays _ _ _ _ _ h.sp hf (fun k hk e=> ?_) (fun e=>(hS.e _ (aI.turns_has e)).2.2.1 rfl),h.blk.frame hf (fun e=>(hS.e _ (aI.turns_has e)).1 rfl),he,h.stk.keep hf (fun e=>(hS.e _ (aI.turns_has e)).2.1 rfl) (fun k hk e=> ?_),an h.tab hf (fun e=>(hS.e _ (aI.turns_has e)).2.2.1 rfl),h.s0,h.sv0,h.fr.trans hf (fun k hk=> .inl (.inr (.inl (aI.turns_has hk)))),fun k hk=> ?_⟩
 ·have h1:=hS.e k (aI.turns_has e);rcases h.s0 k hk with h2|h2
  ·exact (hS.s k h2).1 (aI.turns_has e)
  ·omega
 ·have h1:=hS.e k (aI.turns_has e);have:=(h.sv0 k hk).1;omega
 ·obtain ⟨p1,p2,p3,p4,p5⟩:=h.prot k hk;have:=hf.size;exact ⟨p1,by omega,p3,p4,(hf.block k p2 (fun e=>by have:=(hS.e k (aI.turns_has e)).2.2.2;omega)).trans p5⟩
theorem eJ.stk_ (hs:ba t v fl r I dom) (hS:sL EL kb sb w0.heap.size S0) (h:eJ I t v wk L EL W kb sb Rm S0 w0 PB wp S sv Hg nr nv st w) {xs:List Nat} {lost:Bool} (he:ln w1 291 sb sv1 (xs.map Int.ofNat) Rm high1 lost) (hf:Fr (fun k=>k=sb∨sv.ownBlock=some k) w w1) (hv:∀k,sv1.ownBlock=some k→sv.ownBlock=some k∨w.heap.size≤k):dh I t v wk L EL W kb sb Rm S0 w0 PB wp {st with xs:=xs,lost:=lost} w1:=by
 have hsz:=h.size;have hn:∀k,k<w0.heap.size→k≠sb→¬(k=sb∨sv.ownBlock=some k):=fun k hk hne e=>by
  rcases e with e|e
  ·exact hne e
  ·have:=(h.sv0 k e).1;omega
 refine ⟨S,sv1,high1,nr,nv,hs.stays _ _ _ _ _ h.sp hf (fun k hk e=> ?_) (hn _ hS.t1 (Ne.symm hS.d3)),h.blk.frame hf (hn _ hS.k1 hS.d1),h.ext.frame hf (fun k hk=>hn k (hS.e k hk).2.2.2 (hS.e k hk).2.1),he,an h.tab hf (hn _ hS.t1 (Ne.symm hS.d3)),h.s0,fun k hk=> ?_,h.fr.trans hf (fun k hk=> .inl ?_),fun k hk=> ?_⟩
 ·rcases e with rfl|e
  ·rcases h.s0 _ hk with h2|h2
   ·exact (hS.s _ h2).2.2.1 rfl
   ·have:=hS.s1;omega
  ·exact (h.sv0 k e).2 hk
 ·rcases hv k hk with e|e
  ·exact h.sv0 k e
  ·exact ⟨by omega,fun h2=>by have:=hs.lt _ _ _ h.sp k h2;omega⟩
 ·rcases hk with e|e
  ·exact .inr (.inr (.inr (.inl e)))
  ·exact .inr (.inr (.inr (.inr (h.sv0 k e).1)))
 ·obtain ⟨p1,p2,p3,p4,p5⟩:=h.prot k hk;have:=hf.size;exact ⟨p1,by omega,p3,fun e=>by rcases hv k e with h1|h1;exact p4 h1;omega,(hf.block k p2 (fun e=>by rcases e with e|e;have:=hS.s1;omega;exact p4 e)).trans p5⟩
theorem eJ.cells_ (hs:ba t v fl r I dom) (hS:sL EL kb sb w0.heap.size S0) (h:eJ I t v wk L EL W kb sb Rm S0 w0 PB wp S sv Hg nr nv st w) {no nw:Nat} {nr1 nv1:Int} (he:ak w1 kb [.iface t v,.pointer (some ⟨EL.m,0,none⟩),.pointer (some ⟨sb,0,none⟩),wk,.int .i64 no,.int .i64 nw,.int .i64 nr1,.int .i64 nv1] 225) (hf:Fr (fun k=>k=kb) w w1):eJ I t v wk L EL W kb sb Rm S0 w0 PB wp S sv Hg nr1 nv1 {st with no:=no,nw:=nw} w1:=by
 have hsz:=h.size;refine ⟨hs.stays _ _ _ _ _ h.sp hf (fun k hk e=> ?_) (fun e=>hS.d2 e.symm),he,h.ext.frame hf (fun k hk e=>(hS.e k hk).1 e),h.stk.keep hf (fun e=>hS.d1 e.symm) (fun k hk e=> ?_),an h.tab hf (fun e=>hS.d2 e.symm),h.s0,h.sv0,h.fr.trans hf (fun k hk=> .inl (.inr (.inr (.inl hk)))),fun k hk=> ?_⟩
 ·subst e;rcases h.s0 _ hk with h2|h2
  ·exact (hS.s _ h2).2.1 rfl
  ·have:=hS.k1;omega
 ·have:=(h.sv0 k hk).1;have:=hS.k1;omega
 ·obtain ⟨p1,p2,p3,p4,p5⟩:=h.prot k hk;have:=hf.size;exact ⟨p1,by omega,p3,p4,(hf.block k p2 (fun e=>by have:=hS.k1;omega)).trans p5⟩
end
theorem jE (k:Value) (w:World):Calls Tryz.prog 248 #[k,.bool true] w fun e w'=>e= .returned (.tuple #[])∧w=w':=by
 go_enter Tryz.func248,Tryz.ntmps248
 go_wp2;go_end0;exact ⟨rfl,rfl⟩
def bE (G:Gr) (Rm:Nat) (st:dl) (a:Nat):dl:=
 if a=0∨st.E a≠0 then st else
  {E:=bq st.E a (G.size a),xs:=if st.xs.length<Rm then st.xs++[a] else st.xs,lost:=if st.xs.length<Rm then st.lost else true,no:=st.no+1,nw:=st.nw+G.size a}
def dy (L:Nat→Nat) (dom:Nat→Prop) (G:Gr) (a:Nat):Prop:=
 ∃p f g,d9 L a p f g∧G.size a=1+(p+f+g)∧G.ptrs a=(List.range p).map (fun i=>L (a+1+i))∧(∀k,a≤k→k<a+G.size a→dom k)∧∀i,i<p→L (a+1+i)<2147483648
def gW (I:dW) (t:TypeId) (v wk:Value) (L:Nat→Nat) (EL:aI) (W kb sb Rm:Nat) (S0:Nat→Prop) (w0:World) (PB:Nat→Prop) (wp:World) (st:dl) (e:Ending) (w':World):Prop:=e= .returned (.tuple #[])∧dh I t v wk L EL W kb sb Rm S0 w0 PB wp st w'
section
variable {I:dW} {t:TypeId} {v wk:Value} {L:Nat→Nat} {EL:aI} {W kb sb Rm:Nat} {S0:Nat→Prop} {w0:World} {PB:Nat→Prop} {wp:World} {S S1:Nat→Prop} {sv sv1:Value} {Hg high1 nr nv:Int} {st:dl} {w w1:World} {fl:Nat} {r:Value} {dom:Nat→Prop} {G:Gr} {rs:List Nat} {N:Nat}
theorem po (hs:ba t v fl r I dom) (hS:sL EL kb sb w0.heap.size S0) (hG:cg G rs N) (hW:N≤W) (hO:∀a,G.size a≠0→dy L dom G a) (h:dh I t v wk L EL W kb sb Rm S0 w0 PB wp st w) (hm:bU G rs st.E) (a:Nat) (ha:a≠0) (hr:Reach G rs a) (he:st.E a=0) (hno:st.no≤1048576) (hnw:st.nw≤1048576) (hroom:Rm≤4096):
  Calls Tryz.prog 203 #[kb,.int .i64 a] w (gW I t v wk L EL W kb sb Rm S0 w0 PB wp (bE G Rm st a)):=by
 have hsz:=hG.reach hr;obtain ⟨p,f,g,o1,o2,o3,o4,o5⟩:=hO a hsz;have htop:=hG.top a hsz;have hroomy:=hm.Rm hG hsz he;obtain ⟨S,sv,Hg,nr,nv,hd⟩:=h;have hW2:=hd.ext.small.2;have HF:=ae (ee hd.ext hd.tab a (by omega));have hfind:∀e w',ce st.E a w e w'→e= .returned (.tuple #[.int .i64 0,.int .i64 0,.bool false])∧w=w':=by
  rintro e w' ⟨⟨s,n,h1,h2,h3,_⟩|⟨_,h1⟩,h2⟩
  ·have:=hroomy.1 s h1;omega
  ·exact ⟨h1,h2⟩
 have HFI:=ae hfind;have k0:=hd.blk.cell 0 rfl;have k1:=hd.blk.cell 1 rfl;have HRD:=ae (eZ hs hd.sp a p f g (by omega) (o4 a (Nat.le_refl _) (by omega)) o1);have HSP:=ae (fun w1 (hp:dM I L S w w1)=>hd.sp_ hS hp);have HFR:=ae (fun w1 w2 (hb:dh I t v wk L EL W kb sb Rm S0 w0 PB wp st w1) (hf:Fr (fun _=>False) w1 w2)=>hb.Fh hs hS hf);have HNT:=ae (fun w1=>jE (.pointer (some ⟨kb,0,none⟩)) w1);have HSZ:=ae (fun w1=>cY p f g w1);have hszp:cu p f g=((1+(p+f+g):Nat):Int):=by rw [cu,if_pos o1.2];push_cast;omega
 rw [hszp] at HSZ;obtain ⟨n,hn⟩:∃n,1+(p+f+g)=n:=⟨_,rfl⟩;rw [hn] at HSZ o2;have HAD:=ae (fun w1 S sv Hg nr nv (hb:eJ I t v wk L EL W kb sb Rm S0 w0 PB wp S sv Hg nr nv st w1)=>(qk hb.ext hb.tab a n (by omega) (by omega) hroomy.1 (fun s h1 h2=>by have:=hroomy.2 s h1 h2;omega)).mono (fun e w2 ⟨q1,q2,q3⟩=>(⟨q1,hb.ext_ hs hS q2 q3⟩:e=Ending.returned (.int .i64 0)∧dh I t v wk L EL W kb sb Rm S0 w0 PB wp {st with E:=bq st.E a n} w2)));have HCE:=ae (fun w1 w2 S sv Hg nr nv st1 no nw (hb:eJ I t v wk L EL W kb sb Rm S0 w0 PB wp S sv Hg nr nv st1 w1) he hf=>hb.cells_ (w1:=w2) (no:=no) (nw:=nw) (nr1:=nr) (nv1:=nv) hs hS he hf);have HPU:=ae (fun w1 S sv Hg nr nv st1 (hx:st1.xs=st.xs∧st1.lost=st.lost) (hb:eJ I t v wk L EL W kb sb Rm S0 w0 PB wp S sv Hg nr nv st1 w1)=>by
  by_cases hl:st.xs.length<Rm
  ·exact (sf sb sv _ Rm Hg (a:Int) _ w1 hb.stk (by rw [hx.1,List.length_map];omega) (by omega)).mono (fun e w2 ⟨q1,sv',q2,q3,q4⟩=>(⟨.inl q1,by
    rw [if_pos hl,if_pos hl,←hx.1,←hx.2];refine hb.stk_ hs hS (sv1:=sv') (high1:=(max Hg (((st1.xs.map Int.ofNat).length:Int)+1))) ?_ q3 q4;rw [List.map_append];exact q2⟩:(e=Ending.returned (.bool true)∨e=Ending.returned (.bool false))∧dh I t v wk L EL W kb sb Rm S0 w0 PB wp {st1 with xs:=if st.xs.length<Rm then st.xs++[a] else st.xs,lost:=if st.xs.length<Rm then st.lost else true} w2))
  ·exact (se sb sv _ Rm Hg (a:Int) _ w1 hb.stk (by rw [hx.1,List.length_map];omega)).mono (fun e w2 ⟨q1,q2,q3⟩=>(⟨.inr q1,by
    rw [if_neg hl,if_neg hl,←hx.1];exact hb.stk_ hs hS q2 (q3.mono (fun k hk=> .inl (.inl hk))) (fun k hk=> .inl hk)⟩:(e=Ending.returned (.bool true)∨e=Ending.returned (.bool false))∧dh I t v wk L EL W kb sb Rm S0 w0 PB wp {st1 with xs:=if st.xs.length<Rm then st.xs++[a] else st.xs,lost:=if st.xs.length<Rm then st.lost else true} w2)))
 have hEND:∀w',dh I t v wk L EL W kb sb Rm S0 w0 PB wp {E:=bq st.E a n,xs:=if st.xs.length<Rm then st.xs++[a] else st.xs,lost:=if st.xs.length<Rm then st.lost else true,no:=st.no+1,nw:=st.nw+n} w'→gW I t v wk L EL W kb sb Rm S0 w0 PB wp (bE G Rm st a) (.returned (.tuple #[])) w':=by
  intro w' hb;refine ⟨rfl,?_⟩;unfold bE;rw [if_neg (by omega),o2];exact hb
 have HEND:=ae hEND;generalize (gW I t v wk L EL W kb sb Rm S0 w0 PB wp (bE G Rm st a))=Q at*;have hn2:n≤1048576:=by omega
 have w1':IntKind.i64.wrap ((st.no:Int)+1)=(st.no:Int)+1:=by rw [IntKind.wrap_i64];omega
 have w2':IntKind.i64.wrap ((st.nw:Int)+(n:Int))=(st.nw:Int)+(n:Int):=by rw [IntKind.wrap_i64];omega
 have ha':¬(a:Int)=0:=by omega
 unfold dN at HSZ;unfold lm at HRD;unfold bP at*;clear hs hS hG hW hO hm hr he o1 o2 o3 o4 o5 htop hroomy hd hW2 hfind hszp hsz hEND hno hnw hroom hn
 go_enter Tryz.func203,Tryz.ntmps203
 go_wp2_with fail
 refine (HF.out).mono ?_;intro e w1 hp;obtain ⟨rfl,rfl⟩:=HFI.out _ _ hp;clear hp HF HFI;go_wp2_with fail
 refine (HRD.out).mono ?_;rintro e W2 ⟨rfl,hp⟩;have hb2:=HSP.out _ hp;obtain ⟨W3,hW3⟩:∃W3,W2.alloc (.cells #[.int .i64 p,.int .i64 f,.int .i64 g] 31)=W3:=⟨_,rfl⟩;have hF3:Fr (fun _=>False) W2 W3:=by rw [←hW3];exact (Fr.refl _ _).alloc _
 have hB3:=ae (show ak W3 W2.heap.size [.int .i64 p,.int .i64 f,.int .i64 g] 31 from by rw [←hW3];exact ak.new W2 _ _);have HB3:=ae (HFR.out _ _ hb2 hF3);clear hp hb2 hF3 HSP HRD k0 k1
 go_upto_region 4 with fail
 clear hW3;generalize W2.heap.size=q at*;clear W2;go_wp2_with fail
 refine (HNT.out _).mono ?_;rintro e w4 ⟨rfl,rfl⟩;have HS3:Hid ((Tryz.prog.info? 31).map (·.size)=some 3):=by show _=_;kernel_rfl
 go_wp2_with (refine wpList_load_row rfl 31 _ rfl q rfl 31 #[.int .i64 p,.int .i64 f,.int .i64 g] _ _ hB3.out Tryz.underlying31 rfl HS3.out ?_)
 refine (HSZ.out _).mono ?_;rintro e w5 ⟨rfl,hf5⟩;have hb5:=HFR.out _ _ HB3.out hf5;clear hf5 HB3 hB3 HSZ HFR HS3;obtain ⟨S5,sv5,high5,nr5,nv5,hd5⟩:=hb5;have HA5:=ae (HAD.out _ _ _ _ _ _ hd5);have k1:=hd5.blk.cell 1 rfl;clear hd5 HAD;go_wp2_with fail
 refine (HA5.out).mono ?_;rintro e w6 ⟨rfl,hb6⟩;have HB6:=ae hb6;clear hb6 HA5 k1;go_wp2_with fail
 refine (HNT.out _).mono ?_;rintro e w7 ⟨rfl,rfl⟩;obtain ⟨S6,sv6,high6,nr6,nv6,hd6⟩:=HB6.out;clear HB6 HNT;have k4:=hd6.blk.cell 4 rfl;have f4:=hd6.blk.free 4;have hX:∀w8,w8=w6.setCell ⟨kb,4,none⟩ (.int .i64 ((st.no:Int)+1))→eJ I t v wk L EL W kb sb Rm S0 w0 PB wp S6 sv6 high6 nr6 nv6 {E:=bq st.E a n,xs:=st.xs,lost:=st.lost,no:=st.no+1,nw:=st.nw} w8:=by
  rintro w8 rfl;exact HCE.out _ _ _ _ _ _ _ _ (st.no+1) st.nw hd6 (hd6.blk.set 4 (.int .i64 ((st.no:Int)+1))) ((Fr.refl (fun k=>k=kb) w6).setCell ⟨kb,4,none⟩ (.inl rfl) _)
 have HX:=ae hX;clear hX hd6
 go_upto_region 8 with fail
 have hd8:=HX.out _ rfl;generalize w6.setCell ⟨kb,4,none⟩ (.int .i64 ((st.no:Int)+1))=w8 at*;clear HX k4 f4 w6;have k5:=hd8.blk.cell 5 rfl;have f5:=hd8.blk.free 5;have hX:∀w9,w9=w8.setCell ⟨kb,5,none⟩ (.int .i64 ((st.nw:Int)+(n:Int)))→eJ I t v wk L EL W kb sb Rm S0 w0 PB wp S6 sv6 high6 nr6 nv6 {E:=bq st.E a n,xs:=st.xs,lost:=st.lost,no:=st.no+1,nw:=st.nw+n} w9:=by
  rintro w9 rfl;exact HCE.out _ _ _ _ _ _ _ _ (st.no+1) (st.nw+n) hd8 (by have:=hd8.blk.set 5 (.int .i64 ((st.nw:Int)+(n:Int)));exact this) ((Fr.refl (fun k=>k=kb) w8).setCell ⟨kb,5,none⟩ (.inl rfl) _)
 have HX:=ae hX;clear hX hd8 HCE
 go_upto_region 9 with fail
 have hd9:=HX.out _ rfl;generalize w8.setCell ⟨kb,5,none⟩ (.int .i64 ((st.nw:Int)+(n:Int)))=w9 at*;clear HX k5 f5 w8;have k2:=hd9.blk.cell 2 rfl;have HP:=ae (HPU.out _ _ _ _ _ _ _ (by exact ⟨rfl,rfl⟩) hd9);clear hd9 HPU;go_wp2_with fail
 refine (HP.out).mono ?_;rintro e w10 ⟨he,hb⟩;have HQ:=ae (HEND.out _ hb);clear hb HP HEND k2;rcases he with rfl|rfl
 ·go_wp2;go_end0;exact HQ.out
 ·go_wp2;go_end0;exact HQ.out
end
section
variable {I:dW} {t:TypeId} {v wk:Value} {L:Nat→Nat} {EL:aI} {W kb sb Rm:Nat} {S0:Nat→Prop} {w0:World} {PB:Nat→Prop} {wp:World} {S S1:Nat→Prop} {sv sv1:Value} {Hg high1 nr nv:Int} {st:dl} {w w1:World} {fl:Nat} {r:Value} {dom:Nat→Prop} {G:Gr} {rs:List Nat} {N:Nat}
theorem ni (h:dh I t v wk L EL W kb sb Rm S0 w0 PB wp st w):
  Calls Tryz.prog 203 #[kb,.int .i64 0] w (gW I t v wk L EL W kb sb Rm S0 w0 PB wp st):=by
 have H:=ae h;clear h;generalize hQ:(gW I t v wk L EL W kb sb Rm S0 w0 PB wp st)=Q;have HQ:Hid (∀w',dh I t v wk L EL W kb sb Rm S0 w0 PB wp st w'→Q (.returned (.tuple #[])) w'):=by show∀w',_;intro w' h;rw [←hQ];exact ⟨rfl,h⟩
 clear hQ
 go_enter Tryz.func203,Tryz.ntmps203
 go_wp2;refine bodyPost_ret (results_none rfl _ _ _) rfl ?_;exact HQ.out _ H.out
theorem pq (h:dh I t v wk L EL W kb sb Rm S0 w0 PB wp st w) (a:Nat) (ha:a≠0) (he:st.E a≠0):
  Calls Tryz.prog 203 #[kb,.int .i64 a] w (gW I t v wk L EL W kb sb Rm S0 w0 PB wp st):=by
 have H:=ae h;obtain ⟨S,sv,Hg,nr,nv,hd⟩:=h;have htop:=hd.ext.top a he;have hW2:=hd.ext.small.2;have HF:=ae (ee hd.ext hd.tab a (by omega));have hfind:∀e w',ce st.E a w e w'→(∃n:Nat,e= .returned (.tuple #[.int .i64 a,.int .i64 n,.bool true]))∧w=w':=by
  rintro e w' ⟨⟨s,n,h1,h2,h3,h5⟩|⟨h1,_⟩,h4⟩
  ·refine ⟨⟨n,?_⟩,h4⟩;have:s=a:=by
    rcases Nat.lt_or_ge s a with h|h
    ·have:=hd.ext.apart s a h (by omega) he;omega
    ·omega
   rw [h5,this]
  ·have:=h1 a (Nat.le_refl a);omega
 have HFI:=ae hfind;have k1:=hd.blk.cell 1 rfl;generalize hQ:(gW I t v wk L EL W kb sb Rm S0 w0 PB wp st)=Q;have HQ:Hid (∀w',dh I t v wk L EL W kb sb Rm S0 w0 PB wp st w'→Q (.returned (.tuple #[])) w'):=by show∀w',_;intro w' h;rw [←hQ];exact ⟨rfl,h⟩
 have ha':¬(a:Int)=0:=by omega
 clear hQ hd htop hW2 hfind he
 go_enter Tryz.func203,Tryz.ntmps203
 go_wp2_with fail
 refine (HF.out).mono ?_;intro e w1 hp;obtain ⟨⟨n,rfl⟩,rfl⟩:=HFI.out _ _ hp;clear hp HF HFI;go_wp2;refine bodyPost_ret (results_none rfl _ _ _) rfl ?_;exact HQ.out _ H.out
theorem kK (hs:ba t v fl r I dom) (hS:sL EL kb sb w0.heap.size S0) (hG:cg G rs N) (hW:N≤W) (hO:∀a,G.size a≠0→dy L dom G a) (h:dh I t v wk L EL W kb sb Rm S0 w0 PB wp st w) (hm:bU G rs st.E) (a:Nat) (ha:a≠0→Reach G rs a) (hno:st.no≤1048576) (hnw:st.nw≤1048576) (hroom:Rm≤4096):
  Calls Tryz.prog 203 #[kb,.int .i64 a] w (gW I t v wk L EL W kb sb Rm S0 w0 PB wp (bE G Rm st a)):=by
 by_cases h0:a=0
 ·subst h0;have:bE G Rm st 0=st:=if_pos (.inl rfl);rw [this];exact ni h
 ·by_cases he:st.E a=0
  ·exact po hs hS hG hW hO h hm a h0 (ha h0) he hno hnw hroom
  ·have:bE G Rm st a=st:=if_pos (.inr he);rw [this];exact pq h a h0 he
end
theorem mZ {E:Nat→Nat} {a n N:Nat} (hn:n≠0) (h1:∀s,s≤a→s+E s≤a) (h2:∀s,a≤s→E s≠0→a+n≤s) (hN:a+n≤N):cnt (aj (bq E a n)) 0 N=cnt (aj E) 0 N+n:=by
 have e0:E a=0:=by have:=h1 a (Nat.le_refl a);omega
 have low:∀i,i<a→aj (bq E a n) i=aj E i:=fun i hi=>by
  rw [Bool.eq_iff_iff,aQ,aQ];constructor
  ·rintro ⟨s,q1,q2⟩;exact ⟨s,q1,by unfold bq at q2;rw [if_neg (by omega)] at q2;exact q2⟩
  ·rintro ⟨s,q1,q2⟩;exact ⟨s,q1,by unfold bq;rw [if_neg (by omega)];exact q2⟩
 have mid1:∀i,a≤i→i<a+n→aj (bq E a n) i=true:=fun i q1 q2=>aQ.2 ⟨a,q1,by unfold bq;rw [if_pos rfl];exact q2⟩
 have mid0:∀i,a≤i→i<a+n→aj E i=false:=fun i q1 q2=>by
  rw [Bool.eq_false_iff];intro h;obtain ⟨s,r1,r2⟩:=aQ.1 h;rcases Nat.lt_or_ge a s with h|h
  ·have:=h2 s (by omega) (by omega);omega
  ·have:=h1 s h;omega
 have Hg:∀i,a+n≤i→aj (bq E a n) i=aj E i:=fun i hi=>by
  rw [Bool.eq_iff_iff,aQ,aQ];constructor
  ·rintro ⟨s,q1,q2⟩;unfold bq at q2;split at q2
   ·omega
   ·exact ⟨s,q1,q2⟩
  ·rintro ⟨s,q1,q2⟩;refine ⟨s,q1,?_⟩;unfold bq;rw [if_neg (by rintro rfl;omega)];exact q2
 rw [aw (aj (bq E a n)) (Nat.zero_le a) (show a≤N by omega),aw (aj E) (Nat.zero_le a) (show a≤N by omega),aw (aj (bq E a n)) (show a≤a+n by omega) hN,aw (aj E) (show a≤a+n by omega) hN,
  aJ (f:=aj (bq E a n)) (g:=aj E) (a:=0) (b:=a) (fun i _ h=>low i h),ib (f:=aj (bq E a n)) (fun i h h'=>mid1 i h h'),aD (f:=aj E) (a:=a) (b:=a+n) (fun i h h'=>mid0 i h h'),aJ (f:=aj (bq E a n)) (g:=aj E) (a:=a+n) (b:=N) (fun i h _=>Hg i h)]
 omega
structure dV (G:Gr) (rs:List Nat) (N Rm:Nat) (st:dl):Prop where
 marked:bU G rs st.E
 no:st.no=cnt (aU st.E) 0 N
 nw:st.nw=cnt (aj st.E) 0 N
 xs:∀x∈st.xs,st.E x≠0
 rm:st.xs.length≤Rm
structure eG (st st':dl):Prop where
 mono:∀b,st.E b≠0→st'.E b≠0
 xs:∀x∈st.xs,x∈st'.xs
 new:∀b,st'.E b≠0→st.E b≠0∨b∈st'.xs∨st'.lost=true
 lost:st.lost=true→st'.lost=true
 lost':st'.lost=true→st.lost=true∨st.no<st'.no
 no:st.no≤st'.no
 len:st'.xs.length+st.no≤st.xs.length+st'.no
theorem eG.refl (st:dl):eG st st:=⟨fun _ h=>h,fun _ h=>h,fun _ h=> .inl h,id,.inl,Nat.le_refl _,Nat.le_refl _⟩
theorem eG.trans {a b c:dl} (h:eG a b) (k:eG b c):eG a c:=
 ⟨fun x hx=>k.mono x (h.mono x hx),fun x hx=>k.xs x (h.xs x hx),fun x hx=>by
  rcases k.new x hx with h1|h1|h1
  ·rcases h.new x h1 with h2|h2|h2
   ·exact .inl h2
   ·exact .inr (.inl (k.xs x h2))
   ·exact .inr (.inr (k.lost h2))
  ·exact .inr (.inl h1)
  ·exact .inr (.inr h1),fun e=>k.lost (h.lost e),fun e=>by
  have:=h.no;have:=k.no;rcases k.lost' e with h1|h1
  ·rcases h.lost' h1 with h2|h2
   ·exact .inl h2
   ·exact .inr (by omega)
  ·exact .inr (by omega),Nat.le_trans h.no k.no,by have:=h.len;have:=k.len;omega⟩
section
variable {G:Gr} {rs:List Nat} {N Rm:Nat} {st:dl}
theorem dV.small (h:dV G rs N Rm st):st.no≤N∧st.nw≤N:=by
 have h1:=be (aU st.E) 0 N;have h2:=be (aj st.E) 0 N;rw [h.no,h.nw];omega
theorem jF (hG:cg G rs N) (h:dV G rs N Rm st) {a:Nat} (ha:a≠0→Reach G rs a):dV G rs N Rm (bE G Rm st a):=by
 unfold bE;split
 ·exact h
 ·rename_i hn;have h0:a≠0:=fun e=>hn (.inl e)
  have he:st.E a=0:=by
   rcases Nat.eq_zero_or_pos (st.E a) with e|e
   ·exact e
   ·exact absurd (.inr (by omega)) hn
  have hs:=hG.reach (ha h0);have hr:=h.marked.Rm hG hs he;have ht:=hG.top a hs;refine ⟨h.marked.put (ha h0),?_,?_,?_,?_⟩
  ·show st.no+1=_
   rw [gd hs he (by omega),h.no]
  ·show st.nw+G.size a=_
   rw [mZ hs hr.1 hr.2 ht,h.nw]
  ·intro x hx;show bq st.E a (G.size a) x≠0
   unfold bq;split
   ·exact hs
   ·rename_i hxa;refine h.xs x ?_;simp only at hx;split at hx
    ·rcases List.mem_append.1 hx with h1|h1
     ·exact h1
     ·exact absurd (List.mem_singleton.1 h1) hxa
    ·exact hx
  ·show (if st.xs.length<Rm then st.xs++[a] else st.xs).length≤Rm
   have:=h.rm;split
   ·rw [List.length_append,List.length_singleton];omega
   ·exact this
theorem iL (st:dl) (a:Nat) (hs:a≠0→G.size a≠0):eG st (bE G Rm st a)∧(a≠0→(bE G Rm st a).E a≠0):=by
 unfold bE;split
 ·rename_i h;exact ⟨eG.refl st,fun h0=>by rcases h with h|h;exact absurd h h0;exact h⟩
 ·rename_i hn;have h0:a≠0:=fun e=>hn (.inl e)
  have hz:=hs h0;refine ⟨⟨?_,?_,?_,?_,?_,?_,?_⟩,fun _=> ?_⟩
  ·intro b hb;show bq st.E a (G.size a) b≠0;unfold bq;split;exact hz;exact hb
  ·intro x hx;show x∈(if st.xs.length<Rm then st.xs++[a] else st.xs);split;exact List.mem_append_left _ hx;exact hx
  ·intro b hb;show st.E b≠0∨b∈(if st.xs.length<Rm then st.xs++[a] else st.xs)∨(if st.xs.length<Rm then st.lost else true)=true
   have hb':bq st.E a (G.size a) b≠0:=hb;unfold bq at hb';split at hb'
   ·rename_i e;subst e;by_cases hl:st.xs.length<Rm
    ·exact .inr (.inl (by rw [if_pos hl];simp))
    ·exact .inr (.inr (by rw [if_neg hl]))
   ·exact .inl hb'
  ·intro h;show (if st.xs.length<Rm then st.lost else true)=true;split;exact h;rfl
  ·intro _;exact .inr (Nat.lt_succ_self _)
  ·exact Nat.le_succ _
  ·show (if st.xs.length<Rm then st.xs++[a] else st.xs).length+st.no≤st.xs.length+(st.no+1)
   split
   ·rw [List.length_append,List.length_singleton];omega
   ·omega
  ·show bq st.E a (G.size a) a≠0;unfold bq;rw [if_pos rfl];exact hz
def cj (G:Gr) (Rm:Nat) (st:dl) (a:Nat):dl:=(G.ptrs a).foldl (bE G Rm) st
theorem jD (hG:cg G rs N):∀(l:List Nat) (st:dl),dV G rs N Rm st→(∀p∈l,p≠0→Reach G rs p)→dV G rs N Rm (l.foldl (bE G Rm) st)∧eG st (l.foldl (bE G Rm) st)∧∀p∈l,p≠0→(l.foldl (bE G Rm) st).E p≠0
 |[],st,h,_=>⟨h,eG.refl st,fun p hp=>absurd hp (List.not_mem_nil)⟩
 |a::l,st,h,hr=>by
  have hra:=hr a (List.mem_cons_self ..);have h1:=jF hG h hra;have h2:=iL (G:=G) (Rm:=Rm) st a (fun h0=>hG.reach (hra h0));obtain ⟨i1,i2,i3⟩:=jD hG l _ h1 (fun p hp=>hr p (List.mem_cons_of_mem _ hp));refine ⟨i1,h2.1.trans i2,fun p hp h0=> ?_⟩;rcases List.mem_cons.1 hp with rfl|hp
  ·exact i2.mono _ (h2.2 h0)
  ·exact i3 p hp h0
theorem ip (hG:cg G rs N) (h:dV G rs N Rm st) {a:Nat} (ha:Reach G rs a):dV G rs N Rm (cj G Rm st a)∧eG st (cj G Rm st a)∧qN G (cj G Rm st a).E a:=
 jD hG _ st h (fun p hp h0=> .step ha hp h0)
end
section
variable {I:dW} {t:TypeId} {v wk:Value} {L:Nat→Nat} {EL:aI} {W kb sb Rm:Nat} {S0:Nat→Prop} {w0:World} {PB:Nat→Prop} {wp:World} {S S1:Nat→Prop} {sv sv1:Value} {Hg high1 nr nv:Int} {st:dl} {w w1:World} {fl:Nat} {r:Value} {dom:Nat→Prop} {G:Gr} {rs:List Nat} {N:Nat}
theorem jG (hs:ba t v fl r I dom) (hS:sL EL kb sb w0.heap.size S0) (hG:cg G rs N) (hW:N≤W) (hO:∀a,G.size a≠0→dy L dom G a) (h:dh I t v wk L EL W kb sb Rm S0 w0 PB wp st w) (hI:dV G rs N Rm st) (a:Nat) (ha:Reach G rs a) (hroom:Rm≤4096):
  Calls Tryz.prog 208 #[kb,.int .i64 a] w (gW I t v wk L EL W kb sb Rm S0 w0 PB wp (cj G Rm st a)):=by
 have hsz:=hG.reach ha;have ha0:=ha.pos;obtain ⟨p,f,g,o1,o2,o3,o4,o5⟩:=hO a hsz;have htop:=hG.top a hsz;have hN:N≤1048576:=by obtain ⟨_,_,_,_,_,hd⟩:=h;have:=hd.ext.small.2;omega
 have HRD:=ae (fun w1 S sv Hg nr nv st1 (hb:eJ I t v wk L EL W kb sb Rm S0 w0 PB wp S sv Hg nr nv st1 w1)=>(eZ hs hb.sp a p f g (by omega) (o4 a (Nat.le_refl _) (by omega)) o1).mono (fun e w2 ⟨he,hp⟩=>(⟨he,hb.sp_ hS hp⟩:e=Ending.returned (.tuple #[bP p f g,.int .i64 0])∧dh I t v wk L EL W kb sb Rm S0 w0 PB wp st1 w2)));have hkd:∀i:Nat,i<p→cJ p f g i=(1:Nat):=fun i hi=>by
  have hh:=o1.2;unfold cJ;rw [cu,if_pos hh,if_neg (by omega),if_pos (by omega)];rfl
 have HPT:=ae (fun i (hi:i<p) w1 S sv Hg nr nv st1 (hb:eJ I t v wk L EL W kb sb Rm S0 w0 PB wp S sv Hg nr nv st1 w1)=>(iO hs hb.sp a i p f g (L (a+1+i)) (by omega) (by omega) (by have:=o1.2;unfold bw at this;omega) (o4 a (Nat.le_refl _) (by omega)) o1 (hkd i hi) (o4 _ (by omega) (by omega)) rfl (o5 i hi)).mono (fun e w2 ⟨he,hp⟩=>(⟨he,hb.sp_ hS hp⟩:e=Ending.returned (.tuple #[.int .i64 ((L (a+1+i):Nat):Int),.int .i64 0])∧dh I t v wk L EL W kb sb Rm S0 w0 PB wp st1 w2)));have HFR:=ae (fun w1 w2 st1 (hb:dh I t v wk L EL W kb sb Rm S0 w0 PB wp st1 w1) (hf:Fr (fun _=>False) w1 w2)=>hb.Fh hs hS hf);have HNT:=ae (fun w1=>jE (.pointer (some ⟨kb,0,none⟩)) w1);have htk:∀i,i≤p→((List.range i).map (fun i=>L (a+1+i))).foldl (bE G Rm) st=((List.range i).map (fun i=>L (a+1+i))).foldl (bE G Rm) st∧dV G rs N Rm (((List.range i).map (fun i=>L (a+1+i))).foldl (bE G Rm) st):=fun i hi=>⟨rfl,(jD hG _ st hI (fun q hq h0=> .step ha (by rw [o3];obtain ⟨j,hj,rfl⟩:=List.mem_map.1 hq;exact List.mem_map.2 ⟨j,List.mem_range.2 (by have:=List.mem_range.1 hj;omega),rfl⟩) h0)).1⟩
 obtain ⟨sti,hsti⟩:∃sti:Nat→dl,sti=fun i=>((List.range i).map (fun i=>L (a+1+i))).foldl (bE G Rm) st:=⟨_,rfl⟩
 have hstep:∀i,bE G Rm (sti i) (L (a+1+i))=sti (i+1):=fun i=>by
  rw [hsti];show bE G Rm _ _=((List.range (i+1)).map _).foldl _ _;rw [List.range_succ,List.map_append,List.foldl_append];rfl
 have HRC:=ae (fun i (hi:i<p) w1 (hb:dh I t v wk L EL W kb sb Rm S0 w0 PB wp (sti i) w1)=>by
  have hi1:dV G rs N Rm (sti i):=by rw [hsti];exact (htk i (by omega)).2
  have hsm:=hi1.small;have:=kK hs hS hG hW hO hb hi1.marked (L (a+1+i)) (fun h0=> .step ha (by rw [o3];exact List.mem_map.2 ⟨i,List.mem_range.2 hi,rfl⟩) h0) (by omega) (by omega) hroom;rw [hstep] at this;exact this)
 have HCE:=ae (fun w1 w2 S sv Hg nr nv st1 nv1 (hb:eJ I t v wk L EL W kb sb Rm S0 w0 PB wp S sv Hg nr nv st1 w1) he hf=>hb.cells_ (w1:=w2) (no:=st1.no) (nw:=st1.nw) (nr1:=nr) (nv1:=nv1) hs hS he hf);have h0:dh I t v wk L EL W kb sb Rm S0 w0 PB wp (sti 0) w:=by rw [hsti];exact h
 have hend:∀w',dh I t v wk L EL W kb sb Rm S0 w0 PB wp (sti p) w'→gW I t v wk L EL W kb sb Rm S0 w0 PB wp (cj G Rm st a) (.returned (.tuple #[])) w':=by
  intro w' hb;refine ⟨rfl,?_⟩;unfold cj;rw [o3];rw [hsti] at hb;exact hb
 have HEND:=ae hend;generalize (gW I t v wk L EL W kb sb Rm S0 w0 PB wp (cj G Rm st a))=Q at*;have H0:=ae h0;have hp256:p<256:=by have:=o1.2;unfold bw at this;omega
 obtain ⟨S,sv,Hg,nr,nv,hd⟩:=h0;have k0:=hd.blk.cell 0 rfl;have HRD0:=ae (HRD.out _ _ _ _ _ _ _ hd);unfold bP at*;unfold gW at HRC;clear hs hS hG hW hO h hI ha hroom hsz ha0 o1 o2 o3 o4 o5 htop hN hkd htk hsti hstep hend hd HRD
 go_enter Tryz.func208,Tryz.ntmps208
 go_wp2_with fail
 refine (HRD0.out).mono ?_;rintro e W2 ⟨rfl,hp⟩;obtain ⟨W3,hW3⟩:∃W3,W2.alloc (.cells #[.int .i64 p,.int .i64 f,.int .i64 g] 31)=W3:=⟨_,rfl⟩;have hF3:Fr (fun _=>False) W2 W3:=by rw [←hW3];exact (Fr.refl _ _).alloc _
 have hB3:=ae (show ak W3 W2.heap.size [.int .i64 p,.int .i64 f,.int .i64 g] 31 from by rw [←hW3];exact ak.new W2 _ _);have HB3:=ae (HFR.out _ _ _ hp hF3);clear hp hF3 HRD0 k0 H0
 go_upto_region 1 with fail
 clear hW3;generalize W2.heap.size=q at*;clear W2;go_wp2_with fail
 refine (HNT.out _).mono ?_;rintro e w4 ⟨rfl,rfl⟩;have kq:=hB3.out.cell 0 rfl;go_wp2
 go_loopw [24] (fun x wr=>∃(i:Nat),x= .int .i64 i∧i≤p∧Hid (dh I t v wk L EL W kb sb Rm S0 w0 PB wp (sti i) wr)) (fun x _=>(p-intOf x).toNat)
 case atStart=>exact ⟨0,rfl,by omega,HB3⟩
 case round=>
  clear HB3 hB3 kq;obtain ⟨i,rfl,h1,hr⟩:=hrel;obtain ⟨S5,sv5,high5,nr5,nv5,hd5⟩:=hr.out;have k0:=hd5.blk.cell 0 rfl;by_cases hlt:i<p
  ·have hlti:(i:Int)<(p:Int):=by omega
   have HP5:=ae (HPT.out i hlt _ _ _ _ _ _ _ hd5);clear hr hd5;go_wp2_with fail
   refine (HP5.out).mono ?_;rintro e w5 ⟨rfl,hb5⟩;have HR5:=ae (HRC.out i hlt _ hb5);clear hb5 HP5 k0;go_wp2_with fail
   refine (HNT.out _).mono ?_;rintro e w6 ⟨rfl,rfl⟩;go_wp2_with fail
   refine (HR5.out).mono ?_;rintro e w7 ⟨rfl,hb7⟩;have HB7:=ae hb7;clear hb7 HR5;go_wp2;go_roundw
   case rel=>exact ⟨i+1,by go_num,by omega,HB7⟩
   case measure=>simp [intOf];omega
  ·have hiN:i=p:=by omega
   have hni:¬(i:Int)<(p:Int):=by omega
   have kv:=hd5.blk.cell 7 rfl;have fv:=hd5.blk.free 7;have HX:=ae (fun x w8 (e:w8=wr.setCell ⟨kb,7,none⟩ (.int .i64 x))=>HEND.out w8 (by rw [←hiN];exact ⟨_,_,_,_,_,HCE.out _ _ _ _ _ _ _ _ x hd5 (by rw [e];exact hd5.blk.set 7 (.int .i64 x)) (by rw [e];exact (Fr.refl (fun k=>k=kb) wr).setCell ⟨kb,7,none⟩ (.inl rfl) _)⟩));clear hr hd5 h1 hlt hiN k0;go_wp2;go_end0;exact HX.out _ _ rfl
end
structure kh (G:Gr) (rs:List Nat) (N Rm:Nat) (st cur:dl) (pend:List Nat):Prop where
 inv:dV G rs N Rm cur
 mono:∀b,st.E b≠0→cur.E b≠0
 all:∀b,cur.E b≠0→qN G cur.E b∨b∈cur.xs∨b∈pend∨cur.lost=true∨(st.E b≠0∧b∉st.xs)
 lost:st.lost=true→cur.lost=true
 lost':cur.lost=true→st.lost=true∨st.no<cur.no
 no:st.no≤cur.no
 pd:∀b∈pend,Reach G rs b
section
variable {G:Gr} {rs:List Nat} {N Rm:Nat} {st cur:dl} {pend:List Nat}
theorem kh.start (h:dV G rs N Rm st):kh G rs N Rm st st []:=
 ⟨h,fun _ h=>h,fun b hb=>by
  by_cases hx:b∈st.xs
  ·exact .inr (.inl hx)
  ·exact .inr (.inr (.inr (.inr ⟨hb,hx⟩))),id,.inl,Nat.le_refl _,fun b hb=>absurd hb (List.not_mem_nil)⟩
theorem kh.pop (h:kh G rs N Rm st cur []) {ys:List Nat} {x:Nat} (hx:cur.xs=ys++[x]):kh G rs N Rm st {cur with xs:=ys} [x]:=
 ⟨⟨h.inv.marked,h.inv.no,h.inv.nw,fun y hy=>h.inv.xs y (by rw [hx];exact List.mem_append_left _ hy),by have:=h.inv.rm;rw [hx,List.length_append] at this;show ys.length≤Rm;omega⟩,h.mono,fun b hb=>by
  rcases h.all b hb with h1|h1|h1|h1|h1
  ·exact .inl h1
  ·rw [hx] at h1;rcases List.mem_append.1 h1 with h2|h2
   ·exact .inr (.inl h2)
   ·exact .inr (.inr (.inl h2))
  ·exact absurd h1 (List.not_mem_nil)
  ·exact .inr (.inr (.inr (.inl h1)))
  ·exact .inr (.inr (.inr (.inr h1))),h.lost,h.lost',h.no,fun b hb=>by
  rw [List.mem_singleton.1 hb];exact (h.inv.marked x (h.inv.xs x (by rw [hx];simp))).1⟩
theorem kh.visit (hG:cg G rs N) {x:Nat} (h:kh G rs N Rm st cur [x]):kh G rs N Rm st (cj G Rm cur x) []∧(cj G Rm cur x).xs.length+cur.no≤cur.xs.length+(cj G Rm cur x).no∧cur.no≤(cj G Rm cur x).no:=by
 obtain ⟨i1,i2,i3⟩:=ip (Rm:=Rm) hG h.inv (h.pd x (by simp));refine ⟨⟨i1,fun b hb=>i2.mono b (h.mono b hb),fun b hb=> ?_,fun e=>i2.lost (h.lost e),fun e=> ?_,Nat.le_trans h.no i2.no,fun b hb=>absurd hb (List.not_mem_nil)⟩,i2.len,i2.no⟩
 ·rcases i2.new b hb with h0|h0|h0
  ·rcases h.all b h0 with h1|h1|h1|h1|h1
   ·exact .inl (fun p hp hp0=>i2.mono p (h1 p hp hp0))
   ·exact .inr (.inl (i2.xs b h1))
   ·rw [List.mem_singleton.1 h1];exact .inl i3
   ·exact .inr (.inr (.inr (.inl (i2.lost h1))))
   ·exact .inr (.inr (.inr (.inr h1)))
  ·exact .inr (.inl h0)
  ·exact .inr (.inr (.inr (.inl h0)))
 ·have:=h.no;have:=i2.no;rcases i2.lost' e with h1|h1
  ·rcases h.lost' h1 with h2|h2
   ·exact .inl h2
   ·exact .inr (by omega)
  ·exact .inr (by omega)
end
section
variable {I:dW} {t:TypeId} {v wk:Value} {L:Nat→Nat} {EL:aI} {W kb sb Rm:Nat} {S0:Nat→Prop} {w0:World} {PB:Nat→Prop} {wp:World} {S S1:Nat→Prop} {sv sv1:Value} {Hg high1 nr nv:Int} {st:dl} {w w1:World} {fl:Nat} {r:Value} {dom:Nat→Prop} {G:Gr} {rs:List Nat} {N:Nat}
def wT (I:dW) (t:TypeId) (v wk:Value) (L:Nat→Nat) (EL:aI) (W kb sb Rm:Nat) (S0:Nat→Prop) (w0:World) (PB:Nat→Prop) (wp:World) (G:Gr) (rs:List Nat) (N:Nat) (st:dl) (m:Nat) (e:Ending) (w':World):Prop:=
 ∃(x:Nat) (is:Bool) (cur:dl),e= .returned (.tuple #[.int .i64 x,.bool is])∧Hid (dh I t v wk L EL W kb sb Rm S0 w0 PB wp cur w'∧kh G rs N Rm st cur (if is then [x] else [])∧(is=false→cur.xs=[])∧2*(N-cur.no)+cur.xs.length+(if is then 1 else 0)≤m)
theorem vZ (hs:ba t v fl r I dom) (hS:sL EL kb sb w0.heap.size S0) {cur:dl} (h:eJ I t v wk L EL W kb sb Rm S0 w0 PB wp S sv Hg nr nv cur w) (hI:kh G rs N Rm st cur []) (hroom:Rm≤4096) (m:Nat) (hm:2*(N-cur.no)+cur.xs.length≤m):
  Calls Tryz.prog 250 #[sb] w (wT I t v wk L EL W kb sb Rm S0 w0 PB wp G rs N st m):=by
 rcases List.eq_nil_or_concat cur.xs with e|⟨ys,x,e⟩
 ·have hk:=h.stk;rw [e] at hk;refine (uF sb sv Rm Hg cur.lost w hk).mono ?_;rintro e' w' ⟨rfl,rfl⟩;exact ⟨0,false,cur,rfl,⟨_,_,_,_,_,h⟩,hI,fun _=>e,by rw [if_neg (by decide)];omega⟩
 ·rw [List.concat_eq_append] at e;have hk:=h.stk;rw [e,List.map_append] at hk;have hl:=hI.inv.rm;rw [e,List.length_append,List.length_singleton] at hl;refine (uG sb sv (ys.map Int.ofNat) (x:Int) Rm Hg cur.lost w hk (by rw [List.length_map];omega)).mono ?_;rintro e' w' ⟨rfl,sv',q1,q2,q3⟩;refine ⟨x,true,{cur with xs:=ys},rfl,h.stk_ hs hS q1 (q2.mono (fun k hk=> .inl (.inl hk))) (fun k hk=> .inl (by rw [←q3];exact hk)),hI.pop e,(fun h=>by cases h),?_⟩;rw [e,List.length_append,List.length_singleton] at hm;rw [if_pos rfl];exact Nat.le_trans (by show 2*(N-cur.no)+ys.length+1≤_;omega) hm
theorem mW (P:Nat→Prop):∀m,P m→∃m,P m∧∀k,P k→m≤k:=by
 intro m
 induction m using Nat.strongRecOn with
 |ind m ih=>
  intro h;by_cases hx:∃k,k<m∧P k
  ·obtain ⟨k,h1,h2⟩:=hx;exact ih k h1 h2
  ·exact ⟨m,h,fun k hk=>by
    rcases Nat.lt_or_ge k m with h1|h1
    ·exact absurd ⟨k,h1,hk⟩ hx
    ·exact h1⟩
open Classical in
noncomputable def dE (P:Nat→Prop):Nat:=if h:∃m,P m then Classical.choose (mW P _ (Classical.choose_spec h)) else 0
theorem bS {P:Nat→Prop} {m:Nat} (h:P m):P (dE P)∧dE P≤m:=by
 have hx:∃m,P m:=⟨m,h⟩;unfold dE;rw [dif_pos hx];have:=Classical.choose_spec (mW P _ (Classical.choose_spec hx));exact ⟨this.1,this.2 m h⟩
def yg (I:dW) (t:TypeId) (v wk:Value) (L:Nat→Nat) (EL:aI) (W kb sb Rm:Nat) (S0:Nat→Prop) (w0:World) (PB:Nat→Prop) (wp:World) (G:Gr) (rs:List Nat) (N:Nat) (st:dl) (p q:Value) (w':World) (m:Nat):Prop:=
 ∃(x:Nat) (is:Bool) (cur:dl),p= .int .i64 x∧q= .bool is∧(dh I t v wk L EL W kb sb Rm S0 w0 PB wp cur w'∧kh G rs N Rm st cur (if is then [x] else [])∧(is=false→cur.xs=[])∧2*(N-cur.no)+cur.xs.length+(if is then 1 else 0)≤m)
def vn (I:dW) (t:TypeId) (v wk:Value) (L:Nat→Nat) (EL:aI) (W kb sb Rm:Nat) (S0:Nat→Prop) (w0:World) (PB:Nat→Prop) (wp:World) (G:Gr) (rs:List Nat) (N:Nat) (st:dl) (e:Ending) (w':World):Prop:=
 e= .returned (.tuple #[])∧∃cur:dl,dh I t v wk L EL W kb sb Rm S0 w0 PB wp cur w'∧kh G rs N Rm st cur []∧cur.xs=[]
theorem pj (hs:ba t v fl r I dom) (hS:sL EL kb sb w0.heap.size S0) (hG:cg G rs N) (hW:N≤W) (hO:∀a,G.size a≠0→dy L dom G a) (h:dh I t v wk L EL W kb sb Rm S0 w0 PB wp st w) (hI:dV G rs N Rm st) (hroom:Rm≤4096):
  Calls Tryz.prog 204 #[kb] w (vn I t v wk L EL W kb sb Rm S0 w0 PB wp G rs N st):=by
 have HPO:=ae (fun w1 S sv Hg nr nv cur m (hb:eJ I t v wk L EL W kb sb Rm S0 w0 PB wp S sv Hg nr nv cur w1) (hi:kh G rs N Rm st cur []) (hm:2*(N-cur.no)+cur.xs.length≤m)=>vZ hs hS hb hi hroom m hm);have HVI:=ae (fun w1 cur x (hb:dh I t v wk L EL W kb sb Rm S0 w0 PB wp cur w1) (hi:kh G rs N Rm st cur [x])=>(jG hs hS hG hW hO hb hi.inv x (hi.pd x (by simp)) hroom).mono (fun e w2 ⟨h1,h2⟩=>(⟨h1,h2,(hi.visit hG).1,(hi.visit hG).2⟩:e=Ending.returned (.tuple #[])∧dh I t v wk L EL W kb sb Rm S0 w0 PB wp (cj G Rm cur x) w2∧kh G rs N Rm st (cj G Rm cur x) []∧(cj G Rm cur x).xs.length+cur.no≤cur.xs.length+(cj G Rm cur x).no∧cur.no≤(cj G Rm cur x).no)));have hend:∀w' cur,dh I t v wk L EL W kb sb Rm S0 w0 PB wp cur w'→kh G rs N Rm st cur []→cur.xs=[]→vn I t v wk L EL W kb sb Rm S0 w0 PB wp G rs N st (.returned (.tuple #[])) w':=fun w' cur h1 h2 h3=>⟨rfl,cur,h1,h2,h3⟩
 have HEND:=ae hend;generalize (vn I t v wk L EL W kb sb Rm S0 w0 PB wp G rs N st)=Q at*;obtain ⟨S,sv,Hg,nr,nv,hd⟩:=h;have k2:=hd.blk.cell 2 rfl;obtain ⟨M,hM⟩:∃M,2*(N-st.no)+st.xs.length=M:=⟨_,rfl⟩;have HP0:=ae (HPO.out _ _ _ _ _ _ _ M hd (kh.start hI) (by omega));unfold wT at*;clear hs hS hG hW hO hI hroom hd hend hM
 go_enter Tryz.func204,Tryz.ntmps204
 go_wp2_with fail
 refine (HP0.out).mono ?_;rintro e w1 ⟨x0,is0,cur0,rfl,hc0⟩;have hr0:yg I t v wk L EL W kb sb Rm S0 w0 PB wp G rs N st (.int .i64 x0) (.bool is0) w1 M:=⟨x0,is0,cur0,rfl,rfl,hc0.out⟩;have HR0:=ae hr0;clear HP0 k2 hc0 hr0;go_wp2
 go_loopw [2,3] (fun p q wr=>∃m,Hid (yg I t v wk L EL W kb sb Rm S0 w0 PB wp G rs N st p q wr m)) (fun p q wr=>dE (yg I t v wk L EL W kb sb Rm S0 w0 PB wp G rs N st p q wr))
 case atStart=>exact ⟨M,HR0⟩
 case round=>
  clear HR0;obtain ⟨m,hm⟩:=hrel;obtain ⟨hr,_⟩:=bS hm.out;clear hm;generalize hm0:dE (yg I t v wk L EL W kb sb Rm S0 w0 PB wp G rs N st _ _ _)=m0 at hr;obtain ⟨x,is,cur,rfl,rfl,hb,hi,hx,hlm⟩:=hr;have HM0:=ae hm0;clear hm0
  cases is with
  |false=>
   have HQ:=ae (HEND.out _ _ hb hi (hx rfl));clear hb hi hx hlm;go_wp2;go_end0;exact HQ.out
  |true=>
   rw [if_pos rfl] at hi hlm;have HV:=ae (HVI.out _ _ _ hb hi);clear hb hi hx;go_wp2_with fail
   refine (HV.out).mono ?_;rintro e w2 ⟨rfl,hb2,hi2,hl2,hn2⟩;have hi2':=hi2.inv.small;obtain ⟨S2,sv2,high2,nr2,nv2,hd2⟩:=hb2;have k2:=hd2.blk.cell 2 rfl;have HP2:=ae (HPO.out _ _ _ _ _ _ _ (m0-1) hd2 hi2 (by omega));have hlt:m0-1<m0:=by omega
   clear hd2 hi2 hl2 hn2 hi2' HV hlm;go_wp2_with fail
   refine (HP2.out).mono ?_;rintro e w3 ⟨x3,is3,cur3,rfl,hc3⟩;have HR3:=ae (show yg I t v wk L EL W kb sb Rm S0 w0 PB wp G rs N st (.int .i64 x3) (.bool is3) w3 (m0-1) from ⟨x3,is3,cur3,rfl,rfl,hc3.out⟩);clear HP2 k2 hc3;go_wp2;go_roundw
   case rel=>exact ⟨m0-1,HR3⟩
   case measure=>exact Nat.lt_of_le_of_lt (bS HR3.out).2 (by rw [HM0.out];exact hlt)
end
end Go.Proofs.YthahbijbpinneaaGreatDoor
