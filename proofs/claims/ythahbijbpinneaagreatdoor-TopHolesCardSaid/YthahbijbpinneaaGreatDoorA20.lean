import Derived.Test.YthahbijbpinneaaGreatDoorA19
set_option maxRecDepth 100000
set_option maxHeartbeats 8000000
set_option linter.all false
namespace Go.Proofs.YthahbijbpinneaaGreatDoor
open Go.RowKit
theorem ph (k:Nat) (hk:k≤16777216) (X:Int) (hX:X=(k:Int)) (w:World):(Instr.makeSlice 207 (.int .i64 X) (.int .i64 X)).run Tryz.prog w= .ok (.slice (some ⟨w.heap.size,0,none⟩) k k) (w.alloc (.cells (ol (List.replicate k false)).toArray 4)):=by
 obtain ⟨i0,hi,hz,hs,hb⟩:=info_parts kF;subst hX;have h:=run_makeSlice (P:=Tryz.prog) w 207 4 i0 (.bool false) Tryz.underlying207 hi hz .i64 .i64 (k:Int) (k:Int) (by omega) (Int.le_refl _) (by rw [hs,Int.toNat_natCast];omega) (by rw [hb];omega) (by omega);rw [hs,Int.toNat_natCast,Nat.mul_one,show (Value.bool false).cells= #[.bool false] from rfl,gG] at h;rw [h];have e:(ol (List.replicate k false)).toArray=Array.replicate k (.bool false):=by unfold ol;rw [List.map_replicate];simp
 rw [e]
section
variable {m b g Pg W Fs Us Hg:Nat} {S:Nat→Prop} {mp:Nat→Bool} {L:Nat→Nat} {w:World}
attribute [local go_sem] Oper.semAt_some
theorem uT (d:Nat) {A:AG} {rs:List Nat} {φ:Nat→Nat} (hi:bi m Pg W Fs Us Hg mp L S w) (hr:aW w b g (rs.map φ)) (hT:bu w) (hSt:¬S aN) (hSr:¬S b∧¬S g) (hgt:g≠aN) (F Tp T Li B Rm ah:Nat) (hc:fS Pg W F Tp T Li B Rm ah) (hl:aP A rs φ L F Tp) (hl1:1≤rs.length) (hfit:Tp-F≤Li-T) (hmp:∀q,mp q=(decide (F≤q*Pg)&&decide (q*Pg<Tp))) (hfr:Fs=(Li-T)/Pg+(ah+2)*(pu B Pg+3)) (hdiv:Pg∣B∨B∣Pg):
  CallsIn Fence.wide d Tryz.prog 129 #[m,.pointer (some ⟨b,0,none⟩),cG F Tp T Li B Rm ah] w (jd m b g Pg W Fs A rs T Li B ah S w):=by
 refine callsIn_of_wp_marks Tryz.func129 rfl trivial ?_ rfl;simp only [Tryz.ntmps129,List.size_toArray,List.length_cons,List.length_nil,Nat.reduceAdd,Nat.reduceSub,Array.replicate_succ,Array.replicate_zero,List.push_toArray,List.append_toArray,List.nil_append,List.cons_append];have hlaw:=aF m Pg W Fs Us Hg mp;obtain ⟨hp1,hp2,hW5,hWp,hur,hr4,hhr,hus,hW1⟩:=hi.choose_spec.1.at;have hsl:=hlaw.lt _ _ _ hi;have htl:aN<w.heap.size:=aE (hT 0 0 rfl);have hrb:=hr.blk.lt;have hrg:=hr.row.lt;obtain ⟨G,hcG⟩:=hl.conc;have hG:=cv.sound hl hcG;have hdom:∀k,F≤k→k<Tp→aX W Pg mp k:=fun k h1 h2=>by
  refine ⟨by have:=hc.F3;omega,?_⟩;have hFq:F=F/Pg*Pg:=by have:=Nat.div_add_mod F Pg;have:=hc.F4;rw [Nat.mul_comm];omega
  have h3:=Nat.mul_le_mul_right Pg (Nat.div_le_div_right (c:=Pg) h1);have h4:=Nat.div_mul_le_self k Pg;rw [hmp,decide_eq_true (show F≤k/Pg*Pg by omega),decide_eq_true (show k/Pg*Pg<Tp by omega)];rfl
 have hO:=cv.obj hl hcG hdom (by have:=hc.F3;omega);have hlo:=cv.low hl hcG;obtain ⟨W1,hW1d⟩:∃W1,(w.alloc (.cells #[m] 112)).alloc (.cells #[.int .i64 F,.int .i64 Tp,.int .i64 T,.int .i64 Li,.int .i64 B,.int .i64 Rm,.int .i64 ah] 143)=W1:=⟨_,rfl⟩;have hf1:Fr (fun _=>False) w W1:=by rw [←hW1d];exact ((Fr.refl _ w).alloc _).alloc _
 have hz1:W1.heap.size=w.heap.size+2:=by rw [←hW1d,World.size_alloc,World.size_alloc]
 have hb3:ak W1 w.heap.size [.pointer (some ⟨m,0,none⟩)] 112:=by rw [←hW1d];exact (ak.new w _ _).alloc _
 have hb5:ak W1 (w.heap.size+1) [.int .i64 F,.int .i64 Tp,.int .i64 T,.int .i64 Li,.int .i64 B,.int .i64 Rm,.int .i64 ah] 143:=by
  rw [←hW1d];have:=ak.new (w.alloc (.cells #[m] 112)) [.int .i64 F,.int .i64 Tp,.int .i64 T,.int .i64 Li,.int .i64 B,.int .i64 Rm,.int .i64 ah] 143;rwa [World.size_alloc] at this
 have hr1:=hr.frame hf1 (fun h=>h) (fun h=>h);have hT1:=an hT hf1 (fun h=>h);have hi1:=hlaw.keep hi hf1;have HLN:=ae (jS hr1);have HCK:=ae (kX hi1.choose_spec.1 hc);have HRE:=ae (fun w1 (hf:Fr (fun _=>False) W1 w1)=>nN (d-1) (hlaw.keep hi1 hf) (hr1.frame hf (fun h=>h) (fun h=>h)) (an hT1 hf (fun h=>h)) hSt F Tp T Li B Rm ah hc hG hO hlo);unfold cG at HCK HRE ⊢;rw [List.length_map] at HLN;have HS7:Hid ((Tryz.prog.info? 143).map (·.size)=some 7):=by show _=_;kernel_rfl
 have hl0:¬(rs.length:Int)=0:=by omega
 have k0:=hb5.cell 0 rfl;have k1:=hb5.cell 1 rfl;have k2:=hb5.cell 2 rfl;have k3:=hb5.cell 3 rfl;have k4:=hb5.cell 4 rfl;have k5:=hb5.cell 5 rfl;have k6:=hb5.cell 6 rfl;have j0:=hb3.cell 0 rfl;have HA:=ae (af hi (af hr (af hT (af hSt (af hSr (af hgt (af hc (af hl (af hfit (af hmp (af hfr (af hlaw (af hsl (af hcG (af hG (af hdom (af hf1 (af hO (af hlo (af hdiv hl1))))))))))))))))))));have HB:=ae (af hp1 (af hp2 (af hW5 (af hWp (af hW1 (af htl (af hrb (af hrg (af hz1 (af hr1 (af hT1 hi1)))))))))));have HB1:=ae (af hb3 hb5);have hN5:F≤524288∧Tp≤524288∧T≤524288∧Li≤524288∧T≤Li:=by have:=hc.F2;have:=hc.F3;have:=hc.T2;have:=hc.T3;omega
 clear hi hr hT hSt hSr hgt hc hl hfit hmp hfr hlaw hsl hcG hG hdom hf1 hO hlo hdiv hl1 hp1 hp2 hW5 hWp hur hr4 hhr hus hW1 htl hrb hrg hz1 hr1 hT1 hi1 hb3 hb5;gi_wp2;clear hW1d;refine bt ((HLN.out).mono ?_);rintro e w' ⟨rfl,rfl⟩;clear HLN;gi_wp2;refine bt ((HCK.out).mono ?_);rintro e w1 ⟨rfl,hf2⟩;have HR1:=ae (HRE.out w1 hf2);have HB2:=ae (af (HB1.out.1.frame hf2 (fun h=>h)) (HB1.out.2.frame hf2 (fun h=>h)));have j0:=HB2.out.1.cell 0 rfl;have k0:=HB2.out.2.cell 0 rfl;have k1:=HB2.out.2.cell 1 rfl;have k2:=HB2.out.2.cell 2 rfl;have k3:=HB2.out.2.cell 3 rfl;have k4:=HB2.out.2.cell 4 rfl;have k5:=HB2.out.2.cell 5 rfl;have k6:=HB2.out.2.cell 6 rfl;have HF2:=ae hf2;clear HCK HRE hf2;gi_wp2;refine ⟨trivial,(fun h=>by cases h),(HR1.out).mono ?_⟩;rintro e w2 ⟨EL,E,S2,rfl,p1,p2,p3,p5,p6,p7,p8,p9⟩;obtain ⟨hi,hr,hT,hSt,hSr,hgt,hc,hl,hfit,hmp,hfr,hlaw,hsl,hcG,hG,hdom,hf1,hO,hlo,hdiv,hl1⟩:=HA.out;obtain ⟨hp1,hp2,hW5,hWp,hW1,htl,hrb,hrg,hz1,hr1,hT1,hi1⟩:=HB.out;have hz2:=HF2.out.size;have hz3:=p9.size;have hcs:¬S w.heap.size∧¬S (w.heap.size+1):=⟨fun h=>by have:=hsl _ h;omega,fun h=>by have:=hsl _ h;omega⟩;have hb32:=HB2.out.1.frame p9 hcs.1;have hb52:=HB2.out.2.frame p9 hcs.2;have hT2:=an (an hT1 HF2.out (fun h=>h)) p9 hSt;have hr2:=(hr1.frame HF2.out (fun h=>h) (fun h=>h)).frame p9 hSr.1 hSr.2;have HPN:=ae (ww p5 hT2 hc.B0 hc.B1 hc.B2 T (by omega));have k2:=hb52.cell 2 rfl;have k4:=hb52.cell 4 rfl;have hex:=cv.ext hl hcG p6 p7;have HP:=ae (af p1 (af p2 (af p3 (af p5 (af p6 (af p7 (af p8 (af p9 (af hz2 (af hz3 (af hb32 (af hb52 (af hT2 (af hr2 hex))))))))))))));have hB12:B≤1024∧1≤B:=by have:=hc.B1;have:=hc.B2;omega
 clear p1 p2 p3 p5 p6 p7 p8 p9 hi hr hT hSt hSr hgt hc hl hfit hmp hfr hlaw hsl hcG hG hdom hf1 hO hlo hdiv hl1 hp1 hp2 hW5 hWp hW1 htl hrb hrg hz1 hr1 hT1 hi1 hz2 hz3 hcs hb32 hb52 hT2 hr2 hex HR1 j0 k0 k1 k3 k5 k6;gi_wp2;refine bt ((HPN.out).mono ?_);rintro e w3 ⟨pl,rfl,q1,q2⟩;have hb53:=HP.out.2.2.2.2.2.2.2.2.2.2.2.1.frame q2 (fun h=>h);have hb33:=HP.out.2.2.2.2.2.2.2.2.2.2.1.frame q2 (fun h=>h);obtain ⟨N,hN⟩:∃N,N=cnt (aj E) 0 W:=⟨_,rfl⟩;have HFW:=ae (dt (q1.keep ((Fr.refl _ w3).drew)));have HWO:=ae (fun p (hp:cB w2.heap.size w3.heap.size w3.drew p W B E T)=>js hp);rw [←hN] at HWO;have k2:=hb53.cell 2 rfl;have k3:=hb53.cell 3 rfl;have hNL:N≤Li-T:=by
  obtain ⟨p1,p2,p3,p5,p6,p7,p8,p9,hz2,hz3,hb32,hb52,hT2,hr2,hex⟩:=HP.out;obtain ⟨hi,hr,hT,hSt,hSr,hgt,hc,hl,hfit,hmp,hfr,hlaw,hsl,hcG,hG,hdom,hf1,hO,hlo,hdiv,hl1⟩:=HA.out;have h4:cnt (aj E) 0 W≤Tp-F:=by
   rw [aw (aj E) (Nat.zero_le F) (Nat.le_trans hc.F2 hc.F3),aw (aj E) hc.F2 hc.F3,aD (a:=0) (b:=F) (fun i _ hi=>by
    rw [Bool.eq_false_iff];intro hl;obtain ⟨s,s1,s2⟩:=aQ.1 hl;have h6:=p7 s (by omega);have:=hlo s (by omega);omega),aD (a:=Tp) (b:=W) (fun i hi _=>by
    rw [Bool.eq_false_iff];intro hl;obtain ⟨s,s1,s2⟩:=aQ.1 hl;have h6:=p7 s (by omega);have:=hG.top s (by omega);omega),Nat.zero_add,Nat.add_zero]
   exact be _ _ _
  omega
 have hwr:IntKind.i64.wrap ((Li:Int)-(T:Int))=(Li:Int)-(T:Int):=by rw [IntKind.wrap_i64];omega
 have d1:decide ((Li:Int)-(T:Int)<(N:Int))=false:=by rw [decide_eq_false_iff_not];omega
 have HQ:=ae (af q1 (af q2 (af hb33 (af hb53 hN))));clear q1 q2 hb53 hb33 hN HPN k4;gi_wp2;refine wpIn_wide.2 ?_;refine bv 9 (fun a b=>b=a) [fun v _=>v= .pointer (some ⟨pl,0,none⟩),fun v w'=>∃p,v= .pointer (some ⟨p,0,none⟩)∧cB w2.heap.size w3.heap.size w' p W B E T,fun v _=>v= .int .i64 N,fun v _=>v= .pointer (some ⟨w.heap.size+1,3,none⟩),fun v _=>v= .int .i64 Li,fun v _=>v= .pointer (some ⟨w.heap.size+1,2,none⟩),fun v _=>v= .int .i64 T,fun v _=>v= .int .i64 ((Li:Int)-(T:Int)),fun v _=>v= .bool false] (fun j=>false) (by kernel_rfl) (by kernel_rfl) (by kernel_rfl) (by kernel_rfl) rfl (fun _=>rfl) (fun _ _ _ h1 h2=>h2.trans h1) (fun _ _ h=>by rw [h];exact Nat.le_refl _) ⟨fun _ _ _ h _=>h,fun v w1 w2 h hr=>by subst hr;exact h,fun _ _ _ h _=>h,fun _ _ _ h _=>h,fun _ _ _ h _=>h,fun _ _ _ h _=>h,fun _ _ _ h _=>h,fun _ _ _ h _=>h,fun _ _ _ h _=>h,trivial⟩ ?_;intro F hF;simp only [aS,List.take_succ_cons,List.take_zero,aa,ab,ac] at hF;subst hF;refine ⟨⟨fun vs w1 hw hd hx=> ?_,fun vs w1 hw hd hx=> ?_,fun vs w1 hw hd hx=> ?_,fun vs w1 hw hd hx=> ?_,fun vs w1 hw hd hx=> ?_,fun vs w1 hw hd hx=> ?_,fun vs w1 hw hd hx=> ?_,fun vs w1 hw hd hx=> ?_,fun vs w1 hw hd hx=> ?_,trivial⟩,?_⟩
 ·refine ai (.pointer (some ⟨pl,0,none⟩)) ?_ ⟨rfl,rfl,fun h=>nomatch h⟩;go_simp
 ·have h0:vs 0= .pointer (some ⟨pl,0,none⟩):=hd 0 (by kernel_rfl);subst hw;refine ay 191 #[pl] (by go_simp) ((HFW.out).mono ?_);rintro e w4 ⟨⟨p,rfl,hq⟩,rfl⟩;exact ⟨_,rfl,⟨p,rfl,hq⟩,rfl,fun h=>nomatch h⟩
 ·have h1:=hd 1 (by kernel_rfl);obtain ⟨p,h2,hq⟩:=h1;subst hw;refine ay 192 #[p] (by go_simp) ((HWO.out p hq).mono ?_);rintro e w4 ⟨rfl,rfl⟩;exact ⟨_,rfl,rfl,rfl,fun h=>nomatch h⟩
 ·refine ai (.pointer (some ⟨w.heap.size+1,3,none⟩)) ?_ ⟨rfl,rfl,fun h=>nomatch h⟩;go_simp
 ·have h3:vs 3= .pointer (some ⟨w.heap.size+1,3,none⟩):=hd 3 (by kernel_rfl);refine ai (.int .i64 Li) ?_ ⟨rfl,rfl,fun h=>nomatch h⟩;subst hw;go_simp
 ·refine ai (.pointer (some ⟨w.heap.size+1,2,none⟩)) ?_ ⟨rfl,rfl,fun h=>nomatch h⟩;go_simp
 ·have h5:vs 5= .pointer (some ⟨w.heap.size+1,2,none⟩):=hd 5 (by kernel_rfl);refine ai (.int .i64 T) ?_ ⟨rfl,rfl,fun h=>nomatch h⟩;subst hw;go_simp
 ·have h4:vs 4= .int .i64 Li:=hd 4 (by kernel_rfl);have h6:vs 6= .int .i64 T:=hd 6 (by kernel_rfl);refine ai (.int .i64 ((Li:Int)-(T:Int))) ?_ ⟨rfl,rfl,fun h=>nomatch h⟩;go_simp
 ·have h2:vs 2= .int .i64 N:=hd 2 (by kernel_rfl);have h7:vs 7= .int .i64 ((Li:Int)-(T:Int)):=hd 7 (by kernel_rfl);refine ai (.bool false) ?_ ⟨rfl,rfl,fun h=>nomatch h⟩;go_simp
 intro vs w1 hw hp hx;obtain ⟨g0,g1,g2,g3,g4,g5,g6,g7,g8,_⟩:=hp;simp only [g0,g2,g3,g4,g5,g6,g7,g8];clear g0 g2 g3 g4 g5 g6 g7 g8 hx HFW HWO;obtain ⟨p1,g1,_⟩:=g1;subst hw;simp only [List.drop_succ_cons,List.drop_zero];go_wp2;obtain ⟨W4,hW4⟩:∃W4,w3.drew=W4:=⟨_,rfl⟩;have hf4:Fr (fun _=>False) w3 W4:=by rw [←hW4];exact (Fr.refl _ w3).drew
 have hz4:W4.heap.size=w3.heap.size:=by rw [←hW4];rfl
 rw [hW4];clear hW4 k2 k3;obtain ⟨nb,hnb⟩:∃nb,nb=gS N B:=⟨_,rfl⟩;have hnb5:nb≤1048576:=by
  rw [hnb];unfold gS;exact Nat.le_trans (Nat.div_le_self _ _) (by omega)
 have HC4:=ae (fun w' (hf:Fr (fun _=>False) W4.drew w')=>af (HQ.out.2.2.1.frame (hf4.trans (((Fr.refl (fun _=>False) W4).drew).trans hf (fun _ h=>h.elim)) (fun _ h=>h.elim)) (fun h=>h)) (HQ.out.2.2.2.1.frame (hf4.trans (((Fr.refl (fun _=>False) W4).drew).trans hf (fun _ h=>h.elim)) (fun _ h=>h.elim)) (fun h=>h)));have HNB:=ae (fun w' (hf:Fr (fun _=>False) W4.drew w')=>iP (HQ.out.1.keep (hf4.trans (((Fr.refl (fun _=>False) W4).drew).trans hf (fun _ h=>h.elim)) (fun _ h=>h.elim))));rw [←HQ.out.2.2.2.2,←hnb] at HNB;have HMS:=ae (fun w'=>ph nb (by omega) (nb:Int) rfl w');have hmm:∀(t:TypeId) (w:World),(Instr.makeMap t none).run Tryz.prog w= .ok (.map (some w.heap.size)) (w.alloc (.map #[] 0)):=fun _ _=>rfl
 have HF4:=ae (af hf4 (af hz4 hnb));clear hf4 hz4 hnb hwr d1;gi_wp2;refine wpIn_wide.2 ?_;refine bv 14 (fun a b=>Fr (fun _=>False) a b) [fun v _=>v= .pointer (some ⟨m,0,none⟩),fun v _=>v= .agg #[.int .i64 F,.int .i64 Tp,.int .i64 T,.int .i64 Li,.int .i64 B,.int .i64 Rm,.int .i64 ah],fun v _=>v= .pointer (some ⟨pl,0,none⟩),fun v _=>v= .pointer (some ⟨EL.m,0,none⟩),fun v _=>v= .pointer (some ⟨pl,0,none⟩),fun v _=>v= .int .i64 nb,fun v w'=>∃mv,v= .slice (some ⟨mv,0,none⟩) nb nb∧ak w' mv (ol (List.replicate nb false)) 4∧W4.heap.size≤mv,fun v _=>v= .pointer (some ⟨pl,0,none⟩),fun v _=>v= .int .i64 nb,fun v w'=>∃wb,v= .map (some wb)∧bK w' wb 0 (fun _=>none)∧W4.heap.size≤wb,fun v w'=>∃sb,v= .map (some sb)∧cN w' sb 0 (fun _=>none)∧W4.heap.size≤sb,fun v w'=>∃mv wb sb,v= .agg #[.pointer (some ⟨m,0,none⟩),.int .i64 F,.int .i64 Tp,.int .i64 T,.int .i64 Li,.int .i64 B,.int .i64 Rm,.int .i64 ah,.pointer (some ⟨pl,0,none⟩),.pointer (some ⟨EL.m,0,none⟩),.slice (some ⟨mv,0,none⟩) nb nb,.int .i64 nb,.int .i64 0,.int .i64 0,.map (some wb),.map (some sb)]∧ak w' mv (ol (List.replicate nb false)) 4∧bK w' wb 0 (fun _=>none)∧cN w' sb 0 (fun _=>none)∧mv≠wb∧mv≠sb∧wb≠sb∧W4.heap.size≤mv∧W4.heap.size≤wb∧W4.heap.size≤sb,fun v w'=>∃y mv wb sb,v= .pointer (some ⟨y,0,none⟩)∧ak w' y [.pointer (some ⟨m,0,none⟩),.int .i64 F,.int .i64 Tp,.int .i64 T,.int .i64 Li,.int .i64 B,.int .i64 Rm,.int .i64 ah,.pointer (some ⟨pl,0,none⟩),.pointer (some ⟨EL.m,0,none⟩),.slice (some ⟨mv,0,none⟩) nb nb,.int .i64 nb,.int .i64 0,.int .i64 0,.map (some wb),.map (some sb)] 210∧(ak w' mv (ol (List.replicate nb false)) 4∧bK w' wb 0 (fun _=>none)∧cN w' sb 0 (fun _=>none)∧mv≠wb∧mv≠sb∧wb≠sb∧W4.heap.size≤mv∧W4.heap.size≤wb∧W4.heap.size≤sb)∧W4.heap.size≤y∧y≠mv∧y≠wb∧y≠sb,fun v w'=>∃c13,v= .pointer (some ⟨c13,0,none⟩)∧ak w' c13 [.pointer none] 115∧W4.heap.size≤c13] (fun j=>([6,9,10,12,13]).contains j) (by kernel_rfl) (by kernel_rfl) (by kernel_rfl) (by kernel_rfl) rfl (fun _=>Fr.refl _ _) (fun _ _ _ h1 h2=>h1.trans h2 (fun _ h=>h.elim)) (fun _ _ h=>h.size) ⟨fun _ _ _ h _=>h,fun _ _ _ h _=>h,fun _ _ _ h _=>h,fun _ _ _ h _=>h,fun _ _ _ h _=>h,fun _ _ _ h _=>h,fun v w1 w2 h hr=>let ⟨mv,e,hb,hn⟩:=h;⟨mv,e,hb.frame hr (fun h=>h),hn⟩,fun _ _ _ h _=>h,fun _ _ _ h _=>h,fun v w1 w2 h hr=>let ⟨mv,e,hb,hn⟩:=h;⟨mv,e,hb.frame hr (fun h=>h),hn⟩,fun v w1 w2 h hr=>let ⟨mv,e,hb,hn⟩:=h;⟨mv,e,hb.frame hr (fun h=>h),hn⟩,fun v w1 w2 h hr=>let ⟨mv,wb,sb,e,f1,f2,f3,f4⟩:=h;⟨mv,wb,sb,e,f1.frame hr (fun h=>h),f2.frame hr (fun h=>h),f3.frame hr (fun h=>h),f4⟩,fun v w1 w2 h hr=>let ⟨y,mv,wb,sb,e,f0,⟨f1,f2,f3,f4⟩,f5⟩:=h;⟨y,mv,wb,sb,e,f0.frame hr (fun h=>h),⟨f1.frame hr (fun h=>h),f2.frame hr (fun h=>h),f3.frame hr (fun h=>h),f4⟩,f5⟩,fun v w1 w2 h hr=>let ⟨mv,e,hb,hn⟩:=h;⟨mv,e,hb.frame hr (fun h=>h),hn⟩,trivial⟩ ?_;intro F hF;simp only [aS,List.take_succ_cons,List.take_zero,aa,ab,ac] at hF;subst hF;refine ⟨⟨fun vs w1 hw hd hx=> ?_,fun vs w1 hw hd hx=> ?_,fun vs w1 hw hd hx=> ?_,fun vs w1 hw hd hx=> ?_,fun vs w1 hw hd hx=> ?_,fun vs w1 hw hd hx=> ?_,fun vs w1 hw hd hx=> ?_,fun vs w1 hw hd hx=> ?_,fun vs w1 hw hd hx=> ?_,fun vs w1 hw hd hx=> ?_,fun vs w1 hw hd hx=> ?_,fun vs w1 hw hd hx=> ?_,fun vs w1 hw hd hx=> ?_,fun vs w1 hw hd hx=> ?_,trivial⟩,?_⟩
 ·refine ai (.pointer (some ⟨m,0,none⟩)) ?_ ⟨rfl,Fr.refl _ _,fun h=>nomatch h⟩;obtain ⟨k1,k2⟩:=HC4.out w1 hw;have k3:=k1.cell 0 rfl;go_simp
 ·obtain ⟨k1,k2⟩:=HC4.out w1 hw;refine ai (.agg #[.int .i64 F,.int .i64 Tp,.int .i64 T,.int .i64 Li,.int .i64 B,.int .i64 Rm,.int .i64 ah]) ?_ ⟨rfl,Fr.refl _ _,fun h=>nomatch h⟩;exact du rfl (w.heap.size+1) rfl 143 _ (0,0) _ k2 Tryz.underlying143 rfl HS7.out
 ·refine ai (.pointer (some ⟨pl,0,none⟩)) ?_ ⟨rfl,Fr.refl _ _,fun h=>nomatch h⟩;go_simp
 ·refine ai (.pointer (some ⟨EL.m,0,none⟩)) ?_ ⟨rfl,Fr.refl _ _,fun h=>nomatch h⟩;go_simp
 ·refine ai (.pointer (some ⟨pl,0,none⟩)) ?_ ⟨rfl,Fr.refl _ _,fun h=>nomatch h⟩;go_simp
 ·have h4:vs 4= .pointer (some ⟨pl,0,none⟩):=hd 4 (by kernel_rfl);refine ay 193 #[pl] (by go_simp) ((HNB.out w1 hw).mono ?_);rintro e w4 ⟨rfl,hf4⟩;exact ⟨_,rfl,rfl,hf4,fun h=>nomatch h⟩
 ·have h5:vs 5= .int .i64 nb:=hd 5 (by kernel_rfl);refine ai (.slice (some ⟨w1.heap.size,0,none⟩) nb nb) (w':=w1.alloc (.cells (ol (List.replicate nb false)).toArray 4)) ?_ ⟨⟨_,rfl,ak.new w1 _ _,hw.size⟩,(Fr.refl _ w1).alloc _,fun _=>⟨_,rfl,Nat.le_refl _,by rw [World.size_alloc];exact Nat.lt_succ_self _⟩⟩;have hms:=HMS.out w1;go_simp
 ·refine ai (.pointer (some ⟨pl,0,none⟩)) ?_ ⟨rfl,Fr.refl _ _,fun h=>nomatch h⟩;go_simp
 ·have h7:vs 7= .pointer (some ⟨pl,0,none⟩):=hd 7 (by kernel_rfl);refine ay 193 #[pl] (by go_simp) ((HNB.out w1 hw).mono ?_);rintro e w4 ⟨rfl,hf4⟩;exact ⟨_,rfl,rfl,hf4,fun h=>nomatch h⟩
 ·refine ai (.map (some w1.heap.size)) (w':=w1.alloc (.map #[] 0)) ?_ ⟨⟨_,rfl,im w1,hw.size⟩,(Fr.refl _ w1).alloc _,fun _=>⟨_,rfl,Nat.le_refl _,by rw [World.size_alloc];exact Nat.lt_succ_self _⟩⟩;go_simp
 ·refine ai (.map (some w1.heap.size)) (w':=w1.alloc (.map #[] 0)) ?_ ⟨⟨_,rfl,rB w1,hw.size⟩,(Fr.refl _ w1).alloc _,fun _=>⟨_,rfl,Nat.le_refl _,by rw [World.size_alloc];exact Nat.lt_succ_self _⟩⟩;go_simp
 ·have h0:vs 0= .pointer (some ⟨m,0,none⟩):=hd 0 (by kernel_rfl);have h1:vs 1= .agg #[.int .i64 F,.int .i64 Tp,.int .i64 T,.int .i64 Li,.int .i64 B,.int .i64 Rm,.int .i64 ah]:=hd 1 (by kernel_rfl);have h2:vs 2= .pointer (some ⟨pl,0,none⟩):=hd 2 (by kernel_rfl);have h3:vs 3= .pointer (some ⟨EL.m,0,none⟩):=hd 3 (by kernel_rfl);have h6:=hd 6 (by kernel_rfl);have h8:vs 8= .int .i64 nb:=hd 8 (by kernel_rfl);have h9:=hd 9 (by kernel_rfl);have h10:=hd 10 (by kernel_rfl);obtain ⟨mv,e6,b6,n6⟩:=h6;obtain ⟨wb,e9,b9,n9⟩:=h9;obtain ⟨sb,e10,b10,n10⟩:=h10;have x1:=hx 6 9 rfl rfl (by kernel_rfl) (by kernel_rfl) (by omega);have x2:=hx 6 10 rfl rfl (by kernel_rfl) (by kernel_rfl) (by omega);have x3:=hx 9 10 rfl rfl (by kernel_rfl) (by kernel_rfl) (by omega);rw [e6,e9] at x1;rw [e6,e10] at x2;rw [e9,e10] at x3;refine ai (.agg #[m,.int .i64 F,.int .i64 Tp,.int .i64 T,.int .i64 Li,.int .i64 B,.int .i64 Rm,.int .i64 ah,.pointer (some ⟨pl,0,none⟩),.pointer (some ⟨EL.m,0,none⟩),.slice (some ⟨mv,0,none⟩) nb nb,.int .i64 nb,.int .i64 0,.int .i64 0,.map (some wb),.map (some sb)]) ?_ ⟨⟨mv,wb,sb,rfl,b6,b9,b10,fun e=>x1 (congrArg some e),fun e=>x2 (congrArg some e),fun e=>x3 (congrArg some e),n6,n9,n10⟩,Fr.refl _ _,fun h=>nomatch h⟩;go_simp
 ·have h11:=hd 11 (by kernel_rfl);obtain ⟨mv,wb,sb,e11,f1,f2,f3,f4,f5,f6,f7,f8,f9⟩:=h11;have l1:=f1.lt;have l2:=f2.lt;have l3:=f3.lt;have hfa:Fr (fun _=>False) w1 (w1.alloc (.cells #[.pointer (some ⟨m,0,none⟩),.int .i64 F,.int .i64 Tp,.int .i64 T,.int .i64 Li,.int .i64 B,.int .i64 Rm,.int .i64 ah,.pointer (some ⟨pl,0,none⟩),.pointer (some ⟨EL.m,0,none⟩),.slice (some ⟨mv,0,none⟩) nb nb,.int .i64 nb,.int .i64 0,.int .i64 0,.map (some wb),.map (some sb)] 210)):=(Fr.refl _ w1).alloc _;refine ai (.pointer (some ⟨w1.heap.size,0,none⟩)) (w':=w1.alloc (.cells #[.pointer (some ⟨m,0,none⟩),.int .i64 F,.int .i64 Tp,.int .i64 T,.int .i64 Li,.int .i64 B,.int .i64 Rm,.int .i64 ah,.pointer (some ⟨pl,0,none⟩),.pointer (some ⟨EL.m,0,none⟩),.slice (some ⟨mv,0,none⟩) nb nb,.int .i64 nb,.int .i64 0,.int .i64 0,.map (some wb),.map (some sb)] 210)) ?_ ⟨⟨_,mv,wb,sb,rfl,ak.new w1 _ _,⟨f1.frame hfa (fun h=>h),f2.frame hfa (fun h=>h),f3.frame hfa (fun h=>h),f4,f5,f6,f7,f8,f9⟩,hw.size,by omega,by omega,by omega⟩,hfa,fun _=>⟨_,rfl,Nat.le_refl _,by rw [World.size_alloc];exact Nat.lt_succ_self _⟩⟩;go_simp
 ·refine ai (.pointer (some ⟨w1.heap.size,0,none⟩)) (w':=w1.alloc (.cells #[.pointer none] 115)) ?_ ⟨⟨_,rfl,ak.new w1 _ _,hw.size⟩,(Fr.refl _ w1).alloc _,fun _=>⟨_,rfl,Nat.le_refl _,by rw [World.size_alloc];exact Nat.lt_succ_self _⟩⟩;go_simp
 intro vs w1 hw hp hx;obtain ⟨g0,g1,g2,g3,g4,g5,g6,g7,g8,g9,g10,g11,g12,g13,_⟩:=hp;obtain ⟨y,mv,wb,sb,e12,z1,⟨z2,z3,z4,z5,z6,z7,z8,z9,z10⟩,z11,z12,z13,z14⟩:=g12;obtain ⟨c13,e13,z15,z16⟩:=g13;have x1:=hx 12 13 rfl rfl (by omega) (by omega) (by omega);rw [e12,e13] at x1;simp only [e12,e13];clear g0 g1 g2 g3 g4 g5 g6 g7 g8 g9 g10 g11 hx e12 e13;simp only [List.drop_succ_cons,List.drop_zero];have c13c:=z15.cell 0 rfl;have c13f:=z15.free 0;have H12:=ae (af z1 (af z2 (af z3 (af z4 (af z5 (af z6 (af z7 (af z8 (af z9 (af z10 (af z11 (af z12 (af z13 (af z14 (af z15 (af z16 (af x1 (af hw (HC4.out w1 hw)))))))))))))))))));have HA0:=ae (dB EL.m);clear z1 z2 z3 z4 z5 z6 z7 z8 z9 z10 z11 z12 z13 z14 z15 z16 x1 hw HC4 HNB HMS HS7;go_wp2;obtain ⟨W5,hW5d⟩:∃W5,w1.setCell ⟨c13,0,none⟩ (.pointer (some ⟨y,0,none⟩))=W5:=⟨_,rfl⟩;rw [hW5d];clear c13c c13f;obtain ⟨p1,p2,p3,p5,p6,p7,p8,p9,hz2,hz3,hb32,hb52,hT2,hr2,hex⟩:=HP.out;obtain ⟨q1,q2,hb33,hb53,hN⟩:=HQ.out;obtain ⟨hf4,hz4,hnb⟩:=HF4.out;obtain ⟨z1,z2,z3,z4,z5,z6,z7,z8,z9,z10,z11,z12,z13,z14,z15,z16,x1,hw1,k31,k51⟩:=H12.out;obtain ⟨hi,hr,hT,hSt,hSr,hgt,hc,hl,hfit,hmp,hfr,hlaw,hsl,hcG,hG,hdom,hf1,hO,hlo,hdiv,hl1⟩:=HA.out;obtain ⟨hp1,hp2,hW5,hWp,hW1,htl,hrb,hrg,hz1,hr1,hT1,hi1⟩:=HB.out;have HB5:=ae (HA0.out W5);clear HA0;gi_wp2;refine bt ((HB5.out).mono ?_);rintro e W7 ⟨rfl,hW7⟩;clear HB5;have hf57:Fr (fun _=>False) W5 W7:=by rw [hW7];exact (Fr.refl _ W5).alloc _
 have htb:ak W7 W5.heap.size [.pointer (some ⟨EL.m,0,none⟩)] 132:=by rw [hW7];exact ak.new W5 _ _
 have hz7:W7.heap.size=W5.heap.size+1:=by rw [hW7];exact Array.size_push _
 clear hW7;have hf15:Fr (fun k=>k=c13) w1 W5:=by rw [←hW5d];exact (Fr.refl (fun k=>k=c13) w1).setCell ⟨c13,0,none⟩ (.inl rfl) _
 have hz5:=hf15.size;have hc13l:=z15.lt;have hw1z:=hw1.size;have hz4':W4.heap.size≤w1.heap.size:=hw1z;have hf17:Fr (fun k=>k=c13) w1 W7:=hf15.trans hf57 (fun _ h=>h.elim);have hf37:Fr (fun _=>False) w3 W7:=((hf4.trans ((Fr.refl (fun _=>False) W4).drew) (fun _ h=>h.elim)).trans hw1 (fun _ h=>h.elim)).trans hf17 (fun k hk=> .inr (by omega));have hf27:Fr (fun _=>False) w2 W7:=q2.trans hf37 (fun _ h=>h.elim);have hz23:=q2.size;have hyc:y≠c13:=fun e=>x1 (by rw [e])
 have hwbc:wb≠c13:=fun e=>by
  obtain ⟨D,⟨es,clock,hb,_⟩,_⟩:=z3;rw [e] at hb;have hb2:w1.heap[c13]? =some (.cells #[.pointer none] 115 (0,0)):=z15;rw [hb] at hb2
  cases hb2
 have hsbc:sb≠c13:=fun e=>by
  obtain ⟨D,⟨es,clock,hb,_⟩,_⟩:=z4;rw [e] at hb;have hb2:w1.heap[c13]? =some (.cells #[.pointer none] 115 (0,0)):=z15;rw [hb] at hb2
  cases hb2
 have hmvc:mv≠c13:=fun e=>by
  have hb:w1.heap[mv]? =some (.cells (ol (List.replicate nb false)).toArray 4 (0,0)):=z2;have hb2:w1.heap[c13]? =some (.cells #[.pointer none] 115 (0,0)):=z15;rw [e,hb2] at hb;simp at hb
 obtain ⟨c,hcd⟩:∃c:Cy,c=⟨y,m,F,Tp,T,Li,B,Rm,ah,pl,EL,mv,nb,wb,sb,w2.heap.size,w3.heap.size⟩:=⟨_,rfl⟩;obtain ⟨x,hxd⟩:∃x:xZ,x=⟨w.heap.size,w.heap.size+1,c13,W5.heap.size,b,g⟩:=⟨_,rfl⟩;obtain ⟨hp,hf,hg,hhd⟩:=hl.heads;have hS2l:=(aF m Pg W Fs Us Hg mp).lt _ _ _ p1;have hS2k:∀k,S2 k→S k∨w1.heap.size≤k∨(W1.heap.size≤k∧k<w2.heap.size):=fun k hk=>(p2 k hk).imp id (fun h=> .inr ⟨by omega,hS2l k hk⟩)
 have hEl:=p5.lt;have hsm2:=p5.small.2;have hOF:wP c x W E (rs.map φ) W7:=by
  rw [hcd,hxd];refine ⟨⟨p5.frame hf27 (fun _ _ h=>h),an hT2 hf27 (fun h=>h),htb⟩,hb33.frame hf37 (fun h=>h),hb53.frame hf37 (fun h=>h),?_,?_,z2.frame hf17 hmvc,q1.keep hf37,hr2.frame hf27 (fun h=>h) (fun h=>h)⟩
  ·have:=z15.set 0 (.pointer (some ⟨y,0,none⟩));rw [hW5d] at this;exact ak.frame this hf57 (fun h=>h)
  ·exact ak.frame z1 hf17 hyc
 have hOB:∀k,pS c x k→k<W7.heap.size∧¬S2 k∧k≠wb∧k≠sb:=by
  rw [hcd,hxd];have hnS:∀k,k<w.heap.size+2→¬S k→¬S2 k:=fun k h1 h2 h3=>by
   rcases p2 k h3 with h4|h4
   ·exact h2 h4
   ·omega
  have hcs:¬S w.heap.size∧¬S (w.heap.size+1):=⟨fun h=>by have:=hsl _ h;omega,fun h=>by have:=hsl _ h;omega⟩;have hml:=z2.lt;have hyl:=z1.lt;rintro k (h|h|h|h|h|h|h|h|h|h|h)
  ·have:=hEl k h;exact ⟨by omega,fun h2=>p3 k h2 h,by omega,by omega⟩
  all_goals (try dsimp only at h)
  ·have h3:=z3.lt;have h4:=z4.lt;exact ⟨by omega,fun h2=>by have:=hS2l k h2;omega,by omega,by omega⟩
  ·exact ⟨by omega,by rw [h];exact hnS _ (by omega) hcs.1,by omega,by omega⟩
  ·exact ⟨by omega,by rw [h];exact hnS _ (by omega) hcs.2,by omega,by omega⟩
  ·exact ⟨by omega,fun h2=>by have:=hS2l k h2;omega,by omega,by omega⟩
  ·exact ⟨by omega,fun h2=>by have:=hS2l k h2;omega,by omega,by omega⟩
  ·exact ⟨by omega,fun h2=>by have:=hS2l k h2;omega,by omega,by omega⟩
  ·exact ⟨by omega,fun h2=>by have:=hS2l k h2;omega,by omega,by omega⟩
  ·exact ⟨by omega,by rw [h];exact hnS _ (by omega) hSr.1,by omega,by omega⟩
  ·exact ⟨by omega,by rw [h];exact hnS _ (by omega) hSr.2,by omega,by omega⟩
  ·exact ⟨by omega,by rw [h];exact hnS _ (by omega) hSt,by omega,by omega⟩
 have hOM:kj m Pg W Fs Us Hg mp L E hp hf hg c (ul E W 0) [] (fun k=>S2 k∨k=wb∨k=sb) W7:=by
  have h1:kj m Pg W Fs Us Hg mp L E hp hf hg c 0 [] (fun k=>S2 k∨k=wb∨k=sb) W7:=by
   rw [hcd];exact ⟨S2,fun _=>none,0,0,fun _=>none,fun k=>Iff.rfl,fun h=>by have h2:wb<w2.heap.size:=hS2l _ h;omega,fun h=>by have h2:sb<w2.heap.size:=hS2l _ h;omega,z7,(aF m Pg W Fs Us Hg mp).keep p1 hf27,z3.frame hf17 hwbc,fun q=>uA.symm,Nat.zero_le _,z4.frame hf17 hsbc,Nat.zero_le _,fun x hx=>absurd hx List.not_mem_nil⟩
  exact h1.skip (Nat.zero_le _) (qz p5.apart p5.top (fun j x h=>absurd h (Nat.not_lt_zero j)))
 have hJ0:xo m Pg W Fs Us Hg mp L E hp hf hg c x (rs.map φ) [] (fun k=>S2 k∨k=wb∨k=sb) W7:=⟨fun k hk hb=>by
  obtain ⟨_,h2,h3,h4⟩:=hOB k hb;rcases hk with h|h|h
  ·exact h2 h
  ·exact h3 h
  ·exact h4 h,hOF,hOM⟩
 have hstay:cq W7.heap.size (xo m Pg W Fs Us Hg mp L E hp hf hg c x (rs.map φ)):=xo.stays (fun k hk=>(hOB k hk).1);have hS0:∀k,(S2 k∨k=wb∨k=sb)→k<W7.heap.size:=fun k hk=>by
  have h3:=z3.lt;have h4:=z4.lt;rcases hk with h|h|h
  ·have:=hS2l k h;omega
  ·omega
  ·omega
 have hEG:∀a,E a≠0→∃z,Reach A.gr rs z∧φ z=a∧E a=A.sz z:=fun a ha=>by
  obtain ⟨z,h1,h2⟩:=hex.some a ha;exact ⟨z,h1,h2,by rw [←h2];exact hex.size z h1⟩
 have HOB:=ae (fun (s n:Nat) (pre:List (Nat×Nat)) (hx:(aO E W)[pre.length]? =some (s,n))=>(show d9 L s (hp s) (hf s) (hg s)∧1≤s∧aX W Pg mp s∧s+n≤524288∧n=E s∧(∀i,i<n→aj E (s+i)=true)∧ul E W pre.length=s∧(∀i,s+n≤i→i<ul E W (pre.length+1)→aj E i=false)∧s+n≤ul E W (pre.length+1) from by
  obtain ⟨m1,m2,m3⟩:=bh.1 (List.mem_of_getElem? hx);dsimp only at m1 m2 m3;obtain ⟨z,h1,h2,h3⟩:=hEG s m2;have h4:=hl.lies z h1;have h5:=hhd z h1;have hsz:1≤A.sz z:=by unfold AG.sz;omega
  rw [h2] at h4 h5;have hap:=p5.apart;refine ⟨by rw [h5.1,h5.2.1,h5.2.2,←h2];exact hl.head z h1,by have:=hl.one;omega,hdom s h4.1 (by omega),by omega,m3,fun i hi=>gE (by omega),um hx,qz hap p5.top (fun j x hj hx2=>un hap hx j x hj hx2),?_⟩;unfold ul
  cases hn:(aO E W)[pre.length+1]? with
  |none=>
   have:=p5.top s m2;dsimp only;omega
  |some y=>
   have h6:=lJ hn hx (Nat.lt_succ_self _);obtain ⟨_,y2,_⟩:=bh.1 (List.mem_of_getElem? hn);have:=hap s y.1 h6 m2 y2;dsimp only;omega))
 have HPRE:=ae (fun (s n:Nat) (pre:List (Nat×Nat)) (hpre:pre=(aO E W).take pre.length) (hx:(aO E W)[pre.length]? =some (s,n))=>(show∀x∈pre,x.1<s from fun x hm=>by rw [hpre] at hm;exact eD hx hm));have HCC:Hid (c.EL=EL∧x.tb=W5.heap.size∧c.m=m∧c.wb=wb∧c.sb=sb∧c.y=y∧x.c3=w.heap.size∧x.c13=c13∧x.c5=w.heap.size+1):=ae (by rw [hcd,hxd];exact ⟨rfl,rfl,rfl,rfl,rfl,rfl,rfl,rfl,rfl⟩);have HPG:=ae (fun S1 w1 (hm:bi m Pg W Fs Us Hg mp L S1 w1)=>dv hm.choose_spec.1);have HRD:=ae (fun S1 w1 s (hm:bi m Pg W Fs Us Hg mp L S1 w1) (h1:d9 L s (hp s) (hf s) (hg s)) (h2:1≤s) (h3:aX W Pg mp s)=>fC hm s (hp s) (hf s) (hg s) h2 h3 h1);have HOBK:=ae hOB;have HFR7:=ae (af hf27 (af hf37 (af hf17 (af hcd (af hxd (af hhd (af hEG (af hS2l hz7))))))));clear hEG hp1 hf27 hf37 hf17 hcd hxd hhd hS2l hS2k hEl p1 p2 p3 p5 p6 p7 p8 p9 hz2 hz3 hb32 hb52 hT2 hr2 hex q1 q2 hb33 hb53 hN hf4 hz4 hnb z1 z2 z3 z4 z5 z6 z7 z8 z9 z10 z11 z12 z13 z14 z15 z16 x1 hw1 k31 k51 hi hr hT hSt hSr hgt hc hl hfit hmp hfr hlaw hsl hcG hG hdom hf1 hO hlo hdiv hl1 hp2 hW5 hWp hW1 htl hrb hrg hz1 hr1 hT1 hi1 hf57 htb hz7 hf15 hz5 hc13l hw1z hz4' hz23 hyc hwbc hsbc hmvc hOF hOB hOM hW5d;gi_wp2;refine df (gf:=220) (lb:= #[W5.heap.size]) rfl (enters_of Tryz.func220 (by kernel_rfl) rfl) (encs:=fM) (fun _=>rfl) (dz (L:=EL) (tb:=W5.heap.size) (E:=E) hsm2) (fun pre S w=>pre=(aO E W).take pre.length∧xo m Pg W Fs Us Hg mp L E hp hf hg c x (rs.map φ) pre S w) (fun k=>S2 k∨k=wb∨k=sb) ?stay ?reads hS0 ⟨rfl,hJ0⟩
  ?a1 ?assign ?body ?done
 case stay=>exact fun pre S W1 W2 T h hf hT=>⟨h.1,hstay pre S W1 W2 T h.2 hf hT⟩
 case reads=>
  intro pre S W h;have:=h.2.2.1.all;rw [HCC.out.1,HCC.out.2.1] at this;exact this
 case assign=>
  intro k x W K hK;unfold fM;gi_wp2;exact hK
 case body=>
  intro l pre S9 xx W9 hI hlen hfw hs;obtain ⟨s,n⟩:=xx;obtain ⟨o1,o2,o3,o4,o5,o6,o7,o8,o9⟩:=HOB.out s n pre hlen;clear o5;have hpre:=HPRE.out s n pre hI.1 hlen;have hlen':=hlen;have hz9w:=hfw.size;obtain ⟨itk,i1,i2,i3⟩:=hI;have hS9l:=i3.lt;rw [o7] at i3;obtain ⟨Sm,fw,nn,ns,f,m1,m2,m3,m4,m5,m6,m7,m8,m9,m10,m11⟩:=i3;obtain ⟨e0,e00,e1,e2,e3,e4,e5,e6,e7⟩:=HCC.out;rw [e2] at m2 m6;rw [e3] at m3 m9;have hsbl:=m9.lt;have hwbl:=m6.lt;have hmlt:=(aF m Pg W Fs Us Hg mp).lt _ _ _ m5;have hSx:∀k,(Sm k∨k=sb)→¬pS c x k:=fun k hk=>i1 k ((m1 k).2 (by rw [e2,e3];exact hk.elim .inl (fun h=> .inr (.inr h))))
  have hWf:∀w',Fr (fun k=>Sm k∨k=sb) W9 w'→wP c x W E (rs.map φ) w':=fun w' hf=>i2.frame hf hSx
  have HW:=ae (fun w' (hf:Fr (fun k=>Sm k∨k=sb∨W9.heap.size≤k) W9.drew w')=>(show w'.cell? ⟨c13,0,none⟩=some (.pointer (some ⟨y,0,none⟩))∧w'.cell? ⟨y,15,none⟩=some (.map (some sb))∧w'.cell? ⟨w.heap.size,0,none⟩=some (.pointer (some ⟨m,0,none⟩)) from by
   have h:=hWf w' ((((Fr.refl (fun k=>Sm k∨k=sb∨W9.heap.size≤k) W9).drew).trans hf (fun _ h=> .inl h)).mono (fun k h=>h.elim (fun h=> .inl (.inl h)) (fun h=>h.elim (fun h=> .inl (.inr h)) .inr)));have h1:=h.b13.cell 0 rfl;have h2:w'.cell? ⟨c.y,15,none⟩=some (.map (some c.sb)):=ak.cell h.y 15 rfl;have h3:=h.b3.cell 0 rfl;rw [e6,e4] at h1;rw [e4,e3] at h2;rw [e5,e1] at h3;exact ⟨h1,h2,h3⟩))
  have hnsb:¬(Sm sb∨W9.heap.size≤sb):=fun h=>h.elim m3 (fun h=>by omega)
  have HM5:=ae ((aF m Pg W Fs Us Hg mp).keep m5 ((Fr.refl (fun _=>False) W9).drew));have HPU:=ae (fun w1 (hw:Fr (fun k=>Sm k∨W9.heap.size≤k) W9.drew w1∧∀S1,(∀k,S1 k→Sm k∨W9.heap.size≤k)→bi m Pg W Fs Us Hg mp L S1 W9.drew→∃S2,(∀k,S2 k→Sm k∨W9.heap.size≤k)∧bi m Pg W Fs Us Hg mp L S2 w1)=>(show∃w',(Instr.mapUpdate 208 (.map (some sb)) (.int .i64 s) (bP ((hp s:Nat):Int) ((hf s:Nat):Int) ((hg s:Nat):Int))).run Tryz.prog w1= .ok () w'∧cN w' sb (ns+1) (dg f s (hp s,hf s,hg s))∧(∃S1,(∀k,S1 k→Sm k∨W9.heap.size≤k)∧bi m Pg W Fs Us Hg mp L S1 w')∧Fr (fun k=>Sm k∨k=sb∨W9.heap.size≤k) w1 w' from by
   have h1:=(m9.frame ((Fr.refl (fun _=>False) W9).drew) (fun h=>h)).frame hw.1 hnsb;have hpl:pre.length≤524288:=by
    rw [itk,List.length_take];have:=jI E W;have:=HB.out.2.2.1;omega
   obtain ⟨w',r1,r2,r3⟩:=h1.put s (hp s) (hf s) (hg s) (by omega) (by omega);obtain ⟨S2,a1,a2⟩:=hw.2 Sm (fun _ h=> .inl h) HM5.out;refine ⟨w',r1,r2,⟨S2,a1,(aR m Pg W Fs Us Hg mp) _ _ _ _ _ a2 r3 (fun k hk e=> ?_)⟩,r3.mono (fun k h=> .inl (.inr (.inl h)))⟩;subst e;rcases a1 _ hk with h|h
   ·exact m3 h
   ·omega))
  have HI9:=ae (af i1 (af i2 (af m1 (af m2 (af m3 (af m4 (af m6 (af m7 (af m8 (af m10 (af m11 (af hpre (af hsbl (af hwbl (af hS9l (af hSx hWf))))))))))))))));clear hfw hs hlen hS9l i1 i2 m1 m2 m4 m5 m6 m7 m8 m9 m10 m11 e0 e00 e1 e2 e3 e4 e5 e6 e7 hsbl hwbl hmlt hSx hWf hstay hJ0 hS0 hpre;gi_wp2;refine fR 13 12 (fun a b=>Fr (fun k=>Sm k∨k=sb∨W9.heap.size≤k) a b) (fun a b=>Fr (fun k=>Sm k∨W9.heap.size≤k) a b∧∀S1,(∀k,S1 k→Sm k∨W9.heap.size≤k)→bi m Pg W Fs Us Hg mp L S1 a→∃S2,(∀k,S2 k→Sm k∨W9.heap.size≤k)∧bi m Pg W Fs Us Hg mp L S2 b) [fun v _=>v= .pointer (some ⟨y,0,none⟩),fun v _=>v= .pointer (some ⟨y,0,none⟩),fun v _=>v= .pointer (some ⟨y,15,none⟩),fun v _=>v= .map (some sb),fun v _=>v= .int .i64 s,fun v _=>v= .pointer (some ⟨m,0,none⟩),fun v _=>v= .iface 112 (.pointer (some ⟨m,0,none⟩)),fun v _=>v= .int .i64 s,fun v _=>v= .tuple #[bP ((hp s:Nat):Int) ((hf s:Nat):Int) ((hg s:Nat):Int),.int .i64 0],fun v _=>v= .tuple #[bP ((hp s:Nat):Int) ((hf s:Nat):Int) ((hg s:Nat):Int),.int .i64 0],fun v _=>v=bP ((hp s:Nat):Int) ((hf s:Nat):Int) ((hg s:Nat):Int),fun v _=>v= .int .i64 0,fun _ w'=>cN w' sb (ns+1) (dg f s (hp s,hf s,hg s))∧∃S1,(∀k,S1 k→Sm k∨W9.heap.size≤k)∧bi m Pg W Fs Us Hg mp L S1 w'] (fun j=>false) (by kernel_rfl) (by kernel_rfl) (by kernel_rfl) (by kernel_rfl) rfl (fun _=>⟨Fr.refl _ _,fun S1 h1 h2=>⟨S1,h1,h2⟩⟩) (fun _ _ h=>h.1.mono (fun _ h=> .inl (h.imp id .inr))) (fun _ _ _ h1 h2=>⟨h1.1.trans h2.1 (fun _ h=> .inl h),fun S1 a b=>let ⟨S2,a2,b2⟩:=h1.2 S1 a b;h2.2 S2 a2 b2⟩) (fun _ _ _ h1 h2=>h1.trans h2.1 (fun _ h=> .inl (h.imp id .inr))) (fun _ _ _ h1 h2=>(h1.1.mono (fun _ h=> .inl (h.imp id .inr))).trans h2 (fun _ h=> .inl h)) (fun _ _ h=>h.size) ⟨fun _ _ _ h _=>h,fun _ _ _ h _=>h,fun _ _ _ h _=>h,fun _ _ _ h _=>h,fun _ _ _ h _=>h,fun _ _ _ h _=>h,fun _ _ _ h _=>h,fun _ _ _ h _=>h,fun _ _ _ h _=>h,fun _ _ _ h _=>h,fun _ _ _ h _=>h,fun _ _ _ h _=>h,fun _ w1 w2 h hr=>⟨h.1.frame hr.1 hnsb,let ⟨S1,a,b⟩:=h.2;hr.2 S1 a b⟩,trivial⟩ ⟨.inr (fun _ _ _ h _=>h),.inr (fun _ _ _ h _=>h),.inr (fun _ _ _ h _=>h),.inr (fun _ _ _ h _=>h),.inr (fun _ _ _ h _=>h),.inr (fun _ _ _ h _=>h),.inr (fun _ _ _ h _=>h),.inr (fun _ _ _ h _=>h),.inr (fun _ _ _ h _=>h),.inr (fun _ _ _ h _=>h),.inr (fun _ _ _ h _=>h),.inr (fun _ _ _ h _=>h),.inl rfl,trivial⟩ ?_;intro F hF;simp only [aS,List.take_succ_cons,List.take_zero,aa,ab,ac] at hF;subst hF;refine ⟨⟨fun vs w1 hw hw1 hd hx=> ?_,fun vs w1 hw hw1 hd hx=> ?_,fun vs w1 hw hw1 hd hx=> ?_,fun vs w1 hw hw1 hd hx=> ?_,fun vs w1 hw hw1 hd hx=> ?_,fun vs w1 hw hw1 hd hx=> ?_,fun vs w1 hw hw1 hd hx=> ?_,fun vs w1 hw hw1 hd hx=> ?_,fun vs w1 hw hw1 hd hx=> ?_,fun vs w1 hw hw1 hd hx=> ?_,fun vs w1 hw hw1 hd hx=> ?_,fun vs w1 hw hw1 hd hx=> ?_,fun vs w1 hw hw1 hd hx=> ?_,trivial⟩,?_⟩
  ·refine ai (.pointer (some ⟨y,0,none⟩)) ?_ ⟨rfl,⟨Fr.refl _ _,fun S1 h1 h2=>⟨S1,h1,h2⟩⟩,fun h=>nomatch h⟩;obtain ⟨t1,t2,t3⟩:=HW.out w1 hw;go_simp
  ·have h0:vs 0= .pointer (some ⟨y,0,none⟩):=hd 0 (by kernel_rfl);refine ai (.pointer (some ⟨y,0,none⟩)) ?_ ⟨rfl,⟨Fr.refl _ _,fun S1 h1 h2=>⟨S1,h1,h2⟩⟩,fun h=>nomatch h⟩;go_simp
  ·have h1:vs 1= .pointer (some ⟨y,0,none⟩):=hd 1 (by kernel_rfl);refine ai (.pointer (some ⟨y,15,none⟩)) ?_ ⟨rfl,⟨Fr.refl _ _,fun S1 h1 h2=>⟨S1,h1,h2⟩⟩,fun h=>nomatch h⟩;go_simp
  ·have h2:vs 2= .pointer (some ⟨y,15,none⟩):=hd 2 (by kernel_rfl);refine ai (.map (some sb)) ?_ ⟨rfl,⟨Fr.refl _ _,fun S1 h1 h2=>⟨S1,h1,h2⟩⟩,fun h=>nomatch h⟩;obtain ⟨t1,t2,t3⟩:=HW.out w1 hw;go_simp
  ·refine ai (.int .i64 s) ?_ ⟨rfl,⟨Fr.refl _ _,fun S1 h1 h2=>⟨S1,h1,h2⟩⟩,fun h=>nomatch h⟩;go_simp
  ·refine ai (.pointer (some ⟨m,0,none⟩)) ?_ ⟨rfl,⟨Fr.refl _ _,fun S1 h1 h2=>⟨S1,h1,h2⟩⟩,fun h=>nomatch h⟩;obtain ⟨t1,t2,t3⟩:=HW.out w1 hw;go_simp
  ·have h5:vs 5= .pointer (some ⟨m,0,none⟩):=hd 5 (by kernel_rfl);refine ai (.iface 112 (.pointer (some ⟨m,0,none⟩))) ?_ ⟨rfl,⟨Fr.refl _ _,fun S1 h1 h2=>⟨S1,h1,h2⟩⟩,fun h=>nomatch h⟩;go_simp
  ·refine ai (.int .i64 s) ?_ ⟨rfl,⟨Fr.refl _ _,fun S1 h1 h2=>⟨S1,h1,h2⟩⟩,fun h=>nomatch h⟩;go_simp
  ·have h6:vs 6= .iface 112 (.pointer (some ⟨m,0,none⟩)):=hd 6 (by kernel_rfl);have h7:vs 7= .int .i64 s:=hd 7 (by kernel_rfl);obtain ⟨S3,u1,u2⟩:=(hw1 (by kernel_rfl)).2 Sm (fun _ h=> .inl h) HM5.out;refine ay 88 #[.iface 112 (.pointer (some ⟨m,0,none⟩)),.int .i64 s] (by go_simp) ((HRD.out S3 w1 s u2 o1 o2 o3).mono ?_);rintro e w5 ⟨rfl,S4,v1,v2,v3⟩;have hzw:=hw.size;exact ⟨_,rfl,rfl,⟨v2.mono (fun k hk=> .inl (u1 k hk)),fun S1 h1 h2=>⟨S4,fun k hk=>(v3 k hk).elim (u1 k) (fun h=> .inr (Nat.le_trans hzw h)),v1⟩⟩,fun h=>nomatch h⟩
  ·have h8:vs 8= .tuple #[bP ((hp s:Nat):Int) ((hf s:Nat):Int) ((hg s:Nat):Int),.int .i64 0]:=hd 8 (by kernel_rfl);refine ai (.tuple #[bP ((hp s:Nat):Int) ((hf s:Nat):Int) ((hg s:Nat):Int),.int .i64 0]) ?_ ⟨rfl,⟨Fr.refl _ _,fun S1 h1 h2=>⟨S1,h1,h2⟩⟩,fun h=>nomatch h⟩;go_simp
  ·have h9:vs 9= .tuple #[bP ((hp s:Nat):Int) ((hf s:Nat):Int) ((hg s:Nat):Int),.int .i64 0]:=hd 9 (by kernel_rfl);refine ai (bP ((hp s:Nat):Int) ((hf s:Nat):Int) ((hg s:Nat):Int)) ?_ ⟨rfl,⟨Fr.refl _ _,fun S1 h1 h2=>⟨S1,h1,h2⟩⟩,fun h=>nomatch h⟩;go_simp
  ·have h9:vs 9= .tuple #[bP ((hp s:Nat):Int) ((hf s:Nat):Int) ((hg s:Nat):Int),.int .i64 0]:=hd 9 (by kernel_rfl);refine ai (.int .i64 0) ?_ ⟨rfl,⟨Fr.refl _ _,fun S1 h1 h2=>⟨S1,h1,h2⟩⟩,fun h=>nomatch h⟩;go_simp
  ·have h3:vs 3= .map (some sb):=hd 3 (by kernel_rfl);have h4:vs 4= .int .i64 s:=hd 4 (by kernel_rfl);have h10:vs 10=bP ((hp s:Nat):Int) ((hf s:Nat):Int) ((hg s:Nat):Int):=hd 10 (by kernel_rfl);obtain ⟨w5,hrun,v1,v2,v3⟩:=HPU.out w1 (hw1 (by kernel_rfl));refine cl (w':=w5) (by go_simp) ⟨⟨v1,v2⟩,v3,fun h=>nomatch h⟩
  intro vs w1 hw hp hx;obtain ⟨g0,g1,g2,g3,g4,g5,g6,g7,g8,g9,g10,g11,g12,_⟩:=hp;have g12:=g12;clear g0 g1 g2 g3 g4 g5 g6 g7 g8 g9 g10 g11 hx;obtain ⟨i1,i2,m1,m2,m3,m4,m6,m7,m8,m10,m11,hpre,hsbl,hwbl,hS9l,hSx,hWf⟩:=HI9.out;obtain ⟨e0,e00,e1,e2,e3,e4,e5,e6,e7⟩:=HCC.out;obtain ⟨y1,S1,y2,y3⟩:=g12;have hfr9:Fr (fun k=>Sm k∨k=sb) W9 w1:=(((Fr.refl (fun k=>Sm k∨k=sb∨W9.heap.size≤k) W9).drew).trans hw (fun _ h=> .inl h)).mono (fun k h=>h.elim (fun h=> .inl (.inl h)) (fun h=>h.elim (fun h=> .inl (.inr h)) .inr));have hOM2:kj m Pg W Fs Us Hg mp L E hp hf hg c s (pre++[(s,n)]) (fun k=>S1 k∨k=c.wb∨k=c.sb) w1:=by
   rw [←e3] at y1 hfr9 hsbl m3;rw [←e2] at m2 m6;exact kj.head m2 m3 m4 m6 m7 m8 m10 m11 hpre y2 hfr9 y3 y1 hsbl
  have hOF2:=hWf w1 hfr9;have hS1:∀k,(S1 k∨k=c.wb∨k=c.sb)→S9 k∨W9.heap.size≤k:=fun k hk=>by
   rcases hk with h|h
   ·exact (y2 k h).imp (fun h=>(m1 k).2 (.inl h)) id
   ·exact .inl ((m1 k).2 (.inr h))
  have hfr9':Fr S9 W9 w1:=hfr9.mono (fun k hk=> .inl ((m1 k).2 (by rw [e2,e3];exact hk.elim .inl (fun h=> .inr (.inr h)))));have HR0:=ae (af hOF2 (af hOM2 (af hS1 hfr9')));have HS9:=ae (af i1 (af hS9l o8));have hwsn:IntKind.i64.wrap ((s:Int)+(n:Int))=(s:Int)+(n:Int):=by rw [IntKind.wrap_i64];omega
  have HLV:=ae o6;have HO9:=ae o9;have HPP:=ae itk;have HZ9:=ae hz9w;have HLE:=ae hlen';clear i1 i2 m1 m2 m3 m4 m6 m7 m8 m10 m11 hpre hsbl hwbl hS9l hSx hWf e0 e00 e1 e2 e3 e4 e5 e6 e7 y1 y2 y3 hfr9 hOM2 hOF2 hS1 hfr9' hw o1 o3 o6 o7 o8 o9 HW HM5 HPU HI9 hnsb itk hz9w;gi_wp2
  gi_loopw [16] (fun z wr=>∃(a:Nat) (S1:Nat→Prop),z= .int .i64 a∧s≤a∧a≤s+n∧Hid (wP c x W E (rs.map φ) wr∧kj m Pg W Fs Us Hg mp L E hp hf hg c a (pre++[(s,n)]) S1 wr∧(∀k,S1 k→S9 k∨W9.heap.size≤k)∧Fr S9 W9 wr)) (fun z _=>(s+n-intOf z).toNat)
  case atStart=>exact ⟨s,_,rfl,Nat.le_refl _,Nat.le_add_right _ _,HR0⟩
  case round=>
   clear HR0;obtain ⟨a,S1,rfl,ha1,ha2,hr⟩:=hrel;by_cases hlt:a<s+n
   ·have c1:(a:Int)<(s:Int)+(n:Int):=by omega
    obtain ⟨f1,f2,f3,f4⟩:=hr.out;obtain ⟨e0,e00,e1,e2,e3,e4,e5,e6,e7⟩:=HCC.out;have hpg1:1≤Pg:=HB.out.1;have hlv:aj E a=true:=by
     have:=HLV.out (a-s) (by omega);rwa [show s+(a-s)=a by omega] at this
    have f2d:=f2.frame ((Fr.refl (fun _=>False) wr).drew) (fun _ _ h=>h);obtain ⟨V,hVa,hlk,wn,hup,hmn,hfn⟩:=f2d.word hlv (by omega) hpg1;have hk1:wr.cell? ⟨c13,0,none⟩=some (.pointer (some ⟨y,0,none⟩)):=by
     have h1:=f1.b13.cell 0 rfl;rw [e6,e4] at h1;exact h1
    have hk2:wr.cell? ⟨y,14,none⟩=some (.map (some wb)):=by
     have h2:wr.cell? ⟨c.y,14,none⟩=some (.map (some c.wb)):=ak.cell f1.y 14 rfl;rw [e4,e2] at h2;exact h2
    have hk3:wr.cell? ⟨w.heap.size,0,none⟩=some (.pointer (some ⟨m,0,none⟩)):=by
     have h3:=f1.b3.cell 0 rfl;rw [e5,e1] at h3;exact h3
    rw [e2] at hlk hup hfn;have hdv:(a:Int).tdiv (Pg:Int)=((a/Pg:Nat):Int):=bV _ _;have hkz:¬Pg=0:=by omega
    have hQa:a/Pg≤524288:=Nat.le_trans (Nat.div_le_self _ _) (by omega);have hwbn:¬pS c x wb:=fun h=>(HOBK.out wb h).2.2.1 rfl
    have HP20:=ae (fun w' (he:w'=wr.drew)=>(show Calls Tryz.prog 148 #[m] w' fun e w5=>e= .returned (.int .i64 Pg)∧w'=w5 from by
     subst he;obtain ⟨Sm,_,_,_,_,_,_,_,_,m5,_⟩:=f2d;exact HPG.out Sm _ m5))
    have HN20:=ae hmn;have HNX:=ae (fun w' (hfw:Fr (fun k=>k=wb) wr.drew w')=>(show wP c x W E (rs.map φ) w'∧Fr S9 W9 w' from by
     refine ⟨f1.frame (((Fr.refl (fun _=>False) wr).drew.mono (S':=fun k=>k=wb) (fun _ h=>h.elim)).trans hfw (fun _ h=> .inl h)) (fun k hk hb=>hwbn (hk▸hb)),?_⟩;refine (f4.trans ((Fr.refl (fun _=>False) wr).drew) (fun _ h=>h.elim)).trans hfw (fun k hk=> ?_);subst hk;obtain ⟨Sm,_,_,_,_,m1,_⟩:=f2;exact f3 _ ((m1 _).2 (.inr (.inl e2.symm)))))
    have HF3:=ae f3;have hV1:((V+1:Nat):Int)=(V:Int)+1:=by push_cast;rfl
    rw [hV1] at hup;have hwV:IntKind.i64.wrap ((V:Int)+1)=(V:Int)+1:=by rw [IntKind.wrap_i64];omega
    generalize a/Pg=Q at hlk hup hdv hQa;have hwQ:IntKind.i64.wrap (Q:Int)=(Q:Int):=by rw [IntKind.wrap_i64];omega
    clear f1 f2 f3 f4 e0 e00 e1 e2 e3 e4 e5 e6 e7 hlv f2d hmn hwbn hr HS9 HLV HO9 HPP HLE;gi_wp2;refine fR 11 10 (fun a b=>Fr (fun k=>k=wb) a b) (fun a b=>b=a) [fun v _=>v= .pointer (some ⟨y,0,none⟩),fun v _=>v= .pointer (some ⟨y,0,none⟩),fun v _=>v= .pointer (some ⟨y,14,none⟩),fun v _=>v= .map (some wb),fun v _=>v= .int .i64 a,fun v _=>v= .pointer (some ⟨m,0,none⟩),fun v _=>v= .int .i64 Pg,fun v _=>v= .int .i64 Q,fun v _=>v= .int .i64 V,fun v _=>v= .int .i64 ((V:Int)+1),fun _ w'=>kj m Pg W Fs Us Hg mp L E hp hf hg c (a+1) (pre++[(s,n)]) S1 w'] (fun j=>false) (by kernel_rfl) (by kernel_rfl) (by kernel_rfl) (by kernel_rfl) rfl (fun _=>rfl) (fun _ _ h=>by subst h;exact Fr.refl _ _) (fun _ _ _ h1 h2=>h2.trans h1) (fun _ _ _ h1 h2=>by subst h2;exact h1) (fun _ _ _ h1 h2=>by subst h1;exact h2) (fun _ _ h=>h.size) ⟨fun _ _ _ h _=>h,fun _ _ _ h _=>h,fun _ _ _ h _=>h,fun _ _ _ h _=>h,fun _ _ _ h _=>h,fun _ _ _ h _=>h,fun _ _ _ h _=>h,fun _ _ _ h _=>h,fun _ _ _ h _=>h,fun _ _ _ h _=>h,fun _ w1 w2 h hr=>by subst hr;exact h,trivial⟩ ⟨.inr (fun _ _ _ h _=>h),.inr (fun _ _ _ h _=>h),.inr (fun _ _ _ h _=>h),.inr (fun _ _ _ h _=>h),.inr (fun _ _ _ h _=>h),.inr (fun _ _ _ h _=>h),.inr (fun _ _ _ h _=>h),.inr (fun _ _ _ h _=>h),.inr (fun _ _ _ h _=>h),.inr (fun _ _ _ h _=>h),.inl rfl,trivial⟩ ?_;intro F hF;simp only [aS,List.take_succ_cons,List.take_zero,aa,ab,ac] at hF;subst hF;refine ⟨⟨fun vs w1 hw hw1 hd hx=> ?_,fun vs w1 hw hw1 hd hx=> ?_,fun vs w1 hw hw1 hd hx=> ?_,fun vs w1 hw hw1 hd hx=> ?_,fun vs w1 hw hw1 hd hx=> ?_,fun vs w1 hw hw1 hd hx=> ?_,fun vs w1 hw hw1 hd hx=> ?_,fun vs w1 hw hw1 hd hx=> ?_,fun vs w1 hw hw1 hd hx=> ?_,fun vs w1 hw hw1 hd hx=> ?_,fun vs w1 hw hw1 hd hx=> ?_,trivial⟩,?_⟩
    ·refine ai (.pointer (some ⟨y,0,none⟩)) ?_ ⟨rfl,rfl,fun h=>nomatch h⟩;have hwe:=hw1 (by kernel_rfl);subst hwe;go_simp
    ·have h0:vs 0= .pointer (some ⟨y,0,none⟩):=hd 0 (by kernel_rfl);refine ai (.pointer (some ⟨y,0,none⟩)) ?_ ⟨rfl,rfl,fun h=>nomatch h⟩;go_simp
    ·have h1:vs 1= .pointer (some ⟨y,0,none⟩):=hd 1 (by kernel_rfl);refine ai (.pointer (some ⟨y,14,none⟩)) ?_ ⟨rfl,rfl,fun h=>nomatch h⟩;go_simp
    ·have h2:vs 2= .pointer (some ⟨y,14,none⟩):=hd 2 (by kernel_rfl);refine ai (.map (some wb)) ?_ ⟨rfl,rfl,fun h=>nomatch h⟩;have hwe:=hw1 (by kernel_rfl);subst hwe;go_simp
    ·refine ai (.int .i64 a) ?_ ⟨rfl,rfl,fun h=>nomatch h⟩;go_simp
    ·refine ai (.pointer (some ⟨m,0,none⟩)) ?_ ⟨rfl,rfl,fun h=>nomatch h⟩;have hwe:=hw1 (by kernel_rfl);subst hwe;go_simp
    ·have h5:vs 5= .pointer (some ⟨m,0,none⟩):=hd 5 (by kernel_rfl);have hwe:=hw1 (by kernel_rfl);refine ay 148 #[m] (by go_simp) ((HP20.out w1 hwe).mono ?_);rintro e w5 ⟨rfl,rfl⟩;exact ⟨_,rfl,rfl,rfl,fun h=>nomatch h⟩
    ·have h4:vs 4= .int .i64 a:=hd 4 (by kernel_rfl);have h6:vs 6= .int .i64 Pg:=hd 6 (by kernel_rfl);refine ai (.int .i64 Q) ?_ ⟨rfl,rfl,fun h=>nomatch h⟩;go_simp
    ·have h3:vs 3= .map (some wb):=hd 3 (by kernel_rfl);have h7:vs 7= .int .i64 Q:=hd 7 (by kernel_rfl);refine ai (.int .i64 V) ?_ ⟨rfl,rfl,fun h=>nomatch h⟩;have hwe:=hw1 (by kernel_rfl);subst hwe;go_simp
    ·have h8:vs 8= .int .i64 V:=hd 8 (by kernel_rfl);refine ai (.int .i64 ((V:Int)+1)) ?_ ⟨rfl,rfl,fun h=>nomatch h⟩;go_simp
    ·have h3:vs 3= .map (some wb):=hd 3 (by kernel_rfl);have h7:vs 7= .int .i64 Q:=hd 7 (by kernel_rfl);have h9:vs 9= .int .i64 ((V:Int)+1):=hd 9 (by kernel_rfl);have hwe:=hw1 (by kernel_rfl);subst hwe;refine cl (w':=wn) (by go_simp) ⟨HN20.out,hfn,fun h=>nomatch h⟩
    intro vs w1 hw hp hx;obtain ⟨g0,g1,g2,g3,g4,g5,g6,g7,g8,g9,g10,_⟩:=hp;clear g0 g1 g2 g3 g4 g5 g6 g7 g8 g9 hx;obtain ⟨y1,y2⟩:=HNX.out w1 hw;have HR9:=ae (af y1 (af g10 (af HF3.out y2)));clear y1 y2 g10 hw HNX HN20 HP20 hup hfn hlk hk1 hk2 hk3 hdv hkz hQa hwV hwQ hV1 hpg1;gi_wp2;go_roundw
    case rel=>exact ⟨a+1,S1,by go_num,by omega,by omega,HR9⟩
    case measure=>simp [intOf];omega
   ·have c1:¬(a:Int)<(s:Int)+(n:Int):=by omega
    obtain ⟨f1,f2,f3,f4⟩:=hr.out;obtain ⟨i1,hS9l,o8⟩:=HS9.out;have hae:a=s+n:=by omega
    have HE9:Hid (s8 (fun pre S w=>pre=(aO E W).take pre.length∧xo m Pg W Fs Us Hg mp L E hp hf hg c x (rs.map φ) pre S w) (pre++[(s,n)]) S9 W9 wr):=by
     refine ae ⟨S1,⟨ix HPP.out HLE.out,fun k hk hb=> ?_,f1,?_⟩,f4,f3⟩
     ·rcases f3 k hk with h|h
      ·exact i1 k h hb
      ·have:=(HOBK.out k hb).1;have:=HZ9.out;omega
     ·rw [List.length_append,List.length_singleton];subst hae;exact f2.skip HO9.out o8
    clear f1 f2 f3 f4 i1 hS9l o8 hr HS9 HLV HO9 HPP HLE hae ha1 ha2;gi_wp2;exact HE9.out
 case done=>
  intro D S9 W9 hI hD hDn hSD hf9 hs9;obtain ⟨_,i1,i2,i3⟩:=hI;rw [wg] at i3;obtain ⟨Sm,fw,nn,ns,f,m1,m2,m3,m4,m5,m6,m7,m8,m9,m10,m11⟩:=i3;obtain ⟨hf27,hf37,hf17,hcd,hxd,hhd,hEG,hS2l,hz7⟩:=HFR7.out;have HOB9:=HOBK.out;clear HCC HOB HPRE HPG HRD HOBK HFR7 hstay hJ0 hS0;subst hcd;subst hxd;dsimp only at m1 m2 m3 m4 m6 m9;obtain ⟨p1,p2,p3,p5,p6,p7,p8,p9,hz2,hz3,hb32,hb52,hT2,hr2,hex⟩:=HP.out;obtain ⟨q1,q2,hb33,hb53,hN⟩:=HQ.out;obtain ⟨hf4,hz4,hnb⟩:=HF4.out;obtain ⟨z1,z2,z3,z4,z5,z6,z7,z8,z9,z10,z11,z12,z13,z14,z15,z16,x1,hw1,k31,k51⟩:=H12.out;obtain ⟨hi,hr,hT,hSt,hSr,hgt,hc,hl,hfit,hmp,hfr,hlaw,hsl,hcG,hG,hdom,hf1,hO,hlo,hdiv,hl1⟩:=HA.out;obtain ⟨hp1,hp2,hW5,hWp,hW1,htl,hrb,hrg,hz1,hr1,hT1,hi1⟩:=HB.out;have hmf:∀(fn:Fn) (first cap:Array Value) (w:World),(Instr.makeFunc fn first cap).run Tryz.prog w= .ok (.func fn first cap) w:=fun _ _ _ _=>rfl
  have hz79:=hf9.size;have hSmB:∀k,Sm k→¬pS _ _ k:=fun k hk=>i1 k ((m1 k).2 (.inl hk))
  have hw1z:W4.heap.size≤w1.heap.size:=hw1.size;have hz23:=q2.size;have hz37:=hf37.size;have hz17:=hf17.size;have l3:=z3.lt;have l4:=z4.lt;have l2:=z2.lt;have l1:=z1.lt;have lc:=z15.lt;have hgb:g<w.heap.size∧b<w.heap.size:=⟨hrg,hrb⟩;have hng:∀k,pS ⟨y,m,F,Tp,T,Li,B,Rm,ah,pl,EL,mv,nb,wb,sb,w2.heap.size,w3.heap.size⟩ ⟨w.heap.size,w.heap.size+1,c13,W5.heap.size,b,g⟩ k→k<W7.heap.size:=fun k hk=>(HOB9 k hk).1
  have HTU:=ae (iu 194 #[y] #[] (enters_of Tryz.func194 (by kernel_rfl) rfl) (fun rs' w'=>rs'=((rs.map φ).take rs'.length).map (kN (goes E T) id)∧Fr (fun k=>k=g) W9 w') i2.roots ⟨rfl,Fr.refl _ _⟩
   (fun rs' wa wb' ⟨j1,j2⟩ hf=>⟨j1,j2.trans hf (fun k h=> .inl h)⟩)
   (fun rs' wa ⟨j1,j2⟩ hz=>⟨by
    rw [List.length_append,List.length_singleton,List.take_add_one,hz];rw [List.map_append,←j1];rfl,j2⟩)
   (fun rs' a wa hrt ⟨j1,j2⟩ ha h0=>by
    have hmem:=List.mem_of_getElem? ha;obtain ⟨z,hz,rfl⟩:=List.mem_map.1 hmem;have hzr:Reach A.gr rs z:= .root hz (fun e=>h0 (by rw [e];exact hl.zero));have hla:=hl.live hex hzr (i:=0) (by unfold AG.sz;omega);rw [Nat.add_zero] at hla;have hlz:=hl.lies z hzr;have hzs:1≤A.sz z:=by unfold AG.sz;omega
    refine (qF (ak.frame i2.y j2 (fun e=>by dsimp only at e;omega)) (i2.plan.frame j2 (fun i hi=>by dsimp only;omega)) (by dsimp only;omega) (φ z) hla (by have:=hc.F3;omega)).mono ?_;rintro e wb' ⟨rfl,hfb⟩;refine ⟨goes E T (φ z),rfl,hrt.frame hfb (fun h=>h) (fun h=>h),?_,j2.trans hfb (fun _ h=>h.elim)⟩;rw [List.length_append,List.length_singleton,List.take_add_one,ha,List.map_append,←j1];show _=rs'++[kN (goes E T) id (φ z)]
    unfold kN;rw [if_neg h0];rfl))
  have hSmw:¬Sm wb∧¬Sm sb:=⟨m2,m3⟩;have hS9k:∀k,Sm k→S2 k∨W7.heap.size≤k:=fun k hk=>by
   rcases hs9 k ((m1 k).2 (.inl hk)) with h|h
   ·rcases h with h|h|h
    ·exact .inl h
    ·exact absurd hk (h▸m2)
    ·exact absurd hk (h▸m3)
   ·exact .inr h
  have hDSm:¬Sm D:=fun h=>hSD ((m1 D).2 (.inl h))
  have hop:∀(w10 wr:World) (q:Nat),Fr (fun k=>k=g) W9 w10→iT m Pg W Fs mp L (fun r=>decide (ga E Pg W r=0)) (F/Pg) Sm w10 q wr→∀(bb:Nat) (cs:List Value) (t:TypeId),pS ⟨y,m,F,Tp,T,Li,B,Rm,ah,pl,EL,mv,nb,wb,sb,w2.heap.size,w3.heap.size⟩ ⟨w.heap.size,w.heap.size+1,c13,W5.heap.size,b,g⟩ bb→bb≠g→ak W9 bb cs t→ak wr bb cs t:=by
   rintro w10 wr q h1 ⟨_,_,_,_,_,_,h2,_⟩ bb cs t h3 h4 h5;exact (h5.frame h1 h4).frame h2 (fun h=>hSmB bb h h3)
  have HCB:Hid (∀(w10 wr:World) (q:Nat),Fr (fun k=>k=g) W9 w10→iT m Pg W Fs mp L (fun r=>decide (ga E Pg W r=0)) (F/Pg) Sm w10 q wr→wr.cell? ⟨c13,0,none⟩=some (.pointer (some ⟨y,0,none⟩))∧wr.cell? ⟨y,14,none⟩=some (.map (some wb))∧wr.cell? ⟨w.heap.size,0,none⟩=some (.pointer (some ⟨m,0,none⟩))∧wr.cell? ⟨w.heap.size+1,0,none⟩=some (.int .i64 F)∧wr.cell? ⟨w.heap.size+1,1,none⟩=some (.int .i64 Tp)∧
    (q<4611686018427387904→(Instr.lookup 33 (.map (some wb)) (.int .i64 q) false).run Tryz.prog wr= .ok (.int .i64 ((ga E Pg W q:Nat):Int)) wr)):=by
   show∀(w10 wr:World) (q:Nat),_
   intro w10 wr q h1 h2;have hB:=hop w10 wr q h1 h2;refine ⟨(hB _ _ _ (.inr (.inr (.inr (.inr (.inl rfl))))) (by dsimp only;omega) i2.b13).cell 0 rfl,(hB _ _ _ (.inr (.inr (.inr (.inr (.inr (.inl rfl)))))) (by dsimp only;omega) i2.y).cell 14 rfl,(hB _ _ _ (.inr (.inr (.inl rfl))) (by dsimp only;omega) i2.b3).cell 0 rfl,(hB _ _ _ (.inr (.inr (.inr (.inl rfl)))) (by dsimp only;omega) i2.b5).cell 0 rfl,(hB _ _ _ (.inr (.inr (.inr (.inl rfl)))) (by dsimp only;omega) i2.b5).cell 1 rfl,fun hq=> ?_⟩;obtain ⟨_,_,_,_,_,_,h3,_⟩:=h2;have:=((m6.frame h1 (by omega)).frame h3 m2).look q hq;rwa [m7] at this
  have HDQ:Hid (∀(w10 wr:World) (q:Nat),Fr (fun k=>k=g) W9 w10→iT m Pg W Fs mp L (fun r=>decide (ga E Pg W r=0)) (F/Pg) Sm w10 q wr→wr.heap[D]? =some (.deferred (some []))):=by
   show∀(w10 wr:World) (q:Nat),_
   rintro w10 wr q h1 ⟨_,_,_,_,_,_,h3,_⟩;exact h3.heap (h1.heap hD (fun e=>by omega)) hDSm
  have HST:=ae (fun (w10:World) (h1:Fr (fun k=>k=g) W9 w10)=>(show iT m Pg W Fs mp L (fun r=>decide (ga E Pg W r=0)) (F/Pg) Sm w10 (F/Pg) w10 from iT.start ((aR m Pg W Fs Us Hg mp) _ _ _ _ _ m5 h1 (fun k hk e=>hSmB k hk (by rw [e];exact .inr (.inr (.inr (.inr (.inr (.inr (.inr (.inr (.inr (.inl rfl))))))))))))));have hFq:F=F/Pg*Pg:=by have:=Nat.div_add_mod F Pg;have:=hc.F4;rw [Nat.mul_comm];omega
  have HDR:=ae (fun (w10 wr:World) (q:Nat) (hu:iT m Pg W Fs mp L (fun r=>decide (ga E Pg W r=0)) (F/Pg) Sm w10 q wr) (h0:ga E Pg W q=0) (h:q*Pg<Tp) (hq:F/Pg≤q)=>iT.drop hu (decide_eq_true h0) (by
    rw [hmp,decide_eq_true (show F≤q*Pg by rw [hFq];exact Nat.mul_le_mul_right Pg hq),decide_eq_true h];rfl) (by
    have h2:W=W/Pg*Pg:=by have:=Nat.div_add_mod W Pg;rw [Nat.mul_comm];omega
    have h3:q*Pg<W/Pg*Pg:=by have:=hc.F3;omega
    exact Nat.lt_of_mul_lt_mul_right h3) hq)
  have HSK:=ae (fun (w10 wr:World) (q:Nat) (hu:iT m Pg W Fs mp L (fun r=>decide (ga E Pg W r=0)) (F/Pg) Sm w10 q wr) (h0:ga E Pg W q≠0)=>iT.skip hu (decide_eq_false h0));have HFIN:Hid (∀(w10 wr:World) (rs':List Nat) (q:Nat),rs'.length=(rs.map φ).length→aW w10 b g rs'→rs'=((rs.map φ).take rs'.length).map (kN (goes E T) id)→Fr (fun k=>k=g) W9 w10→iT m Pg W Fs mp L (fun r=>decide (ga E Pg W r=0)) (F/Pg) Sm w10 q wr→Tp≤q*Pg→jd m b g Pg W Fs A rs T Li B ah S w (.returned (.tuple #[.pointer (some ⟨y,0,none⟩),.int .i64 0])) (wr.putObj D (.deferred none))):=by
   show∀(w10 wr:World) (rs':List Nat) (q:Nat),_
   intro w10 wr rs' q a1 a2 a3 a4 hu hq1;have hop2:=hop w10 wr q a4 hu;obtain ⟨used',Hg',mpq,S',⟨M,u0,u1⟩,u2,u3,u4⟩:=hu;have hfD:Fr (fun k=>k=D) wr (wr.putObj D (.deferred none)):=(Fr.refl _ wr).putObj _ _ (.inl rfl);have hz10:=a4.size;have hz11:=u3.size;have hS':∀k,S' k→(Sm k∨w10.heap.size≤k)∧k≠D:=fun k hk=>⟨u4 k hk,fun e=>by
    rcases u4 k hk with h|h
    ·exact hDSm (e▸h)
    ·have h6:=(Array.getElem?_eq_some_iff.1 (a4.heap hD (fun e=>by omega))).1;omega⟩
   have hz9:Fr (fun k=>k=g∨Sm k∨k=D) W9 (wr.putObj D (.deferred none)):=((a4.mono (S':=fun k=>k=g∨Sm k∨k=D) (fun k h=> .inl (.inl h))).trans u3 (fun k h=> .inl (.inr (.inl h)))).trans hfD (fun k h=> .inl (.inr (.inr h)));have hnt:∀k,pS ⟨y,m,F,Tp,T,Li,B,Rm,ah,pl,EL,mv,nb,wb,sb,w2.heap.size,w3.heap.size⟩ ⟨w.heap.size,w.heap.size+1,c13,W5.heap.size,b,g⟩ k→k≠g→¬(k=g∨Sm k∨k=D):=fun k hk hg h=>by
    rcases h with h|h|h
    ·exact hg h
    ·exact hSmB k h hk
    ·have:=hng k hk;omega
   obtain ⟨L',l,s1,s2,s3,s4,s5,s6,s7⟩:=rW (hf:=hf) (hg:=hg) (Rm:=Rm) hc hp1 hWp hW5 hdiv hl hex p5.apart hhd hfit hmp hfr hq1 u2 u1;obtain ⟨i21,i22,i23⟩:=i2.all;dsimp only at i21 i22 i23;have hNw:N=A.Wd l:=by omega
   have hnb2:nb=gS (cnt (aj E) 0 W) B:=by rw [hnb,hN]
   have hEl:=p5.lt;have hrsE:rs'=rs.map (kN (goes E T) φ):=by
    rw [a3,a1,List.take_length,List.map_map];refine List.map_congr_left (fun z hz=> ?_);show (if φ z=0 then 0 else goes E T (φ z))=if z=0 then 0 else goes E T (φ z)
    by_cases h0:z=0
    ·rw [if_pos h0,if_pos (by rw [h0];exact hl.zero)]
    ·rw [if_neg h0,if_neg (by have:=hl.pos (.root hz h0);omega)]
   have hLT:(Li-T)/Pg*Pg=Li-T:=by
    have h1:(Li-T)% Pg=0:=by
     have hT4:=hc.T4;have hL4:=hc.L4;obtain ⟨u,hu⟩:∃u,T=u*Pg:=⟨T/Pg,by have:=Nat.div_add_mod T Pg;rw [Nat.mul_comm];omega⟩;obtain ⟨v,hv⟩:∃v,Li=v*Pg:=⟨Li/Pg,by have:=Nat.div_add_mod Li Pg;rw [Nat.mul_comm];omega⟩;rw [hu,hv,←Nat.sub_mul];exact Nat.mul_mod_left _ _
    have:=Nat.div_add_mod (Li-T) Pg;rw [Nat.mul_comm];omega
   refine ⟨⟨y,m,F,Tp,T,Li,B,Rm,ah,pl,EL,mv,nb,wb,sb,w2.heap.size,w3.heap.size⟩,⟨E,hp,T,W,Pg,B,(Li-T)/Pg,ah⟩,hf,hg,kN (goes E T) φ,L',fun k=>S' k∨Cy.has ⟨y,m,F,Tp,T,Li,B,Rm,ah,pl,EL,mv,nb,wb,sb,w2.heap.size,w3.heap.size⟩ k,l,rfl,rfl,rfl,rfl,rfl,rfl,rfl,rfl,?cyt,?cys,s2,s5,s4,?rts,?tab,?foot,?fr,by have h1:=hb53.lt;have h2:=hz9.size;have h3:=hf4.size;omega,s3⟩
   case cyt=>
    refine ⟨s6,s7,?_,?_,hfr,?_,hnb2,rfl,?_,hc.B2,hc.a1⟩
    ·show T+A.Wd l≤T+(Li-T)/Pg*Pg
     omega
    ·show T+cnt (aj E) 0 W≤T+A.Wd l
     omega
    ·show T≤524288
     omega
    ·show cnt (aj E) 0 W≤524288
     omega
   case cys=>
    have hsn:(⟨E,hp,T,W,Pg,B,(Li-T)/Pg,ah⟩:bg).nb=nb:=hnb2.symm;rw [hsn];refine ⟨used',Hg',S',mpq,M,fw,nn,⟨?_,u0.frame hfD (fun k hk e=>(hS' k hk).2 e),?_,?_,?_,?_,?_,⟨ns,f,?_,?_⟩,?_,?_,?_,rfl,rfl,List.length_replicate⟩,?_,fun r=> ?_,?_,fun k=>Iff.rfl⟩
    ·exact ak.frame i2.y hz9 (hnt _ (.inr (.inr (.inr (.inr (.inr (.inl rfl)))))) (by dsimp only;omega))
    ·exact i2.plan.frame hz9 (fun i hi=>by
      dsimp only;rcases hi with h|h|h
      ·omega
      ·by_cases hx:w2.heap.size≤i∧i<w3.heap.size
       ·exact absurd (.inr (.inr (.inr (.inr (.inr (.inr (.inr (.inl hx)))))))) (hSmB i h)
       ·omega
      ·omega)
    ·exact i21.frame hz9 (fun k hk=>hnt k (.inl hk) (fun e=>by have:=hEl k hk;have:=HP.out.2.2.2.2.2.2.1 k hk;omega))
    ·exact an i22 hz9 (hnt _ (.inr (.inr (.inr (.inr (.inr (.inr (.inr (.inr (.inr (.inr rfl)))))))))) (Ne.symm hgt))
    ·exact i2.mv.frame hz9 (hnt _ (.inr (.inr (.inr (.inr (.inr (.inr (.inl rfl))))))) (by dsimp only;omega))
    ·exact m6.frame hz9 (fun h=>by
      rcases h with h|h|h
      ·omega
      ·exact m2 h
      ·omega)
    ·exact m9.frame hz9 (fun h=>by
      rcases h with h|h|h
      ·omega
      ·exact m3 h
      ·omega)
    ·exact fun a ha=>(show E a≠0→_ from fun ha'=>m11 (a,E a) (bh.2 ⟨by have:=p5.top a ha';omega,ha',rfl⟩)) ha
    ·show w3.heap.size≤(wr.putObj D (.deferred none)).heap.size
     have:=hfD.size;omega
    ·intro k hk;have h5:=(hS' k hk).1;have hnB:∀k',pS ⟨y,m,F,Tp,T,Li,B,Rm,ah,pl,EL,mv,nb,wb,sb,w2.heap.size,w3.heap.size⟩ ⟨w.heap.size,w.heap.size+1,c13,W5.heap.size,b,g⟩ k'→k≠k':=fun k' hk' e=>by
      rcases h5 with h|h
      ·exact hSmB k h (e▸hk')
      ·have:=hng k' hk';omega
     refine ⟨fun hx=> ?_,hnB _ (.inr (.inr (.inr (.inr (.inr (.inr (.inr (.inr (.inr (.inr rfl))))))))))⟩;rcases hx with h|h|h|h|h|h
     ·exact hnB _ (.inr (.inr (.inr (.inr (.inr (.inl rfl)))))) h
     ·exact hnB _ (.inr (.inr (.inr (.inr (.inr (.inr (.inl rfl))))))) h
     ·dsimp only at h;rcases h5 with h6|h6
      ·exact m2 (h▸h6)
      ·omega
     ·dsimp only at h;rcases h5 with h6|h6
      ·exact m3 (h▸h6)
      ·omega
     ·exact hnB k (.inl h) rfl
     ·exact hnB k (.inr (.inr (.inr (.inr (.inr (.inr (.inr (.inl h)))))))) rfl
    ·have hElo:∀k,EL.has k→k<w2.heap.size:=hEl;refine ⟨⟨?_,?_,?_,fun h=> ?_,fun h=> ?_,?_⟩,⟨?_,?_,fun h=> ?_,fun h=> ?_,?_⟩,⟨?_,fun h=> ?_,fun h=> ?_,?_⟩⟩
     ·exact z12
     ·exact z13
     ·exact z14
     ·have:=hElo _ h;dsimp only at this;omega
     ·dsimp only at h;omega
     ·show y≠aN
      omega
     ·exact z5
     ·exact z6
     ·have:=hElo _ h;dsimp only at this;omega
     ·dsimp only at h;omega
     ·show mv≠aN
      omega
     ·exact z7
     ·have:=hElo _ h;dsimp only at this;omega
     ·dsimp only at h;omega
     ·show wb≠aN
      omega
    ·rw [yy];have:=s1;rw [←hnb2] at this;exact this
    ·rw [m7,yy];exact qC (s:=⟨E,hp,T,W,Pg,B,(Li-T)/Pg,ah⟩) hp1 (fun a ha=>by
      have ha':aj E a=true:=ha;obtain ⟨s,q1',q2'⟩:=aQ.1 ha';have:=p5.top s (by omega);show a<W
      omega) r
    ·omega
   case rts=>
    rw [←hrsE];have hb9:pS ⟨y,m,F,Tp,T,Li,B,Rm,ah,pl,EL,mv,nb,wb,sb,w2.heap.size,w3.heap.size⟩ ⟨w.heap.size,w.heap.size+1,c13,W5.heap.size,b,g⟩ b:= .inr (.inr (.inr (.inr (.inr (.inr (.inr (.inr (.inl rfl))))))));have hg9:pS ⟨y,m,F,Tp,T,Li,B,Rm,ah,pl,EL,mv,nb,wb,sb,w2.heap.size,w3.heap.size⟩ ⟨w.heap.size,w.heap.size+1,c13,W5.heap.size,b,g⟩ g:= .inr (.inr (.inr (.inr (.inr (.inr (.inr (.inr (.inr (.inl rfl)))))))));exact (a2.frame u3 (fun h=>hSmB b h hb9) (fun h=>hSmB g h hg9)).frame hfD (fun e=>by omega) (fun e=>by omega)
   case tab=>exact an i22 hz9 (hnt _ (.inr (.inr (.inr (.inr (.inr (.inr (.inr (.inr (.inr (.inr rfl)))))))))) (Ne.symm hgt))
   case foot=>
    intro k hk;rcases hk with h|h
    ·rcases (hS' k h).1 with h|h
     ·rcases hS9k k h with h|h
      ·rcases p2 k h with h|h
       ·exact .inl h
       ·exact .inr (by omega)
      ·exact .inr (by omega)
     ·exact .inr (by omega)
    ·right;rcases h with h|h|h|h|h|h
     ·dsimp only at h;omega
     ·dsimp only at h;omega
     ·dsimp only at h;omega
     ·dsimp only at h;omega
     ·have:=p8 k h;omega
     ·dsimp only at h;omega
   case fr=>
    have g1:Fr (fun k=>S k∨k=g) w w2:=((hf1.trans HF2.out (fun _ h=>h.elim)).mono (S':=fun k=>S k∨k=g) (fun _ h=>h.elim)).trans p9 (fun k h=> .inl (.inl h));have g2:Fr (fun k=>S k∨k=g) w W7:=g1.trans hf27 (fun _ h=>h.elim);have hS2f:∀k,S2 k→(S k∨k=g)∨w.heap.size≤k:=fun k h=>by
     rcases p2 k h with h|h
     ·exact .inl (.inl h)
     ·exact .inr (by omega)
    have g3:Fr (fun k=>S k∨k=g) w W9:=g2.trans hf9 (fun k h=>by
     rcases h with h|h|h
     ·exact hS2f k h
     ·exact .inr (by omega)
     ·exact .inr (by omega))
    exact g3.trans hz9 (fun k h=>by
     rcases h with h|h|h
     ·exact .inl (.inr h)
     ·rcases hS9k k h with h|h
      ·exact hS2f k h
      ·exact .inr (by omega)
     ·exact .inr (by omega))
  have k13:W9.cell? ⟨c13,0,none⟩=some (.pointer (some ⟨y,0,none⟩)):=i2.b13.cell 0 rfl;have hdv:(F:Int).tdiv (Pg:Int)=((F/Pg:Nat):Int):=bV _ _;have hkz:¬Pg=0:=by omega
  have hpb:Pg≤256:=hp2;have hTpW:Tp≤524288:=by have:=hc.F3;omega
  have hFW:F≤524288:=by have:=hc.F2;omega
  have hQW:F/Pg≤524288:=Nat.le_trans (Nat.div_le_self _ _) hFW;have hQ0:F/Pg*Pg<Tp+Pg:=by have:=hc.F2;omega
  generalize hQF:F/Pg=QF at HCB HDQ HST HDR HSK HFIN hdv hQW hQ0;clear hQF;have hwq:IntKind.i64.wrap (QF:Int)=(QF:Int):=by rw [IntKind.wrap_i64];omega
  clear hS9k hDSm hop hSmw hFq hng l1 l2 l3 l4 lc hz17 hz37 hz23 hw1z hSmB hz79 hgb HOB9 hp1 hp2 hW5 hWp hW1 htl hrb hrg hz1 hr1 hT1 hi1 hi hr hT hSt hSr hgt hc hl hfit hmp hfr hlaw hsl hcG hG hdom hf1 hO hlo hdiv hl1 z1 z2 z3 z4 z5 z6 z7 z8 z9 z10 z11 z12 z13 z14 z15 z16 x1 hw1 k31 k51 hf4 hz4 hnb q1 q2 hb33 hb53 hN p1 p2 p3 p5 p6 p7 p8 p9 hz2 hz3 hb32 hb52 hT2 hr2 hex hf27 hf37 hf17 hhd hEG hS2l hz7 m1 m2 m3 m4 m5 m6 m7 m8 m9 m10 m11 i1 i2 hD hDn hSD hf9 hs9 HP HQ HF4 H12 HA HB HB1 HB2 HF2;gi_wp2;refine bt ((HTU.out).mono ?_);rintro e w10 ⟨rfl,rs',hrl,hrt,hrs,hf10⟩;have HU0:=ae (HST.out w10 hf10);have HCB1:=ae (fun q wr hu=>HCB.out w10 wr q hf10 hu);have HDQ1:=ae (fun q wr hu=>HDQ.out w10 wr q hf10 hu);have HFI1:=ae (fun q wr hu hq=>HFIN.out w10 wr rs' q hrl hrt hrs hf10 hu hq);have HDR1:=ae (fun q wr hu=>HDR.out w10 wr q hu);have HSK1:=ae (fun q wr hu=>HSK.out w10 wr q hu);clear hrl hrt hrs hf10 HST HCB HDQ HFIN HDR HSK HTU k13 hmf;obtain ⟨t1,t2,t3,t4,t5,t6⟩:=HCB1.out _ _ HU0.out;have HPG:=ae ((HU0.out.Fh ((Fr.refl _ w10).drew)).pg);clear t1 t2 t5 t6;gi_wp2;refine wpIn_wide.2 ?_;refine bv 6 (fun a b=>b=a) [fun v _=>v= .pointer (some ⟨w.heap.size+1,0,none⟩),fun v _=>v= .int .i64 F,fun v _=>v= .pointer (some ⟨m,0,none⟩),fun v _=>v= .int .i64 Pg,fun v _=>v= .int .i64 ((QF:Nat):Int),fun v _=>v= .int .i64 ((QF:Nat):Int)] (fun j=>false) (by kernel_rfl) (by kernel_rfl) (by kernel_rfl) (by kernel_rfl) rfl (fun _=>rfl) (fun _ _ _ h1 h2=>h2.trans h1) (fun _ _ h=>by rw [h];exact Nat.le_refl _) ⟨fun _ _ _ h _=>h,fun _ _ _ h _=>h,fun _ _ _ h _=>h,fun _ _ _ h _=>h,fun _ _ _ h _=>h,fun _ _ _ h _=>h,trivial⟩ ?_;intro F hF;simp only [aS,List.take_succ_cons,List.take_zero,aa,ab,ac] at hF;subst hF;refine ⟨⟨fun vs w1 hw hd hx=> ?_,fun vs w1 hw hd hx=> ?_,fun vs w1 hw hd hx=> ?_,fun vs w1 hw hd hx=> ?_,fun vs w1 hw hd hx=> ?_,fun vs w1 hw hd hx=> ?_,trivial⟩,?_⟩
  ·refine ai (.pointer (some ⟨w.heap.size+1,0,none⟩)) ?_ ⟨rfl,rfl,fun h=>nomatch h⟩;go_simp
  ·have h0:vs 0= .pointer (some ⟨w.heap.size+1,0,none⟩):=hd 0 (by kernel_rfl);refine ai (.int .i64 F) ?_ ⟨rfl,rfl,fun h=>nomatch h⟩;subst hw;go_simp
  ·refine ai (.pointer (some ⟨m,0,none⟩)) ?_ ⟨rfl,rfl,fun h=>nomatch h⟩;subst hw;go_simp
  ·have h2:vs 2= .pointer (some ⟨m,0,none⟩):=hd 2 (by kernel_rfl);subst hw;refine ay 148 #[m] (by go_simp) ((HPG.out).mono ?_);rintro e w2 ⟨rfl,rfl⟩;exact ⟨_,rfl,rfl,rfl,fun h=>nomatch h⟩
  ·have h1:vs 1= .int .i64 F:=hd 1 (by kernel_rfl);have h3:vs 3= .int .i64 Pg:=hd 3 (by kernel_rfl);refine ai (.int .i64 ((QF:Nat):Int)) ?_ ⟨rfl,rfl,fun h=>nomatch h⟩;go_simp
  ·have h4:vs 4= .int .i64 ((QF:Nat):Int):=hd 4 (by kernel_rfl);refine ai (.int .i64 ((QF:Nat):Int)) ?_ ⟨rfl,rfl,fun h=>nomatch h⟩;go_simp
  intro vs w1 hw hp hx;obtain ⟨g0,g1,g2,g3,g4,g5,_⟩:=hp;simp only [g0,g1,g2,g3,g4,g5];subst hw;clear g0 g1 g2 g3 g4 g5 hx HPG;simp only [List.drop_succ_cons,List.drop_zero];clear t3 t4;go_wp2;gi_wp2
  gi_loopw [17] (fun z wr=>∃q:Nat,z= .int .i64 q∧QF≤q∧q*Pg<Tp+Pg∧q≤524288+1∧Hid (iT m Pg W Fs mp L (fun r=>decide (ga E Pg W r=0)) QF Sm w10 q wr)) (fun z _=>(524288+2-intOf z).toNat)
  case atStart=>exact ⟨QF,rfl,Nat.le_refl _,hQ0,by omega,ae (HU0.out.Fh ((Fr.refl _ w10).drew))⟩
  case round=>
   clear HU0 hQ0;obtain ⟨q,rfl,hq1,hq2,hq3,hr⟩:=hrel;obtain ⟨t1,t2,t3,t4,t5,t6⟩:=HCB1.out q _ hr.out;have HPG:=ae (hr.out.Fh ((Fr.refl _ _).drew)).pg;have HUQ:=ae (hr.out.Fh ((Fr.refl _ wr).drew));obtain ⟨X,hX⟩:∃X,X=q*Pg:=⟨_,rfl⟩;have hXX:(q:Int)*(Pg:Int)=(X:Int):=by rw [hX];push_cast;rfl
   have hX5:X≤1048576:=by omega
   have hw:IntKind.i64.wrap ((q:Int)*(Pg:Int))=(X:Int):=by rw [hXX,IntKind.wrap_i64];omega
   have hqX:q≤X:=by rw [hX];exact Nat.le_mul_of_pos_right q (by omega)
   have HN:Hid (X<Tp→(q+1)*Pg<Tp+Pg):=by
    show X<Tp→_
    intro h;rw [Nat.succ_mul,←hX];omega
   have HXE:=ae hX;clear hX hXX hr t6;gi_wp2;refine wpIn_wide.2 ?_;refine bv 7 (fun a b=>b=a) [fun v _=>v= .int .i64 q,fun v _=>v= .pointer (some ⟨m,0,none⟩),fun v _=>v= .int .i64 Pg,fun v _=>v= .int .i64 X,fun v _=>v= .pointer (some ⟨w.heap.size+1,1,none⟩),fun v _=>v= .int .i64 Tp,fun v _=>v= .bool (decide ((X:Int)<(Tp:Int)))] (fun j=>false) (by kernel_rfl) (by kernel_rfl) (by kernel_rfl) (by kernel_rfl) rfl (fun _=>rfl) (fun _ _ _ h1 h2=>h2.trans h1) (fun _ _ h=>by rw [h];exact Nat.le_refl _) ⟨fun _ _ _ h _=>h,fun _ _ _ h _=>h,fun _ _ _ h _=>h,fun _ _ _ h _=>h,fun _ _ _ h _=>h,fun _ _ _ h _=>h,fun _ _ _ h _=>h,trivial⟩ ?_;intro F hF;simp only [aS,List.take_succ_cons,List.take_zero,aa,ab,ac] at hF;subst hF;refine ⟨⟨fun vs w1 hw hd hx=> ?_,fun vs w1 hw hd hx=> ?_,fun vs w1 hw hd hx=> ?_,fun vs w1 hw hd hx=> ?_,fun vs w1 hw hd hx=> ?_,fun vs w1 hw hd hx=> ?_,fun vs w1 hw hd hx=> ?_,trivial⟩,?_⟩
   ·refine ai (.int .i64 q) ?_ ⟨rfl,rfl,fun h=>nomatch h⟩;go_simp
   ·refine ai (.pointer (some ⟨m,0,none⟩)) ?_ ⟨rfl,rfl,fun h=>nomatch h⟩;subst hw;go_simp
   ·have h1:vs 1= .pointer (some ⟨m,0,none⟩):=hd 1 (by kernel_rfl);subst hw;refine ay 148 #[m] (by go_simp) ((HPG.out).mono ?_);rintro e w2 ⟨rfl,rfl⟩;exact ⟨_,rfl,rfl,rfl,fun h=>nomatch h⟩
   ·have h0:vs 0= .int .i64 q:=hd 0 (by kernel_rfl);have h2:vs 2= .int .i64 Pg:=hd 2 (by kernel_rfl);refine ai (.int .i64 X) ?_ ⟨rfl,rfl,fun h=>nomatch h⟩;go_simp
   ·refine ai (.pointer (some ⟨w.heap.size+1,1,none⟩)) ?_ ⟨rfl,rfl,fun h=>nomatch h⟩;go_simp
   ·have h4:vs 4= .pointer (some ⟨w.heap.size+1,1,none⟩):=hd 4 (by kernel_rfl);refine ai (.int .i64 Tp) ?_ ⟨rfl,rfl,fun h=>nomatch h⟩;subst hw;go_simp
   ·have h3:vs 3= .int .i64 X:=hd 3 (by kernel_rfl);have h5:vs 5= .int .i64 Tp:=hd 5 (by kernel_rfl);refine ai (.bool (decide ((X:Int)<(Tp:Int)))) ?_ ⟨rfl,rfl,fun h=>nomatch h⟩;go_simp
   intro vs w1 hw hp hx;obtain ⟨g0,g1,g2,g3,g4,g5,g6,_⟩:=hp;simp only [g0,g1,g2,g3,g4,g5,g6];subst hw;clear g0 g1 g2 g3 g4 g5 g6 hx HPG;simp only [List.drop_succ_cons,List.drop_zero];go_wp2;clear t1 t2 t3 t4 t5;obtain ⟨t1,t2,t3,t4,t5,t6⟩:=HCB1.out q _ HUQ.out;by_cases hlt:X<Tp
   ·have c1:(X:Int)<(Tp:Int):=by omega
    have HN2:=ae (HN.out hlt);have hlk:=t6 (by omega);have hlX:q*Pg<Tp:=by have:=HXE.out;omega
    have HD2:=ae (fun h0=>HDR1.out q _ HUQ.out h0 hlX hq1);have HS2:=ae (fun h0=>HSK1.out q _ HUQ.out h0);clear t4 t5 t6 HN HXE HUQ hlX hw HCB1 HDQ1 HFI1 HDR1 HSK1;obtain ⟨V,hV⟩:∃V,V=ga E Pg W q:=⟨_,rfl⟩;rw [←hV] at hlk HD2 HS2;clear hV;by_cases h0:V=0
    ·have HD3:=ae (HD2.out h0);subst h0;rw [show ((0:Nat):Int)=0 from rfl] at hlk;clear HS2 HD2;gi_wp2;refine bt ((HD3.out).mono ?_);rintro e w9 ⟨rfl,hu⟩;have HU9:=ae hu;clear hu HD3 hlk t1 t2 t3;gi_wp2;go_roundw
     case rel=>exact ⟨q+1,by go_num,by omega,HN2.out,by omega,HU9⟩
     case measure=>simp [intOf];omega
    ·have HU9:=ae (HS2.out h0);have h0':¬(V:Int)=0:=by omega
     have h0b:((V:Int)==0)=false:=by rw [beq_eq_false_iff_ne];omega
     clear HS2 HD2;gi_wp2;go_roundw
     case rel=>exact ⟨q+1,by go_num,by omega,HN2.out,by omega,HU9⟩
     case measure=>simp [intOf];omega
   ·have c1:¬(X:Int)<(Tp:Int):=by omega
    have HF2:=ae (HFI1.out q _ HUQ.out (by have:=HXE.out;omega));have HDF:=ae (HDQ1.out q _ HUQ.out);clear t2 t3 t4 t5 t6 HN HXE HUQ hw HCB1 HDQ1 HFI1 HDR1 HSK1;gi_wp2;refine ⟨by simp,.inl ⟨_,_,rfl,run_takeDeferred HDF.out,?_⟩⟩;refine ⟨_,results_tmp2 rfl _ _ _,?_⟩;exact HF2.out
end
end Go.Proofs.YthahbijbpinneaaGreatDoor
