import Derived.Test.YthahbijbpinneaaGreatDoorA18
set_option maxRecDepth 100000
set_option maxHeartbeats 8000000
set_option linter.all false
namespace Go.Proofs.YthahbijbpinneaaGreatDoor
open Go.RowKit
theorem qb (k:Nat) (i:k<=16777216) (X:Int) (b:X=(k:Int)) (w:World):(Instr.makeSlice 207 (.int .i64 X) (.int .i64 X)).run Tryz.prog w= .ok (.slice (some ⟨w.heap.size,0,none⟩) k k) (w.alloc (.cells (pj (List.replicate k false)).toArray 4)):=by
 obtain ⟨g,d,f,a,c⟩:=info_parts lr;subst b;have h:=run_makeSlice (P:=Tryz.prog) w 207 4 g (.bool false) Tryz.underlying207 d f .i64 .i64 (k:Int) (k:Int) (by omega) (Int.le_refl _) (by rw [a,Int.toNat_natCast];omega) (by rw [c];omega) (by omega);rw [a,Int.toNat_natCast,Nat.mul_one,show (Value.bool false).cells= #[.bool false] from rfl,ie] at h;rw [h];have e:(pj (List.replicate k false)).toArray=Array.replicate k (.bool false):=by unfold pj;rw [List.map_replicate];simp
 rw [e]
section
variable {m b g Pg W Fs Us Hg:Nat} {S:Nat->Prop} {mp:Nat->Bool} {L:Nat->Nat} {w:World}
attribute [local go_sem] Oper.semAt_some
theorem wg (d:Nat) {A:AG} {rs:List Nat} {φ:Nat->Nat} (hi:bm m Pg W Fs Us Hg mp L S w) (P:aV w b g (rs.map φ)) (hT:bv w) (b1:¬S aN) (bj:¬S b∧¬S g) (cn:g≠aN) (F Tp T R B Rm ah:Nat) (hc:gw Pg W F Tp T R B Rm ah) (hl:aO A rs φ L F Tp) (dm:1<=rs.length) (a5:Tp-F<=R-T) (b4:∀q,mp q=(decide (F<=q*Pg)&&decide (q*Pg<Tp))) (ck:Fs=(R-T)/Pg+(ah+2)*(qk B Pg+3)) (ax:Pg∣B∨B∣Pg):
  CallsIn Fence.wide d Tryz.prog 129 #[m,.pointer (some ⟨b,0,none⟩),cP F Tp T R B Rm ah] w (jz m b g Pg W Fs A rs T R B ah S w):=by
 refine callsIn_of_wp_marks Tryz.func129 rfl trivial ?_ rfl;simp only [Tryz.ntmps129,List.size_toArray,List.length_cons,List.length_nil,Nat.reduceAdd,Nat.reduceSub,Array.replicate_succ,Array.replicate_zero,List.push_toArray,List.append_toArray,List.nil_append,List.cons_append];have ad:=aF m Pg W Fs Us Hg mp;obtain ⟨c2,ds,c8,c9,Az,Ax,zs,AA,d4⟩:=hi.choose_spec.1.at;have bs:=ad.lt _ _ _ hi;have ej:aN<w.heap.size:=aD (hT 0 0 rfl);have dx:=P.blk.lt;have d0:=P.row.lt;obtain ⟨G,bk⟩:=hl.conc;have hG:=cG.sound hl bk;have am:∀k,F<=k->k<Tp->aY W Pg mp k:=fun k H C=>by
  refine ⟨by have:=hc.F3;omega,?_⟩;have pb:F=F/Pg*Pg:=by have:=Nat.div_add_mod F Pg;have:=hc.F4;rw [Nat.mul_comm];omega
  have h3:=Nat.mul_le_mul_right Pg (Nat.div_le_div_right (c:=Pg) H);have h4:=Nat.div_mul_le_self k Pg;rw [b4,decide_eq_true (show F<=k/Pg*Pg by omega),decide_eq_true (show k/Pg*Pg<Tp by omega)];rfl
 have hO:=cG.obj hl bk am (by have:=hc.F3;omega);have cp:=cG.low hl bk;obtain ⟨W1,d5⟩:∃W1,(w.alloc (.cells #[m] 112)).alloc (.cells #[.int .i64 F,.int .i64 Tp,.int .i64 T,.int .i64 R,.int .i64 B,.int .i64 Rm,.int .i64 ah] 143)=W1:=⟨_,rfl⟩;have bo:Fr (fun _=>False) w W1:=by rw [<-d5];exact ((Fr.refl _ w).alloc _).alloc _
 have em:W1.heap.size=w.heap.size+2:=by rw [<-d5,World.size_alloc,World.size_alloc]
 have pt:aj W1 w.heap.size [.pointer (some ⟨m,0,none⟩)] 112:=by rw [<-d5];exact (aj.new w _ _).alloc _
 have dk:aj W1 (w.heap.size+1) [.int .i64 F,.int .i64 Tp,.int .i64 T,.int .i64 R,.int .i64 B,.int .i64 Rm,.int .i64 ah] 143:=by
  rw [<-d5];have:=aj.new (w.alloc (.cells #[m] 112)) [.int .i64 F,.int .i64 Tp,.int .i64 T,.int .i64 R,.int .i64 B,.int .i64 Rm,.int .i64 ah] 143;rwa [World.size_alloc] at this
 have cx:=P.frame bo (fun h=>h) (fun h=>h);have cy:=ak hT bo (fun h=>h);have c0:=ad.keep hi bo;have nv:=ae (ks cx);have no:=ae (lM c0.choose_spec.1 hc);have n2:=ae (fun w1 (hf:Fr (fun _=>False) W1 w1)=>oJ (d-1) (ad.keep c0 hf) (cx.frame hf (fun h=>h) (fun h=>h)) (ak cy hf (fun h=>h)) b1 F Tp T R B Rm ah hc hG hO cp);unfold cP at no n2 ⊢;rw [List.length_map] at nv;have sl:Hid ((Tryz.prog.info? 143).map (·.size)=some 7):=by show _=_;kernel_rfl
 have A6:¬(rs.length:Int)=0:=by omega
 have k0:=dk.cell 0 rfl;have k1:=dk.cell 1 rfl;have k2:=dk.cell 2 rfl;have k3:=dk.cell 3 rfl;have k4:=dk.cell 4 rfl;have k5:=dk.cell 5 rfl;have k6:=dk.cell 6 rfl;have j0:=pt.cell 0 rfl;have HA:=ae (af hi (af P (af hT (af b1 (af bj (af cn (af hc (af hl (af a5 (af b4 (af ck (af ad (af bs (af bk (af hG (af am (af bo (af hO (af cp (af ax dm))))))))))))))))))));have HB:=ae (af c2 (af ds (af c8 (af c9 (af d4 (af ej (af dx (af d0 (af em (af cx (af cy c0)))))))))));have nf:=ae (af pt dk);have A0:F<=524288∧Tp<=524288∧T<=524288∧R<=524288∧T<=R:=by have:=hc.F2;have:=hc.F3;have:=hc.T2;have:=hc.T3;omega
 clear hi P hT b1 bj cn hc hl a5 b4 ck ad bs bk hG am bo hO cp ax dm c2 ds c8 c9 Az Ax zs AA d4 ej dx d0 em cx cy c0 pt dk;gi_wp2;clear d5;refine bx ((nv.out).mono ?_);rintro e w' ⟨rfl,rfl⟩;clear nv;gi_wp2;refine bx ((no.out).mono ?_);rintro e w1 ⟨rfl,hU⟩;have sg:=ae (n2.out w1 hU);have b7:=ae (af (nf.out.1.frame hU (fun h=>h)) (nf.out.2.frame hU (fun h=>h)));have j0:=b7.out.1.cell 0 rfl;have k0:=b7.out.2.cell 0 rfl;have k1:=b7.out.2.cell 1 rfl;have k2:=b7.out.2.cell 2 rfl;have k3:=b7.out.2.cell 3 rfl;have k4:=b7.out.2.cell 4 rfl;have k5:=b7.out.2.cell 5 rfl;have k6:=b7.out.2.cell 6 rfl;have ev:=ae hU;clear no n2 hU;gi_wp2;refine ⟨trivial,(fun h=>by cases h),(sg.out).mono ?_⟩;rintro e w2 ⟨EL,E,S2,rfl,p1,p2,p3,p5,p6,p7,p8,p9⟩;obtain ⟨hi,P,hT,b1,bj,cn,hc,hl,a5,b4,ck,ad,bs,bk,hG,am,bo,hO,cp,ax,dm⟩:=HA.out;obtain ⟨c2,ds,c8,c9,d4,ej,dx,d0,em,cx,cy,c0⟩:=HB.out;have fi:=ev.out.size;have fj:=p9.size;have g0:¬S w.heap.size∧¬S (w.heap.size+1):=⟨fun h=>by have:=bs _ h;omega,fun h=>by have:=bs _ h;omega⟩;have cc:=b7.out.1.frame p9 g0.1;have a7:=b7.out.2.frame p9 g0.2;have c7:=ak (ak cy ev.out (fun h=>h)) p9 b1;have ei:=(cx.frame ev.out (fun h=>h) (fun h=>h)).frame p9 bj.1 bj.2;have r7:=ae (xT p5 c7 hc.B0 hc.B1 hc.B2 T (by omega));have k2:=a7.cell 2 rfl;have k4:=a7.cell 4 rfl;have cf:=cG.ext hl bk p6 p7;have HP:=ae (af p1 (af p2 (af p3 (af p5 (af p6 (af p7 (af p8 (af p9 (af fi (af fj (af cc (af a7 (af c7 (af ei cf))))))))))))));have AN:B<=1024∧1<=B:=by have:=hc.B1;have:=hc.B2;omega
 clear p1 p2 p3 p5 p6 p7 p8 p9 hi P hT b1 bj cn hc hl a5 b4 ck ad bs bk hG am bo hO cp ax dm c2 ds c8 c9 d4 ej dx d0 em cx cy c0 fi fj g0 cc a7 c7 ei cf sg j0 k0 k1 k3 k5 k6;gi_wp2;refine bx ((r7.out).mono ?_);rintro e w3 ⟨pl,rfl,q1,q2⟩;have av:=HP.out.2.2.2.2.2.2.2.2.2.2.2.1.frame q2 (fun h=>h);have cd:=HP.out.2.2.2.2.2.2.2.2.2.2.1.frame q2 (fun h=>h);obtain ⟨N,hN⟩:∃N,N=cnt (ai E) 0 W:=⟨_,rfl⟩;have rm:=ae (dH (q1.keep ((Fr.refl _ w3).drew)));have ob:=ae (fun p (hp:cJ w2.heap.size w3.heap.size w3.drew p W B E T)=>jQ hp);rw [<-hN] at ob;have k2:=av.cell 2 rfl;have k3:=av.cell 3 rfl;have A1:N<=R-T:=by
  obtain ⟨p1,p2,p3,p5,p6,p7,p8,p9,fi,fj,cc,a7,c7,ei,cf⟩:=HP.out;obtain ⟨hi,P,hT,b1,bj,cn,hc,hl,a5,b4,ck,ad,bs,bk,hG,am,bo,hO,cp,ax,dm⟩:=HA.out;have h4:cnt (ai E) 0 W<=Tp-F:=by
   rw [ay (ai E) (Nat.zero_le F) (Nat.le_trans hc.F2 hc.F3),ay (ai E) hc.F2 hc.F3,aE (a:=0) (b:=F) (fun i _ hi=>by
    rw [Bool.eq_false_iff];intro hl;obtain ⟨s,s1,s2⟩:=aQ.1 hl;have h6:=p7 s (by omega);have:=cp s (by omega);omega),aE (a:=Tp) (b:=W) (fun i hi _=>by
    rw [Bool.eq_false_iff];intro hl;obtain ⟨s,s1,s2⟩:=aQ.1 hl;have h6:=p7 s (by omega);have:=hG.top s (by omega);omega),Nat.zero_add,Nat.add_zero]
   exact be _ _ _
  omega
 have AD:IntKind.i64.wrap ((R:Int)-(T:Int))=(R:Int)-(T:Int):=by rw [IntKind.wrap_i64];omega
 have d1:decide ((R:Int)-(T:Int)<(N:Int))=false:=by rw [decide_eq_false_iff_not];omega
 have HQ:=ae (af q1 (af q2 (af cd (af av hN))));clear q1 q2 av cd hN r7 k4;gi_wp2;refine wpIn_wide.2 ?_;refine bU 9 (fun a b=>b=a) [.c (.pointer (some ⟨pl,0,none⟩)),.p (fun v w'=>∃p,v= .pointer (some ⟨p,0,none⟩)∧cJ w2.heap.size w3.heap.size w' p W B E T),.c (.int .i64 N),.c (.pointer (some ⟨w.heap.size+1,3,none⟩)),.c (.int .i64 R),.c (.pointer (some ⟨w.heap.size+1,2,none⟩)),.c (.int .i64 T),.c (.int .i64 ((R:Int)-(T:Int))),.c (.bool false)] (fun j=>false) (by kernel_rfl) (by kernel_rfl) (by kernel_rfl) (by kernel_rfl) rfl (fun _=>rfl) (fun _ _ _ H C=>C.trans H) (fun _ _ h=>by rw [h];exact Nat.le_refl _) ⟨fun v w1 w2 h P=>by subst P;exact h,trivial⟩ ?_;intro F hF;simp only [cU,PK.val,List.take_succ_cons,List.take_zero,aa,ab,ac] at hF;subst hF;refine ⟨by
  refine ⟨?_,?_,?_,?_,?_,?_,?_,?_,?_,trivial⟩<;>intro vs w1 U ap hd hx
  all_goals try (apply oV;rotate_left;rfl;exact rfl;go_simp;done)
  all_goals try (apply oV;rotate_left;rfl;exact rfl;subst U;go_simp;done)
  ·subst U;refine ar 191 #[pl] (by go_simp) ((rm.out).mono ?_);rintro e w4 ⟨⟨p,rfl,hq⟩,rfl⟩;exact ⟨_,rfl,⟨p,rfl,hq⟩,rfl,fun h=>nomatch h⟩
  ·have H:=hd 1 (by kernel_rfl);obtain ⟨p,C,hq⟩:=H;subst U;refine ar 192 #[p] (by go_simp) ((ob.out p hq).mono ?_);rintro e w4 ⟨rfl,rfl⟩;exact ⟨_,rfl,rfl,rfl,fun h=>nomatch h⟩
  ,fun vs w1 U hp hx=> ?_⟩
 obtain ⟨g1,_⟩:=hp;clear hx rm ob;obtain ⟨p1,g1,_⟩:=g1;subst U;simp only [List.drop_succ_cons,List.drop_zero];go_wp2;obtain ⟨W4,kn⟩:∃W4,w3.drew=W4:=⟨_,rfl⟩;have a6:Fr (fun _=>False) w3 W4:=by rw [<-kn];exact (Fr.refl _ w3).drew
 have g5:W4.heap.size=w3.heap.size:=by rw [<-kn];rfl
 rw [kn];clear kn k2 k3;obtain ⟨nb,dr⟩:∃nb,nb=iv N B:=⟨_,rfl⟩;have AP:nb<=1048576:=by
  rw [dr];unfold iv;exact Nat.le_trans (Nat.div_le_self _ _) (by omega)
 have i7:=ae (fun w' (hf:Fr (fun _=>False) W4.drew w')=>af (HQ.out.2.2.1.frame (a6.trans (((Fr.refl (fun _=>False) W4).drew).trans hf (fun _ h=>h.elim)) (fun _ h=>h.elim)) (fun h=>h)) (HQ.out.2.2.2.1.frame (a6.trans (((Fr.refl (fun _=>False) W4).drew).trans hf (fun _ h=>h.elim)) (fun _ h=>h.elim)) (fun h=>h)));have i9:=ae (fun w' (hf:Fr (fun _=>False) W4.drew w')=>jk (HQ.out.1.keep (a6.trans (((Fr.refl (fun _=>False) W4).drew).trans hf (fun _ h=>h.elim)) (fun _ h=>h.elim))));rw [<-HQ.out.2.2.2.2,<-dr] at i9;have r0:=ae (fun w'=>qb nb (by omega) (nb:Int) rfl w');have Ba:∀(t:TypeId) (w:World),(Instr.makeMap t none).run Tryz.prog w= .ok (.map (some w.heap.size)) (w.alloc (.map #[] 0)):=fun _ _=>rfl
 have nr:=ae (af a6 (af g5 dr));clear a6 g5 dr AD d1;gi_wp2;refine wpIn_wide.2 ?_;refine bU 14 (fun a b=>Fr (fun _=>False) a b) [.c (.pointer (some ⟨m,0,none⟩)),.c (.agg #[.int .i64 F,.int .i64 Tp,.int .i64 T,.int .i64 R,.int .i64 B,.int .i64 Rm,.int .i64 ah]),.c (.pointer (some ⟨pl,0,none⟩)),.c (.pointer (some ⟨EL.m,0,none⟩)),.c (.pointer (some ⟨pl,0,none⟩)),.c (.int .i64 nb),.p (fun v w'=>∃mv,v= .slice (some ⟨mv,0,none⟩) nb nb∧aj w' mv (pj (List.replicate nb false)) 4∧W4.heap.size<=mv),.c (.pointer (some ⟨pl,0,none⟩)),.c (.int .i64 nb),.p (fun v w'=>∃wb,v= .map (some wb)∧cI w' wb 0 (fun _=>none)∧W4.heap.size<=wb),.p (fun v w'=>∃sb,v= .map (some sb)∧cV w' sb 0 (fun _=>none)∧W4.heap.size<=sb),.p (fun v w'=>∃mv wb sb,v= .agg #[.pointer (some ⟨m,0,none⟩),.int .i64 F,.int .i64 Tp,.int .i64 T,.int .i64 R,.int .i64 B,.int .i64 Rm,.int .i64 ah,.pointer (some ⟨pl,0,none⟩),.pointer (some ⟨EL.m,0,none⟩),.slice (some ⟨mv,0,none⟩) nb nb,.int .i64 nb,.int .i64 0,.int .i64 0,.map (some wb),.map (some sb)]∧aj w' mv (pj (List.replicate nb false)) 4∧cI w' wb 0 (fun _=>none)∧cV w' sb 0 (fun _=>none)∧mv≠wb∧mv≠sb∧wb≠sb∧W4.heap.size<=mv∧W4.heap.size<=wb∧W4.heap.size<=sb),.p (fun v w'=>∃y mv wb sb,v= .pointer (some ⟨y,0,none⟩)∧aj w' y [.pointer (some ⟨m,0,none⟩),.int .i64 F,.int .i64 Tp,.int .i64 T,.int .i64 R,.int .i64 B,.int .i64 Rm,.int .i64 ah,.pointer (some ⟨pl,0,none⟩),.pointer (some ⟨EL.m,0,none⟩),.slice (some ⟨mv,0,none⟩) nb nb,.int .i64 nb,.int .i64 0,.int .i64 0,.map (some wb),.map (some sb)] 210∧(aj w' mv (pj (List.replicate nb false)) 4∧cI w' wb 0 (fun _=>none)∧cV w' sb 0 (fun _=>none)∧mv≠wb∧mv≠sb∧wb≠sb∧W4.heap.size<=mv∧W4.heap.size<=wb∧W4.heap.size<=sb)∧W4.heap.size<=y∧y≠mv∧y≠wb∧y≠sb),.p (fun v w'=>∃J,v= .pointer (some ⟨J,0,none⟩)∧aj w' J [.pointer none] 115∧W4.heap.size<=J)] (fun j=>([6,9,10,12,13]).contains j) (by kernel_rfl) (by kernel_rfl) (by kernel_rfl) (by kernel_rfl) rfl (fun _=>Fr.refl _ _) (fun _ _ _ H C=>H.trans C (fun _ h=>h.elim)) (fun _ _ h=>h.size) ⟨fun v w1 w2 h P=>let ⟨mv,e,hb,hn⟩:=h;⟨mv,e,hb.frame P (fun h=>h),hn⟩,fun v w1 w2 h P=>let ⟨mv,e,hb,hn⟩:=h;⟨mv,e,hb.frame P (fun h=>h),hn⟩,fun v w1 w2 h P=>let ⟨mv,e,hb,hn⟩:=h;⟨mv,e,hb.frame P (fun h=>h),hn⟩,fun v w1 w2 h P=>let ⟨mv,wb,sb,e,f1,f2,f3,f4⟩:=h;⟨mv,wb,sb,e,f1.frame P (fun h=>h),f2.frame P (fun h=>h),f3.frame P (fun h=>h),f4⟩,fun v w1 w2 h P=>let ⟨y,mv,wb,sb,e,f0,⟨f1,f2,f3,f4⟩,f5⟩:=h;⟨y,mv,wb,sb,e,f0.frame P (fun h=>h),⟨f1.frame P (fun h=>h),f2.frame P (fun h=>h),f3.frame P (fun h=>h),f4⟩,f5⟩,fun v w1 w2 h P=>let ⟨mv,e,hb,hn⟩:=h;⟨mv,e,hb.frame P (fun h=>h),hn⟩,trivial⟩ ?_;intro F hF;simp only [cU,PK.val,List.take_succ_cons,List.take_zero,aa,ab,ac] at hF;subst hF;refine ⟨by
  refine ⟨?_,?_,?_,?_,?_,?_,?_,?_,?_,?_,?_,?_,?_,?_,trivial⟩<;>intro vs w1 U ap hd hx
  all_goals try (apply oV;rotate_left;rfl;exact Fr.refl _ _;go_simp;done)
  all_goals try (apply oV;rotate_left;rfl;exact Fr.refl _ _;obtain ⟨k1,k2⟩:=i7.out w1 U;have k3:=k1.cell 0 rfl;go_simp;done)
  ·obtain ⟨k1,k2⟩:=i7.out w1 U;refine ao (.agg #[.int .i64 F,.int .i64 Tp,.int .i64 T,.int .i64 R,.int .i64 B,.int .i64 Rm,.int .i64 ah]) ?_ ⟨rfl,Fr.refl _ _,fun h=>nomatch h⟩;exact dI rfl (w.heap.size+1) rfl 143 _ (0,0) _ k2 Tryz.underlying143 rfl sl.out
  ·refine ar 193 #[pl] (by go_simp) ((i9.out w1 U).mono ?_);rintro e w4 ⟨rfl,a6⟩;exact ⟨_,rfl,rfl,a6,fun h=>nomatch h⟩
  ·refine ao (.slice (some ⟨w1.heap.size,0,none⟩) nb nb) (w':=w1.alloc (.cells (pj (List.replicate nb false)).toArray 4)) ?_ ⟨⟨_,rfl,aj.new w1 _ _,U.size⟩,(Fr.refl _ w1).alloc _,fun _=>⟨_,rfl,Nat.le_refl _,by rw [World.size_alloc];exact Nat.lt_succ_self _⟩⟩;have Bb:=r0.out w1;go_simp
  ·refine ar 193 #[pl] (by go_simp) ((i9.out w1 U).mono ?_);rintro e w4 ⟨rfl,a6⟩;exact ⟨_,rfl,rfl,a6,fun h=>nomatch h⟩
  ·refine ao (.map (some w1.heap.size)) (w':=w1.alloc (.map #[] 0)) ?_ ⟨⟨_,rfl,lq w1,U.size⟩,(Fr.refl _ w1).alloc _,fun _=>⟨_,rfl,Nat.le_refl _,by rw [World.size_alloc];exact Nat.lt_succ_self _⟩⟩;go_simp
  ·refine ao (.map (some w1.heap.size)) (w':=w1.alloc (.map #[] 0)) ?_ ⟨⟨_,rfl,sE w1,U.size⟩,(Fr.refl _ w1).alloc _,fun _=>⟨_,rfl,Nat.le_refl _,by rw [World.size_alloc];exact Nat.lt_succ_self _⟩⟩;go_simp
  ·have h6:=hd 6 (by kernel_rfl);have h9:=hd 9 (by kernel_rfl);have xs:=hd 10 (by kernel_rfl);obtain ⟨mv,e6,b6,n6⟩:=h6;obtain ⟨wb,e9,b9,n9⟩:=h9;obtain ⟨sb,sv,w7,AL⟩:=xs;have x1:=hx 6 9 rfl rfl (by kernel_rfl) (by kernel_rfl) (by omega);have x2:=hx 6 10 rfl rfl (by kernel_rfl) (by kernel_rfl) (by omega);have x3:=hx 9 10 rfl rfl (by kernel_rfl) (by kernel_rfl) (by omega);rw [e6,e9] at x1;rw [e6,sv] at x2;rw [e9,sv] at x3;refine ao (.agg #[m,.int .i64 F,.int .i64 Tp,.int .i64 T,.int .i64 R,.int .i64 B,.int .i64 Rm,.int .i64 ah,.pointer (some ⟨pl,0,none⟩),.pointer (some ⟨EL.m,0,none⟩),.slice (some ⟨mv,0,none⟩) nb nb,.int .i64 nb,.int .i64 0,.int .i64 0,.map (some wb),.map (some sb)]) ?_ ⟨⟨mv,wb,sb,rfl,b6,b9,w7,fun e=>x1 (congrArg some e),fun e=>x2 (congrArg some e),fun e=>x3 (congrArg some e),n6,n9,AL⟩,Fr.refl _ _,fun h=>nomatch h⟩;go_simp
  ·have x0:=hd 11 (by kernel_rfl);obtain ⟨mv,wb,sb,AV,f1,f2,f3,f4,f5,f6,f7,f8,f9⟩:=x0;have l1:=f1.lt;have l2:=f2.lt;have l3:=f3.lt;have k8:Fr (fun _=>False) w1 (w1.alloc (.cells #[.pointer (some ⟨m,0,none⟩),.int .i64 F,.int .i64 Tp,.int .i64 T,.int .i64 R,.int .i64 B,.int .i64 Rm,.int .i64 ah,.pointer (some ⟨pl,0,none⟩),.pointer (some ⟨EL.m,0,none⟩),.slice (some ⟨mv,0,none⟩) nb nb,.int .i64 nb,.int .i64 0,.int .i64 0,.map (some wb),.map (some sb)] 210)):=(Fr.refl _ w1).alloc _;refine ao (.pointer (some ⟨w1.heap.size,0,none⟩)) (w':=w1.alloc (.cells #[.pointer (some ⟨m,0,none⟩),.int .i64 F,.int .i64 Tp,.int .i64 T,.int .i64 R,.int .i64 B,.int .i64 Rm,.int .i64 ah,.pointer (some ⟨pl,0,none⟩),.pointer (some ⟨EL.m,0,none⟩),.slice (some ⟨mv,0,none⟩) nb nb,.int .i64 nb,.int .i64 0,.int .i64 0,.map (some wb),.map (some sb)] 210)) ?_ ⟨⟨_,mv,wb,sb,rfl,aj.new w1 _ _,⟨f1.frame k8 (fun h=>h),f2.frame k8 (fun h=>h),f3.frame k8 (fun h=>h),f4,f5,f6,f7,f8,f9⟩,U.size,by omega,by omega,by omega⟩,k8,fun _=>⟨_,rfl,Nat.le_refl _,by rw [World.size_alloc];exact Nat.lt_succ_self _⟩⟩;go_simp
  ·refine ao (.pointer (some ⟨w1.heap.size,0,none⟩)) (w':=w1.alloc (.cells #[.pointer none] 115)) ?_ ⟨⟨_,rfl,aj.new w1 _ _,U.size⟩,(Fr.refl _ w1).alloc _,fun _=>⟨_,rfl,Nat.le_refl _,by rw [World.size_alloc];exact Nat.lt_succ_self _⟩⟩;go_simp
  ,fun vs w1 U hp hx=> ?_⟩
 obtain ⟨g6,g9,kd,w8,hH,xb,_⟩:=hp;obtain ⟨y,mv,wb,sb,oj,z1,⟨z2,z3,z4,z5,z6,z7,z8,z9,g7⟩,g8,fl,fs,fv⟩:=hH;obtain ⟨J,op,bd,hh⟩:=xb;have x1:=hx 12 13 rfl rfl (by omega) (by omega) (by omega);rw [oj,op] at x1;simp only [oj,op];clear g6 g9 kd w8 hx oj op;simp only [List.drop_succ_cons,List.drop_zero];have st:=bd.cell 0 rfl;have su:=bd.free 0;have ne:=ae (af z1 (af z2 (af z3 (af z4 (af z5 (af z6 (af z7 (af z8 (af z9 (af g7 (af g8 (af fl (af fs (af fv (af bd (af hh (af x1 (af U (i7.out w1 U)))))))))))))))))));have rb:=ae (dN EL.m);clear z1 z2 z3 z4 z5 z6 z7 z8 z9 g7 g8 fl fs fv bd hh x1 U i7 i9 r0 sl;go_wp2;obtain ⟨W5,fB⟩:∃W5,w1.setCell ⟨J,0,none⟩ (.pointer (some ⟨y,0,none⟩))=W5:=⟨_,rfl⟩;rw [fB];clear st su;obtain ⟨p1,p2,p3,p5,p6,p7,p8,p9,fi,fj,cc,a7,c7,ei,cf⟩:=HP.out;obtain ⟨q1,q2,cd,av,hN⟩:=HQ.out;obtain ⟨a6,g5,dr⟩:=nr.out;obtain ⟨z1,z2,z3,z4,z5,z6,z7,z8,z9,g7,g8,fl,fs,fv,bd,hh,x1,ap,q7,q8⟩:=ne.out;obtain ⟨hi,P,hT,b1,bj,cn,hc,hl,a5,b4,ck,ad,bs,bk,hG,am,bo,hO,cp,ax,dm⟩:=HA.out;obtain ⟨c2,ds,c8,c9,d4,ej,dx,d0,em,cx,cy,c0⟩:=HB.out;have rc:=ae (rb.out W5);clear rb;gi_wp2;refine bx ((rc.out).mono ?_);rintro e W7 ⟨rfl,kq⟩;clear rc;have hW:Fr (fun _=>False) W5 W7:=by rw [kq];exact (Fr.refl _ W5).alloc _
 have v7:aj W7 W5.heap.size [.pointer (some ⟨EL.m,0,none⟩)] 132:=by rw [kq];exact aj.new W5 _ _
 have lo:W7.heap.size=W5.heap.size+1:=by rw [kq];exact Array.size_push _
 clear kq;have hS:Fr (fun k=>k=J) w1 W5:=by rw [<-fB];exact (Fr.refl (fun k=>k=J) w1).setCell ⟨J,0,none⟩ (.inl rfl) _
 have AF:=hS.size;have pv:=bd.lt;have ge:=ap.size;have we:W4.heap.size<=w1.heap.size:=ge;have a0:Fr (fun k=>k=J) w1 W7:=hS.trans hW (fun _ h=>h.elim);have a9:Fr (fun _=>False) w3 W7:=((a6.trans ((Fr.refl (fun _=>False) W4).drew) (fun _ h=>h.elim)).trans ap (fun _ h=>h.elim)).trans a0 (fun k O=> .inr (by omega));have a8:Fr (fun _=>False) w2 W7:=q2.trans a9 (fun _ h=>h.elim);have i6:=q2.size;have v8:y≠J:=fun e=>x1 (by rw [e])
 have mw:wb≠J:=fun e=>by
  obtain ⟨D,⟨es,oi,hb,_⟩,_⟩:=z3;rw [e] at hb;have ey:w1.heap[J]? =some (.cells #[.pointer none] 115 (0,0)):=bd;rw [hb] at ey
  cases ey
 have mt:sb≠J:=fun e=>by
  obtain ⟨D,⟨es,oi,hb,_⟩,_⟩:=z4;rw [e] at hb;have ey:w1.heap[J]? =some (.cells #[.pointer none] 115 (0,0)):=bd;rw [hb] at ey
  cases ey
 have md:mv≠J:=fun e=>by
  have hb:w1.heap[mv]? =some (.cells (pj (List.replicate nb false)).toArray 4 (0,0)):=z2;have ey:w1.heap[J]? =some (.cells #[.pointer none] 115 (0,0)):=bd;rw [e,ey] at hb;simp at hb
 obtain ⟨c,d6⟩:∃c:Cy,c=⟨y,m,F,Tp,T,R,B,Rm,ah,pl,EL,mv,nb,wb,sb,w2.heap.size,w3.heap.size⟩:=⟨_,rfl⟩;obtain ⟨x,fh⟩:∃x:zn,x=⟨w.heap.size,w.heap.size+1,J,W5.heap.size,b,g⟩:=⟨_,rfl⟩;obtain ⟨hp,hf,hg,g4⟩:=hl.heads;have Y:=(aF m Pg W Fs Us Hg mp).lt _ _ _ p1;have tp:∀k,S2 k->S k∨w1.heap.size<=k∨(W1.heap.size<=k∧k<w2.heap.size):=fun k O=>(p2 k O).imp id (fun h=> .inr ⟨by omega,Y k O⟩)
 have hM:=p5.lt;have v6:=p5.small.2;have s0:ym c x W E (rs.map φ) W7:=by
  rw [d6,fh];refine ⟨⟨p5.frame a8 (fun _ _ h=>h),ak c7 a8 (fun h=>h),v7⟩,cd.frame a9 (fun h=>h),av.frame a9 (fun h=>h),?_,?_,z2.frame a0 md,q1.keep a9,ei.frame a8 (fun h=>h) (fun h=>h)⟩
  ·have:=bd.set 0 (.pointer (some ⟨y,0,none⟩));rw [fB] at this;exact aj.frame this hW (fun h=>h)
  ·exact aj.frame z1 a0 v8
 have kk:∀k,qK c x k->k<W7.heap.size∧¬S2 k∧k≠wb∧k≠sb:=by
  rw [d6,fh];have h8:∀k,k<w.heap.size+2->¬S k->¬S2 k:=fun k H C h3=>by
   rcases p2 k h3 with h4|h4
   ·exact C h4
   ·omega
  have g0:¬S w.heap.size∧¬S (w.heap.size+1):=⟨fun h=>by have:=bs _ h;omega,fun h=>by have:=bs _ h;omega⟩;have A9:=z2.lt;have Bj:=z1.lt;rintro k (h|h|h|h|h|h|h|h|h|h|h)
  ·have:=hM k h;exact ⟨by omega,fun C=>p3 k C h,by omega,by omega⟩
  all_goals (try dsimp only at h)
  ·have h3:=z3.lt;have h4:=z4.lt;exact ⟨by omega,fun C=>by have:=Y k C;omega,by omega,by omega⟩
  ·exact ⟨by omega,by rw [h];exact h8 _ (by omega) g0.1,by omega,by omega⟩
  ·exact ⟨by omega,by rw [h];exact h8 _ (by omega) g0.2,by omega,by omega⟩
  ·exact ⟨by omega,fun C=>by have:=Y k C;omega,by omega,by omega⟩
  ·exact ⟨by omega,fun C=>by have:=Y k C;omega,by omega,by omega⟩
  ·exact ⟨by omega,fun C=>by have:=Y k C;omega,by omega,by omega⟩
  ·exact ⟨by omega,fun C=>by have:=Y k C;omega,by omega,by omega⟩
  ·exact ⟨by omega,by rw [h];exact h8 _ (by omega) bj.1,by omega,by omega⟩
  ·exact ⟨by omega,by rw [h];exact h8 _ (by omega) bj.2,by omega,by omega⟩
  ·exact ⟨by omega,by rw [h];exact h8 _ (by omega) b1,by omega,by omega⟩
 have tc:kU m Pg W Fs Us Hg mp L E hp hf hg c (vn E W 0) [] (fun k=>S2 k∨k=wb∨k=sb) W7:=by
  have H:kU m Pg W Fs Us Hg mp L E hp hf hg c 0 [] (fun k=>S2 k∨k=wb∨k=sb) W7:=by
   rw [d6];exact ⟨S2,fun _=>none,0,0,fun _=>none,fun k=>Iff.rfl,fun h=>by have C:wb<w2.heap.size:=Y _ h;omega,fun h=>by have C:sb<w2.heap.size:=Y _ h;omega,z7,(aF m Pg W Fs Us Hg mp).keep p1 a8,z3.frame a0 mw,fun q=>vG.symm,Nat.zero_le _,z4.frame a0 mt,Nat.zero_le _,fun x hx=>absurd hx List.not_mem_nil⟩
  exact H.skip (Nat.zero_le _) (rz p5.apart p5.top (fun j x h=>absurd h (Nat.not_lt_zero j)))
 have pc:yH m Pg W Fs Us Hg mp L E hp hf hg c x (rs.map φ) [] (fun k=>S2 k∨k=wb∨k=sb) W7:=⟨fun k O hb=>by
  obtain ⟨_,C,h3,h4⟩:=kk k hb;rcases O with h|h|h
  ·exact C h
  ·exact h3 h
  ·exact h4 h,s0,tc⟩
 have fa:cE W7.heap.size (yH m Pg W Fs Us Hg mp L E hp hf hg c x (rs.map φ)):=yH.stays (fun k O=>(kk k O).1);have pp:∀k,(S2 k∨k=wb∨k=sb)->k<W7.heap.size:=fun k O=>by
  have h3:=z3.lt;have h4:=z4.lt;rcases O with h|h|h
  ·have:=Y k h;omega
  ·omega
  ·omega
 have hL:∀a,E a≠0->∃z,Reach A.gr rs z∧φ z=a∧E a=A.sz z:=fun a ha=>by
  obtain ⟨z,H,C⟩:=cf.some a ha;exact ⟨z,H,C,by rw [<-C];exact cf.size z H⟩
 have r6:=ae (fun (s n:Nat) (I:List (Nat×Nat)) (hx:(aP E W)[I.length]? =some (s,n))=>(show dw L s (hp s) (hf s) (hg s)∧1<=s∧aY W Pg mp s∧s+n<=524288∧n=E s∧(∀i,i<n->ai E (s+i)=true)∧vn E W I.length=s∧(∀i,s+n<=i->i<vn E W (I.length+1)->ai E i=false)∧s+n<=vn E W (I.length+1) from by
  obtain ⟨m1,m2,m3⟩:=bi.1 (List.mem_of_getElem? hx);dsimp only at m1 m2 m3;obtain ⟨z,H,C,h3⟩:=hL s m2;have h4:=hl.lies z H;have h5:=g4 z H;have Bh:1<=A.sz z:=by unfold AG.sz;omega
  rw [C] at h4 h5;have ps:=p5.apart;refine ⟨by rw [h5.1,h5.2.1,h5.2.2,<-C];exact hl.head z H,by have:=hl.one;omega,am s h4.1 (by omega),by omega,m3,fun i hi=>ic (by omega),vo hx,rz ps p5.top (fun j x hj AE=>vp ps hx j x hj AE),?_⟩;unfold vn
  cases hn:(aP E W)[I.length+1]? with
  |none=>
   have:=p5.top s m2;dsimp only;omega
  |some y=>
   have h6:=mA hn hx (Nat.lt_succ_self _);obtain ⟨_,y2,_⟩:=bi.1 (List.mem_of_getElem? hn);have:=ps s y.1 h6 m2 y2;dsimp only;omega))
 have l0:=ae (fun (s n:Nat) (I:List (Nat×Nat)) (ct:I=(aP E W).take I.length) (hx:(aP E W)[I.length]? =some (s,n))=>(show∀x∈I,x.1<s from fun x hm=>by rw [ct] at hm;exact eP hx hm));have gt:Hid (c.EL=EL∧x.tb=W5.heap.size∧c.m=m∧c.wb=wb∧c.sb=sb∧c.y=y∧x.c3=w.heap.size∧x.c13=J∧x.c5=w.heap.size+1):=ae (by rw [d6,fh];exact ⟨rfl,rfl,rfl,rfl,rfl,rfl,rfl,rfl,rfl⟩);have d3:=ae (fun S1 w1 (hm:bm m Pg W Fs Us Hg mp L S1 w1)=>dJ hm.choose_spec.1);have sk:=ae (fun S1 w1 s (hm:bm m Pg W Fs Us Hg mp L S1 w1) (H:dw L s (hp s) (hf s) (hg s)) (C:1<=s) (h3:aY W Pg mp s)=>fV hm s (hp s) (hf s) (hg s) C h3 H);have fA:=ae kk;have ls:=ae (af a8 (af a9 (af a0 (af d6 (af fh (af g4 (af hL (af Y lo))))))));clear hL c2 a8 a9 a0 d6 fh g4 Y tp hM p1 p2 p3 p5 p6 p7 p8 p9 fi fj cc a7 c7 ei cf q1 q2 cd av hN a6 g5 dr z1 z2 z3 z4 z5 z6 z7 z8 z9 g7 g8 fl fs fv bd hh x1 ap q7 q8 hi P hT b1 bj cn hc hl a5 b4 ck ad bs bk hG am bo hO cp ax dm ds c8 c9 d4 ej dx d0 em cx cy c0 hW v7 lo hS AF pv ge we i6 v8 mw mt md s0 kk tc fB;gi_wp2;refine dv (gf:=220) (lb:= #[W5.heap.size]) rfl (enters_of Tryz.func220 (by kernel_rfl) rfl) (encs:=gm) (fun _=>rfl) (dM (L:=EL) (tb:=W5.heap.size) (E:=E) v6) (fun I S w=>I=(aP E W).take I.length∧yH m Pg W Fs Us Hg mp L E hp hf hg c x (rs.map φ) I S w) (fun k=>S2 k∨k=wb∨k=sb) ?stay ?reads pp ⟨rfl,pc⟩
  ?a1 ?assign ?body ?done
 case stay=>exact fun I S W1 W2 T h hf hT=>⟨h.1,fa I S W1 W2 T h.2 hf hT⟩
 case reads=>
  intro I S W h;have:=h.2.2.1.all;rw [gt.out.1,gt.out.2.1] at this;exact this
 case assign=>
  intro k x W K hK;unfold gm;gi_wp2;exact hK
 case body=>
  intro l I S9 xx W9 hI gb hZ hs;obtain ⟨s,n⟩:=xx;obtain ⟨o1,o2,o3,o4,o5,o6,o7,o8,o9⟩:=r6.out s n I gb;clear o5;have ct:=l0.out s n I hI.1 gb;have qu:=gb;have nd:=hZ.size;obtain ⟨q6,i1,i2,i3⟩:=hI;have cb:=i3.lt;rw [o7] at i3;obtain ⟨Z,fw,nn,ns,f,m1,m2,m3,m4,m5,m6,m7,m8,m9,fk,eq⟩:=i3;obtain ⟨e0,hE,e1,e2,e3,e4,e5,e6,e7⟩:=gt.out;rw [e2] at m2 m6;rw [e3] at m3 m9;have c6:=m9.lt;have gs:=m6.lt;have vt:=(aF m Pg W Fs Us Hg mp).lt _ _ _ m5;have hR:∀k,(Z k∨k=sb)->¬qK c x k:=fun k O=>i1 k ((m1 k).2 (by rw [e2,e3];exact O.elim .inl (fun h=> .inr (.inr h))))
  have gM:∀w',Fr (fun k=>Z k∨k=sb) W9 w'->ym c x W E (rs.map φ) w':=fun w' hf=>i2.frame hf hR
  have HW:=ae (fun w' (hf:Fr (fun k=>Z k∨k=sb∨W9.heap.size<=k) W9.drew w')=>(show w'.cell? ⟨J,0,none⟩=some (.pointer (some ⟨y,0,none⟩))∧w'.cell? ⟨y,15,none⟩=some (.map (some sb))∧w'.cell? ⟨w.heap.size,0,none⟩=some (.pointer (some ⟨m,0,none⟩)) from by
   have h:=gM w' ((((Fr.refl (fun k=>Z k∨k=sb∨W9.heap.size<=k) W9).drew).trans hf (fun _ h=> .inl h)).mono (fun k h=>h.elim (fun h=> .inl (.inl h)) (fun h=>h.elim (fun h=> .inl (.inr h)) .inr)));have H:=h.b13.cell 0 rfl;have C:w'.cell? ⟨c.y,15,none⟩=some (.map (some c.sb)):=aj.cell h.y 15 rfl;have h3:=h.b3.cell 0 rfl;rw [e6,e4] at H;rw [e4,e3] at C;rw [e5,e1] at h3;exact ⟨H,C,h3⟩))
  have i0:¬(Z sb∨W9.heap.size<=sb):=fun h=>h.elim m3 (fun h=>by omega)
  have nT:=ae ((aF m Pg W Fs Us Hg mp).keep m5 ((Fr.refl (fun _=>False) W9).drew));have r8:=ae (fun w1 (U:Fr (fun k=>Z k∨W9.heap.size<=k) W9.drew w1∧∀S1,(∀k,S1 k->Z k∨W9.heap.size<=k)->bm m Pg W Fs Us Hg mp L S1 W9.drew->∃S2,(∀k,S2 k->Z k∨W9.heap.size<=k)∧bm m Pg W Fs Us Hg mp L S2 w1)=>(show∃w',(Instr.mapUpdate 208 (.map (some sb)) (.int .i64 s) (bN ((hp s:Nat):Int) ((hf s:Nat):Int) ((hg s:Nat):Int))).run Tryz.prog w1= .ok () w'∧cV w' sb (ns+1) (dB f s (hp s,hf s,hg s))∧(∃S1,(∀k,S1 k->Z k∨W9.heap.size<=k)∧bm m Pg W Fs Us Hg mp L S1 w')∧Fr (fun k=>Z k∨k=sb∨W9.heap.size<=k) w1 w' from by
   have H:=(m9.frame ((Fr.refl (fun _=>False) W9).drew) (fun h=>h)).frame U.1 i0;have Bd:I.length<=524288:=by
    rw [q6,List.length_take];have:=kf E W;have:=HB.out.2.2.1;omega
   obtain ⟨w',r1,r2,r3⟩:=H.put s (hp s) (hf s) (hg s) (by omega) (by omega);obtain ⟨S2,a1,a2⟩:=U.2 Z (fun _ h=> .inl h) nT.out;refine ⟨w',r1,r2,⟨S2,a1,(aR m Pg W Fs Us Hg mp) _ _ _ _ _ a2 r3 (fun k O e=> ?_)⟩,r3.mono (fun k h=> .inl (.inr (.inl h)))⟩;subst e;rcases a1 _ O with h|h
   ·exact m3 h
   ·omega))
  have rt:=ae (af i1 (af i2 (af m1 (af m2 (af m3 (af m4 (af m6 (af m7 (af m8 (af fk (af eq (af ct (af c6 (af gs (af cb (af hR gM))))))))))))))));clear hZ hs gb cb i1 i2 m1 m2 m4 m5 m6 m7 m8 m9 fk eq e0 hE e1 e2 e3 e4 e5 e6 e7 c6 gs vt hR gM fa pc pp ct;gi_wp2;refine fI 13 12 (fun a b=>Fr (fun k=>Z k∨k=sb∨W9.heap.size<=k) a b) (fun a b=>Fr (fun k=>Z k∨W9.heap.size<=k) a b∧∀S1,(∀k,S1 k->Z k∨W9.heap.size<=k)->bm m Pg W Fs Us Hg mp L S1 a->∃S2,(∀k,S2 k->Z k∨W9.heap.size<=k)∧bm m Pg W Fs Us Hg mp L S2 b) [.c (.pointer (some ⟨y,0,none⟩)),.c (.pointer (some ⟨y,0,none⟩)),.c (.pointer (some ⟨y,15,none⟩)),.c (.map (some sb)),.c (.int .i64 s),.c (.pointer (some ⟨m,0,none⟩)),.c (.iface 112 (.pointer (some ⟨m,0,none⟩))),.c (.int .i64 s),.c (.tuple #[bN ((hp s:Nat):Int) ((hf s:Nat):Int) ((hg s:Nat):Int),.int .i64 0]),.c (.tuple #[bN ((hp s:Nat):Int) ((hf s:Nat):Int) ((hg s:Nat):Int),.int .i64 0]),.c (bN ((hp s:Nat):Int) ((hf s:Nat):Int) ((hg s:Nat):Int)),.c (.int .i64 0),.p (fun _ w'=>cV w' sb (ns+1) (dB f s (hp s,hf s,hg s))∧∃S1,(∀k,S1 k->Z k∨W9.heap.size<=k)∧bm m Pg W Fs Us Hg mp L S1 w')] (fun j=>false) (by kernel_rfl) (by kernel_rfl) (by kernel_rfl) (by kernel_rfl) rfl (fun _=>⟨Fr.refl _ _,fun S1 H C=>⟨S1,H,C⟩⟩) (fun _ _ h=>h.1.mono (fun _ h=> .inl (h.imp id .inr))) (fun _ _ _ H C=>⟨H.1.trans C.1 (fun _ h=> .inl h),fun S1 a b=>let ⟨S2,a2,b2⟩:=H.2 S1 a b;C.2 S2 a2 b2⟩) (fun _ _ _ H C=>H.trans C.1 (fun _ h=> .inl (h.imp id .inr))) (fun _ _ _ H C=>(H.1.mono (fun _ h=> .inl (h.imp id .inr))).trans C (fun _ h=> .inl h)) (fun _ _ h=>h.size) ⟨fun _ w1 w2 h P=>⟨h.1.frame P.1 i0,let ⟨S1,a,b⟩:=h.2;P.2 S1 a b⟩,trivial⟩ ⟨.inl rfl,trivial⟩ ?_;intro F hF;simp only [cU,PK.val,List.take_succ_cons,List.take_zero,aa,ab,ac] at hF;subst hF;refine ⟨by
   refine ⟨?_,?_,?_,?_,?_,?_,?_,?_,?_,?_,?_,?_,?_,trivial⟩<;>intro vs w1 U ap hd hx
   all_goals try (apply oV;rotate_left;rfl;exact ⟨Fr.refl _ _,fun S1 H C=>⟨S1,H,C⟩⟩;go_simp;done)
   all_goals try (apply oV;rotate_left;rfl;exact ⟨Fr.refl _ _,fun S1 H C=>⟨S1,H,C⟩⟩;obtain ⟨t1,t2,t3⟩:=HW.out w1 U;go_simp;done)
   ·obtain ⟨S3,u1,u2⟩:=(ap (by kernel_rfl)).2 Z (fun _ h=> .inl h) nT.out;refine ar 88 #[.iface 112 (.pointer (some ⟨m,0,none⟩)),.int .i64 s] (by go_simp) ((sk.out S3 w1 s u2 o1 o2 o3).mono ?_);rintro e w5 ⟨rfl,S4,v1,v2,v3⟩;have AH:=U.size;exact ⟨_,rfl,rfl,⟨v2.mono (fun k O=> .inl (u1 k O)),fun S1 H C=>⟨S4,fun k O=>(v3 k O).elim (u1 k) (fun h=> .inr (Nat.le_trans AH h)),v1⟩⟩,fun h=>nomatch h⟩
   ·obtain ⟨w5,AR,v1,v2,v3⟩:=r8.out w1 (ap (by kernel_rfl));refine bZ (w':=w5) (by go_simp) ⟨⟨v1,v2⟩,v3,fun h=>nomatch h⟩
   ,fun vs w1 U hp hx=> ?_⟩
  obtain ⟨hH,_⟩:=hp;have hH:=hH;clear hx;obtain ⟨i1,i2,m1,m2,m3,m4,m6,m7,m8,fk,eq,ct,c6,gs,cb,hR,gM⟩:=rt.out;obtain ⟨e0,hE,e1,e2,e3,e4,e5,e6,e7⟩:=gt.out;obtain ⟨y1,S1,y2,y3⟩:=hH;have eg:Fr (fun k=>Z k∨k=sb) W9 w1:=(((Fr.refl (fun k=>Z k∨k=sb∨W9.heap.size<=k) W9).drew).trans U (fun _ h=> .inl h)).mono (fun k h=>h.elim (fun h=> .inl (.inl h)) (fun h=>h.elim (fun h=> .inl (.inr h)) .inr));have l6:kU m Pg W Fs Us Hg mp L E hp hf hg c s (I++[(s,n)]) (fun k=>S1 k∨k=c.wb∨k=c.sb) w1:=by
   rw [<-e3] at y1 eg c6 m3;rw [<-e2] at m2 m6;exact kU.head m2 m3 m4 m6 m7 m8 fk eq ct y2 eg y3 y1 c6
  have l5:=gM w1 eg;have tn:∀k,(S1 k∨k=c.wb∨k=c.sb)->S9 k∨W9.heap.size<=k:=fun k O=>by
   rcases O with h|h
   ·exact (y2 k h).imp (fun h=>(m1 k).2 (.inl h)) id
   ·exact .inl ((m1 k).2 (.inr h))
  have hY:Fr S9 W9 w1:=eg.mono (fun k O=> .inl ((m1 k).2 (by rw [e2,e3];exact O.elim .inl (fun h=> .inr (.inr h)))));have r9:=ae (af l5 (af l6 (af tn hY)));have n3:=ae (af i1 (af cb o8));have AS:IntKind.i64.wrap ((s:Int)+(n:Int))=(s:Int)+(n:Int):=by rw [IntKind.wrap_i64];omega
  have nw:=ae o6;have n0:=ae o9;have n1:=ae q6;have w0:=ae nd;have nt:=ae qu;clear i1 i2 m1 m2 m3 m4 m6 m7 m8 fk eq ct c6 gs cb hR gM e0 hE e1 e2 e3 e4 e5 e6 e7 y1 y2 y3 eg l6 l5 tn hY U o1 o3 o6 o7 o8 o9 HW nT r8 rt i0 q6 nd;gi_wp2
  gi_loopw [16] (fun z wr=>∃(a:Nat) (S1:Nat->Prop),z= .int .i64 a∧s<=a∧a<=s+n∧Hid (ym c x W E (rs.map φ) wr∧kU m Pg W Fs Us Hg mp L E hp hf hg c a (I++[(s,n)]) S1 wr∧(∀k,S1 k->S9 k∨W9.heap.size<=k)∧Fr S9 W9 wr)) (fun z _=>(s+n-intOf z).toNat)
  case atStart=>exact ⟨s,_,rfl,Nat.le_refl _,Nat.le_add_right _ _,r9⟩
  case round=>
   clear r9;obtain ⟨a,S1,rfl,x8,x9,P⟩:=hrel;by_cases u6:a<s+n
   ·have c1:(a:Int)<(s:Int)+(n:Int):=by omega
    obtain ⟨f1,f2,f3,f4⟩:=P.out;obtain ⟨e0,hE,e1,e2,e3,e4,e5,e6,e7⟩:=gt.out;have mk:1<=Pg:=HB.out.1;have u8:ai E a=true:=by
     have:=nw.out (a-s) (by omega);rwa [show s+(a-s)=a by omega] at this
    have os:=f2.frame ((Fr.refl (fun _=>False) wr).drew) (fun _ _ h=>h);obtain ⟨V,A4,e8,wn,le,vv,p4⟩:=os.word u8 (by omega) mk;have zz:wr.cell? ⟨J,0,none⟩=some (.pointer (some ⟨y,0,none⟩)):=by
     have H:=f1.b13.cell 0 rfl;rw [e6,e4] at H;exact H
    have z0:wr.cell? ⟨y,14,none⟩=some (.map (some wb)):=by
     have C:wr.cell? ⟨c.y,14,none⟩=some (.map (some c.wb)):=aj.cell f1.y 14 rfl;rw [e4,e2] at C;exact C
    have Ah:wr.cell? ⟨w.heap.size,0,none⟩=some (.pointer (some ⟨m,0,none⟩)):=by
     have h3:=f1.b3.cell 0 rfl;rw [e5,e1] at h3;exact h3
    rw [e2] at e8 le p4;have kx:(a:Int).tdiv (Pg:Int)=((a/Pg:Nat):Int):=bV _ _;have up:¬Pg=0:=by omega
    have tk:a/Pg<=524288:=Nat.le_trans (Nat.div_le_self _ _) (by omega);have m0:¬qK c x wb:=fun h=>(fA.out wb h).2.2.1 rfl
    have lB:=ae (fun w' (he:w'=wr.drew)=>(show Calls Tryz.prog 148 #[m] w' fun e w5=>e= .returned (.int .i64 Pg)∧w'=w5 from by
     subst he;obtain ⟨Z,_,_,_,_,_,_,_,_,m5,_⟩:=os;exact d3.out Z _ m5))
    have lv:=ae vv;have r5:=ae (fun w' (hZ:Fr (fun k=>k=wb) wr.drew w')=>(show ym c x W E (rs.map φ) w'∧Fr S9 W9 w' from by
     refine ⟨f1.frame (((Fr.refl (fun _=>False) wr).drew.mono (S':=fun k=>k=wb) (fun _ h=>h.elim)).trans hZ (fun _ h=> .inl h)) (fun k O hb=>m0 (O▸hb)),?_⟩;refine (f4.trans ((Fr.refl (fun _=>False) wr).drew) (fun _ h=>h.elim)).trans hZ (fun k O=> ?_);subst O;obtain ⟨Z,_,_,_,_,m1,_⟩:=f2;exact f3 _ ((m1 _).2 (.inr (.inl e2.symm)))))
    have wx:=ae f3;have tw:((V+1:Nat):Int)=(V:Int)+1:=by push_cast;rfl
    rw [tw] at le;have AC:IntKind.i64.wrap ((V:Int)+1)=(V:Int)+1:=by rw [IntKind.wrap_i64];omega
    generalize a/Pg=Q at e8 le kx tk;have AB:IntKind.i64.wrap (Q:Int)=(Q:Int):=by rw [IntKind.wrap_i64];omega
    clear f1 f2 f3 f4 e0 hE e1 e2 e3 e4 e5 e6 e7 u8 os vv m0 P n3 nw n0 n1 nt;gi_wp2;refine fI 11 10 (fun a b=>Fr (fun k=>k=wb) a b) (fun a b=>b=a) [.c (.pointer (some ⟨y,0,none⟩)),.c (.pointer (some ⟨y,0,none⟩)),.c (.pointer (some ⟨y,14,none⟩)),.c (.map (some wb)),.c (.int .i64 a),.c (.pointer (some ⟨m,0,none⟩)),.c (.int .i64 Pg),.c (.int .i64 Q),.c (.int .i64 V),.c (.int .i64 ((V:Int)+1)),.p (fun _ w'=>kU m Pg W Fs Us Hg mp L E hp hf hg c (a+1) (I++[(s,n)]) S1 w')] (fun j=>false) (by kernel_rfl) (by kernel_rfl) (by kernel_rfl) (by kernel_rfl) rfl (fun _=>rfl) (fun _ _ h=>by subst h;exact Fr.refl _ _) (fun _ _ _ H C=>C.trans H) (fun _ _ _ H C=>by subst C;exact H) (fun _ _ _ H C=>by subst H;exact C) (fun _ _ h=>h.size) ⟨fun _ w1 w2 h P=>by subst P;exact h,trivial⟩ ⟨.inl rfl,trivial⟩ ?_;intro F hF;simp only [cU,PK.val,List.take_succ_cons,List.take_zero,aa,ab,ac] at hF;subst hF;refine ⟨by
     refine ⟨?_,?_,?_,?_,?_,?_,?_,?_,?_,?_,?_,trivial⟩<;>intro vs w1 U ap hd hx
     all_goals try (apply oV;rotate_left;rfl;exact rfl;go_simp;done)
     all_goals try (apply oV;rotate_left;rfl;exact rfl;have i5:=ap (by kernel_rfl);subst i5;go_simp;done)
     ·have i5:=ap (by kernel_rfl);refine ar 148 #[m] (by go_simp) ((lB.out w1 i5).mono ?_);rintro e w5 ⟨rfl,rfl⟩;exact ⟨_,rfl,rfl,rfl,fun h=>nomatch h⟩
     ·have i5:=ap (by kernel_rfl);subst i5;refine bZ (w':=wn) (by go_simp) ⟨lv.out,p4,fun h=>nomatch h⟩
     ,fun vs w1 U hp hx=> ?_⟩
    obtain ⟨kd,_⟩:=hp;clear hx;obtain ⟨y1,y2⟩:=r5.out w1 U;have wz:=ae (af y1 (af kd (af wx.out y2)));clear y1 y2 kd U r5 lv lB le p4 e8 zz z0 Ah kx up tk AC AB tw mk;gi_wp2;go_roundw
    case rel=>exact ⟨a+1,S1,by go_num,by omega,by omega,wz⟩
    case measure=>simp [intOf];omega
   ·have c1:¬(a:Int)<(s:Int)+(n:Int):=by omega
    obtain ⟨f1,f2,f3,f4⟩:=P.out;obtain ⟨i1,cb,o8⟩:=n3.out;have t0:a=s+n:=by omega
    have ws:Hid (uh (fun I S w=>I=(aP E W).take I.length∧yH m Pg W Fs Us Hg mp L E hp hf hg c x (rs.map φ) I S w) (I++[(s,n)]) S9 W9 wr):=by
     refine ae ⟨S1,⟨iY n1.out nt.out,fun k O hb=> ?_,f1,?_⟩,f4,f3⟩
     ·rcases f3 k O with h|h
      ·exact i1 k h hb
      ·have:=(fA.out k hb).1;have:=w0.out;omega
     ·rw [List.length_append,List.length_singleton];subst t0;exact f2.skip n0.out o8
    clear f1 f2 f3 f4 i1 cb o8 P n3 nw n0 n1 nt t0 x8 x9;gi_wp2;exact ws.out
 case done=>
  intro D S9 W9 hI hD x4 tr p0 v5;obtain ⟨_,i1,i2,i3⟩:=hI;rw [xI] at i3;obtain ⟨Z,fw,nn,ns,f,m1,m2,m3,m4,m5,m6,m7,m8,m9,fk,eq⟩:=i3;obtain ⟨a8,a9,a0,d6,fh,g4,hL,Y,lo⟩:=ls.out;have lA:=fA.out;clear gt r6 l0 d3 sk fA ls fa pc pp;subst d6;subst fh;dsimp only at m1 m2 m3 m4 m6 m9;obtain ⟨p1,p2,p3,p5,p6,p7,p8,p9,fi,fj,cc,a7,c7,ei,cf⟩:=HP.out;obtain ⟨q1,q2,cd,av,hN⟩:=HQ.out;obtain ⟨a6,g5,dr⟩:=nr.out;obtain ⟨z1,z2,z3,z4,z5,z6,z7,z8,z9,g7,g8,fl,fs,fv,bd,hh,x1,ap,q7,q8⟩:=ne.out;obtain ⟨hi,P,hT,b1,bj,cn,hc,hl,a5,b4,ck,ad,bs,bk,hG,am,bo,hO,cp,ax,dm⟩:=HA.out;obtain ⟨c2,ds,c8,c9,d4,ej,dx,d0,em,cx,cy,c0⟩:=HB.out;have Aw:∀(fn:Fn) (first cap:Array Value) (w:World),(Instr.makeFunc fn first cap).run Tryz.prog w= .ok (.func fn first cap) w:=fun _ _ _ _=>rfl
  have wf:=p0.size;have b0:∀k,Z k->¬qK _ _ k:=fun k O=>i1 k ((m1 k).2 (.inl O))
  have ge:W4.heap.size<=w1.heap.size:=ap.size;have i6:=q2.size;have wd:=a9.size;have wc:=a0.size;have l3:=z3.lt;have l4:=z4.lt;have l2:=z2.lt;have l1:=z1.lt;have lc:=bd.lt;have zb:g<w.heap.size∧b<w.heap.size:=⟨d0,dx⟩;have q0:∀k,qK ⟨y,m,F,Tp,T,R,B,Rm,ah,pl,EL,mv,nb,wb,sb,w2.heap.size,w3.heap.size⟩ ⟨w.heap.size,w.heap.size+1,J,W5.heap.size,b,g⟩ k->k<W7.heap.size:=fun k O=>(lA k O).1
  have sp:=ae (iV 194 #[y] #[] (enters_of Tryz.func194 (by kernel_rfl) rfl) (fun aq w'=>aq=((rs.map φ).take aq.length).map (lD (goes E T) id)∧Fr (fun k=>k=g) W9 w') i2.roots ⟨rfl,Fr.refl _ _⟩
   (fun aq wa AM ⟨j1,j2⟩ hf=>⟨j1,j2.trans hf (fun k h=> .inl h)⟩)
   (fun aq wa ⟨j1,j2⟩ hz=>⟨by
    rw [List.length_append,List.length_singleton,List.take_add_one,hz];rw [List.map_append,<-j1];rfl,j2⟩)
   (fun aq a wa k9 ⟨j1,j2⟩ ha h0=>by
    have vb:=List.mem_of_getElem? ha;obtain ⟨z,hz,rfl⟩:=List.mem_map.1 vb;have wk:Reach A.gr rs z:= .root hz (fun e=>h0 (by rw [e];exact hl.zero));have uu:=hl.live cf wk (i:=0) (by unfold AG.sz;omega);rw [Nat.add_zero] at uu;have A8:=hl.lies z wk;have Bk:1<=A.sz z:=by unfold AG.sz;omega
    refine (rG (aj.frame i2.y j2 (fun e=>by dsimp only at e;omega)) (i2.plan.frame j2 (fun i hi=>by dsimp only;omega)) (by dsimp only;omega) (φ z) uu (by have:=hc.F3;omega)).mono ?_;rintro e AM ⟨rfl,ub⟩;refine ⟨goes E T (φ z),rfl,k9.frame ub (fun h=>h) (fun h=>h),?_,j2.trans ub (fun _ h=>h.elim)⟩;rw [List.length_append,List.length_singleton,List.take_add_one,ha,List.map_append,<-j1];show _=aq++[lD (goes E T) id (φ z)]
    unfold lD;rw [if_neg h0];rfl))
  have ts:¬Z wb∧¬Z sb:=⟨m2,m3⟩;have hQ:∀k,Z k->S2 k∨W7.heap.size<=k:=fun k O=>by
   rcases v5 k ((m1 k).2 (.inl O)) with h|h
   ·rcases h with h|h|h
    ·exact .inl h
    ·exact absurd O (h▸m2)
    ·exact absurd O (h▸m3)
   ·exact .inr h
  have hJ:¬Z D:=fun h=>tr ((m1 D).2 (.inl h))
  have q3:∀(o wr:World) (q:Nat),Fr (fun k=>k=g) W9 o->jo m Pg W Fs mp L (fun r=>decide (gB E Pg W r=0)) (F/Pg) Z o q wr->∀(bb:Nat) (cs:List Value) (t:TypeId),qK ⟨y,m,F,Tp,T,R,B,Rm,ah,pl,EL,mv,nb,wb,sb,w2.heap.size,w3.heap.size⟩ ⟨w.heap.size,w.heap.size+1,J,W5.heap.size,b,g⟩ bb->bb≠g->aj W9 bb cs t->aj wr bb cs t:=by
   rintro o wr q H ⟨_,_,_,_,_,_,C,_⟩ bb cs t h3 h4 h5;exact (h5.frame H h4).frame C (fun h=>b0 bb h h3)
  have ng:Hid (∀(o wr:World) (q:Nat),Fr (fun k=>k=g) W9 o->jo m Pg W Fs mp L (fun r=>decide (gB E Pg W r=0)) (F/Pg) Z o q wr->wr.cell? ⟨J,0,none⟩=some (.pointer (some ⟨y,0,none⟩))∧wr.cell? ⟨y,14,none⟩=some (.map (some wb))∧wr.cell? ⟨w.heap.size,0,none⟩=some (.pointer (some ⟨m,0,none⟩))∧wr.cell? ⟨w.heap.size+1,0,none⟩=some (.int .i64 F)∧wr.cell? ⟨w.heap.size+1,1,none⟩=some (.int .i64 Tp)∧
    (q<4611686018427387904->(Instr.lookup 33 (.map (some wb)) (.int .i64 q) false).run Tryz.prog wr= .ok (.int .i64 ((gB E Pg W q:Nat):Int)) wr)):=by
   show∀(o wr:World) (q:Nat),_
   intro o wr q H C;have hB:=q3 o wr q H C;refine ⟨(hB _ _ _ (.inr (.inr (.inr (.inr (.inl rfl))))) (by dsimp only;omega) i2.b13).cell 0 rfl,(hB _ _ _ (.inr (.inr (.inr (.inr (.inr (.inl rfl)))))) (by dsimp only;omega) i2.y).cell 14 rfl,(hB _ _ _ (.inr (.inr (.inl rfl))) (by dsimp only;omega) i2.b3).cell 0 rfl,(hB _ _ _ (.inr (.inr (.inr (.inl rfl)))) (by dsimp only;omega) i2.b5).cell 0 rfl,(hB _ _ _ (.inr (.inr (.inr (.inl rfl)))) (by dsimp only;omega) i2.b5).cell 1 rfl,fun hq=> ?_⟩;obtain ⟨_,_,_,_,_,_,h3,_⟩:=C;have:=((m6.frame H (by omega)).frame h3 m2).look q hq;rwa [m7] at this
  have np:Hid (∀(o wr:World) (q:Nat),Fr (fun k=>k=g) W9 o->jo m Pg W Fs mp L (fun r=>decide (gB E Pg W r=0)) (F/Pg) Z o q wr->wr.heap[D]? =some (.deferred (some []))):=by
   show∀(o wr:World) (q:Nat),_
   rintro o wr q H ⟨_,_,_,_,_,_,h3,_⟩;exact h3.heap (H.heap hD (fun e=>by omega)) hJ
  have n5:=ae (fun (o:World) (H:Fr (fun k=>k=g) W9 o)=>(show jo m Pg W Fs mp L (fun r=>decide (gB E Pg W r=0)) (F/Pg) Z o (F/Pg) o from jo.start ((aR m Pg W Fs Us Hg mp) _ _ _ _ _ m5 H (fun k O e=>b0 k O (by rw [e];exact .inr (.inr (.inr (.inr (.inr (.inr (.inr (.inr (.inr (.inl rfl))))))))))))));have pb:F=F/Pg*Pg:=by have:=Nat.div_add_mod F Pg;have:=hc.F4;rw [Nat.mul_comm];omega
  have nq:=ae (fun (o wr:World) (q:Nat) (hu:jo m Pg W Fs mp L (fun r=>decide (gB E Pg W r=0)) (F/Pg) Z o q wr) (h0:gB E Pg W q=0) (h:q*Pg<Tp) (hq:F/Pg<=q)=>jo.drop hu (decide_eq_true h0) (by
    rw [b4,decide_eq_true (show F<=q*Pg by rw [pb];exact Nat.mul_le_mul_right Pg hq),decide_eq_true h];rfl) (by
    have C:W=W/Pg*Pg:=by have:=Nat.div_add_mod W Pg;rw [Nat.mul_comm];omega
    have h3:q*Pg<W/Pg*Pg:=by have:=hc.F3;omega
    exact Nat.lt_of_mul_lt_mul_right h3) hq)
  have n4:=ae (fun (o wr:World) (q:Nat) (hu:jo m Pg W Fs mp L (fun r=>decide (gB E Pg W r=0)) (F/Pg) Z o q wr) (h0:gB E Pg W q≠0)=>jo.skip hu (decide_eq_false h0));have hA:Hid (∀(o wr:World) (aq:List Nat) (q:Nat),aq.length=(rs.map φ).length->aV o b g aq->aq=((rs.map φ).take aq.length).map (lD (goes E T) id)->Fr (fun k=>k=g) W9 o->jo m Pg W Fs mp L (fun r=>decide (gB E Pg W r=0)) (F/Pg) Z o q wr->Tp<=q*Pg->jz m b g Pg W Fs A rs T R B ah S w (.returned (.tuple #[.pointer (some ⟨y,0,none⟩),.int .i64 0])) (wr.putObj D (.deferred none))):=by
   show∀(o wr:World) (aq:List Nat) (q:Nat),_
   intro o wr aq q a1 a2 a3 a4 hu q4;have AQ:=q3 o wr q a4 hu;obtain ⟨q9,w6,AK,S',⟨M,u0,u1⟩,u2,u3,u4⟩:=hu;have k7:Fr (fun k=>k=D) wr (wr.putObj D (.deferred none)):=(Fr.refl _ wr).putObj _ _ (.inl rfl);have AT:=a4.size;have AU:=u3.size;have pe:∀k,S' k->(Z k∨o.heap.size<=k)∧k≠D:=fun k O=>⟨u4 k O,fun e=>by
    rcases u4 k O with h|h
    ·exact hJ (e▸h)
    ·have h6:=(Array.getElem?_eq_some_iff.1 (a4.heap hD (fun e=>by omega))).1;omega⟩
   have c4:Fr (fun k=>k=g∨Z k∨k=D) W9 (wr.putObj D (.deferred none)):=((a4.mono (S':=fun k=>k=g∨Z k∨k=D) (fun k h=> .inl (.inl h))).trans u3 (fun k h=> .inl (.inr (.inl h)))).trans k7 (fun k h=> .inl (.inr (.inr h)));have i4:∀k,qK ⟨y,m,F,Tp,T,R,B,Rm,ah,pl,EL,mv,nb,wb,sb,w2.heap.size,w3.heap.size⟩ ⟨w.heap.size,w.heap.size+1,J,W5.heap.size,b,g⟩ k->k≠g->¬(k=g∨Z k∨k=D):=fun k O hg h=>by
    rcases h with h|h|h
    ·exact hg h
    ·exact b0 k h O
    ·have:=q0 k O;omega
   obtain ⟨L',l,s1,s2,s3,s4,s5,s6,s7⟩:=td (hf:=hf) (hg:=hg) (Rm:=Rm) hc c2 c9 c8 ax hl cf p5.apart g4 a5 b4 ck q4 u2 u1;obtain ⟨wp,q5,AI⟩:=i2.all;dsimp only at wp q5 AI;have A2:N=A.Wd l:=by omega
   have ih:nb=iv (cnt (ai E) 0 W) B:=by rw [dr,hN]
   have hM:=p5.lt;have v4:aq=rs.map (lD (goes E T) φ):=by
    rw [a3,a1,List.take_length,List.map_map];refine List.map_congr_left (fun z hz=> ?_);show (if φ z=0 then 0 else goes E T (φ z))=if z=0 then 0 else goes E T (φ z)
    by_cases h0:z=0
    ·rw [if_pos h0,if_pos (by rw [h0];exact hl.zero)]
    ·rw [if_neg h0,if_neg (by have:=hl.pos (.root hz h0);omega)]
   have AZ:(R-T)/Pg*Pg=R-T:=by
    have H:(R-T)% Pg=0:=by
     have A3:=hc.T4;have AY:=hc.L4;obtain ⟨u,hu⟩:∃u,T=u*Pg:=⟨T/Pg,by have:=Nat.div_add_mod T Pg;rw [Nat.mul_comm];omega⟩;obtain ⟨v,hv⟩:∃v,R=v*Pg:=⟨R/Pg,by have:=Nat.div_add_mod R Pg;rw [Nat.mul_comm];omega⟩;rw [hu,hv,<-Nat.sub_mul];exact Nat.mul_mod_left _ _
    have:=Nat.div_add_mod (R-T) Pg;rw [Nat.mul_comm];omega
   refine ⟨⟨y,m,F,Tp,T,R,B,Rm,ah,pl,EL,mv,nb,wb,sb,w2.heap.size,w3.heap.size⟩,⟨E,hp,T,W,Pg,B,(R-T)/Pg,ah⟩,hf,hg,lD (goes E T) φ,L',fun k=>S' k∨Cy.has ⟨y,m,F,Tp,T,R,B,Rm,ah,pl,EL,mv,nb,wb,sb,w2.heap.size,w3.heap.size⟩ k,l,rfl,rfl,rfl,rfl,rfl,rfl,rfl,rfl,?cyt,?cys,s2,s5,s4,?rts,?tab,?foot,?fr,by have H:=av.lt;have C:=c4.size;have h3:=a6.size;omega,s3⟩
   case cyt=>
    refine ⟨s6,s7,?_,?_,ck,?_,ih,rfl,?_,hc.B2,hc.a1⟩
    ·show T+A.Wd l<=T+(R-T)/Pg*Pg
     omega
    ·show T+cnt (ai E) 0 W<=T+A.Wd l
     omega
    ·show T<=524288
     omega
    ·show cnt (ai E) 0 W<=524288
     omega
   case cys=>
    have Ay:(⟨E,hp,T,W,Pg,B,(R-T)/Pg,ah⟩:bh).nb=nb:=ih.symm;rw [Ay];refine ⟨q9,w6,S',AK,M,fw,nn,⟨?_,u0.frame k7 (fun k O e=>(pe k O).2 e),?_,?_,?_,?_,?_,⟨ns,f,?_,?_⟩,?_,?_,?_,rfl,rfl,List.length_replicate⟩,?_,fun r=> ?_,?_,fun k=>Iff.rfl⟩
    ·exact aj.frame i2.y c4 (i4 _ (.inr (.inr (.inr (.inr (.inr (.inl rfl)))))) (by dsimp only;omega))
    ·exact i2.plan.frame c4 (fun i hi=>by
      dsimp only;rcases hi with h|h|h
      ·omega
      ·by_cases hx:w2.heap.size<=i∧i<w3.heap.size
       ·exact absurd (.inr (.inr (.inr (.inr (.inr (.inr (.inr (.inl hx)))))))) (b0 i h)
       ·omega
      ·omega)
    ·exact wp.frame c4 (fun k O=>i4 k (.inl O) (fun e=>by have:=hM k O;have:=HP.out.2.2.2.2.2.2.1 k O;omega))
    ·exact ak q5 c4 (i4 _ (.inr (.inr (.inr (.inr (.inr (.inr (.inr (.inr (.inr (.inr rfl)))))))))) (Ne.symm cn))
    ·exact i2.mv.frame c4 (i4 _ (.inr (.inr (.inr (.inr (.inr (.inr (.inl rfl))))))) (by dsimp only;omega))
    ·exact m6.frame c4 (fun h=>by
      rcases h with h|h|h
      ·omega
      ·exact m2 h
      ·omega)
    ·exact m9.frame c4 (fun h=>by
      rcases h with h|h|h
      ·omega
      ·exact m3 h
      ·omega)
    ·exact fun a ha=>(show E a≠0->_ from fun kv=>eq (a,E a) (bi.2 ⟨by have:=p5.top a kv;omega,kv,rfl⟩)) ha
    ·show w3.heap.size<=(wr.putObj D (.deferred none)).heap.size
     have:=k7.size;omega
    ·intro k O;have h5:=(pe k O).1;have h7:∀k',qK ⟨y,m,F,Tp,T,R,B,Rm,ah,pl,EL,mv,nb,wb,sb,w2.heap.size,w3.heap.size⟩ ⟨w.heap.size,w.heap.size+1,J,W5.heap.size,b,g⟩ k'->k≠k':=fun k' ud e=>by
      rcases h5 with h|h
      ·exact b0 k h (e▸ud)
      ·have:=q0 k' ud;omega
     refine ⟨fun hx=> ?_,h7 _ (.inr (.inr (.inr (.inr (.inr (.inr (.inr (.inr (.inr (.inr rfl))))))))))⟩;rcases hx with h|h|h|h|h|h
     ·exact h7 _ (.inr (.inr (.inr (.inr (.inr (.inl rfl)))))) h
     ·exact h7 _ (.inr (.inr (.inr (.inr (.inr (.inr (.inl rfl))))))) h
     ·dsimp only at h;rcases h5 with h6|h6
      ·exact m2 (h▸h6)
      ·omega
     ·dsimp only at h;rcases h5 with h6|h6
      ·exact m3 (h▸h6)
      ·omega
     ·exact h7 k (.inl h) rfl
     ·exact h7 k (.inr (.inr (.inr (.inr (.inr (.inr (.inr (.inl h)))))))) rfl
    ·have hP:∀k,EL.has k->k<w2.heap.size:=hM;refine ⟨⟨?_,?_,?_,fun h=> ?_,fun h=> ?_,?_⟩,⟨?_,?_,fun h=> ?_,fun h=> ?_,?_⟩,⟨?_,fun h=> ?_,fun h=> ?_,?_⟩⟩
     ·exact fl
     ·exact fs
     ·exact fv
     ·have:=hP _ h;dsimp only at this;omega
     ·dsimp only at h;omega
     ·show y≠aN
      omega
     ·exact z5
     ·exact z6
     ·have:=hP _ h;dsimp only at this;omega
     ·dsimp only at h;omega
     ·show mv≠aN
      omega
     ·exact z7
     ·have:=hP _ h;dsimp only at this;omega
     ·dsimp only at h;omega
     ·show wb≠aN
      omega
    ·rw [zQ];have:=s1;rw [<-ih] at this;exact this
    ·rw [m7,zQ];exact rD (s:=⟨E,hp,T,W,Pg,B,(R-T)/Pg,ah⟩) c2 (fun a ha=>by
      have kv:ai E a=true:=ha;obtain ⟨s,Bl,Bm⟩:=aQ.1 kv;have:=p5.top s (by omega);show a<W
      omega) r
    ·omega
   case rts=>
    rw [<-v4];have yb:qK ⟨y,m,F,Tp,T,R,B,Rm,ah,pl,EL,mv,nb,wb,sb,w2.heap.size,w3.heap.size⟩ ⟨w.heap.size,w.heap.size+1,J,W5.heap.size,b,g⟩ b:= .inr (.inr (.inr (.inr (.inr (.inr (.inr (.inr (.inl rfl))))))));have ys:qK ⟨y,m,F,Tp,T,R,B,Rm,ah,pl,EL,mv,nb,wb,sb,w2.heap.size,w3.heap.size⟩ ⟨w.heap.size,w.heap.size+1,J,W5.heap.size,b,g⟩ g:= .inr (.inr (.inr (.inr (.inr (.inr (.inr (.inr (.inr (.inl rfl)))))))));exact (a2.frame u3 (fun h=>b0 b h yb) (fun h=>b0 g h ys)).frame k7 (fun e=>by omega) (fun e=>by omega)
   case tab=>exact ak q5 c4 (i4 _ (.inr (.inr (.inr (.inr (.inr (.inr (.inr (.inr (.inr (.inr rfl)))))))))) (Ne.symm cn))
   case foot=>
    intro k O;rcases O with h|h
    ·rcases (pe k h).1 with h|h
     ·rcases hQ k h with h|h
      ·rcases p2 k h with h|h
       ·exact .inl h
       ·exact .inr (by omega)
      ·exact .inr (by omega)
     ·exact .inr (by omega)
    ·right;rcases h with h|h|h|h|h|h
     ·dsimp only at h;omega
     ·dsimp only at h;omega
     ·dsimp only at h;omega
     ·dsimp only at h;omega
     ·have:=p8 k h;omega
     ·dsimp only at h;omega
   case fr=>
    have g1:Fr (fun k=>S k∨k=g) w w2:=((bo.trans ev.out (fun _ h=>h.elim)).mono (S':=fun k=>S k∨k=g) (fun _ h=>h.elim)).trans p9 (fun k h=> .inl (.inl h));have g2:Fr (fun k=>S k∨k=g) w W7:=g1.trans a8 (fun _ h=>h.elim);have l9:∀k,S2 k->(S k∨k=g)∨w.heap.size<=k:=fun k h=>by
     rcases p2 k h with h|h
     ·exact .inl (.inl h)
     ·exact .inr (by omega)
    have g3:Fr (fun k=>S k∨k=g) w W9:=g2.trans p0 (fun k h=>by
     rcases h with h|h|h
     ·exact l9 k h
     ·exact .inr (by omega)
     ·exact .inr (by omega))
    exact g3.trans c4 (fun k h=>by
     rcases h with h|h|h
     ·exact .inl (.inr h)
     ·rcases hQ k h with h|h
      ·exact l9 k h
      ·exact .inr (by omega)
     ·exact .inr (by omega))
  have AJ:W9.cell? ⟨J,0,none⟩=some (.pointer (some ⟨y,0,none⟩)):=i2.b13.cell 0 rfl;have kx:(F:Int).tdiv (Pg:Int)=((F/Pg:Nat):Int):=bV _ _;have up:¬Pg=0:=by omega
  have Bc:Pg<=256:=ds;have AO:Tp<=524288:=by have:=hc.F3;omega
  have x5:F<=524288:=by have:=hc.F2;omega
  have x7:F/Pg<=524288:=Nat.le_trans (Nat.div_le_self _ _) x5;have pd:F/Pg*Pg<Tp+Pg:=by have:=hc.F2;omega
  generalize x6:F/Pg=QF at ng np n5 nq n4 hA kx x7 pd;clear x6;have Bi:IntKind.i64.wrap (QF:Int)=(QF:Int):=by rw [IntKind.wrap_i64];omega
  clear hQ hJ q3 ts pb q0 l1 l2 l3 l4 lc wc wd i6 ge b0 wf zb lA c2 ds c8 c9 d4 ej dx d0 em cx cy c0 hi P hT b1 bj cn hc hl a5 b4 ck ad bs bk hG am bo hO cp ax dm z1 z2 z3 z4 z5 z6 z7 z8 z9 g7 g8 fl fs fv bd hh x1 ap q7 q8 a6 g5 dr q1 q2 cd av hN p1 p2 p3 p5 p6 p7 p8 p9 fi fj cc a7 c7 ei cf a8 a9 a0 g4 hL Y lo m1 m2 m3 m4 m5 m6 m7 m8 m9 fk eq i1 i2 hD x4 tr p0 v5 HP HQ nr ne HA HB nf b7 ev;gi_wp2;refine bx ((sp.out).mono ?_);rintro e o ⟨rfl,aq,vw,k9,v0,d7⟩;have kb:=ae (n5.out o d7);have d2:=ae (fun q wr hu=>ng.out o wr q d7 hu);have ho:=ae (fun q wr hu=>np.out o wr q d7 hu);have hy:=ae (fun q wr hu hq=>hA.out o wr aq q vw k9 v0 d7 hu hq);have ht:=ae (fun q wr hu=>nq.out o wr q hu);have hC:=ae (fun q wr hu=>n4.out o wr q hu);clear vw k9 v0 d7 n5 ng np hA nq n4 sp AJ Aw;obtain ⟨t1,t2,t3,t4,t5,t6⟩:=d2.out _ _ kb.out;have d3:=ae ((kb.out.Fh ((Fr.refl _ o).drew)).pg);clear t1 t2 t5 t6;gi_wp2;refine wpIn_wide.2 ?_;refine bU 6 (fun a b=>b=a) [.c (.pointer (some ⟨w.heap.size+1,0,none⟩)),.c (.int .i64 F),.c (.pointer (some ⟨m,0,none⟩)),.c (.int .i64 Pg),.c (.int .i64 ((QF:Nat):Int)),.c (.int .i64 ((QF:Nat):Int))] (fun j=>false) (by kernel_rfl) (by kernel_rfl) (by kernel_rfl) (by kernel_rfl) rfl (fun _=>rfl) (fun _ _ _ H C=>C.trans H) (fun _ _ h=>by rw [h];exact Nat.le_refl _) trivial ?_;intro F hF;simp only [cU,PK.val,List.take_succ_cons,List.take_zero,aa,ab,ac] at hF;subst hF;refine ⟨by
   refine ⟨?_,?_,?_,?_,?_,?_,trivial⟩<;>intro vs w1 U ap hd hx
   all_goals try (apply oV;rotate_left;rfl;exact rfl;go_simp;done)
   all_goals try (apply oV;rotate_left;rfl;exact rfl;subst U;go_simp;done)
   ·subst U;refine ar 148 #[m] (by go_simp) ((d3.out).mono ?_);rintro e w2 ⟨rfl,rfl⟩;exact ⟨_,rfl,rfl,rfl,fun h=>nomatch h⟩
   ,fun vs w1 U hp hx=> ?_⟩
  subst U;clear hx d3;simp only [List.drop_succ_cons,List.drop_zero];clear t3 t4;go_wp2;gi_wp2
  gi_loopw [17] (fun z wr=>∃q:Nat,z= .int .i64 q∧QF<=q∧q*Pg<Tp+Pg∧q<=524288+1∧Hid (jo m Pg W Fs mp L (fun r=>decide (gB E Pg W r=0)) QF Z o q wr)) (fun z _=>(524288+2-intOf z).toNat)
  case atStart=>exact ⟨QF,rfl,Nat.le_refl _,pd,by omega,ae (kb.out.Fh ((Fr.refl _ o).drew))⟩
  case round=>
   clear kb pd;obtain ⟨q,rfl,q4,Be,Bf,P⟩:=hrel;obtain ⟨t1,t2,t3,t4,t5,t6⟩:=d2.out q _ P.out;have d3:=ae (P.out.Fh ((Fr.refl _ _).drew)).pg;have ex:=ae (P.out.Fh ((Fr.refl _ wr).drew));obtain ⟨X,hX⟩:∃X,X=q*Pg:=⟨_,rfl⟩;have ty:(q:Int)*(Pg:Int)=(X:Int):=by rw [hX];push_cast;rfl
   have A5:X<=1048576:=by omega
   have U:IntKind.i64.wrap ((q:Int)*(Pg:Int))=(X:Int):=by rw [ty,IntKind.wrap_i64];omega
   have Bg:q<=X:=by rw [hX];exact Nat.le_mul_of_pos_right q (by omega)
   have HN:Hid (X<Tp->(q+1)*Pg<Tp+Pg):=by
    show X<Tp->_
    intro h;rw [Nat.succ_mul,<-hX];omega
   have kc:=ae hX;clear hX ty P t6;gi_wp2;refine wpIn_wide.2 ?_;refine bU 7 (fun a b=>b=a) [.c (.int .i64 q),.c (.pointer (some ⟨m,0,none⟩)),.c (.int .i64 Pg),.c (.int .i64 X),.c (.pointer (some ⟨w.heap.size+1,1,none⟩)),.c (.int .i64 Tp),.c (.bool (decide ((X:Int)<(Tp:Int))))] (fun j=>false) (by kernel_rfl) (by kernel_rfl) (by kernel_rfl) (by kernel_rfl) rfl (fun _=>rfl) (fun _ _ _ H C=>C.trans H) (fun _ _ h=>by rw [h];exact Nat.le_refl _) trivial ?_;intro F hF;simp only [cU,PK.val,List.take_succ_cons,List.take_zero,aa,ab,ac] at hF;subst hF;refine ⟨by
    refine ⟨?_,?_,?_,?_,?_,?_,?_,trivial⟩<;>intro vs w1 U ap hd hx
    all_goals try (apply oV;rotate_left;rfl;exact rfl;go_simp;done)
    all_goals try (apply oV;rotate_left;rfl;exact rfl;subst U;go_simp;done)
    ·subst U;refine ar 148 #[m] (by go_simp) ((d3.out).mono ?_);rintro e w2 ⟨rfl,rfl⟩;exact ⟨_,rfl,rfl,rfl,fun h=>nomatch h⟩
    ,fun vs w1 U hp hx=> ?_⟩
   subst U;clear hx d3;simp only [List.drop_succ_cons,List.drop_zero];go_wp2;clear t1 t2 t3 t4 t5;obtain ⟨t1,t2,t3,t4,t5,t6⟩:=d2.out q _ ex.out;by_cases u6:X<Tp
   ·have c1:(X:Int)<(Tp:Int):=by omega
    have r4:=ae (HN.out u6);have e8:=t6 (by omega);have us:q*Pg<Tp:=by have:=kc.out;omega
    have i8:=ae (fun h0=>ht.out q _ ex.out h0 us q4);have j3:=ae (fun h0=>hC.out q _ ex.out h0);clear t4 t5 t6 HN kc ex us U d2 ho hy ht hC;obtain ⟨V,hV⟩:∃V,V=gB E Pg W q:=⟨_,rfl⟩;rw [<-hV] at e8 i8 j3;clear hV;by_cases h0:V=0
    ·have rg:=ae (i8.out h0);subst h0;rw [show ((0:Nat):Int)=0 from rfl] at e8;clear j3 i8;gi_wp2;refine bx ((rg.out).mono ?_);rintro e w9 ⟨rfl,hu⟩;have n8:=ae hu;clear hu rg e8 t1 t2 t3;gi_wp2;go_roundw
     case rel=>exact ⟨q+1,by go_num,by omega,r4.out,by omega,n8⟩
     case measure=>simp [intOf];omega
    ·have n8:=ae (j3.out h0);have AW:¬(V:Int)=0:=by omega
     have AX:((V:Int)==0)=false:=by rw [beq_eq_false_iff_ne];omega
     clear j3 i8;gi_wp2;go_roundw
     case rel=>exact ⟨q+1,by go_num,by omega,r4.out,by omega,n8⟩
     case measure=>simp [intOf];omega
   ·have c1:¬(X:Int)<(Tp:Int):=by omega
    have ev:=ae (hy.out q _ ex.out (by have:=kc.out;omega));have wq:=ae (ho.out q _ ex.out);clear t2 t3 t4 t5 t6 HN kc ex U d2 ho hy ht hC;gi_wp2;refine ⟨by simp,.inl ⟨_,_,rfl,run_takeDeferred wq.out,?_⟩⟩;refine ⟨_,results_tmp2 rfl _ _ _,?_⟩;exact ev.out
end
end Go.Proofs.YthahbijbpinneaaGreatDoor
