import Derived.Test.YthahbijbpinneaaGreatDoorA18
set_option maxRecDepth 100000
set_option maxHeartbeats 8000000
set_option linter.all false
namespace Go.Proofs.YthahbijbpinneaaGreatDoor
open Go.RowKit
def iT (m Pg W Fs:Nat) (mp:Nat→Bool) (Mc:Nat→Nat) (dr:Nat→Bool) (q0:Nat) (S9:Nat→Prop) (w10:World) (q:Nat) (wr:World):Prop:=
 ∃Us Hg mpq S',bi m Pg W Fs Us Hg mpq Mc S' wr∧(∀r,mpq r=(mp r&& !(decide (q0≤r)&&decide (r<q)&&dr r)))∧Fr S9 w10 wr∧∀k,S' k→S9 k∨w10.heap.size≤k
section
variable {m Pg W Fs Us Hg:Nat} {mp:Nat→Bool} {Mc:Nat→Nat} {dr:Nat→Bool} {q0 q:Nat} {S9:Nat→Prop} {w10 wr w1:World}
theorem iT.start (h:bi m Pg W Fs Us Hg mp Mc S9 w10):iT m Pg W Fs mp Mc dr q0 S9 w10 q0 w10:=by
 refine ⟨Us,Hg,mp,S9,h,fun r=> ?_,Fr.refl _ _,fun _ h=> .inl h⟩;have:(decide (q0≤r)&&decide (r<q0))=false:=by rw [Bool.and_eq_false_iff,decide_eq_false_iff_not,decide_eq_false_iff_not];omega
 rw [this];simp
theorem iT.Fh (h:iT m Pg W Fs mp Mc dr q0 S9 w10 q wr) (hf:Fr (fun _=>False) wr w1):iT m Pg W Fs mp Mc dr q0 S9 w10 q w1:=by
 obtain ⟨Us,Hg,mpq,S',h1,h2,h3,h4⟩:=h;exact ⟨Us,Hg,mpq,S',h1.keep hf,h2,h3.trans hf (fun _ h=>h.elim),h4⟩
theorem iT.pg (h:iT m Pg W Fs mp Mc dr q0 S9 w10 q wr):Calls Tryz.prog 148 #[m] wr fun e w'=>e= .returned (.int .i64 Pg)∧wr=w':=by
 obtain ⟨Us,Hg,mpq,S',⟨M,h1,_⟩,_⟩:=h;exact dv h1
theorem iT.skip (h:iT m Pg W Fs mp Mc dr q0 S9 w10 q wr) (hd:dr q=false):iT m Pg W Fs mp Mc dr q0 S9 w10 (q+1) wr:=by
 obtain ⟨Us,Hg,mpq,S',h1,h2,h3⟩:=h;refine ⟨Us,Hg,mpq,S',h1,fun r=> ?_,h3⟩;rw [h2];by_cases e:r=q
 ·subst e;rw [hd,Bool.and_false,Bool.and_false]
 ·congr 4
  rw [decide_eq_decide];omega
theorem iT.drop (h:iT m Pg W Fs mp Mc dr q0 S9 w10 q wr) (hd:dr q=true) (hm:mp q=true) (hqW:q<W/Pg) (hq0:q0≤q):Calls Tryz.prog 149 #[m,.int .i64 q] wr fun e w'=>e= .returned (.int .i64 0)∧iT m Pg W Fs mp Mc dr q0 S9 w10 (q+1) w':=by
 obtain ⟨Us,Hg,mpq,S',⟨M,h1,h5⟩,h2,h3,h4⟩:=h;refine (fD h1 q hqW (by rw [h2,hm,decide_eq_false (Nat.lt_irrefl q)];simp)).mono ?_;rintro e w' ⟨rfl,S2,high2,M2,p1,p2,p3,p4⟩;have hz:=h3.size;refine ⟨rfl,Us-1,high2,_,S2,⟨M2,p1,fun b hb=> ?_⟩,fun r=> ?_,h3.trans p3 h4,fun k hk=> ?_⟩
 ·have hb2:mpq (b/Pg)=true:=by have:=hb.2;rw [Bool.and_eq_true] at this;exact this.1
  rw [p2 b hb.1 hb2 hb.2];exact h5 b ⟨hb.1,hb2⟩
 ·show (mpq r&& !(r==q))=_
  rw [h2];by_cases e:r=q
  ·subst e;rw [beq_self_eq_true,decide_eq_true (Nat.lt_succ_self r),decide_eq_true hq0,hd];simp
  ·rw [beq_eq_false_iff_ne.2 e,Bool.not_false,Bool.and_true];congr 4
   rw [decide_eq_decide];omega
 ·rcases p4 k hk with h6|h6
  ·exact h4 k h6
  ·exact .inr (by omega)
end
def jd (m b g Pg W Fs:Nat) (A:AG) (rs:List Nat) (T Li B ah:Nat) (S:Nat→Prop) (w:World) (e:Ending) (w':World):Prop:=
 ∃(c:Cy) (s:bg) (hf hg φ' L':Nat→Nat) (S':Nat→Prop) (l:List Nat),e= .returned (.tuple #[.pointer (some ⟨c.y,0,none⟩),.int .i64 0])∧c.m=m∧s.to_=T∧s.P=Pg∧s.W=W∧s.R=(Li-T)/Pg∧s.B=B∧s.Ah=ah∧pR c s hf hg Fs (T+A.Wd l)∧dZ c s hf hg Fs (T+A.Wd l) (List.replicate s.nb false) s.nb 0 0 L' S' w'∧aL A rs l∧aP A rs φ' L' T (T+A.Wd l)∧T+A.Wd l≤Li∧aW w' b g (rs.map φ')∧bu w'∧(∀k,S' k→S k∨w.heap.size≤k)∧Fr (fun k=>S k∨k=g) w w'∧w.heap.size<w'.heap.size∧cnt (aj s.E) 0 s.W=A.Wd l
section
variable {m b g Pg W Fs Us Hg:Nat} {S Sm:Nat→Prop} {mp mpq:Nat→Bool} {L M:Nat→Nat} {w wz:World} {A:AG} {rs:List Nat} {φ E hp hf hg:Nat→Nat} {F Tp T Li B Rm ah:Nat}
theorem rW (hc:fS Pg W F Tp T Li B Rm ah) (hp1:1≤Pg) (hWp:W% Pg=0) (hW5:W≤524288) (hdiv:Pg∣B∨B∣Pg) (hl:aP A rs φ L F Tp) (hex:eM A rs φ E) (hap:cX E) (hhd:∀x,Reach A.gr rs x→hp (φ x)=A.np x∧hf (φ x)=A.nf x∧hg (φ x)=A.ng x) (hfit:Tp-F≤Li-T) (hmp:∀q,mp q=(decide (F≤q*Pg)&&decide (q*Pg<Tp)))
  (hfr:Fs=(Li-T)/Pg+(ah+2)*(pu B Pg+3)) {q:Nat} (hq1:Tp≤q*Pg) (hmpq:∀r,mpq r=(mp r&& !(decide (F/Pg≤r)&&decide (r<q)&&decide (ga E Pg W r=0)))) (hM:∀a,aX W Pg mpq a→M a=L a):
  ∃(L':Nat→Nat) (l:List Nat),fu ⟨E,hp,T,W,Pg,B,(Li-T)/Pg,ah⟩ L' M mpq (fun _=>false) 0 0 (gS (cnt (aj E) 0 W) B) (T+A.Wd l)∧aL A rs l∧cnt (aj E) 0 W=A.Wd l∧T+A.Wd l≤Li∧aP A rs (kN (goes E T) φ) L' T (T+A.Wd l)∧bT ⟨E,hp,T,W,Pg,B,(Li-T)/Pg,ah⟩∧(∀a,E a≠0→bw (hp a) (hf a) (hg a)):=by
 have hF1:=hc.F1;have hF2:=hc.F2;have hF3:=hc.F3;have hT1:=hc.T1;have hT2:=hc.T2;have hT3:=hc.T3;have hT4:=hc.T4;have hL4:=hc.L4;have hF4:=hc.F4;have hFq:F=F/Pg*Pg:=by have:=Nat.div_add_mod F Pg;rw [Nat.mul_comm];omega
 have hLT:(Li-T)/Pg*Pg=Li-T:=by
  have h1:(Li-T)% Pg=0:=by
   obtain ⟨a,ha⟩:∃a,T=a*Pg:=⟨T/Pg,by have:=Nat.div_add_mod T Pg;rw [Nat.mul_comm];omega⟩;obtain ⟨c,hc2⟩:∃c,Li=c*Pg:=⟨Li/Pg,by have:=Nat.div_add_mod Li Pg;rw [Nat.mul_comm];omega⟩;rw [ha,hc2,←Nat.sub_mul];exact Nat.mul_mod_left _ _
  have:=Nat.div_add_mod (Li-T) Pg;rw [Nat.mul_comm];omega
 obtain ⟨R,hR⟩:∃R,R=(Li-T)/Pg:=⟨_,rfl⟩;rw [←hR] at hLT hfr ⊢;have hE:∀a,E a≠0→∃x,Reach A.gr rs x∧φ x=a∧E a=A.sz x∧F≤a∧a+E a≤Tp:=fun a ha=>by
  obtain ⟨x,hx,e⟩:=hex.some a ha;have h1:=hex.size x hx;have h2:=hl.lies x hx;rw [e] at h1 h2;exact ⟨x,hx,e,h1,h2.1,by omega⟩
 have hlive:∀a,aj E a=true→F≤a∧a<Tp:=fun a ha=>by
  obtain ⟨s,s1,s2⟩:=aQ.1 ha;obtain ⟨x,hx,e,h1,h2,h3⟩:=hE s (by omega);omega
 have hN0:cnt (aj E) 0 W=cnt (aj E) 0 Tp:=by
  rw [aw (aj E) (Nat.zero_le Tp) hF3,aD (a:=Tp) (b:=W) (fun i hi _=>by
   cases h:aj E i with
   |false=>rfl
   |true=>have:=hlive i h;omega),Nat.add_zero]
 obtain ⟨l,hlv⟩:=hl.lives hex (W:=W) (fun a ha=>by obtain ⟨x,_,_,h1,h2,h3⟩:=hE a ha;omega);have hwd:=(aL.cnt hl hex hlv).1;have hNle:A.Wd l≤Li-T:=by
  have h1:cnt (aj E) 0 Tp≤Tp-F:=by
   rw [aw (aj E) (Nat.zero_le F) hF2,aD (a:=0) (b:=F) (fun i _ hi=>by
    cases h:aj E i with
    |false=>rfl
    |true=>have:=hlive i h;omega),Nat.zero_add]
   exact be _ _ _
  omega
 have ho:bT ⟨E,hp,T,W,Pg,B,R,ah⟩:=by
  refine ⟨hap,hp1,hc.B1,hdiv,hWp,hW5,hT4,?_,?_,fun a ha=> ?_⟩
  ·show T+R*Pg≤W
   omega
  ·show cnt (aj E) 0 W≤R*Pg
   omega
  ·obtain ⟨h1,h2⟩:=hlive a ha;refine ⟨by show a<W;omega,?_⟩;show a<T∨T+R*Pg≤a
   rcases hc.ap with h3|h3
   ·right;omega
   ·left;have h4:=Nat.div_add_mod (Tp+Pg-1) Pg;have h5:=Nat.mod_lt (Tp+Pg-1) (show 0<Pg by omega);rw [Nat.mul_comm] at h4;omega
 have hpg:∀r,r<W/Pg→mpq r=eB Pg (aj E) (fun _=>false) r:=fun r hr=>by
  have h1:=iX (s:=⟨E,hp,T,W,Pg,B,R,ah⟩) hp1 (fun _=>false) r;have h2:=qC (s:=⟨E,hp,T,W,Pg,B,R,ah⟩) hp1 (fun a ha=>by have:=hlive a ha;show a<W;omega) r;rw [←h2] at h1;have h1':ga E Pg W r≠0↔eB Pg (aj E) (fun _=>false) r=true:=h1;rw [hmpq,hmp]
  cases hf:eB Pg (aj E) (fun _=>false) r with
  |true=>
   have h3:=h1'.2 hf;unfold eB at hf;obtain ⟨a,a1,a2⟩:=(aH hp1).1 hf;rw [Bool.and_eq_true] at a2;obtain ⟨h4,h5⟩:=hlive a a2.1;have h6:F/Pg≤r:=by rw [←a1];exact Nat.div_le_div_right h4
   have h7:=Nat.mul_le_mul_right Pg h6;have h8:r*Pg≤a:=by rw [←a1];exact Nat.div_mul_le_self _ _
   rw [decide_eq_true (show F≤r*Pg by omega),decide_eq_true (show r*Pg<Tp by omega),decide_eq_false h3];simp
  |false=>
   have h3:ga E Pg W r=0:=by
    by_cases h4:ga E Pg W r=0
    ·exact h4
    ·rw [h1'.1 h4] at hf;cases hf
   rw [h3];by_cases h5:F≤r*Pg∧r*Pg<Tp
   ·have h6:F/Pg≤r:=by
     have:=Nat.div_le_div_right (c:=Pg) h5.1;rwa [Nat.mul_div_cancel _ (by omega)] at this
    have h7:r<q:=by
     rcases Nat.lt_or_ge r q with h|h
     ·exact h
     ·have:=Nat.mul_le_mul_right Pg h;omega
    rw [decide_eq_true h6,decide_eq_true h7];simp
   ·have:(decide (F≤r*Pg)&&decide (r*Pg<Tp))=false:=by rw [Bool.and_eq_false_iff,decide_eq_false_iff_not,decide_eq_false_iff_not];omega
    rw [this];rfl
 have hMl:∀a,aj E a=true→M a=L a:=fun a ha=>by
  obtain ⟨h1,h2⟩:=hlive a ha;have h3:a/Pg<W/Pg:=by
   rw [Nat.div_lt_iff_lt_mul (by omega)];have:W=W/Pg*Pg:=by have:=Nat.div_add_mod W Pg;rw [Nat.mul_comm];omega
   omega
  refine hM a ⟨by omega,?_⟩;rw [hpg _ h3];exact (aH hp1).2 ⟨a,rfl,by rw [ha];rfl⟩
 have hlM:aP A rs φ M F Tp:=hl.congr2 (fun x hx i hi=>hMl _ (hl.live hex hx hi));have hhp:∀x,Reach A.gr rs x→hp (φ x)=A.np x:=fun x hx=>(hhd x hx).1
 have hst:=rV ho (M:=M) (mp:=mpq) hpg (hlM.opn_ptr hex hhp (show Tp≤W from hF3)) (hlM.opn_small hex (by omega)) (eA (a:=F/Pg) (fun r hr hf=>by
  obtain ⟨a,a1,a2⟩:=(aH hp1).1 hf;rw [Bool.and_eq_true] at a2;obtain ⟨h4,h5⟩:=hlive a a2.1;refine ⟨by rw [←a1];exact Nat.div_le_div_right h4,?_⟩;rw [←a1];show a/Pg<F/Pg+R
  rw [Nat.div_lt_iff_lt_mul (by omega),Nat.add_mul,←hFq];omega))
 obtain ⟨L',hP,hL'⟩:=hst;have hN:(⟨E,hp,T,W,Pg,B,R,ah⟩:bg).N=A.Wd l:=by
  show cnt (aj E) 0 W=_
  omega
 refine ⟨L',l,?_,hlv,by omega,by omega,?_,ho,fun a ha=> ?_⟩
 ·have:=hP;rw [hN] at this;exact this
 ·have:=hlM.opn_laid hex hap hhp (T:=T) (by omega) (L:=L') (fun a ha=>hL' a ha);rw [hwd] at this;exact this
 ·obtain ⟨x,hx,e,_⟩:=hE a ha;have h1:=hhd x hx;rw [e] at h1;rw [h1.1,h1.2.1,h1.2.2];exact (hl.head x hx).2
end
end Go.Proofs.YthahbijbpinneaaGreatDoor
