import Derived.Test.YthahbijbpinneaaGreatDoorA0
import Derived.Test.YthahbijbpinneaaGreatDoorA6
import Derived.Laws.BitsAllLaws
import Derived.Laws.BitsLemmas
set_option maxRecDepth 100000
set_option maxHeartbeats 8000000
set_option linter.all false
namespace Go.Proofs.YthahbijbpinneaaGreatDoor
open Go.RowKit
section
variable {w:World} {m Pg W Rm Us Hg:Nat} {S:Nat→Prop} {mp:Nat→Bool} {M:Nat→Nat}
def eN (w:World) (m:Nat) (S:Nat→Prop) (Pg W Rm used':Nat) (mp' mp:Nat→Bool) (M:Nat→Nat) (v:Value) (e:Ending) (w':World):Prop:=
 e= .returned v∧∃S' Hg' M',bl w' m S' Pg W Rm used' Hg' mp' M'∧(∀a,a<W→mp (a/Pg)=true→mp' (a/Pg)=true→M' a=M a)∧Fr S w w'∧∀k,S' k→S k∨w.heap.size≤k
theorem pk {p g gt f q0 Hg':Nat} {vw vt vb vw' vt' vb':Value} {ws ws':List Nat} {tk tk':List Bool} {bk bk':List Nat} {Tm times' n n':Int} {ts ts':List (Option Nat)} {fr:Nat→Nat} {w1 w2 w3:World}
  (q1:ak w m [.pointer (some ⟨p,0,none⟩),.pointer (some ⟨g,0,none⟩),.int .i64 W] 219) (q2:aZ w p vw vt vb ws tk bk Rm Pg Us Hg Tm) (q3:aM w g gt ts (W/Pg) fr n) (q4:W% Pg=0∧W≤524288∧1≤W) (q5:∀q f,fr q=f+1→tk[f]? =some true) (q6:∀q q',fr q=fr q'→fr q≠0→q=q') (q7:Us=cnt (bB fr) 0 (W/Pg)) (q8:∀q,mp q=bB fr q)
  (q9:∀a f,a<W→fr (a/Pg)=f+1→M a=ws.getD (f*Pg+a% Pg) 0) (q10:∀k,S k↔(k=m∨bn p vw vt vb k∨aG g gt ts k)) (hq:q0<W/Pg) (h0:fr q0=0)
  (hw:Fr (fun _=>False) w w1) (hT:je w1 w2 p vw vt vb ws tk Rm Pg Us f vw' vt' vb' ws' tk' bk' Hg' times') (hP:aM w3 g gt ts' (W/Pg) (co fr q0 (f+1)) n') (hf3:Fr (aG g gt ts) w2 w3) (hn:∀k,aG g gt ts' k→aG g gt ts k∨w2.heap.size≤k):
  eN w m S Pg W Rm (Us+1) (fun q=>mp q||q==q0) mp M (.int .i64 0) (.returned (.int .i64 0)) w3:=by
 have hpm:=fc q2 q1;have hgm:=fE q3 q1;have hz1:=hw.size;have hz2:=hT.fr.size;have hg2:aM w2 g gt ts (W/Pg) fr n:=(q3.frame hw (fun _ _ h=>h)).frame hT.fr (fun k hk e=>cE q2 q3 e hk);have hm2:=(q1.frame hw (fun h=>h)).frame hT.fr hpm;have hp3:=hT.pool.frame hf3 (fun k hk e=>cE hT.pool hg2 hk e);have hne:∀q f',fr q=f'+1→f'≠f:=fun q f' h e=>hT.was (by rw [←e];exact q5 q f' h)
 refine ⟨rfl,fun k=>k=m∨bn p vw' vt' vb' k∨aG g gt ts' k,Hg',fun a=>if a/Pg=q0 then ws'.getD (f*Pg+a% Pg) 0 else M a,⟨p,vw',vt',vb',ws',tk',bk',times',g,gt,ts',co fr q0 (f+1),n',hm2.frame hf3 hgm,hp3,hP,q4,?_,?_,?_,?_,?_,fun k=>Iff.rfl⟩,?_,?_,?_⟩
 ·intro q f' h;unfold co at h;by_cases e:q=q0
  ·rw [if_pos e] at h;have:f'=f:=by omega
   rw [this];exact hT.now
  ·rw [if_neg e] at h;exact (hT.old f' (q5 q f' h)).1
 ·intro q q' h hn0;unfold co at h hn0;by_cases e:q=q0<;>by_cases e':q'=q0
  ·omega
  ·rw [if_pos e,if_neg e'] at h;exact absurd rfl (hne q' f h.symm)
  ·rw [if_neg e,if_pos e'] at h;exact absurd rfl (hne q f h)
  ·rw [if_neg e,if_neg e'] at h;rw [if_neg e] at hn0;exact q6 q q' h hn0
 ·have:=fy (fr:=fr) (p:=q0) (x:=f+1) (a:=0) (b:=W/Pg) (Nat.zero_le _) hq;rw [if_pos h0,if_neg (by omega)] at this;omega
 ·intro q;show (mp q||q==q0)=_
  rw [q8];unfold bB co;by_cases e:q=q0
  ·subst e;simp
  ·simp [e]
 ·intro a f' ha h;unfold co at h;show (if a/Pg=q0 then ws'.getD (f*Pg+a% Pg) 0 else M a)=_
  by_cases e:a/Pg=q0
  ·rw [if_pos e] at h ⊢;have:f'=f:=by omega
   rw [this]
  ·rw [if_neg e] at h ⊢;rw [q9 a f' ha h];exact ((hT.old f' (q5 _ f' h)).2 (a% Pg) (Nat.mod_lt _ q2.page1)).symm
 ·intro a ha hm _;show (if a/Pg=q0 then ws'.getD (f*Pg+a% Pg) 0 else M a)=M a
  rw [if_neg];intro e;rw [q8,e] at hm;unfold bB at hm;rw [h0] at hm
  cases hm
 ·exact ((hw.mono (S':=S) (fun _ h=>h.elim)).trans hT.fr (fun k hk=> .inl ((q10 k).2 (.inr (.inl hk))))).trans hf3 (fun k hk=> .inl ((q10 k).2 (.inr (.inr hk))))
 ·rintro k (hk|hk|hk)
  ·exact .inl ((q10 k).2 (.inl hk))
  ·rcases hT.own k hk with h|h
   ·exact .inl ((q10 k).2 (.inr (.inl h)))
   ·exact .inr (by omega)
  ·rcases hn k hk with h|h
   ·exact .inl ((q10 k).2 (.inr (.inr h)))
   ·exact .inr (by omega)
theorem vX (h:bl w m S Pg W Rm Us Hg mp M) (q:Nat) (hq:q<W/Pg) (hm:mp q=false) (hr:Us<Rm):Calls Tryz.prog 211 #[m,.int .i64 q] w (eN w m S Pg W Rm (Us+1) (fun k=>mp k||k==q) mp M (.int .i64 0)):=by
 have HN:=ae (bO h);obtain ⟨p,vw,vt,vb,ws,tk,bk,Tm,g,gt,ts,fr,n,q1,q2,q3,q4,q5,q6,q7,q8,q9,q10⟩:=id h;have h0:fr q=0:=by
  rw [q8] at hm;unfold bB at hm;rw [bne_eq_false_iff_eq] at hm;exact hm
 have hpm:=fc q2 q1;have c1:=q1.cell 1 rfl;have HF:=ae (nu q3 q hq h0);have HT:=ae (fun w1 (hw:Fr (fun _=>False) w w1)=>(af ((q1.frame hw (fun h=>h)).cell 0 rfl) (tK (q2.frame hw (fun _ _ h=>h)) hr)));have hput:∀w1 w2 f vw' vt' vb' ws' tk' bk' Hg' times',Fr (fun _=>False) w w1→je w1 w2 p vw vt vb ws tk Rm Pg Us f vw' vt' vb' ws' tk' bk' Hg' times'→w2.cell? ⟨m,1,none⟩=some (.pointer (some ⟨g,0,none⟩))∧Calls Tryz.prog 253 #[g,.int .i64 q,.int .i64 f] w2 (dn w2 g gt ts (W/Pg) fr q (f+1) (.int .i64 0)):=by
  intro w1 w2 f vw' vt' vb' ws' tk' bk' Hg' times' hw hT;have hg2:aM w2 g gt ts (W/Pg) fr n:=(q3.frame hw (fun _ _ h=>h)).frame hT.fr (fun k hk e=>cE q2 q3 e hk);have hm2:=(q1.frame hw (fun h=>h)).frame hT.fr hpm;have hfl:=(List.getElem?_eq_some_iff.1 hT.now).1;have:=hT.pool.most;have:=q2.room1;exact ⟨hm2.cell 1 rfl,wA hg2 q f hq (by omega) h0⟩
 have HPUT:=ae hput;have hend:∀w1 w2 f vw' vt' vb' ws' tk' bk' Hg' times' e w3,Fr (fun _=>False) w w1→je w1 w2 p vw vt vb ws tk Rm Pg Us f vw' vt' vb' ws' tk' bk' Hg' times'→dn w2 g gt ts (W/Pg) fr q (f+1) (.int .i64 0) e w3→e= .returned (.int .i64 0)∧eN w m S Pg W Rm (Us+1) (fun k=>mp k||k==q) mp M (.int .i64 0) (.returned (.int .i64 0)) w3:=by
  rintro w1 w2 f vw' vt' vb' ws' tk' bk' Hg' times' e w3 hw hT ⟨rfl,ts',n',r1,r2,r3⟩;exact ⟨rfl,pk q1 q2 q3 q4 q5 q6 q7 q8 q9 q10 hq h0 hw hT r1 r2 r3⟩
 have HEND:=ae hend;generalize eN w m S Pg W Rm (Us+1) (fun k=>mp k||k==q) mp M (.int .i64 0)=Q at*;clear h q1 q2 q3 q4 q5 q6 q7 q8 q9 q10 hpm hput hend hm hq h0
 go_enter Tryz.func211,Tryz.ntmps211
 go_wp2_with fail
 refine (HN.out).mono ?_;rintro e w' ⟨rfl,rfl⟩;go_wp2_with fail
 refine (HF.out).mono ?_;rintro e w1 ⟨rfl,hf1⟩;obtain ⟨c0,hT1⟩:=HT.out w1 hf1;have HT1:=ae hT1;have HF1:=ae hf1;clear hf1 hT1 HT HF c1;go_wp2_with fail
 refine (HT1.out).mono ?_;rintro e w2 ⟨f,vw',vt',vb',ws',tk',bk',Hg',times',rfl,hT2⟩;obtain ⟨c1,hp2⟩:=HPUT.out w1 w2 f vw' vt' vb' ws' tk' bk' Hg' times' HF1.out hT2;have HP2:=ae hp2;have HE2:=ae (fun e w3=>HEND.out w1 w2 f vw' vt' vb' ws' tk' bk' Hg' times' e w3 HF1.out hT2);clear hp2 hT2 HPUT HEND HT1 c0;go_wp2_with fail
 refine (HP2.out).mono ?_;intro e w3 hs;obtain ⟨rfl,hq2⟩:=HE2.out e w3 hs;have HQ:=ae hq2;clear hs hq2 HE2 HP2;go_wp2;exact HQ.out
theorem vW (h:bl w m S Pg W Rm Us Hg mp M) (q:Nat) (hq:q<W/Pg) (hm:mp q=true):Calls Tryz.prog 211 #[m,.int .i64 q] w fun e w'=>e= .returned (.int .i64 13)∧Fr (fun _=>False) w w':=by
 have HN:=ae (bO h);obtain ⟨p,vw,vt,vb,ws,tk,bk,Tm,g,gt,ts,fr,n,q1,q2,q3,q4,q5,q6,q7,q8,q9,q10⟩:=id h;rw [q8] at hm;unfold bB at hm;obtain ⟨f,hf⟩:∃f,fr q=f+1:=⟨fr q-1,by rw [bne_iff_ne] at hm;omega⟩;have c1:=q1.cell 1 rfl;have HF:=ae (fb q3 q f hq hf);clear h q1 q2 q3 q4 q5 q6 q7 q8 q9 q10 hm hq hf
 go_enter Tryz.func211,Tryz.ntmps211
 go_wp2_with fail
 refine (HN.out).mono ?_;rintro e w' ⟨rfl,rfl⟩;go_wp2_with fail
 refine (HF.out).mono ?_;rintro e w1 ⟨rfl,hf1⟩;have HF1:=ae hf1;clear hf1;go_wp2;go_ret;exact ⟨rfl,HF1.out⟩
theorem lG {p g gt f q0:Nat} {vw vt vb vb':Value} {ws:List Nat} {tk:List Bool} {bk:List Nat} {Tm n n':Int} {ts ts':List (Option Nat)} {fr:Nat→Nat} {w2 w3:World}
  (q1:ak w m [.pointer (some ⟨p,0,none⟩),.pointer (some ⟨g,0,none⟩),.int .i64 W] 219) (q2:aZ w p vw vt vb ws tk bk Rm Pg Us Hg Tm) (q3:aM w g gt ts (W/Pg) fr n) (q4:W% Pg=0∧W≤524288∧1≤W) (q5:∀q f,fr q=f+1→tk[f]? =some true) (q6:∀q q',fr q=fr q'→fr q≠0→q=q') (q7:Us=cnt (bB fr) 0 (W/Pg)) (q8:∀q,mp q=bB fr q)
  (q9:∀a f,a<W→fr (a/Pg)=f+1→M a=ws.getD (f*Pg+a% Pg) 0) (q10:∀k,S k↔(k=m∨bn p vw vt vb k∨aG g gt ts k)) (hq:q0<W/Pg) (h0:fr q0=f+1)
  (hP:aM w2 g gt ts' (W/Pg) (co fr q0 0) n') (hf2:Fr (aG g gt ts) w w2) (hn:∀k,aG g gt ts' k→aG g gt ts k∨w.heap.size≤k)
  (hG:aZ w3 p vw vt vb' ws (tk.set f false) (bk++[f]) Rm Pg (Us-1) Hg Tm) (hf3:Fr (bn p vw vt vb) w2 w3) (hv:∀g,vb'.ownBlock=some g→vb.ownBlock=some g∨w2.heap.size≤g):
  eN w m S Pg W Rm (Us-1) (fun q=>mp q&& !(q==q0)) mp M (.int .i64 0) (.returned (.int .i64 0)) w3:=by
 have hpm:=fc q2 q1;have hgm:=fE q3 q1;have hz2:=hf2.size;have hp2:=q2.frame hf2 (fun k hk e=>cE q2 q3 hk e);have hm2:=q1.frame hf2 hgm;have hg3:=hP.frame hf3 (fun k hk e=>cE hp2 hP e hk);refine ⟨rfl,fun k=>k=m∨bn p vw vt vb' k∨aG g gt ts' k,Hg,M,⟨p,vw,vt,vb',ws,tk.set f false,bk++[f],Tm,g,gt,ts',co fr q0 0,n',hm2.frame hf3 hpm,hG,hg3,q4,?_,?_,?_,?_,?_,fun k=>Iff.rfl⟩,fun _ _ _ _=>rfl,?_,?_⟩
 ·intro q f' h;unfold co at h;by_cases e:q=q0
  ·rw [if_pos e] at h;cases h
  ·rw [if_neg e] at h;rw [List.getElem?_set,if_neg (fun e2=>e (by subst e2;exact q6 q q0 (by omega) (by omega)))];exact q5 q f' h
 ·intro q q' h hn0;unfold co at h hn0;by_cases e:q=q0
  ·rw [if_pos e] at hn0;exact absurd rfl hn0
  ·rw [if_neg e] at h hn0;by_cases e':q'=q0
   ·rw [if_pos e'] at h;exact absurd h hn0
   ·rw [if_neg e'] at h;exact q6 q q' h hn0
 ·have:=fy (fr:=fr) (p:=q0) (x:=0) (a:=0) (b:=W/Pg) (Nat.zero_le _) hq;rw [if_neg (by omega),if_pos rfl] at this;omega
 ·intro q;show (mp q&& !(q==q0))=_
  rw [q8];unfold bB co;by_cases e:q=q0
  ·subst e;simp
  ·simp [e]
 ·intro a f' ha h;unfold co at h;by_cases e:a/Pg=q0
  ·rw [if_pos e] at h;cases h
  ·rw [if_neg e] at h;exact q9 a f' ha h
 ·exact (hf2.mono (S':=S) (fun k hk=> .inl ((q10 k).2 (.inr (.inr hk))))).trans hf3 (fun k hk=> .inl ((q10 k).2 (.inr (.inl hk))))
 ·rintro k (hk|hk|hk)
  ·exact .inl ((q10 k).2 (.inl hk))
  ·rcases hk with hk|hk|hk|hk
   ·exact .inl ((q10 k).2 (.inr (.inl (.inl hk))))
   ·exact .inl ((q10 k).2 (.inr (.inl (.inr (.inl hk)))))
   ·exact .inl ((q10 k).2 (.inr (.inl (.inr (.inr (.inl hk))))))
   ·rcases hv k hk with h|h
    ·exact .inl ((q10 k).2 (.inr (.inl (.inr (.inr (.inr h))))))
    ·exact .inr (by omega)
  ·rcases hn k hk with h|h
   ·exact .inl ((q10 k).2 (.inr (.inr h)))
   ·exact .inr h
theorem fD (h:bl w m S Pg W Rm Us Hg mp M) (q:Nat) (hq:q<W/Pg) (hm:mp q=true):Calls Tryz.prog 149 #[m,.int .i64 q] w (eN w m S Pg W Rm (Us-1) (fun k=>mp k&& !(k==q)) mp M (.int .i64 0)):=by
 have HN:=ae (bO h);obtain ⟨p,vw,vt,vb,ws,tk,bk,Tm,g,gt,ts,fr,n,q1,q2,q3,q4,q5,q6,q7,q8,q9,q10⟩:=id h;rw [q8] at hm;unfold bB at hm;obtain ⟨f,hf⟩:∃f,fr q=f+1:=⟨fr q-1,by rw [bne_iff_ne] at hm;omega⟩;have hu:1≤Us:=by
  have:=fy (fr:=fr) (p:=q) (x:=0) (a:=0) (b:=W/Pg) (Nat.zero_le _) hq;rw [if_neg (by omega),if_pos rfl] at this;omega
 have hgm:=fE q3 q1;have c1:=q1.cell 1 rfl;have HF:=ae (uC q3 q f hq hf);have hgive:∀e w2,dn w g gt ts (W/Pg) fr q 0 (.tuple #[.int .i64 f,.int .i64 0]) e w2→e= .returned (.tuple #[.int .i64 f,.int .i64 0])∧w2.cell? ⟨m,0,none⟩=some (.pointer (some ⟨p,0,none⟩))∧Calls Tryz.prog 214 #[p,.int .i64 f] w2 (fun e w3=>e= .returned (.int .i64 0)∧eN w m S Pg W Rm (Us-1) (fun k=>mp k&& !(k==q)) mp M (.int .i64 0) (.returned (.int .i64 0)) w3):=by
  rintro e w2 ⟨rfl,ts',n',r1,r2,r3⟩;refine ⟨rfl,(q1.frame r2 hgm).cell 0 rfl,(tE (q2.frame r2 (fun k hk e=>cE q2 q3 hk e)) f (q5 q f hf) hu).mono ?_⟩;rintro e w3 ⟨rfl,vb',s1,s2,s3⟩;exact ⟨rfl,lG q1 q2 q3 q4 q5 q6 q7 q8 q9 q10 hq hf r1 r2 r3 s1 s2 s3⟩
 have HG:=ae hgive;generalize eN w m S Pg W Rm (Us-1) (fun k=>mp k&& !(k==q)) mp M (.int .i64 0)=Q at*;clear h q1 q2 q3 q4 q5 q6 q7 q8 q9 q10 hgm hgive hm hq hf hu
 go_enter Tryz.func149,Tryz.ntmps149
 go_wp2_with fail
 refine (HN.out).mono ?_;rintro e w' ⟨rfl,rfl⟩;go_wp2_with fail
 refine (HF.out).mono ?_;intro e w2 hs;obtain ⟨rfl,c0,hG2⟩:=HG.out e w2 hs;have HG2:=ae hG2;clear hs hG2 HG HF c1;go_wp2_with fail
 refine (HG2.out).mono ?_;rintro e w3 ⟨rfl,hq2⟩;have HQ:=ae hq2;clear hq2 HG2;go_wp2;exact HQ.out
end
def bR (mp:Nat→Bool) (q:Nat):Bool:= !mp q
def gk (w:World) (m:Nat) (S:Nat→Prop) (Pg W Rm Us:Nat) (mp:Nat→Bool) (M:Nat→Nat) (A p:Nat) (wr:World):Prop:=
 ∃S1 high1 mp1 M1 v l,bl wr m S1 Pg W Rm (Us+cnt (bR mp) A p) high1 mp1 M1∧(∀q,mp1 q=(mp q||(decide (A≤q)&&decide (q<p))))∧(∀a,a<W→mp (a/Pg)=true→M1 a=M a)∧Fr S w wr∧(∀k,S1 k→S k∨w.heap.size≤k)∧
  ak wr (w.heap.size+1) [v] 123∧wr.ownsRow 0 3 1 v l.length l∧l.length≤p-A∧ak wr w.heap.size [.pointer (some ⟨m,0,none⟩)] 112∧¬S1 (w.heap.size+1)∧¬S1 w.heap.size∧∀k,v.ownBlock=some k→¬S1 k∧w.heap.size+2≤k
section
variable {w:World} {m Pg W Rm Us Hg:Nat} {S:Nat→Prop} {mp:Nat→Bool} {M:Nat→Nat}
theorem gZ {A p:Nat} (h:A≤p):cnt (bR mp) A (p+1)=cnt (bR mp) A p+(if mp p then 0 else 1):=by
 rw [aC _ h];unfold bR
 cases mp p<;>rfl
theorem gk.is {A p:Nat} {wr w2:World} (h:gk w m S Pg W Rm Us mp M A p wr) (hA:A≤p) (hp:mp p=true) (hf:Fr (fun _=>False) wr w2):gk w m S Pg W Rm Us mp M A (p+1) w2:=by
 obtain ⟨S1,high1,mp1,M1,v,l,q1,q2,q3,q4,q5,q6,q7,q8,q9,q10,q11,q12⟩:=h;refine ⟨S1,high1,mp1,M1,v,l,by rw [gZ hA,if_pos hp];exact q1.keep hf,fun q=> ?_,q3,q4.trans hf (fun _ h=>h.elim),q5,q6.frame hf (fun h=>h),ao q7 hf (fun _ _ h=>h),by omega,q9.frame hf (fun h=>h),q10,q11,q12⟩;rw [q2];by_cases e:q=p
 ·subst e;rw [hp];rfl
 ·congr 2
  rw [decide_eq_decide];omega
theorem gk.more {A p g cap:Nat} {wr w2 w3 w4:World} {S1 S2:Nat→Prop} {high1 high2:Nat} {mp1 mp2:Nat→Bool} {M1 M2:Nat→Nat} {v:Value} {l:List Value} (hA:A≤p) (hp:mp p=false)
  (q2:∀q,mp1 q=(mp q||(decide (A≤q)&&decide (q<p)))) (q3:∀a,a<W→mp (a/Pg)=true→M1 a=M a) (q4:Fr S w wr) (q5:∀k,S1 k→S k∨w.heap.size≤k)
  (q6:ak wr (w.heap.size+1) [v] 123) (q7:wr.ownsRow 0 3 1 v l.length l) (q8:l.length≤p-A) (q9:ak wr w.heap.size [.pointer (some ⟨m,0,none⟩)] 112) (q10:¬S1 (w.heap.size+1)) (q11:¬S1 w.heap.size) (q12:∀k,v.ownBlock=some k→¬S1 k∧w.heap.size+2≤k)
  (r1:bl w2 m S2 Pg W Rm (Us+cnt (bR mp) A p+1) high2 mp2 M2) (rm:∀q,mp2 q=(mp1 q||q==p)) (r2:∀a,a<W→mp1 (a/Pg)=true→mp2 (a/Pg)=true→M2 a=M1 a) (r3:Fr S1 wr w2) (r4:∀k,S2 k→S1 k∨wr.heap.size≤k)
  (f1:Fr (fun _=>False) w2 w3) (ho:w4.ownsRow 0 3 1 (.slice (some ⟨g,0,none⟩) (l.length+1) cap) (l.length+1) (l++[.int .i64 p])) (f2:Fr (fun k=>v.ownBlock=some k) w3 w4) (hg:v.ownBlock=some g∨w3.heap.size≤g):
  (∃u,w4.cell? ⟨w.heap.size+1,0,none⟩=some u)∧w4.frozen? ⟨w.heap.size+1,0,none⟩=false∧∀W5,W5=w4.setCell ⟨w.heap.size+1,0,none⟩ (.slice (some ⟨g,0,none⟩) (l.length+1) cap)→gk w m S Pg W Rm Us mp M A (p+1) W5:=by
 have hz4:=q4.size;have hz3:=r3.size;have hzf:=f1.size;have l6:=q6.lt;have l9:=q9.lt;have hbx:ak w4 (w.heap.size+1) [v] 123:=((q6.frame r3 q10).frame f1 (fun h=>h)).frame f2 (fun e=>by have:=(q12 _ e).2;omega);refine ⟨⟨v,hbx.cell 0 rfl⟩,hbx.free 0,?_⟩;rintro W5 rfl;have hfs:Fr (fun k=>k=w.heap.size+1) w4 (w4.setCell ⟨w.heap.size+1,0,none⟩ (.slice (some ⟨g,0,none⟩) (l.length+1) cap)):=(Fr.refl (fun k=>k=w.heap.size+1) w4).setCell ⟨w.heap.size+1,0,none⟩ (.inl rfl) _;have s10:¬S2 (w.heap.size+1):=fun h=>by rcases r4 _ h with h|h;exact q10 h;omega
 have s11:¬S2 w.heap.size:=fun h=>by rcases r4 _ h with h|h;exact q11 h;omega
 have s12:∀k,v.ownBlock=some k→¬S2 k:=fun k hk h=>by
  rcases r4 _ h with h|h
  ·exact (q12 k hk).1 h
  ·have:=(q7.lt k hk).2;omega
 have hgS:¬S2 g∧w.heap.size+2≤g:=by
  rcases hg with hg|hg
  ·exact ⟨s12 g hg,(q12 g hg).2⟩
  ·refine ⟨fun h=> ?_,by omega⟩;obtain ⟨p',vw,vt,vb,ws,tk,bk,Tm,g',gt,ts,fr,n,b1,b2,b3,_,_,_,_,_,_,b10⟩:=r1;have hlt:g<w2.heap.size:=by
    rcases (b10 g).1 h with h|(h|h|h|h)|(h|h|h)
    ·rw [h];exact b1.lt
    ·rw [h];exact b2.blk.lt
    ·exact (b2.rw.lt g h).2
    ·exact (b2.rt.lt g h).2
    ·exact (b2.rb.lt g h).2
    ·rw [h];exact b3.blk.lt
    ·rw [h];exact b3.row.lt
    ·obtain ⟨i,hi⟩:=List.mem_iff_getElem?.1 h;exact (b3.tab i g hi).lt
   omega
 refine ⟨S2,high2,mp2,M2,.slice (some ⟨g,0,none⟩) (l.length+1) cap,l++[.int .i64 p],?_,?_,?_,?_,?_,hbx.set 0 _,?_,?_,?_,s10,s11,?_⟩
 ·rw [gZ hA,hp];exact ((r1.keep f1).frame f2 (fun k hk e=>s12 k e hk)).frame hfs (fun k hk e=>s10 (by rw [←e];exact hk))
 ·intro q;rw [rm,q2];by_cases e:q=p
  ·subst e;simp only [beq_self_eq_true,Bool.or_true,hA,decide_true,Bool.true_and,Nat.lt_succ_self]
  ·have:(q==p)=false:=by rw [beq_eq_false_iff_ne];exact e
   rw [this,Bool.or_false];congr 2
   rw [decide_eq_decide];omega
 ·intro a ha hm;rw [r2 a ha (by rw [q2,hm];rfl) (by rw [rm,q2,hm];rfl)];exact q3 a ha hm
 ·exact ((((q4.trans r3 q5).trans f1 (fun _ h=>h.elim)).trans f2 (fun k hk=> .inr (by have:=(q12 k hk).2;omega))).trans hfs (fun k hk=> .inr (by omega)))
 ·intro k hk;rcases r4 k hk with h|h
  ·exact q5 k h
  ·exact .inr (by omega)
 ·have:=ao ho hfs (fun k hk e=>by simp only [Value.ownBlock,Option.some.injEq] at hk;omega);rw [List.length_append,List.length_singleton];exact this
 ·rw [List.length_append,List.length_singleton];omega
 ·exact (((q9.frame r3 q11).frame f1 (fun h=>h)).frame f2 (fun e=>by have:=(q12 _ e).2;omega)).frame hfs (by omega)
 ·intro k hk;simp only [Value.ownBlock,Option.some.injEq] at hk;subst hk;exact hgS
def mc (w:World) (m:Nat) (S:Nat→Prop) (Pg W Rm Us:Nat) (mp:Nat→Bool) (M:Nat→Nat) (A B:Nat) (e:Ending) (w':World):Prop:=
 e= .returned (.int .i64 0)∧∃S' Hg' mp' M',bl w' m S' Pg W Rm (Us+cnt (bR mp) A (B+1)) Hg' mp' M'∧(∀q,mp' q=(mp q||(decide (A≤q)&&decide (q≤B))))∧(∀a,a<W→mp (a/Pg)=true→M' a=M a)∧Fr S w w'∧∀k,S' k→S k∨w.heap.size≤k
theorem gK (h:bl w m S Pg W Rm Us Hg mp M) (a u:Nat) (hau:a<u) (hu:u≤W) (hr:Us+cnt (bR mp) (a/Pg) ((u-1)/Pg+1)≤Rm):Calls Tryz.prog 144 #[m,.int .i64 a,.int .i64 u] w (mc w m S Pg W Rm Us mp M (a/Pg) ((u-1)/Pg)):=by
 obtain ⟨i0,hi,hz0,hz1,hz2⟩:=info_parts dD;obtain ⟨p1,p2,hW,hWp,hur,hr4,hclr⟩:=h.at;clear hclr;have hf0:Fr (fun _=>False) w ((w.alloc (.cells #[.pointer (some ⟨m,0,none⟩)] 112)).alloc (.cells #[.slice none 0 0] 123)):=((Fr.refl _ w).alloc _).alloc _;have hfa:Fr (fun _=>False) w (w.alloc (.cells #[.pointer (some ⟨m,0,none⟩)] 112)):=(Fr.refl _ w).alloc _;have hS:∀k,S k→k<w.heap.size:=fun k hk=>by
  obtain ⟨p',vw,vt,vb,ws,tk,bk,Tm,g',gt,ts,fr,n,b1,b2,b3,_,_,_,_,_,_,b10⟩:=id h;rcases (b10 k).1 hk with h|(h|h|h|h)|(h|h|h)
  ·rw [h];exact b1.lt
  ·rw [h];exact b2.blk.lt
  ·exact (b2.rw.lt k h).2
  ·exact (b2.rt.lt k h).2
  ·exact (b2.rb.lt k h).2
  ·rw [h];exact b3.blk.lt
  ·rw [h];exact b3.row.lt
  ·obtain ⟨i,hi⟩:=List.mem_iff_getElem?.1 h;exact (b3.tab i k hi).lt
 obtain ⟨A,hA⟩:∃A,a/Pg=A:=⟨_,rfl⟩;obtain ⟨B,hB⟩:∃B,(u-1)/Pg=B:=⟨_,rfl⟩;have hAB:A≤B:=by rw [←hA,←hB];exact Nat.div_le_div_right (by omega)
 have hBP:B<W/Pg:=by rw [←hB];exact dq (by omega) p1 hWp
 have hPW:W/Pg≤W:=Nat.div_le_self _ _;rw [hA,hB] at hr;rw [hA,hB];have HN:=ae (bO (h.keep hfa));have c2:(w.alloc (.cells #[m] 112)).cell? ⟨m,2,none⟩=_:=(let ⟨_,_,_,_,_,_,_,_,_,_,_,q,_⟩:=(h.keep hfa).ptrs;q);obtain ⟨p,g,vw,vt,vb,ws,tk,bk,Tm,k0,k1,k2,hp⟩:=(h.keep hf0).ptrs;have HPG:=ae (ij hp);have hb1:ak ((w.alloc (.cells #[m] 112)).alloc (.cells #[.slice none 0 0] 123)) w.heap.size [.pointer (some ⟨m,0,none⟩)] 112:=(ak.new w _ _).alloc _;have hb2:ak ((w.alloc (.cells #[m] 112)).alloc (.cells #[.slice none 0 0] 123)) (w.heap.size+1) [.slice none 0 0] 123:=by
  have:=ak.new (w.alloc (.cells #[m] 112)) [.slice none 0 0] 123;rwa [World.size_alloc] at this
 have k3:=hb1.cell 0 rfl;have hI0:gk w m S Pg W Rm Us mp M A A ((w.alloc (.cells #[.pointer (some ⟨m,0,none⟩)] 112)).alloc (.cells #[.slice none 0 0] 123)):=
  ⟨S,Hg,mp,M,.slice none 0 0,[],by rw [bC _ (Nat.le_refl A)];exact h.keep hf0,fun q=>by
   have:(decide (A≤q)&&decide (q<A))=false:=by rw [Bool.eq_false_iff];simp only [ne_eq,Bool.and_eq_true,decide_eq_true_eq];omega
   rw [this,Bool.or_false],fun _ _ _=>rfl,hf0.mono (fun _ h=>h.elim),fun _ h=> .inl h,hb2,World.ownsRow_nil _ _ _ _,by simp,hb1,fun h=>by have:=hS _ h;omega,fun h=>by have:=hS _ h;omega,fun k hk=>by simp [Value.ownBlock] at hk⟩
 have HI0:=ae hI0;have q1:(a:Int).tdiv (Pg:Int)=(A:Int):=by rw [bV,hA]
 have q2:((u:Int)-1).tdiv (Pg:Int)=(B:Int):=by rw [show (u:Int)-1=((u-1:Nat):Int) by omega,bV,hB]
 have hkz:¬Pg=0:=by omega
 have b1:(a:Int)<(u:Int):=by omega
 have b2:(u:Int)≤(W:Int):=by omega
 have b3:(W:Int)≤524288:=by omega
 have b4:(B:Int)≤524288:=by omega
 have b5:(A:Int)≤524288:=by omega
 have HR:=ae hr;have HF0:=ae hf0;clear h hS hA hB hp hI0 hb1 hb2 hr hf0 hfa
 go_enter Tryz.func144,Tryz.ntmps144
 go_wp2_with fail
 refine (HN.out).mono ?_;rintro e w' ⟨rfl,rfl⟩;go_wp2_with fail
 refine (HPG.out).mono ?_;rintro e w' ⟨rfl,rfl⟩;generalize hW0:(w.alloc (.cells #[m] 112)).alloc (.cells #[.slice none 0 0] 123)=W0 at*;clear hW0 k0 k1 k2 k3 c2 HN HPG;go_wp2
 go_loopw [10] (fun k wr=>∃q:Nat,k= .int .i64 q∧A≤q∧q≤B+1∧Hid (gk w m S Pg W Rm Us mp M A q wr)) (fun k _=>(B+1-intOf k).toNat)
 case atStart=>exact ⟨A,by go_num,Nat.le_refl A,by omega,HI0.out⟩
 case round=>
  clear HI0;obtain ⟨q,rfl,hq1,hq2,hr⟩:=hrel;by_cases hqB:q≤B
  ·have c1:(q:Int)≤(B:Int):=by omega
   cases hmq:mp q with
   |true=>
    obtain ⟨S1,high1,mp1,M1,v,l,r1,r2,r3,r4,r5,r6,r7,r8,r9,r10,r11,r12⟩:=hr.out;have HMP:=ae (vW r1 q (by omega) (by rw [r2,hmq];rfl));have HNX:=ae (fun w2 hf=>gk.is (w2:=w2) hr.out hq1 hmq hf);have k3:=r9.cell 0 rfl;clear r1 r2 r3 r4 r5 r6 r7 r8 r9 r10 r11 r12 hr;go_wp2_with fail
    refine (HMP.out).mono ?_;rintro e w2 ⟨rfl,hf2⟩;have HN2:=ae (HNX.out w2 hf2);clear hf2 HNX HMP k3;go_wp2;go_roundw
    case rel=>exact ⟨q+1,by go_num,by omega,by omega,HN2.out⟩
    case measure=>simp [intOf];omega
   |false=>
    obtain ⟨S1,high1,mp1,M1,v,l,r1,r2,r3,r4,r5,r6,r7,r8,r9,r10,r11,r12⟩:=hr.out;have hlt:Us+cnt (bR mp) A q<Rm:=by
     have h1:=gZ (mp:=mp) hq1;rw [hmq] at h1;have h2:=cQ (bR mp) (a:=A) (show q+1≤B+1 by omega);have h3:=HR.out;simp only [Bool.false_eq_true,if_false] at h1;omega
    have HMP:=ae (vX r1 q (by omega) (by
     rw [r2,hmq,Bool.false_or,Bool.eq_false_iff];simp only [ne_eq,Bool.and_eq_true,decide_eq_true_eq];omega) hlt)
    have k3:=r9.cell 0 rfl;have HMORE:=ae (fun w2 w3 w4 S2 high2 mp2 M2 g cap a1 am a2 a3 a4 f1 ho f2 hg=>gk.more (w:=w) (m:=m) (S:=S) (M:=M) (wr:=wr) (w2:=w2) (w3:=w3) (w4:=w4) (S2:=S2) (high2:=high2) (mp2:=mp2) (M2:=M2) (g:=g) (cap:=cap) (high1:=high1) (Rm:=Rm) (Us:=Us) hq1 hmq r2 r3 r4 r5 r6 r7 r8 r9 r10 r11 r12 a1 am a2 a3 a4 f1 ho f2 hg);have HBX:=ae (fun w2 (r3':Fr S1 wr w2)=>(af ((r6.frame r3' r10).cell 0 rfl) (ao r7 r3' (fun k hk h=>(r12 k hk).1 h))));have hll:l.length≤524289:=by omega
    clear r1 r2 r3 r4 r5 r6 r7 r8 r9 r10 r11 r12 hr hlt;go_wp2_with fail
    refine (HMP.out).mono ?_;rintro e w2 ⟨rfl,S2,high2,M2,a1,a2,a3,a4⟩;obtain ⟨kx,hown⟩:=HBX.out w2 a3;have HM2:=ae (fun w3 w4 g cap f1 ho f2 hg=>HMORE.out w2 w3 w4 S2 high2 _ M2 g cap a1 (fun _=>rfl) a2 a3 a4 f1 ho f2 hg);clear a1 a2 a3 a4 HMORE HBX HMP k3;go_wp2_with (at_builtin;refine Hid.out ?_)
    unfold Hid;have hfa:Fr (fun _=>False) w2 (w2.alloc (.cells #[.int .i64 q] 3)):=(Fr.refl _ w2).alloc _;refine bI rfl _ _ 123 rfl 3 i0 (.int .i64 0) 8 Tryz.underlying123 hi hz0 hz1 hz2 rfl v l.length l rfl (ao hown hfa (fun _ _ h=>h)) ⟨w2.heap.size,0,none⟩ _ (.int .i64 q) rfl ((ak.new w2 [.int .i64 q] 3).cell 0 rfl) rfl (by unfold maxLen;omega) (by omega) ?_;intro g cap w4 ho f2 hg;obtain ⟨⟨uu,s1⟩,s2,s3⟩:=HM2.out _ w4 g cap hfa ho f2 hg;have HS:=ae s3;clear hfa ho f2 hg s3 HM2 hown kx;go_wp2;go_roundw
    case rel=>exact ⟨q+1,by go_num,by omega,by omega,HS.out _ rfl⟩
    case measure=>simp [intOf];omega
  ·have hqe:q=B+1:=by omega
   subst hqe;have c1:¬((B+1:Nat):Int)≤(B:Int):=by omega
   have HE:=ae hr.out;clear hr;go_wp2;go_ret;obtain ⟨S1,high1,mp1,M1,v,l,r1,r2,r3,r4,r5,_⟩:=HE.out;exact ⟨rfl,S1,high1,mp1,M1,r1,fun k=>by rw [r2];congr 2;rw [decide_eq_decide];omega,r3,r4,r5⟩
end
theorem tI (Rm Pg:Nat) (h1:1≤Rm) (h2:Rm≤4096) (hp:aK (Pg:Int)=true) (h3:1≤Pg) (h4:Pg≤256) (w:World):Calls Tryz.prog 180 #[.int .i64 Rm,.int .i64 Pg] w fun e w'=>∃p,e= .returned (.tuple #[.pointer (some ⟨p,0,none⟩),.int .i64 0])∧aZ w' p (.slice none 0 0) (.slice none 0 0) (.slice none 0 0) [] [] [] Rm Pg 0 0 0∧w.heap.size≤p∧Fr (fun _=>False) w w':=by
 have HP:=ae (dR (Pg:Int) (by omega) true hp);have hend:∀W,W=w.alloc (.cells #[.slice none 0 0,.slice none 0 0,.slice none 0 0,.int .i64 Rm,.int .i64 Pg,.int .i64 0,.int .i64 0,.int .i64 0] 307)→aZ W w.heap.size (.slice none 0 0) (.slice none 0 0) (.slice none 0 0) [] [] [] Rm Pg 0 0 0∧Fr (fun _=>False) w W:=by
  rintro W rfl;exact ⟨⟨ak.new w _ _,World.ownsRow_nil _ _ _ _,World.ownsRow_nil _ _ _ _,World.ownsRow_nil _ _ _ _,by simp,by simp,by simp,by simp,by simp,by simp,h2,h3,h4,by omega⟩,(Fr.refl _ w).alloc _⟩
 have HE:=ae hend;have b1:(1:Int)≤(Rm:Int):=by omega
 have b2:(Rm:Int)≤4096:=by omega
 have b3:(Pg:Int)≤256:=by omega
 have d1:decide ((4096:Int)<(Rm:Int))=false:=decide_eq_false (by omega);have d2:decide ((256:Int)<(Pg:Int))=false:=decide_eq_false (by omega);have d3:decide ((Rm:Int)<1)=false:=decide_eq_false (by omega);clear hp hend
 go_enter Tryz.func180,Tryz.ntmps180
 go_wp2_with fail
 refine (HP.out _).mono ?_;rintro e w' ⟨rfl,rfl⟩;go_wp2;go_ret2;exact ⟨_,rfl,(HE.out _ rfl).1,Nat.le_refl _,(HE.out _ rfl).2⟩
theorem vY (W Pg Rm:Nat) (h1:1≤Rm) (h2:Rm≤4096) (hp:aK (Pg:Int)=true) (h3:1≤Pg) (h4:Pg≤256) (hW1:Pg≤W) (hW2:W≤524288) (hWp:W% Pg=0) (w:World):Calls Tryz.prog 118 #[.int .i64 W,.int .i64 Pg,.int .i64 Rm] w fun e w'=>∃m S,e= .returned (.tuple #[.pointer (some ⟨m,0,none⟩),.int .i64 0])∧bl w' m S Pg W Rm 0 0 (fun _=>false) (fun _=>0)∧(∀k,S k→w.heap.size≤k)∧Fr (fun _=>False) w w':=by
 have HF:=ae (fun w=>tI Rm Pg h1 h2 hp h3 h4 w);have hP1:1≤W/Pg:=Nat.div_pos hW1 (by omega);have hP2:W/Pg≤W:=Nat.div_le_self _ _;have HG:=ae (fun w=>uD (W/Pg) hP1 (by omega) w);have hend:∀w1 w2 w3 p g gt ts n W5,w2=w1.alloc (.cells #[.pointer (some ⟨p,0,none⟩),.pointer none,.int .i64 W] 219)→aZ w1 p (.slice none 0 0) (.slice none 0 0) (.slice none 0 0) [] [] [] Rm Pg 0 0 0→w.heap.size≤p→Fr (fun _=>False) w w1→aM w3 g gt ts (W/Pg) (fun _=>0) n→(∀k,aG g gt ts k→w2.heap.size≤k)→Fr (fun _=>False) w2 w3→
   (w3.cell? ⟨w1.heap.size,1,none⟩=some (.pointer none)∧w3.frozen? ⟨w1.heap.size,1,none⟩=false)∧(W5=w3.setCell ⟨w1.heap.size,1,none⟩ (.pointer (some ⟨g,0,none⟩))→∃S,bl W5 w1.heap.size S Pg W Rm 0 0 (fun _=>false) (fun _=>0)∧(∀k,S k→w.heap.size≤k)∧Fr (fun _=>False) w W5):=by
  rintro w1 w2 w3 p g gt ts n W5 rfl hpl hpw hf1 hpg hpn hf2;have hz1:=hf1.size;have hb3:ak w3 w1.heap.size [.pointer (some ⟨p,0,none⟩),.pointer none,.int .i64 W] 219:=(ak.new w1 _ _).frame hf2 (fun h=>h);refine ⟨⟨hb3.cell 1 rfl,hb3.free 1⟩,?_⟩;rintro rfl;have hfs:Fr (fun k=>k=w1.heap.size) w3 (w3.setCell ⟨w1.heap.size,1,none⟩ (.pointer (some ⟨g,0,none⟩))):=(Fr.refl (fun k=>k=w1.heap.size) w3).setCell ⟨w1.heap.size,1,none⟩ (.inl rfl) _;have hfa:Fr (fun _=>False) w1 (w1.alloc (.cells #[.pointer (some ⟨p,0,none⟩),.pointer none,.int .i64 W] 219)):=(Fr.refl _ w1).alloc _;have hpl3:=((hpl.frame hfa (fun _ _ h=>h)).frame hf2 (fun _ _ h=>h));refine ⟨fun k=>k=w1.heap.size∨bn p (.slice none 0 0) (.slice none 0 0) (.slice none 0 0) k∨aG g gt ts k,⟨p,_,_,_,[],[],[],0,g,gt,ts,fun _=>0,n,hb3.set 1 _,hpl3.frame hfs (fun k hk e=>fc hpl3 hb3 (by rw [←e];exact hk)),hpg.frame hfs (fun k hk e=>fE hpg hb3 (by rw [←e];exact hk)),⟨hWp,hW2,by omega⟩,(fun q f h=>by cases h),fun q q' _ h=>absurd rfl h,(aD (fun _ _ _=>rfl)).symm,fun _=>rfl,(fun a f _ h=>by cases h),fun k=>Iff.rfl⟩,?_,((hf1.trans hfa (fun _ h=>h.elim)).trans hf2 (fun _ h=>h.elim)).trans hfs (fun i hi=> .inr (by omega))⟩;rintro k (h|h|h)
  ·omega
  ·rcases h with h|h|h|h
   ·omega
   ·cases h
   ·cases h
   ·cases h
  ·have:=hpn k h;rw [World.size_alloc] at this;omega
 have HE:=ae hend;have q1:(W:Int).tdiv (Pg:Int)=((W/Pg:Nat):Int):=bV W Pg;have q2:(W:Int).tmod (Pg:Int)=((W% Pg:Nat):Int):=rfl;rw [hWp] at q2;obtain ⟨P,hPd⟩:∃P,W/Pg=P:=⟨_,rfl⟩;rw [hPd] at q1 HG HE hP2;have hkz:¬Pg=0:=by omega
 have b1:(1:Int)≤(W:Int):=by omega
 have b2:(W:Int)≤524288:=by omega
 have b3:(P:Int)≤524288:=by omega
 clear hend hp hPd hP1 hP2 hWp
 go_enter Tryz.func118,Tryz.ntmps118
 go_wp2_with fail
 refine (HF.out _).mono ?_;rintro e w1 ⟨p,rfl,r1,r2,r3⟩;have HR:=ae (af r1 (af r2 r3));clear r1 r2 r3 HF;go_wp2_with fail
 refine (HG.out _).mono ?_;rintro e w3 ⟨g,gt,ts,n,rfl,s1,s2,s3⟩;obtain ⟨⟨k1,k2⟩,_⟩:=HE.out w1 _ w3 p g gt ts n w3 rfl HR.out.1 HR.out.2.1 HR.out.2.2 s1 s2 s3;have HEE:=ae (fun W5 hW=>(HE.out w1 _ w3 p g gt ts n W5 rfl HR.out.1 HR.out.2.1 HR.out.2.2 s1 s2 s3).2 hW);clear s1 s2 s3 HE HG;go_wp2;go_ret2;obtain ⟨S,t1,t2,t3⟩:=HEE.out _ rfl;exact ⟨_,S,rfl,t1,t2,t3⟩
def bw (p f g:Int):Prop:=0≤p∧p<256∧0≤f∧f<256∧0≤g∧g<256∧p+f+g<256
instance (p f g:Int):Decidable (bw p f g):=by unfold bw;exact inferInstance
def bP (p f g:Int):Value:= .agg #[.int .i64 p,.int .i64 f,.int .i64 g]
def iM (p f g:Int) (i:Nat):Int:=if i=0 then p else if i=1 then f else g
theorem rG (p f g:Int) (i:Nat) (hi:i<3) (w:World):(Instr.index 50 (.agg #[.int .i64 p,.int .i64 f,.int .i64 g]) (.int .i64 i)).run Tryz.prog w= .ok (.int .i64 (iM p f g i)) w:=by
 obtain rfl|rfl|rfl:i=0∨i=1∨i=2:=by omega
 all_goals kernel_rfl
def iA (w:World) (n:Int) (e:Ending) (w':World):Prop:=e= .returned (.int .i64 n)∧Fr (fun _=>False) w w'
theorem ch {w:World} {b:Nat} {t:TypeId} {v0 v1 v2:Value} (h:ak w b [v0,v1,v2] t):w.cell? ⟨b,0,none⟩=some v0∧w.cell? ⟨b,1,none⟩=some v1∧w.cell? ⟨b,2,none⟩=some v2:=
 ⟨h.cell 0 rfl,h.cell 1 rfl,h.cell 2 rfl⟩
theorem eC (p f g:Int) (w:World):Calls Tryz.prog 52 #[bP p f g] w (iA w (if bw p f g then 0 else 15)):=by
 have HIX:=ae (rG p f g);have HG:Hid (bw p f g→∀w',Fr (fun _=>False) w w'→iA w (if bw p f g then 0 else 15) (.returned (.int .i64 0)) w'):=fun h w' hf=>⟨by rw [if_pos h],hf⟩
 have HB:Hid (¬bw p f g→∀w',Fr (fun _=>False) w w'→iA w (if bw p f g then 0 else 15) (.returned (.int .i64 15)) w'):=fun h w' hf=>⟨by rw [if_neg h],hf⟩
 generalize (iA w (if bw p f g then 0 else 15))=Q at*;unfold bP
 go_enter Tryz.func52,Tryz.ntmps52
 go_upto_region 1 with fail
 have hb:=ak.new w [.int .i64 p,.int .i64 f,.int .i64 g] 31;have hF:=(Fr.refl (fun _=>False) w).alloc (.cells #[.int .i64 p,.int .i64 f,.int .i64 g] 31);generalize w.alloc (.cells #[.int .i64 p,.int .i64 f,.int .i64 g] 31)=W at*;obtain ⟨p0,p1,p2⟩:=ch hb;have HF:=ae hF;clear hb hF
 go_upto_region 2 with fail
 go_loopw [4,12] (fun _ v12 wr=>∃i:Nat,i≤3∧v12= .int .i64 i∧wr=W∧∀j,j<i→0≤iM p f g j∧iM p f g j<256) (fun _ v12 _=>3-(intOf v12).toNat)
 case atStart=>exact ⟨0,Nat.zero_le _,rfl,rfl,fun j h=>absurd h (Nat.not_lt_zero j)⟩
 case round=>
  obtain ⟨i,hi,rfl,rfl,hall⟩:=hrel;by_cases hlt:i<3
  ·have hix:=HIX.out i hlt;have hbad:¬(0≤iM p f g i∧iM p f g i<256)→¬bw p f g:=by
    intro h k;unfold bw at k;unfold iM at h;obtain rfl|rfl|rfl:i=0∨i=1∨i=2:=by omega
    all_goals simp at h;omega
   have HALL:=ae hall;have HBAD:=ae hbad;obtain ⟨x,hx⟩:∃x,iM p f g i=x:=⟨_,rfl⟩;rw [hx] at hix;have HX:=ae hx;clear hall hbad hx;by_cases h0:x<0
   ·go_wp2
    try go_ret
    exact HB.out (HBAD.out (by rw [HX.out];omega)) _ HF.out
   ·by_cases h1:256≤x
    ·go_wp2
     try go_ret
     exact HB.out (HBAD.out (by rw [HX.out];omega)) _ HF.out
    ·go_wp2;go_roundw
     case rel=>exact ⟨i+1,hlt,by go_num,trivial,fun j hj=>by
      by_cases e:j=i
      ·subst e;rw [HX.out];omega
      ·exact HALL.out j (by omega)⟩
     case measure=>simp [intOf];omega
  ·obtain rfl:i=3:=by omega
   have a0:=hall 0 (by decide);have a1:=hall 1 (by decide);have a2:=hall 2 (by decide);simp only [iM,if_true,show (1:Nat)≠0 from by decide,show (2:Nat)≠0 from by decide,show (2:Nat)≠1 from by decide,if_false] at a0 a1 a2;clear hall hlt hi;by_cases hs:256≤p+f+g
   ·go_wp2
    try go_ret
    exact HB.out (by unfold bw;omega) _ HF.out
   ·go_wp2
    try go_ret
    exact HG.out (by unfold bw;omega) _ HF.out
def cu (p f g:Int):Int:=if bw p f g then 1+p+f+g else 0
def dN (w:World) (n:Int) (e:Ending) (w':World):Prop:=e= .returned (.int .i64 n)∧Fr (fun _=>False) w w'
theorem cY (p f g:Int) (w:World):Calls Tryz.prog 54 #[bP p f g] w (dN w (cu p f g)):=by
 have HC:=ae (eC p f g);unfold bP at*;unfold iA at HC;by_cases h:bw p f g
 ·have hs:cu p f g=1+p+f+g:=if_pos h;rw [if_pos h] at HC;rw [hs];obtain ⟨h1,h2,h3,h4,h5,h6,h7⟩:=h
  go_enter Tryz.func54,Tryz.ntmps54
  go_upto_region 1 with fail
  have hb:=ak.new w [.int .i64 p,.int .i64 f,.int .i64 g] 31;have hF:=(Fr.refl (fun _=>False) w).alloc (.cells #[.int .i64 p,.int .i64 f,.int .i64 g] 31);generalize w.alloc (.cells #[.int .i64 p,.int .i64 f,.int .i64 g] 31)=W at*;obtain ⟨p0,p1,p2⟩:=ch hb;have HB:=ae hb;clear hs hb;go_wp2_with fail
  refine (HC.out _).mono ?_;rintro e w1 ⟨rfl,hf1⟩;obtain ⟨q0,q1,q2⟩:=ch (HB.out.frame hf1 (fun h=>h));have hf2:=hF.trans hf1 (fun _ h=>h.elim);clear p0 p1 p2 hF hf1;go_wp2;go_ret;exact ⟨rfl,hf2⟩
 ·have hs:cu p f g=0:=if_neg h;rw [if_neg h] at HC;rw [hs];clear h hs
  go_enter Tryz.func54,Tryz.ntmps54
  go_upto_region 1 with fail
  have hb:=ak.new w [.int .i64 p,.int .i64 f,.int .i64 g] 31;have hF:=(Fr.refl (fun _=>False) w).alloc (.cells #[.int .i64 p,.int .i64 f,.int .i64 g] 31);generalize w.alloc (.cells #[.int .i64 p,.int .i64 f,.int .i64 g] 31)=W at*;obtain ⟨p0,p1,p2⟩:=ch hb;clear hb;go_wp2_with fail
  refine (HC.out _).mono ?_;rintro e w1 ⟨rfl,hf1⟩;have hf2:=hF.trans hf1 (fun _ h=>h.elim);clear p0 p1 p2 hF hf1;go_wp2;go_ret;exact ⟨rfl,hf2⟩
def gC (p f g:Nat):Nat:=p+f*256+g*65536+165*16777216
def eI (p f g:Nat):Nat:=(4294967295-gC p f g)*4294967296+gC p f g
theorem oW {p f g:Nat} (hp:p<256) (hf:f<256) (hg:g<256):gC p f g<4294967296:=by unfold gC;omega
theorem tP {p f g:Nat} (hp:p<256) (hf:f<256) (hg:g<256):eI p f g<18446744073709551616:=by
 have:=oW hp hf hg;unfold eI;omega
theorem qA (a b k:Nat) (ha:a<2^k):a|||(b*2^k)=a+b*2^k:=by
 have:=Nat.two_pow_add_eq_or_of_lt (i:=k) (b:=a) ha b;rw [Nat.or_comm,Nat.mul_comm b,←this,Nat.add_comm]
theorem xL {a b:Nat} (k:Nat) (ha:a<2^k) (hb:a+b*2^k<4294967296) (x y:Int) (hx:x=(a:Int)) (hy:y=((b*2^k:Nat):Int)):bits .or .u32 x y=((a+b*2^k:Nat):Int):=by
 subst hx;subst hy;have h:=u32_or_nat a (b*2^k) (by omega) (by omega);rw [qA a b k ha] at h;exact h
theorem yT {a b:Nat} (k:Nat) (ha:a<2^k) (hb:a+b*2^k<18446744073709551616) (x y:Int) (hx:x=(a:Int)) (hy:y=((b*2^k:Nat):Int)):bits .or .u64 y x=((a+b*2^k:Nat):Int):=by
 subst hx;subst hy;have h:=u64_or_nat (b*2^k) a (by omega) (by omega);rw [Nat.or_comm,qA a b k ha] at h;exact h
theorem wY (y:Nat) (hy:y<4294967296):bits .xor .u32 IntKind.u32.max (y:Int)=((4294967295-y:Nat):Int):=by
 have h:=u32_xor_nat 4294967295 y (by decide) hy;have e:4294967295^^^y=4294967295-y:=by
  have e2:4294967295-y=2^32-(y+1):=by omega
  rw [e2];apply Nat.eq_of_testBit_eq;intro i;rw [Nat.testBit_two_pow_sub_succ (by exact hy),Nat.testBit_xor,show (4294967295:Nat)=2^32-1 by rfl,Nat.testBit_two_pow_sub_one];by_cases hi:i<32
  ·simp [hi]
  ·have h0:y.testBit i=false:=Nat.testBit_lt_two_pow (Nat.lt_of_lt_of_le hy (Nat.pow_le_pow_right (n:=2) (by decide) (by omega:32≤i)));simp [hi,h0]
 rw [e] at h;exact h
def wU (w:World) (n:Nat) (e:Ending) (w':World):Prop:=e= .returned (.tuple #[.int .u64 n,.int .i64 0])∧Fr (fun _=>False) w w'
theorem tT (p f g:Nat) (h:bw p f g) (w:World):Calls Tryz.prog 125 #[bP p f g] w (wU w (eI p f g)):=by
 have HC:=ae (eC p f g);rw [if_pos h] at HC;obtain ⟨h1,h2,h3,h4,h5,h6,h7⟩:=h;unfold bP at*;unfold iA at HC;have b1:bits .or .u32 (p:Int) ((f:Int)*256)=((p+f*256:Nat):Int):=xL 8 (by omega) (by omega) _ _ rfl (by simp);have b2:bits .or .u32 ((p:Int)+(f:Int)*256) ((g:Int)*65536)=((p+f*256+g*65536:Nat):Int):=xL 16 (by omega) (by omega) _ _ (by simp) (by simp);have b3:bits .or .u32 ((p:Int)+(f:Int)*256+(g:Int)*65536) 2768240640=((gC p f g:Nat):Int):=xL (b:=165) 24 (by omega) (by omega) _ _ (by simp) (by simp);have hlt:=oW (p:=p) (f:=f) (g:=g) (by omega) (by omega) (by omega);have b4:=wY (gC p f g) hlt;have b5:bits .or .u64 (((4294967295-gC p f g:Nat):Int)*4294967296) (gC p f g:Int)=(eI p f g:Int):=by
  have:=yT (a:=gC p f g) (b:=4294967295-gC p f g) 32 hlt (by omega) _ _ rfl rfl;rw [show gC p f g+(4294967295-gC p f g)*2^32=eI p f g by unfold eI;omega] at this;rw [←this];simp
 have b6:IntKind.u64.wrap (IntKind.u64.wrap ((4294967295-gC p f g:Nat):Int)*4294967296)=((4294967295-gC p f g:Nat):Int)*4294967296:=by
  rw [IntKind.wrap_u64,IntKind.wrap_u64];omega
 rw [←b6] at b5;have B5:=ae b5;clear b5 b6;generalize eI p f g=V at*;generalize gC p f g=N at*
 go_enter Tryz.func125,Tryz.ntmps125
 go_upto_region 1 with fail
 have hb:=ak.new w [.int .i64 p,.int .i64 f,.int .i64 g] 31;have hF:=(Fr.refl (fun _=>False) w).alloc (.cells #[.int .i64 p,.int .i64 f,.int .i64 g] 31);generalize w.alloc (.cells #[.int .i64 p,.int .i64 f,.int .i64 g] 31)=W at*;obtain ⟨p0,p1,p2⟩:=ch hb;have HB:=ae hb;clear hb;go_wp2_with fail
 refine (HC.out _).mono ?_;rintro e w1 ⟨rfl,hf1⟩;obtain ⟨q0,q1,q2⟩:=ch (HB.out.frame hf1 (fun h=>h));have hf2:=hF.trans hf1 (fun _ h=>h.elim);clear p0 p1 p2 hF hf1;go_wp2;go_ret2;refine ⟨?_,hf2⟩;rw [←B5.out];rfl
theorem og (a:Nat) (ha:a<4294967296) (x:Int) (hx:x=(a:Int)):bits .and .u32 x 255=((a% 256:Nat):Int):=by
 subst hx;have h:=u32_and_nat a 255 ha (by decide);rw [show a&&&255=a% 256 from Nat.and_two_pow_sub_one_eq_mod a 8] at h;exact h
def xt (w:World) (p f g:Nat) (e:Ending) (w':World):Prop:=e= .returned (.tuple #[bP p f g,.int .i64 0])∧Fr (fun _=>False) w w'
theorem di {P:Program} {fn:Func} {p u:Tmp} {ty:TypeId} (h:fn.results= #[.cell p ty,.tmp u]) (tmps:Array Value) (w:World) (g:Nat) (t:TypeId) (cs:Array Value) (fr:Nat×Nat) (d:TypeDesc)
  (hp:tmps.getD p undef= .pointer (some ⟨g,0,none⟩)) (hg:w.heap[g]? =some (.cells cs t fr))
  (hu:P.underlying ty=some d) (hd:(match d with| .struct _| .array _ _=>true|_=>false)=true) (hi:(P.info? ty).map (·.size)=some cs.size):
  (results fn tmps).run P w= .ok (.tuple #[.agg cs,tmps.getD u undef]) w:=by
 rw [results_cell_tmp h,hp];simp [asAddr,run_loadVar_row w g t ty cs fr d hg hu hd hi,Result.andThen]
theorem uq (p f g:Int):(#[Value.int .i64 p,.int .i64 f,.int .i64 g]:Array Value).all (·.oneCell')=true:=
 Go.all_oneCell_toArray (cs:=[.int .i64 p,.int .i64 f,.int .i64 g]) (fun v hv=>by simp only [List.mem_cons,List.not_mem_nil,or_false] at hv;rcases hv with rfl|rfl|rfl<;>rfl)
theorem rF (p f g:Nat) (h:bw p f g) (w:World):Calls Tryz.prog 164 #[.int .u64 (eI p f g:Int)] w (xt w p f g):=by
 have HC:=ae (eC p f g);rw [if_pos h] at HC;obtain ⟨h1,h2,h3,h4,h5,h6,h7⟩:=h;unfold bP at HC;unfold iA at HC;have hN:gC p f g=p+f*256+g*65536+165*16777216:=rfl;have hV:eI p f g=(4294967295-gC p f g)*4294967296+gC p f g:=rfl;have hlt:=oW (p:=p) (f:=f) (g:=g) (by omega) (by omega) (by omega);have e5n:eI p f g/4294967296=4294967295-gC p f g:=by rw [hV];omega
 have e5:IntKind.u32.wrap ((eI p f g:Int)/4294967296)=((4294967295-gC p f g:Nat):Int):=by
  rw [show (eI p f g:Int)/4294967296=((eI p f g/4294967296:Nat):Int) by simp,e5n,IntKind.wrap_u32];omega
 have e0:IntKind.u32.wrap (eI p f g:Int)=(gC p f g:Int):=by rw [IntKind.wrap_u32];omega
 have e1:bits .and .u32 (gC p f g:Int) 255=(p:Int):=by rw [og _ hlt _ rfl];omega
 have e2:bits .and .u32 ((gC p f g:Int)/256) 255=(f:Int):=by rw [og (gC p f g/256) (by omega) _ (by simp)];omega
 have e3:bits .and .u32 ((gC p f g:Int)/65536) 255=(g:Int):=by rw [og (gC p f g/65536) (by omega) _ (by simp)];omega
 have e4:(gC p f g:Int)/16777216=165:=by omega
 have e6:=wY (gC p f g) hlt;have hsg:IntKind.u32.signed=false:=rfl;have HS3:Hid ((Tryz.prog.info? 31).map (·.size)=some 3):=by show _=_;kernel_rfl
 have HON:=ae (uq p f g);clear e5n;generalize eI p f g=V at*;generalize gC p f g=N at*;clear hN hV
 go_enter Tryz.func164,Tryz.ntmps164
 go_upto_region 1 with fail
 generalize hW0:World.alloc w _=W0;have hbR:ak W0 w.heap.size [.int .i64 0,.int .i64 0,.int .i64 0] 31:=by rw [←hW0];exact ak.new w [.int .i64 0,.int .i64 0,.int .i64 0] 31
 have hF0:Fr (fun _=>False) w W0:=by rw [←hW0];exact (Fr.refl _ w).alloc _
 clear hW0
 go_upto_region 3 with (refine wpList_store_row rfl 31 _ _ rfl W0.heap.size #[.int .i64 p,.int .i64 f,.int .i64 g] rfl rfl 31 _ (heap_alloc_new _ _) HS3.out rfl HON.out ?_)
 generalize hW2:(World.alloc W0 _).setRow W0.heap.size _=W2;have hb2:ak W2 W0.heap.size [.int .i64 p,.int .i64 f,.int .i64 g] 31:=by rw [←hW2];exact setRow_heap _ _ _ _ _ _ (heap_alloc_new W0 _)
 have hf2:Fr (fun _=>False) W0 W2:=by
  rw [←hW2];exact ((Fr.refl _ W0).alloc _).trans (S':=fun i=>i=W0.heap.size) ⟨rfl,rfl,rfl,by simp,fun i _ h=>setRow_other _ _ _ _ (fun e=>h e)⟩ (fun i h=> .inr (by omega))
 clear hW2;have hbR2:=hbR.frame hf2 (fun h=>h);have hF2:=hF0.trans hf2 (fun _ h=>h.elim);obtain ⟨p0,p1,p2⟩:=ch hb2;have HB2:=ae hb2;have HBR:=ae hbR2;have HF2:=ae hF2;clear hbR hF0 hf2 hb2 hbR2 hF2;go_wp2_with fail
 refine (HC.out _).mono ?_;rintro e w3 ⟨rfl,hf3⟩;have hb3:=HB2.out.frame hf3 (fun h=>h);have hr3:=HBR.out.frame hf3 (fun h=>h);have hF3:=HF2.out.trans hf3 (fun _ h=>h.elim);clear p0 p1 p2 hf3;obtain ⟨q0,q1,q2⟩:=ch hb3;have ht3:w3.there w.heap.size 0 3:=fun i hi=>by
  match i,hi with
  |0,_=>exact ⟨by rw [hr3.cell 0 rfl];rfl,hr3.free 0⟩
  |1,_=>exact ⟨by rw [hr3.cell 1 rfl];rfl,hr3.free 1⟩
  |2,_=>exact ⟨by rw [hr3.cell 2 rfl];rfl,hr3.free 2⟩
 have hb4:ak (w3.setCells w.heap.size 0 [.int .i64 p,.int .i64 f,.int .i64 g]) w.heap.size [.int .i64 p,.int .i64 f,.int .i64 g] 31:=((hr3.set 0 _).set 1 _).set 2 _;have hf4:Fr (fun _=>False) w (w3.setCells w.heap.size 0 [.int .i64 p,.int .i64 f,.int .i64 g]):=
  ((hF3.setCell ⟨w.heap.size,0,none⟩ (.inr (Nat.le_refl _)) _).setCell ⟨w.heap.size,1,none⟩ (.inr (Nat.le_refl _)) _).setCell ⟨w.heap.size,2,none⟩ (.inr (Nat.le_refl _)) _
 have HT3:=ae ht3;have HB4:=ae hb4;have HF4:=ae hf4;clear hb3 hr3 hF3 ht3 hb4 hf4;go_wp2_with (refine wpList_store_mid rfl 31 _ _ rfl w.heap.size 0 #[.int .i64 p,.int .i64 f,.int .i64 g] rfl rfl HT3.out HS3.out HON.out ?_)
 refine bodyPost_ret (di rfl _ _ _ _ _ _ _ rfl HB4.out Tryz.underlying31 rfl HS3.out) rfl ?_;exact ⟨rfl,HF4.out⟩
def cJ (p f g i:Int):Int:=if i<0∨cu p f g-1≤i then 0 else if i<p then 1 else if i<p+f then 2 else 3
theorem ik (p f g i:Int) (h:bw p f g) (w:World):Calls Tryz.prog 195 #[bP p f g,.int .i64 i] w (dN w (cJ p f g i)):=by
 have HS:=ae (cY p f g);have hs:cu p f g=1+p+f+g:=if_pos h;have hk:cJ p f g i=if i<0∨p+f+g≤i then 0 else if i<p then 1 else if i<p+f then 2 else 3:=by
  unfold cJ;rw [hs,show 1+p+f+g-1=p+f+g by omega]
 rw [hs] at HS;rw [hk];obtain ⟨h1,h2,h3,h4,h5,h6,h7⟩:=h;clear hs hk;unfold bP at*;unfold dN at HS;obtain ⟨K,hK⟩:∃K,(if i<0∨p+f+g≤i then (0:Int) else if i<p then 1 else if i<p+f then 2 else 3)=K:=⟨_,rfl⟩;have K0:=ae (show (i<0∨p+f+g≤i)→K=0 from fun h=>by rw [←hK,if_pos h]);have K1:=ae (show¬(i<0∨p+f+g≤i)→i<p→K=1 from fun h h'=>by rw [←hK,if_neg h,if_pos h']);have K2:=ae (show¬(i<0∨p+f+g≤i)→¬i<p→i<p+f→K=2 from fun h h' h2=>by rw [←hK,if_neg h,if_neg h',if_pos h2]);have K3:=ae (show¬(i<0∨p+f+g≤i)→¬i<p→¬i<p+f→K=3 from fun h h' h2=>by rw [←hK,if_neg h,if_neg h',if_neg h2]);rw [hK];clear hK;have HQ:Hid (∀n w',K=n→Fr (fun _=>False) w w'→dN w K (.returned (.int .i64 n)) w'):=fun n w' e hf=>⟨by rw [e],hf⟩
 go_enter Tryz.func195,Tryz.ntmps195
 go_upto_region 1 with fail
 have hb:=ak.new w [.int .i64 p,.int .i64 f,.int .i64 g] 31;have hF:=(Fr.refl (fun _=>False) w).alloc (.cells #[.int .i64 p,.int .i64 f,.int .i64 g] 31);generalize w.alloc (.cells #[.int .i64 p,.int .i64 f,.int .i64 g] 31)=W at*;obtain ⟨p0,p1,p2⟩:=ch hb;have HB:=ae hb;have HF:=ae hF;clear hb hF;by_cases i0:i<0
 ·go_wp2;go_ret;exact HQ.out 0 _ (K0.out (.inl i0)) HF.out
 ·go_wp2_with fail
  refine (HS.out _).mono ?_;rintro e w1 ⟨rfl,hf1⟩;obtain ⟨q0,q1,q2⟩:=ch (HB.out.frame hf1 (fun h=>h));have HF2:=ae (HF.out.trans hf1 (fun _ h=>h.elim));clear p0 p1 p2 hf1;have hw:IntKind.i64.wrap (1+p+f+g-1)=p+f+g:=by rw [IntKind.wrap_i64];omega
  by_cases i1:p+f+g≤i
  ·have d1:decide (1+p+f+g-1≤i)=true:=by rw [decide_eq_true_eq];omega
   go_wp2;go_ret;exact HQ.out 0 _ (K0.out (.inr i1)) HF2.out
  ·have d1:decide (1+p+f+g-1≤i)=false:=by rw [decide_eq_false_iff_not];omega
   by_cases i2:i<p
   ·go_wp2;go_ret;exact HQ.out 1 _ (K1.out (by omega) i2) HF2.out
   ·by_cases i3:i<p+f
    ·go_wp2;go_ret;exact HQ.out 2 _ (K2.out (by omega) i2 i3) HF2.out
    ·go_wp2;go_ret;exact HQ.out 3 _ (K3.out (by omega) i2 i3) HF2.out
abbrev dW:=(Nat→Nat)→(Nat→Prop)→World→Prop
def dM (I:dW) (L:Nat→Nat) (S:Nat→Prop) (W W':World):Prop:=∃S':Nat→Prop,I L S' W'∧Fr S W W'∧∀k,S' k→S k∨W.heap.size≤k
def cP (I:dW):Prop:=∀L S W W' (T:Nat→Prop),I L S W→Fr T W W'→(∀k,S k→¬T k)→I L S W'
structure ba (t:TypeId) (v:Value) (fl:Nat) (r:Value) (I:dW) (dom:Nat→Prop):Prop where
 mload:∀w,(method 476 t v "Load").run Tryz.prog w= .ok (fl,r) w
 eload:∀args w,(callFunc fl args).run Tryz.prog w= .ok (.enter fl args) w
 stays:∀L S W W' (T:Nat→Prop),I L S W→Fr T W W'→(∀k,S k→¬T k)→¬T 1→I L S W'
 tabl:cP I∨∀L S W,I L S W→1<W.heap.size
 lt:∀L S W,I L S W→∀k,S k→k<W.heap.size
 load:∀L S W a,I L S W→dom a→Calls Tryz.prog fl #[r,.int .i64 ((a:Nat):Int)] W fun e W'=>e= .returned (.tuple #[.int .u64 ((L a:Nat):Int),.int .i64 0])∧dM I L S W W'
structure ka (t:TypeId) (v:Value) (fs:Nat) (r:Value) (I:dW) (dom:Nat→Prop):Prop where
 mstore:∀w,(method 476 t v "Store").run Tryz.prog w= .ok (fs,r) w
 estore:∀args w,(callFunc fs args).run Tryz.prog w= .ok (.enter fs args) w
 store:∀L S W a x,I L S W→dom a→x<18446744073709551616→Calls Tryz.prog fs #[r,.int .i64 ((a:Nat):Int),.int .u64 ((x:Nat):Int)] W fun e W'=>e= .returned (.int .i64 0)∧dM I (bG L a x) S W W'
section
variable {t:TypeId} {v:Value} {fl fs:Nat} {r:Value} {I:dW} {dom:Nat→Prop} {L L' L'':Nat→Nat} {S:Nat→Prop} {w w1 w2:World}
theorem ba.keep (h:ba t v fl r I dom) (hi:I L S w) (hf:Fr (fun _=>False) w w1):I L S w1:=h.stays L S w w1 _ hi hf (fun _ _ h=>h) (fun h=>h)
theorem ba.stays_new (h:ba t v fl r I dom) {L0:Nat→Nat} {S0:Nat→Prop} {w0:World} (h0:I L0 S0 w0) (hi:I L S w) {T:Nat→Prop} (hf:Fr T w w1) (hn:∀k,S k→¬T k) (hT:∀k,T k→w0.heap.size≤k):I L S w1:=by
 rcases h.tabl with hs|hs
 ·exact hs L S w w1 T hi hf hn
 ·exact h.stays L S w w1 T hi hf hn (fun ht=>by have:=hT _ ht;have:=hs L0 S0 w0 h0;omega)
theorem dM.trans (h:dM I L S w w1) (h':∀S1,I L S1 w1→dM I L' S1 w1 w2):dM I L' S w w2:=by
 obtain ⟨S1,q1,q2,q3⟩:=h;obtain ⟨S2,r1,r2,r3⟩:=h' S1 q1;have hz:=q2.size;exact ⟨S2,r1,q2.trans r2 q3,fun k hk=>by
  rcases r3 k hk with h|h
  ·exact q3 k h
  ·exact .inr (by omega)⟩
theorem ba.Fh (h:ba t v fl r I dom) (hi:I L S w) (hf:Fr (fun _=>False) w w1):dM I L S w w1:=⟨S,h.keep hi hf,hf.mono (fun _ h=>h.elim),fun _ h=> .inl h⟩
theorem ba.behind (h:ba t v fl r I dom) (hp:dM I L S w w1) (hf:Fr (fun _=>False) w1 w2):dM I L S w w2:=hp.trans (fun _ h1=>h.Fh h1 hf)
theorem ba.Ah (h:ba t v fl r I dom) (hf:Fr (fun _=>False) w w1) (hi:I L S w) (hp:dM I L' S w1 w2):dM I L' S w w2:=by
 obtain ⟨S2,r1,r2,r3⟩:=hp;have hz:=hf.size;exact ⟨S2,r1,(hf.mono (S':=S) (fun _ h=>h.elim)).trans r2 (fun _ h=> .inl h),fun k hk=>(r3 k hk).imp id (fun h=>by omega)⟩
theorem dM.blk (hp:dM I L S w w1) {b:Nat} {c:List Value} {ty:TypeId} (hb:ak w b c ty) (hn:¬S b):ak w1 b c ty:=let ⟨_,_,q2,_⟩:=hp;hb.frame q2 hn
def d9 (L:Nat→Nat) (a p f g:Nat):Prop:=L a=eI p f g∧bw p f g
def lm (I:dW) (L:Nat→Nat) (S:Nat→Prop) (w:World) (p f g:Nat) (e:Ending) (w':World):Prop:=e= .returned (.tuple #[bP p f g,.int .i64 0])∧dM I L S w w'
theorem eZ (hs:ba t v fl r I dom) (hi:I L S w) (a p f g:Nat) (ha:1≤a) (hd:dom a) (ho:d9 L a p f g):Calls Tryz.prog 88 #[.iface t v,.int .i64 a] w (lm I L S w p f g):=by
 have HM:=hs.mload;have HE:=hs.eload;have HS3:Hid ((Tryz.prog.info? 31).map (·.size)=some 3):=by show _=_;kernel_rfl
 have HON:=ae (uq p f g);have HT:=ae (rF p f g ho.2);have HL:=ae (fun w1 (hf:Fr (fun _=>False) w w1)=>hs.load L S w1 a (hs.keep hi hf) hd);rw [ho.1] at HL;have hSl:=hs.lt _ _ _ hi;have hend:∀w1 w2 w3 W,Fr (fun _=>False) w w1→ak w1 w.heap.size [.int .i64 0,.int .i64 0,.int .i64 0] 31→dM I L S w1 w2→Fr (fun _=>False) w2 w3→
   w3.there w.heap.size 0 3∧(W=w3.setCells w.heap.size 0 [.int .i64 p,.int .i64 f,.int .i64 g]→ak W w.heap.size [.int .i64 p,.int .i64 f,.int .i64 g] 31∧dM I L S w W):=by
  intro w1 w2 w3 W hf1 hb1 hp hf3;have hns:¬S w.heap.size:=fun h=>by have:=hSl _ h;omega
  have hr3:=(hp.blk hb1 hns).frame hf3 (fun h=>h);refine ⟨fun i hi=> ?_,?_⟩
  ·match i,hi with
   |0,_=>exact ⟨by rw [hr3.cell 0 rfl];rfl,hr3.free 0⟩
   |1,_=>exact ⟨by rw [hr3.cell 1 rfl];rfl,hr3.free 1⟩
   |2,_=>exact ⟨by rw [hr3.cell 2 rfl];rfl,hr3.free 2⟩
  ·rintro rfl;refine ⟨((hr3.set 0 _).set 1 _).set 2 _,?_⟩;obtain ⟨S2,q1,q2,q3⟩:=hs.behind hp hf3;have hz1:=hf1.size;have l1:=hb1.lt;have hfs:Fr (fun k=>k=w.heap.size) w3 (w3.setCells w.heap.size 0 [.int .i64 p,.int .i64 f,.int .i64 g]):=
    (((Fr.refl (fun k=>k=w.heap.size) w3).setCell ⟨w.heap.size,0,none⟩ (.inl rfl) _).setCell ⟨w.heap.size,1,none⟩ (.inl rfl) _).setCell ⟨w.heap.size,2,none⟩ (.inl rfl) _
   have hn2:¬S2 w.heap.size:=fun h=>by
    rcases q3 _ h with h|h
    ·exact hns h
    ·omega
   exact ⟨S2,hs.stays_new hi q1 hfs (fun k hk e=>hn2 (by rw [←e];exact hk)) (fun k hk=>Nat.le_of_eq hk.symm),((hf1.mono (S':=S) (fun _ h=>h.elim)).trans q2 (fun _ h=> .inl h)).trans hfs (fun k hk=> .inr (by omega)),fun k hk=>(q3 k hk).imp id (fun h=>by omega)⟩
 have HEND:=ae hend;have ha0:(1:Int)≤(a:Int):=by omega
 clear hs hi hd ho hSl hend
 go_enter Tryz.func88,Tryz.ntmps88
 go_upto_region 1 with fail
 generalize hW0:World.alloc w _=W0;have hbR:ak W0 w.heap.size [.int .i64 0,.int .i64 0,.int .i64 0] 31:=by rw [←hW0];exact ak.new w [.int .i64 0,.int .i64 0,.int .i64 0] 31
 have hF0:Fr (fun _=>False) w W0:=by rw [←hW0];exact (Fr.refl _ w).alloc _
 clear hW0;have HL0:=ae (HL.out W0 hF0);have HE0:=ae (fun w2 w3 W hp hf3=>HEND.out W0 w2 w3 W hF0 hbR hp hf3);clear hbR hF0 HL HEND;go_wp2_with fail
 refine (HL0.out).mono ?_;rintro e w2 ⟨rfl,hp⟩;have HE2:=ae (fun w3 W hf3=>HE0.out w2 w3 W hp hf3);clear hp HE0 HL0;go_wp2_with fail
 refine (HT.out _).mono ?_;rintro e w3 ⟨rfl,hf3⟩;have HT3:=ae (HE2.out w3 w3 hf3).1;have HE3:=ae (fun W hW=>(HE2.out w3 W hf3).2 hW);unfold bP;clear hf3 HE2;go_wp2_with (refine wpList_store_mid rfl 31 _ _ rfl w.heap.size 0 #[.int .i64 p,.int .i64 f,.int .i64 g] rfl rfl HT3.out HS3.out HON.out ?_)
 obtain ⟨hbW,hpW⟩:=HE3.out _ rfl;refine bodyPost_ret (di rfl _ _ _ _ _ _ _ rfl hbW Tryz.underlying31 rfl HS3.out) rfl ?_;exact ⟨rfl,hpW⟩
end
def cw (I:dW) (L:Nat→Nat) (S:Nat→Prop) (w:World) (r:Value) (e:Ending) (w':World):Prop:=e= .returned r∧dM I L S w w'
section
variable {t:TypeId} {v:Value} {fl fs:Nat} {r:Value} {I:dW} {dom:Nat→Prop} {L L' L'':Nat→Nat} {S:Nat→Prop} {w w1 w2:World}
theorem kS (hs:ba t v fl r I dom) (hi:I L S w) (a i p f g kd:Nat) (ha:1≤a) (hA:a<4611686018427387904) (hI:i<256) (hd:dom a) (ho:d9 L a p f g) (hk:cJ p f g i=kd):Calls Tryz.prog 131 #[.iface t v,.int .i64 a,.int .i64 i,.int .i64 kd] w (cw I L S w (.tuple #[.int .i64 ((a+1+i:Nat):Int),.int .i64 0])):=by
 have HR:=ae (eZ hs hi a p f g ha hd ho);have HK:=ae (fun w1=>ik p f g i ho.2 w1);rw [hk] at HK;unfold dN at HK;have w1:IntKind.i64.wrap ((a:Int)+1)=(a:Int)+1:=by rw [IntKind.wrap_i64];omega
 have w2:IntKind.i64.wrap ((a:Int)+1+(i:Int))=(a:Int)+1+(i:Int):=by rw [IntKind.wrap_i64];omega
 have HEND:=ae (fun W1 o W2 (hp:dM I L S w W1) (hf:Fr (fun _=>False) (W1.alloc o) W2)=>hs.behind hp (((Fr.refl (fun _=>False) W1).alloc o).trans hf (fun _ h=>h.elim)));unfold lm at HR;clear hs hi hd ho hk ha hA hI;unfold bP at HR HK
 go_enter Tryz.func131,Tryz.ntmps131
 go_upto_region 1 with fail
 go_wp2_with fail
 refine (HR.out).mono ?_;rintro e W1 ⟨rfl,hp⟩;go_wp2_with fail
 refine (HK.out _).mono ?_;rintro e W2 ⟨rfl,hf⟩;have hp2:=HEND.out _ _ _ hp hf;clear hp hf HEND HR HK;go_wp2;go_ret2;exact ⟨by simp,hp2⟩
theorem iw {S1:Nat→Prop} (q2:Fr S w w1) (q3:∀k,S1 k→S k∨w.heap.size≤k) (hr:dM I L' S1 w1 w2):dM I L' S w w2:=by
 obtain ⟨S2,r1,r2,r3⟩:=hr;have hz:=q2.size;exact ⟨S2,r1,q2.trans r2 q3,fun k hk=>by
  rcases r3 k hk with h|h
  ·exact q3 k h
  ·exact .inr (by omega)⟩
theorem dM.load (hs:ba t v fl r I dom) {a x:Nat} (hd:dom a) (hx:L a=x) (hp:dM I L S w w1):Calls Tryz.prog fl #[r,.int .i64 ((a:Nat):Int)] w1 (cw I L S w (.tuple #[.int .u64 x,.int .i64 0])):=by
 obtain ⟨S1,h1,h2,h3⟩:=hp;have h:=hs.load L S1 w1 a h1 hd;rw [hx] at h;exact h.mono (fun e W' ⟨he,hq⟩=>⟨he,iw h2 h3 hq⟩)
theorem dM.store (hs:ka t v fs r I dom) {a x:Nat} (hd:dom a) (hx:x<18446744073709551616) (hp:dM I L S w w1):Calls Tryz.prog fs #[r,.int .i64 ((a:Nat):Int),.int .u64 ((x:Nat):Int)] w1 (cw I (bG L a x) S w (.int .i64 0)):=by
 obtain ⟨S1,h1,h2,h3⟩:=hp;exact (hs.store L S1 w1 a x h1 hd hx).mono (fun e W' ⟨he,hq⟩=>⟨he,iw h2 h3 hq⟩)
theorem wi (hs:ba t v fl r I dom) (hi:I L S w) (a i p f g kd x:Nat) (ha:1≤a) (hA:a<4611686018427387904) (hI:i<256) (hd:dom a) (ho:d9 L a p f g) (hk:cJ p f g i=kd) (hd2:dom (a+1+i)) (hx:L (a+1+i)=x):Calls Tryz.prog 163 #[.iface t v,.int .i64 a,.int .i64 i,.int .i64 kd] w (cw I L S w (.tuple #[.int .u64 x,.int .i64 0])):=by
 have HP:=ae (kS hs hi a i p f g kd ha hA hI hd ho hk);have HM:=hs.mload;have HE:=hs.eload;have HL:=ae (fun w1 (h:dM I L S w w1)=>dM.load hs hd2 hx h);obtain ⟨z,hz⟩:∃z:Int,z=((a+1+i:Nat):Int):=⟨_,rfl⟩;rw [←hz] at HP HL;clear hs hi hd ho hk hd2 hx hz ha hA hI;obtain ⟨Q,hQ⟩:∃Q,Q=cw I L S w (.tuple #[.int .u64 x,.int .i64 0]):=⟨_,rfl⟩;rw [←hQ] at HL ⊢;have HQ:Hid (∀e w',Q e w'→e= .returned (.tuple #[.int .u64 x,.int .i64 0])∧dM I L S w w'):=by show∀e w',_;intro e w' h;rw [hQ] at h;exact h
 have HQ':Hid (∀w',dM I L S w w'→Q (.returned (.tuple #[.int .u64 x,.int .i64 0])) w'):=by show∀w',_;intro w' h;rw [hQ];exact ⟨rfl,h⟩
 clear hQ;unfold cw at HP
 go_enter Tryz.func163,Tryz.ntmps163
 go_wp2_with fail
 refine (HP.out).mono ?_;rintro e W1 ⟨rfl,hp⟩;have HL1:=ae (HL.out _ hp);clear hp HL HP;go_wp2_with fail
 refine (HL1.out).mono ?_;intro e W2 hp;obtain ⟨rfl,hp2⟩:=HQ.out _ _ hp;clear hp HL1;go_wp2;exact HQ'.out _ hp2
end
end Go.Proofs.YthahbijbpinneaaGreatDoor
