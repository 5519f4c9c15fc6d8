import Derived.Test.YthahbijbpinneaaGreatDoorA8
import Derived.Test.YthahbijbpinneaaGreatDoorA9
import Derived.Test.YthahbijbpinneaaGreatDoorA14
import Derived.Test.YthahbijbpinneaaGreatDoorA22
set_option maxRecDepth 100000
set_option maxHeartbeats 8000000
set_option linter.all false
namespace Go.Proofs.YthahbijbpinneaaGreatDoor
open Go.RowKit
def yJ (c:Cf) (m Ba top lo y n:Nat) (L:Nat→Nat) (S:Nat→Prop) (w:World):Prop:=
 ∃cc s hf hg Mv fr ah Us,pR cc s hf hg c.Fs top∧j7 cc s hf hg c.Fs top Mv n fr ah Us L S w∧cc.y=y∧cc.m=m∧s.to_=Ba∧s.P=c.Pg∧s.R=c.Wd/c.Pg∧s.W=c.W∧s.B=c.block∧s.Ah=c.Ah∧s.to_+s.N≤lo
def yK (c:Cf) (m Ba top lo:Nat) (L:Nat→Nat) (S:Nat→Prop) (w:World):Option Nat→Nat→Prop
 |none,_=>True
 |some y,n=>yJ c m Ba top lo y n L S w
def xj (b:Nat) (c:Cf) (A:AG) (rs:List Nat) (u sz n:Nat) (T:Nat→Prop) (w:World) (a:Nat):Prop:=
 ∃h φ L Ba ub cy ns bs S,h.b=b∧fU (fun _=>True) h c A rs φ L Ba (u+sz) ub cy n ns bs S w∧(∀k,T k↔gj h ub S k)∧(n=0→cy=none)∧aP A rs φ L Ba (Ba+u)∧a=Ba+u∧yK c h.m Ba (Ba+(u+sz)) (Ba+u) L S w cy n
section
variable {b u n:Nat} {c:Cf} {A:AG} {rs:List Nat} {T:Nat→Prop} {w w':World}
theorem b8.q0 (hi:b8 b c A rs u 0 T w) (q:Nat→Prop):xY q b c A rs u 0 T w:=by
 obtain ⟨h,φ,L,Ba,ub,cy,ns,bs,S,rfl,hw,hT,hcy⟩:=hi;obtain rfl:=hcy rfl;exact ⟨h,φ,L,Ba,ub,none,ns,bs,S,rfl,⟨hw.cok,hw.blk,hw.roots,hw.reg,hw.tab,hw.laid,hw.Sl,hw.fits,hw.half,hw.mem,hw.d,hw.e⟩,hT,hcy⟩
theorem so {Ba Pg top sz:Nat} {mp:Nat→Bool} (hp:1≤Pg) (hb:Ba% Pg=0) (h1:1≤sz) (hbt:Ba≤top) (hmp:∀q,mp q=(decide (Ba≤q*Pg)&&decide (q*Pg<top))) (q:Nat):(mp q||(decide (top/Pg≤q)&&decide (q≤(top+sz-1)/Pg)))=(decide (Ba≤q*Pg)&&decide (q*Pg<top+sz)):=by
 have hin:=qB (P:=Pg) (a:=top) (b:=top+sz) (q:=q) hp (by omega);have hB:Ba=Ba/Pg*Pg:=by have:=Nat.div_add_mod Ba Pg;rw [Nat.mul_comm];omega
 rw [hmp,Bool.eq_iff_iff];simp only [Bool.and_eq_true,Bool.or_eq_true,decide_eq_true_eq];rw [hin];constructor
 ·rintro (⟨h2,h3⟩|⟨k,h2,h3,h4⟩)
  ·exact ⟨h2,by omega⟩
  ·have h5:=Nat.div_le_div_right (c:=Pg) (show Ba≤k by omega);have h6:=Nat.mul_le_mul_right Pg h5;have h7:=Nat.div_mul_le_self k Pg;rw [h4] at h6 h7;exact ⟨by omega,by omega⟩
 ·rintro ⟨h2,h3⟩;by_cases h4:q*Pg<top
  ·exact .inl ⟨h2,h4⟩
  ·exact .inr ⟨q*Pg,by omega,h3,Nat.mul_div_cancel _ (by omega)⟩
theorem vI {Ba top Pg R N:Nat} {mp:Nat→Bool} (hp:1≤Pg) (hb:Ba% Pg=0) (ht:top≤Ba+R*Pg) (hmp:∀q,mp q=(decide (Ba≤q*Pg)&&decide (q*Pg<top))):cnt mp 0 N≤R:=by
 have hB:Ba=Ba/Pg*Pg:=by have:=Nat.div_add_mod Ba Pg;rw [Nat.mul_comm];omega
 refine eA (a:=Ba/Pg) (fun i _ hi=> ?_);rw [hmp,Bool.and_eq_true,decide_eq_true_eq,decide_eq_true_eq] at hi;refine ⟨Nat.div_le_of_le_mul (by rw [Nat.mul_comm];exact hi.1),?_⟩;refine Nat.lt_of_mul_lt_mul_right (a:=Pg) ?_;rw [Nat.add_mul,←hB];omega
theorem qZ {mp:Nat→Bool} {top sz Pg:Nat} (hp:1≤Pg) (h1:1≤sz):cnt (bR mp) (top/Pg) ((top+sz-1)/Pg+1)≤sz/Pg+2:=by
 have h2:=be (bR mp) (top/Pg) ((top+sz-1)/Pg+1);have h3:(top+sz-1)/Pg≤top/Pg+(sz/Pg+1):=by
  have e1:=Nat.div_add_mod top Pg;have e2:=Nat.div_add_mod sz Pg;have e3:=Nat.mod_lt top (show Pg>0 by omega);have e4:=Nat.mod_lt sz (show Pg>0 by omega);rw [←Nat.lt_succ_iff,Nat.div_lt_iff_lt_mul (by omega)];have e5:(top/Pg+(sz/Pg+1)).succ*Pg=Pg*(top/Pg)+Pg*(sz/Pg)+Pg+Pg:=by
   rw [Nat.succ_mul,Nat.add_mul,Nat.add_mul,Nat.one_mul,Nat.mul_comm (top/Pg),Nat.mul_comm (sz/Pg)];omega
  rw [e5];omega
 generalize (top+sz-1)/Pg=X at*;generalize top/Pg=Y at*;generalize sz/Pg=Z at*;omega
theorem cM.wordsq (hc:cM c):c.Wd/c.Pg*c.Pg=c.Wd:=by have:=Nat.div_add_mod c.Wd c.Pg;have:=hc.wp;rw [Nat.mul_comm];omega
theorem fU.ran {q q':Nat→Prop} {h:Hp} {φ L L':Nat→Nat} {Ba ub u' n':Nat} {cy:Option Nat} {ns bs:Int} {S S':Nat→Prop} {A':AG} (hw:fU q h c A rs φ L Ba u ub cy n ns bs S w) (hf:Fr (fun k=>S k∨k=ub) w w') (hs:∀k,S' k→S k∨w.heap.size≤k) (hr:bM w' ub h.m Ba (Ba+u') (Ba+c.Wd)) (hx:nZ c h.m Ba (Ba+u') q' L' S' w' cy n') (hl:aP A' rs φ L' Ba (Ba+u')) (hu:u'≤c.Wd):fU q' h c A' rs φ L' Ba u' ub cy n' ns bs S' w':=by
 have d:=hw.d;have hlt:=hw.lt;have htl:aN<w.heap.size:=aE (hw.tab 0 0 rfl);obtain ⟨e1,e2,e3,e4,e5,e6,e7,e8,e9⟩:=id hw.e;refine ⟨hw.cok,ak.frame hw.blk hf (fun h=>h.elim (fun h=>(d _ h).1 rfl) e3),hw.roots.frame hf (fun h=>h.elim (fun h=>(d _ h).2.1 rfl) e4) (fun h=>h.elim (fun h=>(d _ h).2.2.1 rfl) e5),hr,an hw.tab hf (fun h=>h.elim (fun h=>(d _ h).2.2.2.2 rfl) (Ne.symm e8)),hl,hw.Sl,hu,hw.half,hx,fun k hk=> ?_,hw.e⟩;rcases hs k hk with h1|h1
 ·exact d k h1
 ·have h2:=hlt _ (.inr (.inl rfl));have h3:=hlt _ (.inr (.inr (.inl rfl)));have h4:=hlt _ (.inr (.inr (.inr (.inl rfl))));have h5:=hlt _ (.inr (.inr (.inr (.inr rfl))));omega
theorem dL.mem2 {c:Cy} {s:bg} {hf hg:Nat→Nat} {Fs Us Hg used' Hg':Nat} {Sm Sm':Nat→Prop} {mp mp':Nat→Bool} {M M':Nat→Nat} {Mv:List Bool} {fw:Nat→Option Nat} {n left fr ah x:Nat} (h:dL c s hf hg Fs Us Hg Sm mp M Mv fw n left fr ah w) (hm:bl w' c.m Sm' s.P s.W Fs used' Hg' mp' M') (hf':Fr (fun k=>Sm k∨k=x) w w') (hs:∀k,Sm' k→Sm k∨w.heap.size≤k) (hx:¬c.has x) (hxt:x≠aN):dL c s hf hg Fs used' Hg' Sm' mp' M' Mv fw n left fr ah w':=by
 obtain ⟨ns,f,q1,q2⟩:=h.shp;have hn:∀k,c.has k→¬(Sm k∨k=x):=fun k hk hs=>hs.elim (fun hs=>(h.dm k hs).1 hk) (fun e=>hx (e▸hk))
 have ht:¬(Sm aN∨aN=x):=fun hs=>hs.elim (fun hs=>(h.dm _ hs).2 rfl) (Ne.symm hxt)
 exact ⟨h.blk.frame hf' (hn _ (.inl rfl)),hm,h.plan.frame hf' (fun i hi=>by
   by_cases hx:c.lo≤i∧i<c.hi
   ·exact absurd hi (hn i (.inr (.inr (.inr (.inr (.inr hx))))))
   ·omega),h.ext.frame hf' (fun k hk=>hn k (.inr (.inr (.inr (.inr (.inl hk)))))),an h.tab hf' ht,h.mv.frame hf' (hn _ (.inr (.inl rfl))),h.wds.frame hf' (hn _ (.inr (.inr (.inl rfl)))),⟨ns,f,q1.frame hf' (hn _ (.inr (.inr (.inr (.inl rfl))))),q2⟩,
  by have:=h.hib;have:=hf'.size;omega,fun k hk=>by
   rcases hs k hk with h1|h1
   ·exact h.dm k h1
   ·exact ⟨fun h2=>by have:=h.lt k h2;omega,fun e=>by have:=h.tabl;omega⟩,h.d,h.B,h.to_,h.len⟩
def yh (b:Nat) (c:Cf) (A:AG) (rs:List Nat) (u sz n:Nat) (T:Nat→Prop) (w:World) (a:Nat) (e:Ending) (w':World):Prop:=e= .returned (.tuple #[.int .i64 a,.int .i64 0])∧∃T',xj b c A rs u sz n T' w' a∧Fr T w w'∧∀k,T' k→T k∨w.heap.size≤k
theorem xB {sz:Nat} (hq:xY (fun Us=>Us+(sz/c.Pg+2)≤c.Wd/c.Pg) b c A rs u n T w) (h1:1≤sz) (hfit:u+sz≤c.Wd):∃ub a,w.cell? ⟨b,10,none⟩=some (.pointer (some ⟨ub,0,none⟩))∧Calls Tryz.prog 124 #[.pointer (some ⟨ub,0,none⟩),.int .i64 sz] w (yh b c A rs u sz n T w a):=by
 obtain ⟨h,φ,L,Ba,ub,cy,ns,bs,S,rfl,hw,hT,hcy⟩:=hq;have hle:=hw.half.le;have htp:=hw.half.top;have hpg:=hw.cok.page2;have hmod:=hw.half.mod hw.cok;have hwq:=hw.cok.wordsq;have hlw:=hw.laid.wide (hi':=Ba+(u+sz)) (by omega);have hdu:∀k,S k→k≠ub:=fun k hk=>(hw.d k hk).2.2.2.1
 refine ⟨ub,Ba+u,ak.cell hw.blk 10 rfl,?_⟩;have hTS:∀k,S k∨k=ub→T k:=fun k hk=>(hT k).2 (hk.elim .inl (fun e=> .inr (.inr (.inr (.inr e)))))
 cases cy with
 |none=>
  obtain ⟨hn0,Us,Hg,mp,⟨M,hm,hML⟩,hmp⟩:=id hw.mem;have hmp2:=so (sz:=sz) hpg hmod h1 (Nat.le_add_right Ba u) hmp;have hus:=hm.at.2.2.2.2.2.2.2.1;have hQ:(Ba+u+sz-1)/c.Pg+1≤c.W/c.Pg:=by
   rw [Nat.succ_le_iff,Nat.div_lt_iff_lt_mul (by omega)];have:=hw.cok.Wp;have h3:=Nat.div_add_mod c.W c.Pg;rw [Nat.mul_comm] at h3;omega
  have hor:=vH mp (fun q=>mp q||(decide ((Ba+u)/c.Pg≤q)&&decide (q<(Ba+u+sz-1)/c.Pg+1))) (e:=(Ba+u+sz-1)/c.Pg+1) (Q:=c.W/c.Pg) (Nat.le_succ_of_le (Nat.div_le_div_right (c:=c.Pg) (show Ba+u≤Ba+u+sz-1 by omega))) hQ (fun q=>rfl);have hcr:=vI (R:=c.Wd/c.Pg) (N:=c.W/c.Pg) (mp:=fun q=>mp q||(decide ((Ba+u)/c.Pg≤q)&&decide (q<(Ba+u+sz-1)/c.Pg+1))) hpg hmod (top:=Ba+u+sz) (by omega) (fun q=>by
   have:=hmp2 q;show (mp q||(decide ((Ba+u)/c.Pg≤q)&&decide (q<(Ba+u+sz-1)/c.Pg+1)))=_
   rw [←this];congr 2;rw [decide_eq_decide];omega)
  have hfrm:c.Wd/c.Pg≤c.Fs:=Nat.le_add_right _ _;refine (ko hw.reg hm (fun h=>hdu _ h rfl) sz h1 (by omega) (by omega) (by show Us+cnt (fun q=> !mp q) _ _≤_;omega)).mono ?_;rintro e w' ⟨rfl,hr,S',Hg',mp',M',g1,g2,g3,g4,g5⟩;have hlx:∀x,Reach A.gr rs x→∀i,i<A.sz x→(if mp' ((φ x+i)/c.Pg)=true then M' (φ x+i) else L (φ x+i))=L (φ x+i):=fun x hx i hi=>by
   have h5:=hw.laid.lies x hx;obtain ⟨d1,d2⟩:=jC hmp hmod (show Ba+u≤c.W by omega) (φ x+i) (by omega) (by omega);by_cases h6:mp' ((φ x+i)/c.Pg)=true
   ·rw [if_pos h6,g3 _ d1 d2,hML _ ⟨d1,d2⟩]
   ·rw [if_neg h6]
  refine ⟨rfl,gj h ub S',⟨h,φ,fun k=>if mp' (k/c.Pg)=true then M' k else L k,Ba,ub,none,ns,bs,S',rfl,hw.ran g4 g5 (by rw [←Nat.add_assoc];exact hr) ⟨hn0,_,Hg',mp',⟨M',g1,fun a ha=>(if_pos ha.2).symm⟩,fun q=> ?_⟩ (hlw.congr2 ?_) hfit,fun k=>Iff.rfl,fun _=>rfl,hw.laid.congr2 ?_,rfl,trivial⟩,g4.mono (fun k hk=> .inl (hTS k hk)),fun k hk=> ?_⟩
  ·rw [g2,hmp2 q,Nat.add_assoc]
  ·exact hlx
  ·exact hlx
  ·rcases hk with hk|hk
   ·exact (g5 k hk).imp (fun h=>(hT k).2 (.inl h)) id
   ·exact .inl ((hT k).2 (.inr hk))
 |some y=>
  obtain ⟨hk,cc,s,hf',hg,Mv,fr,ah,q1,⟨Us,hus,Hg,Sm,mp,M,fw,kk,p1,p2,p3,p4,p5⟩,r1,r2,r3,r4,r5,r6,r7,r8⟩:=id hw.mem;have hm:=p1.mem;rw [r2,r4,r6] at hm;have hlk:=qZ (mp:=mp) (top:=Ba+u) hpg h1;have hfrm:c.Wd/c.Pg≤c.Fs:=Nat.le_add_right _ _;refine (ko hw.reg hm (fun h=>hdu _ ((p5 _).2 (.inl h)) rfl) sz h1 (by omega) (by omega) (by omega)).mono ?_;rintro e w' ⟨rfl,hr,Sm',Hg',mp',M',g1,g2,g3,g4,g5⟩;have hlx:∀x,Reach A.gr rs x→∀i,i<A.sz x→(if Ba+u≤φ x+i then M' (φ x+i) else L (φ x+i))=L (φ x+i):=fun x hx i hi=>by
   have h5:=hw.laid.lies x hx;exact if_neg (by omega)
  have hg4:Fr (fun k=>S k∨k=ub) w w':=g4.mono (fun k hk=> .inl (hk.imp (fun h=>(p5 k).2 (.inl h)) id));have hs:∀k,(Sm' k∨cc.has k)→S k∨w.heap.size≤k:=fun k hk=>by
   rcases hk with hk|hk
   ·exact (g5 k hk).imp (fun h=>(p5 k).2 (.inl h)) id
   ·exact .inl ((p5 k).2 (.inr hk))
  have hu2:=g1.at.2.2.2.2.2.2.2.1;have hto:Ba+(u+sz)≤s.to_+s.R*s.P:=by rw [r3,r4,r5,hwq];omega
  have hlow:=q1.low1;have hct:pR cc s hf' hg c.Fs (Ba+(u+sz)):=⟨q1.ok,q1.hd,hto,by omega,q1.fr1,q1.to_,q1.nb,q1.ah,q1.N,q1.B,q1.a16⟩;have hcs:j7 cc s hf' hg c.Fs (Ba+(u+sz)) Mv n fr ah (Us+cnt (bR mp) ((Ba+u)/c.Pg) ((Ba+u+sz-1)/c.Pg+1)) (fun k=>if Ba+u≤k then M' k else L k) (fun k=>Sm' k∨cc.has k) w':=by
   refine ⟨Hg',Sm',mp',M',fw,kk,?_,?_,p3,p4,fun k=>Iff.rfl⟩
   ·exact p1.mem2 (by rw [r2,r4,r6];exact g1) g4 g5 (fun h=>hdu _ ((p5 _).2 (.inr h)) rfl) hw.e.2.2.2.2.2.2.2.1
   ·rw [←Nat.add_assoc];refine p2.grow q1.ok h1 hlow (by omega) (by rw [r4];exact g2) (fun k hk=>if_neg (by omega)) (fun k h1 h2 _=> ?_) (fun k h1 h2=>(if_pos h1).symm) ?_
    ·rw [r4] at h2;rw [r6] at h1;exact g3 k h1 h2
    ·rw [r4,r6,r5,←hu2];omega
  refine ⟨rfl,gj h ub (fun k=>Sm' k∨cc.has k),⟨h,φ,fun k=>if Ba+u≤k then M' k else L k,Ba,ub,some y,ns,bs,fun k=>Sm' k∨cc.has k,rfl,hw.ran hg4 hs (by rw [←Nat.add_assoc];exact hr) ⟨hk,cc,s,hf',hg,Mv,fr,ah,hct,⟨_,trivial,hcs⟩,r1,r2,r3,r4,r5,r6,r7,r8⟩ (hlw.congr2 hlx) hfit,fun k=>Iff.rfl,hcy,hw.laid.congr2 hlx,rfl,⟨cc,s,hf',hg,Mv,fr,ah,_,hct,hcs,r1,r2,r3,r4,r5,r6,r7,r8,hlow⟩⟩,hg4.mono (fun k hk=> .inl (hTS k hk)),fun k hk=> ?_⟩
  ·rcases hk with hk|hk
   ·exact (hs k hk).imp (fun h=>(hT k).2 (.inl h)) id
   ·exact .inl ((hT k).2 (.inr hk))
end
def l8 (b:Nat) (c:Cf) (A:AG) (rs l0:List Nat) (sz:Nat) (T:Nat→Prop) (w:World) (e:Ending) (w':World):Prop:=
 (A.Wd l0+sz≤c.Wd∧∃a u n T',e= .returned (.tuple #[.int .i64 ((a:Nat):Int),.int .i64 0])∧xj b c A rs u sz n T' w' a∧Fr T w w'∧∀k,T' k→T k∨w.heap.size≤k)∨
 (c.Wd<A.Wd l0+sz∧e= .returned (.tuple #[.int .i64 0,.int .i64 21])∧∃u n T',b8 b c A rs u n T' w'∧Fr T w w'∧∀k,T' k→T k∨w.heap.size≤k)
section
variable {b u n sz:Nat} {c:Cf} {A:AG} {rs l0:List Nat} {T:Nat→Prop} {w w':World}
theorem xA (hi:b8 b c A rs u n T w) (h1:1≤sz) (hn:c.Wd<u+sz):∃ub,w.cell? ⟨b,10,none⟩=some (.pointer (some ⟨ub,0,none⟩))∧Calls Tryz.prog 124 #[.pointer (some ⟨ub,0,none⟩),.int .i64 sz] w fun e w'=>e= .returned (.tuple #[.int .i64 0,.int .i64 21])∧Fr (fun _=>False) w w':=by
 obtain ⟨h,φ,L,Ba,ub,cy,ns,bs,S,rfl,hw,hT,hcy⟩:=hi;have hle:=hw.half.top;have:=hw.cok.W5;have hf:=hw.fits;exact ⟨ub,ak.cell hw.blk 10 rfl,qW hw.reg sz h1 (by omega) (by omega) (by omega)⟩
theorem xY.toI {q:Nat→Prop} (hq:xY q b c A rs u n T w):b8 b c A rs u n T w:=by
 obtain ⟨h,φ,L,Ba,ub,cy,ns,bs,S,rfl,hw,hT,hcy⟩:=hq;refine ⟨h,φ,L,Ba,ub,cy,ns,bs,S,rfl,⟨hw.cok,hw.blk,hw.roots,hw.reg,hw.tab,hw.laid,hw.Sl,hw.fits,hw.half,?_,hw.d,hw.e⟩,hT,hcy⟩
 cases cy with
 |none=>exact hw.mem
 |some y=>
  obtain ⟨hk,cc,s,hf',hg,Mv,fr,ah,q1,⟨Us,_,q2⟩,r1⟩:=hw.mem;exact ⟨hk,cc,s,hf',hg,Mv,fr,ah,q1,⟨Us,trivial,q2⟩,r1⟩
theorem b8.words_le (hi:b8 b c A rs u n T w) (hl:aL A rs l0):A.Wd l0≤u:=by
 obtain ⟨h,φ,L,Ba,ub,cy,ns,bs,S,rfl,hw,hT,hcy⟩:=hi;have:=hw.laid.words_le (by omega) hl;omega
theorem b8.lives (hi:b8 b c A rs u n T w):∃l,aL A rs l:=by
 obtain ⟨h,φ,L,Ba,ub,cy,ns,bs,S,rfl,hw,hT,hcy⟩:=hi;exact hw.laid.some
def vr (b:Nat) (c:Cf) (A:AG) (rs l0:List Nat) (sz:Nat) (T:Nat→Prop) (w:World) (wr:World):Prop:=
 ∃ub a,wr.cell? ⟨b,10,none⟩=some (.pointer (some ⟨ub,0,none⟩))∧Calls Tryz.prog 124 #[.pointer (some ⟨ub,0,none⟩),.int .i64 sz] wr fun e w'=>e= .returned (.tuple #[.int .i64 ((a:Nat):Int),.int .i64 0])∧l8 b c A rs l0 sz T w e w'
theorem qq {q:Nat→Prop} (hl:aL A rs l0) (hq:xY (fun Us=>Us+(sz/c.Pg+2)≤c.Wd/c.Pg) b c A rs u n T w) (h1:1≤sz) (hfit:u+sz≤c.Wd) {T0:Nat→Prop} {w0:World} (hf:Fr T0 w0 w) (ht:∀k,T k→T0 k∨w0.heap.size≤k):vr b c A rs l0 sz T0 w0 w:=by
 obtain ⟨ub,a,g1,g2⟩:=xB hq h1 hfit;refine ⟨ub,a,g1,g2.mono ?_⟩;rintro e w' ⟨rfl,T',r1,r2,r3⟩;have hz:=hf.size;have:=hq.toI.words_le hl;exact ⟨rfl,.inl ⟨by omega,a,u,n,T',rfl,r1,hf.trans r2 ht,fun k hk=>(r3 k hk).elim (ht k) (fun h=> .inr (by omega))⟩⟩
theorem tU (hi:b8 b c A rs u n T w) (hl:aL A rs l0) (h1:1≤sz) (hsz:sz≤1024):Calls Tryz.prog 53 #[b,.int .i64 sz] w (l8 b c A rs l0 sz T w):=by
 have HRE:=ae (mS hi sz hsz);have HFN:Hid (∀u n w1,ep b c A rs u n T w w1→Calls Tryz.prog 70 #[b] w1 fun e w2=>e= .returned (.tuple #[])∧ep b c A rs u 0 T w w2):=by
  show∀u n w1,_
  rintro u n w1 ⟨T1,g1,g2,g3⟩;refine (fW g1).mono ?_;rintro e w2 ⟨rfl,T2,f1,f2,f3⟩;have hz:=g2.size;exact ⟨rfl,T2,f1,g2.trans f2 g3,fun k hk=>(f3 k hk).elim (g3 k) (fun h=> .inr (by omega))⟩
 have HCO:Hid (∀u n w1,ep b c A rs u n T w w1→Calls Tryz.prog 20 #[b] w1 fun e w2=>e= .returned (.tuple #[])∧ep b c A rs (A.Wd l0) 0 T w w2):=by
  show∀u n w1,_
  rintro u n w1 ⟨T1,g1,g2,g3⟩;refine (iJ g1).mono ?_;rintro e w2 ⟨rfl,l,T2,hl2,f1,f2,f3⟩;have hz:=g2.size;rw [hl2.Wd hl] at f1;exact ⟨rfl,T2,f1,g2.trans f2 g3,fun k hk=>(f3 k hk).elim (g3 k) (fun h=> .inr (by omega))⟩
 have HNO:Hid (∀u n w1,c.Wd<u+sz→ep b c A rs u n T w w1→∃ub,w1.cell? ⟨b,10,none⟩=some (.pointer (some ⟨ub,0,none⟩))∧Calls Tryz.prog 124 #[.pointer (some ⟨ub,0,none⟩),.int .i64 sz] w1 fun e w'=>e= .returned (.tuple #[.int .i64 0,.int .i64 21])∧ep b c A rs u n T w w'):=by
  show∀u n w1,_
  rintro u n w1 hn ⟨T1,g1,g2,g3⟩;obtain ⟨ub,f1,f2⟩:=xA g1 h1 hn;refine ⟨ub,f1,f2.mono ?_⟩;rintro e w' ⟨rfl,hf⟩;exact ⟨rfl,T1,g1.keep hf,g2.trans hf (fun _ h=>h.elim),g3⟩
 have HY1:Hid (∀u e w1,l7 (sz/c.Pg+2) b c A rs u T w e w1→e= .returned (.tuple #[])∧(u+sz≤c.Wd→vr b c A rs l0 sz T w w1)∧∃n,ep b c A rs u n T w w1):=by
  show∀u e w1,_
  rintro u e w1 ⟨rfl,n,T1,g1,g2,g3⟩;exact ⟨rfl,fun hf=>qq (q:=fun _=>True) hl g1 h1 hf g2 g3,n,T1,g1.toI,g2,g3⟩
 have HY2:Hid (∀w1,ep b c A rs (A.Wd l0) 0 T w w1→A.Wd l0+sz≤c.Wd→vr b c A rs l0 sz T w w1):=by
  show∀w1,_
  rintro w1 ⟨T1,g1,g2,g3⟩ hf;exact qq (q:=fun _=>True) hl (g1.q0 _) h1 hf g2 g3
 have HN2:Hid (∀w1,c.Wd<A.Wd l0+sz→ep b c A rs (A.Wd l0) 0 T w w1→l8 b c A rs l0 sz T w (.returned (.tuple #[.int .i64 0,.int .i64 21])) w1):=by
  show∀w1,_
  rintro w1 hn ⟨T1,g1,g2,g3⟩;exact .inr ⟨hn,rfl,_,_,T1,g1,g2,g3⟩
 clear hi hl;unfold vr at HY1 HY2;generalize (l8 b c A rs l0 sz T w)=Q at*
 go_enter Tryz.func53,Tryz.ntmps53
 go_wp2_with fail
 refine (HRE.out).mono ?_;intro e w1 hp;obtain ⟨rfl,hy,n1,hf⟩:=HY1.out _ _ _ hp;clear hp HRE HY1;by_cases hfit:u+sz≤c.Wd
 ·obtain ⟨ub,a,k10,hc⟩:=hy hfit;have HC:=ae hc;clear hy hc hf HFN HCO HNO HY2 HN2 hfit;go_wp2_with fail
  refine (HC.out).mono ?_;rintro e w2 ⟨rfl,hq⟩;have H:=ae hq;clear hq HC k10;go_wp2;exact H.out
 ·obtain ⟨ub,k10,hc⟩:=HNO.out u n1 w1 (by omega) hf;have HC:=ae hc;have HFT:=ae hfit;clear hy hc hf hfit;go_wp2_with fail
  refine (HC.out).mono ?_;rintro e w2 ⟨rfl,hf⟩;have HF2:=ae (HFN.out _ _ w2 hf);clear HC hf HFN k10;go_wp2_with fail
  refine (HF2.out).mono ?_;rintro e w3 ⟨rfl,hf⟩;obtain ⟨ub3,k10,hc⟩:=HNO.out u 0 w3 (by have:=HFT.out;omega) hf;have HC:=ae hc;clear HF2 hf hc;go_wp2_with fail
  refine (HC.out).mono ?_;rintro e w4 ⟨rfl,hf⟩;have HC4:=ae (HCO.out _ _ w4 hf);clear HC hf HCO k10;go_wp2_with fail
  refine (HC4.out).mono ?_;rintro e w5 ⟨rfl,hf⟩;clear HC4;by_cases hfit:A.Wd l0+sz≤c.Wd
  ·obtain ⟨ub5,a5,k10,hc⟩:=HY2.out w5 hf hfit;have HC:=ae hc;clear hc hf HNO HY2 HN2 hfit HFT;go_wp2_with fail
   refine (HC.out).mono ?_;rintro e w6 ⟨rfl,hq⟩;have H:=ae hq;clear hq HC k10;go_wp2;exact H.out
  ·obtain ⟨ub5,k10,hc⟩:=HNO.out _ 0 w5 (by omega) hf;have HC:=ae hc;have HQ6:=ae (fun w6 h=>HN2.out w6 (by omega) h);clear hc hf HNO HY2 HN2 hfit HFT;go_wp2_with fail
   refine (HC.out).mono ?_;rintro e w6 ⟨rfl,hq⟩;have H:=ae (HQ6.out w6 hq);clear hq HC k10 HQ6;go_wp2;exact H.out
end
theorem uP {P:Program} (t:TypeId) (b c:Nat) (w:World):
  ∃r w',(binOp .mul t (.float .f64 b) (.float .f64 c)).run P w= .ok (.float .f64 r) w'∧Fr (fun _=>False) w w':=by
 cases h:floatBits .mul .f64 b c with
 |some r=>exact ⟨r,w,run_float_arith w .mul t .f64 b c r h,Fr.refl _ w⟩
 |none=>
  refine ⟨(Question.nanBits .f64 b c).cut (w.tape w.drawn (.nanBits .f64 b c)),w.drew,?_,(Fr.refl _ w).drew⟩;unfold floatBits at h;simp only at h;simp [binOp,Op.floatArith,h,Question.forced]
section
variable {b u n:Nat} {c:Cf} {A:AG} {rs:List Nat} {T:Nat→Prop} {w:World}
theorem tQ (hi:b8 b c A rs u n T w):Calls Tryz.prog 57 #[b] w fun e w'=>∃B,e= .returned (.bool B)∧Fr (fun _=>False) w w':=by
 obtain ⟨h,φ,L,Ba,ub,cy,ns,bs,S,rfl,hw,hT,hcy⟩:=hi;obtain ⟨W0,hW0⟩:∃W0,W0=w:=⟨_,rfl⟩;have HW:=ae (fun w1 (hf:Fr (fun _=>False) w w1)=>hw.keep hf);have HK:=ae (fun w1 (hf:Fr (fun _=>False) w.drew w1)=>(show w1.cell? ⟨h.b,10,none⟩=some (.pointer (some ⟨ub,0,none⟩))∧True from ⟨ak.cell (HW.out w1 (((Fr.refl (fun _=>False) w).drew).trans hf (fun _ h=>h.elim))).blk 10 rfl,trivial⟩));have HTA:=ae (fun w1 (hf:Fr (fun _=>False) w.drew w1)=>gu (HW.out w1 (((Fr.refl (fun _=>False) w).drew).trans hf (fun _ h=>h.elim))).reg);have HBA:=ae (fun w1 (hf:Fr (fun _=>False) w.drew w1)=>eb (HW.out w1 (((Fr.refl (fun _=>False) w).drew).trans hf (fun _ h=>h.elim))).reg);generalize Ba+u=Tp at HTA;have HK3:=ae (fun w1 w2 (hf:Fr (fun _=>False) w.drew w1) (hg:Fr (fun _=>False) w1.drew w2)=>(show Fr (fun _=>False) w w2∧w2.cell? ⟨h.b,7,none⟩=some (.float .f64 c.trig)∧w2.cell? ⟨h.b,3,none⟩=some (.int .i64 (c.Wd:Int))∧True from by
  have hh:=((((Fr.refl (fun _=>False) w).drew).trans hf (fun _ h=>h.elim)).drew).trans hg (fun _ h=>h.elim);exact ⟨hh,ak.cell (HW.out w2 hh).blk 7 rfl,ak.cell (HW.out w2 hh).blk 3 rfl,trivial⟩))
 clear hw hT hcy HW hW0;generalize h.b=b at*
 go_enter Tryz.func57,Tryz.ntmps57
 go_wp2;refine bv 13 (fun a b2=>Fr (fun _=>False) a b2) [fun v _=>v= .pointer (some ⟨b,0,none⟩),fun v _=>v= .pointer (some ⟨b,0,none⟩),fun v _=>v= .pointer (some ⟨b,10,none⟩),fun v _=>v= .pointer (some ⟨ub,0,none⟩),fun v _=>v= .int .i64 Tp,fun v _=>v= .pointer (some ⟨b,0,none⟩),fun v _=>v= .pointer (some ⟨b,0,none⟩),fun v _=>v= .pointer (some ⟨b,10,none⟩),fun v _=>v= .pointer (some ⟨ub,0,none⟩),fun v _=>v= .int .i64 Ba,fun v _=>v= .int .i64 (IntKind.i64.wrap ((Tp:Int)-(Ba:Int))),fun v _=>∃r,v= .float .f64 r,fun v _=>∃r,v= .float .f64 r] (fun j=>false) (by kernel_rfl) (by kernel_rfl) (by kernel_rfl) (by kernel_rfl) rfl (fun _=>Fr.refl _ _) (fun _ _ _ h1 h2=>h1.trans h2 (fun _ h=>h.elim)) (fun _ _ h=>h.size) ⟨fun _ _ _ h _=>h,fun _ _ _ h _=>h,fun _ _ _ h _=>h,fun _ _ _ h _=>h,fun _ _ _ h _=>h,fun _ _ _ h _=>h,fun _ _ _ h _=>h,fun _ _ _ h _=>h,fun _ _ _ h _=>h,fun _ _ _ h _=>h,fun _ _ _ h _=>h,fun _ _ _ h _=>h,fun _ _ _ h _=>h,trivial⟩ ?_;intro F hF;simp only [aS,List.take_succ_cons,List.take_zero,aa,ab,ac] at hF;subst hF;refine ⟨⟨fun vs w1 hw hd hx=> ?_,fun vs w1 hw hd hx=> ?_,fun vs w1 hw hd hx=> ?_,fun vs w1 hw hd hx=> ?_,fun vs w1 hw hd hx=> ?_,fun vs w1 hw hd hx=> ?_,fun vs w1 hw hd hx=> ?_,fun vs w1 hw hd hx=> ?_,fun vs w1 hw hd hx=> ?_,fun vs w1 hw hd hx=> ?_,fun vs w1 hw hd hx=> ?_,fun vs w1 hw hd hx=> ?_,fun vs w1 hw hd hx=> ?_,trivial⟩,?_⟩
 ·refine ai (.pointer (some ⟨b,0,none⟩)) ?_ ⟨rfl,Fr.refl _ _,fun h=>nomatch h⟩;go_simp
 ·have h0:vs 0= .pointer (some ⟨b,0,none⟩):=hd 0 (by kernel_rfl);refine ai (.pointer (some ⟨b,0,none⟩)) ?_ ⟨rfl,Fr.refl _ _,fun h=>nomatch h⟩;go_simp
 ·have h1:vs 1= .pointer (some ⟨b,0,none⟩):=hd 1 (by kernel_rfl);refine ai (.pointer (some ⟨b,10,none⟩)) ?_ ⟨rfl,Fr.refl _ _,fun h=>nomatch h⟩;go_simp
 ·have h2:vs 2= .pointer (some ⟨b,10,none⟩):=hd 2 (by kernel_rfl);refine ai (.pointer (some ⟨ub,0,none⟩)) ?_ ⟨rfl,Fr.refl _ _,fun h=>nomatch h⟩;have k10:=(HK.out w1 hw).1;go_simp
 ·have h3:vs 3= .pointer (some ⟨ub,0,none⟩):=hd 3 (by kernel_rfl);refine ay 76 #[ub] (by go_simp) ((HTA.out w1 hw).mono ?_);rintro e w5 ⟨rfl,rfl⟩;exact ⟨_,rfl,rfl,Fr.refl _ _,fun h=>nomatch h⟩
 ·refine ai (.pointer (some ⟨b,0,none⟩)) ?_ ⟨rfl,Fr.refl _ _,fun h=>nomatch h⟩;go_simp
 ·have h5:vs 5= .pointer (some ⟨b,0,none⟩):=hd 5 (by kernel_rfl);refine ai (.pointer (some ⟨b,0,none⟩)) ?_ ⟨rfl,Fr.refl _ _,fun h=>nomatch h⟩;go_simp
 ·have h6:vs 6= .pointer (some ⟨b,0,none⟩):=hd 6 (by kernel_rfl);refine ai (.pointer (some ⟨b,10,none⟩)) ?_ ⟨rfl,Fr.refl _ _,fun h=>nomatch h⟩;go_simp
 ·have h7:vs 7= .pointer (some ⟨b,10,none⟩):=hd 7 (by kernel_rfl);refine ai (.pointer (some ⟨ub,0,none⟩)) ?_ ⟨rfl,Fr.refl _ _,fun h=>nomatch h⟩;have k10:=(HK.out w1 hw).1;go_simp
 ·have h8:vs 8= .pointer (some ⟨ub,0,none⟩):=hd 8 (by kernel_rfl);refine ay 75 #[ub] (by go_simp) ((HBA.out w1 hw).mono ?_);rintro e w5 ⟨rfl,rfl⟩;exact ⟨_,rfl,rfl,Fr.refl _ _,fun h=>nomatch h⟩
 ·have h4:vs 4= .int .i64 Tp:=hd 4 (by kernel_rfl);have h9:vs 9= .int .i64 Ba:=hd 9 (by kernel_rfl);refine ai (.int .i64 (IntKind.i64.wrap ((Tp:Int)-(Ba:Int)))) ?_ ⟨rfl,Fr.refl _ _,fun h=>nomatch h⟩;go_simp
 ·have h10:vs 10= .int .i64 (IntKind.i64.wrap ((Tp:Int)-(Ba:Int))):=hd 10 (by kernel_rfl);refine ai (.float .f64 (floatOfInt .f64 (IntKind.i64.wrap ((Tp:Int)-(Ba:Int))))) (by go_simp) ⟨⟨_,rfl⟩,Fr.refl _ _,fun h=>nomatch h⟩
 ·have h11:=hd 11 (by kernel_rfl);obtain ⟨r,h11⟩:=h11;refine ai (.float .f64 r) (by go_simp) ⟨⟨_,rfl⟩,Fr.refl _ _,fun h=>nomatch h⟩
 intro vs w1 hw hp hx;obtain ⟨g0,g1,g2,g3,g4,g5,g6,g7,g8,g9,g10,g11,g12,_⟩:=hp;obtain ⟨F,hF⟩:=g12;simp only [hF];clear g0 g1 g2 g3 g4 g5 g6 g7 g8 g9 g10 g11 hx hF;simp only [List.drop_succ_cons,List.drop_zero];have HK2:=ae (fun w2 hg=>HK3.out w1 w2 hw hg);clear HK HTA HBA HK3 hw;go_wp2;refine bv 15 (fun a b2=>Fr (fun _=>False) a b2) [fun v _=>v= .float .f64 F,fun v _=>v= .pointer (some ⟨b,0,none⟩),fun v _=>v= .pointer (some ⟨b,0,none⟩),fun v _=>v= .pointer (some ⟨b,0,none⟩),fun v _=>v= .pointer (some ⟨b,7,none⟩),fun v _=>v= .float .f64 c.trig,fun v _=>v= .pointer (some ⟨b,0,none⟩),fun v _=>v= .pointer (some ⟨b,0,none⟩),fun v _=>v= .pointer (some ⟨b,0,none⟩),fun v _=>v= .pointer (some ⟨b,3,none⟩),fun v _=>v= .int .i64 (c.Wd:Int),fun v _=>v= .float .f64 (floatOfInt .f64 (c.Wd:Int)),fun v _=>∃r,v= .float .f64 r,fun v _=>∃B,v= .bool B,fun v _=>∃B,v= .bool B] (fun j=>false) (by kernel_rfl) (by kernel_rfl) (by kernel_rfl) (by kernel_rfl) rfl (fun _=>Fr.refl _ _) (fun _ _ _ h1 h2=>h1.trans h2 (fun _ h=>h.elim)) (fun _ _ h=>h.size) ⟨fun _ _ _ h _=>h,fun _ _ _ h _=>h,fun _ _ _ h _=>h,fun _ _ _ h _=>h,fun _ _ _ h _=>h,fun _ _ _ h _=>h,fun _ _ _ h _=>h,fun _ _ _ h _=>h,fun _ _ _ h _=>h,fun _ _ _ h _=>h,fun _ _ _ h _=>h,fun _ _ _ h _=>h,fun _ _ _ h _=>h,fun _ _ _ h _=>h,fun _ _ _ h _=>h,trivial⟩ ?_;intro F hF;simp only [aS,List.take_succ_cons,List.take_zero,aa,ab,ac] at hF;subst hF;refine ⟨⟨fun vs w1 hw hd hx=> ?_,fun vs w1 hw hd hx=> ?_,fun vs w1 hw hd hx=> ?_,fun vs w1 hw hd hx=> ?_,fun vs w1 hw hd hx=> ?_,fun vs w1 hw hd hx=> ?_,fun vs w1 hw hd hx=> ?_,fun vs w1 hw hd hx=> ?_,fun vs w1 hw hd hx=> ?_,fun vs w1 hw hd hx=> ?_,fun vs w1 hw hd hx=> ?_,fun vs w1 hw hd hx=> ?_,fun vs w1 hw hd hx=> ?_,fun vs w1 hw hd hx=> ?_,fun vs w1 hw hd hx=> ?_,trivial⟩,?_⟩
 ·refine ai (.float .f64 F) ?_ ⟨rfl,Fr.refl _ _,fun h=>nomatch h⟩;go_simp
 ·refine ai (.pointer (some ⟨b,0,none⟩)) ?_ ⟨rfl,Fr.refl _ _,fun h=>nomatch h⟩;go_simp
 ·have h1:vs 1= .pointer (some ⟨b,0,none⟩):=hd 1 (by kernel_rfl);refine ai (.pointer (some ⟨b,0,none⟩)) ?_ ⟨rfl,Fr.refl _ _,fun h=>nomatch h⟩;go_simp
 ·have h2:vs 2= .pointer (some ⟨b,0,none⟩):=hd 2 (by kernel_rfl);refine ai (.pointer (some ⟨b,0,none⟩)) ?_ ⟨rfl,Fr.refl _ _,fun h=>nomatch h⟩;go_simp
 ·have h3:vs 3= .pointer (some ⟨b,0,none⟩):=hd 3 (by kernel_rfl);refine ai (.pointer (some ⟨b,7,none⟩)) ?_ ⟨rfl,Fr.refl _ _,fun h=>nomatch h⟩;go_simp
 ·have h4:vs 4= .pointer (some ⟨b,7,none⟩):=hd 4 (by kernel_rfl);refine ai (.float .f64 c.trig) ?_ ⟨rfl,Fr.refl _ _,fun h=>nomatch h⟩;have k7:=(HK2.out w1 hw).2.1;go_simp
 ·refine ai (.pointer (some ⟨b,0,none⟩)) ?_ ⟨rfl,Fr.refl _ _,fun h=>nomatch h⟩;go_simp
 ·have h6:vs 6= .pointer (some ⟨b,0,none⟩):=hd 6 (by kernel_rfl);refine ai (.pointer (some ⟨b,0,none⟩)) ?_ ⟨rfl,Fr.refl _ _,fun h=>nomatch h⟩;go_simp
 ·have h7:vs 7= .pointer (some ⟨b,0,none⟩):=hd 7 (by kernel_rfl);refine ai (.pointer (some ⟨b,0,none⟩)) ?_ ⟨rfl,Fr.refl _ _,fun h=>nomatch h⟩;go_simp
 ·have h8:vs 8= .pointer (some ⟨b,0,none⟩):=hd 8 (by kernel_rfl);refine ai (.pointer (some ⟨b,3,none⟩)) ?_ ⟨rfl,Fr.refl _ _,fun h=>nomatch h⟩;go_simp
 ·have h9:vs 9= .pointer (some ⟨b,3,none⟩):=hd 9 (by kernel_rfl);refine ai (.int .i64 (c.Wd:Int)) ?_ ⟨rfl,Fr.refl _ _,fun h=>nomatch h⟩;have k3:=(HK2.out w1 hw).2.2.1;go_simp
 ·have h10:vs 10= .int .i64 (c.Wd:Int):=hd 10 (by kernel_rfl);refine ai (.float .f64 (floatOfInt .f64 (c.Wd:Int))) ?_ ⟨rfl,Fr.refl _ _,fun h=>nomatch h⟩;go_simp
 ·have h5:vs 5= .float .f64 c.trig:=hd 5 (by kernel_rfl);have h11:vs 11= .float .f64 (floatOfInt .f64 (c.Wd:Int)):=hd 11 (by kernel_rfl);obtain ⟨r,w5,hr5,hf5⟩:=uP (P:=Tryz.prog) 22 c.trig (floatOfInt .f64 (c.Wd:Int)) w1;refine ai (.float .f64 r) (w':=w5) (by go_simp) ⟨⟨_,rfl⟩,hf5,fun h=>nomatch h⟩
 ·have h0:vs 0= .float .f64 F:=hd 0 (by kernel_rfl);have h12:=hd 12 (by kernel_rfl);obtain ⟨r,h12⟩:=h12;refine ai (.bool (FloatKind.f64.format.order F r==some .gt||FloatKind.f64.format.order F r==some .eq)) (by go_simp) ⟨⟨_,rfl⟩,Fr.refl _ _,fun h=>nomatch h⟩
 ·have h13:=hd 13 (by kernel_rfl);obtain ⟨r,h13⟩:=h13;refine ai (.bool r) (by go_simp) ⟨⟨_,rfl⟩,Fr.refl _ _,fun h=>nomatch h⟩
 intro vs2 w4 hw4 hp hx;obtain ⟨g0,g1,g2,g3,g4,g5,g6,g7,g8,g9,g10,g11,g12,g13,g14,_⟩:=hp;obtain ⟨B,hB⟩:=g14;simp only [hB];clear g0 g1 g2 g3 g4 g5 g6 g7 g8 g9 g10 g11 g12 g13 hx hB;simp only [List.drop_succ_cons,List.drop_zero];have HF4:=ae (HK2.out w4 hw4).1;clear HK2 hw4;go_wp2;go_ret;exact ⟨B,rfl,HF4.out⟩
end
def yk (b:Nat) (c:Cf) (A:AG) (rs:List Nat) (A':AG) (rs':List Nat) (u n:Nat) (T:Nat→Prop) (s a:Nat) (w:World):Prop:=
 ∃h φ φ' L Ba ub cy ns bs S,h.b=b∧fU (fun _=>True) h c A rs φ L Ba u ub cy n ns bs S w∧(∀k,T k↔gj h ub S k)∧(n=0→cy=none)∧aP A' rs' φ' L Ba (Ba+u)∧rs'.map φ'=(rs.map φ).set s a∧rs'.length=rs.length
section
variable {b u sz n a s p f g k:Nat} {c:Cf} {A A':AG} {rs rs':List Nat} {T:Nat→Prop} {w w':World}
theorem xj.keep (ha:xj b c A rs u sz n T w a) (hf:Fr (fun _=>False) w w'):xj b c A rs u sz n T w' a:=by
 obtain ⟨h,φ,L,Ba,ub,cy,ns,bs,S,q1,q2,q3,q4,q5,q6,q7⟩:=ha;refine ⟨h,φ,L,Ba,ub,cy,ns,bs,S,q1,q2.keep hf,q3,q4,q5,q6,?_⟩
 cases cy with
 |none=>trivial
 |some y=>
  obtain ⟨cc,s,hf',hg,Mv,fr,ah,Us,r1,r2,r3⟩:=q7;exact ⟨cc,s,hf',hg,Mv,fr,ah,Us,r1,r2.stays hf (fun _ _ h=>h) (fun h=>h),r3⟩
theorem lH {L:Nat→Nat} {a W n k:Nat} (h:k<a∨a+1+n≤k):gI L a W n k=L k:=by
 unfold gI;rw [if_neg (by omega),if_neg (by omega)]
theorem xH {L L':Nat→Nat} {a W n k:Nat} (h1:a≤k) (h2:k<a+1+n):gI L a W n k=gI L' a W n k:=by
 unfold gI;by_cases h:k=a
 ·rw [if_pos h,if_pos h]
 ·rw [if_neg h,if_neg h,if_pos (by omega),if_pos (by omega)]
def wN (b:Nat) (c:Cf) (A:AG) (rs:List Nat) (A':AG) (rs':List Nat) (u n:Nat) (T:Nat→Prop) (s a:Nat) (w:World) (e:Ending) (w':World):Prop:=e= .returned (.int .i64 0)∧∃T',yk b c A rs A' rs' u n T' s a w'∧Fr T w w'∧∀k,T' k→T k∨w.heap.size≤k
theorem v9 {φ:Nat→Nat} (h0:φ 0=0) (hk0:k≠0) (hkn:¬Reach A.gr rs k):(rs.set s k).map (fun y=>if y=k then a else φ y)=(rs.map φ).set s a:=by
 have h1:rs.map (fun y=>if y=k then a else φ y)=rs.map φ:=List.map_congr_left (fun z hz=>if_neg (fun (e:z=k)=>hkn (.root (e▸hz) hk0)));rw [List.map_set,h1,if_pos rfl]
theorem xC (ha:xj b c A rs u sz n T w a) (hsz:sz=1+(p+f+g)) (ho:bw p f g) (hk0:k≠0) (hkn:¬Reach A.gr rs k):∃m,w.cell? ⟨b,8,none⟩=some (.pointer (some ⟨m,0,none⟩))∧Calls Tryz.prog 55 #[.iface 112 (.pointer (some ⟨m,0,none⟩)),.int .i64 a,bP p f g] w (wN b c A rs (A.new k p f g) (rs.set s k) (u+sz) n T s a w):=by
 obtain ⟨h,φ,L,Ba,ub,cy,ns,bs,S,rfl,hw,hT,hcy,hl,rfl,hlo⟩:=ha;refine ⟨h.m,ak.cell hw.blk 8 rfl,?_⟩;have hle:=hw.half.le;have htp:=hw.half.top;have hpg:=hw.cok.page2;have hmod:=hw.half.mod hw.cok;have hfit:=hw.fits;obtain ⟨hW5,_⟩:=hw.cok.W5;have hnew:=hl.new (n:=k) (p:=p) (f:=f) (g:=g) (s:=s) (a:=Ba+u) (hi':=Ba+(u+sz)) hk0 hkn (by omega) (Nat.le_refl _) (by omega) ho;have hmap:=v9 (s:=s) (a:=Ba+u) (rs:=rs) hl.zero hk0 hkn;have hTS:∀k,S k→T k:=fun k hk=>(hT k).2 (.inl hk)
 cases cy with
 |none=>
  obtain ⟨hn0,Us,Hg,mp,hm,hmp⟩:=id hw.mem;refine (nl (aR _ _ _ _ _ _ _) (aF _ _ _ _ _ _ _) (jB _ _ _ _ _ _ _) hm (Ba+u) p f g (by omega) (by omega) ho (fun k h1 h2=>jC hmp hmod (show Ba+(u+sz)≤c.W by omega) k (by omega) (by omega))).mono ?_;rintro e w' ⟨rfl,S',g1,g2,g3⟩;have hlo2:aP A rs φ (gI L (Ba+u) (eI p f g) (p+f+g)) Ba (Ba+(u+sz)):=(hl.congr (fun k h1 h2=>lH (.inl h2))).wide (by omega);exact ⟨rfl,gj h ub S',⟨h,φ,_,gI L (Ba+u) (eI p f g) (p+f+g),Ba,ub,none,ns,bs,S',rfl,hw.turn g2 g3 ⟨hn0,Us,Hg,mp,g1,hmp⟩ hlo2,fun k=>Iff.rfl,fun _=>rfl,hnew,hmap,List.length_set⟩,g2.mono (fun k hk=> .inl (hTS k hk)),fun k hk=>(gj.sub g3 k hk).imp (hT k).2 id⟩
 |some y=>
  obtain ⟨cc,st,hf',hg,Mv,fr,ah,Us,q1,⟨Hg,Sm,mp,M,fw,kk,p1,p2,p3,p4,p5⟩,r1,r2,r3,r4,r5,r6,r7,r8,hlow⟩:=hlo;have hk:=hw.mem.1;have hm:=p1.mem;rw [r2,r4,r6] at hm;have hto:=q1.top1;have hdm:∀k,Ba+u≤k→k<Ba+(u+sz)→aX c.W c.Pg mp k:=fun k h1 h2=>by
   have:=(p2.beh_page q1.ok hto (x:=k) (by omega) h2).2;rw [r4] at this;exact ⟨by omega,this⟩
  refine (nl (aR _ _ _ _ _ _ _) (aF _ _ _ _ _ _ _) (jB _ _ _ _ _ _ _) (L:=M) (show bi h.m c.Pg c.W c.Fs Us Hg mp M Sm w from ⟨M,hm,fun _ _=>rfl⟩) (Ba+u) p f g (by omega) (by omega) ho (fun k h1 h2=>hdm k (by omega) (by omega))).mono ?_;rintro e w' ⟨rfl,Sm',⟨M',g1,gM⟩,g2,g3⟩;have hg2:Fr S w w':=g2.mono (fun k hk=> .inl ((p5 k).2 (.inl hk)));have hs:∀k,(Sm' k∨cc.has k)→S k∨w.heap.size≤k:=fun k hk=>by
   rcases hk with hk|hk
   ·exact (g3 k hk).imp (fun h=>(p5 k).2 (.inl h)) id
   ·exact .inl ((p5 k).2 (.inr hk))
  obtain ⟨L2,hL2⟩:∃L2:Nat→Nat,L2=fun k=>if Ba+u≤k then M' k else L k:=⟨_,rfl⟩
  have hLa:∀k,k<Ba+u→L2 k=L k:=fun k hk=>by rw [hL2];exact if_neg (by omega)
  have hLb:∀k,Ba+u≤k→L2 k=M' k:=fun k hk=>by rw [hL2];exact if_pos hk
  have hMk:∀k,k<c.W→mp (k/c.Pg)=true→M' k=gI M (Ba+u) (eI p f g) (p+f+g) k:=fun k h1 h2=>gM k ⟨h1,h2⟩
  have hcs:j7 cc st hf' hg c.Fs (Ba+(u+sz)) Mv n fr ah Us L2 (fun k=>Sm' k∨cc.has k) w':=by
   refine ⟨Hg,Sm',mp,M',fw,kk,p1.mem_ (by rw [r2,r4,r6];exact g1) g2 g3,?_,p3,p4,fun k=>Iff.rfl⟩;refine p2.put q1.ok (lo:=Ba+u) hlow (by omega) (Nat.le_refl _) hto p2.pages hLa (fun k h1 h2 h3=> ?_) (fun k h1 h2=>(hLb k h1).symm) p2.Rm;rw [r6] at h1;rw [r4] at h2;rw [hMk k h1 h2];exact lH (by omega)
  have hlo2:aP A rs φ L2 Ba (Ba+(u+sz)):=(hl.congr (fun k h1 h2=>hLa k h2)).wide (by omega);have hnew2:=hnew.congr (L':=L2) (fun k h1 h2=>by
   by_cases h3:k<Ba+u
   ·rw [hLa k h3,lH (.inl h3)]
   ·obtain ⟨d1,d2⟩:=hdm k (by omega) h2;rw [hLb k (by omega),hMk k d1 d2];exact xH (by omega) (by omega))
  exact ⟨rfl,gj h ub _,⟨h,φ,_,L2,Ba,ub,some y,ns,bs,_,rfl,hw.turn hg2 hs ⟨hk,cc,st,hf',hg,Mv,fr,ah,q1,⟨Us,trivial,hcs⟩,r1,r2,r3,r4,r5,r6,r7,r8⟩ hlo2,fun k=>Iff.rfl,hcy,hnew2,hmap,List.length_set⟩,hg2.mono (fun k hk=> .inl (hTS k hk)),fun k hk=>(gj.sub hs k hk).imp (hT k).2 id⟩
theorem xD (ha:yk b c A rs A' rs' u n T s a w) (hs:s<c.Sl):∃rb,w.cell? ⟨b,9,none⟩=some (.pointer (some ⟨rb,0,none⟩))∧Calls Tryz.prog 56 #[.pointer (some ⟨rb,0,none⟩),.int .i64 s,.int .i64 a] w fun e w'=>e= .returned (.int .i64 0)∧b8 b c A' rs' u n T w'∧Fr T w w':=by
 obtain ⟨h,φ,φ',L,Ba,ub,cy,ns,bs,S,rfl,hw,hT,hcy,hl,hmap,hlen⟩:=ha;refine ⟨h.rb,ak.cell hw.blk 9 rfl,(nF hw.roots s a (by rw [List.length_map,hw.Sl];exact hs)).mono ?_⟩;rintro e w' ⟨rfl,hr,hf⟩;rw [←hmap] at hr;have d:=hw.d;obtain ⟨e1,e2,e3,e4,e5,e6,e7,e8,e9⟩:=id hw.e;exact ⟨rfl,⟨h,φ',L,Ba,ub,cy,ns,bs,S,rfl,⟨hw.cok,ak.frame hw.blk hf e2,hr,ak.frame hw.reg hf (Ne.symm e5),an hw.tab hf (Ne.symm e7),hl,by rw [hlen];exact hw.Sl,hw.fits,hw.half,hw.mem.stays hf (fun k hk=>(d k hk).2.2.1) (Ne.symm e7),d,hw.e⟩,hT,hcy⟩,hf.mono (fun k hk=> .inl ((hT k).2 (.inr (.inr (.inr (.inl hk))))))⟩
end
def vp (b:Nat) (c:Cf) (A:AG) (rs l0:List Nat) (s k p f g:Nat) (T:Nat→Prop) (w:World) (e:Ending) (w':World):Prop:=
 (A.Wd l0+(1+(p+f+g))≤c.Wd∧e= .returned (.int .i64 0)∧∃u n T',b8 b c (A.new k p f g) (rs.set s k) u n T' w'∧Fr T w w'∧∀k,T' k→T k∨w.heap.size≤k)∨
 (c.Wd<A.Wd l0+(1+(p+f+g))∧e= .returned (.int .i64 21)∧∃u n T',b8 b c A rs u n T' w'∧Fr T w w'∧∀k,T' k→T k∨w.heap.size≤k)
section
variable {b u n s k p f g:Nat} {c:Cf} {A A':AG} {rs rs' l0:List Nat} {T:Nat→Prop} {w w':World}
theorem tM (hi:b8 b c A rs u n T w):w.cell? ⟨b,0,none⟩=some (.int .i64 (c.kind:Int))∧∃cy:Option Nat,w.cell? ⟨b,11,none⟩=some (iG cy)∧(cy=none→n=0)∧(n=0→cy=none):=by
 obtain ⟨h,φ,L,Ba,ub,cy,ns,bs,S,rfl,hw,hT,hcy⟩:=hi;refine ⟨ak.cell hw.blk 0 rfl,cy,ak.cell hw.blk 11 rfl,fun e=> ?_,hcy⟩;subst e;exact hw.mem.1
theorem ek (hi:b8 b c A rs u n T w) (hl:aL A rs l0) (hs:s<c.Sl) (ho:bw p f g) (hk0:k≠0) (hkn:¬Reach A.gr rs k):Calls Tryz.prog 11 #[b,.int .i64 s,bP p f g] w (vp b c A rs l0 s k p f g T w):=by
 obtain ⟨W1,hW1⟩:∃W1,w.alloc (.cells #[.int .i64 p,.int .i64 f,.int .i64 g] 31)=W1:=⟨_,rfl⟩;have hf1:Fr (fun _=>False) w W1:=by rw [←hW1];exact (Fr.refl _ w).alloc _
 have hb1:ak W1 w.heap.size [.int .i64 p,.int .i64 f,.int .i64 g] 31:=by rw [←hW1];exact ak.new w _ _
 have hi1:=hi.keep hf1;have hTl:=hi.lt;have hcf:=hi.cf;obtain ⟨rb,v,HN,k9,HG⟩:∃rb v,Hid (Calls Tryz.prog 50 #[b] W1 fun e w'=>e= .returned (.bool false)∧W1=w')∧W1.cell? ⟨b,9,none⟩=some (.pointer (some ⟨rb,0,none⟩))∧Hid (Calls Tryz.prog 51 #[.pointer (some ⟨rb,0,none⟩),.int .i64 s] W1 fun e w'=>e= .returned (.tuple #[.int .i64 v,.int .i64 0])∧Fr (fun _=>False) W1 w'):=by
  obtain ⟨h,φ,L,Ba,ub,cy,ns,bs,S,rfl,hw,hT,hcy⟩:=hi1;have hlen:s<(rs.map φ).length:=by rw [List.length_map,hw.Sl];exact hs
  exact ⟨h.rb,(rs.map φ)[s],ae (cI hw.blk),ak.cell hw.blk 9 rfl,ae (nD hw.roots s _ (List.getElem?_eq_getElem hlen))⟩
 obtain ⟨sz,hsz⟩:∃sz,sz=1+(p+f+g):=⟨_,rfl⟩;have hsh:cu p f g=(sz:Int):=by unfold cu;rw [if_pos ho,hsz];push_cast;omega
 have hsz1:1≤sz∧sz≤1024:=by unfold bw at ho;omega
 have HCH:Hid (∀w1,Calls Tryz.prog 52 #[bP p f g] w1 (iA w1 0)):=ae (fun w1=>by have:=eC p f g w1;rwa [if_pos ho] at this);have HSZ:Hid (∀w1,Calls Tryz.prog 54 #[bP p f g] w1 (dN w1 (sz:Int))):=ae (fun w1=>by have:=cY p f g w1;rwa [hsh] at this);have HRO:Hid (∀w1,Fr (fun _=>False) W1 w1→Calls Tryz.prog 53 #[b,.int .i64 sz] w1 (l8 b c A rs l0 sz T w1)):=ae (fun w1 hf=>tU (hi1.keep hf) hl hsz1.1 hsz1.2);have HB:=ae (fun w1 (hf:Fr (fun _=>False) W1 w1)=>hb1.frame hf (fun h=>h));have HF1:=ae hf1;have HNO:Hid (∀w1 w2 u n T',Fr (fun _=>False) W1 w1→c.Wd<A.Wd l0+sz→b8 b c A rs u n T' w2→Fr T w1 w2→(∀k,T' k→T k∨w1.heap.size≤k)→vp b c A rs l0 s k p f g T w (.returned (.int .i64 21)) w2):=by
  show∀w1 w2 u n T',_
  intro w1 w2 u n T' h1 h2 h3 h4 h5;have hz:=(hf1.trans h1 (fun _ h=>h.elim)).size;exact .inr ⟨by omega,rfl,u,n,T',h3,((hf1.trans h1 (fun _ h=>h.elim)).mono (fun _ h=>h.elim)).trans h4 (fun _ h=> .inl h),fun k hk=>(h5 k hk).imp id (fun h=>by omega)⟩
 have HMA:Hid (∀w1 w2 a u n T',Fr (fun _=>False) W1 w1→xj b c A rs u sz n T' w2 a→Fr T w1 w2→(∀k,T' k→T k∨w1.heap.size≤k)→ak w2 w.heap.size [.int .i64 p,.int .i64 f,.int .i64 g] 31∧∃m,(∀w3,Fr (fun _=>False) w2 w3→w3.cell? ⟨b,8,none⟩=some (.pointer (some ⟨m,0,none⟩))∧True)∧∀w3,Fr (fun _=>False) w2 w3→Calls Tryz.prog 55 #[.iface 112 (.pointer (some ⟨m,0,none⟩)),.int .i64 a,bP p f g] w3 fun e w'=>e= .returned (.int .i64 0)∧w3.heap.size≤w'.heap.size∧∃T'',yk b c A rs (A.new k p f g) (rs.set s k) (u+sz) n T'' s a w'∧Fr T w w'∧∀k,T'' k→T k∨w.heap.size≤k):=by
  show∀w1 w2 a u n T',_
  intro w1 w2 a u n T' h1 h2 h3 h4;have hb2:ak w2 w.heap.size [.int .i64 p,.int .i64 f,.int .i64 g] 31:=(hb1.frame h1 (fun h=>h)).frame h3 (fun h=>by have:=hTl _ h;omega);have h8:∀w3,Fr (fun _=>False) w2 w3→∃m,w3.cell? ⟨b,8,none⟩=some (.pointer (some ⟨m,0,none⟩))∧Calls Tryz.prog 55 #[.iface 112 (.pointer (some ⟨m,0,none⟩)),.int .i64 a,bP p f g] w3 (wN b c A rs (A.new k p f g) (rs.set s k) (u+sz) n T' s a w3):=fun w3 hf=>xC (h2.keep hf) hsz ho hk0 hkn
  obtain ⟨m,g1,_⟩:=h8 w2 (Fr.refl _ _);refine ⟨hb2,m,fun w3 hf=> ?_,fun w3 hf=> ?_⟩
  ·have hm:∃h φ L Ba ub cy ns bs S,h.b=b∧fU (fun _=>True) h c A rs φ L Ba (u+sz) ub cy n ns bs S w2:=let ⟨h,φ,L,Ba,ub,cy,ns,bs,S,q1,q2,_⟩:=h2;⟨h,φ,L,Ba,ub,cy,ns,bs,S,q1,q2⟩
   obtain ⟨h,φ,L,Ba,ub,cy,ns,bs,S,rfl,q2⟩:=hm;have e1:=ak.cell q2.blk 8 rfl;rw [g1] at e1;rw [e1];exact ⟨ak.cell (q2.keep hf).blk 8 rfl,trivial⟩
  ·obtain ⟨m',g3,g4⟩:=h8 w3 hf;have em:m'=m:=by
    have hm:∃h φ L Ba ub cy ns bs S,h.b=b∧fU (fun _=>True) h c A rs φ L Ba (u+sz) ub cy n ns bs S w2:=let ⟨h,φ,L,Ba,ub,cy,ns,bs,S,q1,q2,_⟩:=h2;⟨h,φ,L,Ba,ub,cy,ns,bs,S,q1,q2⟩
    obtain ⟨h,φ,L,Ba,ub,cy,ns,bs,S,rfl,q2⟩:=hm;have e1:=ak.cell q2.blk 8 rfl;have e2:=ak.cell (q2.keep hf).blk 8 rfl;rw [g1] at e1;rw [g3] at e2;have e3:=e2.trans e1.symm;exact Addr.mk.inj (Option.some.inj (Value.pointer.inj (Option.some.inj e3)))|>.1
   rw [em] at g4;refine g4.mono ?_;rintro e w' ⟨rfl,T'',r1,r2,r3⟩;have hz1:=(hf1.trans h1 (fun _ h=>h.elim)).size;have hz2:=h3.size;have hz3:=hf.size;exact ⟨rfl,r2.size,T'',r1,((((hf1.trans h1 (fun _ h=>h.elim)).mono (fun _ h=>h.elim)).trans h3 (fun _ h=> .inl h)).trans hf (fun _ h=>h.elim)).trans r2 (fun k hk=>(h4 k hk).imp id (fun h=>by omega)),fun k hk=>(r3 k hk).elim (fun h=>(h4 k h).imp id (fun h=>by omega)) (fun h=> .inr (by omega))⟩
 have HSE:Hid (∀w1 u n a T'',yk b c A rs (A.new k p f g) (rs.set s k) u n T'' s a w1→∃rb,w1.cell? ⟨b,9,none⟩=some (.pointer (some ⟨rb,0,none⟩))∧Calls Tryz.prog 56 #[.pointer (some ⟨rb,0,none⟩),.int .i64 s,.int .i64 a] w1 fun e w'=>e= .returned (.int .i64 0)∧b8 b c (A.new k p f g) (rs.set s k) u n T'' w'∧Fr T'' w1 w'):=ae (fun w1 u n a T'' hh=>xD hh hs);have HYE:Hid (A.Wd l0+sz≤c.Wd→∀w1 u n T'',b8 b c (A.new k p f g) (rs.set s k) u n T'' w1→Fr T w w1→(∀k,T'' k→T k∨w.heap.size≤k)→vp b c A rs l0 s k p f g T w (.returned (.int .i64 0)) w1):=ae (fun hf w1 u n T'' h1 h2 h3=> .inl ⟨by omega,rfl,u,n,T'',h1,h2,h3⟩);have HS3:Hid ((Tryz.prog.info? 31).map (·.size)=some 3):=by show _=_;kernel_rfl
 have hk3:=hcf.1.kind1;clear hi hi1 hl hs ho hk0 hkn hb1 hTl hcf hsh hsz hsz1 hf1;generalize A.new k p f g=A2 at*;generalize rs.set s k=rs2 at*;generalize (vp b c A rs l0 s k p f g T w)=Q at*;unfold bP at HCH HSZ HMA ⊢
 go_enter Tryz.func11,Tryz.ntmps11
 go_wp2_with fail
 refine (HN.out).mono ?_;rintro e w1 ⟨rfl,rfl⟩;clear HN hW1;go_wp2_with fail
 refine (HG.out).mono ?_;rintro e w1 ⟨rfl,hg1⟩;obtain ⟨c0,c1,c2⟩:=ch (HB.out w1 hg1);have HF2:=ae hg1;clear HG k9 hg1;go_wp2_with fail
 refine (HCH.out w1).mono ?_;rintro e w2 ⟨rfl,hg2⟩;have HF3:=ae (HF2.out.trans hg2 (fun _ h=>h.elim));obtain ⟨c0,c1,c2⟩:=ch (HB.out w2 HF3.out);clear hg2 HF2 HCH;go_wp2_with fail
 refine (HSZ.out w2).mono ?_;rintro e w3 ⟨rfl,hg3⟩;have HF4:=ae (HF3.out.trans hg3 (fun _ h=>h.elim));have HRO2:=ae (HRO.out w3 HF4.out);clear hg3 HF3 HSZ HRO HB;go_wp2_with fail
 refine (HRO2.out).mono ?_;rintro e w4 (⟨hfit,a,u2,n2,T2,rfl,ha,hf,ht⟩|⟨hno,rfl,u2,n2,T2,hq,hf,ht⟩)
 ·obtain ⟨hb4,m,h8,hmk⟩:=HMA.out w3 w4 a u2 n2 T2 HF4.out ha hf ht;have HYF:=ae (HYE.out hfit);have h8d:=(h8 w4.drew ((Fr.refl (fun _=>False) w4).drew)).1;obtain ⟨Z,hZ⟩:∃Z:World→Prop,Z=fun w'=>∃T'',yk b c A rs A2 rs2 (u2+sz) n2 T'' s a w'∧Fr T w w'∧∀k,T'' k→T k∨w.heap.size≤k:=⟨_,rfl⟩
  have HMK:Hid (Calls Tryz.prog 55 #[.iface 112 (.pointer (some ⟨m,0,none⟩)),.int .i64 a,.agg #[.int .i64 p,.int .i64 f,.int .i64 g]] w4.drew fun e w'=>e= .returned (.int .i64 0)∧w4.drew.heap.size≤w'.heap.size∧Z w'):=by
   rw [hZ];exact ae (hmk w4.drew ((Fr.refl (fun _=>False) w4).drew))
  have HBX:=ae hb4.drew;have HZ:=ae hZ;clear HMA HYE HNO hfit ha hf ht hb4 h8 hmk hZ HF4 HRO2;go_wp2;refine aB (fun w'=>w'=w4.drew) 7 (by kernel_rfl) (by kernel_rfl) rfl ?_;simp only [List.take_succ_cons,List.take_zero,List.drop_succ_cons,List.drop_zero];refine ag (.pointer (some ⟨b,0,none⟩)) rfl (fun w' hw=>by go_simp) ?_;simp only [Act.put,aa,ab,ac];refine ag (.pointer (some ⟨b,0,none⟩)) rfl (fun w' hw=>by go_simp) ?_;simp only [Act.put,aa,ab,ac];refine ag (.pointer (some ⟨b,8,none⟩)) rfl (fun w' hw=>by go_simp) ?_;simp only [Act.put,aa,ab,ac];refine ag (.pointer (some ⟨m,0,none⟩)) rfl (fun w' hw=>by subst hw;go_simp) ?_;simp only [Act.put,aa,ab,ac];refine ag (.iface 112 (.pointer (some ⟨m,0,none⟩))) rfl (fun w' hw=>by go_simp) ?_;simp only [Act.put,aa,ab,ac];refine ag (.int .i64 a) rfl (fun w' hw=>by go_simp) ?_;simp only [Act.put,aa,ab,ac];refine ag (.agg #[.int .i64 p,.int .i64 f,.int .i64 g]) rfl (fun w' hw=>by subst hw;exact du rfl w.heap.size rfl 31 _ (0,0) _ HBX.out Tryz.underlying31 rfl HS3.out) ?_;simp only [Act.put,aa,ab,ac];refine wpQuiet_nil ?_;rintro w1 rfl;go_wp2_with fail
  refine (HMK.out).mono ?_;rintro e w1 ⟨rfl,_,hop⟩;rw [HZ.out] at hop;obtain ⟨T3,g1,g2,g3⟩:=hop;obtain ⟨rb5,k9,hse⟩:=HSE.out w1 _ _ a T3 g1;have HSE5:=ae hse;have HG5:=ae (af g2 g3);clear HSE hse HZ HMK HBX g1 g2 g3 h8d;go_wp2_with fail
  refine (HSE5.out).mono ?_;rintro e w6 ⟨rfl,hi6,hf6⟩;clear HSE5 k9;have hF6:Fr T w w6:=HG5.out.1.trans hf6 HG5.out.2;have hT6:=HG5.out.2;obtain ⟨k0,cy,k11,hn1,hn2⟩:=tM hi6;have HQ6:=ae (HYF.out w6 _ _ T3 hi6 hF6 hT6);clear HG5 hf6;by_cases hkd:c.kind=1
  ·cases cy with
   |some y=>
    rw [hkd] at k0;rw [show iG (some y)= .pointer (some ⟨y,0,none⟩) from rfl] at k11;clear hn1 hn2 hi6 hF6 hT6 HYF;go_wp2;exact HQ6.out
   |none=>
    obtain rfl:=hn1 rfl;rw [hkd] at k0;rw [show iG none= .pointer none from rfl] at k11;have HDU:=ae (tQ hi6);have HOQ:Hid (∀w7,Fr (fun _=>False) w6 w7→Q (.returned (.int .i64 0)) w7∧Calls Tryz.prog 58 #[b] w7 fun e w8=>e= .returned (.tuple #[])∧Q (.returned (.int .i64 0)) w8):=by
     show∀w7,_
     intro w7 hf7;refine ⟨HYF.out w7 _ _ T3 (hi6.keep hf7) (hF6.trans hf7 (fun _ h=>h.elim)) hT6,(mR (hi6.keep hf7) hkd).mono ?_⟩;rintro e w8 ⟨rfl,l,n8,T8,_,r1,r2,r3⟩;have hz6:=hF6.size;have hz7:=hf7.size;exact ⟨rfl,HYF.out w8 _ _ T8 r1 ((hF6.trans hf7 (fun _ h=>h.elim)).trans r2 hT6) (fun k hk=>(r3 k hk).elim (hT6 k) (fun h=> .inr (by omega)))⟩
    clear hn1 hn2 hi6 hF6 hT6 HYF HQ6;go_wp2_with fail
    refine (HDU.out).mono ?_;rintro e w7 ⟨B,rfl,hf7⟩;obtain ⟨hq,ho⟩:=HOQ.out w7 hf7;have HQ7:=ae hq;have HO7:=ae ho;clear HDU HOQ hq ho hf7 k0 k11
    cases B with
    |false=>
     clear HO7;go_wp2;exact HQ7.out
    |true=>
     clear HQ7;go_wp2_with fail
     refine (HO7.out).mono ?_;rintro e w8 ⟨rfl,hq⟩;have H:=ae hq;clear HO7 hq;go_wp2;exact H.out
  ·have hkd2:¬(c.kind:Int)=1:=by omega
   have hkd3:((c.kind:Int)==1)=false:=by rw [beq_eq_false_iff_ne];exact hkd2
   clear hn1 hn2 hi6 hF6 hT6 HYF k11 hk3;generalize (c.kind:Int)=K at*;go_wp2;exact HQ6.out
 ·have H:=ae (HNO.out w3 w4 u2 n2 T2 HF4.out hno hq hf ht);clear HMA HYE HNO hno hq hf ht HF4 HRO2 HSE;go_wp2;exact H.out
end
def jc (b:Nat) (c:Cf) (A':AG) (rs':List Nat) (T:Nat→Prop) (w w':World):Prop:=∃u n T',b8 b c A' rs' u n T' w'∧Fr T w w'∧∀k,T' k→T k∨w.heap.size≤k
def yz (m:Nat):Option Nat→Value
 |none=> .iface 112 (.pointer (some ⟨m,0,none⟩))
 |some y=> .iface 115 (.pointer (some ⟨y,0,none⟩))
section
variable {b u n s x:Nat} {c:Cf} {A:AG} {rs:List Nat} {T:Nat→Prop} {w w':World}
theorem aP.slot {φ L:Nat→Nat} {lo hi z:Nat} (h:aP A rs φ L lo hi) (hz:z=0∨Reach A.gr rs z):aP A (rs.set s z) φ L lo hi:=h.less (fun _ hr=>sh hz hr)
theorem wW (hi:b8 b c A rs u n T w) (hs:s<c.Sl) {z:Nat} (hz:z=0∨Reach A.gr rs z):∃rb rg ls,w.cell? ⟨b,9,none⟩=some (.pointer (some ⟨rb,0,none⟩))∧aW w rb rg ls∧s<ls.length∧(∀(t r:Nat),rs[t]? =some r→∃a,ls[t]? =some a∧(r=z→∀w',aW w' rb rg (ls.set s a)→Fr (fun k=>k=rg) w w'→jc b c A (rs.set s z) T w w'))∧(z=0→∀w',aW w' rb rg (ls.set s 0)→Fr (fun k=>k=rg) w w'→jc b c A (rs.set s z) T w w'):=by
 obtain ⟨h,φ,L,Ba,ub,cy,ns,bs,S,rfl,hw,hT,hcy⟩:=hi;have d:=hw.d;obtain ⟨e1,e2,e3,e4,e5,e6,e7,e8,e9⟩:=id hw.e;have hfin:∀w',aW w' h.rb h.rg ((rs.map φ).set s (φ z))→Fr (fun k=>k=h.rg) w w'→jc h.b c A (rs.set s z) T w w':=fun w' hr hf=>by
  refine ⟨u,n,T,⟨h,φ,L,Ba,ub,cy,ns,bs,S,rfl,⟨hw.cok,ak.frame hw.blk hf e2,?_,ak.frame hw.reg hf (Ne.symm e5),an hw.tab hf (Ne.symm e7),hw.laid.slot hz,by rw [List.length_set];exact hw.Sl,hw.fits,hw.half,hw.mem.stays hf (fun k hk=>(d k hk).2.2.1) (Ne.symm e7),d,hw.e⟩,hT,hcy⟩,hf.mono (fun k hk=> .inl ((hT k).2 (.inr (.inr (.inr (.inl hk)))))),fun k hk=> .inl hk⟩;rw [List.map_set];exact hr
 refine ⟨h.rb,h.rg,rs.map φ,ak.cell hw.blk 9 rfl,hw.roots,by rw [List.length_map,hw.Sl];exact hs,fun t r hr=>⟨φ r,by rw [List.getElem?_map,hr];rfl,fun e w' h1 h2=>hfin w' (by rw [←e];exact h1) h2⟩,fun e w' h1 h2=>hfin w' (by rw [e,hw.laid.zero];exact h1) h2⟩
theorem ju (hi:b8 b c A rs u n T w):Calls Tryz.prog 50 #[b] w fun e w'=>e= .returned (.bool false)∧w=w':=by
 obtain ⟨h,φ,L,Ba,ub,cy,ns,bs,S,rfl,hw,hT,hcy⟩:=hi;exact cI hw.blk
theorem kB (hi:b8 b c A rs u n T w) (hs:s<c.Sl):Calls Tryz.prog 14 #[b,.int .i64 s] w fun e w'=>e= .returned (.int .i64 0)∧jc b c A (rs.set s 0) T w w':=by
 have HN:=ae (ju hi);obtain ⟨rb,rg,ls,k9,hr,hlt,_,hq⟩:=wW hi hs (z:=0) (.inl rfl);have HS:=ae (nF hr s 0 hlt);have HQ:=ae (hq rfl);clear hi hr hlt hq;generalize (jc b c A (rs.set s 0) T w)=Q at*
 go_enter Tryz.func14,Tryz.ntmps14
 go_wp2_with fail
 refine (HN.out).mono ?_;rintro e w1 ⟨rfl,rfl⟩;clear HN;go_wp2_with fail
 refine (HS.out).mono ?_;rintro e w1 ⟨rfl,h1,h2⟩;have H:=ae (HQ.out w1 h1 h2);clear HS HQ h1 h2 k9;go_wp2;go_ret;exact ⟨rfl,H.out⟩
theorem mN (hi:b8 b c A rs u n T w) (hs:s<c.Sl) {t r:Nat} (ht:rs[t]? =some r):Calls Tryz.prog 15 #[b,.int .i64 s,.int .i64 t] w fun e w'=>e= .returned (.int .i64 0)∧jc b c A (rs.set s r) T w w':=by
 have HN:=ae (ju hi);obtain ⟨rb,rg,ls,k9,hr,hlt,hq,_⟩:=wW hi hs (z:=r) (by
  by_cases h0:r=0
  ·exact .inl h0
  ·exact .inr (.root (List.mem_of_getElem? ht) h0))
 obtain ⟨a,ha,hq⟩:=hq t r ht;have HS:=ae (sn hr s t a hlt ha);have HQ:=ae (hq rfl);clear hi hr hlt hq;generalize (jc b c A (rs.set s r) T w)=Q at*
 go_enter Tryz.func15,Tryz.ntmps15
 go_wp2_with fail
 refine (HN.out).mono ?_;rintro e w1 ⟨rfl,rfl⟩;clear HN;go_wp2_with fail
 refine (HS.out).mono ?_;rintro e w1 ⟨rfl,h1,h2⟩;have H:=ae (HQ.out w1 h1 h2);clear HS HQ h1 h2 k9;go_wp2;go_ret;exact ⟨rfl,H.out⟩
theorem oY {m rb ub:Nat} {cy:Option Nat} {ns bs:Int} (h:fT w b c m rb ub cy ns bs):Calls Tryz.prog 62 #[b] w fun e w'=>e= .returned (yz m cy)∧w=w':=by
 have k11:=ak.cell h 11 rfl;have k8:=ak.cell h 8 rfl;clear h
 cases cy with
 |none=>
  rw [show iG none= .pointer none from rfl] at k11;unfold yz
  go_enter Tryz.func62,Tryz.ntmps62
  go_wp2;go_ret;exact ⟨rfl,rfl⟩
 |some y=>
  rw [show iG (some y)= .pointer (some ⟨y,0,none⟩) from rfl] at k11;unfold yz
  go_enter Tryz.func62,Tryz.ntmps62
  go_wp2;go_ret;exact ⟨rfl,rfl⟩
theorem nZ.space {q:Nat→Prop} {h:Hp} {Ba:Nat} {L:Nat→Nat} {S:Nat→Prop} {cy:Option Nat} (hx:nZ c h.m Ba (Ba+u) q L S w cy n) (hc:cM c) (hh:c.half Ba) (hu:u≤c.Wd):∃t v fl fs r I dom,yz h.m cy= .iface t v∧ba t v fl r I dom∧ka t v fs r I dom∧I L S w∧(∀k,Ba≤k→k<Ba+u→dom k)∧∀L' S' w',I L' S' w'→∃n',nZ c h.m Ba (Ba+u) (fun _=>True) L' S' w' cy n':=by
 cases cy with
 |none=>
  obtain ⟨hn0,Us,Hg,mp,hm,hmp⟩:=hx;exact ⟨_,_,_,_,_,_,_,rfl,aF _ _ _ _ _ _ _,jB _ _ _ _ _ _ _,hm,jC hmp (hh.mod hc) (by have:=hh.top;omega),fun L' S' w' h=>⟨0,rfl,Us,Hg,mp,h,hmp⟩⟩
 |some y=>
  obtain ⟨hk,cc,st,hf',hg,Mv,fr,ah,q1,⟨Us,_,q2⟩,rfl,r2,r3,r4,r5,r6,r7,r8⟩:=hx;exact ⟨_,_,_,_,_,_,_,rfl,vP q1,xv q1,⟨Mv,n,fr,ah,q2.s⟩,fun k h1 h2=>⟨by omega,h2⟩,fun L' S' w' ⟨mvl',n',fr',ah',h⟩=>⟨n',hk,cc,st,hf',hg,mvl',fr',ah',q1,let ⟨us,hu⟩:=h.su;⟨us,trivial,hu⟩,rfl,r2,r3,r4,r5,r6,r7,r8⟩⟩
end
def qQ (b:Nat) (c:Cf) (A':AG) (rs':List Nat) (T:Nat→Prop) (w w':World):Prop:=∃u n T',vi b c A' rs' u n T' w'∧Fr T w w'∧∀k,T' k→T k∨w.heap.size≤k
section
variable {b u n s x t v i:Nat} {c:Cf} {A A':AG} {rs:List Nat} {T:Nat→Prop} {w w1 w' w'':World}
theorem qQ.end_ (h:qQ b c A rs T w w'):Calls Tryz.prog 63 #[b] w' fun e w''=>e= .returned (.tuple #[])∧jc b c A rs T w w'':=by
 obtain ⟨u,n,T',h1,h2,h3⟩:=h;refine (lD h1).mono ?_;rintro e w'' ⟨rfl,T'',g1,g2,g3⟩;have hz:=h2.size;exact ⟨rfl,u,n,T'',g1,h2.trans g2 h3,fun k hk=>(g3 k hk).elim (h3 k) (fun h=> .inr (by omega))⟩
theorem tY {p f g i:Nat} (ho:bw p f g) (hi:i<p):cJ p f g i=1:=by
 unfold cJ cu;rw [if_pos ho,if_neg (by omega),if_pos (by omega)]
structure yQ (φ L:Nat→Nat) (A:AG) (dom:Nat→Prop) (x i:Nat):Prop where
 a1:1≤φ x
 a2:φ x<4611686018427387904
 i1:i<256
 d1:dom (φ x)
 hd:d9 L (φ x) (A.np x) (A.nf x) (A.ng x)
 d2:dom (φ x+1+i)
theorem aP.spot {φ L:Nat→Nat} {lo hi:Nat} (h:aP A rs φ L lo hi) {dom:Nat→Prop} (hd:∀k,lo≤k→k<hi→dom k) (hh:hi≤1048576) (hx:Reach A.gr rs x) (hi':i<A.np x+A.nf x+A.ng x):yQ φ L A dom x i:=by
 have h1:=h.lies x hx;have h2:=h.head x hx;have h3:=h2.2;have h4:=h.one;unfold bw at h3;unfold AG.sz at h1;exact ⟨by omega,by omega,by omega,hd _ (by omega) (by omega),h2,hd _ (by omega) (by omega)⟩
theorem tV {q:Nat→Prop} {h:Hp} {φ L L':Nat→Nat} {Ba ub:Nat} {cy:Option Nat} {ns bs:Int} {S:Nat→Prop} (hw:fU q h c A rs φ L Ba u ub cy n ns bs S w) (hT:∀k,T k↔gj h ub S k) {I:dW} (hback:∀L' S' w',I L' S' w'→∃n',nZ c h.m Ba (Ba+u) (fun _=>True) L' S' w' cy n') (hl:aP A' rs φ L' Ba (Ba+u)) (hf:Fr (fun _=>False) w w1) (hp:dM I L' S w1 w'):qQ h.b c A' rs T w w':=by
 obtain ⟨S',g1,g2,g3⟩:=hp;obtain ⟨n',hx⟩:=hback _ _ _ g1;have hz:=hf.size;have ht:=(hw.keep hf).turn g2 g3 hx hl;exact ⟨u,n',gj h ub S',⟨h,φ,L',Ba,ub,cy,ns,bs,S',rfl,ht,fun k=>Iff.rfl⟩,(hf.mono (fun _ h=>h.elim)).trans g2 (fun k hk=> .inl ((hT k).2 (.inl hk))),fun k hk=>(gj.sub g3 k hk).elim (fun h=> .inl ((hT k).2 h)) (fun h=> .inr (by omega))⟩
theorem rC (hi:b8 b c A rs u n T w) (hs:rs[s]? =some x) (hx0:x≠0) (hix:i<A.np x) (ht:rs[t]? =some v):∃sv,∃ax av:Nat,(∀w1,Fr (fun _=>False) w w1→∀xb cp:Nat,w1.cell? ⟨xb,0,none⟩=some (.int .i64 s)→w1.cell? ⟨xb,1,none⟩=some (.int .i64 t)→Calls Tryz.prog 60 #[b,.slice (some ⟨xb,0,none⟩) 2 cp] w1 (vq [ax,av] w1))∧
  (∀w1,Fr (fun _=>False) w w1→Calls Tryz.prog 62 #[b] w1 fun e w'=>e= .returned sv∧w1=w')∧
  ∀w1,Fr (fun _=>False) w w1→Calls Tryz.prog 61 #[sv,.int .i64 ax,.int .i64 i,.int .i64 av] w1 fun e w'=>e= .returned (.int .i64 0)∧qQ b c (A.put x i v) rs T w w':=by
 obtain ⟨h,φ,L,Ba,ub,cy,ns,bs,S,rfl,hw,hT,hcy⟩:=hi;have htp:=hw.half.top;obtain ⟨hW5,_⟩:=hw.cok.W5;have hfit:=hw.fits;have hxr:Reach A.gr rs x:= .root (List.mem_of_getElem? hs) hx0;have hvr:v=0∨Reach A.gr rs v:=by
  by_cases h0:v=0
  ·exact .inl h0
  ·exact .inr (.root (List.mem_of_getElem? ht) h0)
 refine ⟨yz h.m cy,φ x,φ v,fun w1 hf xb cp h1 h2=> ?_,fun w1 hf=>oY (hw.keep hf).blk,fun w1 hf=> ?_⟩
 ·refine tS (hw.keep hf).blk (hw.keep hf).roots xb cp [φ x,φ v] (fun j a hj=> ?_) (by simp) (by simp)
  match j,hj with
  |0,hj=>
   obtain rfl:φ x=a:=Option.some.inj hj;exact ⟨s,h1,by rw [List.getElem?_map,hs];rfl⟩
  |1,hj=>
   obtain rfl:φ v=a:=Option.some.inj hj;exact ⟨t,h2,by rw [List.getElem?_map,ht];rfl⟩
  |j+2,hj=>exact absurd hj (by simp)
 ·obtain ⟨ty,vv,fl,fs,r,I,dom,he,hlaw,hst,hI,hdom,hback⟩:=(hw.keep hf).mem.space hw.cok hw.half hfit;have hsp:=hw.laid.spot (i:=i) hdom (by omega) hxr (by omega);have hva:φ v<2147483648:=by
   rcases hvr with rfl|hvr
   ·rw [hw.laid.zero];omega
   ·have:=hw.laid.lies v hvr;have h1:1≤A.sz v:=by unfold AG.sz;omega
    omega
  rw [he];refine (jJ hlaw hst hI (φ x) i _ _ _ (φ v) hsp.a1 hsp.a2 hsp.i1 hsp.d1 hsp.hd (tY hsp.hd.2 hix) hsp.d2 hva).mono ?_;rintro e w' ⟨rfl,hp⟩;exact ⟨rfl,tV hw hT hback (hw.laid.put_ptr hxr hix hvr) hf hp⟩
theorem kE (hi:b8 b c A rs u n T w) (hs:rs[s]? =some x) (hx0:x≠0) (hix:i<A.np x) (ht:rs[t]? =some v):Calls Tryz.prog 13 #[b,.int .i64 s,.int .i64 i,.int .i64 t] w fun e w'=>e= .returned (.int .i64 0)∧jc b c (A.put x i v) rs T w w':=by
 obtain ⟨sv,ax,av,h1,h2,h3⟩:=rC hi hs hx0 hix ht;obtain ⟨W1,hW1⟩:∃W1,w.alloc (.cells #[.int .i64 s,.int .i64 t] 3)=W1:=⟨_,rfl⟩;have hf1:Fr (fun _=>False) w W1:=by rw [←hW1];exact (Fr.refl _ w).alloc _
 have hb1:ak W1 w.heap.size [.int .i64 s,.int .i64 t] 3:=by rw [←hW1];exact ak.new w _ _
 have HFI:=ae (h1 W1 hf1 w.heap.size 2 (hb1.cell 0 rfl) (hb1.cell 1 rfl));have HSP:=ae (fun w1 (hf:Fr (fun _=>False) W1 w1)=>h2 w1.drew ((hf1.trans hf (fun _ h=>h.elim)).drew));have HST:=ae (fun w1 (hf:Fr (fun _=>False) W1 w1)=>h3 w1.drew ((hf1.trans hf (fun _ h=>h.elim)).drew));have HEN:=ae (fun w' (h:qQ b c (A.put x i v) rs T w w')=>h.end_);clear h1 h2 h3 hi hf1 hb1 hs ht hix hx0;generalize (jc b c (A.put x i v) rs T w)=Q at*;generalize (qQ b c (A.put x i v) rs T w)=J at*
 go_enter Tryz.func13,Tryz.ntmps13
 go_wp2_with fail
 refine (HFI.out).mono ?_;rintro e w1 ⟨g,cap,rfl,hc,hf⟩;have c0:=hc 0 ax rfl;have c1:=hc 1 av rfl;have d0:w1.drew.cell? ⟨g,0,none⟩=some (.int .i64 ax):=c0;have d1:w1.drew.cell? ⟨g,1,none⟩=some (.int .i64 av):=c1;have HSP1:=ae (HSP.out w1 hf);have HST1:=ae (HST.out w1 hf);clear HFI HSP HST hc hf c0 c1 hW1;rw [show [ax,av].length=2 from rfl];go_wp2;have HSP:=HSP1;clear HSP1;refine aB (fun w'=>w'=w1.drew) 9 (by kernel_rfl) (by kernel_rfl) rfl ?_;simp only [List.take_succ_cons,List.take_zero,List.drop_succ_cons,List.drop_zero];refine ag (.pointer (some ⟨b,0,none⟩)) rfl (fun w' hw=>by go_simp) ?_;simp only [Act.put,aa,ab,ac];refine aA (sv) 62 #[b] rfl (fun w'=>by go_simp) (fun w' hw=>by subst hw;exact (HSP.out).mono (fun e w' h=>⟨h.1,h.2.symm⟩)) ?_;simp only [Act.put,aa,ab,ac];refine ag (.slice (some ⟨g,0,none⟩) 2 cap) rfl (fun w' hw=>by go_simp) ?_;simp only [Act.put,aa,ab,ac];refine ag (.pointer (some ⟨g,0,none⟩)) rfl (fun w' hw=>by go_simp) ?_;simp only [Act.put,aa,ab,ac];refine ag (.int .i64 ax) rfl (fun w' hw=>by subst hw;go_simp) ?_;simp only [Act.put,aa,ab,ac];refine ag (.int .i64 i) rfl (fun w' hw=>by go_simp) ?_;simp only [Act.put,aa,ab,ac];refine ag (.slice (some ⟨g,0,none⟩) 2 cap) rfl (fun w' hw=>by go_simp) ?_;simp only [Act.put,aa,ab,ac];refine ag (.pointer (some ⟨g,1,none⟩)) rfl (fun w' hw=>by go_simp) ?_;simp only [Act.put,aa,ab,ac];refine ag (.int .i64 av) rfl (fun w' hw=>by subst hw;go_simp) ?_;simp only [Act.put,aa,ab,ac];refine wpQuiet_nil ?_;rintro w2 rfl;go_wp2_with fail
 refine (HST1.out).mono ?_;rintro e w3 ⟨rfl,hj⟩;have HEN3:=ae (HEN.out w3 hj);clear HST1 hj HEN HSP d0 d1;go_wp2_with fail
 refine (HEN3.out).mono ?_;rintro e w4 ⟨rfl,hq⟩;have H:=ae hq;clear HEN3 hq;go_wp2;go_ret;exact ⟨rfl,H.out⟩
end
end Go.Proofs.YthahbijbpinneaaGreatDoor
