import Derived.Test.YthahbijbpinneaaGreatDoorA4
import Derived.Test.YthahbijbpinneaaGreatDoorA7
import Derived.Test.YthahbijbpinneaaGreatDoorA11
set_option maxRecDepth 100000
set_option maxHeartbeats 8000000
set_option linter.all false
namespace Go.Proofs.YthahbijbpinneaaGreatDoor
open Go.RowKit
def Cy.has (c:Cy) (k:Nat):Prop:=k=c.y∨k=c.mv∨k=c.wb∨k=c.sb∨c.EL.has k∨(c.lo<=k∧k<c.hi)
structure Av (c:Cy):Prop where
 y:c.y≠c.mv∧c.y≠c.wb∧c.y≠c.sb∧¬c.EL.has c.y∧¬(c.lo<=c.y∧c.y<c.hi)∧c.y≠aN
 mv:c.mv≠c.wb∧c.mv≠c.sb∧¬c.EL.has c.mv∧¬(c.lo<=c.mv∧c.mv<c.hi)∧c.mv≠aN
 wb:c.wb≠c.sb∧¬c.EL.has c.wb∧¬(c.lo<=c.wb∧c.wb<c.hi)∧c.wb≠aN
def pj (l:List Bool):List Value:=l.map fun x=>Value.bool x
structure dX (c:Cy) (s:bh) (hf hg:Nat->Nat) (Fs Us Hg:Nat) (Sm:Nat->Prop) (mp:Nat->Bool) (M:Nat->Nat) (Mv:List Bool) (fw:Nat->Option Nat) (n left fr ah:Nat) (w:World):Prop where
 blk:tU w c left fr ah
 mem:bn w c.m Sm s.P s.W Fs Us Hg mp M
 plan:cl c.lo c.hi w c.pl s.W c.B s.E c.to_
 ext:bD w c.EL s.W s.E
 tab:bv w
 mv:aj w c.mv (pj Mv) 4
 wds:cI w c.wb n fw
 shp:∃ns f,cV w c.sb ns f∧∀a,s.E a≠0->oT (f a)=(s.hp a,hf a,hg a)
 hib:c.hi<=w.heap.size
 dm:∀k,Sm k->¬c.has k∧k≠aN
 d:Av c
 B:c.B=s.B
 to_:c.to_=s.to_
 len:Mv.length=c.nb
section
variable {c:Cy} {s:bh} {hf hg:Nat->Nat} {Fs Us Hg used' Hg':Nat} {Sm Sm':Nat->Prop} {mp mp':Nat->Bool} {M M':Nat->Nat} {Mv mvl':List Bool} {fw fw':Nat->Option Nat} {n n' left fr ah left' fr' ah':Nat} {w w':World}
theorem dX.lt (h:dX c s hf hg Fs Us Hg Sm mp M Mv fw n left fr ah w):∀k,c.has k->k<w.heap.size:=by
 intro k a;obtain ⟨d,f,b,_⟩:=h.shp;rcases a with rfl|rfl|rfl|rfl|a|a
 ·exact h.blk.lt
 ·exact h.mv.lt
 ·exact h.wds.lt
 ·exact b.lt
 ·exact h.ext.lt k a
 ·have:=h.hib;omega
theorem dX.tabl (h:dX c s hf hg Fs Us Hg Sm mp M Mv fw n left fr ah w):aN<w.heap.size:=aD (h.tab 0 0 rfl)
theorem dX.frame {T:Nat->Prop} (h:dX c s hf hg Fs Us Hg Sm mp M Mv fw n left fr ah w) (a:Fr T w w') (b:∀k,c.has k->¬T k) (e:∀k,Sm k->¬T k) (g:¬T aN):dX c s hf hg Fs Us Hg Sm mp M Mv fw n left fr ah w':=by
 obtain ⟨o,f,p,q⟩:=h.shp;exact ⟨h.blk.frame a (b _ (.inl rfl)),h.mem.frame a e,h.plan.frame a (fun i j=>by
   by_cases m:c.lo<=i∧i<c.hi
   ·exact absurd j (b i (.inr (.inr (.inr (.inr (.inr m))))))
   ·omega),h.ext.frame a (fun k l=>b k (.inr (.inr (.inr (.inr (.inl l)))))),ak h.tab a g,h.mv.frame a (b _ (.inr (.inl rfl))),h.wds.frame a (b _ (.inr (.inr (.inl rfl)))),⟨o,f,p.frame a (b _ (.inr (.inr (.inr (.inl rfl))))),q⟩,
  by have:=h.hib;have:=a.size;omega,h.dm,h.d,h.B,h.to_,h.len⟩
theorem dX.Fh (h:dX c s hf hg Fs Us Hg Sm mp M Mv fw n left fr ah w) (a:Fr (fun _=>False) w w'):dX c s hf hg Fs Us Hg Sm mp M Mv fw n left fr ah w':=h.frame a (fun _ _ h=>h) (fun _ _ h=>h) (fun h=>h)
theorem dX.mem_ (h:dX c s hf hg Fs Us Hg Sm mp M Mv fw n left fr ah w) (q:bn w' c.m Sm' s.P s.W Fs used' Hg' mp' M') (a:Fr Sm w w') (j:∀k,Sm' k->Sm k∨w.heap.size<=k):dX c s hf hg Fs used' Hg' Sm' mp' M' Mv fw n left fr ah w':=by
 obtain ⟨u,f,v,x⟩:=h.shp;have b:∀k,c.has k->¬Sm k:=fun k g j=>(h.dm k j).1 g
 have r:¬Sm aN:=fun j=>(h.dm _ j).2 rfl
 exact ⟨h.blk.frame a (b _ (.inl rfl)),q,h.plan.frame a (fun i p=>by
   by_cases t:c.lo<=i∧i<c.hi
   ·exact absurd p (b i (.inr (.inr (.inr (.inr (.inr t))))))
   ·omega),h.ext.frame a (fun k g=>b k (.inr (.inr (.inr (.inr (.inl g)))))),ak h.tab a r,h.mv.frame a (b _ (.inr (.inl rfl))),h.wds.frame a (b _ (.inr (.inr (.inl rfl)))),⟨u,f,v.frame a (b _ (.inr (.inr (.inr (.inl rfl))))),x⟩,
  by have:=h.hib;have:=a.size;omega,fun k g=>by
   rcases j k g with l|l
   ·exact h.dm k l
   ·exact ⟨fun o=>by have:=h.lt k o;omega,fun e=>by have:=h.tabl;omega⟩,h.d,h.B,h.to_,h.len⟩
theorem dX.y_ (h:dX c s hf hg Fs Us Hg Sm mp M Mv fw n left fr ah w) (p:tU w' c left' fr' ah') (a:Fr (fun k=>k=c.y) w w'):dX c s hf hg Fs Us Hg Sm mp M Mv fw n left' fr' ah' w':=by
 obtain ⟨r,f,t,u⟩:=h.shp;obtain ⟨g,j,l,m,v,o⟩:=h.d.y;exact ⟨p,h.mem.frame a (fun k b e=>(h.dm k b).1 (.inl e)),h.plan.frame a (fun i q=>by subst q;omega),h.ext.frame a (fun k b e=>m (e▸b)),ak h.tab a (Ne.symm o),h.mv.frame a (Ne.symm g),h.wds.frame a (Ne.symm j),⟨r,f,t.frame a (Ne.symm l),u⟩,
  by have:=h.hib;have:=a.size;omega,h.dm,h.d,h.B,h.to_,h.len⟩
theorem dX.mv_ (h:dX c s hf hg Fs Us Hg Sm mp M Mv fw n left fr ah w) (p:aj w' c.mv (pj mvl') 4) (r:mvl'.length=c.nb) (a:Fr (fun k=>k=c.mv) w w'):dX c s hf hg Fs Us Hg Sm mp M mvl' fw n left fr ah w':=by
 obtain ⟨t,f,u,v⟩:=h.shp;obtain ⟨g,x,z,A,C,D⟩:=h.d.y;obtain ⟨j,l,m,E,o⟩:=h.d.mv;exact ⟨h.blk.frame a g,h.mem.frame a (fun k b e=>(h.dm k b).1 (.inr (.inl e))),h.plan.frame a (fun i q=>by subst q;omega),h.ext.frame a (fun k b e=>m (e▸b)),ak h.tab a (Ne.symm o),p,h.wds.frame a (Ne.symm j),⟨t,f,u.frame a (Ne.symm l),v⟩,
  by have:=h.hib;have:=a.size;omega,h.dm,h.d,h.B,h.to_,r⟩
theorem dX.wb_ (h:dX c s hf hg Fs Us Hg Sm mp M Mv fw n left fr ah w) (p:cI w' c.wb n' fw') (a:Fr (fun k=>k=c.wb) w w'):dX c s hf hg Fs Us Hg Sm mp M Mv fw' n' left fr ah w':=by
 obtain ⟨r,f,t,u⟩:=h.shp;obtain ⟨v,g,x,z,A,C⟩:=h.d.y;obtain ⟨j,D,E,F,G⟩:=h.d.mv;obtain ⟨l,m,H,o⟩:=h.d.wb;exact ⟨h.blk.frame a g,h.mem.frame a (fun k b e=>(h.dm k b).1 (.inr (.inr (.inl e)))),h.plan.frame a (fun i q=>by subst q;omega),h.ext.frame a (fun k b e=>m (e▸b)),ak h.tab a (Ne.symm o),h.mv.frame a j,p,⟨r,f,t.frame a (Ne.symm l),u⟩,
  by have:=h.hib;have:=a.size;omega,h.dm,h.d,h.B,h.to_,h.len⟩
theorem fS {l:List Bool} {k:Nat} (h:k<l.length):(pj l)[k]? =some (.bool (l.getD k false)):=by
 unfold pj;rw [List.getElem?_map,List.getElem?_eq_getElem h];simp [List.getD,h]
end
def jm (s:bh) (X:Nat->Bool) (q:Nat):Nat:=cnt (fun a=>ai s.E a&& !X (bt s.E a)) (q*s.P) (q*s.P+s.P)
theorem jt {s:bh} (b:1<=s.P) (X:Nat->Bool) (q:Nat):jm s X q≠0↔eM s.P (ai s.E) X q=true:=by
 unfold eM;constructor
 ·intro h
  cases hf:fd s.P (fun a=>ai s.E a&& !X (cnt (ai s.E) 0 a)) q with
  |true=>rfl
  |false=>
   refine absurd (aE (fun i d e=> ?_)) h;exact (fY b).1 hf i (ft (i:=i-q*s.P) b (by omega) (by omega))
 ·intro h;obtain ⟨a,c,g⟩:=(aH b).1 h;have d:q*s.P<=a:=by rw [<-c];exact Nat.div_mul_le_self a s.P
  have e:a<q*s.P+s.P:=by
   have j:=Nat.div_add_mod a s.P;have:=Nat.mod_lt a (show 0<s.P by omega);rw [c,Nat.mul_comm] at j;omega
  have:=iE (f:=fun a=>ai s.E a&& !X (bt s.E a)) d e g;unfold jm;omega
theorem ov {s:bh} (r:1<=s.P) {X:Nat->Bool} {a:Nat} (m:ai s.E a=true) (t:X (bt s.E a)=false) (q:Nat):
  jm s X q=jm s (fun j=>X j||decide (j=bt s.E a)) q+(if q=a/s.P then 1 else 0):=by
 have d:∀i,i≠a->(ai s.E i&& !(X (bt s.E i)||decide (bt s.E i=bt s.E a)))=(ai s.E i&& !X (bt s.E i)):=fun i g=>by
  cases hl:ai s.E i with
  |false=>rfl
  |true=>
   rw [decide_eq_false (fun e=>g (mq hl m e)),Bool.or_false]
 unfold jm;by_cases e:q=a/s.P
 ·rw [if_pos e];have k:q*s.P<=a:=by rw [e];exact Nat.div_mul_le_self a s.P
  have o:a<q*s.P+s.P:=by
   have p:=Nat.div_add_mod a s.P;have:=Nat.mod_lt a (show 0<s.P by omega);rw [<-e,Nat.mul_comm] at p;omega
  have l:∀f:Nat->Bool,cnt f (q*s.P) (q*s.P+s.P)=cnt f (q*s.P) a+(if f a then 1 else 0)+cnt f (a+1) (q*s.P+s.P):=fun f=>by
   rw [ay f (show q*s.P<=a+1 by omega) (show a+1<=q*s.P+s.P by omega),aC f k]
  rw [l,l,aK (f:=fun c=>ai s.E c&& !(X (bt s.E c)||decide (bt s.E c=bt s.E a))) (a:=q*s.P) (b:=a) (fun i _ h=>d i (by omega)),aK (f:=fun c=>ai s.E c&& !(X (bt s.E c)||decide (bt s.E c=bt s.E a))) (a:=a+1) (b:=q*s.P+s.P) (fun i h _=>d i (by omega))];simp [m,t];omega
 ·rw [if_neg e,Nat.add_zero];refine aK (fun i k o=>(d i (fun n=>e ?_)).symm);subst n;exact (ft (i:=i-q*s.P) r (by omega) (by omega)).symm
structure zl (s:bh) (X tp mp:Nat->Bool) (fw:Nat->Option Nat):Prop where
 cnts:∀q,(fw q).getD 0=jm s X q
 pages:∀q,q<s.W/s.P->mp q=(eM s.P (ai s.E) X q||tp q)
 apart:∀a,ai s.E a=true->tp (a/s.P)=false
theorem zl.step {s:bh} {X p mp b:Nat->Bool} {m:Nat->Option Nat} (c:1<=s.P) (h:zl s X p mp m) {a:Nat} (f:ai s.E a=true) (n:X (bt s.E a)=false)
  (i:∀q,b q=(mp q&& !(decide (jm s X (a/s.P)=1)&&q==a/s.P))):
  zl s (fun j=>X j||decide (j=bt s.E a)) p b (dB m (a/s.P) (jm s X (a/s.P)-1)):=by
 refine ⟨fun q=> ?_,fun q t=> ?_,h.apart⟩
 ·unfold dB;have:=ov c f n q;by_cases e:q=a/s.P
  ·rw [if_pos e,Option.getD_some];rw [if_pos e] at this;rw [<-e];omega
  ·rw [if_neg e,h.cnts];rw [if_neg e] at this;omega
 ·rw [i,h.pages q t];have d:=ov c f n q;have o:=jt c X q;have k:=jt c (fun j=>X j||decide (j=bt s.E a)) q;have g:=h.apart a f;by_cases e:q=a/s.P
  ·rw [if_pos e] at d;subst e;rw [beq_self_eq_true,Bool.and_true,g,Bool.or_false,Bool.or_false];have r:eM s.P (ai s.E) X (a/s.P)=true:=o.1 (by omega);rw [r,Bool.true_and];by_cases l:jm s X (a/s.P)=1
   ·rw [decide_eq_true l,Bool.not_true];refine (Bool.eq_false_iff.2 (fun hf=> ?_)).symm;exact absurd (k.2 hf) (by omega)
   ·rw [decide_eq_false l,Bool.not_false];exact (k.1 (by omega)).symm
  ·rw [if_neg e,Nat.add_zero] at d;rw [beq_eq_false_iff_ne.2 e,Bool.and_false,Bool.not_false,Bool.and_true];congr 1
   rw [Bool.eq_iff_iff,<-o,<-k,d]
section
variable {c:Cy} {s:bh} {hf hg:Nat->Nat} {Fs:Nat} {Sm Sm':Nat->Prop} {mp mp':Nat->Bool} {M M0:Nat->Nat} {Mv:List Bool} {fw fw':Nat->Option Nat} {n left fr ah:Nat} {w w' w0:World} {X tp:Nat->Bool}
def ja (c:Cy) (s:bh) (hf hg:Nat->Nat) (Fs:Nat) (Mv:List Bool) (n left fr ah:Nat) (M0:Nat->Nat) (tp:Nat->Bool) (Sm0:Nat->Prop) (w0:World) (X:Nat->Bool) (w:World):Prop:=
 ∃Us Hg Sm mp M fw,dX c s hf hg Fs Us Hg Sm mp M Mv fw n left fr ah w∧zl s X tp mp fw∧(∀b,b<s.W->mp (b/s.P)=true->M b=M0 b)∧Fr (fun k=>Sm0 k∨k=c.wb) w0 w∧∀k,Sm k->Sm0 k∨w0.heap.size<=k
theorem ja.Fh {a:Nat->Prop} (h:ja c s hf hg Fs Mv n left fr ah M0 tp a w0 X w) (b:Fr (fun _=>False) w w'):ja c s hf hg Fs Mv n left fr ah M0 tp a w0 X w':=by
 obtain ⟨Us,Hg,Sm,mp,M,fw,d,e,f,g,i⟩:=h;exact ⟨Us,Hg,Sm,mp,M,fw,d.Fh b,e,f,g.trans b (fun _ h=>h.elim),i⟩
theorem ja.anchor {d:Nat->Prop} (h:ja c s hf hg Fs Mv n left fr ah M0 tp d w0 X w):∃a,ja c s hf hg Fs Mv n left fr ah M0 tp a w X w∧(∀f w',ja c s hf hg Fs Mv n left fr ah M0 tp a w f w'->ja c s hf hg Fs Mv n left fr ah M0 tp d w0 f w')∧∀k,a k->k<w.heap.size:=by
 obtain ⟨Us,Hg,Sm,mp,M,fw,j,v,x,l,m⟩:=h;have y:=l.size;refine ⟨Sm,⟨Us,Hg,Sm,mp,M,fw,j,v,x,Fr.refl _ _,fun k e=> .inl e⟩,?_,j.mem.lt⟩;rintro f w' ⟨b,high1,a,i,o,g,p,q,r,t,u⟩;refine ⟨b,high1,a,i,o,g,p,q,r,l.trans t (fun k e=> ?_),fun k e=> ?_⟩
 ·rcases e with h|h
  ·rcases m k h with h|h
   ·exact .inl (.inl h)
   ·exact .inr h
  ·exact .inl (.inr h)
 ·rcases u k e with h|h
  ·exact m k h
  ·exact .inr (by omega)
theorem ja.word {d:Nat->Prop} (o:1<=s.P) (hn:n<4611686018427387904) (h:ja c s hf hg Fs Mv n left fr ah M0 tp d w0 X w) {a:Nat} (D:ai s.E a=true) (F:a<s.W) (C:s.W% s.P=0) (O:X (bt s.E a)=false):
  ∃v,1<=v∧v<=s.P∧w.cell? ⟨c.y,0,none⟩=some (.pointer (some ⟨c.m,0,none⟩))∧w.cell? ⟨c.y,14,none⟩=some (.map (some c.wb))∧
   (Calls Tryz.prog 148 #[c.m] w fun e w'=>e= .returned (.int .i64 (s.P:Int))∧w=w')∧
   (Instr.lookup 33 (.map (some c.wb)) (.int .i64 ((a/s.P:Nat):Int)) false).run Tryz.prog w= .ok (.int .i64 v) w∧
   ∃w1,(Instr.mapUpdate 33 (.map (some c.wb)) (.int .i64 ((a/s.P:Nat):Int)) (.int .i64 ((v-1:Nat):Int))).run Tryz.prog w= .ok () w1∧
    w1.cell? ⟨c.y,0,none⟩=some (.pointer (some ⟨c.m,0,none⟩))∧w1.cell? ⟨c.y,14,none⟩=some (.map (some c.wb))∧
    (Instr.lookup 33 (.map (some c.wb)) (.int .i64 ((a/s.P:Nat):Int)) false).run Tryz.prog w1= .ok (.int .i64 ((v-1:Nat):Int)) w1∧
    (v≠1->ja c s hf hg Fs Mv n left fr ah M0 tp d w0 (fun j=>X j||decide (j=bt s.E a)) w1)∧
    (v=1->Calls Tryz.prog 149 #[c.m,.int .i64 ((a/s.P:Nat):Int)] w1 fun e w2=>e= .returned (.int .i64 0)∧ja c s hf hg Fs Mv n left fr ah M0 tp d w0 (fun j=>X j||decide (j=bt s.E a)) w2):=by
 obtain ⟨Us,Hg,Sm,mp,M,fw,f,A,Z,q4,Q⟩:=h;have K:a/s.P<4611686018427387904:=by have:=Nat.div_le_self a s.P;have:=f.mem.at.2.2.1;omega
 have G:=A.cnts (a/s.P);have p:eM s.P (ai s.E) X (a/s.P)=true:=(aH o).2 ⟨a,rfl,by rw [Bool.and_eq_true,Bool.not_eq_true'];exact ⟨D,O⟩⟩;have L:jm s X (a/s.P)≠0:=(jt o X _).2 p;have N:jm s X (a/s.P)<=s.P:=by unfold jm;have:=be (fun a=>ai s.E a&& !X (bt s.E a)) (a/s.P*s.P) (a/s.P*s.P+s.P);omega
 have ad:=f.mem.at.2.1;have z:=dG F o C;have g:(fw (a/s.P)).isSome=true:=by
  cases hfw:fw (a/s.P) with
  |some x=>rfl
  |none=>rw [hfw] at G;exact absurd G.symm L
 have U:=f.wds.look (a/s.P) K;rw [G] at U;obtain ⟨w1,r1,r2,R⟩:=f.wds.put (a/s.P) (jm s X (a/s.P)-1) K (by omega) hn;rw [if_pos g] at r2;have l:=f.wb_ r2 R;have t:=l.wds.look (a/s.P) K;have hu:(dB fw (a/s.P) (jm s X (a/s.P)-1) (a/s.P)).getD 0=jm s X (a/s.P)-1:=by unfold dB;rw [if_pos rfl];rfl
 rw [hu] at t;have S:Fr (fun k=>d k∨k=c.wb) w0 w1:=q4.trans R (fun k r=> .inl (.inr r));have hz:=q4.size;refine ⟨jm s X (a/s.P),by omega,N,f.blk.cell 0 rfl,f.blk.cell 14 rfl,dJ f.mem,U,w1,r1,l.blk.cell 0 rfl,l.blk.cell 14 rfl,t,fun J=> ?_,fun he=> ?_⟩
 ·exact ⟨Us,Hg,Sm,mp,M,_,l,A.step o D O (fun q=>by rw [decide_eq_false J];simp),Z,S,Q⟩
 ·have I:mp (a/s.P)=true:=by rw [A.pages _ z,p];rfl
  refine (fW l.mem (a/s.P) z I).mono ?_;rintro e w2 ⟨rfl,Sm',B,M',p1,p2,V,Y⟩;refine ⟨rfl,Us-1,B,Sm',_,M',_,l.mem_ p1 V Y,A.step o D O (fun q=>by rw [decide_eq_true he,Bool.true_and]),fun b T H=> ?_,S.trans V (fun k r=> ?_),fun k r=> ?_⟩
  ·have u:mp (b/s.P)=true:=by rw [Bool.and_eq_true] at H;exact H.1
   rw [p2 b T u H];exact Z b T u
  ·rcases Q k r with i|i
   ·exact .inl (.inl i)
   ·exact .inr i
  ·have:=R.size;rcases Y k r with i|i
   ·exact Q k i
   ·exact .inr (by omega)
def uC (s:bh) (X:Nat->Bool) (F k:Nat):Nat->Bool:=fun j=>X j||decide (bt s.E F<=j∧j<bt s.E F+k)
theorem uE (X:Nat->Bool) (F:Nat):uC s X F 0=X:=by
 funext j;unfold uC;rw [decide_eq_false (by omega),Bool.or_false]
theorem uD (X:Nat->Bool) {F k:Nat} (a:bt s.E (F+k)=bt s.E F+k):(fun j=>uC s X F k j||decide (j=bt s.E (F+k)))=uC s X F (k+1):=by
 funext j;unfold uC;rw [Bool.or_assoc,a,<-Bool.decide_or];congr 1
 rw [decide_eq_decide];omega
theorem tF {p:Nat->Prop} (hP:1<=s.P) (hn:n<4611686018427387904) (G:s.W% s.P=0) (h:ja c s hf hg Fs Mv n left fr ah M0 tp p w0 X w) (F t k:Nat) (J:F+k<=s.W) (r:∀i,i<k->ai s.E (F+i)=true∧bt s.E (F+i)=bt s.E F+i) (hx:∀i,i<k->X (bt s.E F+i)=false):
  Calls Tryz.prog 199 #[c.y,.agg #[.int .i64 F,.int .i64 t,.int .i64 k]] w fun e w'=>e= .returned (.tuple #[])∧ja c s hf hg Fs Mv n left fr ah M0 tp p w0 (uC s X F k) w':=by
 have hW:s.W<=524288:=h.choose_spec.choose_spec.choose_spec.choose_spec.choose_spec.choose_spec.1.mem.at.2.2.1;have a7:s.P<=256:=h.choose_spec.choose_spec.choose_spec.choose_spec.choose_spec.choose_spec.1.mem.at.2.1;obtain ⟨W1,f⟩:∃W1,w.alloc (.cells #[.int .i64 F,.int .i64 t,.int .i64 k] 286)=W1:=⟨_,rfl⟩;have g:Fr (fun _=>False) w W1:=by rw [<-f];exact (Fr.refl _ w).alloc _
 have H:aj W1 w.heap.size [.int .i64 F,.int .i64 t,.int .i64 k] 286:=by rw [<-f];exact aj.new w _ _
 obtain ⟨b,a1,a2,a3⟩:∃b,ja c s hf hg Fs Mv n left fr ah M0 tp b W1 X W1∧(∀A w',ja c s hf hg Fs Mv n left fr ah M0 tp b W1 A w'->ja c s hf hg Fs Mv n left fr ah M0 tp p w0 A w')∧∀k,b k->k<w.heap.size:=by
  obtain ⟨S,⟨Us,Hg,Sm,mp,M,fw,U,q2,q3,q4,q5⟩,b2,b3⟩:=h.anchor;refine ⟨S,⟨Us,Hg,Sm,mp,M,fw,U.Fh g,q2,q3,Fr.refl _ _,fun k J=> ?_⟩,fun A w' hh=>b2 A w' ?_,b3⟩
  ·rcases q5 k J with h|h
   ·exact .inl h
   ·have:=U.mem.lt k J;omega
  ·obtain ⟨z,high1,b,a6,M1,av,p1,p2,p3,p4,p5⟩:=hh;have:=g.size;exact ⟨z,high1,b,a6,M1,av,p1,p2,p3,(g.mono (fun _ h=>h.elim)).trans p4 (fun _ h=> .inl h),fun k J=>(p5 k J).imp id (fun h=>by omega)⟩
 have a5:W1.heap.size=w.heap.size+1:=by rw [<-f];exact Array.size_push _
 have u:¬b w.heap.size∧w.heap.size≠c.wb:=by
  obtain ⟨Us,Hg,Sm,mp,M,fw,U,_⟩:=id h;exact ⟨fun hs=>by have:=a3 _ hs;omega,fun e=>by have:=U.wds.lt;omega⟩
 have HB:=ae (fun wr (A:Nat->Bool) (l:ja c s hf hg Fs Mv n left fr ah M0 tp b W1 A wr)=>(show aj wr w.heap.size [.int .i64 F,.int .i64 t,.int .i64 k] 286 from by
  obtain ⟨_,_,_,_,_,_,_,_,_,q4,_⟩:=l;exact H.frame q4 (fun e=>by rcases e with e|e;exact u.1 e;exact u.2 e)))
 have o:=ae (fun (i:Nat) wr (B:i<k) (l:ja c s hf hg Fs Mv n left fr ah M0 tp b W1 (uC s X F i) wr)=>ja.word hP hn l (a:=F+i) (r i B).1 (by omega) G (by unfold uC;rw [(r i B).2,hx i B,decide_eq_false (by omega)];rfl));have m:=ae (fun (i:Nat) (B:i<k)=>uD (s:=s) X (r i B).2);have Z:=ae a2;have R:=ae a1;have hd:∀i:Nat,i<k->((F:Int)+(i:Int)).tdiv (s.P:Int)=(((F+i)/s.P:Nat):Int):=fun i _=>by rw [show (F:Int)+(i:Int)=((F+i:Nat):Int) by omega,bV]
 have Y:=ae hd;have a9:¬s.P=0:=by omega
 clear h a1 a2 a3 g H r hx a5 u hd G hP;rw [<-uE (s:=s) X F] at R
 go_enter Tryz.func199,Tryz.ntmps199
 have k0:=(HB.out W1 _ R.out).cell 0 rfl;go_wp2;clear f
 go_loopw [4] (fun x wr=>∃i:Nat,x= .int .i64 ((F:Int)+(i:Int))∧i<=k∧Hid (ja c s hf hg Fs Mv n left fr ah M0 tp b W1 (uC s X F i) wr)) (fun x _=>(F+k-intOf x).toNat)
 case atStart=>exact ⟨0,by simp,Nat.zero_le _,R⟩
 case round=>
  clear R k0;obtain ⟨i,rfl,B,l⟩:=hrel;have I:=HB.out wr _ l.out;have k0:=I.cell 0 rfl;have k2:=I.cell 2 rfl;by_cases j:i<k
  ·obtain ⟨v,v1,v2,c0,ap,N,r,w1,hu,d0,aq,K,hA,hB⟩:=o.out i wr j l.out;have T:=ae hA;have d:=ae hB;have D:=ae N;have a8:=Y.out i j;have O:=m.out i j;rw [O] at T d;have a0:(v:Int)-1=((v-1:Nat):Int):=by omega
   have a4:IntKind.i64.wrap ((v:Int)-1)=((v-1:Nat):Int):=by rw [IntKind.wrap_i64];omega
   clear hA hB N O l o Z Y m;have bd:(F+i)/s.P<=524288:=Nat.le_trans (Nat.div_le_self _ _) (by omega);generalize (F+i)/s.P=q at*;have bb:(q:Int)<=524288:=by omega
   have c1:(F:Int)+(i:Int)<(F:Int)+(k:Int):=by omega
   go_wp2_with fail
   refine (D.out).mono ?_;rintro e w' ⟨rfl,rfl⟩;clear D;by_cases Q:v=1
   ·subst Q;have C:=ae (d.out rfl);rw [show ((1:Nat):Int)=1 from rfl] at r;rw [show ((1-1:Nat):Int)=0 from rfl] at hu K;clear a0 a4;clear T d;go_wp2_with fail
    refine (C.out).mono ?_;rintro e w2 ⟨rfl,L⟩;have am:=ae L;clear L C hu r K c0 ap d0 aq;go_wp2;go_roundw
    case rel=>exact ⟨i+1,by push_cast;rw [Int.add_assoc],by omega,am⟩
    case measure=>simp [intOf];omega
   ·have V:=ae (T.out Q);have bj:¬(((v-1:Nat):Int)=0):=by omega
    clear T d;generalize v-1=v' at*;go_wp2;go_roundw
    case rel=>exact ⟨i+1,by push_cast;rw [Int.add_assoc],by omega,V⟩
    case measure=>simp [intOf];omega
  ·have ax:i=k:=by omega
   subst ax;have ad:=ae (Z.out _ _ l.out);have c1:¬(F:Int)+(i:Int)<(F:Int)+(i:Int):=by omega
   clear l Z o m Y j;go_wp2;go_end0;exact ⟨rfl,ad.out⟩
end
def kO (s:bh) (M:Nat->Nat) (F t n:Nat):Nat->Nat:=fun x=>if t<=x∧x<t+n then wrd s.E s.hp M s.F (F+(x-t)) else M x
theorem uA (s:bh) (M:Nat->Nat) (F t:Nat):kO s M F t 0=M:=by
 funext x;unfold kO;rw [if_neg (by omega)]
theorem uz (s:bh) (M:Nat->Nat) (F t n:Nat):bw (kO s M F t n) (t+n) (wrd s.E s.hp M s.F (F+n))=kO s M F t (n+1):=by
 funext x;show (if x=t+n then wrd s.E s.hp M s.F (F+n) else if t<=x∧x<t+n then wrd s.E s.hp M s.F (F+(x-t)) else M x)=if t<=x∧x<t+(n+1) then wrd s.E s.hp M s.F (F+(x-t)) else M x
 by_cases h:x=t+n
 ·subst h;rw [if_pos rfl,if_pos (by omega),show t+n-t=n by omega]
 ·rw [if_neg h];by_cases a:t<=x∧x<t+n
  ·rw [if_pos a,if_pos (by omega)]
  ·rw [if_neg a,if_neg (by omega)]
structure zY (c:Cy) (s:bh) (hf hg:Nat->Nat) (mp:Nat->Bool) (M:Nat->Nat) (F t n:Nat):Prop where
 ap:di s.E
 Fw:F+n<=s.W
 tw:t+n<=s.W
 live:∀i,i<n->ai s.E (F+i)=true
 off:∀i j,i<n->j<n->t+i≠F+j
 mpF:∀i,i<n->mp ((F+i)/s.P)=true
 mpt:∀i,i<n->mp ((t+i)/s.P)=true
 ptr:∀i,i<n->1<=F+i-aT s.E (F+i)->F+i-aT s.E (F+i)<=s.hp (aT s.E (F+i))->M (F+i)≠0->ai s.E (M (F+i))=true∧M (F+i)<s.W
 big:∀i,i<n->M (F+i)<18446744073709551616
 hd:∀a,s.E a≠0->bl (s.hp a) (hf a) (hg a)
 toB:c.to_<=1048576
section
variable {c:Cy} {s:bh} {hf hg:Nat->Nat} {Fs Us Hg:Nat} {Sm:Nat->Prop} {mp:Nat->Bool} {M:Nat->Nat} {Mv:List Bool} {fw:Nat->Option Nat} {n left fr ah:Nat} {w w' w0:World}
theorem zY.Ah {F t k i:Nat} (h:zY c s hf hg mp M F t k) {j:Nat} (b:j<k):kO s M F t i (F+j)=M (F+j)∨k<i:=by
 by_cases a:k<i
 ·exact .inr a
 ·left;unfold kO;rw [if_neg (fun d=>h.off (F+j-t) j (by omega) b (by omega))]
theorem zj {s:bh} {M:Nat->Nat} {a:Nat} (b:M a<18446744073709551616) (e:s.to_<=1048576) (d:ai s.E a=true) (hp:1<=a-aT s.E a->a-aT s.E a<=s.hp (aT s.E a)->M a≠0->ai s.E (M a)=true∧M a<s.W) (i:s.W<=1048576):wrd s.E s.hp M s.F a<18446744073709551616:=by
 have f:=ci d;unfold wrd gV;rw [show aT s.E a+(a-aT s.E a)=a by omega];split
 ·next hc=>
  have g:=(hp hc.1 hc.2.1 hc.2.2).2;have h:=ch (ai s.E) (M a);show s.to_+cnt (ai s.E) 0 (M a)<_
  omega
 ·exact b
def rN (c:Cy) (s:bh) (hf hg:Nat->Nat) (Fs Us Hg:Nat) (Sm:Nat->Prop) (mp:Nat->Bool) (Mv:List Bool) (fw:Nat->Option Nat) (n left fr ah:Nat) (w0:World) (M:Nat->Nat) (q:Nat) (h3:Nat×Nat×Nat) (q0:Nat) (pc:List Value) (w:World):Prop:=
 dX c s hf hg Fs Us Hg Sm mp M Mv fw n left fr ah w∧Fr (fun k=>Sm k∨w0.heap.size<=k) w0 w∧aj w q [.int .i64 (h3.1:Int),.int .i64 (h3.2.1:Int),.int .i64 (h3.2.2:Int)] 31∧aj w q0 pc 286
theorem rN.Fh {M:Nat->Nat} {q q0:Nat} {b:Nat×Nat×Nat} {d:List Value} (h:rN c s hf hg Fs Us Hg Sm mp Mv fw n left fr ah w0 M q b q0 d w) (a:Fr (fun _=>False) w w'):rN c s hf hg Fs Us Hg Sm mp Mv fw n left fr ah w0 M q b q0 d w':=
 ⟨h.1.Fh a,h.2.1.trans a (fun _ h=>h.elim),h.2.2.1.frame a (fun h=>h),h.2.2.2.frame a (fun h=>h)⟩
theorem nG (h:dX c s hf hg Fs Us Hg Sm mp M Mv fw n left fr ah w) (a x:Nat) (g:a<s.W) (i:mp (a/s.P)=true) (j:x<18446744073709551616):Calls Tryz.prog 224 #[c.m,.int .i64 a,.int .u64 x] w fun e w'=>e= .returned (.int .i64 0)∧dX c s hf hg Fs Us Hg Sm mp (bw M a x) Mv fw n left fr ah w'∧Fr Sm w w':=
 (iQ h.mem a x g i j).mono (fun _ _ ⟨d,f,b⟩=>⟨d,h.mem_ f b (fun _ h=> .inl h),b⟩)
theorem re (h:dX c s hf hg Fs Us Hg Sm mp M Mv fw n left fr ah w) (b:di s.E) (a:Nat) (o:a<s.W) (g:ai s.E a=true):Calls Tryz.prog 243 #[c.EL.m,.int .i64 a] w fun e w'=>e= .returned (.tuple #[.int .i64 ((aT s.E a:Nat):Int),.int .i64 ((s.E (aT s.E a):Nat):Int),.bool true])∧w=w':=by
 have l:=h.mem.at.2.2.1;refine (eu h.ext h.tab a (by omega)).mono ?_;rintro e w' ⟨f,rfl⟩;have i:=ci g;refine ⟨?_,rfl⟩;rcases f with ⟨s',p,d,j,k,rfl⟩|⟨d,_⟩
 ·subst j;rw [mD b d k]
 ·have:=d _ i.1;omega
theorem vW (h:dX c s hf hg Fs Us Hg Sm mp M Mv fw n left fr ah w) (F t k:Nat) (l:zY c s hf hg mp M F t k):
  Calls Tryz.prog 198 #[c.y,.agg #[.int .i64 F,.int .i64 t,.int .i64 k]] w fun e w'=>e= .returned (.tuple #[])∧dX c s hf hg Fs Us Hg Sm mp (kO s M F t k) Mv fw n left fr ah w'∧Fr Sm w w':=by
 have hW:=h.mem.at.2.2.1;have hP:=h.mem.at.1;have a2:Hid ((Tryz.prog.info? 31).map (·.size)=some 3):=by show _=_;kernel_rfl
 obtain ⟨W1,Y⟩:∃W1,w.alloc (.cells #[.int .i64 F,.int .i64 t,.int .i64 k] 286)=W1:=⟨_,rfl⟩;have b0:Fr (fun _=>False) w W1:=by rw [<-Y];exact (Fr.refl _ w).alloc _
 have bk:aj W1 w.heap.size [.int .i64 F,.int .i64 t,.int .i64 k] 286:=by rw [<-Y];exact aj.new w _ _
 have b9:W1.heap.size=w.heap.size+1:=by rw [<-Y];exact Array.size_push _
 obtain ⟨W2,ad⟩:∃W2,W1.alloc (.cells #[.int .i64 0,.int .i64 0,.int .i64 0] 31)=W2:=⟨_,rfl⟩;have a4:Fr (fun _=>False) W1 W2:=by rw [<-ad];exact (Fr.refl _ W1).alloc _
 have bo:aj W2 (w.heap.size+1) [.int .i64 0,.int .i64 0,.int .i64 0] 31:=by rw [<-ad,<-b9];exact aj.new W1 _ _
 have Q:=b0.trans a4 (fun _ h=>h.elim);have h0:rN c s hf hg Fs Us Hg Sm mp Mv fw n left fr ah w (kO s M F t 0) (w.heap.size+1) (0,0,0) w.heap.size [.int .i64 F,.int .i64 t,.int .i64 k] W2:=by
  rw [uA];exact ⟨h.Fh Q,Q.mono (fun _ h=>h.elim),bo,bk.frame a4 (fun h=>h)⟩
 have H0:=ae h0;have a9:=ae ad;have ax:=h.lt;have G:=h.mem.lt;have a0:∀i,i<k->kO s M F t i (F+i)=M (F+i):=fun i o=>(l.Ah (i:=i) o).resolve_right (by omega)
 have O:=ae (fun (i:Nat) (g:Nat×Nat×Nat) wr (o:i<k) (d:rN c s hf hg Fs Us Hg Sm mp Mv fw n left fr ah w (kO s M F t i) (w.heap.size+1) g w.heap.size [.int .i64 F,.int .i64 t,.int .i64 k] wr) b (H:aT s.E (F+i)=b) (P:g=(s.hp b,hf b,hg b))=>
  (show Calls Tryz.prog 244 #[c.y,.int .i64 ((F:Int)+(i:Int)),.int .i64 b,bN (g.1:Int) (g.2.1:Int) (g.2.2:Int)] wr (rT wr (wrd s.E s.hp M s.F (F+i))) from by
   subst H;have hl:=l.live i o;have ho:=ci hl;have hm:=a0 i o;have a:=oM d.1.blk d.1.plan l.toB d.1.mem (F+i) (aT s.E (F+i)) (s.hp (aT s.E (F+i))) (hf (aT s.E (F+i))) (hg (aT s.E (F+i))) ho.1 (by have:=l.Fw;omega) (l.mpF i o) (l.hd _ (by omega)) (fun q1 q2 q3=>by rw [hm] at q3 ⊢;exact l.ptr i o q1 q2 q3) (by rw [hm];exact l.big i o);have hg:gV (kO s M F t i) (goes s.E c.to_) (aT s.E (F+i)) (s.hp (aT s.E (F+i))) (F+i-aT s.E (F+i))=wrd s.E s.hp M s.F (F+i):=by
    have:=dK (hp:=s.hp) (F:=s.F) hl hm;rw [<-this];unfold wrd bh.F;rw [d.1.to_]
   rw [hg] at a;rw [P,show (F:Int)+(i:Int)=((F+i:Nat):Int) by push_cast;rfl];exact a))
 have N:=ae (fun (i:Nat) (g:Nat×Nat×Nat) wr (o:i<k) (d:rN c s hf hg Fs Us Hg Sm mp Mv fw n left fr ah w (kO s M F t i) (w.heap.size+1) g w.heap.size [.int .i64 F,.int .i64 t,.int .i64 k] wr)=>
  (show Calls Tryz.prog 224 #[c.m,.int .i64 ((t:Int)+(i:Int)),.int .u64 ((wrd s.E s.hp M s.F (F+i):Nat):Int)] wr fun e w'=>e= .returned (.int .i64 0)∧rN c s hf hg Fs Us Hg Sm mp Mv fw n left fr ah w (kO s M F t (i+1)) (w.heap.size+1) g w.heap.size [.int .i64 F,.int .i64 t,.int .i64 k] w' from by
   rw [show (t:Int)+(i:Int)=((t+i:Nat):Int) by push_cast;rfl];refine (nG d.1 (t+i) _ (by have:=l.tw;omega) (l.mpt i o) (zj (l.big i o) (by have:=l.toB;have:=h.to_;omega) (l.live i o) (l.ptr i o) (by omega))).mono ?_;rintro e w' ⟨rfl,q1,q2⟩;rw [uz] at q1;exact ⟨rfl,q1,d.2.1.trans q2 (fun k hk=> .inl (.inl hk)),d.2.2.1.frame q2 (fun hs=>by have:=G _ hs;omega),d.2.2.2.frame q2 (fun hs=>by have:=G _ hs;omega)⟩))
 have T:=ae (fun (i:Nat) (g:Nat×Nat×Nat) wr (o:i<k) (d:rN c s hf hg Fs Us Hg Sm mp Mv fw n left fr ah w (kO s M F t i) (w.heap.size+1) g w.heap.size [.int .i64 F,.int .i64 t,.int .i64 k] wr)=>
  (show Calls Tryz.prog 243 #[c.EL.m,.int .i64 ((F:Int)+(i:Int))] wr fun e w'=>e= .returned (.tuple #[.int .i64 ((aT s.E (F+i):Nat):Int),.int .i64 ((s.E (aT s.E (F+i)):Nat):Int),.bool true])∧wr=w' from by
   rw [show (F:Int)+(i:Int)=((F+i:Nat):Int) by push_cast;rfl];exact re d.1 l.ap (F+i) (by have:=l.Fw;omega) (l.live i o)))
 have X:=ae (fun (i:Nat) (g:Nat×Nat×Nat) wr (o:i<k) (d:rN c s hf hg Fs Us Hg Sm mp Mv fw n left fr ah w (kO s M F t i) (w.heap.size+1) g w.heap.size [.int .i64 F,.int .i64 t,.int .i64 k] wr)=>
  (show (Instr.lookup 208 (.map (some c.sb)) (.int .i64 ((aT s.E (F+i):Nat):Int)) false).run Tryz.prog wr= .ok (bN (s.hp (aT s.E (F+i)):Nat) (hf (aT s.E (F+i)):Nat) (hg (aT s.E (F+i)):Nat)) wr∧wr.there (w.heap.size+1) 0 3∧∀W,W=wr.setCells (w.heap.size+1) 0 [.int .i64 (s.hp (aT s.E (F+i)):Nat),.int .i64 (hf (aT s.E (F+i)):Nat),.int .i64 (hg (aT s.E (F+i)):Nat)]->rN c s hf hg Fs Us Hg Sm mp Mv fw n left fr ah w (kO s M F t i) (w.heap.size+1) (s.hp (aT s.E (F+i)),hf (aT s.E (F+i)),hg (aT s.E (F+i))) w.heap.size [.int .i64 F,.int .i64 t,.int .i64 k] W from by
   obtain ⟨ns,f,q1,q2⟩:=d.1.shp;have ho:=ci (l.live i o);have hl:=q1.look (aT s.E (F+i)) (by have:=l.Fw;omega);rw [q2 _ (by omega)] at hl;have C:=d.2.2.1;refine ⟨hl,fun j hj=> ?_,?_⟩
   ·match j,hj with
    |0,_=>exact ⟨by rw [C.cell 0 rfl];rfl,C.free 0⟩
    |1,_=>exact ⟨by rw [C.cell 1 rfl];rfl,C.free 1⟩
    |2,_=>exact ⟨by rw [C.cell 2 rfl];rfl,C.free 2⟩
   ·rintro W rfl;have a5:Fr (fun k=>k=w.heap.size+1) wr (wr.setCells (w.heap.size+1) 0 [.int .i64 (s.hp (aT s.E (F+i)):Nat),.int .i64 (hf (aT s.E (F+i)):Nat),.int .i64 (hg (aT s.E (F+i)):Nat)]):=
     (((Fr.refl (fun k=>k=w.heap.size+1) wr).setCell ⟨w.heap.size+1,0,none⟩ (.inl rfl) _).setCell ⟨w.heap.size+1,1,none⟩ (.inl rfl) _).setCell ⟨w.heap.size+1,2,none⟩ (.inl rfl) _
    exact ⟨d.1.frame a5 (fun k hk e=>by have:=ax k hk;omega) (fun k hk e=>by have:=G k hk;omega) (fun e=>by have:=h.tabl;omega),d.2.1.trans a5 (fun k hk=> .inl (.inr (by omega))),((C.set 0 _).set 1 _).set 2 _,d.2.2.2.frame a5 (by omega)⟩))
 have J:=ae (fun (i:Nat) (g:Nat×Nat×Nat) wr (d:rN c s hf hg Fs Us Hg Sm mp Mv fw n left fr ah w (kO s M F t i) (w.heap.size+1) g w.heap.size [.int .i64 F,.int .i64 t,.int .i64 k] wr)=>af (d.1.blk.cell 0 rfl) (af (d.1.blk.cell 9 rfl) (af (d.1.blk.cell 15 rfl) (af (d.2.2.2.cell 0 rfl) (af (d.2.2.2.cell 1 rfl) (d.2.2.2.cell 2 rfl))))));have I:=ae (fun (i b sz:Nat) (g:Nat×Nat×Nat) (o:i<k) (H:aT s.E (F+i)=b) (e3:sz=s.E b) (P:g=(s.hp b,hf b,hg b)) (B:F+(i+1)<b+sz)=>
  (show aT s.E (F+(i+1))=b∧sz=s.E b∧g=(s.hp b,hf b,hg b) from by
   have ho:=ci (l.live i o);refine ⟨mD l.ap (by omega) (by omega),e3,P⟩))
 have V:=ae (fun (i:Nat) (o:i<k)=>(show aT s.E (F+i)+s.E (aT s.E (F+i))<=1048576 from by
  have ho:=ci (l.live i o);have:=h.ext.top (aT s.E (F+i)) (by omega);omega))
 have S:=ae (fun g wr (d:rN c s hf hg Fs Us Hg Sm mp Mv fw n left fr ah w (kO s M F t k) (w.heap.size+1) g w.heap.size [.int .i64 F,.int .i64 t,.int .i64 k] wr)=>af d.1 (d.2.1.mono (S':=Sm) (fun k hk=>hk)));have U:=ae (fun i=>vu (s.hp (aT s.E (F+i)):Nat) (hf (aT s.E (F+i)):Nat) (hg (aT s.E (F+i)):Nat));have cc:=l.Fw;have cd:=l.tw;clear ad h l h0 bk bo b0 a4 Q a0 ax G hP
 go_enter Tryz.func198,Tryz.ntmps198
 go_upto_region 2 with fail
 rw [a9.out];clear Y a9 b9;obtain ⟨k0,k1,k2,k3,k4,k5⟩:=J.out 0 (0,0,0) W2 H0.out;go_wp2;clear k0 k1 k2 k3 k4 k5
 go_loopw [4,5,12] (fun x4 x5 a7 wr=>∃(i b sz:Nat) (g:Nat×Nat×Nat),x4= .int .i64 b∧x5= .int .i64 sz∧a7= .int .i64 i∧i<=k∧(F+i<b+sz->aT s.E (F+i)=b∧sz=s.E b∧g=(s.hp b,hf b,hg b))∧b+sz<=1048576∧Hid (rN c s hf hg Fs Us Hg Sm mp Mv fw n left fr ah w (kO s M F t i) (w.heap.size+1) g w.heap.size [.int .i64 F,.int .i64 t,.int .i64 k] wr)) (fun _ _ a7 _=>(k-intOf a7).toNat)
 case atStart=>exact ⟨0,0,0,(0,0,0),rfl,rfl,rfl,Nat.zero_le _,fun B=>by omega,by omega,H0⟩
 case round=>
  clear H0;obtain ⟨i,b,sz,g,rfl,rfl,rfl,o,am,b1,d⟩:=hrel;obtain ⟨k0,k1,k2,k3,k4,k5⟩:=J.out i g wr d.out;by_cases p:i<k
  ·have c1:(i:Int)<(k:Int):=by omega
   by_cases a6:F+i<b+sz
   ·obtain ⟨H,e3,P⟩:=am a6;obtain ⟨u,v,x⟩:=g;have c2:(F:Int)+(i:Int)<(b:Int)+(sz:Int):=by omega
    obtain ⟨D,b7⟩:∃D,D=wr:=⟨_,rfl⟩;rw [<-b7] at d k0 k1 k2 k3 k4 k5 ⊢;clear b7;have z:=ae (fun w' (a:Fr (fun _=>False) D w')=>(let B:=d.out.Fh a;af (B.1.blk.cell 0 rfl) (af (B.2.2.2.cell 0 rfl) (af (B.2.2.2.cell 1 rfl) (B.2.2.2.cell 2 rfl)))));have K:=ae (fun w' (a:Fr (fun _=>False) D w')=>(d.out.Fh a).2.2.1);have r:=ae (fun w' (a:Fr (fun _=>False) D w')=>O.out i (u,v,x) w' p (d.out.Fh a) b H P);have A:=ae (fun w' (a:Fr (fun _=>False) D w')=>N.out i (u,v,x) w' p (d.out.Fh a));have a1:Hid (F+(i+1)<b+sz->aT s.E (F+(i+1))=b∧sz=s.E b∧(u,v,x)=(s.hp b,hf b,hg b)):=ae (fun B=>I.out i b sz (u,v,x) p H e3 P B);obtain ⟨Z,hZ⟩:∃Z,Z=wrd s.E s.hp M s.F (F+i):=⟨_,rfl⟩;rw [<-hZ] at r A;unfold rT bN at r;clear hZ;clear d am O N T X J I V S U a6 H P e3;go_wp2;refine aA (fun w'=>Fr (fun _=>False) D w') 13 (by kernel_rfl) (by kernel_rfl) ((Fr.refl _ D).drew) ?_;simp only [List.take_succ_cons,List.take_zero,List.drop_succ_cons,List.drop_zero];refine ag (.pointer (some ⟨c.y,0,none⟩)) rfl (fun w' a=>by go_simp) ?_;simp only [Act.put,aa,ab,ac];refine ag (.pointer (some ⟨c.y,0,none⟩)) rfl (fun w' a=>by go_simp) ?_;simp only [Act.put,aa,ab,ac];refine ag (.pointer (some ⟨c.y,0,none⟩)) rfl (fun w' a=>by go_simp) ?_;simp only [Act.put,aa,ab,ac];refine ag (.pointer (some ⟨c.m,0,none⟩)) rfl (fun w' a=>by obtain ⟨k1,k2,k3,k4⟩:=z.out w' a;go_simp) ?_;simp only [Act.put,aa,ab,ac];refine ag (.pointer (some ⟨w.heap.size,1,none⟩)) rfl (fun w' a=>by go_simp) ?_;simp only [Act.put,aa,ab,ac];refine ag (.int .i64 t) rfl (fun w' a=>by obtain ⟨k1,k2,k3,k4⟩:=z.out w' a;go_simp) ?_;simp only [Act.put,aa,ab,ac];refine ag (.int .i64 i) rfl (fun w' a=>by go_simp) ?_;simp only [Act.put,aa,ab,ac];refine ag (.int .i64 ((t:Int)+(i:Int))) rfl (fun w' a=>by go_simp;rw [IntKind.wrap_i64];omega) ?_;simp only [Act.put,aa,ab,ac];refine ag (.pointer (some ⟨c.y,0,none⟩)) rfl (fun w' a=>by go_simp) ?_;simp only [Act.put,aa,ab,ac];refine ag (.int .i64 ((F:Int)+(i:Int))) rfl (fun w' a=>by go_simp) ?_;simp only [Act.put,aa,ab,ac];refine ag (.int .i64 b) rfl (fun w' a=>by go_simp) ?_;simp only [Act.put,aa,ab,ac];refine ag (.agg #[.int .i64 u,.int .i64 v,.int .i64 x]) rfl (fun w' a=>dI rfl (w.heap.size+1) rfl 31 _ (0,0) _ (K.out w' a) Tryz.underlying31 rfl a2.out) ?_;simp only [Act.put,aa,ab,ac];refine az (.int .u64 Z) 244 #[.pointer (some ⟨c.y,0,none⟩),.int .i64 ((F:Int)+(i:Int)),.int .i64 b,.agg #[.int .i64 u,.int .i64 v,.int .i64 x]] rfl (fun w'=>by go_simp) (fun w' a=>(r.out w' a).mono fun e w2 h=>⟨h.1,a.trans h.2 (fun _ h=>h.elim)⟩) ?_;simp only [Act.put,aa,ab,ac];refine wpQuiet_nil ?_;intro w5 R;have L:=ae (A.out w5 R);clear z K r A R;go_wp2_with fail
    refine (L.out).mono ?_;rintro e w6 ⟨rfl,h6⟩;have H6:=ae h6;clear h6 L;go_wp2;go_roundw
    case rel=>exact ⟨i+1,b,sz,(u,v,x),rfl,rfl,by go_num,by omega,a1.out,b1,H6⟩
    case measure=>simp [intOf];omega
   ·have c2:¬(F:Int)+(i:Int)<(b:Int)+(sz:Int):=by omega
    have aq:=ae (T.out i g wr p d.out);obtain ⟨hl,b6,bd⟩:=X.out i g wr p d.out;have a8:=ae b6;have bb:=ae bd;have b2:=V.out i p;have av:=ae (U.out i);have HX:=ae (show∃b sz,aT s.E (F+i)=b∧sz=s.E b from ⟨_,_,rfl,rfl⟩);have H:aT s.E (F+i)=aT s.E (F+i):=rfl;clear d am T X J V S U a6 b6 bd b1 H;generalize b4:aT s.E (F+i)=st' at*;generalize b5:s.E st'=sz' at*;generalize bj:s.hp st'=u at*;generalize bs:hf st'=v at*;generalize oT:hg st'=x at*;have q:=ae (af b4 (af b5 (af bj (af bs oT))));clear b4 b5 bj bs oT HX;unfold bN at hl;go_wp2_with fail
    refine (aq.out).mono ?_;rintro e w' ⟨rfl,rfl⟩;clear aq k1 k3 k4 k5 c2;go_wp2_with (refine wpList_store_mid rfl 31 _ _ rfl (w.heap.size+1) 0 #[.int .i64 u,.int .i64 v,.int .i64 x] rfl rfl a8.out a2.out av.out ?_)
    have hq:=bb.out _ rfl;have H:=q.out.1;have e3:=q.out.2.1.symm;have P:(u,v,x)=(s.hp st',hf st',hg st'):=by rw [q.out.2.2.1,q.out.2.2.2.1,q.out.2.2.2.2]
    clear hl a8 bb av k0 k2 q;generalize wr.setCells (w.heap.size+1) 0 [.int .i64 u,.int .i64 v,.int .i64 x]=D at*;have z:=ae (fun w' (a:Fr (fun _=>False) D w')=>(let B:=hq.Fh a;af (B.1.blk.cell 0 rfl) (af (B.2.2.2.cell 0 rfl) (af (B.2.2.2.cell 1 rfl) (B.2.2.2.cell 2 rfl)))));have K:=ae (fun w' (a:Fr (fun _=>False) D w')=>(hq.Fh a).2.2.1);have r:=ae (fun w' (a:Fr (fun _=>False) D w')=>O.out i (u,v,x) w' p (hq.Fh a) st' H P);have A:=ae (fun w' (a:Fr (fun _=>False) D w')=>N.out i (u,v,x) w' p (hq.Fh a));have a1:Hid (F+(i+1)<st'+sz'->aT s.E (F+(i+1))=st'∧sz'=s.E st'∧(u,v,x)=(s.hp st',hf st',hg st')):=ae (fun B=>I.out i st' sz' (u,v,x) p H e3 P B);obtain ⟨Z,hZ⟩:∃Z,Z=wrd s.E s.hp M s.F (F+i):=⟨_,rfl⟩;rw [<-hZ] at r A;unfold rT bN at r;clear hZ;clear hq O N I H P e3;go_wp2;refine aA (fun w'=>Fr (fun _=>False) D w') 13 (by kernel_rfl) (by kernel_rfl) ((Fr.refl _ D).drew) ?_;simp only [List.take_succ_cons,List.take_zero,List.drop_succ_cons,List.drop_zero];refine ag (.pointer (some ⟨c.y,0,none⟩)) rfl (fun w' a=>by go_simp) ?_;simp only [Act.put,aa,ab,ac];refine ag (.pointer (some ⟨c.y,0,none⟩)) rfl (fun w' a=>by go_simp) ?_;simp only [Act.put,aa,ab,ac];refine ag (.pointer (some ⟨c.y,0,none⟩)) rfl (fun w' a=>by go_simp) ?_;simp only [Act.put,aa,ab,ac];refine ag (.pointer (some ⟨c.m,0,none⟩)) rfl (fun w' a=>by obtain ⟨k1,k2,k3,k4⟩:=z.out w' a;go_simp) ?_;simp only [Act.put,aa,ab,ac];refine ag (.pointer (some ⟨w.heap.size,1,none⟩)) rfl (fun w' a=>by go_simp) ?_;simp only [Act.put,aa,ab,ac];refine ag (.int .i64 t) rfl (fun w' a=>by obtain ⟨k1,k2,k3,k4⟩:=z.out w' a;go_simp) ?_;simp only [Act.put,aa,ab,ac];refine ag (.int .i64 i) rfl (fun w' a=>by go_simp) ?_;simp only [Act.put,aa,ab,ac];refine ag (.int .i64 ((t:Int)+(i:Int))) rfl (fun w' a=>by go_simp;rw [IntKind.wrap_i64];omega) ?_;simp only [Act.put,aa,ab,ac];refine ag (.pointer (some ⟨c.y,0,none⟩)) rfl (fun w' a=>by go_simp) ?_;simp only [Act.put,aa,ab,ac];refine ag (.int .i64 ((F:Int)+(i:Int))) rfl (fun w' a=>by go_simp) ?_;simp only [Act.put,aa,ab,ac];refine ag (.int .i64 (st':Int)) rfl (fun w' a=>by go_simp) ?_;simp only [Act.put,aa,ab,ac];refine ag (.agg #[.int .i64 u,.int .i64 v,.int .i64 x]) rfl (fun w' a=>dI rfl (w.heap.size+1) rfl 31 _ (0,0) _ (K.out w' a) Tryz.underlying31 rfl a2.out) ?_;simp only [Act.put,aa,ab,ac];refine az (.int .u64 Z) 244 #[.pointer (some ⟨c.y,0,none⟩),.int .i64 ((F:Int)+(i:Int)),.int .i64 (st':Int),.agg #[.int .i64 u,.int .i64 v,.int .i64 x]] rfl (fun w'=>by go_simp) (fun w' a=>(r.out w' a).mono fun e w2 h=>⟨h.1,a.trans h.2 (fun _ h=>h.elim)⟩) ?_;simp only [Act.put,aa,ab,ac];refine wpQuiet_nil ?_;intro w5 R;have L:=ae (A.out w5 R);clear z K r A R;go_wp2_with fail
    refine (L.out).mono ?_;rintro e w6 ⟨rfl,h6⟩;have H6:=ae h6;clear h6 L;go_wp2;go_roundw
    case rel=>exact ⟨i+1,st',sz',(u,v,x),rfl,rfl,by go_num,by omega,a1.out,b2,H6⟩
    case measure=>simp [intOf];omega
  ·have cb:i=k:=by omega
   subst cb;obtain ⟨z1,z2⟩:=S.out g wr d.out;have HZ:=ae (af z1 z2);clear d z1 z2 S O N T X J I V U p am;go_wp2;go_end0;exact ⟨rfl,HZ.out⟩
end
def zu (s:bh) (i:Nat):Nat:=((List.range s.W).find? (fun a=>ai s.E a&&decide (bt s.E a=i))).getD 0
theorem qO {s:bh} {a:Nat} (e:ai s.E a=true) (d:a<s.W):zu s (bt s.E a)=a:=by
 unfold zu
 cases hf:(List.range s.W).find? (fun b=>ai s.E b&&decide (bt s.E b=bt s.E a)) with
 |none=>
  have:=List.find?_eq_none.1 hf a (List.mem_range.2 d);rw [e] at this;simp at this
 |some b=>
  have c:=List.find?_some hf;rw [Bool.and_eq_true,decide_eq_true_eq] at c;exact mq c.1 e c.2
def kG (s:bh) (M:Nat->Nat) (t u:Nat):Nat->Nat:=fun x=>if t<=x∧x<u then wrd s.E s.hp M s.F (zu s (x-s.to_)) else M x
theorem uo (s:bh) (M:Nat->Nat) (t:Nat):kG s M t t=M:=by
 funext x;unfold kG;rw [if_neg (by omega)]
def nu (X:Nat->Bool) (i0 i1:Nat):Nat->Bool:=fun j=>X j||decide (i0<=j∧j<i1)
theorem um (X:Nat->Bool) (i:Nat):nu X i i=X:=by
 funext j;unfold nu;rw [decide_eq_false (by omega),Bool.or_false]
section
variable {s:bh} {L M M1 M3:Nat->Nat} {mp mp1 mp3:Nat->Bool} {mvd:Nat->Bool} {fr ah left top k:Nat} {fw:Nat->Option Nat}
def cH (mvd:Nat->Bool) (k:Nat):Nat->Bool:=fun j=>mvd j||decide (j=k)
theorem b8.Fa (b:b8 s) {a:Nat} (c:ai s.E a=true):s.to_<=s.F a∧s.F a<s.to_+s.N∧s.F a<s.W:=by
 have d:=eh c (b.from_ a c).1;have e:=b.N2;have f:=b.to2;have g:s.F a=s.to_+bt s.E a:=rfl;have h:s.N=cnt (ai s.E) 0 s.W:=rfl;omega
theorem b8.ne (b:b8 s) {a x:Nat} (c:ai s.E a=true) (d:s.to_<=x) (e:x<s.to_+s.N):a≠x:=by
 have f:=(b.from_ a c).2;have g:=b.N2;omega
theorem rj (b:1<=s.P) {X:Nat->Bool} {a:Nat} (c:ai s.E a=true) (d:X (bt s.E a)=false):eM s.P (ai s.E) X (a/s.P)=true:=
 (aH b).2 ⟨a,rfl,by rw [Bool.and_eq_true,Bool.not_eq_true'];exact ⟨c,d⟩⟩
theorem fQ.from_page (b:b8 s) (h:fQ s L M mp mvd fr ah left top) {a:Nat} (c:ai s.E a=true) (d:mvd (bt s.E a/s.B)=false):mp (a/s.P)=true:=by
 rw [h.pages _ (dG (b.from_ a c).1 b.P1 b.W1),rj b.P1 c d];rfl
theorem b8.pgF (a:b8 s) {i:Nat} (b:i<s.R*s.P):(s.to_+i)/s.P=s.to_/s.P+i/s.P∧i/s.P<s.R:=
 ⟨px a.P1 i a.toq,by rw [Nat.div_lt_iff_lt_mul (by have:=a.P1;omega)];exact b⟩
theorem kw (b:b8 s) {a:Nat} (d:ai s.E a=true) (h:mvd (bt s.E a/s.B)=true):df s mvd top (s.F a/s.P)=true:=by
 have e:=eh d (b.from_ a d).1;have c:=b.pgF (i:=bt s.E a) (by have:=b.N2;have j:s.N=cnt (ai s.E) 0 s.W:=rfl;omega);have f:s.F a=s.to_+bt s.E a:=rfl;unfold df;rw [f,c.1,decide_eq_true (Nat.le_add_right (s.to_/s.P) (bt s.E a/s.P)),decide_eq_true (Nat.add_lt_add_left c.2 (s.to_/s.P)),Nat.add_sub_cancel_left];have g:gp s.P s.N (aZ s.B mvd) (bt s.E a/s.P)=true:=(aH b.P1).2 ⟨bt s.E a,rfl,by rw [Bool.and_eq_true,decide_eq_true_eq];exact ⟨e,h⟩⟩;rw [g];rfl
theorem fQ.to_page (b:b8 s) (h:fQ s L M mp mvd fr ah left top) {a:Nat} (c:ai s.E a=true) (d:mvd (bt s.E a/s.B)=true):mp (s.F a/s.P)=true:=by
 rw [h.pages _ (dG (b.Fa c).2.2 b.P1 b.W1),kw b c d,Bool.or_true]
theorem fQ.beh_page (a:b8 s) (h:fQ s L M mp mvd fr ah left top) (d:top<=s.to_+s.R*s.P) {x:Nat} (f:s.to_+s.N<=x) (g:x<top):df s mvd top (x/s.P)=true∧mp (x/s.P)=true:=by
 have b:=a.pgF (i:=x-s.to_) (by omega);rw [show s.to_+(x-s.to_)=x by omega] at b;have e:fc s top ((x-s.to_)/s.P)=true:=(aH a.P1).2 ⟨x-s.to_,rfl,by rw [Bool.and_eq_true,decide_eq_true_eq,decide_eq_true_eq];omega⟩;have c:df s mvd top (x/s.P)=true:=by
  unfold df;rw [b.1,decide_eq_true (Nat.le_add_right (s.to_/s.P) ((x-s.to_)/s.P)),decide_eq_true (Nat.add_lt_add_left b.2 (s.to_/s.P)),Nat.add_sub_cancel_left,e];simp
 exact ⟨c,by rw [h.pages _ (dG (by have:=a.to2;omega) a.P1 a.W1),c,Bool.or_true]⟩
theorem fp (a:1<=s.B) (b:k<s.nb):k*s.B<s.N:=qm a b
theorem kY (g:b8 s) (l:k<s.nb) (r:Nat):er s.B s.P s.N k r=true↔k*s.B/s.P<=r∧r<=(min (k*s.B+s.B) s.N-1)/s.P:=by
 have e:=g.B1;have f:=g.P1;have m:=fp e l;unfold er;rw [aH f];constructor
 ·rintro ⟨i,b,a⟩;rw [Bool.and_eq_true,decide_eq_true_eq,decide_eq_true_eq] at a;have d:k*s.B<=i:=by rw [<-a.2];exact Nat.div_mul_le_self i s.B
  have h:i<k*s.B+s.B:=by
   have c:=Nat.div_add_mod i s.B;have j:=Nat.mod_lt i (show 0<s.B by omega);rw [a.2,Nat.mul_comm] at c;omega
  rw [<-b];exact ⟨Nat.div_le_div_right d,Nat.div_le_div_right (by omega)⟩
 ·rintro ⟨b,a⟩;have n:=Nat.div_mul_le_self (min (k*s.B+s.B) s.N-1) s.P;have d:r*s.P<=min (k*s.B+s.B) s.N-1:=Nat.le_trans (Nat.mul_le_mul_right _ a) n;have h:k*s.B<r*s.P+s.P:=by
   have c:=Nat.div_add_mod (k*s.B) s.P;have j:=Nat.mod_lt (k*s.B) (show 0<s.P by omega);have o:=Nat.mul_le_mul_right s.P b;rw [Nat.mul_comm] at c;omega
  refine ⟨max (k*s.B) (r*s.P),?_,?_⟩
  ·exact ft (i:=max (k*s.B) (r*s.P)-r*s.P) f (by omega) (by omega)
  ·rw [Bool.and_eq_true,decide_eq_true_eq,decide_eq_true_eq];refine ⟨by omega,?_⟩;exact ft (i:=max (k*s.B) (r*s.P)-k*s.B) e (by omega) (by omega)
theorem fQ.need (a:b8 s) (h:fQ s L M mp mvd fr ah left top) (d:k<s.nb) (n:k=fr∨ah<s.Ah) {t u:Nat} (o:t=s.to_+k*s.B) (z:u=min (s.to_+k*s.B+s.B) (s.to_+s.N)):
  cnt mp 0 (s.W/s.P)+cnt (bX mp) (t/s.P) ((u-1)/s.P+1)<=s.R+(s.Ah+2)*(qk s.B s.P+3):=by
 have c:=a.B1;have l:=a.P1;have m:=fp c d;have r:=h.bound a;have v:=be (bX mp) (t/s.P) ((u-1)/s.P+1);have w:=a.N2;have e:=(a.pgF (i:=k*s.B) (by omega)).1;have f:=(a.pgF (i:=min (k*s.B+s.B) s.N-1) (by omega)).1;have p:t/s.P=s.to_/s.P+k*s.B/s.P:=by rw [o];exact e
 have q:(u-1)/s.P=s.to_/s.P+(min (k*s.B+s.B) s.N-1)/s.P:=by rw [<-f];congr 1;omega
 have g:er s.B s.P s.N k ((min (k*s.B+s.B) s.N-1)/s.P)=true:=(kY a d _).2 ⟨Nat.div_le_div_right (by omega),Nat.le_refl _⟩;have x:=(jG l c a.div g).2;have j:ah<=s.Ah:=h.Ah.2;have y:qk s.B s.P*ah<=qk s.B s.P*s.Ah:=Nat.mul_le_mul_left _ j;have b:(s.Ah+2)*(qk s.B s.P+3)=qk s.B s.P*s.Ah+2*qk s.B s.P+3*s.Ah+6:=by
  rw [Nat.add_mul,Nat.mul_add,Nat.mul_comm s.Ah];omega
 rw [b];omega
theorem oN (c:b8 s) (m:k<s.nb) {t u:Nat} (y:t=s.to_+k*s.B) (D:u=min (s.to_+k*s.B+s.B) (s.to_+s.N)) (q:Nat):
  df s (cH mvd k) top q=(df s mvd top q||(decide (t/s.P<=q)&&decide (q<=(u-1)/s.P))):=by
 have w:=c.B1;have e:=c.P1;have x:=fp w m;have C:=c.N2;have o:=(c.pgF (i:=k*s.B) (by omega)).1;have p:=c.pgF (i:=min (k*s.B+s.B) s.N-1) (by omega);have j:t/s.P=s.to_/s.P+k*s.B/s.P:=by rw [y];exact o
 have l:(u-1)/s.P=s.to_/s.P+(min (k*s.B+s.B) s.N-1)/s.P:=by rw [<-p.1];congr 1;omega
 have g:=kY c m (q-s.to_/s.P);have h:gp s.P s.N (aZ s.B (cH mvd k)) (q-s.to_/s.P)=(gp s.P s.N (aZ s.B mvd) (q-s.to_/s.P)||er s.B s.P s.N k (q-s.to_/s.P)):=by
  unfold gp er;rw [Bool.eq_iff_iff,Bool.or_eq_true,aH e,aH e,aH e];constructor
  ·rintro ⟨i,d,a⟩;rw [Bool.and_eq_true] at a;have b:(mvd (i/s.B)||decide (i/s.B=k))=true:=a.2;rw [Bool.or_eq_true] at b;rcases b with b|b
   ·exact .inl ⟨i,d,by rw [Bool.and_eq_true];exact ⟨a.1,b⟩⟩
   ·exact .inr ⟨i,d,by rw [Bool.and_eq_true];exact ⟨a.1,b⟩⟩
  ·rintro (⟨i,d,a⟩|⟨i,d,a⟩)
   ·rw [Bool.and_eq_true] at a;refine ⟨i,d,?_⟩;rw [Bool.and_eq_true];exact ⟨a.1,by show (mvd (i/s.B)||decide (i/s.B=k))=true;have b:mvd (i/s.B)=true:=a.2;rw [b];rfl⟩
   ·rw [Bool.and_eq_true] at a;refine ⟨i,d,?_⟩;rw [Bool.and_eq_true];exact ⟨a.1,by show (mvd (i/s.B)||decide (i/s.B=k))=true;rw [a.2,Bool.or_true]⟩
 unfold df;rw [h];by_cases n:s.to_/s.P<=q∧q<s.to_/s.P+s.R
 ·rw [decide_eq_true n.1,decide_eq_true n.2];have f:er s.B s.P s.N k (q-s.to_/s.P)=(decide (t/s.P<=q)&&decide (q<=(u-1)/s.P)):=by
   rw [Bool.eq_iff_iff,g,Bool.and_eq_true,decide_eq_true_eq,decide_eq_true_eq,j,l];constructor
   ·rintro ⟨z,A⟩;omega
   ·rintro ⟨z,A⟩;omega
  rw [f]
  cases gp s.P s.N (aZ s.B mvd) (q-s.to_/s.P)<;>cases fc s top (q-s.to_/s.P)<;>simp
 ·have E:=Nat.zero_le (k*s.B/s.P);have r:(decide (s.to_/s.P<=q)&&decide (q<s.to_/s.P+s.R))=false:=by
   rw [Bool.and_eq_false_iff,decide_eq_false_iff_not,decide_eq_false_iff_not];omega
  have v:(decide (t/s.P<=q)&&decide (q<=(u-1)/s.P))=false:=by
   rw [Bool.and_eq_false_iff,decide_eq_false_iff_not,decide_eq_false_iff_not,j,l];omega
  rw [r,v];simp
theorem fQ.drn (d:b8 s) (h:fQ s L M mp mvd fr ah left top) (f:k<s.nb) {t u:Nat} (i:t=s.to_+k*s.B) (j:u=min (s.to_+k*s.B+s.B) (s.to_+s.N)) (c:∀q,mp1 q=(mp q||(decide (t/s.P<=q)&&decide (q<=(u-1)/s.P))))
  (b:∀q,(fw q).getD 0=jm s (aZ s.B mvd) q):zl s (aZ s.B mvd) (df s (cH mvd k) top) mp1 fw:=
 ⟨b,fun q g=>by rw [c,h.pages q g,oN d f i j,Bool.or_assoc],fun a e=>tJ d e⟩
theorem kZ (c:1<=s.B) {i:Nat} (g:i<s.N):aZ s.B (cH mvd k) i=nu (aZ s.B mvd) (k*s.B) (min (k*s.B+s.B) s.N) i:=by
 unfold aZ cH nu;congr 1
 rw [decide_eq_decide];constructor
 ·intro e;have a:=Nat.div_mul_le_self i s.B;have b:=Nat.div_add_mod i s.B;have f:=Nat.mod_lt i (show 0<s.B by omega);rw [e] at a;rw [e,Nat.mul_comm] at b;omega
 ·rintro ⟨a,d⟩;exact ft (i:=i-k*s.B) c (by omega) (by omega)
theorem xp (a:b8 s) (q:Nat):eM s.P (ai s.E) (nu (aZ s.B mvd) (k*s.B) (min (k*s.B+s.B) s.N)) q=eM s.P (ai s.E) (aZ s.B (cH mvd k)) q:=by
 unfold eM fd;congr 1
 funext i;show (ai s.E (q*s.P+i)&& !nu (aZ s.B mvd) (k*s.B) (min (k*s.B+s.B) s.N) (bt s.E (q*s.P+i)))=(ai s.E (q*s.P+i)&& !aZ s.B (cH mvd k) (bt s.E (q*s.P+i)))
 cases hl:ai s.E (q*s.P+i) with
 |false=>rfl
 |true=>
  have:=eh hl (a.from_ _ hl).1;rw [kZ a.B1 this]
theorem xQ (a:b8 s) (q:Nat):jm s (nu (aZ s.B mvd) (k*s.B) (min (k*s.B+s.B) s.N)) q=jm s (aZ s.B (cH mvd k)) q:=by
 unfold jm;refine aK (fun i _ _=> ?_);show (ai s.E i&& !nu (aZ s.B mvd) (k*s.B) (min (k*s.B+s.B) s.N) (bt s.E i))=(ai s.E i&& !aZ s.B (cH mvd k) (bt s.E i))
 cases hl:ai s.E i with
 |false=>rfl
 |true=>
  have:=eh hl (a.from_ _ hl).1;rw [kZ a.B1 this]
theorem fQ.move (m:b8 s) (h:fQ s L M mp mvd fr ah left top) (V:k<s.nb) (I:mvd k=false) {t u:Nat} (ht:t=s.to_+k*s.B) (hu:u=min (s.to_+k*s.B+s.B) (s.to_+s.N)) (w:top<=s.to_+s.R*s.P)
  (am:∀q,mp1 q=(mp q||(decide (t/s.P<=q)&&decide (q<=(u-1)/s.P)))) (D:∀b,b<s.W->mp (b/s.P)=true->M1 b=M b)
  (hd:zl s (nu (aZ s.B mvd) (k*s.B) (min (k*s.B+s.B) s.N)) (df s (cH mvd k) top) mp3 fw) (G:∀b,b<s.W->mp3 (b/s.P)=true->M3 b=kG s M1 t u b)
  {o y r:Nat} (hf:(∀j,j<o->cH mvd k j=true)∧o<=s.nb∧(o<s.nb->cH mvd k o=false)) (d:y=cnt (cH mvd k) o s.nb∧y<=s.Ah) (hl:r+1=left):
  fQ s L M3 mp3 (cH mvd k) o y r top∧∀q,(fw q).getD 0=jm s (aZ s.B (cH mvd k)) q:=by
 have Z:=m.B1;have S:=m.P1;have ad:=fp Z V;have v:∀q,q<s.W/s.P->mp3 q=(eM s.P (ai s.E) (aZ s.B (cH mvd k)) q||df s (cH mvd k) top q):=fun q hq=>by rw [hd.pages q hq,xp m]
 have H:∀a,ai s.E a=true->(bt s.E a/s.B=k↔t<=s.F a∧s.F a<u):=fun a d=>by
  have l:=eh d (m.from_ a d).1;have T:s.F a=s.to_+bt s.E a:=rfl;have Q:s.N=cnt (ai s.E) 0 s.W:=rfl;rw [T,ht,hu];constructor
  ·intro e;have l:=Nat.div_mul_le_self (bt s.E a) s.B;have Q:=Nat.div_add_mod (bt s.E a) s.B;have h6:=Nat.mod_lt (bt s.E a) (show 0<s.B by omega);rw [e] at l;rw [e,Nat.mul_comm] at Q;omega
  ·rintro ⟨l,p⟩;exact ft (i:=bt s.E a-k*s.B) Z (by omega) (by omega)
 have A:∀x,x<s.W->mp (x/s.P)=true->¬(t<=x∧x<u)->mp3 (x/s.P)=true->M3 x=M x:=fun x hx l p T=>by
  rw [G x hx T];unfold kG;rw [if_neg p,D x hx l]
 have C:∀a,a<s.W->ai s.E a=true->cH mvd k (bt s.E a/s.B)=false->M3 a=M a∧mvd (bt s.E a/s.B)=false:=fun a c d n=>by
  have l:mvd (bt s.E a/s.B)=false:=by unfold cH at n;rw [Bool.or_eq_false_iff] at n;exact n.1
  refine ⟨A a c (h.from_page m d l) (fun hh=> ?_) ?_,l⟩
  ·exact m.ne d (by omega) (by omega) rfl
  ·rw [v _ (dG c S m.W1),rj S d n];rfl
 refine ⟨⟨fun a c d n=> ?_,fun a c d n=> ?_,fun a c d n=> ?_,fun a c d n=> ?_,fun x l p=> ?_,v,hf,fun j U=> ?_,d,?_,?_⟩,fun q=>by rw [hd.cnts,xQ m]⟩
 ·have z:=m.Fa d;have J:mp3 (s.F a/s.P)=true:=by rw [v _ (dG z.2.2 S m.W1),kw m d n,Bool.or_true]
  by_cases e:bt s.E a/s.B=k
  ·rw [G _ z.2.2 J];unfold kG;rw [if_pos ((H a d).1 e),show s.F a-s.to_=bt s.E a from by show s.to_+bt s.E a-s.to_=_;omega,qO d c];have K:mvd (bt s.E a/s.B)=false:=by rw [e];exact I
   rw [dK d (D a c (h.from_page m d K))];exact h.still a c d K
  ·have l:mvd (bt s.E a/s.B)=true:=by unfold cH at n;rw [decide_eq_false e,Bool.or_false] at n;exact n
   rw [A _ z.2.2 (h.to_page m d l) (fun hh=>e ((H a d).2 hh)) J];exact h.moved a c d l
 ·obtain ⟨l,p⟩:=C a c d n;rw [dK d l];exact h.still a c d p
 ·obtain ⟨l,p⟩:=C a c d n;rw [l];exact h.ptrs a c d p
 ·obtain ⟨l,p⟩:=C a c d n;rw [l];exact h.small a c d p
 ·have O:x<s.W:=by have:=m.to2;omega
  rw [A x O (h.beh_page m w l p).2 (by omega) ?_]
  ·exact h.behind x l p
  ·rw [v _ (dG O S m.W1),oN m V ht hu,(h.beh_page m w l p).1];simp
 ·unfold cH;rw [h.far j U,decide_eq_false (by omega)];rfl
 ·have l:=h.left;have p:cnt (cH mvd k) 0 s.nb=cnt mvd 0 s.nb+1:=by
   have Y:∀f:Nat->Bool,cnt f 0 s.nb=cnt f 0 k+(if f k then 1 else 0)+cnt f (k+1) s.nb:=fun f=>by
    rw [ay f (Nat.zero_le (k+1)) (show k+1<=s.nb from V),aC f (Nat.zero_le k)]
   rw [Y,Y mvd,aK (f:=cH mvd k) (g:=mvd) (a:=0) (b:=k) (fun i _ hi=>by unfold cH;rw [decide_eq_false (by omega),Bool.or_false]),aK (f:=cH mvd k) (g:=mvd) (a:=k+1) (b:=s.nb) (fun i hi _=>by unfold cH;rw [decide_eq_false (by omega),Bool.or_false])];have Q:cH mvd k k=true:=by unfold cH;simp
   rw [Q,I];simp;omega
  omega
 ·obtain ⟨X,x1,x2⟩:=h.Rm;exact ⟨X,fun j U=>by unfold cH;rw [x1 j U];rfl,x2⟩
end
theorem kl:∀{l:List (Nat×Nat×Nat)} {j:Nat} {x:Nat×Nat×Nat},l[j]? =some x->(dd l)[3*j]? =some (.int .i64 (x.1:Int))∧(dd l)[3*j+1]? =some (.int .i64 (x.2.1:Int))∧(dd l)[3*j+2]? =some (.int .i64 (x.2.2:Int))
 |[],j,x,h=>by simp at h
 |y::l,0,x,h=>by
  simp only [List.getElem?_cons_zero,Option.some.injEq] at h;subst h;exact ⟨rfl,rfl,rfl⟩
 |y::l,j+1,x,h=>by
  rw [List.getElem?_cons_succ] at h;have:=kl h;rw [show 3*(j+1)=3*j+1+1+1 by omega];exact this
def mX (w:World) (g:Nat) (l:List (Nat×Nat×Nat)):Prop:=∀j x,l[j]? =some x->w.rangeAt g (3*j) [.int .i64 (x.1:Int),.int .i64 (x.2.1:Int),.int .i64 (x.2.2:Int)]
theorem mX.frame {T:Nat->Prop} {w w':World} {g:Nat} {l:List (Nat×Nat×Nat)} (h:mX w g l) (hf:Fr T w w') (d:¬T g):mX w' g l:=fun j x c i v b=>
 (World.cell?_of_block (w:=w) (w':=w') (a:=⟨g,3*j+i,none⟩) (hf.block g (aD (h j x c i v b)) d)).trans (h j x c i v b)
theorem vH {w:World} {b g cap:Nat} {l:List (Nat×Nat×Nat)} (h:w.ownsRow b 286 3 (.slice (some ⟨g,0,none⟩) l.length cap) l.length (dd l)):mX w g l:=by
 intro j x n i v a;have d:=h.cells (g:=g) rfl;have c:∀k,(⟨g,0,none⟩:Addr).add k=⟨g,k,none⟩:=fun k=>by unfold Addr.add;split<;>simp_all
 obtain ⟨e,f,m⟩:=kl n
 match i,a with
 |0,a=>simp at a;subst a;have:=d _ _ e;rwa [c] at this
 |1,a=>simp at a;subst a;have:=d _ _ f;rwa [c] at this
 |2,a=>simp at a;subst a;have:=d _ _ m;rwa [c] at this
theorem im {E:Nat->Nat} {Ba W:Nat}:∀{t:Nat} {l:List (Nat×Nat×Nat)} {u:Nat},iz E Ba W t l u->t+l.length<=u
 |t,[],u,h=>by have:t=u:=h;simp;omega
 |t,x::l,u,h=>by
  obtain ⟨b,c,d,a⟩:=h;have:=im a;rw [List.length_cons];omega
theorem th {E:Nat->Nat} {Ba W p u j:Nat} {l:List (Nat×Nat×Nat)} (h:iz E Ba W p (l.drop j) u) (a:j<l.length):∃F n,l[j]? =some (F,p,n)∧1<=n∧kL E Ba W p F n∧iz E Ba W (p+n) (l.drop (j+1)) u:=by
 rw [List.drop_eq_getElem_cons a] at h;obtain ⟨b,c,d,e⟩:=h;refine ⟨l[j].1,l[j].2.2,?_,c,d,e⟩;rw [List.getElem?_eq_getElem a,<-b]
section
variable {c:Cy} {s:bh} {hf hg:Nat->Nat} {Fs Us Hg:Nat} {Sm:Nat->Prop} {mp mp1:Nat->Bool} {L M M1:Nat->Nat} {Mv:List Bool} {fw:Nat->Option Nat} {n left fr ah k top:Nat} {w w' w0:World} {mvd:Nat->Bool}
theorem b8.inBlk (g:b8 s) (q:k<s.nb) {t u:Nat} (l:t=s.to_+k*s.B) (m:u=min (s.to_+k*s.B+s.B) (s.to_+s.N)) {a:Nat} (f:ai s.E a=true):bt s.E a/s.B=k↔t<=s.F a∧s.F a<u:=by
 have j:=g.B1;have b:=eh f (g.from_ a f).1;have h:s.F a=s.to_+bt s.E a:=rfl;have d:s.N=cnt (ai s.E) 0 s.W:=rfl;rw [h,l,m];constructor
 ·intro e;have b:=Nat.div_mul_le_self (bt s.E a) s.B;have d:=Nat.div_add_mod (bt s.E a) s.B;have p:=Nat.mod_lt (bt s.E a) (show 0<s.B by omega);rw [e] at b;rw [e,Nat.mul_comm] at d;omega
 ·rintro ⟨b,o⟩;exact ft (i:=bt s.E a-k*s.B) j (by omega) (by omega)
structure zE (s:bh) (mvd:Nat->Bool) (k t u F p n:Nat):Prop where
 t:t<=p
 u:p+n<=u
 live:∀i,i<n->ai s.E (F+i)=true∧F+i<s.W∧s.F (F+i)=p+i∧bt s.E (F+i)=bt s.E F+i∧bt s.E (F+i)/s.B=k
 at_:1<=n->bt s.E F+s.to_=p
theorem vD (m:b8 s) (l:k<s.nb) {t u:Nat} (o:t=s.to_+k*s.B) (q:u=min (s.to_+k*s.B+s.B) (s.to_+s.N)) {F p n:Nat} (e:t<=p) (d:p+n<=u) (r:1<=n) (g:kL s.E s.to_ s.W p F n):zE s mvd k t u F p n:=by
 have b:bt s.E F+s.to_=p:=by
  obtain ⟨_,_,a⟩:=g 0 (by omega);rw [Nat.add_zero,Nat.add_zero,nM] at a;omega
 refine ⟨e,d,fun i j=> ?_,fun _=>b⟩;obtain ⟨h,f,a⟩:=g i j;have v:s.to_+bt s.E (F+i)=p+i:=a;exact ⟨f,h,a,by omega,(m.inBlk l o q f).2 ⟨by show t<=s.to_+bt s.E (F+i);omega,by show s.to_+bt s.E (F+i)<u;omega⟩⟩
theorem y8 (g:b8 s) (h:fQ s L M mp mvd fr ah left top) (T:k<s.nb) (o:mvd k=false) {t u:Nat} (U:t=s.to_+k*s.B) (V:u=min (s.to_+k*s.B+s.B) (s.to_+s.N)) {F p n:Nat} (hp:zE s mvd k t u F p n) (C:1<=n)
  (l:∀q,mp1 q=(mp q||(decide (t/s.P<=q)&&decide (q<=(u-1)/s.P)))) (m:∀b,b<s.W->mp (b/s.P)=true->M1 b=M b) (z:∀a,s.E a≠0->bl (s.hp a) (hf a) (hg a)) (G:c.to_=s.to_) (R:s.to_<=1048576):
  zY c s hf hg mp1 (kG s M1 t p) F p n:=by
 have H:u<=s.to_+s.N∧s.to_<=t:=by omega
 have Q:=g.to2;have O:=g.N2;have I:=hp.u;have D:=hp.t;have f:∀i,i<n->mvd (bt s.E (F+i)/s.B)=false:=fun i d=>by rw [(hp.live i d).2.2.2.2];exact o
 have r:∀i j,i<n->j<n->p+i≠F+j:=fun i j d A e=>g.ne (hp.live j A).1 (x:=p+i) (by omega) (by omega) e.symm
 have v:∀i,i<n->kG s M1 t p (F+i)=M (F+i):=fun i d=>by
  unfold kG;rw [if_neg (fun S=>g.ne (hp.live i d).1 (x:=F+i) (by omega) (by omega) rfl),m _ (hp.live i d).2.1 (h.from_page g (hp.live i d).1 (f i d))]
 refine ⟨g.apart,?_,by omega,fun i d=>(hp.live i d).1,r,fun i d=> ?_,fun i d=> ?_,fun i d J K y=> ?_,fun i d=> ?_,z,by omega⟩
 ·have:=(hp.live (n-1) (by omega)).2.1;omega
 ·rw [l,h.from_page g (hp.live i d).1 (f i d)];rfl
 ·rw [l,decide_eq_true (Nat.div_le_div_right (c:=s.P) (show t<=p+i by omega)),decide_eq_true (Nat.div_le_div_right (c:=s.P) (show p+i<=u-1 by omega))];simp
 ·rw [v i d] at y ⊢;exact h.ptrs _ (hp.live i d).2.1 (hp.live i d).1 (f i d) J K y
 ·rw [v i d];exact h.small _ (hp.live i d).2.1 (hp.live i d).1 (f i d)
theorem zK (f:b8 s) {t u F p n:Nat} (hp:zE s mvd k t u F p n) (h:s.to_<=t) (j:u<=s.to_+s.N):kO s (kG s M1 t p) F p n=kG s M1 t (p+n):=by
 funext x;have g:=hp.t;have i:=hp.u;unfold kO;by_cases b:p<=x∧x<p+n
 ·rw [if_pos b];have a:=hp.live (x-p) (by omega);have e:kG s M1 t p (F+(x-p))=M1 (F+(x-p)):=by
   unfold kG;rw [if_neg (fun m=>f.ne a.1 (x:=F+(x-p)) (by omega) (by omega) rfl)]
  rw [dK a.1 e];show _=(if t<=x∧x<p+n then wrd s.E s.hp M1 s.F (zu s (x-s.to_)) else M1 x)
  rw [if_pos (by omega)];have l:s.to_+bt s.E (F+(x-p))=p+(x-p):=a.2.2.1;rw [show x-s.to_=bt s.E (F+(x-p)) by omega,qO a.1 a.2.1]
 ·rw [if_neg b];show (if t<=x∧x<p then wrd s.E s.hp M1 s.F (zu s (x-s.to_)) else M1 x)=(if t<=x∧x<p+n then wrd s.E s.hp M1 s.F (zu s (x-s.to_)) else M1 x)
  by_cases d:t<=x∧x<p
  ·rw [if_pos d,if_pos (by omega)]
  ·rw [if_neg d,if_neg (by omega)]
theorem zI {F p n t u a:Nat} {X:Nat->Bool} (hp:zE s mvd k t u F p n) (b:1<=n) (g:a<=p-s.to_) (f:s.to_<=t):uC s (nu X a (p-s.to_)) F n=nu X a (p+n-s.to_):=by
 funext j;have d:=hp.at_ b;have e:=hp.t;unfold uC nu;rw [Bool.or_assoc,<-Bool.decide_or];congr 1
 rw [decide_eq_decide];omega
end
end Go.Proofs.YthahbijbpinneaaGreatDoor
