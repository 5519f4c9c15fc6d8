import Derived.Test.YthahbijbpinneaaGreatDoorA0
import Derived.Test.YthahbijbpinneaaGreatDoorA14
import Derived.Test.YthahbijbpinneaaGreatDoorA16
set_option maxRecDepth 100000
set_option maxHeartbeats 8000000
set_option linter.all false
namespace Go.Proofs.YthahbijbpinneaaGreatDoor
open Go.RowKit
theorem kG {n:Nat} (h:aK (n:Int)=true):∃i,n=2^i:=by
 obtain ⟨i,_,hi⟩:=(cZ _).1 h;exact ⟨i,by
  have h2:((n:Nat):Int)=((2^i:Nat):Int):=by rw [hi];push_cast;rfl
  exact Int.ofNat.inj h2⟩
theorem lP {a b:Nat} (ha:aK (a:Int)=true) (hb:aK (b:Int)=true) (h:a≤b):a∣b:=by
 obtain ⟨i,rfl⟩:=kG ha;obtain ⟨j,rfl⟩:=kG hb;rcases Nat.le_total i j with hij|hij
 ·exact Nat.pow_dvd_pow 2 hij
 ·have:=Nat.pow_le_pow_right (show 0<2 by omega) hij;rw [show 2^i=2^j by omega];exact Nat.dvd_refl _
section
variable {c:Cf}
theorem cM.div (hc:cM c):c.Pg∣c.block∨c.block∣c.Pg:=by
 rcases Nat.le_total c.Pg c.block with h|h
 ·exact .inl (lP hc.page1 hc.block1 h)
 ·exact .inr (lP hc.block1 hc.page1 h)
theorem cM.wp (hc:cM c):c.Wd% c.Pg=0:=Nat.mod_eq_zero_of_dvd (lP hc.page1 hc.words1 hc.words4)
theorem cM.Wp (hc:cM c):c.W% c.Pg=0:=by
 have h:=hc.wp;unfold Cf.W;split
 ·rw [Nat.add_zero,Nat.add_mod_left];exact h
 ·rw [Nat.add_assoc,Nat.add_mod_left,Nat.add_mod,h];rfl
theorem cM.W5 (hc:cM c):c.W≤524288∧c.Pg≤c.W∧c.Pg+c.Wd≤c.W:=by
 have h1:=hc.words3;have h2:=hc.page3;unfold Cf.W;split<;>omega
def Cf.half (c:Cf) (Ba:Nat):Prop:=Ba=c.Pg∨(c.kind≠3∧Ba=c.Pg+c.Wd)
theorem Cf.half.other {Ba:Nat} (h:c.half Ba) (hk:c.kind≠3):c.half (2*c.Pg+c.Wd-Ba):=by
 rcases h with rfl|⟨_,rfl⟩
 ·exact .inr ⟨hk,by omega⟩
 ·exact .inl (by omega)
theorem Cf.half.le {Ba:Nat} (h:c.half Ba):c.Pg≤Ba∧Ba≤c.Pg+c.Wd:=by
 rcases h with rfl|⟨_,rfl⟩<;>omega
theorem Cf.half.mod {Ba:Nat} (h:c.half Ba) (hc:cM c):Ba% c.Pg=0:=by
 rcases h with rfl|⟨_,rfl⟩
 ·exact Nat.mod_self _
 ·rw [Nat.add_mod_left];exact hc.wp
theorem Cf.half.top {Ba:Nat} (h:c.half Ba):Ba+c.Wd≤c.W:=by
 unfold Cf.W;rcases h with rfl|⟨hk,rfl⟩
 ·omega
 ·rw [if_neg hk];omega
theorem Cf.half.conf {Ba u:Nat} (h:c.half Ba) (hc:cM c) (hk:c.kind≠3) (hu:u≤c.Wd):fS c.Pg c.W Ba (Ba+u) (2*c.Pg+c.Wd-Ba) (2*c.Pg+c.Wd-Ba+c.Wd) c.block c.stack c.Ah:=by
 have h2:=h.other hk;have h3:=h.le;have h4:=h2.le;have h5:=h.top;have h6:=h2.top;have h7:=hc.words2;have h8:=h2.mod hc;have h9:=hc.wp;refine ⟨hc.block1,hc.block2,hc.block3,hc.stack1,hc.stack2,hc.ahead1,by omega,by omega,by omega,by omega,by omega,by omega,h.mod hc,h8,by rw [Nat.add_mod,h8,h9];rfl,hc.page1,?_⟩;rcases h with rfl|⟨_,rfl⟩
 ·right;have hp:=hc.page2;have h10:(c.Pg+c.Wd)/c.Pg*c.Pg=c.Pg+c.Wd:=by
   have:=Nat.div_add_mod (c.Pg+c.Wd) c.Pg;rw [Nat.add_mod_left,h9] at this;rw [Nat.mul_comm];omega
  have h11:(c.Pg+u+c.Pg-1)/c.Pg≤(c.Pg+c.Wd)/c.Pg:=by
   rw [←Nat.lt_succ_iff,Nat.div_lt_iff_lt_mul (by omega),Nat.succ_mul,h10];omega
  have:=Nat.mul_le_mul_right c.Pg h11;omega
 ·left;omega
end
structure Hp where
 b:Nat
 m:Nat
 rb:Nat
 rg:Nat
def yj (c:Cf) (m Ba top:Nat) (L:Nat→Nat) (S:Nat→Prop) (w:World):Prop:=
 ∃Us Hg mp,bi m c.Pg c.W c.Fs Us Hg mp L S w∧∀q,mp q=(decide (Ba≤q*c.Pg)&&decide (q*c.Pg<top))
def j7 (c:Cy) (s:bg) (hf hg:Nat→Nat) (Fs top:Nat) (Mv:List Bool) (left fr ah Us:Nat) (L:Nat→Nat) (S:Nat→Prop) (w:World):Prop:=
 ∃Hg Sm mp M fw n,dL c s hf hg Fs Us Hg Sm mp M Mv fw n left fr ah w∧fu s L M mp (da Mv) fr ah left top∧(∀q,(fw q).getD 0=iR s (aY s.B (da Mv)) q)∧n<4611686018427387904∧∀k,S k↔(Sm k∨c.has k)
theorem dZ.su {c:Cy} {s:bg} {hf hg:Nat→Nat} {Fs top:Nat} {Mv:List Bool} {left fr ah:Nat} {L:Nat→Nat} {S:Nat→Prop} {w:World} (h:dZ c s hf hg Fs top Mv left fr ah L S w):∃Us,j7 c s hf hg Fs top Mv left fr ah Us L S w:=
 let ⟨Us,Hg,Sm,mp,M,fw,n,h⟩:=h;⟨Us,Hg,Sm,mp,M,fw,n,h⟩
theorem j7.s {c:Cy} {s:bg} {hf hg:Nat→Nat} {Fs top:Nat} {Mv:List Bool} {left fr ah Us:Nat} {L:Nat→Nat} {S:Nat→Prop} {w:World} (h:j7 c s hf hg Fs top Mv left fr ah Us L S w):dZ c s hf hg Fs top Mv left fr ah L S w:=
 let ⟨Hg,Sm,mp,M,fw,n,h⟩:=h;⟨Us,Hg,Sm,mp,M,fw,n,h⟩
theorem j7.stays {c:Cy} {s:bg} {hf hg:Nat→Nat} {Fs top:Nat} {Mv:List Bool} {left fr ah Us:Nat} {L:Nat→Nat} {S:Nat→Prop} {w w':World} {T:Nat→Prop} (h:j7 c s hf hg Fs top Mv left fr ah Us L S w) (hf':Fr T w w') (hn:∀k,S k→¬T k) (ht:¬T aN):j7 c s hf hg Fs top Mv left fr ah Us L S w':=by
 obtain ⟨Hg,Sm,mp,M,fw,n,q1,q2,q3,q4,q5⟩:=h;exact ⟨Hg,Sm,mp,M,fw,n,q1.frame hf' (fun k hk=>hn k ((q5 k).2 (.inr hk))) (fun k hk=>hn k ((q5 k).2 (.inl hk))) ht,q2,q3,q4,q5⟩
def yi (c:Cf) (m Ba top:Nat) (q:Nat→Prop) (y n:Nat) (L:Nat→Nat) (S:Nat→Prop) (w:World):Prop:=
 c.kind=1∧∃cc s hf hg Mv fr ah,pR cc s hf hg c.Fs top∧(∃Us,q Us∧j7 cc s hf hg c.Fs top Mv n fr ah Us L S w)∧cc.y=y∧cc.m=m∧s.to_=Ba∧s.P=c.Pg∧s.R=c.Wd/c.Pg∧s.W=c.W∧s.B=c.block∧s.Ah=c.Ah
def nZ (c:Cf) (m Ba top:Nat) (q:Nat→Prop) (L:Nat→Nat) (S:Nat→Prop) (w:World):Option Nat→Nat→Prop
 |none,n=>n=0∧yj c m Ba top L S w
 |some y,n=>yi c m Ba top q y n L S w
structure fU (q:Nat→Prop) (h:Hp) (c:Cf) (A:AG) (rs:List Nat) (φ L:Nat→Nat) (Ba u ub:Nat) (cy:Option Nat) (n:Nat) (ns bs:Int) (S:Nat→Prop) (w:World):Prop where
 cok:cM c
 blk:fT w h.b c h.m h.rb ub cy ns bs
 roots:aW w h.rb h.rg (rs.map φ)
 reg:bM w ub h.m Ba (Ba+u) (Ba+c.Wd)
 tab:bu w
 laid:aP A rs φ L Ba (Ba+u)
 Sl:rs.length=c.Sl
 fits:u≤c.Wd
 half:c.half Ba
 mem:nZ c h.m Ba (Ba+u) q L S w cy n
 d:∀k,S k→k≠h.b∧k≠h.rb∧k≠h.rg∧k≠ub∧k≠aN
 e:h.b≠h.rb∧h.b≠h.rg∧h.b≠ub∧h.rb≠ub∧h.rg≠ub∧h.b≠aN∧h.rg≠aN∧ub≠aN∧h.rb≠aN
def gj (h:Hp) (ub:Nat) (S:Nat→Prop) (k:Nat):Prop:=S k∨k=h.b∨k=h.rb∨k=h.rg∨k=ub
def vi (b:Nat) (c:Cf) (A:AG) (rs:List Nat) (u n:Nat) (T:Nat→Prop) (w:World):Prop:=
 ∃h φ L Ba ub cy ns bs S,h.b=b∧fU (fun _=>True) h c A rs φ L Ba u ub cy n ns bs S w∧(∀k,T k↔gj h ub S k)
def b8 (b:Nat) (c:Cf) (A:AG) (rs:List Nat) (u n:Nat) (T:Nat→Prop) (w:World):Prop:=
 ∃h φ L Ba ub cy ns bs S,h.b=b∧fU (fun _=>True) h c A rs φ L Ba u ub cy n ns bs S w∧(∀k,T k↔gj h ub S k)∧(n=0→cy=none)
section
variable {b:Nat} {h:Hp} {c:Cf} {A:AG} {rs:List Nat} {φ L:Nat→Nat} {Ba u ub:Nat} {cy:Option Nat} {n:Nat} {ns bs:Int} {S T X q:Nat→Prop} {w w' w'':World}
theorem nZ.stays (hx:nZ c h.m Ba (Ba+u) q L S w cy n) (hf:Fr X w w') (h1:∀k,S k→¬X k) (h2:¬X aN):nZ c h.m Ba (Ba+u) q L S w' cy n:=by
 cases cy with
 |none=>
  obtain ⟨h0,Us,Hg,mp,q1,q2⟩:=hx;exact ⟨h0,Us,Hg,mp,(aR _ _ _ _ _ _ _) _ _ _ _ _ q1 hf h1,q2⟩
 |some y=>
  obtain ⟨hk,cc,s,hf',hg,Mv,fr,ah,q1,⟨Us,qu,q2⟩,q3⟩:=hx;exact ⟨hk,cc,s,hf',hg,Mv,fr,ah,q1,⟨Us,qu,q2.stays hf h1 h2⟩,q3⟩
theorem nZ.lt (hx:nZ c h.m Ba (Ba+u) q L S w cy n):∀k,S k→k<w.heap.size:=by
 cases cy with
 |none=>
  obtain ⟨h0,Us,Hg,mp,q1,q2⟩:=hx;exact (aF _ _ _ _ _ _ _).lt _ _ _ q1
 |some y=>
  obtain ⟨hk,cc,s,hf',hg,Mv,fr,ah,q1,⟨Us,qu,q2⟩,q3⟩:=hx;exact q2.s.lt
theorem fU.lt (hw:fU q h c A rs φ L Ba u ub cy n ns bs S w):∀k,gj h ub S k→k<w.heap.size:=by
 intro k hk;rcases hk with hk|rfl|rfl|rfl|rfl
 ·exact hw.mem.lt k hk
 ·exact ak.lt hw.blk
 ·exact hw.roots.blk.lt
 ·exact hw.roots.row.lt
 ·exact ak.lt hw.reg
theorem fU.stays (hw:fU q h c A rs φ L Ba u ub cy n ns bs S w) (hf:Fr X w w') (h1:∀k,gj h ub S k→¬X k) (h2:¬X aN):fU q h c A rs φ L Ba u ub cy n ns bs S w':=
 ⟨hw.cok,ak.frame hw.blk hf (h1 _ (.inr (.inl rfl))),hw.roots.frame hf (h1 _ (.inr (.inr (.inl rfl)))) (h1 _ (.inr (.inr (.inr (.inl rfl))))),ak.frame hw.reg hf (h1 _ (.inr (.inr (.inr (.inr rfl))))),an hw.tab hf h2,hw.laid,hw.Sl,hw.fits,hw.half,hw.mem.stays hf (fun k hk=>h1 k (.inl hk)) h2,hw.d,hw.e⟩
theorem fU.keep (hw:fU q h c A rs φ L Ba u ub cy n ns bs S w) (hf:Fr (fun _=>False) w w'):fU q h c A rs φ L Ba u ub cy n ns bs S w':=hw.stays hf (fun _ _ h=>h) (fun h=>h)
theorem b8.stays (hi:b8 b c A rs u n T w) (hf:Fr X w w') (h1:∀k,T k→¬X k) (h2:¬X aN):b8 b c A rs u n T w':=by
 obtain ⟨h,φ,L,Ba,ub,cy,ns,bs,S,q1,q2,q3,q4⟩:=hi;exact ⟨h,φ,L,Ba,ub,cy,ns,bs,S,q1,q2.stays hf (fun k hk=>h1 k ((q3 k).2 hk)) h2,q3,q4⟩
theorem b8.keep (hi:b8 b c A rs u n T w) (hf:Fr (fun _=>False) w w'):b8 b c A rs u n T w':=hi.stays hf (fun _ _ h=>h) (fun h=>h)
theorem b8.lt (hi:b8 b c A rs u n T w):∀k,T k→k<w.heap.size:=by
 obtain ⟨h,φ,L,Ba,ub,cy,ns,bs,S,q1,q2,q3,q4⟩:=hi;exact fun k hk=>q2.lt k ((q3 k).1 hk)
theorem b8.tab (hi:b8 b c A rs u n T w):bu w∧aN<w.heap.size∧¬T aN:=by
 obtain ⟨h,φ,L,Ba,ub,cy,ns,bs,S,q1,q2,q3,q4⟩:=hi;obtain ⟨e1,e2,e3,e4,e5,e6,e7,e8,e9⟩:=q2.e;refine ⟨q2.tab,aE (q2.tab 0 0 rfl),fun ht=> ?_⟩;rcases (q3 _).1 ht with hk|hk|hk|hk|hk
 ·exact (q2.d _ hk).2.2.2.2 rfl
 ·exact e6 hk.symm
 ·exact e9 hk.symm
 ·exact e7 hk.symm
 ·exact e8 hk.symm
theorem b8.cf (hi:b8 b c A rs u n T w):cM c∧rs.length=c.Sl∧u≤c.Wd:=by
 obtain ⟨h,φ,L,Ba,ub,cy,ns,bs,S,q1,q2,q3,q4⟩:=hi;exact ⟨q2.cok,q2.Sl,q2.fits⟩
end
section
variable {P:Program}
def bZ (P:Program) (ρ:Operand→Value) (o:Oper) (w:World) (post:Value→World→Prop):Prop:=
 match (execOp ρ o).run P w with
 | .ok (.value v) w'=>post v w'
 | .ok .skip w'=>post undef w'
 | .ok (.enter f args) w'=>Calls P f args w' fun e w''=>∃v,e= .returned v∧post v w''
 |_=>False
theorem bZ.wp {o:Oper} {a:Act} {w:World} {post:Value→World→Prop} {Q:Exit→Act→World→Prop} (h:bZ P a.eval o w post):o.wp P a w (fun a' w'=>∃v,a'=a.put o.dst v∧post v w') Q:=by
 unfold bZ at h;unfold Oper.wp;generalize (execOp a.eval o).run P w=r at*
 cases r with
 |halt x w'=>exact h.elim
 |ok n w'=>
  cases n<;>simp only [Oper.upon] at h ⊢
  case value v=>exact ⟨v,rfl,h⟩
  case skip=>exact ⟨_,rfl,h⟩
  case enter f args=>
   refine Calls.mono h ?_;rintro e w'' ⟨v,rfl,hp⟩;exact ⟨v,rfl,hp⟩
theorem ai {ρ:Operand→Value} {o:Oper} {w w':World} {post:Value→World→Prop} (v:Value) (h:(execOp ρ o).run P w= .ok (.value v) w') (hp:post v w'):bZ P ρ o w post:=by
 unfold bZ;rw [h];exact hp
theorem cl {ρ:Operand→Value} {o:Oper} {w w':World} {post:Value→World→Prop} (h:(execOp ρ o).run P w= .ok .skip w') (hp:post undef w'):bZ P ρ o w post:=by
 unfold bZ;rw [h];exact hp
theorem ay {ρ:Operand→Value} {o:Oper} {w w':World} {post:Value→World→Prop} (f:FuncId) (args:Array Value) (h:(execOp ρ o).run P w= .ok (.enter f args) w') (hp:Calls P f args w' fun e w''=>∃v,e= .returned v∧post v w''):bZ P ρ o w post:=by
 unfold bZ;rw [h];exact hp
def dA:Value→Option Nat
 | .pointer (some a)=>some a.block
 | .slice (some a) _ _=>some a.block
 | .map b=>b
 |_=>none
def nj (w w':World) (v:Value):Prop:=∃g,dA v=some g∧w.heap.size≤g∧g<w'.heap.size
def aS (vs:Nat→Value):Nat→List Oper→Array Value→Array Value
 |_,[],t=>t
 |k,o::l,t=>aS vs (k+1) l (match o.dst with|some d=>t.setIfInBounds d (vs k)|none=>t)
theorem eF {vs:Nat→Value} {x:Nat}:∀(l:List Oper) (k:Nat) (t:Array Value),(∀o∈l,o.dst≠some x)→(aS vs k l t)[x]? =t[x]?
 |[],_,_,_=>rfl
 |o::l,k,t,h=>by
  have h0:=h o List.mem_cons_self;unfold aS;rw [eF l (k+1) _ (fun o' ho=>h o' (List.mem_cons_of_mem _ ho))]
  cases hd:o.dst with
  |none=>rfl
  |some d=>exact Array.getElem?_setIfInBounds_ne (fun e=>h0 (by rw [hd,e]))
theorem kW {vs:Nat→Value} {d:Nat}:∀(l:List Oper) (k j:Nat) (t:Array Value) (o:Oper),l[j]? =some o→o.dst=some d→(∀i o',l[i]? =some o'→o'.dst=some d→i=j)→(aS vs k l t)[d]? =(t[d]?).map fun _=>vs (k+j)
 |[],_,_,_,_,h,_,_=>by cases h
 |o'::l,k,0,t,o,h,hd,hu=>by
  obtain rfl:o'=o:=Option.some.inj h;unfold aS;rw [eF l (k+1) _ (fun o2 ho e=>by
   obtain ⟨i,hi⟩:=List.mem_iff_getElem?.1 ho;have:=hu (i+1) o2 hi e;omega),hd]
  show (t.setIfInBounds d (vs k))[d]? =_
  rw [Array.getElem?_setIfInBounds,if_pos rfl,Nat.add_zero];by_cases hs:d<t.size
  ·rw [if_pos hs,Array.getElem?_eq_getElem hs];rfl
  ·rw [if_neg hs,Array.getElem?_eq_none (Nat.le_of_not_lt hs)];rfl
 |o'::l,k,j+1,t,o,h,hd,hu=>by
  unfold aS;rw [kW l (k+1) j _ o h hd (fun i o2 hi e=>by have:=hu (i+1) o2 hi e;omega),show k+1+j=k+(j+1) by omega];have hne:o'.dst≠some d:=fun e=>by have:=hu 0 o' rfl e;omega
  cases hd':o'.dst with
  |none=>rfl
  |some d'=>
   show ((t.setIfInBounds d' (vs k))[d]?).map _=_
   rw [Array.getElem?_setIfInBounds_ne (fun e=>hne (by rw [hd',e]))]
def cz (o:Oper) (j:Nat):Bool:=o.after.any fun e=>Region.binds .any e&&e.on==j
def uN (o:Oper):List Tmp:=o.op.operands.toList.filterMap fun| .tmp t=>some t|_=>none
def fd (l:List Oper):Bool:=
 l.all fun o=>o.guard.isNone&&(match o.op with| .select _ _=>false| .defer _=>false|_=>true)
def dQ (l:List Oper):Bool:=
 (List.range l.length).all fun i=>match l[i]? with
  |none=>true
  |some o=>(o.after.all fun e=> !Region.binds .any e||decide (e.on<i))&&(List.range l.length).all fun j=>match l[j]? with
   |none=>true
   |some p=>match p.dst with
    |none=>true
    |some d=>(!(uN o).contains d||cz o j)&&(i==j||o.dst !=some d)
structure pU (l:List Oper):Prop where
 guard:∀(i:Nat) (o:Oper),l[i]? =some o→o.guard=none
 sel:∀(i:Nat) (o:Oper),l[i]? =some o→∀cs b,o.op≠ .select cs b
 dfr:∀(i:Nat) (o:Oper),l[i]? =some o→∀c,o.op≠ .defer c
 back:∀(i:Nat) (o:Oper),l[i]? =some o→∀e∈o.after,Region.binds .any e=true→e.on<i
 reads:∀(i:Nat) (o:Oper) (j:Nat) (p:Oper) (d:Nat),l[i]? =some o→l[j]? =some p→p.dst=some d→Operand.tmp d∈o.op.operands→cz o j=true
 once:∀(i:Nat) (o:Oper) (j:Nat) (p:Oper) (d:Nat),l[i]? =some o→l[j]? =some p→p.dst=some d→o.dst=some d→i=j
theorem jP {l:List Oper} (h:fd l=true) (h2:dQ l=true):pU l:=by
 unfold fd at h;unfold dQ at h2;rw [List.all_eq_true] at h h2;have h3:∀(i:Nat) (o:Oper),l[i]? =some o→i<l.length:=fun i o ho=>(List.getElem?_eq_some_iff.1 ho).1
 have h1:∀(i:Nat) (o:Oper),l[i]? =some o→o.guard=none∧(∀cs b,o.op≠ .select cs b)∧∀c,o.op≠ .defer c:=fun i o ho=>by
  have h4:=h o (List.mem_of_getElem? ho);rw [Bool.and_eq_true] at h4;refine ⟨Option.isNone_iff_eq_none.1 h4.1,fun cs b e=> ?_,fun c e=> ?_⟩
  ·have h5:=h4.2;rw [e] at h5
   cases h5
  ·have h5:=h4.2;rw [e] at h5
   cases h5
 have hx:∀(i:Nat) (o:Oper),l[i]? =some o→(∀e∈o.after,Region.binds .any e=true→e.on<i)∧∀(j:Nat) (p:Oper) (d:Nat),l[j]? =some p→p.dst=some d→((uN o).contains d=true→cz o j=true)∧(o.dst=some d→i=j):=fun i o ho=>by
  have h4:=h2 i (List.mem_range.2 (h3 i o ho));simp only [ho,Bool.and_eq_true,List.all_eq_true] at h4;refine ⟨fun e he hb=> ?_,fun j p d hp hd=> ?_⟩
  ·have h5:=Array.all_eq_true_iff_forall_mem.1 h4.1 e he;rw [hb] at h5
   simpa using h5
  ·have h5:=h4.2 j (List.mem_range.2 (h3 j p hp));simp only [hp,hd,Bool.and_eq_true,Bool.or_eq_true] at h5;refine ⟨fun hr=> ?_,fun e=> ?_⟩
   ·rcases h5.1 with h6|h6
    ·rw [hr] at h6;cases h6
    ·exact h6
   ·rcases h5.2 with h6|h6
    ·exact beq_iff_eq.1 h6
    ·rw [e] at h6;simp at h6
 refine ⟨fun i o ho=>(h1 i o ho).1,fun i o ho=>(h1 i o ho).2.1,fun i o ho=>(h1 i o ho).2.2,fun i o ho=>(hx i o ho).1,fun i o j p d ho hp hd hm=> ?_,fun i o j p d ho hp hd e=>((hx i o ho).2 j p d hp hd).2 e⟩;refine ((hx i o ho).2 j p d hp hd).1 ?_;rw [List.contains_iff_mem];exact List.mem_filterMap.2 ⟨.tmp d,by simpa using hm,rfl⟩
def eY (m n:Nat):Array Bool:=((List.range m).map fun j=>decide (j<n)).toArray
def bF (l:List Oper) (t i:Nat):Bool:=match l[t]? with
 |some o=>cz o i
 |none=>false
def lQ (l:List Oper):Nat→Nat→Nat→Bool
 |0,t,i=>bF l t i
 |f+1,t,i=>bF l t i||(List.range l.length).any fun k=>bF l t k&&lQ l f k i
def nJ (l:List Oper) (n:Nat):Bool:=(List.range l.length).all fun t=>decide (t<n)||(List.range n).all fun i=>lQ l 3 t i
def mg (l:List Oper) (n:Nat):Prop:=∀(D:Nat→Prop) (t:Nat),n≤t→t<l.length→(∀k i,D k→bF l k i=true→D i)→(∀k,bF l t k=true→D k)→∀i,i<n→D i
def tz (l:List Oper):Nat→List Nat→List Nat
 |0,S=>S
 |k+1,S=>tz l k (if S.any (fun m=>bF l m k) then k::S else S)
def wZ (l:List Oper) (n:Nat):Bool:=(List.range l.length).all fun t=>decide (t<n)||(List.range n).all fun i=>(tz l t [t]).contains i
theorem qj {l:List Oper} {D:Nat→Prop} {t:Nat} (hc:∀k i,D k→bF l k i=true→D i) (ht:∀k,bF l t k=true→D k):∀(k:Nat) (S:List Nat),(∀m∈S,m=t∨D m)→∀m∈tz l k S,m=t∨D m
 |0,_,h,m,hm=>h m hm
 |k+1,S,h,m,hm=>by
  refine qj hc ht k _ (fun x hx=> ?_) m hm;split at hx
  ·rename_i ha;rcases List.mem_cons.1 hx with rfl|hx
   ·obtain ⟨y,hy,hw⟩:=List.any_eq_true.1 ha;rcases h y hy with rfl|hd
    ·exact .inr (ht _ hw)
    ·exact .inr (hc _ _ hd hw)
   ·exact h x hx
  ·exact h x hx
theorem nI {l:List Oper} {n:Nat} (h:wZ l n=true):mg l n:=fun D t h1 h2 hc ht i hi=>by
 have h5:=List.all_eq_true.1 h t (List.mem_range.2 h2);rw [decide_eq_false (show¬t<n by omega),Bool.false_or] at h5;have h6:=List.all_eq_true.1 h5 i (List.mem_range.2 hi);rcases qj hc ht t [t] (fun m hm=> .inl (List.mem_singleton.1 hm)) i (List.contains_iff_mem.1 h6) with e|e
 ·omega
 ·exact e
theorem nC {l:List Oper} {D:Nat→Prop} (hc:∀k i,D k→bF l k i=true→D i):∀(f t i:Nat),(∀k,bF l t k=true→D k)→lQ l f t i=true→D i
 |0,t,i,ht,h=>ht i h
 |f+1,t,i,ht,h=>by
  unfold lQ at h;rw [Bool.or_eq_true] at h;rcases h with h|h
  ·exact ht i h
  ·obtain ⟨k,_,hk⟩:=List.any_eq_true.1 h;rw [Bool.and_eq_true] at hk;exact nC hc f k i (fun m hm=>hc k m (ht k hk.1) hm) hk.2
theorem nK {l:List Oper} {n:Nat} (h:nJ l n=true):mg l n:=fun D t h1 h2 hc ht i hi=>by
 have h5:=List.all_eq_true.1 h t (List.mem_range.2 h2);rw [decide_eq_false (show¬t<n by omega),Bool.false_or] at h5;exact nC hc 3 t i ht (List.all_eq_true.1 h5 i (List.mem_range.2 hi))
variable {R R1:World→World→Prop} {Ps:Nat→Value→World→Prop} {nw:Nat→Bool} {n d:Nat}
structure sZ (l:List Oper) (n d:Nat) (a0:Act) (w0:World) (R R1:World→World→Prop) (Ps:Nat→Value→World→Prop) (nw:Nat→Bool) (vs:Nat→Value) (listed:Array Bool) (a:Act) (w:World):Prop where
 news:∀j,nw j=true→j<n→listed.getD j true=true→nj w0 w (vs j)
 diff:∀i j,nw i=true→nw j=true→i<n→j<n→listed.getD i true=true→listed.getD j true=true→i≠j→dA (vs i)≠dA (vs j)
 size:listed.size=l.length
 tail:∀j,n≤j→j<l.length→listed.getD j true=false
 shut:∀k i,(k<l.length∧listed.getD k true=true)→bF l k i=true→(i<l.length∧listed.getD i true=true)
 defers:a.defers=a0.defers
 rel:R w0 w
 rel1:¬(d<n∧listed.getD d true=true)→R1 w0 w
 posts:∀j,j<n→listed.getD j true=true→Ps j (vs j) w
 set:∀(j:Nat) (o:Oper) (d:Nat),l[j]? =some o→listed.getD j true=true→o.dst=some d→a.tmps[d]? =(a0.tmps[d]?).map fun _=>vs j
 rest:∀t:Nat,(∀(j:Nat) (o:Oper),l[j]? =some o→listed.getD j true=true→o.dst≠some t)→a.tmps[t]? =a0.tmps[t]?
def dO (P:Program) (wd:Nat→Bool) (F:(Nat→Value)→Act) (w0:World) (d:Nat) (R R1:World→World→Prop) (Ps:Nat→Value→World→Prop) (nw:Nat→Bool):Nat→List Oper→Prop
 |_,[]=>True
 |k,o::l=>(∀vs w,R w0 w→((k==d||wd k)=true→R1 w0 w)→(∀j,cz o j=true→Ps j (vs j) w)→(∀i j,nw i=true→nw j=true→cz o i=true→cz o j=true→i≠j→dA (vs i)≠dA (vs j))→bZ P (F vs).eval o w (fun v w'=>Ps k v w'∧(bif k==d then R w w' else R1 w w')∧(nw k=true→nj w w' v)))∧dO P wd F w0 d R R1 Ps nw (k+1) l
theorem jg {wd:Nat→Bool} {F:(Nat→Value)→Act} {w0:World}:∀{l:List Oper} {k:Nat} (j:Nat) (o:Oper),dO P wd F w0 d R R1 Ps nw k l→l[j]? =some o→∀vs w,R w0 w→((k+j==d||wd (k+j))=true→R1 w0 w)→(∀i,cz o i=true→Ps i (vs i) w)→(∀i j,nw i=true→nw j=true→cz o i=true→cz o j=true→i≠j→dA (vs i)≠dA (vs j))→bZ P (F vs).eval o w (fun v w'=>Ps (k+j) v w'∧(bif k+j==d then R w w' else R1 w w')∧(nw (k+j)=true→nj w w' v))
 |[],_,_,_,_,h=>by cases h
 |o'::l,k,0,o,ha,h=>by
  obtain rfl:o'=o:=Option.some.inj h;exact ha.1
 |o'::l,k,j+1,o,ha,h=>by
  have:=jg (k:=k+1) j o ha.2 h;rwa [show k+1+j=k+(j+1) by omega] at this
def pI (n:Nat) (listed:Array Bool):List Nat:=(List.range n).filter fun j=> !listed.getD j true
theorem bQ {listed:Array Bool} {i j:Nat} (hi:i<listed.size):(listed.setIfInBounds i true).getD j true=(decide (i=j)||listed.getD j true):=by
 by_cases e:i=j
 ·subst e;rw [decide_eq_true rfl,Bool.true_or];simp [Array.getD_eq_getD_getElem?,hi]
 ·rw [decide_eq_false e,Bool.false_or];exact getD_set_ne true e
theorem wJ {n i:Nat} {listed:Array Bool} (hi:i<listed.size) (h:i∈pI n listed):(pI n (listed.setIfInBounds i true)).length+1=(pI n listed).length:=by
 have e:pI n (listed.setIfInBounds i true)=(pI n listed).filter (fun j=>j !=i):=by
  unfold pI;rw [List.filter_filter];congr 1
  funext j;rw [bQ hi];by_cases e:i=j
  ·simp [e]
  ·simp [e,Ne.symm e]
 have hn:(pI n listed).Nodup:=List.Pairwise.filter _ List.nodup_range;rw [e,←hn.erase_eq_filter,List.length_erase_of_mem h];have:=List.length_pos_of_mem h;omega
def oh (W1:Nat→(Act→World→Prop)→Act→World→Prop) (md:Region.Mode) (ops:Array Oper) (Q:Exit→Act→World→Prop):Nat→Array Bool→Act→World→Prop
 |0,listed,a,w=>Region.ready md ops listed=[]∧Q .normal a w
 |fuel+1,listed,a,w=>
  (Region.ready md ops listed=[]→Q .normal a w)∧
  ∀i∈Region.ready md ops listed,W1 i (oh W1 md ops Q fuel (listed.setIfInBounds i true)) a w
theorem pZ {ops:Array Oper} {md:Region.Mode} {Q:Exit→Act→World→Prop}:∀(f:Nat) (listed:Array Bool) (a:Act) (w:World),oh (wpOp P ops Q) md ops Q f listed a w→wpAny P md ops Q f listed a w
 |0,_,_,_,h=>h
 |f+1,_,_,_,h=>⟨h.1,fun i hi=>wpOp_mono (fun a w h=>pZ f _ a w h) (h.2 i hi)⟩
theorem qL {ops:Array Oper} {md:Region.Mode} {Q:Exit→Act→World→Prop}:∀(f:Nat) (listed:Array Bool) (a:Act) (w:World),wpAny P md ops Q f listed a w→oh (wpOp P ops Q) md ops Q f listed a w
 |0,_,_,_,h=>h
 |f+1,_,_,_,h=>⟨h.1,fun i hi=>wpOp_mono (fun a w h=>qL f _ a w h) (h.2 i hi)⟩
theorem kV {W1:Nat→(Act→World→Prop)→Act→World→Prop} {l:List Oper} {a0:Act} {w0:World} {Q:Exit→Act→World→Prop} (hok:pU l) (hW1:∀i K K' a w,(∀a w,K a w→K' a w)→W1 i K a w→W1 i K' a w) (hW2:∀i o a w post,l[i]? =some o→bZ P a.eval o w post→W1 i (fun a' w'=>∃v,a'=a.put o.dst v∧post v w') a w) (hn:n≤l.length) (hsk:mg l n)
  (h1r:∀w w',R1 w w'→R w w') (htr1:∀w1 w2 w3,R1 w1 w2→R1 w2 w3→R1 w1 w3) (htrA:∀w1 w2 w3,R w1 w2→R1 w2 w3→R w1 w3) (htrB:∀w1 w2 w3,R1 w1 w2→R w2 w3→R w1 w3) (hst1:∀j v w w',Ps j v w→R1 w w'→Ps j v w') (hst:∀j v w w',j≠d→Ps j v w→R w w'→Ps j v w') (hz:∀w w',R w w'→w.heap.size≤w'.heap.size)
  (hops:dO P (bF l d) (fun vs=>{a0 with tmps:=aS vs 0 (l.take n) a0.tmps}) w0 d R R1 Ps nw 0 (l.take n)) (hend:∀vs w,R w0 w→(∀j,j<n→Ps j (vs j) w)→(∀j,nw j=true→j<n→nj w0 w (vs j))→(∀i j,nw i=true→nw j=true→i<n→j<n→i≠j→dA (vs i)≠dA (vs j))→oh W1 .any l.toArray Q (l.length-n) (eY l.length n) {a0 with tmps:=aS vs 0 (l.take n) a0.tmps} w):
  ∀(f:Nat) (listed:Array Bool) (vs:Nat→Value) (a:Act) (w:World),(pI n listed).length=f→sZ l n d a0 w0 R R1 Ps nw vs listed a w→oh W1 .any l.toArray Q (f+(l.length-n)) listed a w:=by
 have hget:∀j:Nat,l.toArray[j]? =l[j]? :=fun j=>by simp
 have htk:∀(j:Nat) (o:Oper),(l.take n)[j]? =some o↔j<n∧l[j]? =some o:=fun j o=>by
  rw [List.getElem?_take];by_cases h:j<n
  ·rw [if_pos h];exact ⟨fun h2=>⟨h,h2⟩,fun h2=>h2.2⟩
  ·rw [if_neg h];exact ⟨fun h2=>(by cases h2),fun h2=>absurd h2.1 h⟩
 have hfull:∀(vs:Nat→Value) (j:Nat) (o:Oper) (d:Nat),j<n→l[j]? =some o→o.dst=some d→(aS vs 0 (l.take n) a0.tmps)[d]? =(a0.tmps[d]?).map fun _=>vs j:=fun vs j o d hj ho hd=>by
  rw [kW (l.take n) 0 j _ o ((htk j o).2 ⟨hj,ho⟩) hd (fun i o' hi e=>hok.once i o' j o d ((htk i o').1 hi).2 ho hd e),Nat.zero_add]
 have hoth:∀(vs:Nat→Value) (t:Nat),(¬∃(j:Nat) (o:Oper),j<n∧l[j]? =some o∧o.dst=some t)→(aS vs 0 (l.take n) a0.tmps)[t]? =a0.tmps[t]? :=fun vs t h=>
  eF (l.take n) 0 _ (fun o ho e=>h (let ⟨j,hj⟩:=List.mem_iff_getElem?.1 ho;⟨j,o,((htk j o).1 hj).1,((htk j o).1 hj).2,e⟩))
 have hlist:∀{listed:Array Bool} {vs:Nat→Value} {a:Act} {w:World},sZ l n d a0 w0 R R1 Ps nw vs listed a w→∀j,j<l.length→listed.getD j true=true→j<n:=fun inv j hj hl=>by
  rcases Nat.lt_or_ge j n with h|h
  ·exact h
  ·rw [inv.tail j h hj] at hl;cases hl
 have hfin:∀(listed:Array Bool) (vs:Nat→Value) (a:Act) (w:World),sZ l n d a0 w0 R R1 Ps nw vs listed a w→(∀j,j<n→listed.getD j true=true)→oh W1 .any l.toArray Q (0+(l.length-n)) listed a w:=by
  intro listed vs a w inv hall;have hae:a={a0 with tmps:=aS vs 0 (l.take n) a0.tmps}:=by
   obtain ⟨t,d⟩:=a;have h1:d=a0.defers:=inv.defers;subst h1;have h2:t=aS vs 0 (l.take n) a0.tmps:=by
    refine Array.ext_getElem? (fun x=> ?_);by_cases hx:∃(j:Nat) (o:Oper),j<n∧l[j]? =some o∧o.dst=some x
    ·obtain ⟨j,o,hj,ho,hd⟩:=hx;rw [hfull vs j o x hj ho hd];exact inv.set j o x ho (hall j hj) hd
    ·rw [hoth vs x hx];exact inv.rest x (fun j o ho hl e=>hx ⟨j,o,hlist inv j (List.getElem?_eq_some_iff.1 ho).1 hl,ho,e⟩)
   rw [h2]
  have hm:listed=eY l.length n:=by
   refine Array.ext_getElem? (fun j=> ?_);unfold eY;show listed[j]? =(((List.range l.length).map fun j=>decide (j<n)).toArray)[j]?
   rw [show (((List.range l.length).map fun j=>decide (j<n)).toArray)[j]? =((List.range l.length).map fun j=>decide (j<n))[j]? by simp,List.getElem?_map];rcases Nat.lt_or_ge j l.length with hj|hj
   ·rw [List.getElem?_range hj];have hs:j<listed.size:=by rw [inv.size];exact hj
    have e:listed.getD j true=decide (j<n):=by
     rcases Nat.lt_or_ge j n with h|h
     ·rw [hall j h,decide_eq_true h]
     ·rw [inv.tail j h hj,decide_eq_false (by omega)]
    rw [Array.getD_eq_getD_getElem?,Array.getElem?_eq_getElem hs] at e;rw [Array.getElem?_eq_getElem hs];exact congrArg some e
   ·rw [Array.getElem?_eq_none (by rw [inv.size];exact hj),List.getElem?_eq_none (by simpa using hj)];rfl
  rw [Nat.zero_add,hm,hae];exact hend vs w inv.rel (fun j hj=>inv.posts j hj (hall j hj)) (fun j hn hj=>inv.news j hn hj (hall j hj)) (fun i j hi hj hil hjl hij=>inv.diff i j hi hj hil hjl (hall i hil) (hall j hjl) hij)
 have hstep:∀(listed:Array Bool) (vs:Nat→Value) (a:Act) (w:World) (i:Nat),sZ l n d a0 w0 R R1 Ps nw vs listed a w→i<n→i∈Region.ready .any l.toArray listed→
   W1 i (fun a' w'=>∃vs',sZ l n d a0 w0 R R1 Ps nw vs' (listed.setIfInBounds i true) a' w') a w:=by
  intro listed vs a w i inv hin hi;obtain ⟨h1,o,h2,h3⟩:=mem_ready.1 hi;rw [hget] at h2;have hil:i<l.length:=(List.getElem?_eq_some_iff.1 h2).1;have his:i<listed.size:=by rw [inv.size];exact hil
  have hlt:∀j,cz o j=true→j<n∧listed.getD j true=true:=fun j hj=>by
   unfold cz at hj;obtain ⟨e,he,hb⟩:=Array.any_eq_true'.1 hj;rw [Bool.and_eq_true,beq_iff_eq] at hb;obtain ⟨hb,rfl⟩:=hb;have h4:=hok.back i o h2 e he hb;have h5:=h3 e he hb;have h6:e.on<listed.size:=by rw [inv.size];omega
   refine ⟨by omega,?_⟩;rw [Array.getD_eq_getD_getElem?,Array.getElem?_eq_getElem h6] at h5 ⊢;exact h5
  have hex:execOp a.eval o=execOp ({a0 with tmps:=aS vs 0 (l.take n) a0.tmps}:Act).eval o:=by
   refine execOp_congr o (hok.sel i o h2) (fun x hx=> ?_)
   cases x with
   |tmp t=>
    have e:a.tmps[t]? =(aS vs 0 (l.take n) a0.tmps)[t]? :=by
     by_cases hx2:∃(j:Nat) (p:Oper),j<n∧l[j]? =some p∧p.dst=some t
     ·obtain ⟨j,p,hjn,hp,hd⟩:=hx2;rw [hfull vs j p t hjn hp hd];exact inv.set j p t hp (hlt j (hok.reads i o j p t h2 hp hd hx)).2 hd
     ·rw [hoth vs t hx2];exact inv.rest t (fun j p hp hl e=>hx2 ⟨j,p,hlist inv j (List.getElem?_eq_some_iff.1 hp).1 hl,hp,e⟩)
    simp only [Act.eval,Array.getD_eq_getD_getElem?,e]
   |_=>rfl
  have hp:=jg i o hops ((htk i o).2 ⟨hin,h2⟩) vs w inv.rel (fun e=>inv.rel1 (fun h=>by
   rw [Nat.zero_add,Bool.or_eq_true,beq_iff_eq] at e;rcases e with e|e
   ·rw [←e,h1] at h;cases h.2
   ·have h7:=(inv.shut d i ⟨by omega,h.2⟩ e).2;rw [h1] at h7;cases h7)) (fun j hj=>inv.posts j (hlt j hj).1 (hlt j hj).2) (fun i j hi hj hwi hwj hij=>inv.diff i j hi hj (hlt i hwi).1 (hlt j hwj).1 (hlt i hwi).2 (hlt j hwj).2 hij)
  rw [Nat.zero_add] at hp;have hp2:bZ P a.eval o w (fun v w'=>Ps i v w'∧(bif i==d then R w w' else R1 w w')∧(nw i=true→nj w w' v)):=by unfold bZ at*;rw [hex];exact hp
  refine hW1 _ _ _ _ _ ?_ (hW2 i o a w _ h2 hp2);rintro a' w' ⟨v,rfl,hv,hrx,hnv⟩;have hrd:i=d→R w w':=fun e=>by rw [show (i==d)=true from beq_iff_eq.2 e] at hrx;exact hrx
  have hr1:i≠d→R1 w w':=fun e=>by rw [show (i==d)=false from beq_eq_false_iff_ne.2 e] at hrx;exact hrx
  have hr:R w w':=by
   by_cases e:i=d
   ·exact hrd e
   ·exact h1r _ _ (hr1 e)
  have hrel1:=inv.rel1;have hR0:R w0 w':=by
   by_cases e:i=d
   ·exact htrB _ _ _ (hrel1 (fun h=>by rw [←e,h1] at h;cases h.2)) (hrd e)
   ·exact htrA _ _ _ inv.rel (hr1 e)
  have hz1:=hz _ _ hr;have hz0:=hz _ _ inv.rel;refine ⟨fun j=>if j=i then v else vs j,?_⟩;have hun:∀j,(listed.setIfInBounds i true).getD j true=true→j=i∨listed.getD j true=true:=fun j hj=>by
   rw [bQ his,Bool.or_eq_true,decide_eq_true_eq] at hj;exact hj.imp Eq.symm id
  refine ⟨fun j hn hj hl=> ?_,fun x y hx hy hxl hyl hx1 hy1 hxy=> ?_,by rw [Array.size_setIfInBounds];exact inv.size,fun j hj hjl=> ?_,fun k m hk hw=> ?_,?_,hR0,fun hnd=> ?_,fun j hj hl=> ?_,fun j p d hjp hl hd=> ?_,fun t ht=> ?_⟩
  ·by_cases e:j=i
   ·subst e;rw [if_pos rfl];obtain ⟨g,g1,g2,g3⟩:=hnv hn;exact ⟨g,g1,by omega,g3⟩
   ·rw [if_neg e];obtain ⟨g,g1,g2,g3⟩:=inv.news j hn hj ((hun j hl).resolve_left e);exact ⟨g,g1,g2,by omega⟩
  ·by_cases ex:x=i
   ·have ey:y≠i:=fun e=>hxy (by rw [ex,e])
    rw [if_pos ex,if_neg ey];obtain ⟨g,g1,g2,g3⟩:=inv.news y hy hyl ((hun y hy1).resolve_left ey);obtain ⟨k,k1,k2,k3⟩:=hnv (by rw [←ex];exact hx);rw [g1,k1];intro e;have:=Option.some.inj e;omega
   ·rw [if_neg ex];by_cases ey:y=i
    ·rw [if_pos ey];obtain ⟨g,g1,g2,g3⟩:=inv.news x hx hxl ((hun x hx1).resolve_left ex);obtain ⟨k,k1,k2,k3⟩:=hnv (by rw [←ey];exact hy);rw [g1,k1];intro e;have:=Option.some.inj e;omega
    ·rw [if_neg ey];exact inv.diff x y hx hy hxl hyl ((hun x hx1).resolve_left ex) ((hun y hy1).resolve_left ey) hxy
  ·rw [bQ his,decide_eq_false (by omega),Bool.false_or];exact inv.tail j hj hjl
  ·have hold:m<l.length∧listed.getD m true=true:=by
    rcases hun k hk.2 with e|e
    ·subst e;unfold bF at hw;rw [h2] at hw;exact ⟨by have:=(hlt m hw).1;omega,(hlt m hw).2⟩
    ·exact inv.shut k m ⟨hk.1,e⟩ hw
   exact ⟨hold.1,by rw [bQ his,hold.2,Bool.or_true]⟩
  ·rw [←inv.defers];unfold Act.put;cases o.dst<;>rfl
  ·have e:i≠d:=fun e=>hnd ⟨by omega,by rw [bQ his,decide_eq_true e];rfl⟩
   exact htr1 _ _ _ (hrel1 (fun h=>hnd ⟨h.1,by rw [bQ his,h.2,Bool.or_true]⟩)) (hr1 e)
  ·by_cases e:j=i
   ·subst e;rw [if_pos rfl];exact hv
   ·rw [if_neg e];have hpj:=inv.posts j hj ((hun j hl).resolve_left e);by_cases ei:i=d
    ·exact hst _ _ _ _ (fun ej=>e (by omega)) hpj hr
    ·exact hst1 _ _ _ _ hpj (hr1 ei)
  ·by_cases e:j=i
   ·subst e;obtain rfl:o=p:=Option.some.inj (h2.symm.trans hjp);rw [if_pos rfl];have hs:(a.put o.dst v).tmps=a.tmps.setIfInBounds d v:=by unfold Act.put;rw [hd]
    have ha:(a.tmps[d]?).isSome=(a0.tmps[d]?).isSome:=by
     have h7:=inv.rest d (fun i' o' hi' hl' e=>by
      have:=hok.once i' o' j o d hi' h2 hd e;subst this;rw [h1] at hl';cases hl')
     rw [h7]
    rw [hs,Array.getElem?_setIfInBounds,if_pos rfl];by_cases hsz:d<a.tmps.size
    ·rw [if_pos hsz];rw [Array.getElem?_eq_getElem hsz] at ha
     cases h8:a0.tmps[d]? with
     |none=>rw [h8] at ha;cases ha
     |some x=>rfl
    ·rw [if_neg hsz];rw [Array.getElem?_eq_none (Nat.le_of_not_lt hsz)] at ha
     cases h8:a0.tmps[d]? with
     |none=>rfl
     |some x=>rw [h8] at ha;cases ha
   ·rw [if_neg e,←inv.set j p d hjp ((hun j hl).resolve_left e) hd];unfold Act.put
    cases ho:o.dst with
    |none=>rfl
    |some d'=>exact Array.getElem?_setIfInBounds_ne (fun e'=>e (hok.once i o j p d h2 hjp hd (by rw [ho,e'])).symm)
  ·rw [←inv.rest t (fun j p hp hl=>ht j p hp (by rw [bQ his,hl,Bool.or_true]))];have h9:=ht i o h2 (by rw [bQ his,decide_eq_true rfl,Bool.true_or]);unfold Act.put
   cases ho:o.dst with
   |none=>rfl
   |some d'=>exact Array.getElem?_setIfInBounds_ne (fun e'=>h9 (by rw [ho,e']))
 have hleast:∀(listed:Array Bool),listed.size=l.length→∀j,j<n→listed.getD j true=false→∃i,i<n∧i∈Region.ready .any l.toArray listed:=by
  intro listed hsz j
  induction j using Nat.strongRecOn with
  |_ j ih=>
   intro hj hl;have hjl:j<l.length:=by omega
   by_cases hex:∃i,i<j∧listed.getD i true=false
   ·obtain ⟨i,hij,hi⟩:=hex;exact ih i hij (by omega) hi
   ·refine ⟨j,hj,mem_ready.2 ⟨hl,l[j],by rw [hget];exact List.getElem?_eq_getElem hjl,fun e he hb=> ?_⟩⟩;have h1:=hok.back j l[j] (List.getElem?_eq_getElem hjl) e he hb
    cases h2:listed.getD e.on true with
    |false=>exact absurd ⟨e.on,h1,h2⟩ hex
    |true=>
     have h3:e.on<listed.size:=by rw [hsz];omega
     rw [Array.getD_eq_getD_getElem?,Array.getElem?_eq_getElem h3] at h2 ⊢;exact h2
 intro f
 induction f with
 |zero=>
  intro listed vs a w hf inv;refine hfin listed vs a w inv (fun j hj=> ?_)
  cases hl:listed.getD j true with
  |true=>rfl
  |false=>
   have:j∈pI n listed:=List.mem_filter.2 ⟨List.mem_range.2 hj,by rw [hl];rfl⟩;rw [List.length_eq_zero_iff.1 hf] at this
   cases this
 |succ f ih=>
  intro listed vs a w hf inv;obtain ⟨j,hj⟩:=List.exists_mem_of_length_pos (show 0<(pI n listed).length by omega);obtain ⟨hj1,hj2⟩:=List.mem_filter.1 hj;have hjn:=List.mem_range.1 hj1;have hjl:listed.getD j true=false:=by simpa using hj2
  obtain ⟨i0,hi0,hi1⟩:=hleast listed inv.size j hjn hjl;rw [show f+1+(l.length-n)=(f+(l.length-n))+1 by omega];refine ⟨fun h0=>(by rw [h0] at hi1;cases hi1),fun i hi=> ?_⟩;have hin:i<n:=by
   rcases Nat.lt_or_ge i n with h|h
   ·exact h
   ·obtain ⟨h1,o,h2,h3⟩:=mem_ready.1 hi;rw [hget] at h2;have hil:i<l.length:=(List.getElem?_eq_some_iff.1 h2).1;have h7:=hsk (fun m=>m<l.length∧listed.getD m true=true) i h hil (fun k m=>inv.shut k m) (fun k hk=>by
     unfold bF at hk;rw [h2] at hk;unfold cz at hk;obtain ⟨e,he,hb⟩:=Array.any_eq_true'.1 hk;rw [Bool.and_eq_true,beq_iff_eq] at hb;obtain ⟨hb,rfl⟩:=hb;have h8:=hok.back i o h2 e he hb;have h9:=h3 e he hb;have h10:e.on<listed.size:=by rw [inv.size];omega
     refine ⟨by omega,?_⟩;rw [Array.getD_eq_getD_getElem?,Array.getElem?_eq_getElem h10] at h9 ⊢;exact h9) j hjn
    rw [hjl] at h7
    cases h7.2
  refine hW1 _ _ _ _ _ ?_ (hstep listed vs a w i inv hin hi);rintro a' w' ⟨vs',inv'⟩;obtain ⟨h1,_⟩:=mem_ready.1 hi;have h2:i<listed.size:=by rw [inv.size];omega
  have h3:i∈pI n listed:=List.mem_filter.2 ⟨List.mem_range.2 hin,by rw [h1];rfl⟩;exact ih _ vs' a' w' (by have:=wJ h2 h3;omega) inv'
theorem dY {id:Nat} {Q:Exit→Act→World→Prop} {a:Act} {w:World} {l:List Oper} (n d:Nat) (R R1:World→World→Prop) (Ps:Nat→Value→World→Prop) (nw:Nat→Bool) (hm:P.follows .mixedOrders=true) (h1:fd l=true) (h2:dQ l=true)
  (hn:n≤l.length) (hsk:mg l n) (hsq:Region.seqB .any l.toArray (l.length-n) n (eY l.length n)=true)
  (hrf:∀w,R1 w w) (h1r:∀w w',R1 w w'→R w w') (htr1:∀w1 w2 w3,R1 w1 w2→R1 w2 w3→R1 w1 w3) (htrA:∀w1 w2 w3,R w1 w2→R1 w2 w3→R w1 w3) (htrB:∀w1 w2 w3,R1 w1 w2→R w2 w3→R w1 w3) (hst1:∀j v w w',Ps j v w→R1 w w'→Ps j v w') (hst:∀j v w w',j≠d→Ps j v w→R w w'→Ps j v w') (hz:∀w w',R w w'→w.heap.size≤w'.heap.size)
  (h:∀F:(Nat→Value)→Act,(F=fun vs=>{a with tmps:=aS vs 0 (l.take n) a.tmps})→dO P (bF l d) F w.drew d R R1 Ps nw 0 (l.take n)∧∀vs w',R w.drew w'→(∀j,j<n→Ps j (vs j) w')→(∀j,nw j=true→j<n→nj w.drew w' (vs j))→(∀i j,nw i=true→nw j=true→i<n→j<n→i≠j→dA (vs i)≠dA (vs j))→wpList P l.toArray Q (l.drop n) (F vs) w'):
  (Code.region id l.toArray true).wp P Q a w:=by
 obtain ⟨hops,hend⟩:=h _ rfl;refine wp_region_any hm ?_;have hrep:∀j,(Array.replicate l.toArray.size false).getD j true=true→¬j<l.length:=fun j hl hj=>by
  have h3:(Array.replicate l.toArray.size false).getD j true=false:=getD_in (by simpa using hj) (getD_replicate_false _ _);rw [h3] at hl;cases hl
 have hu:(pI n (Array.replicate l.toArray.size false)).length=n:=by
  unfold pI;rw [List.filter_eq_self.2 (fun j hj=> ?_),List.length_range];have:=List.mem_range.1 hj
  cases hl:(Array.replicate l.toArray.size false).getD j true with
  |false=>rfl
  |true=>exact absurd (show j<l.length by omega) (hrep j hl)
 have hs:l.toArray.size=n+(l.length-n):=by simp;omega
 have hok:=jP h1 h2;have hdl:(l.drop n).length=l.length-n:=by simp
 have:=kV (W1:=wpOp P l.toArray Q) (nw:=nw) (d:=d) (R:=R) (R1:=R1) (a0:=a) (w0:=w.drew) (Q:=Q) hok (fun i K K' a w h h2=>wpOp_mono h h2) (fun i o a w post ho hp=>by
  unfold wpOp;simp only [show l.toArray[i]? =some o by simpa using ho];rw [if_pos (by unfold Region.wanted;rw [hok.guard i o ho])];exact .inl hp.wp) hn hsk h1r htr1 htrA htrB hst1 hst hz hops (fun vs w' q1 q2 q3 q4=> ?_) n (Array.replicate l.toArray.size false) (fun _=>undef) a w.drew hu ⟨fun j _ hj hl=>absurd (show j<l.length by omega) (hrep j hl),fun i j _ _ hi _ hl _ _=>absurd (show i<l.length by omega) (hrep i hl),by simp,fun j _ hj=> ?_,fun k i hk=>absurd hk.1 (hrep k hk.2),rfl,h1r _ _ (hrf _),fun _=>hrf _,fun j hj hl=>absurd (show j<l.length by omega) (hrep j hl),fun j o d hj hl _=>absurd (List.getElem?_eq_some_iff.1 hj).1 (hrep j hl),fun t _=>rfl⟩
 ·rw [←hs] at this;exact pZ _ _ _ _ this
 ·refine qL _ _ _ _ ?_;rw [←hdl];exact wpAny_of_seq (l.drop n) n _ _ w' (fun j=>by simp [List.getElem?_drop]) (by rw [hdl];exact hsq) (hend vs w' q1 q2 q3 q4)
 ·cases hl:(Array.replicate l.toArray.size false).getD j true with
  |false=>rfl
  |true=>exact absurd hj (hrep j hl)
theorem nL {l:List Oper} {n:Nat} (h3:(decide (n≤l.length)&&nJ l n&&Region.seqB .any l.toArray (l.length-n) n (eY l.length n))=true):n≤l.length∧mg l n∧Region.seqB .any l.toArray (l.length-n) n (eY l.length n)=true:=by
 rw [Bool.and_eq_true,Bool.and_eq_true,decide_eq_true_eq] at h3;exact ⟨h3.1.1,nK h3.1.2,h3.2⟩
def lp (P:Program) (F:(Nat→Value)→Act) (w0:World) (R:World→World→Prop) (Ps:Nat→Value→World→Prop) (nw:Nat→Bool):Nat→List Oper→Prop
 |_,[]=>True
 |k,o::l=>(∀vs w,R w0 w→(∀j,cz o j=true→Ps j (vs j) w)→(∀i j,nw i=true→nw j=true→cz o i=true→cz o j=true→i≠j→dA (vs i)≠dA (vs j))→bZ P (F vs).eval o w (fun v w'=>Ps k v w'∧R w w'∧(nw k=true→nj w w' v)))∧lp P F w0 R Ps nw (k+1) l
theorem mo {wd:Nat→Bool} {F:(Nat→Value)→Act} {w0:World}:∀{l:List Oper} {k:Nat} (d:Nat),lp P F w0 R Ps nw k l→dO P wd F w0 d R R Ps nw k l
 |[],_,_,_=>trivial
 |o::l,k,d,h=>⟨fun vs w h1 _ h2 h3=>by
   have:=h.1 vs w h1 h2 h3
   cases (k==d)<;>exact this,mo d h.2⟩
theorem lR {id:Nat} {Q:Exit→Act→World→Prop} {a:Act} {w:World} {l:List Oper} (n:Nat) (R:World→World→Prop) (Ps:Nat→Value→World→Prop) (nw:Nat→Bool) (hm:P.follows .mixedOrders=true) (h1:fd l=true) (h2:dQ l=true)
  (h3:(decide (n≤l.length)&&nJ l n&&Region.seqB .any l.toArray (l.length-n) n (eY l.length n))=true)
  (hrf:∀w,R w w) (htr:∀w1 w2 w3,R w1 w2→R w2 w3→R w1 w3) (hst:∀j v w w',Ps j v w→R w w'→Ps j v w') (hz:∀w w',R w w'→w.heap.size≤w'.heap.size)
  (h:∀F:(Nat→Value)→Act,(F=fun vs=>{a with tmps:=aS vs 0 (l.take n) a.tmps})→lp P F w.drew R Ps nw 0 (l.take n)∧∀vs w',R w.drew w'→(∀j,j<n→Ps j (vs j) w')→(∀j,nw j=true→j<n→nj w.drew w' (vs j))→(∀i j,nw i=true→nw j=true→i<n→j<n→i≠j→dA (vs i)≠dA (vs j))→wpList P l.toArray Q (l.drop n) (F vs) w'):
  (Code.region id l.toArray true).wp P Q a w:=
 let ⟨hn,hsk,hsq⟩:=nL h3
 dY n n R R Ps nw hm h1 h2 hn hsk hsq hrf (fun _ _ h=>h) htr htr htr hst (fun j v w w' _=>hst j v w w') hz (fun F hF=>⟨mo n (h F hF).1,(h F hF).2⟩)
def kY (R:World→World→Prop):List (Value→World→Prop)→Prop
 |[]=>True
 |p::l=>(∀v w w',p v w→R w w'→p v w')∧kY R l
def iq (ps:List (Value→World→Prop)) (j:Nat):Value→World→Prop:=ps.getD j (fun _ _=>True)
theorem fm {R:World→World→Prop}:∀{ps:List (Value→World→Prop)} (j:Nat),kY R ps→∀v w w',iq ps j v w→R w w'→iq ps j v w'
 |[],_,_,_,_,_,_,_=>trivial
 |_::_,0,h,v,w,w',hp,hr=>h.1 v w w' hp hr
 |_::_,j+1,h,v,w,w',hp,hr=>fm (R:=R) j h.2 v w w' hp hr
def qV (vs:Nat→Value) (w:World):Nat→List (Value→World→Prop)→Prop
 |_,[]=>True
 |k,p::l=>p (vs k) w∧qV vs w (k+1) l
theorem gn {vs:Nat→Value} {w:World}:∀(ps:List (Value→World→Prop)) (k:Nat),(∀j,j<ps.length→iq ps j (vs (k+j)) w)→qV vs w k ps
 |[],_,_=>trivial
 |p::l,k,h=>⟨h 0 (Nat.zero_lt_succ _),gn l (k+1) (fun j hj=>by
   have:=h (j+1) (Nat.succ_lt_succ hj);rw [show k+(j+1)=k+1+j by omega] at this;exact this)⟩
theorem bv {id:Nat} {Q:Exit→Act→World→Prop} {a:Act} {w:World} {l:List Oper} (n:Nat) (R:World→World→Prop) (ps:List (Value→World→Prop)) (nw:Nat→Bool) (hm:P.follows .mixedOrders=true) (h1:fd l=true) (h2:dQ l=true)
  (h3:(decide (n≤l.length)&&nJ l n&&Region.seqB .any l.toArray (l.length-n) n (eY l.length n))=true) (hl:ps.length=n)
  (hrf:∀w,R w w) (htr:∀w1 w2 w3,R w1 w2→R w2 w3→R w1 w3) (hz:∀w w',R w w'→w.heap.size≤w'.heap.size) (hst:kY R ps)
  (h:∀F:(Nat→Value)→Act,(F=fun vs=>{a with tmps:=aS vs 0 (l.take n) a.tmps})→lp P F w.drew R (iq ps) nw 0 (l.take n)∧∀vs w',R w.drew w'→qV vs w' 0 ps→(∀i j,nw i=true→nw j=true→i<n→j<n→i≠j→dA (vs i)≠dA (vs j))→wpList P l.toArray Q (l.drop n) (F vs) w'):
  (Code.region id l.toArray true).wp P Q a w:=by
 refine lR n R (iq ps) nw hm h1 h2 h3 hrf htr (fun j=>fm j hst) hz (fun F hF=> ?_);obtain ⟨q1,q2⟩:=h F hF;refine ⟨q1,fun vs w' hr hp _ hd=>q2 vs w' hr (gn ps 0 (fun j hj=> ?_)) hd⟩;rw [Nat.zero_add];exact hp j (by omega)
def nP (R:World→World→Prop) (d:Nat):Nat→List (Value→World→Prop)→Prop
 |_,[]=>True
 |k,p::l=>((k==d)=true∨∀v w w',p v w→R w w'→p v w')∧nP R d (k+1) l
theorem gP {R:World→World→Prop} {d:Nat}:∀{ps:List (Value→World→Prop)} (k j:Nat),nP R d k ps→k+j≠d→∀v w w',iq ps j v w→R w w'→iq ps j v w'
 |[],_,_,_,_,_,_,_,_,_=>trivial
 |_::_,k,0,h,hd,v,w,w',hp,hr=>by
  rcases h.1 with h1|h1
  ·exact absurd (beq_iff_eq.1 h1) hd
  ·exact h1 v w w' hp hr
 |_::_,k,j+1,h,hd,v,w,w',hp,hr=>gP (R:=R) (d:=d) (k+1) j h.2 (by omega) v w w' hp hr
theorem bp {id:Nat} {Q:Exit→Act→World→Prop} {a:Act} {w:World} {l:List Oper} (n d:Nat) (R R1:World→World→Prop) (ps:List (Value→World→Prop)) (nw:Nat→Bool) (hm:P.follows .mixedOrders=true) (h1:fd l=true) (h2:dQ l=true)
  (h3:(decide (n≤l.length)&&nJ l n&&Region.seqB .any l.toArray (l.length-n) n (eY l.length n))=true) (hl:ps.length=n)
  (hrf:∀w,R1 w w) (h1r:∀w w',R1 w w'→R w w') (htr1:∀w1 w2 w3,R1 w1 w2→R1 w2 w3→R1 w1 w3) (htrA:∀w1 w2 w3,R w1 w2→R1 w2 w3→R w1 w3) (htrB:∀w1 w2 w3,R1 w1 w2→R w2 w3→R w1 w3) (hz:∀w w',R w w'→w.heap.size≤w'.heap.size) (hst1:kY R1 ps) (hst:nP R d 0 ps)
  (h:∀F:(Nat→Value)→Act,(F=fun vs=>{a with tmps:=aS vs 0 (l.take n) a.tmps})→dO P (bF l d) F w.drew d R R1 (iq ps) nw 0 (l.take n)∧∀vs w',R w.drew w'→qV vs w' 0 ps→(∀i j,nw i=true→nw j=true→i<n→j<n→i≠j→dA (vs i)≠dA (vs j))→wpList P l.toArray Q (l.drop n) (F vs) w'):
  (Code.region id l.toArray true).wp P Q a w:=by
 obtain ⟨hn,hsk,hsq⟩:=nL h3;refine dY n d R R1 (iq ps) nw hm h1 h2 hn hsk hsq hrf h1r htr1 htrA htrB (fun j=>fm j hst1) (fun j v w w' hj hp hr=>gP 0 j hst (by omega) v w w' hp hr) hz (fun F hF=> ?_);obtain ⟨q1,q2⟩:=h F hF;refine ⟨q1,fun vs w' hr hp _ hd=>q2 vs w' hr (gn ps 0 (fun j hj=> ?_)) hd⟩;rw [Nat.zero_add];exact hp j (by omega)
theorem jR {id:Nat} {Q:Exit→Act→World→Prop} {a:Act} {w:World} {l:List Oper} (n d:Nat) (R R1:World→World→Prop) (ps:List (Value→World→Prop)) (nw:Nat→Bool) (hm:P.follows .mixedOrders=true) (h1:fd l=true) (h2:dQ l=true)
  (h3:(decide (n≤l.length)&&wZ l n&&Region.seqB .any l.toArray (l.length-n) n (eY l.length n))=true) (hl:ps.length=n)
  (hrf:∀w,R1 w w) (h1r:∀w w',R1 w w'→R w w') (htr1:∀w1 w2 w3,R1 w1 w2→R1 w2 w3→R1 w1 w3) (htrA:∀w1 w2 w3,R w1 w2→R1 w2 w3→R w1 w3) (htrB:∀w1 w2 w3,R1 w1 w2→R w2 w3→R w1 w3) (hz:∀w w',R w w'→w.heap.size≤w'.heap.size) (hst1:kY R1 ps) (hst:nP R d 0 ps)
  (h:∀F:(Nat→Value)→Act,(F=fun vs=>{a with tmps:=aS vs 0 (l.take n) a.tmps})→dO P (bF l d) F w.drew d R R1 (iq ps) nw 0 (l.take n)∧∀vs w',R w.drew w'→qV vs w' 0 ps→(∀i j,nw i=true→nw j=true→i<n→j<n→i≠j→dA (vs i)≠dA (vs j))→wpList P l.toArray Q (l.drop n) (F vs) w'):
  (Code.region id l.toArray true).wp P Q a w:=by
 rw [Bool.and_eq_true,Bool.and_eq_true,decide_eq_true_eq] at h3;refine dY n d R R1 (iq ps) nw hm h1 h2 h3.1.1 (nI h3.1.2) h3.2 hrf h1r htr1 htrA htrB (fun j=>fm j hst1) (fun j v w w' hj hp hr=>gP 0 j hst (by omega) v w w' hp hr) hz (fun F hF=> ?_);obtain ⟨q1,q2⟩:=h F hF;refine ⟨q1,fun vs w' hr hp _ hd=>q2 vs w' hr (gn ps 0 (fun j hj=> ?_)) hd⟩;rw [Nat.zero_add];exact hp j (by omega)
end
section
variable {b:Nat} {h:Hp} {c:Cf} {A:AG} {rs:List Nat} {φ L:Nat→Nat} {Ba u ub:Nat} {cy:Option Nat} {n:Nat} {ns bs:Int} {S T X q:Nat→Prop} {w w' w'':World}
theorem fU.ended {y:Nat} (hw:fU q h c A rs φ L Ba u ub (some y) 0 ns bs S w) (hf:Fr (fun k=>k=h.b) w w') {ns' bs':Int} (hb:fT w' h.b c h.m h.rb ub none ns' bs'):∃L' S',fU (fun _=>True) h c A rs φ L' Ba u ub none 0 ns' bs' S' w'∧∀k,S' k→S k:=by
 obtain ⟨hk,cc,s,hf',hg,Mv,fr,ah,q1,⟨Us,qu,q2⟩,r1,r2,r3,r4,r5,r6,r7,r8⟩:=hw.mem;obtain ⟨Hg,Sm,mp,M,fw,k,p1,p2,p3,p4,p5⟩:=q2;obtain ⟨e1,e2,e3,e4,e5,e6,e7,e8,e9⟩:=hw.e;obtain ⟨d1,d2⟩:=p2.done q1.ok q1.top1;have hP:=q1.ok.P1;rw [r3] at d1 d2;rw [r4,r6] at d2;have hm:=p1.mem;rw [r2,r4,r6] at hm;have htop:=hw.half.top;have hfit:=hw.fits;have hpg:=hw.cok.page2;refine ⟨M,Sm,⟨hw.cok,hb,hw.roots.frame hf (Ne.symm e1) (Ne.symm e2),ak.frame hw.reg hf (Ne.symm e3),an hw.tab hf (Ne.symm e6),hw.laid.congr (fun k h1 h2=>d1 k h1 h2),hw.Sl,hw.fits,hw.half,⟨rfl,Us,Hg,mp,⟨M,hm.frame hf (fun k hk e=>(hw.d k ((p5 k).2 (.inl hk))).1 e),fun _ _=>rfl⟩,fun k=> ?_⟩,fun k hk=>hw.d k ((p5 k).2 (.inl hk)),hw.e⟩,fun k hk=>(p5 k).2 (.inl hk)⟩;have hlow:=q1.low1;rw [r3] at hlow;rcases Nat.lt_or_ge k (c.W/c.Pg) with h1|h1
 ·exact d2 k h1 hlow
 ·rw [hm.off h1];have h2:c.W≤k*c.Pg:=by
   have h3:=Nat.mul_le_mul_right c.Pg h1;have h4:c.W/c.Pg*c.Pg=c.W:=by have:=Nat.div_add_mod c.W c.Pg;rw [hw.cok.Wp] at this;rw [Nat.mul_comm];omega
   omega
  rw [decide_eq_false (show¬k*c.Pg<Ba+u by omega),Bool.and_false]
def lZ (b:Nat) (c:Cf) (A:AG) (rs:List Nat) (u n:Nat) (T:Nat→Prop) (w:World) (e:Ending) (w':World):Prop:=e= .returned (.tuple #[])∧∃T',b8 b c A rs u n T' w'∧Fr T w w'∧∀k,T' k→T k∨w.heap.size≤k
theorem lD (hi:vi b c A rs u n T w):Calls Tryz.prog 63 #[b] w (lZ b c A rs u n T w):=by
 obtain ⟨h,φ,L,Ba,ub,cy,ns,bs,S,rfl,hw,hT⟩:=hi
 cases cy with
 |none=>
  have HQ:Hid (lZ h.b c A rs u n T w (.returned (.tuple #[])) w):=ae ⟨rfl,T,⟨h,φ,L,Ba,ub,none,ns,bs,S,rfl,hw,hT,fun _=>rfl⟩,Fr.refl _ _,fun _ h=> .inl h⟩;have c11:w.cell? ⟨h.b,11,none⟩=some (.pointer none):=ak.cell hw.blk 11 rfl;generalize (lZ h.b c A rs u n T w)=Q at*;clear hw hT
  go_enter Tryz.func63,Tryz.ntmps63
  go_wp2;go_end0;exact HQ.out
 |some y=>
  have hbk:=hw.blk;have c11:w.cell? ⟨h.b,11,none⟩=some (.pointer (some ⟨y,0,none⟩)):=ak.cell hbk 11 rfl;have c12:w.cell? ⟨h.b,12,none⟩=some (.int .i64 ns):=ak.cell hbk 12 rfl;have c13:w.cell? ⟨h.b,13,none⟩=some (.int .i64 bs):=ak.cell hbk 13 rfl;have f11:=ak.free hbk 11;have f12:=ak.free hbk 12;have f13:=ak.free hbk 13;obtain ⟨cc,fr,ah,hy,hcb⟩:∃cc fr ah,cc.y=y∧sK w cc n fr ah:=by
   obtain ⟨hk,cc,s,hf',hg,Mv,fr,ah,q1,⟨Us,qu,q2⟩,r1,r2⟩:=hw.mem;exact ⟨cc,fr,ah,r1,(dZ.cells q1 q2.s).1⟩
  have HDN:=ae (sq hcb);have HBL:=ae (nG (show sK w.drew cc n fr ah from ak.frame hcb ((Fr.refl (fun _=>False) w).drew) (fun h=>h)));rw [hy] at HDN HBL;obtain ⟨NB,hNB⟩:∃NB,NB=cc.nb:=⟨_,rfl⟩;rw [←hNB] at HBL;clear hNB hcb;have HNO:Hid (n≠0→lZ h.b c A rs u n T w (.returned (.tuple #[])) w):=by
   show n≠0→_
   exact fun h0=>⟨rfl,T,⟨h,φ,L,Ba,ub,some y,ns,bs,S,rfl,hw,hT,fun e=>absurd e h0⟩,Fr.refl _ _,fun _ h=> .inl h⟩
  have HEN:Hid (n=0→∀w' ns' bs',Fr (fun k=>k=h.b) w w'→fT w' h.b c h.m h.rb ub none ns' bs'→lZ h.b c A rs u n T w (.returned (.tuple #[])) w'):=by
   show n=0→∀w' ns' bs',_
   rintro rfl w' ns' bs' hf hb2;obtain ⟨L',S',q1,q2⟩:=hw.ended hf hb2;exact ⟨rfl,_,⟨h,φ,L',Ba,ub,none,_,_,S',rfl,q1,fun k=>Iff.rfl,fun _=>rfl⟩,hf.mono (fun k hk=> .inl ((hT k).2 (.inr (.inl hk)))),fun k hk=> .inl ((hT k).2 (hk.imp (q2 k) id))⟩
  have HBK:=ae hbk;generalize (lZ h.b c A rs u n T w)=Q at*;generalize h.b=b at*;clear hw hT hbk hy;by_cases h0:n=0
  ·have HEN2:=ae (HEN.out h0);subst h0;clear HNO HEN;rw [decide_eq_true rfl] at HDN
   go_enter Tryz.func63,Tryz.ntmps63
   go_wp2_with fail
   refine (HDN.out).mono ?_;rintro e w2 ⟨rfl,rfl⟩;clear HDN;go_wp2;refine bv 12 (fun a b=>b=a) [fun v _=>v= .pointer (some ⟨b,0,none⟩),fun v _=>v= .pointer (some ⟨b,0,none⟩),fun v _=>v= .pointer (some ⟨b,13,none⟩),fun v _=>v= .int .i64 bs,fun v _=>v= .pointer (some ⟨b,0,none⟩),fun v _=>v= .pointer (some ⟨b,0,none⟩),fun v _=>v= .pointer (some ⟨b,11,none⟩),fun v _=>v= .pointer (some ⟨y,0,none⟩),fun v _=>v= .int .i64 NB,fun v _=>v= .int .i64 (IntKind.i64.wrap (bs+(NB:Int))),fun v _=>v= .pointer (some ⟨b,0,none⟩),fun v _=>v= .pointer (some ⟨b,13,none⟩)] (fun j=>false) (by kernel_rfl) (by kernel_rfl) (by kernel_rfl) (by kernel_rfl) rfl (fun _=>rfl) (fun _ _ _ h1 h2=>h2.trans h1) (fun _ _ h=>by rw [h];exact Nat.le_refl _) ⟨fun _ _ _ h _=>h,fun _ _ _ h _=>h,fun _ _ _ h _=>h,fun _ _ _ h _=>h,fun _ _ _ h _=>h,fun _ _ _ h _=>h,fun _ _ _ h _=>h,fun _ _ _ h _=>h,fun _ _ _ h _=>h,fun _ _ _ h _=>h,fun _ _ _ h _=>h,fun _ _ _ h _=>h,trivial⟩ ?_;intro F hF;simp only [aS,List.take_succ_cons,List.take_zero,aa,ab,ac] at hF;subst hF;refine ⟨⟨fun vs w1 hw hd hx=> ?_,fun vs w1 hw hd hx=> ?_,fun vs w1 hw hd hx=> ?_,fun vs w1 hw hd hx=> ?_,fun vs w1 hw hd hx=> ?_,fun vs w1 hw hd hx=> ?_,fun vs w1 hw hd hx=> ?_,fun vs w1 hw hd hx=> ?_,fun vs w1 hw hd hx=> ?_,fun vs w1 hw hd hx=> ?_,fun vs w1 hw hd hx=> ?_,fun vs w1 hw hd hx=> ?_,trivial⟩,?_⟩
   ·refine ai (.pointer (some ⟨b,0,none⟩)) ?_ ⟨rfl,rfl,fun h=>nomatch h⟩;go_simp
   ·have h0:vs 0= .pointer (some ⟨b,0,none⟩):=hd 0 (by kernel_rfl);refine ai (.pointer (some ⟨b,0,none⟩)) ?_ ⟨rfl,rfl,fun h=>nomatch h⟩;go_simp
   ·have h1:vs 1= .pointer (some ⟨b,0,none⟩):=hd 1 (by kernel_rfl);refine ai (.pointer (some ⟨b,13,none⟩)) ?_ ⟨rfl,rfl,fun h=>nomatch h⟩;go_simp
   ·have h2:vs 2= .pointer (some ⟨b,13,none⟩):=hd 2 (by kernel_rfl);refine ai (.int .i64 bs) ?_ ⟨rfl,rfl,fun h=>nomatch h⟩;subst hw;go_simp
   ·refine ai (.pointer (some ⟨b,0,none⟩)) ?_ ⟨rfl,rfl,fun h=>nomatch h⟩;go_simp
   ·have h4:vs 4= .pointer (some ⟨b,0,none⟩):=hd 4 (by kernel_rfl);refine ai (.pointer (some ⟨b,0,none⟩)) ?_ ⟨rfl,rfl,fun h=>nomatch h⟩;go_simp
   ·have h5:vs 5= .pointer (some ⟨b,0,none⟩):=hd 5 (by kernel_rfl);refine ai (.pointer (some ⟨b,11,none⟩)) ?_ ⟨rfl,rfl,fun h=>nomatch h⟩;go_simp
   ·have h6:vs 6= .pointer (some ⟨b,11,none⟩):=hd 6 (by kernel_rfl);refine ai (.pointer (some ⟨y,0,none⟩)) ?_ ⟨rfl,rfl,fun h=>nomatch h⟩;subst hw;go_simp
   ·have h7:vs 7= .pointer (some ⟨y,0,none⟩):=hd 7 (by kernel_rfl);subst hw;refine ay 81 #[y] (by go_simp) ((HBL.out).mono ?_);rintro e w2 ⟨rfl,rfl⟩;exact ⟨_,rfl,rfl,rfl,fun h=>nomatch h⟩
   ·have h3:vs 3= .int .i64 bs:=hd 3 (by kernel_rfl);have h8:vs 8= .int .i64 NB:=hd 8 (by kernel_rfl);refine ai (.int .i64 (IntKind.i64.wrap (bs+(NB:Int)))) ?_ ⟨rfl,rfl,fun h=>nomatch h⟩;go_simp
   ·have h0:vs 0= .pointer (some ⟨b,0,none⟩):=hd 0 (by kernel_rfl);refine ai (.pointer (some ⟨b,0,none⟩)) ?_ ⟨rfl,rfl,fun h=>nomatch h⟩;go_simp
   ·have h10:vs 10= .pointer (some ⟨b,0,none⟩):=hd 10 (by kernel_rfl);refine ai (.pointer (some ⟨b,13,none⟩)) ?_ ⟨rfl,rfl,fun h=>nomatch h⟩;go_simp
   intro vs w1 hw hp hx;obtain ⟨g0,g1,g2,g3,g4,g5,g6,g7,g8,g9,g10,g11,_⟩:=hp;simp only [g9,g11];subst hw;clear g0 g1 g2 g3 g4 g5 g6 g7 g8 g9 g10 g11 hx HBL;simp only [List.drop_succ_cons,List.drop_zero];go_wp2;go_end0;refine HEN2.out _ (wrap64 (ns+1)) (wrap64 (bs+(NB:Int))) ?_ ?_
   ·exact ((((Fr.refl (fun k=>k=b) w).setCell ⟨b,13,none⟩ (.inl rfl) _).setCell ⟨b,11,none⟩ (.inl rfl) _).setCell ⟨b,12,none⟩ (.inl rfl) _).drew
   ·exact ak.frame (((HBK.out.set 13 _).set 11 _).set 12 _) ((Fr.refl (fun _=>False) _).drew) (fun h=>h)
  ·have HQ:=ae (HNO.out h0);rw [decide_eq_false h0] at HDN;clear HNO HEN h0 HBL
   go_enter Tryz.func63,Tryz.ntmps63
   go_wp2_with fail
   refine (HDN.out).mono ?_;rintro e w2 ⟨rfl,rfl⟩;clear HDN;go_wp2;go_end0;exact HQ.out
end
section
variable {b:Nat} {h:Hp} {c:Cf} {A A':AG} {rs:List Nat} {φ L L':Nat→Nat} {Ba u ub:Nat} {cy:Option Nat} {n n':Nat} {ns bs:Int} {S S' T X q q':Nat→Prop} {w w' w'':World}
theorem fU.turn (hw:fU q h c A rs φ L Ba u ub cy n ns bs S w) (hf:Fr S w w') (hs:∀k,S' k→S k∨w.heap.size≤k) (hx:nZ c h.m Ba (Ba+u) q' L' S' w' cy n') (hl:aP A' rs φ L' Ba (Ba+u)):fU q' h c A' rs φ L' Ba u ub cy n' ns bs S' w':=by
 have d:=hw.d;have hlt:=hw.lt;have htl:aN<w.heap.size:=aE (hw.tab 0 0 rfl);refine ⟨hw.cok,ak.frame hw.blk hf (fun h=>(d _ h).1 rfl),hw.roots.frame hf (fun h=>(d _ h).2.1 rfl) (fun h=>(d _ h).2.2.1 rfl),ak.frame hw.reg hf (fun h=>(d _ h).2.2.2.1 rfl),an hw.tab hf (fun h=>(d _ h).2.2.2.2 rfl),hl,hw.Sl,hw.fits,hw.half,hx,fun k hk=> ?_,hw.e⟩;rcases hs k hk with h1|h1
 ·exact d k h1
 ·have h2:=hlt _ (.inr (.inl rfl));have h3:=hlt _ (.inr (.inr (.inl rfl)));have h4:=hlt _ (.inr (.inr (.inr (.inl rfl))));have h5:=hlt _ (.inr (.inr (.inr (.inr rfl))));omega
theorem gj.sub {hh:Hp} (hs:∀k,S' k→S k∨w.heap.size≤k):∀k,gj hh ub S' k→gj hh ub S k∨w.heap.size≤k:=by
 rintro k (h|h|h|h|h)
 ·exact (hs k h).imp .inl id
 ·exact .inl (.inr (.inl h))
 ·exact .inl (.inr (.inr (.inl h)))
 ·exact .inl (.inr (.inr (.inr (.inl h))))
 ·exact .inl (.inr (.inr (.inr (.inr h))))
def sX (b:Nat) (c:Cf) (A:AG) (rs:List Nat) (u n:Nat) (T:Nat→Prop) (w:World) (e:Ending) (w':World):Prop:=e= .returned (.bool (decide (n≠0)))∧∃T',b8 b c A rs u (n-1) T' w'∧Fr T w w'∧∀k,T' k→T k∨w.heap.size≤k
theorem mT (hi:b8 b c A rs u n T w):Calls Tryz.prog 17 #[b] w (sX b c A rs u n T w):=by
 obtain ⟨h,φ,L,Ba,ub,cy,ns,bs,S,rfl,hw,hT,hcy⟩:=hi;have HN:=ae (cI hw.blk)
 cases cy with
 |none=>
  have hn:n=0:=hw.mem.1;have HQ:Hid (sX h.b c A rs u n T w (.returned (.bool false)) w):=ae ⟨by rw [decide_eq_false (fun h=>h hn)],T,⟨h,φ,L,Ba,ub,none,ns,bs,S,rfl,by rw [hn] at hw ⊢;exact hw,hT,fun _=>rfl⟩,Fr.refl _ _,fun _ h=> .inl h⟩;have c11:w.cell? ⟨h.b,11,none⟩=some (.pointer none):=ak.cell hw.blk 11 rfl;generalize (sX h.b c A rs u n T w)=Q at*;clear hw hT hcy hn
  go_enter Tryz.func17,Tryz.ntmps17
  go_wp2_with fail
  refine (HN.out).mono ?_;rintro e w1 ⟨rfl,rfl⟩;clear HN;go_wp2;exact HQ.out
 |some y=>
  have hn:n≠0:=fun h0=>by cases hcy h0
  have c11:w.cell? ⟨h.b,11,none⟩=some (.pointer (some ⟨y,0,none⟩)):=ak.cell hw.blk 11 rfl;obtain ⟨hk,cc,s,hf',hg,Mv,fr,ah,q1,⟨Us,qu,q2⟩,r1,r2,r3,r4,r5,r6,r7,r8⟩:=id hw.mem;have HS:=ae (nO q1 q2.s hn);rw [r1] at HS;have HQ:Hid (∀e w1,pW cc s hf' hg c.Fs (Ba+u) Mv n fr L S w e w1→e= .returned (.tuple #[.bool true,.int .i64 0])∧∃T1,vi h.b c A rs u (n-1) T1 w1∧Fr T w w1∧∀k,T1 k→T k∨w.heap.size≤k):=by
   show∀e w1,_
   rintro e w1 ⟨rfl,fr',ah',S',p1,p2,p3,p4⟩;refine ⟨rfl,gj h ub S',⟨h,φ,L,Ba,ub,some y,ns,bs,S',rfl,hw.turn p3 p4 ⟨hk,cc,s,hf',hg,_,fr',ah',q1,let ⟨us,hu⟩:=p1.su;⟨us,trivial,hu⟩,r1,r2,r3,r4,r5,r6,r7,r8⟩ hw.laid,fun k=>Iff.rfl⟩,p3.mono (fun k hk=> .inl ((hT k).2 (.inl hk))),fun k hk=>(gj.sub p4 k hk).imp (hT k).2 id⟩
  have HE:=ae (fun T1 w1 (hj:vi h.b c A rs u (n-1) T1 w1)=>lD hj);have HF:Hid (∀T1 w1 e w2,Fr T w w1→(∀k,T1 k→T k∨w.heap.size≤k)→lZ h.b c A rs u (n-1) T1 w1 e w2→e= .returned (.tuple #[])∧sX h.b c A rs u n T w (.returned (.bool true)) w2):=by
   show∀T1 w1 e w2,_
   rintro T1 w1 e w2 g1 g2 ⟨rfl,T2,g3,g4,g5⟩;have hz:=g1.size;exact ⟨rfl,by rw [decide_eq_true hn],T2,g3,g1.trans g4 g2,fun k hk=>by
    rcases g5 k hk with h|h
    ·exact g2 k h
    ·exact .inr (by omega)⟩
  have hd1:¬n=0:=hn;clear q1 q2 r1 r2 r3 r4 r5 r6 r7 r8 hw hT hcy hk qu hn hd1;generalize h.b=b at*;generalize (sX b c A rs u n T w)=Q at*
  go_enter Tryz.func17,Tryz.ntmps17
  go_wp2_with fail
  refine (HN.out).mono ?_;rintro e w1 ⟨rfl,rfl⟩;clear HN;go_wp2_with fail
  refine (HS.out).mono ?_;intro e w1 hp;obtain ⟨rfl,T1,g1,g2,g3⟩:=HQ.out _ _ hp;have HE1:=ae (HE.out T1 w1 g1);have HF1:=ae (fun e w2 hh=>HF.out T1 w1 e w2 g2 g3 hh);clear hp g1 g2 g3 HS HQ HE HF c11;go_wp2_with fail
  refine (HE1.out).mono ?_;intro e w2 hp;obtain ⟨rfl,hq⟩:=HF1.out _ _ hp;have H:=ae hq;clear hp hq HE1 HF1;go_wp2;exact H.out
def sS (b:Nat) (c:Cf) (A:AG) (rs:List Nat) (u:Nat) (T:Nat→Prop) (w:World) (e:Ending) (w':World):Prop:=e= .returned (.tuple #[])∧∃T',b8 b c A rs u 0 T' w'∧Fr T w w'∧∀k,T' k→T k∨w.heap.size≤k
def ep (b:Nat) (c:Cf) (A:AG) (rs:List Nat) (u n:Nat) (T:Nat→Prop) (w w':World):Prop:=∃T',b8 b c A rs u n T' w'∧Fr T w w'∧∀k,T' k→T k∨w.heap.size≤k
theorem ep.step (h1:ep b c A rs u n T w w') (h2:∀T',b8 b c A rs u n T' w'→∃T'',b8 b c A' rs u n' T'' w''∧Fr T' w' w''∧∀k,T'' k→T' k∨w'.heap.size≤k):ep b c A' rs u n' T w w'':=by
 obtain ⟨T',q1,q2,q3⟩:=h1;obtain ⟨T'',r1,r2,r3⟩:=h2 T' q1;have hz:=q2.size;exact ⟨T'',r1,q2.trans r2 q3,fun k hk=>by
  rcases r3 k hk with h|h
  ·exact q3 k h
  ·exact .inr (by omega)⟩
theorem fW (hi:b8 b c A rs u n T w):Calls Tryz.prog 70 #[b] w (sS b c A rs u T w):=by
 have H0:=ae (show ep b c A rs u n T w w from ⟨T,hi,Fr.refl _ _,fun _ h=> .inl h⟩);have HST:=ae (fun n w1 (hh:ep b c A rs u n T w w1)=>(show Calls Tryz.prog 17 #[b] w1 fun e w2=>e= .returned (.bool (decide (n≠0)))∧ep b c A rs u (n-1) T w w2 from by
  obtain ⟨T',q1,q2,q3⟩:=hh;refine (mT q1).mono ?_;rintro e w2 ⟨rfl,T'',r1,r2,r3⟩;have hz:=q2.size;exact ⟨rfl,T'',r1,q2.trans r2 q3,fun k hk=>by
   rcases r3 k hk with h|h
   ·exact q3 k h
   ·exact .inr (by omega)⟩))
 have HEN:Hid (∀w1,ep b c A rs u 0 T w w1→sS b c A rs u T w (.returned (.tuple #[])) w1):=ae (fun w1 hh=>⟨rfl,hh⟩);clear hi;generalize (sS b c A rs u T w)=Q at*
 go_enter Tryz.func70,Tryz.ntmps70
 go_wp2
 go_loopw [] (fun wr=>∃n,Hid (ep b c A rs u n T w wr)) (fun wr=>dE (fun n=>ep b c A rs u n T w wr))
 case atStart=>exact ⟨n,H0⟩
 case round=>
  clear H0;obtain ⟨m,hm⟩:=hrel;obtain ⟨hr,_⟩:=bS (P:=fun n=>ep b c A rs u n T w wr) hm.out;clear hm;generalize hm0:dE (fun n=>ep b c A rs u n T w wr)=m0 at hr;have HM0:=ae hm0;have HS:=ae (HST.out m0 wr hr);have HZ:Hid (m0=0→ep b c A rs u 0 T w wr):=ae (fun e=>by rw [←e];exact hr);clear hm0 hr HZ;by_cases h0:m0=0
  ·have HS0:=HS;rw [h0,decide_eq_false (fun h=>h rfl)] at HS0;clear HST HS h0;go_wp2_with fail
   refine (HS0.out).mono ?_;rintro e w2 ⟨rfl,hq⟩;have H:=ae (HEN.out w2 hq);clear hq HS0 HEN;go_wp2;go_end0;exact H.out
  ·rw [decide_eq_true h0] at HS;clear HST;go_wp2_with fail
   refine (HS.out).mono ?_;rintro e w2 ⟨rfl,hq⟩;have H:=ae hq;clear hq HS HEN;go_wp2;go_roundw
   case rel=>exact ⟨m0-1,H⟩
   case measure=>exact Nat.lt_of_le_of_lt (bS (P:=fun n=>ep b c A rs u n T w w2) H.out).2 (by omega)
end
end Go.Proofs.YthahbijbpinneaaGreatDoor
