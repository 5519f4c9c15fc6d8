import Derived.Test.YtgnoapadkncphaaGreatDoorA1
import Derived.Test.YtgnoapadkncphaaGreatDoorA3
import Derived.Test.YtgnoapadkncphaaGreatDoorA4
import Derived.Test.YtgnoapadkncphaaGreatDoorA6
import Derived.Test.YtgnoapadkncphaaGreatDoorA7
import Derived.Deep.RegionHeld3
import Derived.OrdersIn
import Derived.TacticsIn
set_option maxRecDepth 100000
set_option maxHeartbeats 8000000
set_option linter.all false
namespace Go.Proofs.YtgnoapadkncphaaGreatDoor
open Go.RowKit Go.Proofs.Tryz
theorem lK{P:Program}{fn:Func}{p q:Tmp}{c d:TypeId}{v u:Value}(h:fn.results= #[.cell p c,.cell q d])(tmps:Array Value)(w:World)(a b:Addr)(hp:tmps.getD p undef= .pointer (some a))(i:tmps.getD q undef= .pointer (some b))(f:(loadVar c a).run P w= .ok v w)(g:(loadVar d b).run P w= .ok u w):
  (results fn tmps).run P w= .ok (.tuple #[v,u]) w:=by
 have e:(results fn tmps).run P w=((asAddr (tmps.getD p undef)).run P w).andThen fun a w1=>((loadVar c a).run P w1).andThen fun v w2=>((asAddr (tmps.getD q undef)).run P w2).andThen fun b w3=>((loadVar d b).run P w3).andThen fun u w4=> .ok (.tuple #[v,u]) w4:=by
  simp_all [results]
 simp_all [asAddr]
theorem DV{w:World}{a:Addr}{x:Int}(h:w.cell? a=some (x:Int)):(loadVar 3 a).run prog w= .ok (.int .i64 x) w:=by
 go_simp
theorem rF{w:World}{a:Addr}{x:Int}(h:w.cell? a=some (x:Int)):(loadVar 29 a).run prog w= .ok (.int .i64 x) w:=by
 go_simp
theorem nj{P:Program}{c:Code}{Q:Exit->Act->World->Prop}{a:Act}{w:World}(h:c.wp P (fun e a w=>match e with| .normal=>Q .normal a w|_=>False) a w):c.wp P Q a w:=
 wp_mono h (fun e a w h=>by grind)
section
variable{m b g Pg W Fs Us Hg:Nat}{S:Nat->Prop}{mp:Nat->Bool}{L:Nat->Nat}{ls:List Nat}{G:Gr}{w:World}
def JE(m Pg W Fs Us Hg:Nat)(mp:Nat->Bool)(L:Nat->Nat)(S:Nat->Prop)(G:Gr)(ls:List Nat)(w:World)(e:Ending)(w':World):Prop:=
 ∃(E:Nat->Nat) (S':Nat->Prop),e= .returned (.tuple #[(((Qc (aw E) 0 W:Nat):Int):Int),(0:Int)])/\dJ m Pg W Fs Us Hg mp L S' w'/\(∀k,S' k->S k\/w.heap.size<=k)/\(∀a,E a≠0↔Reach G ls a)/\fz G ls E/\Fr S w w'
def JS(m Pg W Fs Us Hg:Nat)(mp:Nat->Bool)(L:Nat->Nat)(S:Nat->Prop)(EL:bT)(G:Gr)(ls:List Nat)(wx w3:World)(st:jl):Prop:=
 ∃S',dJ m Pg W Fs Us Hg mp L S' w3/\(∀k,S' k->S k\/wx.heap.size<=k)/\eo w3 EL W st.E/\fz G ls st.E/\st.nw=Qc (aw st.E) 0 W/\(∀a,st.E a≠0↔Reach G ls a)/\Fr (fun k=>S k\/EL.has k) wx w3
theorem DO{EL:bT}{w2:World}{Rm Tp:Nat}(F:dJ m Pg W Fs Us Hg mp L S w)(B:ee w)(p:¬S ch)(A:gd G ls Tp)(K:∀a,G.size a≠0->jJ L (cX W Pg mp) G a)(f:Tp<=W)(I:1<=Rm)(J:Rm<=4096)(hf:J7 w w2)(D:eo w2 EL W (fun _=>0))(hn:∀k,EL.has k->w.heap.size<k)(R:ls.length<=64)
  (j:Nat) (N:j<w2.heap.size):
  ∀(d:World) (_:J7 w2 d) (l z:Nat) (_:w2.heap.size<=l) (_:l<d.heap.size) (_:∀(i a:Nat),ls[i]? =some a->d.cell? ⟨l,i,none⟩=some (a:Int)),Calls prog 124 #[.iface 52 (.pointer (some ⟨m,0,none⟩)),.slice (some l) ls.length z,EL.m,(Rm:Int)] d fun e w3=>
   ∃(n:jl) (r u:Int),e= .returned (.tuple #[.agg #[((n.no:Int):Int),((n.nw:Int):Int),(r:Int),(u:Int)],(0:Int)])/\(∀q cs t,w2.heap.size<=q->ay d q cs t->ay w3 q cs t)/\(∀v,¬S j->¬EL.has j->d.cell? ⟨j,5,none⟩=some v->w3.cell? ⟨j,5,none⟩=some v)/\JS m Pg W Fs Us Hg mp L S EL G ls d w3 n:=by
 intro d H l z r1 r2 r3;have c:=bR m Pg W Fs Us Hg mp;have T:=c.lt _ _ _ F;have o:=hf.trans H J8;have hz:=hf.size;have U:ch<w.heap.size:=bu (B 0 0 rfl);have O:=D.lt;refine (nG (w:=d) (Rm:=Rm) c (c.Qb F o) A f K I J (D.frame H (fun _ _ h=>h)) (aE B o id) (fun k P=>⟨fun h=>by grind,fun e=>p (e▸P)⟩) (fun h=>by grind) l z ⟨r2,fun h=>by grind,fun h=>by grind⟩ r3 (by omega)).mono ?_;rintro e w3 ⟨n,r,u,S',rfl,Y,Z,q3,x,q5,y⟩;refine ⟨n,r,u,rfl,fun q cs t hq M=>M.frame y (fun h=> ?_),fun v V X C=> ?_,S',Y,Z,q3,x.marked,?_,q5,y⟩
 ·grind
 ·exact (World.cell?_of_block (w:=d) (w':=w3) (a:=⟨j,5,none⟩) (y.block _ (bu C) (fun h=>h.elim V X))).trans C
 ·rw [x.nw,bp (aw n.E) (ao Tp) f,bP (a:=Tp) (b:=W) (fun i h1 _=>by
   rw [bt];intro Q;obtain ⟨s,s1,s2⟩:=cE.1 Q;have h6:=(x.marked s (by omega)).2;have:=A.top s (by omega);omega),aP]
def JK(m Pg W Fs Us Hg:Nat)(mp:Nat->Bool)(L:Nat->Nat)(S:Nat->Prop)(EL:bT)(G:Gr)(ls:List Nat)(w2:World)(sb:Nat)(st:jl)(wx:World):Prop:=
 w2.heap.size<=sb/\(∃nr nv:Int,ay wx sb [((st.no:Int):Int),((st.nw:Int):Int),(nr:Int),(nv:Int)] 188)/\∃S',dJ m Pg W Fs Us Hg mp L S' wx/\(∀k,S' k->S k\/w2.heap.size<=k)/\eo wx EL W st.E/\fz G ls st.E/\st.nw=Qc (aw st.E) 0 W/\(∀a,st.E a≠0↔Reach G ls a)/\Fr (fun k=>S k\/EL.has k) w2 wx
theorem Ag{EL:bT}{w2 i w4:World}{a:jl}{c d:Int}(h:JS m Pg W Fs Us Hg mp L S EL G ls i w4 a)(e:J7 w2 i):JK m Pg W Fs Us Hg mp L S EL G ls w2 w4.heap.size a (w4.alloc (.cells #[((a.no:Int):Int),((a.nw:Int):Int),(c:Int),(d:Int)] 188)):=by
 obtain ⟨S',n,o,p,q,r,s,f⟩:=h;have t:=e.size;have l:=f.size;have hf:J7 w4 (w4.alloc (.cells #[((a.no:Int):Int),((a.nw:Int):Int),(c:Int),(d:Int)] 188)):=(Kb _ w4).alloc _;exact ⟨by omega,⟨c,d,ay.new w4 _ _⟩,S',(bR m Pg W Fs Us Hg mp).Qb n hf,fun k j=>(o k j).imp id (fun h=>by omega),p.frame hf (fun _ _ h=>h),q,r,s,((e.mono J8).trans f (fun k h=> .inl h)).trans hf J8⟩
theorem qH{EL:bT}{w2 i w4:World}{a:jl}{d f:Int}{sb:Nat}(h:JS m Pg W Fs Us Hg mp L S EL G ls i w4 a)(j:J7 w2 i)(q:∀k,S k->k<w2.heap.size)(p:∀k,EL.has k->k<w2.heap.size)(n:w2.heap.size<=sb)(z:sb<i.heap.size)(o:ay w4 sb [(0:Int),(0:Int),(0:Int),(0:Int)] 188):
  JK m Pg W Fs Us Hg mp L S EL G ls w2 sb a ((((w4.setCell sb (.int .i64 (a.no:Int))).setCell ⟨sb,1,none⟩ (.int .i64 (a.nw:Int))).setCell ⟨sb,2,none⟩ (.int .i64 d)).setCell ⟨sb,3,none⟩ (.int .i64 f)):=by
 obtain ⟨S',s,t,u,v,x,y,l⟩:=h;have A:=j.size;have r:=l.size;have hf:Fr (fun k=>k=sb) w4 ((((w4.setCell sb (.int .i64 (a.no:Int))).setCell ⟨sb,1,none⟩ (.int .i64 (a.nw:Int))).setCell ⟨sb,2,none⟩ (.int .i64 d)).setCell ⟨sb,3,none⟩ (.int .i64 f)):=
  ((((Kb (fun k=>k=sb) w4).setCell sb (.inl rfl) _).setCell ⟨sb,1,none⟩ (.inl rfl) _).setCell ⟨sb,2,none⟩ (.inl rfl) _).setCell ⟨sb,3,none⟩ (.inl rfl) _
 refine ⟨n,⟨d,f,(((o.set 0 _).set 1 _).set 2 _).set 3 _⟩,S',(cD m Pg W Fs Us Hg mp) _ _ _ _ _ s hf (fun k c e=> ?_),fun k c=>(t k c).imp id (fun h=>by omega),u.frame hf (fun k c e=>by grind),v,x,y,((j.mono J8).trans l (fun k h=> .inl h)).trans hf (fun k h=> .inr (by omega))⟩
 grind
def Fq(EL:bT)(tb W cb:Nat)(cs:List Value)(E:Nat->Nat)(_:List (Nat×Nat))(S:Nat->Prop)(w:World):Prop:=sN EL tb W E w/\ay w cb cs 113/\∀k,¬S k
theorem Fq.stays{EL:bT}{tb c B:Nat}{cs:List Value}{E:Nat->Nat}(n:∀k,EL.has k->k<B)(o:tb<B)(p:c<B)(q:ch<B):gm B (Fq EL tb W c cs E):=by
 rintro d S W1 l T ⟨⟨e,f,h⟩,i,j⟩ hf r;exact ⟨⟨e.frame hf (fun k s a=>by grind),aE f hf (fun a=>by grind [ch]),h.frame hf (fun a=>by grind)⟩,i.frame hf (fun a=>by grind),j⟩
attribute [local go_sem] Oper.semAt_some
theorem Cb(d:Nat)(hi:dJ m Pg W Fs Us Hg mp L S w)(hr:cz w b g ls)(hT:ee w)(bn:¬S ch)(F Tp T r B Rm O:Nat)(hc:nU Pg W F Tp T r B Rm O)(hG:gd G ls Tp)(hO:∀a,G.size a≠0->jJ L (cX W Pg mp) G a)(bC:∀a,G.size a≠0->F<=a)(b8:1<=ls.length)(aA:Tp-F<=r-T):
  CallsIn Fence.wide d prog 147 #[m,b,ic F Tp T r B Rm O] w (JE m Pg W Fs Us Hg mp L S G ls w):=by
 refine callsIn_of_wp_marks func147 rfl trivial ?_ rfl;simp only [ntmps147,du,bG,cB,Nat.reduceAdd,Nat.reduceSub,cK,cJ,dv,cU,dz,dH];have bX:Hid (∀F Tp T r B q O:Nat,ic F Tp T r B q O= .agg #[(F:Int),(Tp:Int),(T:Int),(r:Int),(B:Int),(q:Int),(O:Int)]):=by
  show∀F Tp T r B q O:Nat,_
  intros;rfl
 have am:=bR m Pg W Fs Us Hg mp;obtain ⟨e1,e2,e3,e4,e5,e6,e7,e8,b5⟩:=hi.choose_spec.1.at;clear e1 e2 e4 e5 e6 e7 e8;have bE:=am.lt _ _ _ hi;have bD:=hr.small;obtain ⟨W1,A⟩:∃W1,((w.alloc (.cells #[(F:Int),(Tp:Int),(T:Int),(r:Int),(B:Int),(Rm:Int),(O:Int)] 113)).alloc (.cells #[(0:Int)] 3)).alloc (.cells #[(0:Int)] 29)=W1:=⟨_,rfl⟩;have al:J7 w W1:=by rw [<-A];exact (((Kb _ w).alloc _).alloc _).alloc _
 have z:Hid (W1.heap.size=w.heap.size+3):=by
  show _=_
  rw [<-A,World.size_alloc,World.size_alloc,World.size_alloc]
 have v:ay W1 w.heap.size [(F:Int),(Tp:Int),(T:Int),(r:Int),(B:Int),(Rm:Int),(O:Int)] 113:=by rw [<-A];exact ((ay.new w _ _).alloc _).alloc _
 have az:ay W1 (w.heap.size+1) [(0:Int)] 3/\ay W1 (w.heap.size+1+1) [(0:Int)] 29:=by
  rw [<-A];refine ⟨?_,?_⟩
  ·have:=(ay.new (w.alloc (.cells #[(F:Int),(Tp:Int),(T:Int),(r:Int),(B:Int),(Rm:Int),(O:Int)] 113)) [(0:Int)] 3).alloc (.cells #[(0:Int)] 29);rwa [World.size_alloc] at this
  ·have:=ay.new ((w.alloc (.cells #[(F:Int),(Tp:Int),(T:Int),(r:Int),(B:Int),(Rm:Int),(O:Int)] 113)).alloc (.cells #[(0:Int)] 3)) [(0:Int)] 29;rwa [World.size_alloc,World.size_alloc] at this
 have R:=ae az;clear az;have aX:=hr.frame al id id;have bg:=ae (ra aX);have aG:=ae (sV (hi.choose_spec.1.Qb al) hc);unfold ic at aG;unfold ic;have cl:¬(ls.length:Int)=0:=by omega
 have Z:=ae al;have bk:=ae aX;have bl:=ae (aE hT al id);have bN:=ae v;have j:=ae (af hi (af hr (af hT (af bn (af hc (af hG (af hO (af bC (af aA (af am (af bE bD)))))))))));have cc:W<=1048576:=by omega
 obtain ⟨k0,k1,k2,k3,k4,k5,k6,_⟩:=Kg v;clear hi hr hT bn hc hG hO bC b8 aA am bE bD al v aX bX e3;gi_wp2;clear A;refine dZ (bg.out.mono ?_);rintro e w' ⟨rfl,rfl⟩;clear bg;gi_wp2;refine dZ (aG.out.mono ?_);rintro e w1 ⟨rfl,aT⟩;clear aG k0 k1 k2 k3 k4 k5 k6;have y:=ae aT;have bm:=ae (gR (j.out.1.choose_spec.1.Qb (Z.out.trans aT J8)));clear aT;gi_wp2;refine dZ (bm.out.mono ?_);rintro e w' ⟨rfl,rfl⟩;have bj:=ae (oJ W b5 cc w1);clear bm;gi_wp2;refine dZ (bj.out.mono ?_);rintro e w2 ⟨EL,rfl,he,hn,hf⟩;clear bj;have Y:=ae (af he (af hn hf));have c:=y.out.trans hf J8;have bc:=ae (bN.out.frame c id);have U:=ae (fun w' (hf:J7 w2 w')=>(bc.out.frame hf id).cell 5 rfl);have bb:=ae (fun w' (hf:J7 w2 w')=>ol ((bk.out.frame c id id).frame hf id id));have aI:=ae (DO (EL:=EL) (w2:=w2) (Rm:=Rm) (G:=G) (ls:=ls) (Tp:=Tp) j.out.1 j.out.2.2.1 j.out.2.2.2.1 j.out.2.2.2.2.2.1 j.out.2.2.2.2.2.2.1 j.out.2.2.2.2.1.F3 j.out.2.2.2.2.1.s1 j.out.2.2.2.2.1.s2 ((Z.out).trans c J8) he (fun k p=>by have P:=hn k p;have h2:W1.heap.size=w.heap.size+3:=z.out;have h3:=y.out.size;omega) (j.out.2.2.2.2.2.2.2.2.2.2.2) w.heap.size (by have P:W1.heap.size=w.heap.size+3:=z.out;have h2:=c.size;omega));have V:=ae ((Kb (fun _=>False) w2).drew);have X:=ae (fun o=>((Kb (fun _=>False) w2).alloc o).drew);have u:=ae (show (∀k,S k->k<w2.heap.size)/\(∀k,EL.has k->k<w2.heap.size)/\w2.heap.size≥w.heap.size+3 from ⟨fun k p=>by have P:k<w.heap.size:=j.out.2.2.2.2.2.2.2.2.2.2.1 k p;have h2:=Z.out.size;have h3:=c.size;omega,fun k p=>he.lt k p,by have h2:W1.heap.size=w.heap.size+3:=z.out;have h3:=c.size;omega⟩);have bi:Hid (w2.heap.size≠w.heap.size):=ae (by have P:=bu (U.out w2 (Kb _ _));exact fy P);have N:=ae (show¬S w.heap.size/\¬EL.has w.heap.size from af (fun h=>by have P:w.heap.size<w.heap.size:=j.out.2.2.2.2.2.2.2.2.2.2.1 _ h;omega) (fun h=>by have P:=hn _ h;have h2:W1.heap.size=w.heap.size+3:=z.out;have h3:=y.out.size;omega));clear he hn hf c;gi_wp2;refine wpIn_wide.2 ?_
 go_cut [11,12] from 15 to 69 (fun cf cg wx=>∃(sb:Nat) (q:jl),cf= .pointer (some ⟨sb,0,none⟩)/\cg= .int .i64 0/\Hid (JK m Pg W Fs Us Hg mp L S EL G ls w2 sb q wx))
 case first=>
  refine nj ?_
  go_region_held3 (fun w'=>w'.cell? ⟨w.heap.size,5,none⟩=some (.int .i64 Rm)) (with_reducible first
   |assumption
   |exact U.out _ V.out
   |exact U.out _ (X.out _)
   |(refine (World.cell?_alloc_lt _ _ _ (World.block_lt_of_cell? _ _ (by assumption))).trans (by assumption))
   |((iterate 4 (refine (World.cell?_setCell_far _ _ _ _ (by first|exact fy (World.block_lt_of_cell? _ _ C)|exact kV (World.block_lt_of_cell? _ _ C)|exact fy (World.block_lt_of_cell? _ _ ak)|exact kV (World.block_lt_of_cell? _ _ ak)|exact bi.out)).trans ?_));assumption)) (first
   |(go_at_call 125;refine (bb.out _ (by with_reducible first|exact V.out|exact X.out _)).mono ?_;rintro e w3 ⟨rb,rc,rfl,r1,r2,r3,av⟩;(have J:J7 w2 w3:=by with_reducible first|exact V.out.trans av J8|exact (X.out _).trans av J8);(have bM:w2.heap.size<=rb:=by with_reducible first|exact aH V.out.size r1|exact aH (X.out _).size r1);have C:=U.out w3 J;(try (have bv:ay w3 w2.heap.size [(0:Int),(0:Int),(0:Int),(0:Int)] 188:=ay.frame (by with_reducible exact ay.drew (ay.new w2 _ _)) av id));clear av r1)
   |(go_at_call 124;with_reducible refine (aI.out w3 J rb rc bM r2 r3).mono ?_;rintro e w4 ⟨q,nr,nv,rfl,aW,aj,ax⟩;have ak:=aj _ N.out.1 N.out.2 C;(try (have f:=aW _ _ _ (ag _) bv;obtain ⟨k0,k1,k2,k3,_⟩:=Kd f;have l0:=f.free 0;have l1:=f.free 1;have l2:=f.free 2;have l3:=f.free 3));clear aj)
   |(go_at_call 124;refine (aI.out (w3.alloc _) (J.alloc _) rb rc bM (by rw [World.size_alloc];omega) (fun i a ha=>(World.cell?_alloc_lt _ _ _ (World.block_lt_of_cell? _ _ (r3 i a ha))).trans (r3 i a ha))).mono ?_;rintro e w4 ⟨q,nr,nv,rfl,aW,aj,ax⟩;have ak:=aj _ N.out.1 N.out.2 ((World.cell?_alloc_lt _ _ _ (World.block_lt_of_cell? _ _ C)).trans C);have f:=aW _ _ _ J.size (ay.new w3 [(0:Int),(0:Int),(0:Int),(0:Int)] 188);obtain ⟨k0,k1,k2,k3,_⟩:=Kd f;have l0:=f.free 0;have l1:=f.free 1;have l2:=f.free 2;have l3:=f.free 3;clear aj))
  ·go_wp2;go_meet
   case rel=>exact ⟨_,q,rfl,rfl,ae (Ag ax J)⟩
  ·go_wp2;go_meet
   case rel=>exact ⟨_,q,rfl,rfl,ae (qH ax (J.alloc _) u.out.1 u.out.2.1 J.size (by rw [World.size_alloc];omega) f)⟩
  ·go_wp2;go_meet
   case rel=>exact ⟨_,q,rfl,rfl,ae (qH ax J u.out.1 u.out.2.1 (ag _) bv.lt f)⟩
 case rest=>
  clear U bb aI V X bi;obtain ⟨sb,q,rfl,rfl,hm⟩:=hcut;obtain ⟨z1,⟨nr,nv,zb⟩,S',z2,z3,z4,z5,z6,z7,Q⟩:=hm.out;have bd:=ae (bc.out.frame Q (fun h=>h.elim N.out.1 N.out.2));have HA:=ae (jH EL.m wc);gi_wp2;refine dZ (HA.out.mono ?_);rintro e W7 ⟨rfl,ap⟩;have H:J7 wc W7:=by rw [ap];exact (Kb _ wc).alloc _
  have bH:ay W7 wc.heap.size [EL.m] 165:=by rw [ap];exact ay.new wc _ _
  have a0:W7.heap.size=wc.heap.size+1:=by rw [ap];exact aY _
  clear ap HA;obtain ⟨a1,a2,a3,a4,a5,a6,a7,a8,a9,bZ,b0,b1⟩:=j.out;obtain ⟨e1,e2,e3⟩:=Y.out;have c:=y.out.trans e3 J8;have cb:ch<w.heap.size:=bu (a3 0 0 rfl);have bo:ee W7:=aE (aE (aE bl.out c id) Q (fun h=>h.elim a4 (fun h=>by have h5:=e2 ch h;have h6:=y.out.size;have h7:W1.heap.size=w.heap.size+3:=z.out;omega))) H id;have aS:Fq EL wc.heap.size W w.heap.size [(F:Int),(Tp:Int),(T:Int),(r:Int),(B:Int),(Rm:Int),(O:Int)] q.E [] (fun _=>False) W7:=
   ⟨⟨z4.frame H (fun _ _ h=>h),bo,bH⟩,bd.out.frame H id,fun _ h=>h⟩
  have bK:=Q.size;have M:gm W7.heap.size (Fq EL wc.heap.size W w.heap.size [(F:Int),(Tp:Int),(T:Int),(r:Int),(B:Int),(Rm:Int),(O:Int)] q.E):=
   Fq.stays (fun k p=>by have:=u.out.2.1 k p;omega) (by omega) (by have:=u.out.2.2;omega) (by have:=u.out.2.2;omega)
  have aO:=ae (fun (s n:Nat) (ba:List (Nat×Nat)) (hx:(cj q.E W)[ba.length]? =some (s,n))=>(show F<=s/\s+n<=Tp/\Tp<=524288 from by
   obtain ⟨m1,m2,m3⟩:=dG.1 (ar hx);dsimp only at m1 m2 m3;have P:=z5 s m2;have h2:G.size s≠0:=by rw [<-P.2];exact m2
   exact ⟨a8 s h2,by rw [m3,P.2];exact a6.top s h2,by have:=a5.F3;have:=a1.choose_spec.1.at.2.2.1;omega⟩))
  have bF:=z4.small.2;have aR:=ae zb;have aN:=ae (af z1 (af z2 (af z3 (af z5 (af z6 (af z7 (af Q (af H (af a0 c)))))))));have ad:=ae (show q.nw<=r-T/\T<=r/\r<=524288 from by
   have P:=a5.T2;have h2:=a5.T3;have h3:=a1.choose_spec.1.at.2.2.1;refine ⟨?_,by omega,by omega⟩;have h4:Qc (aw q.E) 0 W<=Tp-F:=by
    rw [bp (aw q.E) (ao F) (aH a5.F2 a5.F3),bp (aw q.E) a5.F2 a5.F3,bP (a:=0) (b:=F) (fun i _ hi=>by
     rw [bt];intro hl;obtain ⟨s,s1,s2⟩:=cE.1 hl;have h6:=z5 s (by omega);have:=a8 s (by omega);omega),bP (a:=Tp) (b:=W) (fun i hi _=>by
     rw [bt];intro hl;obtain ⟨s,s1,s2⟩:=cE.1 hl;have h6:=z5 s (by omega);have:=a6.top s (by omega);omega),bq,aP]
    exact dA _ _ _
   omega)
  clear a1 a2 a3 a4 a5 a6 a7 a8 a9 bZ b0 b1 e1 e2 e3 cb bo bK z1 z2 z3 z4 z5 z6 z7 Q zb hm bH c;gi_wp2;refine iU (gf:=161) (lb:= #[wc.heap.size]) rfl (enters_of func161 (by kernel_rfl) rfl) (encs:=mX) (fun _=>rfl) (jI (L:=EL) (tb:=wc.heap.size) (E:=q.E) bF) (Fq EL wc.heap.size W w.heap.size [(F:Int),(Tp:Int),(T:Int),(r:Int),(B:Int),(Rm:Int),(O:Int)] q.E) (fun _=>False) M (fun _ _ _ h=>h.1) J8 aS
   ?a1 ?assign ?body ?done
  case assign=>
   intro k x W K hK;unfold mX;gi_wp2;exact hK
  case body=>
   intro l ba S9 x W9 hI aB hf hs;obtain ⟨s,n⟩:=x;obtain ⟨o1,o2,o3⟩:=aO.out s n ba aB;have k0:=hI.2.1.cell 0 rfl;have k1:=hI.2.1.cell 1 rfl;have d1:decide ((s:Int)<(F:Int))=false:=by rw [decide_eq_false_iff_not];omega
   have d2:decide ((Tp:Int)<(s:Int)+(n:Int))=false:=by rw [decide_eq_false_iff_not];omega
   have cd:IntKind.i64.wrap ((s:Int)+(n:Int))=(s:Int)+(n:Int):=by rw [IntKind.wrap_i64];omega
   have HI:=ae hI;clear hI aB hf hs aS M aO aN aR ad j Y;gi_wp2;exact ⟨S9,HI.out,Kb _ _,fun _ h=> .inl h⟩
  case done=>
   intro D S9 W9 hI hD b3 b4 bw b9;obtain ⟨z1,z2,z3,z5,z6,z7,Q,H,a0,c⟩:=aN.out;obtain ⟨n1,n2,n3⟩:=ad.out;have t:=H.trans bw J8;have bL:=aR.out.frame t id;have ca:=u.out;have I:¬(S (w.heap.size+1)\/EL.has (w.heap.size+1))/\¬(S (w.heap.size+1+1)\/EL.has (w.heap.size+1+1)):=by
    have P:=j.out.2.2.2.2.2.2.2.2.2.2.1;have h2:=Y.out.2.1;have h3:=y.out.size;have h4:W1.heap.size=w.heap.size+3:=z.out;refine ⟨fun h=> ?_,fun h=> ?_⟩
    ·rcases h with h|h
     ·have:=P _ h;omega
     ·have:=h2 _ h;omega
    ·rcases h with h|h
     ·have:=P _ h;omega
     ·have:=h2 _ h;omega
   have b6:=((R.out.1.frame c id).frame Q I.1).frame t id;have b7:=((R.out.2.frame c id).frame Q I.2).frame t id;have k2:=hI.2.1.cell 2 rfl;have k3:=hI.2.1.cell 3 rfl;have s1:=bL.cell 1 rfl;have c6:=b6.cell 0 rfl;have c7:=b7.cell 0 rfl;have f6:=b6.free 0;have f7:=b7.free 0;have aC:w.heap.size+1≠sb/\w.heap.size+1+1≠sb/\w.heap.size+1≠w.heap.size+1+1:=by omega
   have cd:IntKind.i64.wrap ((r:Int)-(T:Int))=(r:Int)-(T:Int):=by rw [IntKind.wrap_i64];omega
   have d1:decide ((r:Int)-(T:Int)<(q.nw:Int))=false:=by rw [decide_eq_false_iff_not];omega
   have be:Hid (∀w',Fr (fun k=>k=w.heap.size+1\/k=w.heap.size+1+1\/k=D) W9 w'->JE m Pg W Fs Us Hg mp L S G ls w (.returned (.tuple #[((q.nw:Int):Int),(0:Int)])) w'):=by
    show∀w',_
    intro w' bB;have cn:=Q.size;have ci:=c.size;have h4:W1.heap.size=w.heap.size+3:=z.out;have bs:Fr S w w':=by
     have q1:Fr S w w2:=(Z.out.mono J8).trans c J8;have q2:Fr S w wc:=q1.trans Q (fun k p=>by
      rcases p with p|p
      ·exact .inl p
      ·have:=Y.out.2.1 k p;have:=y.out.size;exact .inr (by omega))
     have q3:Fr S w W9:=q2.trans t J8;exact q3.trans bB (fun k p=>by rcases p with rfl|rfl|rfl<;>exact .inr (by omega))
    refine ⟨q.E,S',by rw [z6],(cD m Pg W Fs Us Hg mp) _ _ _ _ _ ((bR m Pg W Fs Us Hg mp).Qb z2 t) bB (fun k p h=> ?_),fun k p=>(z3 k p).imp id (fun h=>by omega),z7,z5,bs⟩;have ck:=(bR m Pg W Fs Us Hg mp).lt _ _ _ z2 k p;have cm:=H.size;rcases h with rfl|rfl|rfl
    ·rcases z3 _ p with h|h
     ·exact I.1 (.inl h)
     ·omega
    ·rcases z3 _ p with h|h
     ·exact I.2 (.inl h)
     ·omega
    ·omega
   have HD:=ae hD;have an:=ae (show D≠w.heap.size+1/\D≠w.heap.size+1+1 from by have:=Q.size;omega);have bO:=ae b6;have bS:=ae b7;clear hI hD b3 b4 bw b9 z1 z2 z3 z5 z6 z7 Q H a0 c n1 n2 n3 t bL ca I b6 b7 aS M aO aN aR ad j Y bd R Z y bk bl u z;gi_wp2;obtain ⟨Wf,aq⟩:∃Wf,(W9.setCell ⟨w.heap.size+1,0,none⟩ (.int .i64 (q.nw:Int))).setCell ⟨w.heap.size+1+1,0,none⟩ (.int .i64 0)=Wf:=⟨_,rfl⟩;rw [aq];have bx:Fr (fun k=>k=w.heap.size+1\/k=w.heap.size+1+1) W9 Wf:=by
    rw [<-aq];exact ((Kb _ W9).setCell ⟨w.heap.size+1,0,none⟩ (.inl (.inl rfl)) _).setCell ⟨w.heap.size+1+1,0,none⟩ (.inl (.inr rfl)) _
   have h6:ay Wf (w.heap.size+1) [((q.nw:Int):Int)] 3:=by
    rw [<-aq];exact (bO.out.set 0 _).Qg _ _ aC.2.2
   have h7:ay Wf (w.heap.size+1+1) [(0:Int)] 29:=by
    rw [<-aq];exact (bS.out.Qg _ _ (Ne.symm aC.2.2)).set 0 _
   have b2:Wf.heap[D]? =some (.deferred (some [])):=bx.heap HD.out (fun h=>h.elim an.out.1 an.out.2);have aU:Fr (fun k=>k=D) Wf (Wf.putObj D (.deferred none)):=(Kb _ Wf).putObj _ _ (.inl rfl);refine ⟨by simp,.inl ⟨_,_,rfl,run_takeDeferred b2,?_⟩⟩;refine ⟨_,lK rfl _ _ ⟨w.heap.size+1,0,none⟩ ⟨w.heap.size+1+1,0,none⟩ rfl rfl (DV ((h6.frame aU (Ne.symm an.out.1)).cell 0 rfl)) (rF ((h7.frame aU (Ne.symm an.out.2)).cell 0 rfl)),?_⟩;exact be.out _ ((bx.mono (fun k p=> .inl (p.elim .inl (fun h=> .inr (.inl h))))).trans aU (fun k p=> .inl (.inr (.inr p))))
end
theorem DW{w:World}{a:Addr}{x:Option Addr}(h:w.cell? a=some (.pointer x)):(loadVar 165 a).run prog w= .ok (.pointer x) w:=by
 go_simp
section
variable{m b g Pg W Fs Us Hg:Nat}{S:Nat->Prop}{mp:Nat->Bool}{L:Nat->Nat}{ls:List Nat}{G:Gr}{w:World}
attribute [local go_sem] Oper.semAt_some
theorem vh(d:Nat)(hi:dJ m Pg W Fs Us Hg mp L S w)(hr:cz w b g ls)(hT:ee w)(be:¬S ch)(F Tp T O B Rm P:Nat)(hc:nU Pg W F Tp T O B Rm P)(hG:gd G ls Tp)(hO:∀a,G.size a≠0->jJ L (cX W Pg mp) G a)(bm:∀a,G.size a≠0->F<=a):
  CallsIn Fence.wide d prog 108 #[m,b,ic F Tp T O B Rm P] w (JH m Pg W Fs Us Hg mp L S G ls w):=by
 refine callsIn_of_wp_marks func108 rfl trivial ?_ rfl;simp only [ntmps108,du,bG,cB,Nat.reduceAdd,Nat.reduceSub,cK,cJ,dv,cU,dz,dH];have bD:Hid (∀F Tp T O B J P:Nat,ic F Tp T O B J P= .agg #[(F:Int),(Tp:Int),(T:Int),(O:Int),(B:Int),(J:Int),(P:Int)]):=by
  show∀F Tp T O B J P:Nat,_
  intros;rfl
 have ak:=bR m Pg W Fs Us Hg mp;obtain ⟨e1,e2,e3,e4,e5,e6,e7,e8,bN⟩:=hi.choose_spec.1.at;clear e1 e2 e4 e5 e6 e7 e8;have bq:=ak.lt _ _ _ hi;have bo:=hr.small;obtain ⟨W1,z⟩:∃W1,((w.alloc (.cells #[(F:Int),(Tp:Int),(T:Int),(O:Int),(B:Int),(Rm:Int),(P:Int)] 113)).alloc (.cells #[.pointer none] 165)).alloc (.cells #[(0:Int)] 29)=W1:=⟨_,rfl⟩;have aj:J7 w W1:=by rw [<-z];exact (((Kb _ w).alloc _).alloc _).alloc _
 have y:Hid (W1.heap.size=w.heap.size+3):=by
  show _=_
  rw [<-z,World.size_alloc,World.size_alloc,World.size_alloc]
 have t:ay W1 w.heap.size [(F:Int),(Tp:Int),(T:Int),(O:Int),(B:Int),(Rm:Int),(P:Int)] 113:=by rw [<-z];exact ((ay.new w _ _).alloc _).alloc _
 have av:ay W1 (w.heap.size+1) [.pointer none] 165/\ay W1 (w.heap.size+1+1) [(0:Int)] 29:=by
  rw [<-z];refine ⟨?_,?_⟩
  ·have:=(ay.new (w.alloc (.cells #[(F:Int),(Tp:Int),(T:Int),(O:Int),(B:Int),(Rm:Int),(P:Int)] 113)) [.pointer none] 165).alloc (.cells #[(0:Int)] 29);rwa [World.size_alloc] at this
  ·have:=ay.new ((w.alloc (.cells #[(F:Int),(Tp:Int),(T:Int),(O:Int),(B:Int),(Rm:Int),(P:Int)] 113)).alloc (.cells #[.pointer none] 165)) [(0:Int)] 29;rwa [World.size_alloc,World.size_alloc] at this
 have U:=ae av;clear av;have bn:=hr.frame aj id id;have bd:=ae (gR (hi.choose_spec.1.Qb aj));unfold ic;have am:=ae aj;have bb:=ae bn;have bc:=ae (aE hT aj id);have bx:=ae t;have j:=ae (af hi (af hr (af hT (af be (af hc (af hG (af hO (af bm (af hc (af ak (af bq bo)))))))))));have bZ:W<=1048576:=by omega
 obtain ⟨k0,k1,k2,k3,k4,k5,k6,_⟩:=Kg t;clear hi hr hT be hc hG hO bm ak bq bo aj t bn bD e3 k0 k1 k2 k3 k4 k5 k6;gi_wp2;clear z;refine dZ (bd.out.mono ?_);rintro e w' ⟨rfl,rfl⟩;have ba:=ae (oJ W bN bZ W1);have v:=ae (Kb (fun _=>False) W1);clear bd;gi_wp2;refine dZ (ba.out.mono ?_);rintro e w2 ⟨EL,rfl,he,hn,hf⟩;clear ba;have u:=ae (af he (af hn hf));have c:=v.out.trans hf J8;have aU:=ae (bx.out.frame c id);have V:=ae (fun w' (hf:J7 w2 w')=>(aU.out.frame hf id).cell 5 rfl);have aT:=ae (fun w' (hf:J7 w2 w')=>ol ((bb.out.frame c id id).frame hf id id));have aA:=ae (DO (EL:=EL) (w2:=w2) (Rm:=Rm) (G:=G) (ls:=ls) (Tp:=Tp) j.out.1 j.out.2.2.1 j.out.2.2.2.1 j.out.2.2.2.2.2.1 j.out.2.2.2.2.2.2.1 j.out.2.2.2.2.1.F3 j.out.2.2.2.2.1.s1 j.out.2.2.2.2.1.s2 ((am.out).trans c J8) he (fun k p=>by have Q:=hn k p;have h2:W1.heap.size=w.heap.size+3:=y.out;have h3:=v.out.size;omega) (j.out.2.2.2.2.2.2.2.2.2.2.2) w.heap.size (by have Q:W1.heap.size=w.heap.size+3:=y.out;have h2:=c.size;omega));have X:=ae ((Kb (fun _=>False) w2).drew);have Y:=ae (fun o=>((Kb (fun _=>False) w2).alloc o).drew);have q:=ae (show (∀k,S k->k<w2.heap.size)/\(∀k,EL.has k->k<w2.heap.size)/\w2.heap.size≥w.heap.size+3 from ⟨fun k p=>by have Q:k<w.heap.size:=j.out.2.2.2.2.2.2.2.2.2.2.1 k p;have h2:=am.out.size;have h3:=c.size;omega,fun k p=>he.lt k p,by have h2:W1.heap.size=w.heap.size+3:=y.out;have h3:=c.size;omega⟩);have a0:Hid (w2.heap.size≠w.heap.size):=ae (by have Q:=bu (V.out w2 (Kb _ _));exact fy Q);have N:=ae (show¬S w.heap.size/\¬EL.has w.heap.size from af (fun h=>by have Q:w.heap.size<w.heap.size:=j.out.2.2.2.2.2.2.2.2.2.2.1 _ h;omega) (fun h=>by have Q:=hn _ h;have h2:W1.heap.size=w.heap.size+3:=y.out;have h3:=v.out.size;omega));clear he hn hf c;gi_wp2;refine wpIn_wide.2 ?_
 go_cut [10,11] from 14 to 50 (fun b1 b2 wx=>∃(sb:Nat) (J:jl),b1= .pointer (some ⟨sb,0,none⟩)/\b2= .int .i64 0/\Hid (JK m Pg W Fs Us Hg mp L S EL G ls w2 sb J wx))
 case first=>
  refine nj ?_
  go_region_held3 (fun w'=>w'.cell? ⟨w.heap.size,5,none⟩=some (.int .i64 Rm)) (with_reducible first
   |assumption
   |exact V.out _ X.out
   |exact V.out _ (Y.out _)
   |(refine (World.cell?_alloc_lt _ _ _ (World.block_lt_of_cell? _ _ (by assumption))).trans (by assumption))
   |((iterate 4 (refine (World.cell?_setCell_far _ _ _ _ (by first|exact fy (World.block_lt_of_cell? _ _ A)|exact kV (World.block_lt_of_cell? _ _ A)|exact fy (World.block_lt_of_cell? _ _ ad)|exact kV (World.block_lt_of_cell? _ _ ad)|exact a0.out)).trans ?_));assumption)) (first
   |(go_at_call 125;refine (aT.out _ (by with_reducible first|exact X.out|exact Y.out _)).mono ?_;rintro e w3 ⟨rb,rc,rfl,r1,r2,r3,ap⟩;(have I:J7 w2 w3:=by with_reducible first|exact X.out.trans ap J8|exact (Y.out _).trans ap J8);(have bw:w2.heap.size<=rb:=by with_reducible first|exact aH X.out.size r1|exact aH (Y.out _).size r1);have A:=V.out w3 I;(try (have bj:ay w3 w2.heap.size [(0:Int),(0:Int),(0:Int),(0:Int)] 188:=ay.frame (by with_reducible exact ay.drew (ay.new w2 _ _)) ap id));clear ap r1)
   |(go_at_call 124;with_reducible refine (aA.out w3 I rb rc bw r2 r3).mono ?_;rintro e w4 ⟨J,nr,nv,rfl,aP,Z,aq⟩;have ad:=Z _ N.out.1 N.out.2 A;(try (have f:=aP _ _ _ (ag _) bj;obtain ⟨k0,k1,k2,k3,_⟩:=Kd f;have l0:=f.free 0;have l1:=f.free 1;have l2:=f.free 2;have l3:=f.free 3));clear Z)
   |(go_at_call 124;refine (aA.out (w3.alloc _) (I.alloc _) rb rc bw (by rw [World.size_alloc];omega) (fun i a ha=>(World.cell?_alloc_lt _ _ _ (World.block_lt_of_cell? _ _ (r3 i a ha))).trans (r3 i a ha))).mono ?_;rintro e w4 ⟨J,nr,nv,rfl,aP,Z,aq⟩;have ad:=Z _ N.out.1 N.out.2 ((World.cell?_alloc_lt _ _ _ (World.block_lt_of_cell? _ _ A)).trans A);have f:=aP _ _ _ I.size (ay.new w3 [(0:Int),(0:Int),(0:Int),(0:Int)] 188);obtain ⟨k0,k1,k2,k3,_⟩:=Kd f;have l0:=f.free 0;have l1:=f.free 1;have l2:=f.free 2;have l3:=f.free 3;clear Z))
  ·go_wp2;go_meet
   case rel=>exact ⟨_,J,rfl,rfl,ae (Ag aq I)⟩
  ·go_wp2;go_meet
   case rel=>exact ⟨_,J,rfl,rfl,ae (qH aq (I.alloc _) q.out.1 q.out.2.1 I.size (by rw [World.size_alloc];omega) f)⟩
  ·go_wp2;go_meet
   case rel=>exact ⟨_,J,rfl,rfl,ae (qH aq I q.out.1 q.out.2.1 (ag _) bj.lt f)⟩
 case rest=>
  clear V aT aA X Y a0;obtain ⟨sb,J,rfl,rfl,hm⟩:=hcut;obtain ⟨z1,⟨nr,nv,zb⟩,S',z2,z3,z4,z5,z6,z7,R⟩:=hm.out;have aW:=ae (aU.out.frame R (fun h=>h.elim N.out.1 N.out.2));have HA:=ae (jH EL.m wc);gi_wp2;refine dZ (HA.out.mono ?_);rintro e W7 ⟨rfl,an⟩;have C:J7 wc W7:=by rw [an];exact (Kb _ wc).alloc _
  have bt:ay W7 wc.heap.size [EL.m] 165:=by rw [an];exact ay.new wc _ _
  have aR:W7.heap.size=wc.heap.size+1:=by rw [an];exact aY _
  clear an HA;obtain ⟨a1,a2,a3,a4,a5,a6,a7,a8,a9,bE,bF,bH⟩:=j.out;obtain ⟨e1,e2,e3⟩:=u.out;have c:=v.out.trans e3 J8;have bX:ch<w.heap.size:=bu (a3 0 0 rfl);have bg:ee W7:=aE (aE (aE bc.out c id) R (fun h=>h.elim a4 (fun h=>by have h5:=e2 ch h;have h6:=v.out.size;have h7:W1.heap.size=w.heap.size+3:=y.out;omega))) C id;have aI:Fq EL wc.heap.size W w.heap.size [(F:Int),(Tp:Int),(T:Int),(O:Int),(B:Int),(Rm:Int),(P:Int)] J.E [] (fun _=>False) W7:=
   ⟨⟨z4.frame C (fun _ _ h=>h),bg,bt⟩,aW.out.frame C id,fun _ h=>h⟩
  have bv:=R.size;have M:gm W7.heap.size (Fq EL wc.heap.size W w.heap.size [(F:Int),(Tp:Int),(T:Int),(O:Int),(B:Int),(Rm:Int),(P:Int)] J.E):=
   Fq.stays (fun k p=>by have:=q.out.2.1 k p;omega) (by omega) (by have:=q.out.2.2;omega) (by have:=q.out.2.2;omega)
  have aC:=ae (fun (s n:Nat) (aS:List (Nat×Nat)) (hx:(cj J.E W)[aS.length]? =some (s,n))=>(show F<=s/\s+n<=Tp/\Tp<=524288 from by
   obtain ⟨m1,m2,m3⟩:=dG.1 (ar hx);dsimp only at m1 m2 m3;have Q:=z5 s m2;have h2:G.size s≠0:=by rw [<-Q.2];exact m2
   exact ⟨a8 s h2,by rw [m3,Q.2];exact a6.top s h2,by have:=a5.F3;have:=a1.choose_spec.1.at.2.2.1;omega⟩))
  have bs:=z4.small.2;have aG:=ae zb;have aB:=ae (af z1 (af z2 (af z3 (af z5 (af z6 (af z7 (af R (af C (af aR c)))))))));clear a1 a2 a3 a4 a5 a6 a7 a8 a9 bE bF bH e1 e2 e3 bX bg bv z1 z2 z3 z4 z5 z6 z7 R zb hm bt c;gi_wp2;refine iU (gf:=161) (lb:= #[wc.heap.size]) rfl (enters_of func161 (by kernel_rfl) rfl) (encs:=mX) (fun _=>rfl) (jI (L:=EL) (tb:=wc.heap.size) (E:=J.E) bs) (Fq EL wc.heap.size W w.heap.size [(F:Int),(Tp:Int),(T:Int),(O:Int),(B:Int),(Rm:Int),(P:Int)] J.E) (fun _=>False) M (fun _ _ _ h=>h.1) J8 aI
   ?a1 ?assign ?body ?done
  case assign=>
   intro k x W K hK;unfold mX;gi_wp2;exact hK
  case body=>
   intro l aS S9 x W9 hI ax hf hs;obtain ⟨s,n⟩:=x;obtain ⟨o1,o2,o3⟩:=aC.out s n aS ax;have k0:=hI.2.1.cell 0 rfl;have k1:=hI.2.1.cell 1 rfl;have d1:decide ((s:Int)<(F:Int))=false:=by rw [decide_eq_false_iff_not];omega
   have d2:decide ((Tp:Int)<(s:Int)+(n:Int))=false:=by rw [decide_eq_false_iff_not];omega
   have b8:IntKind.i64.wrap ((s:Int)+(n:Int))=(s:Int)+(n:Int):=by rw [IntKind.wrap_i64];omega
   have HI:=ae hI;clear hI ax hf hs aI M aC aB aG j u;gi_wp2;exact ⟨S9,HI.out,Kb _ _,fun _ h=> .inl h⟩
  case done=>
   intro D S9 W9 hI hD bL bM bk bO;obtain ⟨z1,z2,z3,z5,z6,z7,R,C,aR,c⟩:=aB.out;have r:=C.trans bk J8;have b0:=aG.out.frame r id;have bS:=q.out;have H:¬(S (w.heap.size+1)\/EL.has (w.heap.size+1))/\¬(S (w.heap.size+1+1)\/EL.has (w.heap.size+1+1)):=by
    have Q:=j.out.2.2.2.2.2.2.2.2.2.2.1;have h2:=u.out.2.1;have h3:=v.out.size;have h4:W1.heap.size=w.heap.size+3:=y.out;refine ⟨fun h=> ?_,fun h=> ?_⟩
    ·rcases h with h|h
     ·have:=Q _ h;omega
     ·have:=h2 _ h;omega
    ·rcases h with h|h
     ·have:=Q _ h;omega
     ·have:=h2 _ h;omega
   have b6:=((U.out.1.frame c id).frame R H.1).frame r id;have b7:=((U.out.2.frame c id).frame R H.2).frame r id;have c6:=b6.cell 0 rfl;have c7:=b7.cell 0 rfl;have f6:=b6.free 0;have f7:=b7.free 0;have az:w.heap.size+1≠sb/\w.heap.size+1+1≠sb/\w.heap.size+1≠w.heap.size+1+1:=by omega
   have aX:Hid (∀w',Fr (fun k=>k=w.heap.size+1\/k=w.heap.size+1+1\/k=D) W9 w'->JH m Pg W Fs Us Hg mp L S G ls w (.returned (.tuple #[EL.m,(0:Int)])) w'):=by
    show∀w',_
    intro w' aO;have ca:=R.size;have b4:=c.size;have h4:W1.heap.size=w.heap.size+3:=y.out;have bi:Fr S w w':=by
     have q1:Fr S w w2:=(am.out.mono J8).trans c J8;have q2:Fr S w wc:=q1.trans R (fun k p=>by
      rcases p with p|p
      ·exact .inl p
      ·have:=u.out.2.1 k p;have:=v.out.size;exact .inr (by omega))
     have q3:Fr S w W9:=q2.trans r J8;exact q3.trans aO (fun k p=>by rcases p with rfl|rfl|rfl<;>exact .inr (by omega))
    have b3:J7 wc W9:=r;refine ⟨EL,J.E,S',rfl,(cD m Pg W Fs Us Hg mp) _ _ _ _ _ ((bR m Pg W Fs Us Hg mp).Qb z2 r) aO (fun k p h=> ?_),fun k p=>(z3 k p).imp id (fun h=>by omega),fun k p h=> ?_,hI.1.1.frame aO (fun k p h=> ?_),z7,z5,fun k p=>by have:=u.out.2.1 k p;omega,bi⟩
    rotate_left
    ·rcases z3 k p with h5|h5
     ·have h6:k<w.heap.size:=j.out.2.2.2.2.2.2.2.2.2.2.1 k h5;have:=u.out.2.1 k h;omega
     ·have:=q.out.2.1 k h;omega
    ·have h5:=u.out.2.1 k p;have h6:=q.out.2.1 k p;rcases h with rfl|rfl|rfl<;>omega
    have b5:=(bR m Pg W Fs Us Hg mp).lt _ _ _ z2 k p;have b9:=C.size;rcases h with rfl|rfl|rfl
    ·rcases z3 _ p with h|h
     ·exact H.1 (.inl h)
     ·omega
    ·rcases z3 _ p with h|h
     ·exact H.2 (.inl h)
     ·omega
    ·omega
   have HD:=ae hD;have al:=ae (show D≠w.heap.size+1/\D≠w.heap.size+1+1 from by have:=R.size;omega);have bB:=ae b6;have bC:=ae b7;clear hI hD bL bM bk bO z1 z2 z3 z5 z6 z7 R C aR c r b0 bS H b6 b7 aI M aC aB aG j u aW U am v bb bc q y;gi_wp2;obtain ⟨Wf,ao⟩:∃Wf,(W9.setCell ⟨w.heap.size+1,0,none⟩ (.pointer (some ⟨EL.m,0,none⟩))).setCell ⟨w.heap.size+1+1,0,none⟩ (.int .i64 0)=Wf:=⟨_,rfl⟩;rw [ao];have bl:Fr (fun k=>k=w.heap.size+1\/k=w.heap.size+1+1) W9 Wf:=by
    rw [<-ao];exact ((Kb _ W9).setCell ⟨w.heap.size+1,0,none⟩ (.inl (.inl rfl)) _).setCell ⟨w.heap.size+1+1,0,none⟩ (.inl (.inr rfl)) _
   have h6:ay Wf (w.heap.size+1) [EL.m] 165:=by
    rw [<-ao];exact (bB.out.set 0 _).Qg _ _ az.2.2
   have h7:ay Wf (w.heap.size+1+1) [(0:Int)] 29:=by
    rw [<-ao];exact (bC.out.Qg _ _ (Ne.symm az.2.2)).set 0 _
   have bK:Wf.heap[D]? =some (.deferred (some [])):=bl.heap HD.out (fun h=>h.elim al.out.1 al.out.2);have aN:Fr (fun k=>k=D) Wf (Wf.putObj D (.deferred none)):=(Kb _ Wf).putObj _ _ (.inl rfl);refine ⟨by simp,.inl ⟨_,_,rfl,run_takeDeferred bK,?_⟩⟩;refine ⟨_,lK rfl _ _ ⟨w.heap.size+1,0,none⟩ ⟨w.heap.size+1+1,0,none⟩ rfl rfl (DW ((h6.frame aN (Ne.symm al.out.1)).cell 0 rfl)) (rF ((h7.frame aN (Ne.symm al.out.2)).cell 0 rfl)),?_⟩;exact aX.out _ ((bl.mono (fun k p=> .inl (p.elim .inl (fun h=> .inr (.inl h))))).trans aN (fun k p=> .inl (.inr (.inr p))))
end
def nY(E:Nat->Nat)(P t q:Nat):Nat:=Qc (fun a=>aw E a&&decide (a/P=q)) 0 t
section
variable{E:Nat->Nat}{P W t u a q:Nat}
theorem Dt:nY E P 0 q=0:=eu _ _
theorem Du(b:aw E a=true):nY E P (a+1) q=nY E P a q+(if q=a/P then 1 else 0):=by
 unfold nY;rw [bJ _ (ao a),b,cH]
 grind
theorem Dv(h:t<=u)(e:∀i,t<=i->i<u->aw E i=false):nY E P u q=nY E P t q:=by
 unfold nY;rw [bp _ (ao t) h,bP (a:=t) (b:=u) (fun i c d=>by grind),aP]
theorem In:nY E P t q<=t:=by
 grind [dA,nY]
theorem uw(d:1<=P){i:Nat}:i/P=q↔q*P<=i/\i<q*P+P:=by
 constructor
 ·rintro rfl;have b:=az i P;have c:=aI i (show 0<P by omega)
  grind
 ·rintro ⟨b,c⟩;exact lY (i:=i-q*P) d (by omega) (by omega)
theorem zF{s:dE}(j:1<=s.P)(c:∀a,aw s.E a=true->a<s.W)(q:Nat):nY s.E s.P s.W q=qF s (fun _=>false) q:=by
 unfold nY qF;have f:∀N,s.W<=N->q*s.P+s.P<=N->Qc (fun a=>aw s.E a&&decide (a/s.P=q)) 0 N=Qc (fun a=>aw s.E a&& !false) (q*s.P) (q*s.P+s.P):=fun N _ e=>by
  rw [bp _ (ao (q*s.P)) (show q*s.P<=N by omega),bp _ (show q*s.P<=q*s.P+s.P by omega) e,
   bP (a:=0) (b:=q*s.P) (fun i _ h=>by simp_all [decide_eq_false,uw]),
   bP (a:=q*s.P+s.P) (b:=N) (fun i h _=>by simp_all [uw]),bq,aP]
  grind [bY,uw]
 have d:∀N,s.W<=N->Qc (fun a=>aw s.E a&&decide (a/s.P=q)) 0 N=Qc (fun a=>aw s.E a&&decide (a/s.P=q)) 0 s.W:=fun N h=>by
  rw [bp _ (ao s.W) h,bP (a:=s.W) (b:=N) (fun i g _=>by
   grind),aP]
 rw [<-d (s.W+(q*s.P+s.P)) (by omega)]
 grind
theorem uo{k j:Nat}{x y:Nat×Nat}(b:(cj E W)[k]? =some x)(c:(cj E W)[j]? =some y)(h:j<k):y.1<x.1:=
 kM b (bc.2 ⟨j,by grind⟩)
def DH(E:Nat->Nat)(W k:Nat):Nat:=match (cj E W)[k]? with|some x=>x.1|none=>W
theorem DG{k:Nat}{x:Nat×Nat}(b:(cj E W)[k]? =some x):DH E W k=x.1:=by unfold DH;rw [b]
theorem F0:DH E W (cj E W).length=W:=by simp_all [DH]
theorem zI(v:iG E)(l:∀s,E s≠0->s+E s<=W){k m:Nat}(w:∀j x,j<k->(cj E W)[j]? =some x->x.1+x.2<=m):∀i,m<=i->i<DH E W k->aw E i=false:=by
 intro i r h;rw [bt];intro o;obtain ⟨s,y,z⟩:=cE.1 o;have e:E s≠0:=by omega
 have p:=l s e;obtain ⟨j,f⟩:=bc.1 (dG.2 ⟨show s<W by omega,e,rfl⟩:(s,E s)∈cj E W);rcases aN j k with b|b
 ·grind
 ·have c:k<(cj E W).length:=bx b (aj.1 f).1;have g:=aC c;rw [DG g] at h;rcases aN k j with d|n
  ·have:=uo f g d;omega
  grind
theorem DF(e:iG E){k:Nat}{x:Nat×Nat}(b:(cj E W)[k]? =some x):∀j y,j<k+1->(cj E W)[j]? =some y->y.1+y.2<=x.1+x.2:=by
 intro j y i c;rcases aN j k with h|h
 ·have d:=uo b c h;obtain ⟨_,g,m⟩:=dG.1 (ar c);obtain ⟨_,f,l⟩:=dG.1 (ar b);have:=e y.1 x.1 d g f;omega
 grind
end
section
variable{A:AG}{rs:List Nat}{φ L:Nat->Nat}{lo hi:Nat}
theorem ce.heads(h:ce A rs φ L lo hi):∃hp hf hg:Nat->Nat,∀x,Reach A.gr rs x->hp (φ x)=A.np x/\hf (φ x)=A.nf x/\hg (φ x)=A.ng x:=by
 classical
 refine ⟨fun a=>if h:∃x,Reach A.gr rs x/\φ x=a then A.np h.choose else 0,fun a=>if h:∃x,Reach A.gr rs x/\φ x=a then A.nf h.choose else 0,fun a=>if h:∃x,Reach A.gr rs x/\φ x=a then A.ng h.choose else 0,fun x c=> ?_⟩;have b:∃y,Reach A.gr rs y/\φ y=φ x:=⟨x,c,rfl⟩;have e:b.choose=x:=h.inj b.choose_spec.1 c b.choose_spec.2
 grind
theorem ce.Xz(h:ce A rs φ L lo hi){L':Nat->Nat}(c:∀x,Reach A.gr rs x->∀i,i<A.sz x->L' (φ x+i)=L (φ x+i)):ce A rs φ L' lo hi:=by
 refine ⟨h.zero,h.one,h.Qm,h.apart,fun x a=> ?_,fun x a i hi=> ?_,fun x a i b d=> ?_⟩
 ·have:=h.head x a;exact ⟨by have b:L' (φ x)=L (φ x):=c x a 0 (by unfold AG.sz;omega);rw [b];exact this.1,this.2⟩
 ·rw [js,c x a (1+i) (by unfold AG.sz;omega),<-js φ _ _];exact h.ptr x a i hi
 ·rw [js,c x a (1+i) (by unfold AG.sz;omega),<-js φ _ _];exact h.val x a i b d
theorem kQ{f:Nat->Bool}{M a R:Nat}(h:∀i,i<M->f i=true->a<=i/\i<a+R):Qc f 0 M<=R:=by
 have d:∀b c,c<=M->(c<=a\/a+R<=b)->Qc f b c=0:=fun b c k l=>bP (fun i e g=>by
  grind)
 rcases aN a M with e|e
 ·rcases aN (a+R) M with g|g
  ·have j:=dA f a (a+R);rw [bp f (ao a) (show a<=M by omega),bp f (show a<=a+R by omega) (show a+R<=M by omega),d 0 a (by omega) (.inl (ag _)),d (a+R) M (ag _) (.inr (ag _))];omega
  ·have j:=dA f a M;rw [bp f (ao a) (show a<=M by omega),d 0 a (by omega) (.inl (ag _))];omega
 grind
theorem ce.Yv(h:ce A rs φ L lo hi){E:Nat->Nat}(c:mz A rs φ E){W:Nat}(g:∀a,E a≠0->a<W):∃l,dt A rs l:=by
 have j:((cj E W).map Prod.fst).Nodup:=by
  unfold cj;rw [kZ];have e:(Prod.fst∘fun s=>(s,E s))=id:=rfl
  grind [qm]
 have k:∀a∈(cj E W).map Prod.fst,∃x,Reach A.gr rs x/\φ x=a:=fun a i=>by
  obtain ⟨x,b,rfl⟩:=bw.1 i;exact c.some _ (dG.1 b).2.1
 have d:∀x,Reach A.gr rs x->φ x∈(cj E W).map Prod.fst:=fun x b=>by
  have f:E (φ x)≠0:=by rw [c.size x b];unfold AG.sz;omega
  exact bw.2 ⟨(φ x,E (φ x)),dG.2 ⟨g _ f,f,rfl⟩,rfl⟩
 obtain ⟨l,m,_⟩:=h.Yi (sz:=E) (fun x b=>c.size x b) j k d
 grind
end
section
variable{P:Program}
theorem Ar{F:Fence}{m:Nat}{c:Array Oper}{md:Region.Mode}{Q:Exit->Act->World->Prop}:∀(f:Nat) (b:Array Bool) (a:Act) (w:World),uI (wpOpIn F m P c Q) md c Q f b a w->wpAnyIn F m P md c Q f b a w
 |0,_,_,_,h=>h
 |f+1,_,_,_,h=>⟨h.1,fun i d=>wpOpIn_mono (fun a w h=>Ar f _ a w h) (h.2 i d)⟩
theorem ew.wpR{o:Oper}{a:Act}{w:World}{b:Value->World->Prop}{Q:Exit->Act->World->Prop}{k m:Nat}(g:∀c,o.op≠ .defer c)(h:ew P a.eval o w b):o.wpIn (Fence.wide.inRound k) m P a w (fun e w'=>∃v,e=a.put o.dst v/\b v w') Q:=by
 refine ⟨fun _ _=>trivial,?_⟩;rw [show (Fence.wide.inRound k).round=some k from rfl,Oper.semAt_some k a.eval o g];unfold ew at h;generalize (execOp a.eval o).run P w=r at*
 cases r with
 |halt x w'=>grind
 |ok n w'=>
  cases n<;>simp only [Oper.uponIn] at h ⊢
  case value v=>grind
  case skip=>grind
  case enter f args=>
   refine ⟨(fun h=>by cases h),(wM (d:=m) (Calls.mono h ?_)).2.2⟩
   grind
theorem sC{M k m:Nat}{Q:Exit->Act->World->Prop}{a:Act}{w:World}{l:List Oper}(n d:Nat)(R b:World->World->Prop)(ps:List (Value->World->Prop))(nw:Nat->Bool)(G:P.follows .mixedOrders=true)(z:kc l=true)(f:iR l=true)
  (A:(decide (n=l.length)&&Region.seqB .any l.toArray 0 n (jV l.length n))=true) (U:ps.length=n)
  (q:∀w,b w w) (e:∀w w',b w w'->R w w') (s:∀w1 w2 w3,b w1 w2->b w2 w3->b w1 w3) (u:∀w1 w2 w3,R w1 w2->b w2 w3->R w1 w3) (x:∀w1 w2 w3,b w1 w2->R w2 w3->R w1 w3) (L:∀w w',R w w'->w.heap.size<=w'.heap.size) (r:vf b ps) (y:zx R d 0 ps)
  (h:∀F:(Nat->Value)->Act,(F=fun vs=>{a with tmps:=dp vs 0 (l.take n) a.tmps})->mU P (dq l d) F w.drew d R b (rq ps) nw 0 (l.take n)/\∀vs w',R w.drew w'->E2 vs w' 0 ps->(∀i j,nw i=true->nw j=true->i<n->j<n->i≠j->gv (vs i)≠gv (vs j))->Q .normal (F vs) w'):
  (Code.region M l.toArray true).wpIn (Fence.wide.inRound k) m P Q a w:=by
 obtain ⟨p,g⟩:=h _ rfl;rw [ak,decide_eq_true_eq] at A;obtain ⟨H,J⟩:=A;subst H;refine wpIn_region_any G ?_;have c:=kK z f;refine Ar _ _ _ _ (qi (W1:=wpOpIn (Fence.wide.inRound k) m P l.toArray Q) c (fun i K T a w h f=>wpOpIn_mono h f) (fun i o a w C B hp=>by
  unfold wpOpIn;simp only [show l.toArray[i]? =some o by grind];rw [if_pos (by unfold Region.wanted;rw [c.guard i o B])];exact hp.wpR (c.dfr i o B)) (ag _) (fun D t z f=>absurd f (by omega)) (JV e L) (Jj u x) (Jf s) (JW (fun j=>qY j r) (fun j v w w' E hp I=>ve 0 j y (by omega) v w w' hp I)) (pS p) (fun vs w' N O _ S=> ?_) (e _ _ (q _)) (fun _ _=>q _))
 rw [kU];refine ⟨by grind [Region.seqB],O|>fun _=>g vs w' N (uK ps 0 (fun j E=> ?_)) S⟩
 grind
end
structure I7 where
 c3:Nat
 c5:Nat
 Xc:Nat
 tb:Nat
 b:Nat
 g:Nat
def Cy.conf(c:Cy):List Value:=[((c.from_:Int):Int),((c.top:Int):Int),((c.Qe:Int):Int),((c.Lm:Int):Int),((c.B:Int):Int),((c.stack:Int):Int),((c.Ah:Int):Int)]
structure Hw(c:Cy)(x:I7)(W:Nat)(E:Nat->Nat)(ls:List Nat)(w:World):Prop where
 all:sN c.EL x.tb W E w
 b3:ay w x.c3 [c.m] 52
 b5:ay w x.c5 c.conf 113
 b13:ay w x.Xc [c.y] 55
 y:CF w c c.nb 0 0
 mv:ay w c.mv (Ao (List.replicate c.nb false)) 4
 Xh:fS c.lo c.hi w c.pl W c.B E c.Qe
 roots:cz w x.b x.g ls
def Ax(c:Cy)(x:I7)(k:Nat):Prop:=c.EL.has k\/k=x.tb\/k=x.c3\/k=x.c5\/k=x.Xc\/k=c.y\/k=c.mv\/(c.lo<=k/\k<c.hi)\/k=x.b\/k=x.g\/k=ch
section
variable{c:Cy}{x:I7}{W:Nat}{E:Nat->Nat}{ls:List Nat}{w w':World}{T:Nat->Prop}
theorem Hw.frame(h:Hw c x W E ls w)(hf:Fr T w w')(b:∀k,T k->¬Ax c x k):Hw c x W E ls w':=by
 have n:∀k,Ax c x k->¬T k:=fun k a e=>b k e a
 obtain ⟨g,j,l⟩:=h.all;exact ⟨⟨g.frame hf (fun k a=>n k (.inl a)),aE j hf (n _ (.inr (.inr (.inr (.inr (.inr (.inr (.inr (.inr (.inr (.inr rfl))))))))))),l.frame hf (n _ (.inr (.inl rfl)))⟩,
  h.b3.frame hf (n _ (.inr (.inr (.inl rfl)))),h.b5.frame hf (n _ (.inr (.inr (.inr (.inl rfl))))),h.b13.frame hf (n _ (.inr (.inr (.inr (.inr (.inl rfl)))))),ay.frame h.y hf (n _ (.inr (.inr (.inr (.inr (.inr (.inl rfl))))))),h.mv.frame hf (n _ (.inr (.inr (.inr (.inr (.inr (.inr (.inl rfl)))))))),
  h.Xh.frame hf (fun i d=>by
   by_cases f:c.lo<=i/\i<c.hi
   ·exact absurd d (n i (.inr (.inr (.inr (.inr (.inr (.inr (.inr (.inl f)))))))))
   ·omega),
  h.roots.frame hf (n _ (.inr (.inr (.inr (.inr (.inr (.inr (.inr (.inr (.inl rfl)))))))))) (n _ (.inr (.inr (.inr (.inr (.inr (.inr (.inr (.inr (.inr (.inl rfl)))))))))))⟩
end
def tQ(m Pg W Fs Us Hg:Nat)(mp:Nat->Bool)(L:Nat->Nat)(E hp hf hg:Nat->Nat)(c:Cy)(t:Nat)(pre:List (Nat×Nat))(S:Nat->Prop)(w:World):Prop:=
 ∃Sm fw n ns f,(∀k,S k↔(Sm k\/k=c.wb\/k=c.sb))/\¬Sm c.wb/\¬Sm c.sb/\c.wb≠c.sb/\dJ m Pg W Fs Us Hg mp L Sm w/\gE w c.wb n fw/\(∀q,(fw q).getD 0=nY E Pg t q)/\n<=t/\iz w c.sb ns f/\ns<=pre.length/\∀x∈pre,uz (f x.1)=(hp x.1,hf x.1,hg x.1)
section
variable{m Pg W Fs Us Hg:Nat}{mp:Nat->Bool}{L E hp hf hg:Nat->Nat}{c:Cy}{x:I7}{t:Nat}{pre:List (Nat×Nat)}{ls:List Nat}{S T:Nat->Prop}{w w':World}
theorem tQ.frame(h:tQ m Pg W Fs Us Hg mp L E hp hf hg c t pre S w)(d:Fr T w w')(b:∀k,S k->¬T k):tQ m Pg W Fs Us Hg mp L E hp hf hg c t pre S w':=by
 obtain ⟨i,j,n,ns,f,a,o,p,q,r,s,u,v,y,e,g⟩:=h;exact ⟨i,j,n,ns,f,a,o,p,q,(cD m Pg W Fs Us Hg mp) _ _ _ _ _ r d (fun k l=>b k ((a k).2 (.inl l))),s.frame d (b _ ((a _).2 (.inr (.inl rfl)))),u,v,y.frame d (b _ ((a _).2 (.inr (.inr rfl)))),e,g⟩
theorem tQ.lt(h:tQ m Pg W Fs Us Hg mp L E hp hf hg c t pre S w):∀k,S k->k<w.heap.size:=by
 obtain ⟨l,o,n,ns,f,b,p,q,r,g,i,s,u,j,d,e⟩:=h;intro k a;rcases (b k).1 a with h|h|h
 ·exact (bR m Pg W Fs Us Hg mp).lt _ _ _ g k h
 ·rw [h];exact i.lt
 ·rw [h];exact j.lt
def IT(m Pg W Fs Us Hg:Nat)(mp:Nat->Bool)(L E hp hf hg:Nat->Nat)(c:Cy)(x:I7)(ls:List Nat)(pre:List (Nat×Nat))(S:Nat->Prop)(w:World):Prop:=
 (∀k,S k->¬Ax c x k)/\Hw c x W E ls w/\tQ m Pg W Fs Us Hg mp L E hp hf hg c (DH E W pre.length) pre S w
theorem IT.stays{B:Nat}(j:∀k,Ax c x k->k<B):gm B (IT m Pg W Fs Us Hg mp L E hp hf hg c x ls):=by
 rintro pre S W1 i T ⟨f,g,h⟩ b d;exact ⟨f,g.frame b (fun k a l=>by grind),h.frame b (fun k a e=>(d k e).2 a)⟩
theorem tQ.head{e d:Nat->Prop}{g:Nat->Option Nat}{j ns s n:Nat}{f:Nat->Option (Nat×Nat×Nat)}(l:¬e c.wb)(C:¬e c.sb)(o:c.wb≠c.sb)(p:gE w c.wb j g)(D:∀q,(g q).getD 0=nY E Pg s q)(F:j<=s)(A:ns<=pre.length)(B:∀x∈pre,uz (f x.1)=(hp x.1,hf x.1,hg x.1))(a:∀x∈pre,x.1<s)
  (b:∀k,d k->e k\/w.heap.size<=k) (i:Fr (fun k=>e k\/k=c.sb) w w') (v:dJ m Pg W Fs Us Hg mp L d w') (r:iz w' c.sb (ns+1) (jf f s (hp s,hf s,hg s))) (u:c.sb<w.heap.size):
  tQ m Pg W Fs Us Hg mp L E hp hf hg c s (pre++[(s,n)]) (fun k=>d k\/k=c.wb\/k=c.sb) w':=by
 have y:=p.lt;refine ⟨d,g,j,ns+1,_,fun k=>dO,fun h=>(b _ h).elim l (fun h=>by omega),fun h=>(b _ h).elim C (fun h=>by omega),o,v,p.frame i (fun h=>h.elim l o),D,F,r,by grind,fun x z=> ?_⟩;rcases eI.1 z with h|h
 ·have:=a x h;unfold jf
  grind
 ·rw [dc.1 h];unfold jf;rw [if_pos rfl];rfl
theorem tQ.word{a:Nat}(h:tQ m Pg W Fs Us Hg mp L E hp hf hg c a pre S w)(r:aw E a=true)(G:a<1048576)(u:1<=Pg):∃V:Nat,V<=a/\(Instr.lookup 174 (.map (some c.wb)) (.int .i64 ((a/Pg:Nat):Int)) false).run prog w= .ok (.int .i64 V) w/\
  ∃w',(Instr.mapUpdate 174 (.map (some c.wb)) (.int .i64 ((a/Pg:Nat):Int)) (.int .i64 ((V+1:Nat):Int))).run prog w= .ok () w'/\tQ m Pg W Fs Us Hg mp L E hp hf hg c (a+1) pre S w'/\Fr (fun k=>k=c.wb) w w':=by
 obtain ⟨p,F,n,ns,f,y,j,z,l,A,o,H,I,B,b,d⟩:=h;have i:a/Pg<4611686018427387904:=by have:=aX a Pg;omega
 have v:=In (E:=E) (P:=Pg) (t:=a) (q:=a/Pg);refine ⟨nY E Pg a (a/Pg),v,?_,?_⟩
 ·have:=o.look (a/Pg) i
  grind
 ·obtain ⟨w',C,D,g⟩:=o.put (a/Pg) (nY E Pg a (a/Pg)+1) i (by omega) (by omega);refine ⟨w',C,⟨p,_,_,ns,f,y,j,z,l,(cD m Pg W Fs Us Hg mp) _ _ _ _ _ A g (fun k s e=>j (e▸s)),D,fun q=> ?_,?_,B.frame g (Ne.symm l),b,d⟩,g⟩
  ·rw [Du r];unfold jf
   grind
  grind
theorem tQ.skip{a:Nat}(h:tQ m Pg W Fs Us Hg mp L E hp hf hg c t pre S w)(s:t<=a)(r:∀i,t<=i->i<a->aw E i=false):tQ m Pg W Fs Us Hg mp L E hp hf hg c a pre S w:=by
 obtain ⟨b,d,n,ns,f,e,g,j,k,l,o,u,v,p⟩:=h;exact ⟨b,d,n,ns,f,e,g,j,k,l,o,fun q=>by grind [Dv],by omega,p⟩
end
def qL(m Pg W Fs:Nat)(mp:Nat->Bool)(Mc:Nat->Nat)(dr:Nat->Bool)(q0:Nat)(S9:Nat->Prop)(w10:World)(q:Nat)(wr:World):Prop:=
 ∃Us Hg mpq S',dJ m Pg W Fs Us Hg mpq Mc S' wr/\(∀r,mpq r=(mp r&& !(decide (q0<=r)&&decide (r<q)&&dr r)))/\Fr S9 w10 wr/\∀k,S' k->S9 k\/w10.heap.size<=k
section
variable{m Pg W Fs Us Hg:Nat}{mp:Nat->Bool}{Mc:Nat->Nat}{dr:Nat->Bool}{q0 q:Nat}{S9:Nat->Prop}{w10 wr w1:World}
theorem qL.start(h:dJ m Pg W Fs Us Hg mp Mc S9 w10):qL m Pg W Fs mp Mc dr q0 S9 w10 q0 w10:=by
 refine ⟨Us,Hg,mp,S9,h,fun r=> ?_,Kb _ _,fun _ h=> .inl h⟩
 grind [decide_eq_false_iff_not]
theorem qL.Fh(h:qL m Pg W Fs mp Mc dr q0 S9 w10 q wr)(hf:J7 wr w1):qL m Pg W Fs mp Mc dr q0 S9 w10 q w1:=by
 obtain ⟨Us,Hg,a,S',b,c,d,e⟩:=h;exact ⟨Us,Hg,a,S',b.Qb hf,c,d.trans hf J8,e⟩
theorem qL.pg(h:qL m Pg W Fs mp Mc dr q0 S9 w10 q wr):Calls prog 114 #[m] wr fun e w'=>e= .returned (Pg:Int)/\wr=w':=by
 obtain ⟨Us,Hg,b,S',⟨M,a,_⟩,_⟩:=h;exact jy a
theorem qL.skip(h:qL m Pg W Fs mp Mc dr q0 S9 w10 q wr)(e:dr q=false):qL m Pg W Fs mp Mc dr q0 S9 w10 (q+1) wr:=by
 obtain ⟨Us,Hg,a,S',b,c,d⟩:=h;refine ⟨Us,Hg,a,S',b,fun r=> ?_,d⟩;rw [c]
 grind
theorem qL.drop(h:qL m Pg W Fs mp Mc dr q0 S9 w10 q wr)(p:dr q=true)(t:mp q=true)(d:q<W/Pg)(n:q0<=q):Calls prog 117 #[m,(q:Int)] wr fun e w'=>e= .returned (0:Int)/\qL m Pg W Fs mp Mc dr q0 S9 w10 (q+1) w':=by
 obtain ⟨Us,Hg,f,S',⟨M,i,l⟩,o,g,j⟩:=h;refine (mK i q d (by grind)).mono ?_;rintro e w' ⟨rfl,S2,high2,M2,p1,p2,p3,p4⟩;have u:=g.size;refine ⟨rfl,Us-1,high2,_,S2,⟨M2,p1,fun b c=> ?_⟩,fun r=> ?_,g.trans p3 j,fun k s=> ?_⟩
 ·have a:f (b/Pg)=true:=by have:=c.2;grind
  rw [p2 b c.1 a c.2];exact l b ⟨c.1,a⟩
 ·grind
 grind
end
def sq(m b g Pg W Fs:Nat)(A:AG)(rs:List Nat)(T Li B ah:Nat)(S:Nat->Prop)(w:World)(e:Ending)(w':World):Prop:=
 ∃(c:Cy) (s:dE) (hf hg φ' L':Nat->Nat) (S':Nat->Prop) (l:List Nat),e= .returned (.tuple #[c.y,(0:Int)])/\c.m=m/\s.Qe=T/\s.P=Pg/\s.W=W/\s.R=(Li-T)/Pg/\s.B=B/\s.Ah=ah/\AA c s hf hg Fs (T+A.Wd l)/\kl c s hf hg Fs (T+A.Wd l) (List.replicate s.nb false) s.nb 0 0 L' S' w'/\dt A rs l/\ce A rs φ' L' T (T+A.Wd l)/\T+A.Wd l<=Li/\cz w' b g (rs.map φ')/\ee w'/\(∀k,S' k->S k\/w.heap.size<=k)/\Fr (fun k=>S k\/k=g) w w'/\w.heap.size<w'.heap.size/\Qc (aw s.E) 0 s.W=A.Wd l
section
variable{m b g Pg W Fs Us Hg:Nat}{S Sm:Nat->Prop}{mp mpq:Nat->Bool}{L M:Nat->Nat}{w wz:World}{A:AG}{rs:List Nat}{φ E hp hf hg:Nat->Nat}{F Tp T Li B Rm ah:Nat}
theorem Bi(n:nU Pg W F Tp T Li B Rm ah)(j:1<=Pg)(ag:W% Pg=0)(ad:W<=524288)(C:Pg∣B\/B∣Pg)(t:ce A rs φ L F Tp)(f:mz A rs φ E)(z:iG E)(D:∀x,Reach A.gr rs x->hp (φ x)=A.np x/\hf (φ x)=A.nf x/\hg (φ x)=A.ng x)(ar:Tp-F<=Li-T)(am:∀q,mp q=(decide (F<=q*Pg)&&decide (q*Pg<Tp)))
  (al:Fs=(Li-T)/Pg+(ah+2)*(CB B Pg+3)) {q:Nat} (aR:Tp<=q*Pg) (I:∀r,mpq r=(mp r&& !(decide (F/Pg<=r)&&decide (r<q)&&decide (nY E Pg W r=0)))) (hM:∀a,cX W Pg mpq a->M a=L a):
  ∃(L':Nat->Nat) (l:List Nat),mW ⟨E,hp,T,W,Pg,B,(Li-T)/Pg,ah⟩ L' M mpq (fun _=>false) 0 0 (oZ (Qc (aw E) 0 W) B) (T+A.Wd l)/\dt A rs l/\Qc (aw E) 0 W=A.Wd l/\T+A.Wd l<=Li/\ce A rs (te (goes E T) φ) L' T (T+A.Wd l)/\fD ⟨E,hp,T,W,Pg,B,(Li-T)/Pg,ah⟩/\(∀a,E a≠0->dD (hp a) (hf a) (hg a)):=by
 have av:=n.F1;have Q:=n.F2;have y:=n.F3;have aC:=n.T1;have aH:=n.T2;have aN:=n.T3;have Z:=n.T4;have aA:=n.L4;have ax:=n.F4;have U:F=F/Pg*Pg:=by grind [Nat.div_add_mod]
 have X:(Li-T)/Pg*Pg=Li-T:=by
  have k:(Li-T)% Pg=0:=by
   obtain ⟨a,h⟩:∃a,T=a*Pg:=⟨T/Pg,by grind [Nat.div_add_mod]⟩;obtain ⟨c,aj⟩:∃c,Li=c*Pg:=⟨Li/Pg,by grind [Nat.div_add_mod]⟩;rw [h,aj,<-jc];grind [Nat.mul_mod_left]
  grind [Nat.div_add_mod]
 obtain ⟨R,hR⟩:∃R,R=(Li-T)/Pg:=⟨_,rfl⟩;rw [<-hR] at X al ⊢;have hE:∀a,E a≠0->∃x,Reach A.gr rs x/\φ x=a/\E a=A.sz x/\F<=a/\a+E a<=Tp:=fun a h=>by
  obtain ⟨x,o,e⟩:=f.some a h;have k:=f.size x o;have K:=t.Qm x o
  grind
 have d:∀a,aw E a=true->F<=a/\a<Tp:=fun a h=>by
  grind [cE]
 have aB:Qc (aw E) 0 W=Qc (aw E) 0 Tp:=by
  rw [bp (aw E) (ao Tp) y,bP (a:=Tp) (b:=W) (fun i hi _=>by
   grind),aP]
 obtain ⟨l,H⟩:=t.Yv f (W:=W) (fun a h=>by grind);have aS:=(dt.Qc t f H).1;have aq:A.Wd l<=Li-T:=by
  have k:Qc (aw E) 0 Tp<=Tp-F:=by
   rw [bp (aw E) (ao F) Q,bP (a:=0) (b:=F) (fun i _ hi=>by
    grind),bq]
   exact dA _ _ _
  omega
 have ho:fD ⟨E,hp,T,W,Pg,B,R,ah⟩:=by
  refine ⟨z,j,n.B1,C,ag,ad,Z,?_,?_,fun a h=> ?_⟩
  ·grind
  ·show Qc (aw E) 0 W<=R*Pg
   omega
  ·obtain ⟨k,K⟩:=d a h;refine ⟨by grind,?_⟩;show a<T\/T+R*Pg<=a
   rcases n.ap with v|v
   ·omega
   ·left;have h4:=az (Tp+Pg-1) Pg;have h5:=aI (Tp+Pg-1) (show 0<Pg by omega)
    grind
 have J:∀r,r<W/Pg->mpq r=lz Pg (aw E) (fun _=>false) r:=fun r hr=>by
  have k:=qE (s:=⟨E,hp,T,W,Pg,B,R,ah⟩) j (fun _=>false) r;have K:=zF (s:=⟨E,hp,T,W,Pg,B,R,ah⟩) j (fun a h=>by grind) r;rw [<-K] at k;have P:nY E Pg W r≠0↔lz Pg (aw E) (fun _=>false) r=true:=k;rw [I,am]
  cases hf:lz Pg (aw E) (fun _=>false) r with
  |true=>
   have v:=P.2 hf;unfold lz at hf;obtain ⟨a,O,u⟩:=(bU j).1 hf;rw [ak] at u;obtain ⟨h4,h5⟩:=d a u.1;have h6:F/Pg<=r:=by grind [Nat.div_le_div_right]
   have h7:=aG Pg h6;have h8:r*Pg<=a:=by rw [<-O];grind [Nat.div_mul_le_self]
   grind
  |false=>
   have v:nY E Pg W r=0:=by
    grind
   grind [Nat.div_le_div_right,Nat.mul_div_cancel,Nat.mul_le_mul_right,decide_eq_false_iff_not]
 have Y:∀a,aw E a=true->M a=L a:=fun a h=>by
  obtain ⟨k,K⟩:=d a h;have v:a/Pg<W/Pg:=by
   rw [aO (by omega)]
   grind [Nat.div_add_mod]
  refine hM a ⟨by omega,?_⟩;rw [J _ v];exact (bU j).2 ⟨a,rfl,by grind⟩
 have p:ce A rs φ M F Tp:=t.Xz (fun x o i hi=>Y _ (t.live f o hi));have G:∀x,Reach A.gr rs x->hp (φ x)=A.np x:=fun x o=>(D x o).1
 have an:=Bj ho (M:=M) (mp:=mpq) J (p.opn_ptr f G (show Tp<=W from y)) (p.Yj f (by omega)) (kQ (a:=F/Pg) (fun r hr hf=>by
  obtain ⟨a,O,u⟩:=(bU j).1 hf;rw [ak] at u;obtain ⟨h4,h5⟩:=d a u.1;refine ⟨by grind [Nat.div_le_div_right],?_⟩;rw [<-O];show a/Pg<F/Pg+R
  rw [aO (by omega),jd,<-U];omega))
 obtain ⟨L',hP,V⟩:=an;have hN:(⟨E,hp,T,W,Pg,B,R,ah⟩:dE).N=A.Wd l:=by
  show Qc (aw E) 0 W=_
  omega
 refine ⟨L',l,?_,H,by omega,by omega,?_,ho,fun a h=> ?_⟩
 ·have:=hP;rwa [hN] at this
 ·have:=p.opn_laid f z G (T:=T) (by omega) (L:=L') (fun a h=>V a h)
  grind
 ·obtain ⟨x,o,e,_⟩:=hE a h;have k:=D x o;rw [e] at k;rw [k.1,k.2.1,k.2.2];exact (t.head x o).2
end
section
variable{P:Program}
theorem vJ(ps:List PK):rq (ps.map PK.post)=fun j=>(lP ps j).post:=funext fun j=>by
 unfold rq lP;rw [bX,bX,aR]
 cases ps[j]? <;>rfl
theorem mE{R:World->World->Prop}:∀{ps:List PK},oh R ps->vf R (ps.map PK.post)
 |[],_=>trivial
 | .c _::l,h=>⟨fun _ _ _ h _=>h,mE (ps:=l) h⟩
 | .p _::l,h=>⟨h.1,mE (ps:=l) h.2⟩
 | .w _ _::l,h=>⟨fun _ w w' hp a=>⟨hp.1,h.1 w w' hp.2 a⟩,mE (ps:=l) h.2⟩
theorem kJ{R:World->World->Prop}{d:Nat}:∀{ps:List PK} (k:Nat),lI R d k ps->zx R d k (ps.map PK.post)
 |[],_,_=>trivial
 | .c _::l,k,h=>⟨.inr (fun _ _ _ h _=>h),kJ (ps:=l) (k+1) h⟩
 | .p _::l,k,h=>⟨h.1,kJ (ps:=l) (k+1) h.2⟩
 | .w _ _::l,k,h=>⟨h.1.imp id (fun h _ w w' hp a=>⟨hp.1,h w w' hp.2 a⟩),kJ (ps:=l) (k+1) h.2⟩
theorem As{vs:Nat->Value}{w:World}:∀(ps:List (Value->World->Prop)) (k:Nat),E2 vs w k ps->∀j,j<ps.length->rq ps j (vs (k+j)) w
 |_::_,_,h,0,_=>h.1
 |_::l,k,h,j+1,hj=>by
  have:=As l (k+1) h.2 j (Nat.lt_of_succ_lt_succ hj);rw [show k+(j+1)=k+1+j by omega];exact this
theorem lM{K k m:Nat}{Q:Exit->Act->World->Prop}{a:Act}{w:World}{l:List Oper}(n d:Nat)(R b:World->World->Prop)(ps:List PK)(nw:Nat->Bool)(z:(P.follows .mixedOrders&&kc l&&iR l&&(decide (n=l.length)&&Region.seqB .any l.toArray 0 n (jV l.length n))&&(ps.length==n))=true)
  (t:∀w,b w w) (q:∀w w',b w w'->R w w') (f:∀w1 w2 w3,b w1 w2->b w2 w3->b w1 w3) (g:∀w1 w2 w3,R w1 w2->b w2 w3->R w1 w3) (o:∀w1 w2 w3,b w1 w2->R w2 w3->R w1 w3) (J:∀w w',R w w'->w.heap.size<=w'.heap.size) (e:oh b ps) (u:lI R d 0 ps)
  (h:∀F:(Nat->Value)->Act,(F=fun vs=>{a with tmps:=il vs 0 ps (l.take n) a.tmps})->oN P (dq l d) F w.drew d R b ps nw 0 (l.take n)/\∀vs w',R w.drew w'->zf vs w' 0 ps->(∀i j,nw i=true->nw j=true->i<n->j<n->i≠j->gv (vs i)≠gv (vs j))->Q .normal (F vs) w'):
  (Code.region K l.toArray true).wpIn (Fence.wide.inRound k) m P Q a w:=by
 rw [ak,ak,ak,ak] at z;obtain ⟨⟨⟨⟨H,v⟩,x⟩,y⟩,A⟩:=z
 replace A:=beq_iff_eq.1 A
 have D:=y;rw [ak,decide_eq_true_eq] at D;have c:ps.length=(l.take n).length:=by grind
 have s:∀vs,il vs 0 ps (l.take n) a.tmps=dp (pJ ps vs) 0 (l.take n) a.tmps:=fun vs=>vx ps (l.take n) 0 _ c (fun j=>by grind)
 obtain ⟨B,C⟩:=h _ rfl;simp only [s] at B C;refine sC n d R b (ps.map PK.post) nw H v x y (by grind) t q f g o J (mE e) (kJ 0 u) (fun F E=> ?_);subst E;rw [vJ];refine ⟨pR (kK v x) _ 0 (fun j=>by grind) B,fun vs w' I hp G=> ?_⟩;have r:∀j,j<n->(lP ps j).post (vs j) w':=fun j p=>by
  have:=As _ _ hp j (by grind);rw [vJ,bq] at this;omega
 have L:pJ ps vs=vs:=funext fun j=>by
  rcases aN j n with p|p
  ·exact PK.Xy (r j p)
  ·unfold pJ lP;rw [bX,dw (by omega)];rfl
 have:=C vs w' I (uM ps 0 (fun j p=>by grind)) G
 grind
end
theorem ye(k:Nat)(g:k<=16777216)(X:Int)(a:X=(k:Int))(w:World):(Instr.makeSlice 173 (.int .i64 X) (.int .i64 X)).run prog w= .ok (.slice (some w.heap.size) k k) (w.alloc (.cells (Ao (List.replicate k false)).toArray 4)):=by
 obtain ⟨e,b,d,c,f⟩:=info_parts tt;subst a;have h:=run_makeSlice (P:=prog) w 173 4 e (.bool false) underlying173 b d .i64 .i64 (k:Int) (k:Int) (by omega) (mx _) (by grind) (by grind) (by omega);rw [c,eP,fu,show (Value.bool false).cells= #[.bool false] from rfl,oz] at h
 grind [Ao,List.map_replicate]
section
variable{m b g Pg W Fs Us Hg:Nat}{S:Nat->Prop}{mp:Nat->Bool}{L:Nat->Nat}{w:World}
attribute [local go_sem] Oper.semAt_some
theorem CY(d:Nat){A:AG}{rs:List Nat}{φ:Nat->Nat}(hi:dJ m Pg W Fs Us Hg mp L S w)(O:cz w b g (rs.map φ))(hT:ee w)(a7:¬S ch)(aT:¬S b/\¬S g)(bl:g≠ch)(F Tp T P B Rm ah:Nat)(hc:nU Pg W F Tp T P B Rm ah)(hl:ce A rs φ L F Tp)(bO:1<=rs.length)(ax:Tp-F<=P-T)(a8:∀q,mp q=(decide (F<=q*Pg)&&decide (q*Pg<Tp)))(bk:Fs=(P-T)/Pg+(ah+2)*(CB B Pg+3))(aq:Pg∣B\/B∣Pg):
  CallsIn Fence.wide d prog 62 #[m,b,ic F Tp T P B Rm ah] w (sq m b g Pg W Fs A rs T P B ah S w):=by
 refine callsIn_of_wp_marks func62 rfl trivial ?_ rfl;simp only [ntmps62,du,bG,cB,Nat.reduceAdd,Nat.reduceSub,cK,cJ,dv,cU,dz,dH];have ad:=bR m Pg W Fs Us Hg mp;obtain ⟨bx,bX,bL,bM,le,la,kW,lf,b7⟩:=hi.choose_spec.1.at;have a5:=ad.lt _ _ _ hi;have cf:ch<w.heap.size:=bu (hT 0 0 rfl);have bZ:=O.Qd.lt;have b0:=O.row.lt;obtain ⟨G,aW⟩:=hl.conc;have hG:=gx.sound hl aW;have aj:∀k,F<=k->k<Tp->cX W Pg mp k:=fun k H C=>by
  refine ⟨by have:=hc.F3;omega,?_⟩;have gn:F=F/Pg*Pg:=by have:=az F Pg;have:=hc.F4;rw [bg];omega
  have h3:=aG Pg (aS (c:=Pg) H);have h4:=ba k Pg;rw [a8,decide_eq_true (show F<=k/Pg*Pg by omega),decide_eq_true (show k/Pg*Pg<Tp by omega)];rfl
 have hO:=gx.obj hl aW aj (by have:=hc.F3;omega);have bm:=gx.low hl aW;obtain ⟨W1,b8⟩:∃W1,(w.alloc (.cells #[m] 52)).alloc (.cells #[(F:Int),(Tp:Int),(T:Int),(P:Int),(B:Int),(Rm:Int),(ah:Int)] 113)=W1:=⟨_,rfl⟩;have a0:J7 w W1:=by rw [<-b8];exact ((Kb _ w).alloc _).alloc _
 have cg:W1.heap.size=w.heap.size+2:=by rw [<-b8,World.size_alloc,World.size_alloc]
 have gD:ay W1 w.heap.size [m] 52:=by rw [<-b8];exact (ay.new w _ _).alloc _
 have bN:ay W1 (w.heap.size+1) [(F:Int),(Tp:Int),(T:Int),(P:Int),(B:Int),(Rm:Int),(ah:Int)] 113:=by
  rw [<-b8];have:=ay.new (w.alloc (.cells #[m] 52)) [(F:Int),(Tp:Int),(T:Int),(P:Int),(B:Int),(Rm:Int),(ah:Int)] 113;rwa [World.size_alloc] at this
 have bo:=O.frame a0 id id;have bs:=aE hT a0 id;have bv:=ad.Qb hi a0;have fm:=ae (ra bo);have fh:=ae (sV bv.choose_spec.1 hc);have fy:=ae (fun w1 (hf:J7 W1 w1)=>vh (d-1) (ad.Qb bv hf) (bo.frame hf id id) (aE bs hf id) a7 F Tp T P B Rm ah hc hG hO bm);unfold ic at fh fy ⊢;rw [cQ] at fm;have hR:Hid ((prog.info? 113).map (·.size)=some 7):=by show _=_;kernel_rfl
 have nc:¬(rs.length:Int)=0:=by omega
 obtain ⟨k0,k1,k2,k3,k4,k5,k6,_⟩:=Kg bN;have j0:=gD.cell 0 rfl;have HA:=ae (af hi (af O (af hT (af a7 (af aT (af bl (af hc (af hl (af ax (af a8 (af bk (af ad (af a5 (af aW (af hG (af aj (af a0 (af hO (af bm (af aq bO))))))))))))))))))));have HB:=ae (af bx (af bX (af bL (af bM (af b7 (af cf (af bZ (af b0 (af cg (af bo (af bs bv)))))))))));have ff:=ae (af gD bN);have mt:F<=524288/\Tp<=524288/\T<=524288/\P<=524288/\T<=P:=by have:=hc.F2;have:=hc.F3;have:=hc.T2;have:=hc.T3;omega
 clear hi O hT a7 aT bl hc hl ax a8 bk ad a5 aW hG aj a0 hO bm aq bO bx bX bL bM le la kW lf b7 cf bZ b0 cg bo bs bv gD bN;gi_wp2;clear b8;refine dZ (fm.out.mono ?_);rintro e w' ⟨rfl,rfl⟩;clear fm;gi_wp2;refine dZ (fh.out.mono ?_);rintro e w1 ⟨rfl,dB⟩;have hP:=ae (fy.out w1 dB);have a9:=ae (af (ff.out.1.frame dB id) (ff.out.2.frame dB id));have j0:=a9.out.1.cell 0 rfl;have k0:=a9.out.2.cell 0 rfl;have k1:=a9.out.2.cell 1 rfl;have k2:=a9.out.2.cell 2 rfl;have k3:=a9.out.2.cell 3 rfl;have k4:=a9.out.2.cell 4 rfl;have k5:=a9.out.2.cell 5 rfl;have k6:=a9.out.2.cell 6 rfl;have ck:=ae dB;clear fh fy dB;gi_wp2;refine ⟨trivial,(fun h=>by cases h),hP.out.mono ?_⟩;rintro e w2 ⟨EL,E,S2,rfl,p1,p2,p3,p5,p6,p7,p8,p9⟩;obtain ⟨hi,O,hT,a7,aT,bl,hc,hl,ax,a8,bk,ad,a5,aW,hG,aj,a0,hO,bm,aq,bO⟩:=HA.out;obtain ⟨bx,bX,bL,bM,b7,cf,bZ,b0,cg,bo,bs,bv⟩:=HB.out;have cr:=ck.out.size;have ct:=p9.size;have cT:¬S w.heap.size/\¬S (w.heap.size+1):=⟨fun h=>by have:=a5 _ h;omega,fun h=>by have:=a5 _ h;omega⟩;have bd:=a9.out.1.frame p9 cT.1;have aI:=a9.out.2.frame p9 cT.2;have bK:=aE (aE bs ck.out id) p9 a7;have cd:=(bo.frame ck.out id id).frame p9 aT.1 aT.2;have hJ:=ae (FJ p5 bK hc.B0 hc.B1 hc.B2 T (by omega));obtain ⟨_,_,k2,_,k4,_⟩:=Kh aI;have bj:=gx.ext hl aW p6 p7;have HP:=ae (af p1 (af p2 (af p3 (af p5 (af p6 (af p7 (af p8 (af p9 (af cr (af ct (af bd (af aI (af bK (af cd bj))))))))))))));have l9:B<=1024/\1<=B:=by have:=hc.B1;have:=hc.B2;omega
 clear p1 p2 p3 p5 p6 p7 p8 p9 hi O hT a7 aT bl hc hl ax a8 bk ad a5 aW hG aj a0 hO bm aq bO bx bX bL bM b7 cf bZ b0 cg bo bs bv cr ct cT bd aI bK cd bj hP j0 k0 k1 k3 k5 k6;gi_wp2;refine dZ (hJ.out.mono ?_);rintro e w3 ⟨pl,rfl,q1,q2⟩;have ap:=HP.out.2.2.2.2.2.2.2.2.2.2.2.1.frame q2 id;have bi:=HP.out.2.2.2.2.2.2.2.2.2.2.1.frame q2 id;obtain ⟨N,hN⟩:∃N,N=Qc (aw E) 0 W:=⟨_,rfl⟩;have ht:=ae (jp (q1.Qb ((Kb _ w3).drew)));have fT:=ae (fun p (hp:gX w2.heap.size w3.heap.size w3.drew p W B E T)=>rQ hp);rw [<-hN] at fT;obtain ⟨_,_,k2,k3,_⟩:=Kd ap;have mu:N<=P-T:=by
  obtain ⟨p1,p2,p3,p5,p6,p7,p8,p9,cr,ct,bd,aI,bK,cd,bj⟩:=HP.out;obtain ⟨hi,O,hT,a7,aT,bl,hc,hl,ax,a8,bk,ad,a5,aW,hG,aj,a0,hO,bm,aq,bO⟩:=HA.out;have h4:Qc (aw E) 0 W<=Tp-F:=by
   rw [bp (aw E) (ao F) (aH hc.F2 hc.F3),bp (aw E) hc.F2 hc.F3,bP (a:=0) (b:=F) (fun i _ hi=>by
    rw [bt];intro hl;obtain ⟨s,s1,s2⟩:=cE.1 hl;have h6:=p7 s (by omega);have:=bm s (by omega);omega),bP (a:=Tp) (b:=W) (fun i hi _=>by
    rw [bt];intro hl;obtain ⟨s,s1,s2⟩:=cE.1 hl;have h6:=p7 s (by omega);have:=hG.top s (by omega);omega),bq,aP]
   exact dA _ _ _
  omega
 have lr:IntKind.i64.wrap ((P:Int)-(T:Int))=(P:Int)-(T:Int):=by rw [IntKind.wrap_i64];omega
 have d1:decide ((P:Int)-(T:Int)<(N:Int))=false:=by rw [decide_eq_false_iff_not];omega
 have HQ:=ae (af q1 (af q2 (af bi (af ap hN))));clear q1 q2 ap bi hN hJ k4;gi_wp2;refine wpIn_wide.2 ?_;refine eY 9 (fun a b=>b=a) [.c pl,.p (fun v w'=>∃p,v= .pointer (some ⟨p,0,none⟩)/\gX w2.heap.size w3.heap.size w' p W B E T),.c (N:Int),.c (.pointer (some ⟨w.heap.size+1,3,none⟩)),.c (P:Int),.c (.pointer (some ⟨w.heap.size+1,2,none⟩)),.c (T:Int),.c (.int .i64 ((P:Int)-(T:Int))),.c (.bool false)] (fun j=>false) (by kernel_rfl) (fun _=>rfl) (fun _ _ _ H C=>C.trans H) (fun _ _ h=>by rw [h];exact ag _) ⟨fun v w1 w2 h O=>by subst O;exact h,trivial⟩ ?_;intro F hF;simp only [il,PK.val,Kc,aa] at hF;subst hF;refine ⟨by
  refine ⟨?_,?_,?_,?_,?_,?_,?_,?_,?_,trivial⟩<;>intro vs w1 R ak hd hx
  all_goals try (apply oV;rotate_left;rfl;exact rfl;go_simp;done)
  all_goals try (apply oV;rotate_left;rfl;exact rfl;subst R;go_simp;done)
  ·subst R;refine bh 110 #[pl] (by go_simp) (ht.out.mono ?_);rintro e w4 ⟨⟨p,rfl,hq⟩,rfl⟩;exact ⟨_,rfl,⟨p,rfl,hq⟩,rfl,fun h=>nomatch h⟩
  ·have H:=hd 1 (by kernel_rfl);obtain ⟨p,C,hq⟩:=H;subst R;refine bh 111 #[p] (by go_simp) ((fT.out p hq).mono ?_);rintro e w4 ⟨rfl,rfl⟩;exact ⟨_,rfl,rfl,rfl,fun h=>nomatch h⟩
  ,fun vs w1 R hp hx=> ?_⟩
 obtain ⟨g1,_⟩:=hp;clear hx ht fT;obtain ⟨p1,g1,_⟩:=g1;subst R;simp only [an,aB];go_wp2;obtain ⟨W4,eh⟩:∃W4,w3.drew=W4:=⟨_,rfl⟩;have aC:J7 w3 W4:=by rw [<-eh];exact (Kb _ w3).drew
 have cZ:W4.heap.size=w3.heap.size:=by rw [<-eh];rfl
 rw [eh];clear eh k2 k3;obtain ⟨U,bS⟩:∃U,U=oZ N B:=⟨_,rfl⟩;have mf:U<=1048576:=by
  rw [bS];unfold oZ;exact aH (aX _ _) (by omega)
 have d5:=ae (fun w' (hf:J7 W4.drew w')=>af (HQ.out.2.2.1.frame (aC.trans (((Kb (fun _=>False) W4).drew).trans hf J8) J8) id) (HQ.out.2.2.2.1.frame (aC.trans (((Kb (fun _=>False) W4).drew).trans hf J8) J8) id));have d7:=ae (fun w' (hf:J7 W4.drew w')=>qj (HQ.out.1.Qb (aC.trans (((Kb (fun _=>False) W4).drew).trans hf J8) J8)));rw [<-HQ.out.2.2.2.2,<-bS] at d7;have hA:=ae (fun w'=>ye U (by omega) (U:Int) rfl w');have nf:∀(t:TypeId) (w:World),(Instr.makeMap t none).run prog w= .ok (.map (some w.heap.size)) (w.alloc (.map #[] 0)):=fun _ _=>rfl
 have fk:=ae (af aC (af cZ bS));clear aC cZ bS lr d1;gi_wp2;refine wpIn_wide.2 ?_;refine eY 14 (fun a b=>J7 a b) [.c m,.c (.agg #[(F:Int),(Tp:Int),(T:Int),(P:Int),(B:Int),(Rm:Int),(ah:Int)]),.c pl,.c EL.m,.c pl,.c (U:Int),.p (fun v w'=>∃mv,v= .slice (some ⟨mv,0,none⟩) U U/\ay w' mv (Ao (List.replicate U false)) 4/\W4.heap.size<=mv),.c pl,.c (U:Int),.p (fun v w'=>∃wb,v= .map (some wb)/\gE w' wb 0 (fun _=>none)/\W4.heap.size<=wb),.p (fun v w'=>∃sb,v= .map (some sb)/\iz w' sb 0 (fun _=>none)/\W4.heap.size<=sb),.p (fun v w'=>∃mv wb sb,v= .agg #[m,(F:Int),(Tp:Int),(T:Int),(P:Int),(B:Int),(Rm:Int),(ah:Int),pl,EL.m,.slice (some ⟨mv,0,none⟩) U U,(U:Int),(0:Int),(0:Int),.map (some wb),.map (some sb)]/\ay w' mv (Ao (List.replicate U false)) 4/\gE w' wb 0 (fun _=>none)/\iz w' sb 0 (fun _=>none)/\mv≠wb/\mv≠sb/\wb≠sb/\W4.heap.size<=mv/\W4.heap.size<=wb/\W4.heap.size<=sb),.p (fun v w'=>∃y mv wb sb,v= .pointer (some ⟨y,0,none⟩)/\ay w' y [m,(F:Int),(Tp:Int),(T:Int),(P:Int),(B:Int),(Rm:Int),(ah:Int),pl,EL.m,.slice (some ⟨mv,0,none⟩) U U,(U:Int),(0:Int),(0:Int),.map (some wb),.map (some sb)] 177/\(ay w' mv (Ao (List.replicate U false)) 4/\gE w' wb 0 (fun _=>none)/\iz w' sb 0 (fun _=>none)/\mv≠wb/\mv≠sb/\wb≠sb/\W4.heap.size<=mv/\W4.heap.size<=wb/\W4.heap.size<=sb)/\W4.heap.size<=y/\y≠mv/\y≠wb/\y≠sb),.p (fun v w'=>∃Xc,v= .pointer (some ⟨Xc,0,none⟩)/\ay w' Xc [.pointer none] 55/\W4.heap.size<=Xc)] (fun j=>([6,9,10,12,13]).contains j) (by kernel_rfl) (fun _=>Kb _ _) (fun _ _ _ H C=>H.trans C J8) (fun _ _ h=>h.size) ⟨fun v w1 w2 h O=>let ⟨mv,e,hb,hn⟩:=h;⟨mv,e,hb.frame O id,hn⟩,fun v w1 w2 h O=>let ⟨mv,e,hb,hn⟩:=h;⟨mv,e,hb.frame O id,hn⟩,fun v w1 w2 h O=>let ⟨mv,e,hb,hn⟩:=h;⟨mv,e,hb.frame O id,hn⟩,fun v w1 w2 h O=>let ⟨mv,wb,sb,e,f1,f2,f3,f4⟩:=h;⟨mv,wb,sb,e,f1.frame O id,f2.frame O id,f3.frame O id,f4⟩,fun v w1 w2 h O=>let ⟨y,mv,wb,sb,e,f0,⟨f1,f2,f3,f4⟩,f5⟩:=h;⟨y,mv,wb,sb,e,f0.frame O id,⟨f1.frame O id,f2.frame O id,f3.frame O id,f4⟩,f5⟩,fun v w1 w2 h O=>let ⟨mv,e,hb,hn⟩:=h;⟨mv,e,hb.frame O id,hn⟩,trivial⟩ ?_;intro F hF;simp only [il,PK.val,Kc,aa] at hF;subst hF;refine ⟨by
  refine ⟨?_,?_,?_,?_,?_,?_,?_,?_,?_,?_,?_,?_,?_,?_,trivial⟩<;>intro vs w1 R ak hd hx
  all_goals try (apply oV;rotate_left;rfl;exact Kb _ _;go_simp;done)
  all_goals try (apply oV;rotate_left;rfl;exact Kb _ _;obtain ⟨k1,k2⟩:=d5.out w1 R;have k3:=k1.cell 0 rfl;go_simp;done)
  ·obtain ⟨k1,k2⟩:=d5.out w1 R;refine aJ (.agg #[(F:Int),(Tp:Int),(T:Int),(P:Int),(B:Int),(Rm:Int),(ah:Int)]) ?_ ⟨rfl,Kb _ _,fun h=>nomatch h⟩;exact eX rfl (w.heap.size+1) rfl 113 _ (0,0) _ k2 underlying113 rfl hR.out
  ·refine bh 112 #[pl] (by go_simp) ((d7.out w1 R).mono ?_);rintro e w4 ⟨rfl,aC⟩;exact ⟨_,rfl,rfl,aC,fun h=>nomatch h⟩
  ·refine aJ (.slice (some w1.heap.size) U U) (w':=w1.alloc (.cells (Ao (List.replicate U false)).toArray 4)) ?_ ⟨⟨_,rfl,ay.new w1 _ _,R.size⟩,(Kb _ w1).alloc _,fun _=>⟨_,rfl,ag _,by rw [World.size_alloc];exact cl _⟩⟩;have ng:=hA.out w1;go_simp
  ·refine bh 112 #[pl] (by go_simp) ((d7.out w1 R).mono ?_);rintro e w4 ⟨rfl,aC⟩;exact ⟨_,rfl,rfl,aC,fun h=>nomatch h⟩
  ·refine aJ (.map (some w1.heap.size)) (w':=w1.alloc (.map #[] 0)) ?_ ⟨⟨_,rfl,tu w1,R.size⟩,(Kb _ w1).alloc _,fun _=>⟨_,rfl,ag _,by rw [World.size_alloc];exact cl _⟩⟩;go_simp
  ·refine aJ (.map (some w1.heap.size)) (w':=w1.alloc (.map #[] 0)) ?_ ⟨⟨_,rfl,BL w1,R.size⟩,(Kb _ w1).alloc _,fun _=>⟨_,rfl,ag _,by rw [World.size_alloc];exact cl _⟩⟩;go_simp
  ·have h6:=hd 6 (by kernel_rfl);have h9:=hd 9 (by kernel_rfl);have kn:=hd 10 (by kernel_rfl);obtain ⟨mv,e6,b6,n6⟩:=h6;obtain ⟨wb,e9,b9,n9⟩:=h9;obtain ⟨sb,hY,kg,l5⟩:=kn;have x1:=hx 6 9 rfl rfl (by kernel_rfl) (by kernel_rfl) (by omega);have x2:=hx 6 10 rfl rfl (by kernel_rfl) (by kernel_rfl) (by omega);have x3:=hx 9 10 rfl rfl (by kernel_rfl) (by kernel_rfl) (by omega);rw [e6,e9] at x1;rw [e6,hY] at x2;rw [e9,hY] at x3;refine aJ (.agg #[m,(F:Int),(Tp:Int),(T:Int),(P:Int),(B:Int),(Rm:Int),(ah:Int),pl,EL.m,.slice (some mv) U U,(U:Int),(0:Int),(0:Int),.map (some wb),.map (some sb)]) ?_ ⟨⟨mv,wb,sb,rfl,b6,b9,kg,fun e=>x1 (congrArg some e),fun e=>x2 (congrArg some e),fun e=>x3 (congrArg some e),n6,n9,l5⟩,Kb _ _,fun h=>nomatch h⟩;go_simp
  ·have kq:=hd 11 (by kernel_rfl);obtain ⟨mv,wb,sb,ml,f1,f2,f3,f4,f5,f6,f7,f8,f9⟩:=kq;have l1:=f1.lt;have l2:=f2.lt;have l3:=f3.lt;have eq:J7 w1 (w1.alloc (.cells #[m,(F:Int),(Tp:Int),(T:Int),(P:Int),(B:Int),(Rm:Int),(ah:Int),pl,EL.m,.slice (some mv) U U,(U:Int),(0:Int),(0:Int),.map (some wb),.map (some sb)] 177)):=(Kb _ w1).alloc _;refine aJ (.pointer (some ⟨w1.heap.size,0,none⟩)) (w':=w1.alloc (.cells #[m,(F:Int),(Tp:Int),(T:Int),(P:Int),(B:Int),(Rm:Int),(ah:Int),pl,EL.m,.slice (some mv) U U,(U:Int),(0:Int),(0:Int),.map (some wb),.map (some sb)] 177)) ?_ ⟨⟨_,mv,wb,sb,rfl,ay.new w1 _ _,⟨f1.frame eq id,f2.frame eq id,f3.frame eq id,f4,f5,f6,f7,f8,f9⟩,R.size,by omega,by omega,by omega⟩,eq,fun _=>⟨_,rfl,ag _,by rw [World.size_alloc];exact cl _⟩⟩;go_simp
  ·refine aJ (.pointer (some ⟨w1.heap.size,0,none⟩)) (w':=w1.alloc (.cells #[.pointer none] 55)) ?_ ⟨⟨_,rfl,ay.new w1 _ _,R.size⟩,(Kb _ w1).alloc _,fun _=>⟨_,rfl,ag _,by rw [World.size_alloc];exact cl _⟩⟩;go_simp
  ,fun vs w1 R hp hx=> ?_⟩
 obtain ⟨g6,g9,ef,ki,di,kk,_⟩:=hp;obtain ⟨y,mv,wb,sb,gb,z1,⟨z2,z3,z4,z5,z6,z7,z8,z9,c0⟩,c2,cv,cw,cx⟩:=di;obtain ⟨Xc,ge,aR,c4⟩:=kk;have x1:=hx 12 13 rfl rfl (by omega) (by omega) (by omega);rw [gb,ge] at x1;simp only [gb,ge];clear g6 g9 ef ki hx gb ge;simp only [an,aB];have hU:=aR.cell 0 rfl;have hW:=aR.free 0;have fe:=ae (af z1 (af z2 (af z3 (af z4 (af z5 (af z6 (af z7 (af z8 (af z9 (af c0 (af c2 (af cv (af cw (af cx (af aR (af c4 (af x1 (af R (d5.out w1 R)))))))))))))))))));have g8:=ae (jH EL.m);clear z1 z2 z3 z4 z5 z6 z7 z8 z9 c0 c2 cv cw cx aR c4 x1 R d5 d7 hA hR;go_wp2;obtain ⟨W5,cA⟩:∃W5,w1.setCell Xc (.pointer (some ⟨y,0,none⟩))=W5:=⟨_,rfl⟩;rw [cA];clear hU hW;obtain ⟨p1,p2,p3,p5,p6,p7,p8,p9,cr,ct,bd,aI,bK,cd,bj⟩:=HP.out;obtain ⟨q1,q2,bi,ap,hN⟩:=HQ.out;obtain ⟨aC,cZ,bS⟩:=fk.out;obtain ⟨z1,z2,z3,z4,z5,z6,z7,z8,z9,c0,c2,cv,cw,cx,aR,c4,x1,ak,g4,g5⟩:=fe.out;obtain ⟨hi,O,hT,a7,aT,bl,hc,hl,ax,a8,bk,ad,a5,aW,hG,aj,a0,hO,bm,aq,bO⟩:=HA.out;obtain ⟨bx,bX,bL,bM,b7,cf,bZ,b0,cg,bo,bs,bv⟩:=HB.out;have hh:=ae (g8.out W5);clear g8;gi_wp2;refine dZ (hh.out.mono ?_);rintro e W7 ⟨rfl,ej⟩;clear hh;have dF:J7 W5 W7:=by rw [ej];exact (Kb _ W5).alloc _
 have jt:ay W7 W5.heap.size [EL.m] 165:=by rw [ej];exact ay.new W5 _ _
 have ex:W7.heap.size=W5.heap.size+1:=by rw [ej];exact aY _
 clear ej;have dx:Fr (fun k=>k=Xc) w1 W5:=by rw [<-cA];exact (Kb (fun k=>k=Xc) w1).setCell Xc (.inl rfl) _
 have lu:=dx.size;have gF:=aR.lt;have cG:=ak.size;have jN:W4.heap.size<=w1.heap.size:=cG;have av:Fr (fun k=>k=Xc) w1 W7:=dx.trans dF J8;have aO:J7 w3 W7:=((aC.trans ((Kb (fun _=>False) W4).drew) J8).trans ak J8).trans av (fun k J=> .inr (by omega));have aN:J7 w2 W7:=q2.trans aO J8;have d4:=q2.size;have jK:y≠Xc:=fun e=>x1 (by rw [e])
 have e8:wb≠Xc:=fun e=>by
  obtain ⟨D,⟨es,fU,hb,_⟩,_⟩:=z3;rw [e] at hb;have cn:w1.heap[Xc]? =some (.cells #[.pointer none] 55 (0,0)):=aR;rw [hb] at cn
  cases cn
 have eZ:sb≠Xc:=fun e=>by
  obtain ⟨D,⟨es,fU,hb,_⟩,_⟩:=z4;rw [e] at hb;have cn:w1.heap[Xc]? =some (.cells #[.pointer none] 55 (0,0)):=aR;rw [hb] at cn
  cases cn
 have eS:mv≠Xc:=fun e=>by
  have hb:w1.heap[mv]? =some (.cells (Ao (List.replicate U false)).toArray 4 (0,0)):=z2;have cn:w1.heap[Xc]? =some (.cells #[.pointer none] 55 (0,0)):=aR;rw [e,cn] at hb;simp at hb
 obtain ⟨c,ca⟩:∃c:Cy,c=⟨y,m,F,Tp,T,P,B,Rm,ah,pl,EL,mv,U,wb,sb,w2.heap.size,w3.heap.size⟩:=⟨_,rfl⟩;obtain ⟨x,cq⟩:∃x:I7,x=⟨w.heap.size,w.heap.size+1,Xc,W5.heap.size,b,g⟩:=⟨_,rfl⟩;obtain ⟨hp,hf,hg,cW⟩:=hl.heads;have Y:=(bR m Pg W Fs Us Hg mp).lt _ _ _ p1;have ih:∀k,S2 k->S k\/w1.heap.size<=k\/(W1.heap.size<=k/\k<w2.heap.size):=fun k J=>(p2 k J).imp id (fun h=> .inr ⟨by omega,Y k J⟩)
 have dn:=p5.lt;have jm:=p5.small.2;have hZ:Hw c x W E (rs.map φ) W7:=by
  rw [ca,cq];refine ⟨⟨p5.frame aN (fun _ _ h=>h),aE bK aN id,jt⟩,bi.frame aO id,ap.frame aO id,?_,?_,z2.frame av eS,q1.Qb aO,cd.frame aN id id⟩
  ·have:=aR.set 0 (.pointer (some ⟨y,0,none⟩));rw [cA] at this;exact ay.frame this dF id
  ·exact ay.frame z1 av jK
 have eg:∀k,Ax c x k->k<W7.heap.size/\¬S2 k/\k≠wb/\k≠sb:=by
  rw [ca,cq];have dS:∀k,k<w.heap.size+2->¬S k->¬S2 k:=fun k H C h3=>by
   rcases p2 k h3 with h4|h4
   ·exact C h4
   ·omega
  have cT:¬S w.heap.size/\¬S (w.heap.size+1):=⟨fun h=>by have:=a5 _ h;omega,fun h=>by have:=a5 _ h;omega⟩;have ne:=z2.lt;have nw:=z1.lt;rintro k (h|h|h|h|h|h|h|h|h|h|h)
  ·have:=dn k h;exact ⟨by omega,fun C=>p3 k C h,by omega,by omega⟩
  all_goals (try dsimp only at h)
  ·have h3:=z3.lt;have h4:=z4.lt;exact ⟨by omega,fun C=>by have:=Y k C;omega,by omega,by omega⟩
  ·exact ⟨by omega,by rw [h];exact dS _ (by omega) cT.1,by omega,by omega⟩
  ·exact ⟨by omega,by rw [h];exact dS _ (by omega) cT.2,by omega,by omega⟩
  ·exact ⟨by omega,fun C=>by have:=Y k C;omega,by omega,by omega⟩
  ·exact ⟨by omega,fun C=>by have:=Y k C;omega,by omega,by omega⟩
  ·exact ⟨by omega,fun C=>by have:=Y k C;omega,by omega,by omega⟩
  ·exact ⟨by omega,fun C=>by have:=Y k C;omega,by omega,by omega⟩
  ·exact ⟨by omega,by rw [h];exact dS _ (by omega) aT.1,by omega,by omega⟩
  ·exact ⟨by omega,by rw [h];exact dS _ (by omega) aT.2,by omega,by omega⟩
  ·exact ⟨by omega,by rw [h];exact dS _ (by omega) a7,by omega,by omega⟩
 have h7:tQ m Pg W Fs Us Hg mp L E hp hf hg c (DH E W 0) [] (fun k=>S2 k\/k=wb\/k=sb) W7:=by
  have H:tQ m Pg W Fs Us Hg mp L E hp hf hg c 0 [] (fun k=>S2 k\/k=wb\/k=sb) W7:=by
   rw [ca];exact ⟨S2,fun _=>none,0,0,fun _=>none,fun k=>dO,fun h=>by have C:wb<w2.heap.size:=Y _ h;omega,fun h=>by have C:sb<w2.heap.size:=Y _ h;omega,z7,(bR m Pg W Fs Us Hg mp).Qb p1 aN,z3.frame av e8,fun q=>Dt.symm,ao _,z4.frame av eZ,ao _,fun x hx=>absurd hx bF⟩
  exact H.skip (ao _) (zI p5.apart p5.top (fun j x h=>absurd h (gK j)))
 have gp:IT m Pg W Fs Us Hg mp L E hp hf hg c x (rs.map φ) [] (fun k=>S2 k\/k=wb\/k=sb) W7:=⟨fun k J hb=>by
  obtain ⟨_,C,h3,h4⟩:=eg k hb;rcases J with h|h|h
  ·exact C h
  ·exact h3 h
  ·exact h4 h,hZ,h7⟩
 have cp:gm W7.heap.size (IT m Pg W Fs Us Hg mp L E hp hf hg c x (rs.map φ)):=IT.stays (fun k J=>(eg k J).1);have gw:∀k,(S2 k\/k=wb\/k=sb)->k<W7.heap.size:=fun k J=>by
  have h3:=z3.lt;have h4:=z4.lt;rcases J with h|h|h
  ·have:=Y k h;omega
  ·omega
  ·omega
 have dm:∀a,E a≠0->∃z,Reach A.gr rs z/\φ z=a/\E a=A.sz z:=fun a ha=>by
  obtain ⟨z,H,C⟩:=bj.some a ha;exact ⟨z,H,C,by rw [<-C];exact bj.size z H⟩
 have hH:=ae (fun (s n:Nat) (I:List (Nat×Nat)) (hx:(cj E W)[I.length]? =some (s,n))=>(show lw L s (hp s) (hf s) (hg s)/\1<=s/\cX W Pg mp s/\s+n<=524288/\n=E s/\(∀i,i<n->aw E (s+i)=true)/\DH E W I.length=s/\(∀i,s+n<=i->i<DH E W (I.length+1)->aw E i=false)/\s+n<=DH E W (I.length+1) from by
  obtain ⟨m1,m2,m3⟩:=dG.1 (ar hx);dsimp only at m1 m2 m3;obtain ⟨z,H,C,h3⟩:=dm s m2;have h4:=hl.Qm z H;have h5:=cW z H;have nt:1<=A.sz z:=by unfold AG.sz;omega
  rw [C] at h4 h5;have gC:=p5.apart;refine ⟨by rw [h5.1,h5.2.1,h5.2.2,<-C];exact hl.head z H,by have:=hl.one;omega,aj s h4.1 (by omega),by omega,m3,fun i hi=>oA (by omega),DG hx,zI gC p5.top (fun j x hj ls=>DF gC hx j x hj ls),?_⟩;unfold DH
  cases hn:(cj E W)[I.length+1]? with
  |none=>
   have:=p5.top s m2;dsimp only;omega
  |some y=>
   have h6:=uo hn hx (cl _);obtain ⟨_,y2,_⟩:=dG.1 (ar hn);have:=gC s y.1 h6 m2 y2;dsimp only;omega))
 have eN:=ae (fun (s n:Nat) (I:List (Nat×Nat)) (bn:I=(cj E W).take I.length) (hx:(cj E W)[I.length]? =some (s,n))=>(show∀x∈I,x.1<s from fun x hm=>by rw [bn] at hm;exact kM hx hm));have cM:Hid (c.EL=EL/\x.tb=W5.heap.size/\c.m=m/\c.wb=wb/\c.sb=sb/\c.y=y/\x.c3=w.heap.size/\x.Xc=Xc/\x.c5=w.heap.size+1):=ae (by rw [ca,cq];exact ⟨rfl,rfl,rfl,rfl,rfl,rfl,rfl,rfl,rfl⟩);have b4:=ae (fun S1 w1 (hm:dJ m Pg W Fs Us Hg mp L S1 w1)=>jy hm.choose_spec.1);have hQ:=ae (fun S1 w1 s (hm:dJ m Pg W Fs Us Hg mp L S1 w1) (H:lw L s (hp s) (hf s) (hg s)) (C:1<=s) (h3:cX W Pg mp s)=>mM hm s (hp s) (hf s) (hg s) C h3 H);have cy:=ae eg;have ey:=ae (af aN (af aO (af av (af ca (af cq (af cW (af dm (af Y ex))))))));clear dm bx aN aO av ca cq cW Y ih dn p1 p2 p3 p5 p6 p7 p8 p9 cr ct bd aI bK cd bj q1 q2 bi ap hN aC cZ bS z1 z2 z3 z4 z5 z6 z7 z8 z9 c0 c2 cv cw cx aR c4 x1 ak g4 g5 hi O hT a7 aT bl hc hl ax a8 bk ad a5 aW hG aj a0 hO bm aq bO bX bL bM b7 cf bZ b0 cg bo bs bv dF jt ex dx lu gF cG jN d4 jK e8 eZ eS hZ eg h7 cA;gi_wp2;refine iU (gf:=161) (lb:= #[W5.heap.size]) rfl (enters_of func161 (by kernel_rfl) rfl) (encs:=mX) (fun _=>rfl) (jI (L:=EL) (tb:=W5.heap.size) (E:=E) jm) (fun I S w=>I=(cj E W).take I.length/\IT m Pg W Fs Us Hg mp L E hp hf hg c x (rs.map φ) I S w) (fun k=>S2 k\/k=wb\/k=sb) ?stay ?reads gw ⟨rfl,gp⟩
  ?a1 ?assign ?body ?done
 case stay=>exact fun I S W1 W2 T h hf hT=>⟨h.1,cp I S W1 W2 T h.2 hf hT⟩
 case reads=>
  intro I S W h;have:=h.2.2.1.all;rwa [cM.out.1,cM.out.2.1] at this
 case assign=>
  intro k x W K hK;unfold mX;gi_wp2;exact hK
 case body=>
  intro l I S9 xx W9 hI cC dM hs;obtain ⟨s,n⟩:=xx;obtain ⟨o1,o2,o3,o4,o5,o6,o7,o8,o9⟩:=hH.out s n I cC;clear o5;have bn:=eN.out s n I hI.1 cC;have gM:=cC;have fd:=dM.size;obtain ⟨g0,i1,i2,i3⟩:=hI;have bc:=i3.lt;rw [o7] at i3;obtain ⟨Z,fw,nn,ns,f,m1,m2,m3,m4,m5,m6,m7,m8,m9,cu,ci⟩:=i3;obtain ⟨e0,dc,e1,e2,e3,e4,e5,e6,e7⟩:=cM.out;rw [e2] at m2 m6;rw [e3] at m3 m9;have bH:=m9.lt;have cH:=m6.lt;have i7:=(bR m Pg W Fs Us Hg mp).lt _ _ _ m5;have dw:∀k,(Z k\/k=sb)->¬Ax c x k:=fun k J=>i1 k ((m1 k).2 (by rw [e2,e3];exact J.elim .inl (fun h=> .inr (.inr h))))
  have cN:∀w',Fr (fun k=>Z k\/k=sb) W9 w'->Hw c x W E (rs.map φ) w':=fun w' hf=>i2.frame hf dw
  have HW:=ae (fun w' (hf:Fr (fun k=>Z k\/k=sb\/W9.heap.size<=k) W9.drew w')=>(show w'.cell? Xc=some y/\w'.cell? ⟨y,15,none⟩=some (.map (some sb))/\w'.cell? w.heap.size=some m from by
   have h:=cN w' ((((Kb (fun k=>Z k\/k=sb\/W9.heap.size<=k) W9).drew).trans hf (fun _ h=> .inl h)).mono (fun k h=>h.elim (fun h=> .inl (.inl h)) (fun h=>h.elim (fun h=> .inl (.inr h)) .inr)));have H:=h.b13.cell 0 rfl;have C:w'.cell? ⟨c.y,15,none⟩=some (.map (some c.sb)):=ay.cell h.y 15 rfl;have h3:=h.b3.cell 0 rfl;rw [e6,e4] at H;rw [e4,e3] at C;rw [e5,e1] at h3;exact ⟨H,C,h3⟩))
  have d0:¬(Z sb\/W9.heap.size<=sb):=fun h=>h.elim m3 (fun h=>by omega)
  have fu:=ae ((bR m Pg W Fs Us Hg mp).Qb m5 ((Kb (fun _=>False) W9).drew));have hL:=ae (fun w1 (R:Fr (fun k=>Z k\/W9.heap.size<=k) W9.drew w1/\∀S1,(∀k,S1 k->Z k\/W9.heap.size<=k)->dJ m Pg W Fs Us Hg mp L S1 W9.drew->∃S2,(∀k,S2 k->Z k\/W9.heap.size<=k)/\dJ m Pg W Fs Us Hg mp L S2 w1)=>(show∃w',(Instr.mapUpdate 175 (.map (some sb)) (.int .i64 s) (ft ((hp s:Nat):Int) ((hf s:Nat):Int) ((hg s:Nat):Int))).run prog w1= .ok () w'/\iz w' sb (ns+1) (jf f s (hp s,hf s,hg s))/\(∃S1,(∀k,S1 k->Z k\/W9.heap.size<=k)/\dJ m Pg W Fs Us Hg mp L S1 w')/\Fr (fun k=>Z k\/k=sb\/W9.heap.size<=k) w1 w' from by
   have H:=(m9.frame ((Kb (fun _=>False) W9).drew) id).frame R.1 d0;have no:I.length<=524288:=by
    rw [g0,dY];have:=ro E W;have:=HB.out.2.2.1;omega
   obtain ⟨w',r1,r2,r3⟩:=H.put s (hp s) (hf s) (hg s) (by omega) (by omega);obtain ⟨S2,a1,a2⟩:=R.2 Z (fun _ h=> .inl h) fu.out;refine ⟨w',r1,r2,⟨S2,a1,(cD m Pg W Fs Us Hg mp) _ _ _ _ _ a2 r3 (fun k J e=> ?_)⟩,r3.mono (fun k h=> .inl (.inr (.inl h)))⟩;subst e;rcases a1 _ J with h|h
   ·exact m3 h
   ·omega))
  have hy:=ae (af i1 (af i2 (af m1 (af m2 (af m3 (af m4 (af m6 (af m7 (af m8 (af cu (af ci (af bn (af bH (af cH (af bc (af dw cN))))))))))))))));clear dM hs cC bc i1 i2 m1 m2 m4 m5 m6 m7 m8 m9 cu ci e0 dc e1 e2 e3 e4 e5 e6 e7 bH cH i7 dw cN cp gp gw bn;gi_wp2;refine lM 13 12 (fun a b=>Fr (fun k=>Z k\/k=sb\/W9.heap.size<=k) a b) (fun a b=>Fr (fun k=>Z k\/W9.heap.size<=k) a b/\∀S1,(∀k,S1 k->Z k\/W9.heap.size<=k)->dJ m Pg W Fs Us Hg mp L S1 a->∃S2,(∀k,S2 k->Z k\/W9.heap.size<=k)/\dJ m Pg W Fs Us Hg mp L S2 b) [.c y,.c y,.c (.pointer (some ⟨y,15,none⟩)),.c (.map (some sb)),.c (s:Int),.c m,.c (.iface 52 (.pointer (some ⟨m,0,none⟩))),.c (s:Int),.c (.tuple #[ft ((hp s:Nat):Int) ((hf s:Nat):Int) ((hg s:Nat):Int),(0:Int)]),.c (.tuple #[ft ((hp s:Nat):Int) ((hf s:Nat):Int) ((hg s:Nat):Int),(0:Int)]),.c (ft ((hp s:Nat):Int) ((hf s:Nat):Int) ((hg s:Nat):Int)),.c (0:Int),.p (fun _ w'=>iz w' sb (ns+1) (jf f s (hp s,hf s,hg s))/\∃S1,(∀k,S1 k->Z k\/W9.heap.size<=k)/\dJ m Pg W Fs Us Hg mp L S1 w')] (fun j=>false) (by kernel_rfl) (fun _=>⟨Kb _ _,fun S1 H C=>⟨S1,H,C⟩⟩) (fun _ _ h=>h.1.mono (fun _ h=> .inl (h.imp id .inr))) (fun _ _ _ H C=>⟨H.1.trans C.1 (fun _ h=> .inl h),fun S1 a b=>let ⟨S2,a2,b2⟩:=H.2 S1 a b;C.2 S2 a2 b2⟩) (fun _ _ _ H C=>H.trans C.1 (fun _ h=> .inl (h.imp id .inr))) (fun _ _ _ H C=>(H.1.mono (fun _ h=> .inl (h.imp id .inr))).trans C (fun _ h=> .inl h)) (fun _ _ h=>h.size) ⟨fun _ w1 w2 h O=>⟨h.1.frame O.1 d0,let ⟨S1,a,b⟩:=h.2;O.2 S1 a b⟩,trivial⟩ ⟨.inl rfl,trivial⟩ ?_;intro F hF;simp only [il,PK.val,Kc,aa] at hF;subst hF;refine ⟨by
   refine ⟨?_,?_,?_,?_,?_,?_,?_,?_,?_,?_,?_,?_,?_,trivial⟩<;>intro vs w1 R ak hd hx
   all_goals try (apply oV;rotate_left;rfl;exact ⟨Kb _ _,fun S1 H C=>⟨S1,H,C⟩⟩;go_simp;done)
   all_goals try (apply oV;rotate_left;rfl;exact ⟨Kb _ _,fun S1 H C=>⟨S1,H,C⟩⟩;obtain ⟨t1,t2,t3⟩:=HW.out w1 R;go_simp;done)
   ·obtain ⟨S3,u1,u2⟩:=(ak (by kernel_rfl)).2 Z (fun _ h=> .inl h) fu.out;refine bh 80 #[.iface 52 (.pointer (some ⟨m,0,none⟩)),(s:Int)] (by go_simp) ((hQ.out S3 w1 s u2 o1 o2 o3).mono ?_);rintro e w5 ⟨rfl,S4,v1,v2,v3⟩;have lx:=R.size;exact ⟨_,rfl,rfl,⟨v2.mono (fun k J=> .inl (u1 k J)),fun S1 H C=>⟨S4,fun k J=>(v3 k J).elim (u1 k) (fun h=> .inr (aH lx h)),v1⟩⟩,fun h=>nomatch h⟩
   ·obtain ⟨w5,mh,v1,v2,v3⟩:=hL.out w1 (ak (by kernel_rfl));refine fZ (w':=w5) (by go_simp) ⟨⟨v1,v2⟩,v3,fun h=>nomatch h⟩
   ,fun vs w1 R hp hx=> ?_⟩
  obtain ⟨di,_⟩:=hp;have di:=di;clear hx;obtain ⟨i1,i2,m1,m2,m3,m4,m6,m7,m8,cu,ci,bn,bH,cH,bc,dw,cN⟩:=hy.out;obtain ⟨e0,dc,e1,e2,e3,e4,e5,e6,e7⟩:=cM.out;obtain ⟨y1,S1,y2,y3⟩:=di;have cc:Fr (fun k=>Z k\/k=sb) W9 w1:=(((Kb (fun k=>Z k\/k=sb\/W9.heap.size<=k) W9).drew).trans R (fun _ h=> .inl h)).mono (fun k h=>h.elim (fun h=> .inl (.inl h)) (fun h=>h.elim (fun h=> .inl (.inr h)) .inr));have eP:tQ m Pg W Fs Us Hg mp L E hp hf hg c s (I++[(s,n)]) (fun k=>S1 k\/k=c.wb\/k=c.sb) w1:=by
   rw [<-e3] at y1 cc bH m3;rw [<-e2] at m2 m6;exact tQ.head m2 m3 m4 m6 m7 m8 cu ci bn y2 cc y3 y1 bH
  have eO:=cN w1 cc;have ig:∀k,(S1 k\/k=c.wb\/k=c.sb)->S9 k\/W9.heap.size<=k:=fun k J=>by
   rcases J with h|h
   ·exact (y2 k h).imp (fun h=>(m1 k).2 (.inl h)) id
   ·exact .inl ((m1 k).2 (.inr h))
  have dI:Fr S9 W9 w1:=cc.mono (fun k J=> .inl ((m1 k).2 (by rw [e2,e3];exact J.elim .inl (fun h=> .inr (.inr h)))));have hM:=ae (af eO (af eP (af ig dI)));have fA:=ae (af i1 (af bc o8));have mi:IntKind.i64.wrap ((s:Int)+(n:Int))=(s:Int)+(n:Int):=by rw [IntKind.wrap_i64];omega
  have fs:=ae o6;have fv:=ae o9;have fx:=ae g0;have kb:=ae fd;have fl:=ae gM;clear i1 i2 m1 m2 m3 m4 m6 m7 m8 cu ci bn bH cH bc dw cN e0 dc e1 e2 e3 e4 e5 e6 e7 y1 y2 y3 cc eP eO ig dI R o1 o3 o6 o7 o8 o9 HW fu hL hy d0 g0 fd;gi_wp2
  gi_loopw [16] (fun z wr=>∃(a:Nat) (S1:Nat->Prop),z= .int .i64 a/\s<=a/\a<=s+n/\Hid (Hw c x W E (rs.map φ) wr/\tQ m Pg W Fs Us Hg mp L E hp hf hg c a (I++[(s,n)]) S1 wr/\(∀k,S1 k->S9 k\/W9.heap.size<=k)/\Fr S9 W9 wr)) (fun z _=>(s+n-intOf z).toNat)
  case atStart=>exact ⟨s,_,rfl,ag _,dX _ _,hM⟩
  case round=>
   clear hM;obtain ⟨a,S1,rfl,kC,kD,O⟩:=hrel;by_cases i4:a<s+n
   ·have c1:(a:Int)<(s:Int)+(n:Int):=by omega
    obtain ⟨f1,f2,f3,f4⟩:=O.out;obtain ⟨e0,dc,e1,e2,e3,e4,e5,e6,e7⟩:=cM.out;have eT:1<=Pg:=HB.out.1;have i5:aw E a=true:=by
     have:=fs.out (a-s) (by omega);rwa [show s+(a-s)=a by omega] at this
    have gj:=f2.frame ((Kb (fun _=>False) wr).drew) (fun _ _ h=>h);obtain ⟨V,m0,co,wn,ev,i8,gL⟩:=gj.word i5 (by omega) eT;have kY:wr.cell? Xc=some y:=by
     have H:=f1.b13.cell 0 rfl;rwa [e6,e4] at H
    have k7:wr.cell? ⟨y,14,none⟩=some (.map (some wb)):=by
     have C:wr.cell? ⟨c.y,14,none⟩=some (.map (some c.wb)):=ay.cell f1.y 14 rfl;rwa [e4,e2] at C
    have k8:wr.cell? w.heap.size=some m:=by
     have h3:=f1.b3.cell 0 rfl;rwa [e5,e1] at h3
    rw [e2] at co ev gL;have el:(a:Int).tdiv (Pg:Int)=((a/Pg:Nat):Int):=fF _ _;have iO:¬Pg=0:=by omega
    have h8:a/Pg<=524288:=aH (aX _ _) (by omega);have fa:¬Ax c x wb:=fun h=>(cy.out wb h).2.2.1 rfl
    have eI:=ae (fun w' (he:w'=wr.drew)=>(show Calls prog 114 #[m] w' fun e w5=>e= .returned (Pg:Int)/\w'=w5 from by
     subst he;obtain ⟨Z,_,_,_,_,_,_,_,_,m5,_⟩:=gj;exact b4.out Z _ m5))
    have eD:=ae i8;have hE:=ae (fun w' (dM:Fr (fun k=>k=wb) wr.drew w')=>(show Hw c x W E (rs.map φ) w'/\Fr S9 W9 w' from by
     refine ⟨f1.frame (((Kb (fun _=>False) wr).drew.mono (S':=fun k=>k=wb) J8).trans dM (fun _ h=> .inl h)) (fun k J hb=>fa (J▸hb)),?_⟩;refine (f4.trans ((Kb (fun _=>False) wr).drew) J8).trans dM (fun k J=> ?_);subst J;obtain ⟨Z,_,_,_,_,m1,_⟩:=f2;exact f3 _ ((m1 _).2 (.inr (.inl e2.symm)))))
    have j6:=ae f3;have ix:((V+1:Nat):Int)=(V:Int)+1:=by push_cast;rfl
    rw [ix] at ev;have lo:IntKind.i64.wrap ((V:Int)+1)=(V:Int)+1:=by rw [IntKind.wrap_i64];omega
    generalize a/Pg=Q at co ev el h8;have lm:IntKind.i64.wrap (Q:Int)=(Q:Int):=by rw [IntKind.wrap_i64];omega
    clear f1 f2 f3 f4 e0 dc e1 e2 e3 e4 e5 e6 e7 i5 gj i8 fa O fA fs fv fx fl;gi_wp2;refine lM 11 10 (fun a b=>Fr (fun k=>k=wb) a b) (fun a b=>b=a) [.c y,.c y,.c (.pointer (some ⟨y,14,none⟩)),.c (.map (some wb)),.c (a:Int),.c m,.c (Pg:Int),.c (Q:Int),.c (V:Int),.c (.int .i64 ((V:Int)+1)),.p (fun _ w'=>tQ m Pg W Fs Us Hg mp L E hp hf hg c (a+1) (I++[(s,n)]) S1 w')] (fun j=>false) (by kernel_rfl) (fun _=>rfl) (fun _ _ h=>by subst h;exact Kb _ _) (fun _ _ _ H C=>C.trans H) (fun _ _ _ H C=>by subst C;exact H) (fun _ _ _ H C=>by subst H;exact C) (fun _ _ h=>h.size) ⟨fun _ w1 w2 h O=>by subst O;exact h,trivial⟩ ⟨.inl rfl,trivial⟩ ?_;intro F hF;simp only [il,PK.val,Kc,aa] at hF;subst hF;refine ⟨by
     refine ⟨?_,?_,?_,?_,?_,?_,?_,?_,?_,?_,?_,trivial⟩<;>intro vs w1 R ak hd hx
     all_goals try (apply oV;rotate_left;rfl;exact rfl;go_simp;done)
     all_goals try (apply oV;rotate_left;rfl;exact rfl;have d3:=ak (by kernel_rfl);subst d3;go_simp;done)
     ·have d3:=ak (by kernel_rfl);refine bh 114 #[m] (by go_simp) ((eI.out w1 d3).mono ?_);rintro e w5 ⟨rfl,rfl⟩;exact ⟨_,rfl,rfl,rfl,fun h=>nomatch h⟩
     ·have d3:=ak (by kernel_rfl);subst d3;refine fZ (w':=wn) (by go_simp) ⟨eD.out,gL,fun h=>nomatch h⟩
     ,fun vs w1 R hp hx=> ?_⟩
    obtain ⟨ef,_⟩:=hp;clear hx;obtain ⟨y1,y2⟩:=hE.out w1 R;have j7:=ae (af y1 (af ef (af j6.out y2)));clear y1 y2 ef R hE eD eI ev gL co kY k7 k8 el iO h8 lo lm ix eT;gi_wp2;go_roundw
    case rel=>exact ⟨a+1,S1,by go_num,by omega,by omega,j7⟩
    case measure=>simp [intOf];omega
   ·have c1:¬(a:Int)<(s:Int)+(n:Int):=by omega
    obtain ⟨f1,f2,f3,f4⟩:=O.out;obtain ⟨i1,bc,o8⟩:=fA.out;have iA:a=s+n:=by omega
    have j5:Hid (E9 (fun I S w=>I=(cj E W).take I.length/\IT m Pg W Fs Us Hg mp L E hp hf hg c x (rs.map φ) I S w) (I++[(s,n)]) S9 W9 wr):=by
     refine ae ⟨S1,⟨pk fx.out fl.out,fun k J hb=> ?_,f1,?_⟩,f4,f3⟩
     ·rcases f3 k J with h|h
      ·exact i1 k h hb
      ·have:=(cy.out k hb).1;have:=kb.out;omega
     ·rw [aU,be];subst iA;exact f2.skip fv.out o8
    clear f1 f2 f3 f4 i1 bc o8 O fA fs fv fx fl iA kC kD;gi_wp2;exact j5.out
 case done=>
  intro D S9 W9 hI hD kv iv gJ jk;obtain ⟨_,i1,i2,i3⟩:=hI;rw [F0] at i3;obtain ⟨Z,fw,nn,ns,f,m1,m2,m3,m4,m5,m6,m7,m8,m9,cu,ci⟩:=i3;obtain ⟨aN,aO,av,ca,cq,cW,dm,Y,ex⟩:=ey.out;have eH:=cy.out;clear cM hH eN b4 hQ cy ey cp gp gw;subst ca;subst cq;dsimp only at m1 m2 m3 m4 m6 m9;obtain ⟨p1,p2,p3,p5,p6,p7,p8,p9,cr,ct,bd,aI,bK,cd,bj⟩:=HP.out;obtain ⟨q1,q2,bi,ap,hN⟩:=HQ.out;obtain ⟨aC,cZ,bS⟩:=fk.out;obtain ⟨z1,z2,z3,z4,z5,z6,z7,z8,z9,c0,c2,cv,cw,cx,aR,c4,x1,ak,g4,g5⟩:=fe.out;obtain ⟨hi,O,hT,a7,aT,bl,hc,hl,ax,a8,bk,ad,a5,aW,hG,aj,a0,hO,bm,aq,bO⟩:=HA.out;obtain ⟨bx,bX,bL,bM,b7,cf,bZ,b0,cg,bo,bs,bv⟩:=HB.out;have k9:∀(fn:Fn) (first cap:Array Value) (w:World),(Instr.makeFunc fn first cap).run prog w= .ok (.func fn first cap) w:=fun _ _ _ _=>rfl
  have jX:=gJ.size;have a6:∀k,Z k->¬Ax _ _ k:=fun k J=>i1 k ((m1 k).2 (.inl J))
  have cG:W4.heap.size<=w1.heap.size:=ak.size;have d4:=q2.size;have jM:=aO.size;have jL:=av.size;have l3:=z3.lt;have l4:=z4.lt;have l2:=z2.lt;have l1:=z1.lt;have lc:=aR.lt;have kV:g<w.heap.size/\b<w.heap.size:=⟨b0,bZ⟩;have gN:∀k,Ax ⟨y,m,F,Tp,T,P,B,Rm,ah,pl,EL,mv,U,wb,sb,w2.heap.size,w3.heap.size⟩ ⟨w.heap.size,w.heap.size+1,Xc,W5.heap.size,b,g⟩ k->k<W7.heap.size:=fun k J=>(eH k J).1
  have hS:=ae (pr 116 #[y] #[] (enters_of func116 (by kernel_rfl) rfl) (fun am w'=>am=((rs.map φ).take am.length).map (te (goes E T) id)/\Fr (fun k=>k=g) W9 w') i2.roots ⟨rfl,Kb _ _⟩
   (fun am wa l6 ⟨j1,j2⟩ hf=>⟨j1,j2.trans hf (fun k h=> .inl h)⟩)
   (fun am wa ⟨j1,j2⟩ hz=>⟨by
    rw [aU,be,bC,hz];rw [dd,<-j1];rfl,j2⟩)
   (fun am a wa er ⟨j1,j2⟩ ha h0=>by
    have i6:=ar ha;obtain ⟨z,hz,rfl⟩:=bw.1 i6;have jY:Reach A.gr rs z:= .root hz (fun e=>h0 (by rw [e];exact hl.zero));have i0:=hl.live bj jY (i:=0) (by unfold AG.sz;omega);rw [aP] at i0;have nd:=hl.Qm z jY;have nx:1<=A.sz z:=by unfold AG.sz;omega
    refine (zw (ay.frame i2.y j2 (fun e=>by dsimp only at e;omega)) (i2.Xh.frame j2 (fun i hi=>by dsimp only;omega)) (by dsimp only;omega) (φ z) i0 (by have:=hc.F3;omega)).mono ?_;rintro e l6 ⟨rfl,iD⟩;refine ⟨goes E T (φ z),rfl,er.frame iD id id,?_,j2.trans iD J8⟩;rw [aU,be,bC,ha,dd,<-j1];show _=am++[te (goes E T) id (φ z)]
    unfold te;rw [if_neg h0];rfl))
  have iw:¬Z wb/\¬Z sb:=⟨m2,m3⟩;have ds:∀k,Z k->S2 k\/W7.heap.size<=k:=fun k J=>by
   rcases jk k ((m1 k).2 (.inl J)) with h|h
   ·rcases h with h|h|h
    ·exact .inl h
    ·exact absurd J (h▸m2)
    ·exact absurd J (h▸m3)
   ·exact .inr h
  have dk:¬Z D:=fun h=>iv ((m1 D).2 (.inl h))
  have Xf:∀(o wr:World) (q:Nat),Fr (fun k=>k=g) W9 o->qL m Pg W Fs mp L (fun r=>decide (nY E Pg W r=0)) (F/Pg) Z o q wr->∀(bb:Nat) (cs:List Value) (t:TypeId),Ax ⟨y,m,F,Tp,T,P,B,Rm,ah,pl,EL,mv,U,wb,sb,w2.heap.size,w3.heap.size⟩ ⟨w.heap.size,w.heap.size+1,Xc,W5.heap.size,b,g⟩ bb->bb≠g->ay W9 bb cs t->ay wr bb cs t:=by
   rintro o wr q H ⟨_,_,_,_,_,_,C,_⟩ bb cs t h3 h4 h5;exact (h5.frame H h4).frame C (fun h=>a6 bb h h3)
  have fg:Hid (∀(o wr:World) (q:Nat),Fr (fun k=>k=g) W9 o->qL m Pg W Fs mp L (fun r=>decide (nY E Pg W r=0)) (F/Pg) Z o q wr->wr.cell? Xc=some y/\wr.cell? ⟨y,14,none⟩=some (.map (some wb))/\wr.cell? w.heap.size=some m/\wr.cell? ⟨w.heap.size+1,0,none⟩=some (F:Int)/\wr.cell? ⟨w.heap.size+1,1,none⟩=some (Tp:Int)/\
    (q<4611686018427387904->(Instr.lookup 174 (.map (some wb)) (.int .i64 q) false).run prog wr= .ok (.int .i64 ((nY E Pg W q:Nat):Int)) wr)):=by
   show∀(o wr:World) (q:Nat),_
   intro o wr q H C;have hB:=Xf o wr q H C;refine ⟨(hB _ _ _ (.inr (.inr (.inr (.inr (.inl rfl))))) (by dsimp only;omega) i2.b13).cell 0 rfl,(hB _ _ _ (.inr (.inr (.inr (.inr (.inr (.inl rfl)))))) (by dsimp only;omega) i2.y).cell 14 rfl,(hB _ _ _ (.inr (.inr (.inl rfl))) (by dsimp only;omega) i2.b3).cell 0 rfl,(hB _ _ _ (.inr (.inr (.inr (.inl rfl)))) (by dsimp only;omega) i2.b5).cell 0 rfl,(hB _ _ _ (.inr (.inr (.inr (.inl rfl)))) (by dsimp only;omega) i2.b5).cell 1 rfl,fun hq=> ?_⟩;obtain ⟨_,_,_,_,_,_,h3,_⟩:=C;have:=((m6.frame H (by omega)).frame h3 m2).look q hq;rwa [m7] at this
  have fi:Hid (∀(o wr:World) (q:Nat),Fr (fun k=>k=g) W9 o->qL m Pg W Fs mp L (fun r=>decide (nY E Pg W r=0)) (F/Pg) Z o q wr->wr.heap[D]? =some (.deferred (some []))):=by
   show∀(o wr:World) (q:Nat),_
   rintro o wr q H ⟨_,_,_,_,_,_,h3,_⟩;exact h3.heap (H.heap hD (fun e=>by omega)) dk
  have fI:=ae (fun (o:World) (H:Fr (fun k=>k=g) W9 o)=>(show qL m Pg W Fs mp L (fun r=>decide (nY E Pg W r=0)) (F/Pg) Z o (F/Pg) o from qL.start ((cD m Pg W Fs Us Hg mp) _ _ _ _ _ m5 H (fun k J e=>a6 k J (by rw [e];exact .inr (.inr (.inr (.inr (.inr (.inr (.inr (.inr (.inr (.inl rfl))))))))))))));have gn:F=F/Pg*Pg:=by have:=az F Pg;have:=hc.F4;rw [bg];omega
  have fj:=ae (fun (o wr:World) (q:Nat) (hu:qL m Pg W Fs mp L (fun r=>decide (nY E Pg W r=0)) (F/Pg) Z o q wr) (h0:nY E Pg W q=0) (h:q*Pg<Tp) (hq:F/Pg<=q)=>qL.drop hu (decide_eq_true h0) (by
    rw [a8,decide_eq_true (show F<=q*Pg by rw [gn];exact aG Pg hq),decide_eq_true h];rfl) (by
    have C:W=W/Pg*Pg:=by have:=az W Pg;rw [bg];omega
    have h3:q*Pg<W/Pg*Pg:=by have:=hc.F3;omega
    exact eC h3) hq)
  have fB:=ae (fun (o wr:World) (q:Nat) (hu:qL m Pg W Fs mp L (fun r=>decide (nY E Pg W r=0)) (F/Pg) Z o q wr) (h0:nY E Pg W q≠0)=>qL.skip hu (decide_eq_false h0));have c9:Hid (∀(o wr:World) (am:List Nat) (q:Nat),am.length=(rs.map φ).length->cz o b g am->am=((rs.map φ).take am.length).map (te (goes E T) id)->Fr (fun k=>k=g) W9 o->qL m Pg W Fs mp L (fun r=>decide (nY E Pg W r=0)) (F/Pg) Z o q wr->Tp<=q*Pg->sq m b g Pg W Fs A rs T P B ah S w (.returned (.tuple #[y,(0:Int)])) (wr.putObj D (.deferred none))):=by
   show∀(o wr:World) (am:List Nat) (q:Nat),_
   intro o wr am q a1 a2 a3 a4 hu gV;have mg:=Xf o wr q a4 hu;obtain ⟨g7,kd,l0,S',⟨M,u0,u1⟩,u2,u3,u4⟩:=hu;have em:Fr (fun k=>k=D) wr (wr.putObj D (.deferred none)):=(Kb _ wr).putObj _ _ (.inl rfl);have mj:=a4.size;have mk:=u3.size;have gt:∀k,S' k->(Z k\/o.heap.size<=k)/\k≠D:=fun k J=>⟨u4 k J,fun e=>by
    rcases u4 k J with h|h
    ·exact dk (e▸h)
    ·have h6:=(bE.1 (a4.heap hD (fun e=>by omega))).1;omega⟩
   have bD:Fr (fun k=>k=g\/Z k\/k=D) W9 (wr.putObj D (.deferred none)):=((a4.mono (S':=fun k=>k=g\/Z k\/k=D) (fun k h=> .inl (.inl h))).trans u3 (fun k h=> .inl (.inr (.inl h)))).trans em (fun k h=> .inl (.inr (.inr h)));have d2:∀k,Ax ⟨y,m,F,Tp,T,P,B,Rm,ah,pl,EL,mv,U,wb,sb,w2.heap.size,w3.heap.size⟩ ⟨w.heap.size,w.heap.size+1,Xc,W5.heap.size,b,g⟩ k->k≠g->¬(k=g\/Z k\/k=D):=fun k J hg h=>by
    rcases h with h|h|h
    ·exact hg h
    ·exact a6 k h J
    ·have:=gN k J;omega
   obtain ⟨L',l,s1,s2,s3,s4,s5,s6,s7⟩:=Bi (hf:=hf) (hg:=hg) (Rm:=Rm) hc bx bM bL aq hl bj p5.apart cW ax a8 bk gV u2 u1;obtain ⟨j3,gW,lA⟩:=i2.all;dsimp only at j3 gW lA;have mw:N=A.Wd l:=by omega
   have dU:U=oZ (Qc (aw E) 0 W) B:=by rw [bS,hN]
   have dn:=p5.lt;have jj:am=rs.map (te (goes E T) φ):=by
    rw [a3,a1,iQ,kZ];refine dP (fun z hz=> ?_);show (if φ z=0 then 0 else goes E T (φ z))=if z=0 then 0 else goes E T (φ z)
    by_cases h0:z=0
    ·rw [if_pos h0,if_pos (by rw [h0];exact hl.zero)]
    ·rw [if_neg h0,if_neg (by have:=hl.pos (.root hz h0);omega)]
   have ms:(P-T)/Pg*Pg=P-T:=by
    have H:(P-T)% Pg=0:=by
     have mx:=hc.T4;have mo:=hc.L4;obtain ⟨u,hu⟩:∃u,T=u*Pg:=⟨T/Pg,by have:=az T Pg;rw [bg];omega⟩;obtain ⟨v,hv⟩:∃v,P=v*Pg:=⟨P/Pg,by have:=az P Pg;rw [bg];omega⟩;rw [hu,hv,<-jc];exact pY _ _
    have:=az (P-T) Pg;rw [bg];omega
   refine ⟨⟨y,m,F,Tp,T,P,B,Rm,ah,pl,EL,mv,U,wb,sb,w2.heap.size,w3.heap.size⟩,⟨E,hp,T,W,Pg,B,(P-T)/Pg,ah⟩,hf,hg,te (goes E T) φ,L',fun k=>S' k\/Cy.has ⟨y,m,F,Tp,T,P,B,Rm,ah,pl,EL,mv,U,wb,sb,w2.heap.size,w3.heap.size⟩ k,l,rfl,rfl,rfl,rfl,rfl,rfl,rfl,rfl,?cyt,?cys,s2,s5,s4,?rts,?Qo,?foot,?fr,by have H:=ap.lt;have C:=bD.size;have h3:=aC.size;omega,s3⟩
   case cyt=>
    refine ⟨s6,s7,?_,?_,bk,?_,dU,rfl,?_,hc.B2,hc.a1⟩
    ·show T+A.Wd l<=T+(P-T)/Pg*Pg
     omega
    ·show T+Qc (aw E) 0 W<=T+A.Wd l
     omega
    ·show T<=524288
     omega
    ·show Qc (aw E) 0 W<=524288
     omega
   case cys=>
    have ld:(⟨E,hp,T,W,Pg,B,(P-T)/Pg,ah⟩:dE).nb=U:=dU.symm;rw [ld];refine ⟨g7,kd,S',l0,M,fw,nn,⟨?_,u0.frame em (fun k J e=>(gt k J).2 e),?_,?_,?_,?_,?_,⟨ns,f,?_,?_⟩,?_,?_,?_,rfl,rfl,bB⟩,?_,fun r=> ?_,?_,fun k=>dO⟩
    ·exact ay.frame i2.y bD (d2 _ (.inr (.inr (.inr (.inr (.inr (.inl rfl)))))) (by dsimp only;omega))
    ·exact i2.Xh.frame bD (fun i hi=>by
      dsimp only;rcases hi with h|h|h
      ·omega
      ·by_cases hx:w2.heap.size<=i/\i<w3.heap.size
       ·exact absurd (.inr (.inr (.inr (.inr (.inr (.inr (.inr (.inl hx)))))))) (a6 i h)
       ·omega
      ·omega)
    ·exact j3.frame bD (fun k J=>d2 k (.inl J) (fun e=>by have:=dn k J;have:=HP.out.2.2.2.2.2.2.1 k J;omega))
    ·exact aE gW bD (d2 _ (.inr (.inr (.inr (.inr (.inr (.inr (.inr (.inr (.inr (.inr rfl)))))))))) (Ne.symm bl))
    ·exact i2.mv.frame bD (d2 _ (.inr (.inr (.inr (.inr (.inr (.inr (.inl rfl))))))) (by dsimp only;omega))
    ·exact m6.frame bD (fun h=>by
      rcases h with h|h|h
      ·omega
      ·exact m2 h
      ·omega)
    ·exact m9.frame bD (fun h=>by
      rcases h with h|h|h
      ·omega
      ·exact m3 h
      ·omega)
    ·exact fun a ha=>(show E a≠0->_ from fun ek=>ci (a,E a) (dG.2 ⟨by have:=p5.top a ek;omega,ek,rfl⟩)) ha
    ·show w3.heap.size<=(wr.putObj D (.deferred none)).heap.size
     have:=em.size;omega
    ·intro k J;have h5:=(gt k J).1;have dN:∀k',Ax ⟨y,m,F,Tp,T,P,B,Rm,ah,pl,EL,mv,U,wb,sb,w2.heap.size,w3.heap.size⟩ ⟨w.heap.size,w.heap.size+1,Xc,W5.heap.size,b,g⟩ k'->k≠k':=fun k' iF e=>by
      rcases h5 with h|h
      ·exact a6 k h (e▸iF)
      ·have:=gN k' iF;omega
     refine ⟨fun hx=> ?_,dN _ (.inr (.inr (.inr (.inr (.inr (.inr (.inr (.inr (.inr (.inr rfl))))))))))⟩;rcases hx with h|h|h|h|h|h
     ·exact dN _ (.inr (.inr (.inr (.inr (.inr (.inl rfl)))))) h
     ·exact dN _ (.inr (.inr (.inr (.inr (.inr (.inr (.inl rfl))))))) h
     ·dsimp only at h;rcases h5 with h6|h6
      ·exact m2 (h▸h6)
      ·omega
     ·dsimp only at h;rcases h5 with h6|h6
      ·exact m3 (h▸h6)
      ·omega
     ·exact dN k (.inl h) rfl
     ·exact dN k (.inr (.inr (.inr (.inr (.inr (.inr (.inr (.inl h)))))))) rfl
    ·have dr:∀k,EL.has k->k<w2.heap.size:=dn;refine ⟨⟨?_,?_,?_,fun h=> ?_,fun h=> ?_,?_⟩,⟨?_,?_,fun h=> ?_,fun h=> ?_,?_⟩,⟨?_,fun h=> ?_,fun h=> ?_,?_⟩⟩
     ·exact cv
     ·exact cw
     ·exact cx
     ·have:=dr _ h;dsimp only at this;omega
     ·dsimp only at h;omega
     ·show y≠ch
      omega
     ·exact z5
     ·exact z6
     ·have:=dr _ h;dsimp only at this;omega
     ·dsimp only at h;omega
     ·show mv≠ch
      omega
     ·exact z7
     ·have:=dr _ h;dsimp only at this;omega
     ·dsimp only at h;omega
     ·show wb≠ch
      omega
    ·rw [Jh];have:=s1;rwa [<-dU] at this
    ·rw [m7,Jh];exact zF (s:=⟨E,hp,T,W,Pg,B,(P-T)/Pg,ah⟩) bx (fun a ha=>by
      have ek:aw E a=true:=ha;obtain ⟨s,ny,nP⟩:=cE.1 ek;have:=p5.top s (by omega);show a<W
      omega) r
    ·omega
   case rts=>
    rw [<-jj];have kE:Ax ⟨y,m,F,Tp,T,P,B,Rm,ah,pl,EL,mv,U,wb,sb,w2.heap.size,w3.heap.size⟩ ⟨w.heap.size,w.heap.size+1,Xc,W5.heap.size,b,g⟩ b:= .inr (.inr (.inr (.inr (.inr (.inr (.inr (.inr (.inl rfl))))))));have kU:Ax ⟨y,m,F,Tp,T,P,B,Rm,ah,pl,EL,mv,U,wb,sb,w2.heap.size,w3.heap.size⟩ ⟨w.heap.size,w.heap.size+1,Xc,W5.heap.size,b,g⟩ g:= .inr (.inr (.inr (.inr (.inr (.inr (.inr (.inr (.inr (.inl rfl)))))))));exact (a2.frame u3 (fun h=>a6 b h kE) (fun h=>a6 g h kU)).frame em (fun e=>by omega) (fun e=>by omega)
   case Qo=>exact aE gW bD (d2 _ (.inr (.inr (.inr (.inr (.inr (.inr (.inr (.inr (.inr (.inr rfl)))))))))) (Ne.symm bl))
   case foot=>
    intro k J;rcases J with h|h
    ·rcases (gt k h).1 with h|h
     ·rcases ds k h with h|h
      ·rcases p2 k h with h|h
       ·exact .inl h
       ·exact .inr (by omega)
      ·exact .inr (by omega)
     ·exact .inr (by omega)
    ·right;rcases h with h|h|h|h|h|h
     ·dsimp only at h;omega
     ·dsimp only at h;omega
     ·dsimp only at h;omega
     ·dsimp only at h;omega
     ·have:=p8 k h;omega
     ·dsimp only at h;omega
   case fr=>
    have g1:Fr (fun k=>S k\/k=g) w w2:=((a0.trans ck.out J8).mono (S':=fun k=>S k\/k=g) J8).trans p9 (fun k h=> .inl (.inl h));have g2:Fr (fun k=>S k\/k=g) w W7:=g1.trans aN J8;have eR:∀k,S2 k->(S k\/k=g)\/w.heap.size<=k:=fun k h=>by
     rcases p2 k h with h|h
     ·exact .inl (.inl h)
     ·exact .inr (by omega)
    have g3:Fr (fun k=>S k\/k=g) w W9:=g2.trans gJ (fun k h=>by
     rcases h with h|h|h
     ·exact eR k h
     ·exact .inr (by omega)
     ·exact .inr (by omega))
    exact g3.trans bD (fun k h=>by
     rcases h with h|h|h
     ·exact .inl (.inr h)
     ·rcases ds k h with h|h
      ·exact eR k h
      ·exact .inr (by omega)
     ·exact .inr (by omega))
  have lB:W9.cell? Xc=some y:=i2.b13.cell 0 rfl;have el:(F:Int).tdiv (Pg:Int)=((F/Pg:Nat):Int):=fF _ _;have iO:¬Pg=0:=by omega
  have nm:Pg<=256:=bX;have md:Tp<=524288:=by have:=hc.F3;omega
  have kx:F<=524288:=by have:=hc.F2;omega
  have kB:F/Pg<=524288:=aH (aX _ _) kx;have gs:F/Pg*Pg<Tp+Pg:=by have:=hc.F2;omega
  generalize kA:F/Pg=QF at fg fi fI fj fB c9 el kB gs;clear kA;have nv:IntKind.i64.wrap (QF:Int)=(QF:Int):=by rw [IntKind.wrap_i64];omega
  clear ds dk Xf iw gn gN l1 l2 l3 l4 lc jL jM d4 cG a6 jX kV eH bx bX bL bM b7 cf bZ b0 cg bo bs bv hi O hT a7 aT bl hc hl ax a8 bk ad a5 aW hG aj a0 hO bm aq bO z1 z2 z3 z4 z5 z6 z7 z8 z9 c0 c2 cv cw cx aR c4 x1 ak g4 g5 aC cZ bS q1 q2 bi ap hN p1 p2 p3 p5 p6 p7 p8 p9 cr ct bd aI bK cd bj aN aO av cW dm Y ex m1 m2 m3 m4 m5 m6 m7 m8 m9 cu ci i1 i2 hD kv iv gJ jk HP HQ fk fe HA HB ff a9 ck;gi_wp2;refine dZ (hS.out.mono ?_);rintro e o ⟨rfl,am,i9,er,jd,cb⟩;have d9:=ae (fI.out o cb);have b1:=ae (fun q wr hu=>fg.out o wr q cb hu);have c6:=ae (fun q wr hu=>fi.out o wr q cb hu);have c8:=ae (fun q wr hu hq=>c9.out o wr am q i9 er jd cb hu hq);have c7:=ae (fun q wr hu=>fj.out o wr q hu);have db:=ae (fun q wr hu=>fB.out o wr q hu);clear i9 er jd cb fI fg fi c9 fj fB hS lB k9;obtain ⟨t1,t2,t3,t4,t5,t6⟩:=b1.out _ _ d9.out;have b4:=ae ((d9.out.Fh ((Kb _ o).drew)).pg);clear t1 t2 t5 t6;gi_wp2;refine wpIn_wide.2 ?_;refine eY 6 (fun a b=>b=a) [.c (.pointer (some ⟨w.heap.size+1,0,none⟩)),.c (F:Int),.c m,.c (Pg:Int),.c (.int .i64 ((QF:Nat):Int)),.c (.int .i64 ((QF:Nat):Int))] (fun j=>false) (by kernel_rfl) (fun _=>rfl) (fun _ _ _ H C=>C.trans H) (fun _ _ h=>by rw [h];exact ag _) trivial ?_;intro F hF;simp only [il,PK.val,Kc,aa] at hF;subst hF;refine ⟨by
   refine ⟨?_,?_,?_,?_,?_,?_,trivial⟩<;>intro vs w1 R ak hd hx
   all_goals try (apply oV;rotate_left;rfl;exact rfl;go_simp;done)
   all_goals try (apply oV;rotate_left;rfl;exact rfl;subst R;go_simp;done)
   ·subst R;refine bh 114 #[m] (by go_simp) (b4.out.mono ?_);rintro e w2 ⟨rfl,rfl⟩;exact ⟨_,rfl,rfl,rfl,fun h=>nomatch h⟩
   ,fun vs w1 R hp hx=> ?_⟩
  subst R;clear hx b4;simp only [an,aB];clear t3 t4;go_wp2;gi_wp2
  gi_loopw [17] (fun z wr=>∃q:Nat,z= .int .i64 q/\QF<=q/\q*Pg<Tp+Pg/\q<=524288+1/\Hid (qL m Pg W Fs mp L (fun r=>decide (nY E Pg W r=0)) QF Z o q wr)) (fun z _=>(524288+2-intOf z).toNat)
  case atStart=>exact ⟨QF,rfl,ag _,gs,by omega,ae (d9.out.Fh ((Kb _ o).drew))⟩
  case round=>
   clear d9 gs;obtain ⟨q,rfl,gV,np,nq,O⟩:=hrel;obtain ⟨t1,t2,t3,t4,t5,t6⟩:=b1.out q _ O.out;have b4:=ae (O.out.Fh ((Kb _ _).drew)).pg;have cm:=ae (O.out.Fh ((Kb _ wr).drew));obtain ⟨X,hX⟩:∃X,X=q*Pg:=⟨_,rfl⟩;have iy:(q:Int)*(Pg:Int)=(X:Int):=by rw [hX];push_cast;rfl
   have na:X<=1048576:=by omega
   have R:IntKind.i64.wrap ((q:Int)*(Pg:Int))=(X:Int):=by rw [iy,IntKind.wrap_i64];omega
   have nr:q<=X:=by rw [hX];exact cF q (by omega)
   have HN:Hid (X<Tp->(q+1)*Pg<Tp+Pg):=by
    show X<Tp->_
    intro h;rw [dh,<-hX];omega
   have ea:=ae hX;clear hX iy O t6;gi_wp2;refine wpIn_wide.2 ?_;refine eY 7 (fun a b=>b=a) [.c (q:Int),.c m,.c (Pg:Int),.c (X:Int),.c (.pointer (some ⟨w.heap.size+1,1,none⟩)),.c (Tp:Int),.c (.bool (decide ((X:Int)<(Tp:Int))))] (fun j=>false) (by kernel_rfl) (fun _=>rfl) (fun _ _ _ H C=>C.trans H) (fun _ _ h=>by rw [h];exact ag _) trivial ?_;intro F hF;simp only [il,PK.val,Kc,aa] at hF;subst hF;refine ⟨by
    refine ⟨?_,?_,?_,?_,?_,?_,?_,trivial⟩<;>intro vs w1 R ak hd hx
    all_goals try (apply oV;rotate_left;rfl;exact rfl;go_simp;done)
    all_goals try (apply oV;rotate_left;rfl;exact rfl;subst R;go_simp;done)
    ·subst R;refine bh 114 #[m] (by go_simp) (b4.out.mono ?_);rintro e w2 ⟨rfl,rfl⟩;exact ⟨_,rfl,rfl,rfl,fun h=>nomatch h⟩
    ,fun vs w1 R hp hx=> ?_⟩
   subst R;clear hx b4;simp only [an,aB];go_wp2;clear t1 t2 t3 t4 t5;obtain ⟨t1,t2,t3,t4,t5,t6⟩:=b1.out q _ cm.out;by_cases i4:X<Tp
   ·have c1:(X:Int)<(Tp:Int):=by omega
    have hC:=ae (HN.out i4);have co:=t6 (by omega);have iP:q*Pg<Tp:=by have:=ea.out;omega
    have d6:=ae (fun h0=>c7.out q _ cm.out h0 iP gV);have d8:=ae (fun h0=>db.out q _ cm.out h0);clear t4 t5 t6 HN ea cm iP R b1 c6 c8 c7 db;obtain ⟨V,hV⟩:∃V,V=nY E Pg W q:=⟨_,rfl⟩;rw [<-hV] at co d6 d8;clear hV;by_cases h0:V=0
    ·have ho:=ae (d6.out h0);subst h0;rw [show ((0:Nat):Int)=0 from rfl] at co;clear d8 d6;gi_wp2;refine dZ (ho.out.mono ?_);rintro e w9 ⟨rfl,hu⟩;have fN:=ae hu;clear hu ho co t1 t2 t3;gi_wp2;go_roundw
     case rel=>exact ⟨q+1,by go_num,by omega,hC.out,by omega,fN⟩
     case measure=>simp [intOf];omega
    ·have fN:=ae (d8.out h0);have mm:¬(V:Int)=0:=by omega
     have mn:((V:Int)==0)=false:=by rw [beq_eq_false_iff_ne];omega
     clear d8 d6;gi_wp2;go_roundw
     case rel=>exact ⟨q+1,by go_num,by omega,hC.out,by omega,fN⟩
     case measure=>simp [intOf];omega
   ·have c1:¬(X:Int)<(Tp:Int):=by omega
    have ck:=ae (c8.out q _ cm.out (by have:=ea.out;omega));have j4:=ae (c6.out q _ cm.out);clear t2 t3 t4 t5 t6 HN ea cm R b1 c6 c8 c7 db;gi_wp2;refine ⟨by simp,.inl ⟨_,_,rfl,run_takeDeferred j4.out,?_⟩⟩;refine ⟨_,results_tmp2 rfl _ _ _,?_⟩;exact ck.out
end
end Go.Proofs.YtgnoapadkncphaaGreatDoor
