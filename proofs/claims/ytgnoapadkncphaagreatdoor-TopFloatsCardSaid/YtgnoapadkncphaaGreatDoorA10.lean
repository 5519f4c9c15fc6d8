import Derived.Test.YtgnoapadkncphaaGreatDoorA0
import Derived.Test.YtgnoapadkncphaaGreatDoorA3
import Derived.Test.YtgnoapadkncphaaGreatDoorA4
import Derived.Test.YtgnoapadkncphaaGreatDoorA6
import Derived.Test.YtgnoapadkncphaaGreatDoorA7
import Derived.Test.YtgnoapadkncphaaGreatDoorA9
import Derived.Deep.RegionHeld3
import Derived.Laws.BitsLemmas
import Derived.IntWalk
set_option maxRecDepth 100000
set_option maxHeartbeats 8000000
set_option linter.all false
namespace Go.Proofs.YtgnoapadkncphaaGreatDoor
open Go.RowKit Go.Proofs.Tryz
def Ha(b:Nat)(c:Cf)(A:AG)(rs l0:List Nat)(s k p f g:Nat)(T:Nat->Prop)(w:World)(e:Ending)(w':World):Prop:=
 (A.Wd l0+(1+(p+f+g))<=c.Wd/\e= .returned (0:Int)/\∃u n T',eF b c (A.new k p f g) (rs.set s k) u n T' w'/\Fr T w w'/\∀k,T' k->T k\/w.heap.size<=k)\/
 (c.Wd<A.Wd l0+(1+(p+f+g))/\e= .returned (21:Int)/\∃u n T',eF b c A rs u n T' w'/\Fr T w w'/\∀k,T' k->T k\/w.heap.size<=k)
section
variable{b u n s k p f g:Nat}{c:Cf}{A A':AG}{rs rs' l0:List Nat}{T:Nat->Prop}{w w':World}
theorem El(j:eF b c A rs u n T w):w.cell? b=some (.int .i64 (c.kind:Int))/\∃a:Option Nat,w.cell? ⟨b,11,none⟩=some (lZ a)/\(a=none->n=0)/\(n=0->a=none):=by
 obtain ⟨h,φ,L,Ba,o,a,ns,l,S,rfl,i,m,d⟩:=j;refine ⟨ay.cell i.Qd 0 rfl,a,ay.cell i.Qd 11 rfl,fun e=> ?_,d⟩;subst e;exact i.mem.1
theorem pH(hi:eF b c A rs u n T w)(hl:dt A rs l0)(hs:s<c.Sl)(V:dD p f g)(a2:k≠0)(a4:¬Reach A.gr rs k):Calls prog 5 #[b,(s:Int),ft p f g] w (Ha b c A rs l0 s k p f g T w):=by
 obtain ⟨W1,aq⟩:∃W1,w.alloc (.cells #[(p:Int),(f:Int),(g:Int)] 32)=W1:=⟨_,rfl⟩;have r:J7 w W1:=by rw [<-aq];exact (Kb _ w).alloc _
 have ar:ay W1 w.heap.size [(p:Int),(f:Int),(g:Int)] 32:=by rw [<-aq];exact ay.new w _ _
 have ax:=hi.Qb r;have aU:=hi.lt;have aX:=hi.cf;obtain ⟨rb,v,HN,k9,HG⟩:∃rb v,Hid (Calls prog 16 #[b] W1 fun e w'=>e= .returned (.bool false)/\W1=w')/\W1.cell? ⟨b,9,none⟩=some (.pointer (some ⟨rb,0,none⟩))/\Hid (Calls prog 17 #[.pointer (some ⟨rb,0,none⟩),(s:Int)] W1 fun e w'=>e= .returned (.tuple #[(v:Int),(0:Int)])/\J7 W1 w'):=by
  obtain ⟨h,φ,L,Ba,G,x,ns,F,S,rfl,X,hT,bi⟩:=ax;have a5:s<(rs.map φ).length:=by rw [cQ,X.Sl];exact hs
  exact ⟨h.rb,(rs.map φ)[s],ae (gk X.Qd),ay.cell X.Qd 9 rfl,ae (vo X.roots s _ (aC a5))⟩
 obtain ⟨sz,aH⟩:∃sz,sz=1+(p+f+g):=⟨_,rfl⟩;have a9:fO p f g=(sz:Int):=by unfold fO;rw [if_pos V,aH];push_cast;omega
 have E:1<=sz/\sz<=1024:=by unfold dD at V;omega
 have ad:Hid (∀w1,Calls prog 18 #[ft p f g] w1 (nu w1 0)):=ae (fun w1=>by have:=iM p f g w1;rwa [if_pos V] at this);have ao:Hid (∀w1,Calls prog 20 #[ft p f g] w1 (jn w1 (sz:Int))):=ae (fun w1=>by have:=iK p f g w1;rwa [a9] at this);have aT:Hid (∀w1,J7 W1 w1->Calls prog 19 #[b,(sz:Int)] w1 (xg b c A rs l0 sz T w1)):=ae (fun w1 hf=>D7 (ax.Qb hf) hl E.1 E.2);have HB:=ae (fun w1 (hf:J7 W1 w1)=>ar.frame hf id);have bg:=ae r;have ah:Hid (∀w1 w2 u n D,J7 W1 w1->c.Wd<A.Wd l0+sz->eF b c A rs u n D w2->Fr T w1 w2->(∀k,D k->T k\/w1.heap.size<=k)->Ha b c A rs l0 s k p f g T w (.returned (21:Int)) w2):=by
  show∀w1 w2 u n D,_
  intro w1 w2 u n D R h2 h3 h4 h5;have hz:=(r.trans R J8).size;exact .inr ⟨by omega,rfl,u,n,D,h3,((r.trans R J8).mono J8).trans h4 (fun _ h=> .inl h),fun k hk=>(h5 k hk).imp id (fun h=>by omega)⟩
 have J:Hid (∀w1 w2 a u n D,J7 W1 w1->IX b c A rs u sz n D w2 a->Fr T w1 w2->(∀k,D k->T k\/w1.heap.size<=k)->ay w2 w.heap.size [(p:Int),(f:Int),(g:Int)] 32/\∃m,(∀w3,J7 w2 w3->w3.cell? ⟨b,8,none⟩=some (.pointer (some ⟨m,0,none⟩))/\True)/\∀w3,J7 w2 w3->Calls prog 21 #[.iface 52 (.pointer (some ⟨m,0,none⟩)),(a:Int),ft p f g] w3 fun e w'=>e= .returned (0:Int)/\w3.heap.size<=w'.heap.size/\∃d,Jv b c A rs (A.new k p f g) (rs.set s k) (u+sz) n d s a w'/\Fr T w w'/\∀k,d k->T k\/w.heap.size<=k):=by
  show∀w1 w2 a u n D,_
  intro w1 w2 a u n D R h2 h3 h4;have bc:ay w2 w.heap.size [(p:Int),(f:Int),(g:Int)] 32:=(ar.frame R id).frame h3 (fun h=>by have:=aU _ h;omega);have h8:∀w3,J7 w2 w3->∃m,w3.cell? ⟨b,8,none⟩=some (.pointer (some ⟨m,0,none⟩))/\Calls prog 21 #[.iface 52 (.pointer (some ⟨m,0,none⟩)),(a:Int),ft p f g] w3 (Ib b c A rs (A.new k p f g) (rs.set s k) (u+sz) n D s a w3):=fun w3 hf=>IC (h2.Qb hf) aH V a2 a4
  obtain ⟨m,g1,_⟩:=h8 w2 (Kb _ _);refine ⟨bc,m,fun w3 hf=> ?_,fun w3 hf=> ?_⟩
  ·have hm:∃h φ L Ba G x ns F S,h.b=b/\lp (fun _=>True) h c A rs φ L Ba (u+sz) G x n ns F S w2:=let ⟨h,φ,L,Ba,G,x,ns,F,S,q1,O,_⟩:=h2;⟨h,φ,L,Ba,G,x,ns,F,S,q1,O⟩
   obtain ⟨h,φ,L,Ba,G,x,ns,F,S,rfl,O⟩:=hm;have e1:=ay.cell O.Qd 8 rfl;rw [g1] at e1;rw [e1];exact ⟨ay.cell (O.Qb hf).Qd 8 rfl,trivial⟩
  ·obtain ⟨m',g3,g4⟩:=h8 w3 hf;have em:m'=m:=by
    have hm:∃h φ L Ba G x ns F S,h.b=b/\lp (fun _=>True) h c A rs φ L Ba (u+sz) G x n ns F S w2:=let ⟨h,φ,L,Ba,G,x,ns,F,S,q1,O,_⟩:=h2;⟨h,φ,L,Ba,G,x,ns,F,S,q1,O⟩
    obtain ⟨h,φ,L,Ba,G,x,ns,F,S,rfl,O⟩:=hm;have e1:=ay.cell O.Qd 8 rfl;have e2:=ay.cell (O.Qb hf).Qd 8 rfl;rw [g1] at e1;rw [g3] at e2;have e3:=e2.trans e1.symm;exact Addr.mk.inj (bK (Value.pointer.inj (bK e3)))|>.1
   rw [em] at g4;refine g4.mono ?_;rintro e w' ⟨rfl,d,r1,r2,r3⟩;have bj:=(r.trans R J8).size;have bk:=h3.size;have bl:=hf.size;exact ⟨rfl,r2.size,d,r1,((((r.trans R J8).mono J8).trans h3 (fun _ h=> .inl h)).trans hf J8).trans r2 (fun k hk=>(h4 k hk).imp id (fun h=>by omega)),fun k hk=>(r3 k hk).elim (fun h=>(h4 k h).imp id (fun h=>by omega)) (fun h=> .inr (by omega))⟩
 have am:Hid (∀w1 u n a d,Jv b c A rs (A.new k p f g) (rs.set s k) u n d s a w1->∃rb,w1.cell? ⟨b,9,none⟩=some (.pointer (some ⟨rb,0,none⟩))/\Calls prog 22 #[.pointer (some ⟨rb,0,none⟩),(s:Int),(a:Int)] w1 fun e w'=>e= .returned (0:Int)/\eF b c (A.new k p f g) (rs.set s k) u n d w'/\Fr d w1 w'):=ae (fun w1 u n a d hh=>IB hh hs);have ap:Hid (A.Wd l0+sz<=c.Wd->∀w1 u n d,eF b c (A.new k p f g) (rs.set s k) u n d w1->Fr T w w1->(∀k,d k->T k\/w.heap.size<=k)->Ha b c A rs l0 s k p f g T w (.returned (0:Int)) w1):=ae (fun hf w1 u n d R h2 h3=> .inl ⟨by omega,rfl,u,n,d,R,h2,h3⟩);have ba:Hid ((prog.info? 32).map (·.size)=some 3):=by show _=_;kernel_rfl
 have bd:=aX.1.Zh;clear hi ax hl hs V a2 a4 ar aU aX a9 aH E r;generalize A.new k p f g=A2 at*;generalize rs.set s k=rs2 at*;generalize (Ha b c A rs l0 s k p f g T w)=Q at*;unfold ft at ad ao J ⊢
 go_enter func5,ntmps5
 go_wp2_with fail
 refine HN.out.mono ?_;rintro e w1 ⟨rfl,rfl⟩;clear HN aq;go_wp2_with fail
 refine HG.out.mono ?_;rintro e w1 ⟨rfl,av⟩;obtain ⟨c0,c1,c2⟩:=eB (HB.out w1 av);have aO:=ae av;clear HG k9 av;go_wp2_with fail
 refine (ad.out w1).mono ?_;rintro e w2 ⟨rfl,a0⟩;have ag:=ae (aO.out.trans a0 J8);obtain ⟨c0,c1,c2⟩:=eB (HB.out w2 ag.out);clear a0 aO ad;go_wp2_with fail
 refine (ao.out w2).mono ?_;rintro e w3 ⟨rfl,a1⟩;have z:=ae (ag.out.trans a1 J8);have C:=ae (aT.out w3 z.out);clear a1 ag ao aT HB;go_wp2_with fail
 refine C.out.mono ?_;rintro e w4 (⟨U,a,u2,n2,T2,rfl,ha,hf,ht⟩|⟨a7,rfl,u2,n2,T2,W,hf,ht⟩)
 ·obtain ⟨aW,m,h8,a6⟩:=J.out w3 w4 a u2 n2 T2 z.out ha hf ht;have t:=ae (ap.out U);have bb:=(h8 w4.drew ((Kb (fun _=>False) w4).drew)).1;obtain ⟨Z,hZ⟩:∃Z:World->Prop,Z=fun w'=>∃d,Jv b c A rs A2 rs2 (u2+sz) n2 d s a w'/\Fr T w w'/\∀k,d k->T k\/w.heap.size<=k:=⟨_,rfl⟩
  have aP:Hid (Calls prog 21 #[.iface 52 (.pointer (some ⟨m,0,none⟩)),(a:Int),.agg #[(p:Int),(f:Int),(g:Int)]] w4.drew fun e w'=>e= .returned (0:Int)/\w4.drew.heap.size<=w'.heap.size/\Z w'):=by
   rw [hZ];exact ae (a6 w4.drew ((Kb (fun _=>False) w4).drew))
  have aI:=ae aW.drew;have HZ:=ae hZ;clear J ap ah U ha hf ht aW h8 a6 hZ z C;go_wp2;refine bz (fun w'=>w'=w4.drew) 7 (by kernel_rfl) rfl ?_;simp only [Kc];refine aL [b,b,.pointer (some ⟨b,8,none⟩)] ?_
  iterate 3 (refine aM rfl (fun w9 h9=>by go_simp) ?_;simp only [aa])
  refine aK ?_;refine ai m rfl (fun w' X=>by subst X;go_simp) ?_;simp only [aa];refine aL [.iface 52 (.pointer (some ⟨m,0,none⟩)),(a:Int)] ?_
  iterate 2 (refine aM rfl (fun w9 h9=>by go_simp) ?_;simp only [aa])
  refine aK ?_;refine ai (.agg #[(p:Int),(f:Int),(g:Int)]) rfl (fun w' X=>by subst X;exact eX rfl w.heap.size rfl 32 _ (0,0) _ aI.out underlying32 rfl ba.out) ?_;simp only [aa];refine wpQuiet_nil ?_;rintro w1 rfl;go_wp2_with fail
  refine aP.out.mono ?_;rintro e w1 ⟨rfl,_,Xf⟩;rw [HZ.out] at Xf;obtain ⟨T3,g1,g2,g3⟩:=Xf;obtain ⟨bo,k9,a8⟩:=am.out w1 _ _ a T3 g1;have P:=ae a8;have I:=ae (af g2 g3);clear am a8 HZ aP aI g1 g2 g3 bb;go_wp2_with fail
  refine P.out.mono ?_;rintro e w6 ⟨rfl,j,aY⟩;clear P k9;have o:Fr T w w6:=I.out.1.trans aY I.out.2;have q:=I.out.2;obtain ⟨k0,x,N,M,aG⟩:=El j;have ak:=ae (t.out w6 _ _ T3 j o q);clear I aY;by_cases az:c.kind=1
  ·cases x with
   |some y=>
    rw [az] at k0;rw [show lZ (some y)= .pointer (some ⟨y,0,none⟩) from rfl] at N;clear M aG j o q t;go_wp2;exact ak.out
   |none=>
    obtain rfl:=M rfl;rw [az] at k0;rw [show lZ none= .pointer none from rfl] at N;have aN:=ae (Ef j);have aR:Hid (∀Y,J7 w6 Y->Q (.returned (0:Int)) Y/\Calls prog 24 #[b] Y fun e w8=>e= .returned (.tuple #[])/\Q (.returned (0:Int)) w8):=by
     show∀Y,_
     intro Y i;refine ⟨t.out Y _ _ T3 (j.Qb i) (o.trans i J8) q,(rM (j.Qb i) az).mono ?_⟩;rintro e w8 ⟨rfl,l,n8,T8,_,r1,r2,r3⟩;have bm:=o.size;have bn:=i.size;exact ⟨rfl,t.out w8 _ _ T8 r1 ((o.trans i J8).trans r2 q) (fun k hk=>(r3 k hk).elim (q k) (fun h=> .inr (by omega)))⟩
    clear M aG j o q t ak;go_wp2_with fail
    refine aN.out.mono ?_;rintro e Y ⟨B,rfl,i⟩;obtain ⟨W,V⟩:=aR.out Y i;have aS:=ae W;have aj:=ae V;clear aN aR W V i k0 N
    cases B with
    |false=>
     clear aj;go_wp2;exact aS.out
    |true=>
     clear aS;go_wp2_with fail
     refine aj.out.mono ?_;rintro e w8 ⟨rfl,W⟩;have H:=ae W;clear aj W;go_wp2;exact H.out
  ·have a3:¬(c.kind:Int)=1:=by omega
   have be:((c.kind:Int)==1)=false:=by rw [beq_eq_false_iff_ne];exact a3
   clear M aG j o q t N bd;generalize (c.kind:Int)=K at*;go_wp2;exact ak.out
 ·have H:=ae (ah.out w3 w4 u2 n2 T2 z.out a7 W hf ht);clear J ap ah a7 W hf ht z C am;go_wp2;exact H.out
end
def dC(b:Nat)(c:Cf)(A':AG)(rs':List Nat)(T:Nat->Prop)(w w':World):Prop:=∃u n T',eF b c A' rs' u n T' w'/\Fr T w w'/\∀k,T' k->T k\/w.heap.size<=k
def I3(m:Nat):Option Nat->Value
 |none=> .iface 52 (.pointer (some ⟨m,0,none⟩))
 |some y=> .iface 55 (.pointer (some ⟨y,0,none⟩))
section
variable{b u n s x:Nat}{c:Cf}{A:AG}{rs:List Nat}{T:Nat->Prop}{w w':World}
theorem ce.slot{φ L:Nat->Nat}{lo a z:Nat}(h:ce A rs φ L lo a)(e:z=0\/Reach A.gr rs z):ce A (rs.set s z) φ L lo a:=h.less (fun _ d=>sW e d)
theorem lp.slot{h:Hp}{φ L:Nat->Nat}{Ba j:Nat}{g:Option Nat}{ns f:Int}{S q:Nat->Prop}(a:lp q h c A rs φ L Ba u j g n ns f S w){z:Nat}(p:z=0\/Reach A.gr rs z)(D:cz w' h.rb h.rg ((rs.map φ).set s (φ z)))(hf:Fr (fun k=>k=h.rg) w w'):lp q h c A (rs.set s z) φ L Ba u j g n ns f S w':=by
 have d:=a.d;obtain ⟨r,l,t,v,m,y,i,B,C⟩:=id a.e;refine ⟨a.Qw,ay.frame a.Qd hf l,?_,ay.frame a.Yd hf (Ne.symm m),aE a.Qo hf (Ne.symm i),a.laid.slot p,by rw [aW];exact a.Sl,a.fits,a.half,a.mem.stays hf (fun k o=>(d k o).2.2.1) (Ne.symm i),d,a.e⟩;simp_all
theorem eF.Xf(h:eF b c A rs u n T w):dC b c A rs T w w:=⟨u,n,T,h,Kb _ _,fun _ h=> .inl h⟩
theorem dC.Qb{w0:World}(h:dC b c A rs T w0 w)(hf:J7 w w'):dC b c A rs T w0 w':=by
 obtain ⟨u,n,a,d,e,f⟩:=h;exact ⟨u,n,a,d.Qb hf,e.trans hf J8,f⟩
theorem D5(m:eF b c A rs u n T w):∃f g,∃φ:Nat->Nat,w.cell? ⟨b,9,none⟩=some (.pointer (some ⟨f,0,none⟩))/\cz w f g (rs.map φ)/\(rs.map φ).length=c.Sl/\φ 0=0/\∀s z w',(z=0\/Reach A.gr rs z)->cz w' f g ((rs.map φ).set s (φ z))->Fr (fun k=>k=g) w w'->dC b c A (rs.set s z) T w w':=by
 obtain ⟨h,φ,L,Ba,q,l,ns,j,S,rfl,a,i,d⟩:=m;exact ⟨h.rb,h.rg,φ,ay.cell a.Qd 9 rfl,a.roots,by rw [cQ,a.Sl],a.laid.zero,fun s z w' p o hf=>⟨u,n,T,⟨h,φ,L,Ba,q,l,ns,j,S,rfl,a.slot p o hf,i,d⟩,hf.mono (fun k e=> .inl ((i k).2 (.inr (.inr (.inr (.inl e)))))),fun k e=> .inl e⟩⟩
theorem ks(h:x∈rs):x=0\/Reach A.gr rs x:=by
 by_cases a:x=0
 ·omega
 ·exact .inr (.root h a)
theorem lU(d:eF b c A rs u n T w):Calls prog 16 #[b] w fun e w'=>e= .returned (.bool false)/\w=w':=by
 obtain ⟨h,φ,L,Ba,k,i,ns,g,S,rfl,f,j,a⟩:=d;exact gk f.Qd
theorem rO(h:eF b c A rs u n T w)(z:Int):Calls prog 26 #[b,(z:Int)] w fun e w'=>(∃s:Nat,z=s/\s<c.Sl/\e= .returned (0:Int)/\dC b c A (rs.set s 0) T w w')\/¬my c.Sl z/\e= .returned (17:Int)/\dC b c A rs T w w':=by
 have j:=ae (lU h);obtain ⟨r,t,φ,p,m,k,o,l⟩:=D5 h;have g:=ae (pw m z 0);rw [k] at g;have f:=ae (fun s w'=>l s 0 w' (.inl rfl));rw [o] at f;have i:=ae (fun w' hf=>h.Xf.Qb (w':=w') hf);clear h m l k o;generalize dC b c A rs T w=J at*
 go_enter func26,ntmps26
 go_wp2_with fail
 refine j.out.mono ?_;rintro e w1 ⟨rfl,rfl⟩;clear j;go_wp2_with fail
 refine g.out.mono ?_;rintro e w1 (⟨s,rfl,q,rfl,a,d⟩|⟨a,rfl,d⟩)
 ·have H:=ae (f.out s w1 a d);clear g f a d p i;go_wp2;go_ret;exact .inl ⟨s,rfl,q,rfl,H.out⟩
 ·have H:=ae (af a (i.out w1 d));clear g f a d p i;go_wp2;go_ret;exact .inr ⟨H.out.1,rfl,H.out.2⟩
theorem BP(a:eF b c A rs u n T w)(f:s<c.Sl):Calls prog 26 #[b,(s:Int)] w fun e w'=>e= .returned (0:Int)/\dC b c A (rs.set s 0) T w w':=by
 refine (rO a s).mono ?_;rintro e w' (⟨t,g,_,h⟩|⟨d,_⟩)
 ·grind
 ·exact absurd ⟨by omega,by omega⟩ d
theorem BO(h:eF b c A rs u n T w)(z y:Int):Calls prog 76 #[b,(z:Int),(y:Int)] w fun e w'=>∃C:Int,e= .returned (C:Int)/\((∃s t v:Nat,z=s/\y=t/\rs[t]? =some v/\dC b c A (rs.set s v) T w w')\/dC b c A rs T w w'):=by
 have m:=ae (lU h);obtain ⟨I,B,φ,r,p,E,G,o⟩:=D5 h;have l:=ae (xH p z y);have j:Hid (∀(s t a:Nat) w',(rs.map φ)[t]? =some a->cz w' I B ((rs.map φ).set s a)->Fr (fun k=>k=B) w w'->∃v,rs[t]? =some v/\dC b c A (rs.set s v) T w w'):=by
  show∀(s t a:Nat) w',_
  intro s t a w' f g d;rw [aR,dM] at f;obtain ⟨v,q,rfl⟩:=f;exact ⟨v,q,o s v w' (ks (ar q)) g d⟩
 have i:=ae (fun w' hf=>h.Xf.Qb (w':=w') hf);clear h p o E G;generalize dC b c A rs T w=J at*
 go_enter func76,ntmps76
 go_wp2_with fail
 refine m.out.mono ?_;rintro e w1 ⟨rfl,rfl⟩;clear m;go_wp2_with fail
 refine l.out.mono ?_;rintro e w1 (⟨s,t,a,rfl,F,rfl,f,rfl,g,d⟩|⟨rfl,d⟩)
 ·have H:=ae (j.out s t a w1 f g d);clear l j g d r i f F;go_wp2;go_ret;obtain ⟨v,g1,D⟩:=H.out;exact ⟨0,rfl,.inl ⟨s,t,v,rfl,rfl,g1,D⟩⟩
 ·have H:=ae (i.out w1 d);clear l j d r i;go_wp2;go_ret;exact ⟨17,rfl,.inr H.out⟩
theorem yl{m g i:Nat}{d:Option Nat}{ns f:Int}(h:nS w b c m g i d ns f):Calls prog 29 #[b] w fun e w'=>e= .returned (I3 m d)/\w=w':=by
 have a:=ay.cell h 11 rfl;have j:=ay.cell h 8 rfl;clear h
 cases d with
 |none=>
  rw [show lZ none= .pointer none from rfl] at a;unfold I3
  go_enter func29,ntmps29
  go_wp2;go_ret;exact ⟨rfl,rfl⟩
 |some y=>
  rw [show lZ (some y)= .pointer (some ⟨y,0,none⟩) from rfl] at a;unfold I3
  go_enter func29,ntmps29
  go_wp2;go_ret;exact ⟨rfl,rfl⟩
theorem xn.space{q:Nat->Prop}{h:Hp}{Ba:Nat}{L:Nat->Nat}{S:Nat->Prop}{e:Option Nat}(z:xn c h.m Ba (Ba+u) q L S w e n)(G:iC c)(o:c.half Ba)(p:u<=c.Wd):∃t v fl E r I dom,I3 h.m e= .iface t v/\cY t v fl r I dom/\qy t v E r I dom/\I L S w/\(∀k,Ba<=k->k<Ba+u->dom k)/\∀L' S' w',I L' S' w'->∃j,xn c h.m Ba (Ba+u) (fun _=>True) L' S' w' e j:=by
 cases e with
 |none=>
  obtain ⟨K,Us,Hg,mp,J,a⟩:=z;exact ⟨_,_,_,_,_,_,_,rfl,bR _ _ _ _ _ _ _,rB _ _ _ _ _ _ _,J,rA a (o.mod G) (by have:=o.top;omega),fun L' S' w' h=>⟨0,rfl,Us,Hg,mp,h,a⟩⟩
 |some y=>
  obtain ⟨H,D,W,i,hg,B,fr,C,l,⟨Us,_,M⟩,rfl,N,O,P,Q,R,U,V⟩:=z;exact ⟨_,_,_,_,_,_,_,rfl,GH l,IN l,⟨B,n,fr,C,M.s⟩,fun k Y F=>⟨by omega,F⟩,fun L' S' w' ⟨d,j,g,f,h⟩=>⟨j,H,D,W,i,hg,d,g,f,l,let ⟨X,p⟩:=h.su;⟨X,trivial,p⟩,rfl,N,O,P,Q,R,U,V⟩⟩
end
def Jz(xs:List Nat)(w:World)(e:Ending)(w':World):Prop:=∃g cap,e= .returned (.tuple #[.slice (some ⟨g,0,none⟩) xs.length cap,(0:Int)])/\w.heap.size<=g/\(∀(j a:Nat),xs[j]? =some a->w'.cell? ⟨g,j,none⟩=some (a:Int))/\J7 w w'
def Cr(ls:List Nat)(zs:List Int)(xs:List Nat):Prop:=xs.length=zs.length/\∀(j:Nat) (z:Int),zs[j]? =some z->∃i a:Nat,z=i/\ls[i]? =some a/\xs[j]? =some a
def JB(ls:List Nat)(zs:List Int)(w:World)(e:Ending)(w':World):Prop:=(∃xs,Cr ls zs xs/\Jz xs w e w')\/(¬(∃xs,Cr ls zs xs)/\e= .returned (.tuple #[.slice none 0 0,(17:Int)])/\J7 w w')
section
variable{w:World}{b m rb rg ub:Nat}{c:Cf}{cy:Option Nat}{ns bs:Int}{ls:List Nat}
def JA(ls:List Nat)(zs:List Int)(w:World)(j:Nat)(v:Value)(wr:World):Prop:=(∃xs,Cr ls (zs.take j) xs/\wr.ownsRow 0 3 1 v j (nI xs))/\(∀k,v.ownBlock=some k->w.heap.size<=k)/\J7 w wr
theorem AW{zs:List Int}{xs:List Nat}{j i a:Nat}{z:Int}(h:Cr ls (zs.take j) xs)(d:zs[j]? =some z)(e:z=i)(n:ls[i]? =some a):Cr ls (zs.take (j+1)) (xs++[a]):=by
 have f:=(aj.1 d).1;obtain ⟨g,l⟩:=h;have p:xs.length=j:=by grind
 rw [bC,d];refine ⟨by grind,fun k y o=> ?_⟩
 grind
theorem BN(h:nS w b c m rb ub cy ns bs)(hr:cz w rb rg ls)(x cp:Nat)(zs:List Int)(hx:∀(j:Nat) (z:Int),zs[j]? =some z->w.cell? ⟨x,j,none⟩=some (z:Int))(h1:1<=zs.length)(h2:zs.length<=8):
  Calls prog 27 #[b,.slice (some x) zs.length cp] w (JB ls zs w):=by
 obtain ⟨i0,hi,V,W,X⟩:=info_parts jE;have Z:=ae (gk h);have B:=ae (fun (j:Nat) (wr:World) (hf:J7 w wr) (hj:j<zs.length)=>(show∃z:Int,zs[j]? =some z/\wr.cell? ⟨x,j,none⟩=some (z:Int)/\wr.cell? ⟨b,9,none⟩=some rb/\Calls prog 17 #[rb,(z:Int)] wr fun e w'=>((∃i a:Nat,z=i/\ls[i]? =some a/\e= .returned (.tuple #[(a:Int),(0:Int)]))\/¬my ls.length z/\e= .returned (.tuple #[(0:Int),(17:Int)]))/\J7 wr w' from by
  have q:=aC hj;have o:=hx j _ q;exact ⟨_,q,(World.cell?_of_block (w:=w) (hf.block _ (bu o) id)).trans o,(show ay wr b _ _ from ay.frame h hf id).cell 9 rfl,px (hr.frame hf id id) _⟩))
 have s:Hid (∀v wr,JA ls zs w zs.length v wr->∃g cap,v= .slice (some ⟨g,0,none⟩) zs.length cap/\JB ls zs w (.returned (.tuple #[.slice (some ⟨g,0,none⟩) zs.length cap,(0:Int)])) wr):=by
  show∀v wr,_
  rintro v wr ⟨⟨xs,q0,o⟩,M,N⟩;rw [iQ] at q0;rcases o.2 with ⟨_,h0⟩|⟨g,cap,cur,rfl,_⟩
  ·omega
  ·refine ⟨g,cap,rfl,.inl ⟨xs,q0,g,cap,by rw [q0.1],M g rfl,fun j a ha=> ?_,N⟩⟩;have T:∀k,(⟨g,0,none⟩:Addr).add k=⟨g,k,none⟩:=fun k=>by unfold Addr.add;split<;>simp_all
   have:=o.cells (g:=g) rfl j (.int .i64 a) (by unfold nI;rw [aR,ha];rfl);rwa [T] at this
 have A:Hid (∀(j:Nat) (z:Int) wr w',zs[j]? =some z->¬my ls.length z->J7 w wr->J7 wr w'->JB ls zs w (.returned (.tuple #[.slice none 0 0,(17:Int)])) w'):=by
  show∀(j:Nat) (z:Int) wr w',_
  intro j z wr w' o M N O;refine .inr ⟨fun ⟨xs,q⟩=> ?_,rfl,N.trans O J8⟩;obtain ⟨i,a,rfl,g1,_⟩:=q.2 j z o;exact M ⟨by omega,by have:=(aj.1 g1).1;omega⟩
 have u:Hid (∀(j:Nat) (z:Int) (i a:Nat) v wr w2 w4 g cap,zs[j]? =some z->z=i->ls[i]? =some a->JA ls zs w j v wr->J7 wr w2->∀xs,Cr ls (zs.take j) xs->w4.ownsRow 0 3 1 (.slice (some g) (j+1) cap) (j+1) (nI xs++[.int .i64 a])->Fr (fun k=>v.ownBlock=some k) w2 w4->(v.ownBlock=some g\/w2.heap.size<=g)->JA ls zs w (j+1) (.slice (some g) (j+1) cap) w4):=by
  show∀(j:Nat) (z:Int) (i a:Nat) v wr w2 w4 g cap,_
  intro j z i a v wr w2 w4 g cap o M N O q5 xs q6 q7 q8 q9;have f:=O.2.2.trans q5 J8;have l:=f.size;refine ⟨⟨xs++[a],AW q6 o M N,by unfold nI at*;rw [dd];exact q7⟩,fun k C=> ?_,f.trans q8 (fun k C=> .inr (O.2.1 k C))⟩;simp only [Value.ownBlock,aT] at C;subst C;exact q9.elim (O.2.1 _) (fun h=>by omega)
 have Y:Hid (JA ls zs w 0 (.slice none 0 0) w):=ae ⟨⟨[],⟨rfl,fun j z l=>by rw [aA] at l;exact absurd l (by simp)⟩,World.ownsRow_nil _ _ _ _⟩,fun k C=>by simp [Value.ownBlock] at C,Kb _ _⟩;clear h hr hx;generalize hQ:(JB ls zs w)=Q at*;clear hQ;generalize P:zs.length=n at*
 go_enter func27,ntmps27
 go_wp2_with fail
 refine Z.out.mono ?_;rintro e w' ⟨rfl,rfl⟩;clear Z P;go_wp2
 go_loopw [6,15] (fun v z wr=>∃j:Nat,z= .int .i64 j/\j<=n/\Hid (JA ls zs w j v wr)) (fun _ z _=>(n-intOf z).toNat)
 case atStart=>exact ⟨0,rfl,ao _,Y⟩
 case round=>
  clear Y;obtain ⟨j,rfl,hj,p⟩:=hrel;by_cases J:j<n
  ·obtain ⟨z,l,d0,d1,hg⟩:=B.out j wr p.out.2.2 J;have R:=ae hg;have c1:(j:Int)<(n:Int):=by omega
   have t:=ae (fun i a w2 w4 g cap h1 h2=>u.out j z i a _ wr w2 w4 g cap l h1 h2 p.out);have y:=ae (fun w' h=>A.out j z wr w' l h p.out.2.2);clear hg B s u A l;go_wp2_with fail
   refine R.out.mono ?_;rintro e w2 ⟨⟨i,a,L,I,rfl⟩|⟨P,rfl⟩,d⟩
   ·obtain ⟨xs,K,r⟩:=p.out.1;have E:=ae (fun w4 g cap=>t.out i a w2 w4 g cap L I d xs K);have D:=ae d;have HR:=ae r;clear d R d0 d1 y t L I K r;go_wp2_with (at_builtin;refine Hid.out ?_)
    unfold Hid;have F:J7 w2 (w2.alloc (.cells #[(a:Int)] 3)):=(Kb _ w2).alloc _;have f:=D.out.trans F J8;refine eJ rfl _ _ 65 rfl 3 i0 (.int .i64 0) 8 underlying65 hi V W X rfl u6 j (nI xs) rfl (aF HR.out f (fun _ _ h=>h)) ⟨w2.heap.size,0,none⟩ _ (.int .i64 a) rfl ((ay.new w2 [(a:Int)] 3).cell 0 rfl) rfl (by unfold maxLen;omega) (by omega) ?_;intro g cap w4 ho f2 G;have S:=ae (E.out w4 g cap ho (((Kb (fun _=>False) w2).alloc _|>.mono J8).trans f2 (fun _ h=> .inl h)) (G.imp id (fun h=>by rw [World.size_alloc] at h;omega)));clear F f ho f2 G p E D HR;go_wp2;go_roundw
    case rel=>exact ⟨j+1,by go_num,by omega,S⟩
    case measure=>simp [intOf];omega
   ·have H:=ae (y.out w2 P d);clear P d R d0 d1 y t p;go_wp2;exact H.out
  ·have U:j=n:=by omega
   subst U;obtain ⟨g,cap,rfl,l⟩:=s.out _ wr p.out;have HZ:=ae l;have c1:¬(j:Int)<(j:Int):=by omega
   clear l p s B J u A;go_wp2;exact HZ.out
end
def sr(b:Nat)(c:Cf)(A':AG)(rs':List Nat)(T:Nat->Prop)(w w':World):Prop:=∃u n T',Fp b c A' rs' u n T' w'/\Fr T w w'/\∀k,T' k->T k\/w.heap.size<=k
def nR(h:Hp)(c:Cf)(A:AG)(rs:List Nat)(φ:Nat->Nat)(Ba u ub:Nat)(T:Nat->Prop)(z:Nat)(w:World)(d:Bool)(w':World):Prop:=∃L cy n ns bs S,lp (fun _=>True) h c A rs φ L Ba u ub cy n ns bs S w'/\(∀k,S k->T k\/z<=k)/\Fr T w w'/\(d=true->n=0->cy=none)
def Jy(b:Nat)(c:Cf)(A':AG)(rs':List Nat)(T:Nat->Prop)(z:Nat)(w w':World):Prop:=∃u n T',eF b c A' rs' u n T' w'/\Fr T w w'/\∀k,T' k->T k\/z<=k
def fC(A:AG)(x:Nat)(z kd:Int):Int:=nX x (A.np x) (A.nf x) (A.ng x) z kd
def fV(A:AG)(x:Nat)(z kd:Int):Nat:=if fC A x z kd=0 then A.Qv x z.toNat else 0
def AG.Qy(A:AG)(x:Nat)(z kd:Int)(v:Nat):AG:=if fC A x z kd=0 then A.put x z.toNat v else A
section
variable{b u n s x t v i Ba ub zz:Nat}{h:Hp}{c:Cf}{A A':AG}{rs:List Nat}{φ L:Nat->Nat}{T:Nat->Prop}{d:Bool}{w w1 w2 w3 w' w'':World}{lo hi:Nat}{dom:Nat->Prop}
theorem sr.end_(h:sr b c A rs T w w'):Calls prog 30 #[b] w' fun e w''=>e= .returned (.tuple #[])/\dC b c A rs T w w'':=by
 obtain ⟨u,n,p,m,f,g⟩:=h;refine (uy m).mono ?_;rintro e w'' ⟨rfl,a,g1,j,l⟩;have q:=f.size;exact ⟨rfl,u,n,a,g1,f.trans j g,fun k o=>(l k o).elim (g k) (fun h=> .inr (by omega))⟩
theorem nR.end_(g:nR h c A rs φ Ba u ub T zz w d w1)(q:T h.b):Calls prog 30 #[h.b] w1 fun e w'=>e= .returned (.tuple #[])/\nR h c A rs φ Ba u ub T zz w true w'/\Fr (fun k=>k=h.b) w1 w':=by
 obtain ⟨L,C,n,ns,B,S,r,y,z,_⟩:=g;refine (zX r).mono ?_;rintro e w' ⟨rfl,L',f,l,a,S',g1,o,m,p⟩;exact ⟨rfl,⟨L',f,n,l,a,S',g1,fun k j=>y k (p k j),z.trans m (fun k j=> .inl (by rw [j];exact q)),fun _=>o⟩,m⟩
theorem nR.Xf(g:nR h c A rs φ Ba u ub T zz w true w1)(j:∀k,lC h ub (fun _=>False) k->T k)(q:w.heap.size<=zz):dC h.b c A rs T w w1:=by
 obtain ⟨L,f,n,ns,e,S,l,m,o,p⟩:=g;exact ⟨u,n,lC h ub S,⟨h,φ,L,Ba,ub,f,ns,e,S,rfl,l,fun _=>dO,p rfl⟩,o,fun k a=>a.elim (fun a=>(m k a).imp id (fun h=>by omega)) (fun a=> .inl (j k (.inr a)))⟩
theorem nR.apart(hf:J7 w w1)(g:nR h c A rs φ Ba u ub T w1.heap.size w1 d w2)(p:∀k,T k->k<w.heap.size)(q:∀k,lC h ub (fun _=>False) k->T k)(D:ch<w.heap.size)(f:Fr (fun k=>w.heap.size<=k/\(k<w1.heap.size\/w2.heap.size<=k)) w2 w3):nR h c A rs φ Ba u ub T w1.heap.size w d w3:=by
 obtain ⟨L,o,n,ns,m,S,j,l,z,B⟩:=g;have E:=hf.size;have r:=j.lt;refine ⟨L,o,n,ns,m,S,j.stays f (fun k a y=> ?_) (fun h=>by omega),l,((hf.mono (S':=T) J8).trans z (fun k a=> .inl a)).trans f (fun k a=> .inr a.1),B⟩
 ·have C:=r k a;have e:T k\/w1.heap.size<=k:=a.elim (l k) (fun h=> .inl (q k (.inr h)));rcases e with e|e
  ·have:=p k e;omega
  ·omega
theorem vZ{q:Nat->Prop}{h:Hp}{φ L L':Nat->Nat}{Ba ub:Nat}{e:Option Nat}{ns j:Int}{S:Nat->Prop}(z:lp q h c A rs φ L Ba u ub e n ns j S w)(p:∀k,T k↔lC h ub S k){I:jW}(a:∀L' S' w',I L' S' w'->∃g,xn c h.m Ba (Ba+u) (fun _=>True) L' S' w' e g)(r:ce A' rs φ L' Ba (Ba+u))(hf:J7 w w1)(hp:je I L' S w1 w'):sr h.b c A' rs T w w':=by
 obtain ⟨S',g1,l,o⟩:=hp;obtain ⟨g,B⟩:=a _ _ _ g1;have C:=hf.size;have y:=(z.Qb hf).turn l o B r;exact ⟨u,g,lC h ub S',⟨h,φ,L',Ba,ub,e,ns,j,S',rfl,y,fun k=>dO⟩,(hf.mono J8).trans l (fun k f=> .inl ((p k).2 (.inl f))),fun k f=>(lC.sub o k f).elim (fun h=> .inl ((p k).2 h)) (fun h=> .inr (by omega))⟩
theorem wh{h:Hp}{L:Nat->Nat}{e:Option Nat}{ns j:Int}{S:Nat->Prop}(q:lp (fun _=>True) h c A rs φ L Ba u ub e n ns j S w)(p:∀k,T k↔lC h ub S k){I:jW}(a:∀L' S' w',I L' S' w'->∃g,xn c h.m Ba (Ba+u) (fun _=>True) L' S' w' e g)(hf:J7 w w1)(hp:je I L S w1 w'):nR h c A rs φ Ba u ub T w.heap.size w false w':=by
 obtain ⟨S',g1,l,o⟩:=hp;obtain ⟨g,r⟩:=a _ _ _ g1;have y:=hf.size;exact ⟨L,e,g,ns,j,S',(q.Qb hf).turn l o r q.laid,fun k f=>(o k f).elim (fun h=> .inl ((p k).2 (.inl h))) (fun h=> .inr (by omega)),(hf.mono J8).trans l (fun k f=> .inl ((p k).2 (.inl f))),fun h=>nomatch h⟩
theorem ce.obk(h:ce A rs φ L lo hi)(l:∀k,lo<=k->k<hi->dom k)(y:hi<=1048576)(q:x∈rs):∃p f g,Ia dom L (φ x) p f g/\(∀z kd,nX (φ x) p f g z kd=fC A x z kd)/\∀z kd:Int,1<=kd->fC A x z kd=0->dom (φ x+1+z.toNat):=by
 by_cases e:x=0
 ·subst e;refine ⟨0,0,0,.inl ⟨h.zero,rfl,rfl,rfl⟩,fun z kd=> ?_,fun z kd j a=> ?_⟩
  ·unfold fC nX;rw [if_pos h.zero,if_pos rfl]
  ·unfold fC nX at a;rw [if_pos rfl] at a;omega
 ·have m:Reach A.gr rs x:= .root q e;have j:=h.Qm x m;have a:=h.head x m;have r:=h.one;unfold AG.sz at j;refine ⟨A.np x,A.nf x,A.ng x,.inr ⟨by omega,by omega,l _ (by omega) (by omega),a⟩,fun z kd=> ?_,fun z kd g1 o=> ?_⟩
  ·unfold fC nX;rw [if_neg (by omega),if_neg e]
  ·have:=pz a.2 o g1;exact l _ (by omega) (by omega)
theorem rS{z kd:Int}(h:fC A x z kd=0)(k:1<=kd)(e:dD (A.np x) (A.nf x) (A.ng x)):x≠0/\z=z.toNat/\z.toNat<A.np x+A.nf x+A.ng x/\(kd=1->z.toNat<A.np x)/\(2<=kd->A.np x<=z.toNat)/\(kd=2->z.toNat<A.np x+A.nf x):=by
 obtain ⟨f,g,j,a⟩:=pz e h k;refine ⟨f,g,j,?_⟩;unfold fP fO at a;rw [if_pos e] at a
 grind
structure xi(b:Nat)(c:Cf)(A:AG)(rs:List Nat)(T:Nat->Prop)(w:World)(sv:Value)(φ:Nat->Nat)(J K:World->Prop)(J2:World->World->Prop):Prop where
 find:∀w1,J7 w w1->∀(x cp:Nat) (zs:List Int),(∀(j:Nat) (z:Int),zs[j]? =some z->w1.cell? ⟨x,j,none⟩=some (z:Int))->1<=zs.length->zs.length<=8->Calls prog 27 #[b,.slice (some x) zs.length cp] w1 (JB (rs.map φ) zs w1)
 space:∀w1,J7 w w1->Calls prog 29 #[b] w1 fun e w'=>e= .returned sv/\w1=w'
 get:∀w1 x z kd,J7 w w1->x∈rs->2<=kd->Calls prog 79 #[sv,((φ x:Int):Int),(z:Int),(kd:Int)] w1 fun e w'=>e= .returned (.tuple #[.int .u64 ((fV A x z kd:Nat):Int),((fC A x z kd):Int)])/\J w'/\w1.heap.size<=w'.heap.size
 getp:∀w1 x z,J7 w w1->x∈rs->Calls prog 79 #[sv,((φ x:Int):Int),(z:Int),(1:Int)] w1 fun e w'=>e= .returned (.tuple #[.int .u64 ((φ (fV A x z 1):Nat):Int),((fC A x z 1):Int)])/\J w'/\w1.heap.size<=w'.heap.size
 set:∀w1 (x:Nat) (z kd:Int) (v:Nat),J7 w w1->x∈rs->2<=kd->v<18446744073709551616->Calls prog 65 #[sv,((φ x:Int):Int),(z:Int),(kd:Int),.int .u64 v] w1 fun e w'=>e= .returned (.int .i64 (fC A x z kd))/\sr b c (A.Qy x z kd v) rs T w w'
 sptr:∀w1 x z y,J7 w w1->x∈rs->y∈rs->Calls prog 127 #[sv,((φ x:Int):Int),(z:Int),((φ y:Int):Int)] w1 fun e w'=>e= .returned (.int .i64 (fC A x z 1))/\sr b c (A.Qy x z 1 y) rs T w w'
 ends:∀w1,J w1->Calls prog 30 #[b] w1 fun e w'=>e= .returned (.tuple #[])/\K w'
 Xf:∀w1,K w1->dC b c A rs T w w1
 root:∀w1,K w1->∃rb,w1.cell? ⟨b,9,none⟩=some (.pointer (some ⟨rb,0,none⟩))/\∀(z z':Int) x,x∈rs->Calls prog 22 #[.pointer (some ⟨rb,0,none⟩),(z:Int),((φ (fV A x z' 1):Int):Int)] w1 fun e w'=>∃cd:Int,e= .returned (cd:Int)/\((∃s:Nat,z=s/\dC b c A (rs.set s (fV A x z' 1)) T w w')\/dC b c A rs T w w')
 small:∀x z,x∈rs->φ (fV A x z 1)<2147483648/\(fC A x z 1≠0->φ (fV A x z 1)=0)
 val:∀x z kd,x∈rs->2<=kd->fV A x z kd<18446744073709551616
 read:∀x,x∈rs->∃p f g cd:Int,dD p f g/\(x≠0->p=A.np x/\f=A.nf x/\g=A.ng x/\cd=0)/\(x=0->(cd==0)=false)/\∀w1,J7 w w1->Calls prog 80 #[sv,((φ x:Int):Int)] w1 fun e w'=>e= .returned (.tuple #[ft p f g,(cd:Int)])/\J2 w1 w'/\Fr T w1 w'
 end2:∀w1 w2 w3,J7 w w1->J2 w1 w2->Fr (fun k=>w.heap.size<=k/\(k<w1.heap.size\/w2.heap.size<=k)) w2 w3->Calls prog 30 #[b] w3 fun e w'=>e= .returned (.tuple #[])/\Jy b c A rs T w1.heap.size w w'/\Fr T w3 w'
theorem iq(hi:eF b c A rs u n T w):∃sv φ J K J2,xi b c A rs T w sv φ J K J2:=by
 have an:=hi.lt;have ap:=hi.Qo.2.1;obtain ⟨h,φ,L,Ba,ub,cy,ns,bs,S,rfl,a,V,av⟩:=hi;have ax:=a.half.top;obtain ⟨ar,_⟩:=a.Qw.W5;have G:=a.fits;have F:∀k,lC h ub (fun _=>False) k->T k:=fun k o=>(V k).2 (o.elim (fun h=>h.elim) .inr)
 have M:∀{x z kd},x∈rs->fC A x z kd=0->1<=kd->Reach A.gr rs x/\dD (A.np x) (A.nf x) (A.ng x):=fun {x z kd} j hf o=>by
  have H:x≠0:=fun h=>by unfold fC nX at hf;rw [if_pos h] at hf;omega
  exact ⟨.root j H,(a.laid.head _ (.root j H)).2⟩
 have aj:∀{x z},x∈rs->fV A x z 1=0\/Reach A.gr rs (fV A x z 1):=fun {x z} j=>by
  by_cases hf:fC A x z 1=0
  ·by_cases h0:fV A x z 1=0
   ·exact .inl h0
   ·unfold fV at*;rw [if_pos hf] at*;have D:=M j hf (by decide);exact .inr (AG.Ql D.1 ((rS hf (by decide) D.2).2.2.2.1 rfl) h0)
  ·unfold fV;rw [if_neg hf];exact .inl rfl
 have ah:∀{y},y=0\/Reach A.gr rs y->φ y<2147483648:=fun {y} Z=>by
  rcases Z with rfl|Z
  ·rw [a.laid.zero];omega
  ·have:=a.laid.Qm _ Z;have D:1<=A.sz y:=by unfold AG.sz;omega
   omega
 have ak:∀x z kd,x∈rs->2<=kd->fV A x z kd<18446744073709551616/\(fC A x z kd=0->L (φ x+1+z.toNat)=fV A x z kd):=fun x z kd j o=>by
  unfold fV;by_cases hf:fC A x z kd=0
  ·rw [if_pos hf];have D:=M j hf (by omega);have P:=rS hf (by omega) D.2;have R:=a.laid.val x D.1 _ (P.2.2.2.2.1 o) P.2.2.1;exact ⟨R.2,fun _=>R.1⟩
  ·rw [if_neg hf];exact ⟨by decide,fun h=>absurd h hf⟩
 have ao:∀x z,x∈rs->(if fC A x z 1=0 then L (φ x+1+z.toNat) else 0)=φ (fV A x z 1):=fun x z j=>by
  unfold fV;by_cases hf:fC A x z 1=0
  ·rw [if_pos hf,if_pos hf];have D:=M j hf (by decide);exact a.laid.ptr x D.1 _ ((rS hf (by decide) D.2).2.2.2.1 rfl)
  ·rw [if_neg hf,if_neg hf,a.laid.zero]
 have Q:∀w1 x z kd,J7 w w1->x∈rs->1<=kd->Calls prog 79 #[I3 h.m cy,((φ x:Int):Int),(z:Int),(kd:Int)] w1 fun e w'=>e= .returned (.tuple #[.int .u64 (((if fC A x z kd=0 then L (φ x+1+z.toNat) else 0):Nat):Int),((fC A x z kd):Int)])/\nR h c A rs φ Ba u ub T w.heap.size w false w'/\w1.heap.size<=w'.heap.size:=fun w1 x z kd hf j o=>by
  obtain ⟨ty,vv,fl,fs,r,I,dom,W,C,N,U,B,l⟩:=(a.Qb hf).mem.space a.Qw a.half G;obtain ⟨p,f,g,ho,R,hd⟩:=a.laid.obk B (by omega) j;rw [W];have:=vF C U ho z kd o (fun q=>hd z kd o (by rw [<-R];exact q));rw [R] at this;refine this.mono ?_;rintro e w' ⟨rfl,Y⟩;exact ⟨rfl,wh a V l hf Y,Y.fr.size⟩
 refine ⟨I3 h.m cy,φ,nR h c A rs φ Ba u ub T w.heap.size w false,nR h c A rs φ Ba u ub T w.heap.size w true,fun w1 w2=>nR h c A rs φ Ba u ub T w1.heap.size w1 false w2,fun w1 hf x cp zs j D P=>BN (a.Qb hf).Qd (a.Qb hf).roots x cp zs j D P,fun w1 hf=>yl (a.Qb hf).Qd,fun w1 x z kd hf j o=> ?_,fun w1 x z hf j=> ?_,fun w1 x z kd v hf j o R=> ?_,fun w1 x z y hf j Z=> ?_,fun w1 hj=>(hj.end_ (F _ (.inr (.inl rfl)))).mono (fun e w' h=>⟨h.1,h.2.1⟩),fun w1 o=>o.Xf F (ag _),?_,fun x z j=>⟨ah (aj j),fun hf=>by unfold fV;rw [if_neg hf];exact a.laid.zero⟩,fun x z kd j o=>(ak x z kd j o).1,fun x j=> ?_,fun w1 w2 w3 hf hj j=> ?_⟩
 ·have:=Q w1 x z kd hf j (by omega);rwa [show (if fC A x z kd=0 then L (φ x+1+z.toNat) else 0)=fV A x z kd from by
   by_cases E:fC A x z kd=0
   ·rw [if_pos E,(ak x z kd j o).2 E]
   ·rw [if_neg E];unfold fV;rw [if_neg E]] at this
 ·have:=Q w1 x z 1 hf j (by decide);rwa [ao x z j] at this
 ·obtain ⟨ty,vv,fl,fs,r,I,dom,W,C,N,U,B,l⟩:=(a.Qb hf).mem.space a.Qw a.half G;obtain ⟨p,f,g,ho,hV,hd⟩:=a.laid.obk B (by omega) j;rw [W];have:=Dx C N U ho z kd (by omega) (fun q=>hd z kd (by omega) (by rw [<-hV];exact q)) R;rw [hV] at this;refine this.mono ?_;rintro e w' ⟨rfl,Y⟩;refine ⟨rfl,vZ a V l ?_ hf Y⟩;unfold AG.Qy;by_cases E:fC A x z kd=0
  ·rw [if_pos E,if_pos E];have D:=M j E (by omega);have P:=rS E (by omega) D.2;exact a.laid.put_val D.1 (P.2.2.2.2.1 o) P.2.2.1 R
  ·rw [if_neg E,if_neg E];exact a.laid
 ·obtain ⟨ty,vv,fl,fs,r,I,dom,W,C,N,U,B,l⟩:=(a.Qb hf).mem.space a.Qw a.half G;obtain ⟨p,f,g,ho,hV,hd⟩:=a.laid.obk B (by omega) j;rw [W];have:=qk C N U ho z (fun q=>hd z 1 (by omega) (by rw [<-hV];exact q)) (ah (ks (A:=A) Z));rw [hV] at this;refine this.mono ?_;rintro e w' ⟨rfl,Y⟩;refine ⟨rfl,vZ a V l ?_ hf Y⟩;unfold AG.Qy;by_cases E:fC A x z 1=0
  ·rw [if_pos E,if_pos E];have D:=M j E (by decide);exact a.laid.put_ptr D.1 ((rS E (by decide) D.2).2.2.2.1 rfl) (ks Z)
  ·rw [if_neg E,if_neg E];exact a.laid
 ·rintro w1 o;obtain ⟨L',am,n',aq,al,S',q1,q2,q3,q4⟩:=id o;refine ⟨h.rb,ay.cell q1.Qd 9 rfl,fun z z' x j=>(pw q1.roots z _).mono ?_⟩;rintro e w' (⟨s,rfl,hs,rfl,r1,r2⟩|⟨_,rfl,r2⟩)
  ·exact ⟨0,rfl,.inl ⟨s,rfl,nR.Xf ⟨L',am,n',aq,al,S',q1.slot (aj j) r1 r2,q2,q3.trans r2 (fun k o=> .inl (F k (.inr (.inr (.inr (.inl o)))))),q4⟩ F (ag _)⟩⟩
  ·exact ⟨17,rfl,.inr ((o.Xf F (ag _)).Qb r2)⟩
 ·by_cases H:x=0
  ·subst H;refine ⟨0,0,0,18,by decide,fun h=>absurd rfl h,fun _=>rfl,fun w1 hf=> ?_⟩;rw [a.laid.zero];refine (s8 _).mono ?_;rintro e w' ⟨rfl,O⟩;have ad:=O.mono (S':=T) J8;exact ⟨rfl,⟨L,cy,n,ns,bs,S,(a.Qb hf).Qb O,fun k o=> .inl ((V k).2 (.inl o)),ad,fun h=>nomatch h⟩,ad⟩
  ·have X:Reach A.gr rs x:= .root j H;refine ⟨A.np x,A.nf x,A.ng x,0,(a.laid.head x X).2,fun _=>⟨rfl,rfl,rfl,rfl⟩,fun h=>absurd h H,fun w1 hf=> ?_⟩;obtain ⟨ty,vv,fl,fs,r,I,dom,W,C,N,U,B,l⟩:=(a.Qb hf).mem.space a.Qw a.half G;have D:=a.laid.Qm x X;have P:=a.laid.one;unfold AG.sz at D;rw [W];refine (kr C U (φ x) _ _ _ (by omega) (B _ (by omega) (by omega)) (a.laid.head x X)).mono ?_;rintro e w' ⟨rfl,hp⟩;exact ⟨rfl,wh (a.Qb hf) V l (Kb _ _) hp,hp.fr.mono (fun k o=> .inl ((V k).2 (.inl o)))⟩
 ·have hb:=F _ (.inr (.inl rfl));refine ((nR.apart hf hj an F ap j).end_ hb).mono ?_;rintro e w' ⟨rfl,⟨L,cy,n,ns,bs,S,q1,q2,q3,q4⟩,O⟩;exact ⟨rfl,⟨u,n,lC h ub S,⟨h,φ,L,Ba,ub,cy,ns,bs,S,rfl,q1,fun _=>dO,q4 rfl⟩,q3,fun k o=>o.elim (q2 k) (fun o=> .inl (F k (.inr o)))⟩,O.mono (fun k o=> .inl (by rw [o];exact hb))⟩
end
section
variable{b u n:Nat}{c:Cf}{A:AG}{rs:List Nat}{T:Nat->Prop}{w:World}{sv:Value}{φ:Nat->Nat}{J K:World->Prop}{J2:World->World->Prop}
theorem xi.Zj(h:xi b c A rs T w sv φ J K J2)(z:Int):∀W1,W1=w.alloc (.cells #[(z:Int)] 3)->J7 w W1/\Hid (Calls prog 27 #[b,.slice (some w.heap.size) 1 1] W1 fun e w'=>((∃s x g cap:Nat,z=s/\rs[s]? =some x/\e= .returned (.tuple #[.slice (some g) 1 cap,(0:Int)])/\W1.heap.size<=g/\w'.cell? g=some (.int .i64 (φ x:Int)))\/((¬∃s x:Nat,z=s/\rs[s]? =some x)/\e= .returned (.tuple #[.slice none 0 0,(17:Int)])))/\J7 w w'):=by
 intro W1 e;have hf:J7 w W1:=by rw [e];exact (Kb _ w).alloc _
 refine ⟨hf,(h.find W1 hf w.heap.size 1 [z] (fun j y f=> ?_) (by simp) (by simp)).mono ?_⟩
 ·match j,f with
  |0,f=>
   obtain rfl:z=y:=bK f;rw [e];exact (ay.new w [(z:Int)] 3).cell 0 rfl
 ·rintro e w' (⟨xs,l,g,cap,rfl,hg,p,d⟩|⟨q,rfl,d⟩)
  ·obtain ⟨s,a,rfl,k,r⟩:=l.2 0 z rfl;rw [aR,dM] at k;obtain ⟨x,i,rfl⟩:=k;exact ⟨.inl ⟨s,x,g,cap,rfl,i,by rw [l.1];rfl,hg,p 0 _ r⟩,hf.trans d J8⟩
  ·refine ⟨.inr ⟨fun ⟨s,x,m,o⟩=>q ⟨[φ x],rfl,fun j y f=> ?_⟩,rfl⟩,hf.trans d J8⟩
   match j,f with
   |0,f=>
    obtain rfl:z=y:=bK f;exact ⟨s,φ x,m,by rw [aR,o];rfl,rfl⟩
theorem xi.find2(h:xi b c A rs T w sv φ J K J2)(z y:Int):∀W1,W1=w.alloc (.cells #[(z:Int),(y:Int)] 3)->J7 w W1/\Hid (Calls prog 27 #[b,.slice (some w.heap.size) 2 2] W1 fun e w'=>((∃s x t v g cap:Nat,z=s/\rs[s]? =some x/\y=t/\rs[t]? =some v/\e= .returned (.tuple #[.slice (some g) 2 cap,(0:Int)])/\w'.cell? g=some (.int .i64 (φ x:Int))/\w'.cell? ⟨g,1,none⟩=some (.int .i64 (φ v:Int)))\/e= .returned (.tuple #[.slice none 0 0,(17:Int)]))/\J7 w w'):=by
 intro W1 e;have hf:J7 w W1:=by rw [e];exact (Kb _ w).alloc _
 refine ⟨hf,(h.find W1 hf w.heap.size 2 [z,y] (fun j q i=> ?_) (by simp) (by simp)).mono ?_⟩
 ·match j,i with
  |0,i=>
   obtain rfl:z=q:=bK i;rw [e];exact (ay.new w [(z:Int),(y:Int)] 3).cell 0 rfl
  |1,i=>
   obtain rfl:y=q:=bK i;rw [e];exact (ay.new w [(z:Int),(y:Int)] 3).cell 1 rfl
 ·rintro e w' (⟨xs,k,g,cap,rfl,hg,o,d⟩|⟨B,rfl,d⟩)
  ·obtain ⟨s,a,rfl,f,r⟩:=k.2 0 z rfl;rw [aR,dM] at f;obtain ⟨x,m,rfl⟩:=f;obtain ⟨t,a,rfl,f,p⟩:=k.2 1 y rfl;rw [aR,dM] at f;obtain ⟨v,l,rfl⟩:=f;exact ⟨.inl ⟨s,x,t,v,g,cap,rfl,m,rfl,l,by rw [k.1];rfl,o 0 _ r,o 1 _ p⟩,hf.trans d J8⟩
  ·exact ⟨.inr rfl,hf.trans d J8⟩
theorem Ec(L:eF b c A rs u n T w)(z i:Int):Calls prog 68 #[b,(z:Int),(i:Int)] w fun e w'=>(∃(y:Nat) (o:Int),e= .returned (.tuple #[.int .u64 y,(o:Int)])/\y<18446744073709551616/\∀s x:Nat,z=s->rs[s]? =some x->y=fV A x i 3/\o=fC A x i 3)/\dC b c A rs T w w':=by
 obtain ⟨sv,φ,J,K,J2,h⟩:=iq L;have O:=ae (h.Zj z);have f:=ae h.space;have d:=ae (fun w1 x (hf:J7 w w1) m=>FO (h.get w1 x i 3 hf m (by decide)));have q:=ae h.ends;have v:=ae h.Xf;have B:=ae (fun x m=>h.val x i 3 m (by decide));have t:=ae (fun w' hf=>L.Xf.Qb (w':=w') hf);clear h L;generalize dC b c A rs T w=Q at*
 go_enter func68,ntmps68
 go_wp2_with fail
 obtain ⟨I,r⟩:=O.out _ rfl;clear O I;generalize w.alloc (.cells #[(z:Int)] 3)=W1 at*;refine r.out.mono ?_;rintro e w1 ⟨⟨s,x,g,cap,rfl,M,rfl,hg,P⟩|⟨U,rfl⟩,hf⟩
 ·have m:=ar M;have f:=ae (f.out w1.drew hf.drew);have d:=ae (d.out w1.drew x hf.drew m);have X:Hid (fV A x i 3<18446744073709551616/\∀s' E:Nat,(s:Int)=s'->rs[s']? =some E->fV A x i 3=fV A E i 3/\fC A x i 3=fC A E i 3):=ae ⟨B.out x m,fun s' E p l=>by
   obtain rfl:s=s':=by omega
   rw [M] at l
   cases l
   exact ⟨rfl,rfl⟩⟩
  have Y:w1.drew.cell? g=some (.int .i64 (φ x:Int)):=P;clear M hg P m B t hf r;generalize φ x=ax at*;generalize fV A x i 3=y at*;generalize fC A x i 3=o at*;go_wp2;refine cR 12 6 (fun a G=>a.heap.size<=G.heap.size) (fun a G=>G=a) [.c b,.c sv,.c (.slice (some g) 1 cap),.c g,.c (ax:Int),.c (i:Int),.w (.tuple #[.int .u64 y,(o:Int)]) (J),.c (.tuple #[.int .u64 y,(o:Int)]),.c (.int .u64 y),.c (o:Int),.c (.int .u64 y),.c (o:Int)] (fun j=>false) (by kernel_rfl) (fun _=>rfl) (fun _ _ h=>by subst h;exact ag _) (fun _ _ _ p l=>l.trans p) (fun _ _ _ p l=>by subst l;exact p) (fun _ _ _ p l=>by subst p;exact l) (fun _ _ h=>h) ⟨fun w1 w2 h Z=>by subst Z;exact h,trivial⟩ ⟨.inl rfl,trivial⟩ ?_;intro F R;simp only [il,PK.val,Kc,aa] at R;subst R;refine ⟨by
   refine ⟨?_,?_,?_,?_,?_,?_,?_,?_,?_,?_,?_,?_,trivial⟩<;>intro vs w1 V C hd m
   all_goals try (apply oV;rotate_left;rfl;exact rfl;go_simp;done)
   all_goals try (apply oV;rotate_left;rfl;exact rfl;have k:=C (by kernel_rfl);subst k;go_simp;done)
   ·have k:=C (by kernel_rfl);subst k;refine bh 29 #[b] (by go_simp) (f.out.mono ?_);rintro e w5 ⟨rfl,rfl⟩;exact ⟨_,rfl,rfl,rfl,fun h=>nomatch h⟩
   ·have k:=C (by kernel_rfl);subst k;refine bh 121 #[sv,(ax:Int),(i:Int)] (by go_simp) (d.out.mono ?_);rintro e w5 ⟨rfl,D,hz⟩;exact ⟨_,rfl,⟨rfl,D⟩,hz,fun h=>nomatch h⟩
   ,fun vs w3 V hp m=> ?_⟩
  obtain ⟨D,_⟩:=hp;have N:=ae (q.out w3 D);clear m V D d q f Y;simp only [an,aB];go_wp2_with fail
  refine N.out.mono ?_;rintro e w4 ⟨rfl,S⟩;have H:=ae (v.out w4 S);clear N S v;go_wp2;go_ret2;exact ⟨⟨y,o,rfl,X.out⟩,H.out⟩
 ·have H:=ae (t.out w1 hf);have W:Hid (∀s x:Nat,z=s->rs[s]? =some x->(0:Nat)=fV A x i 3/\(17:Int)=fC A x i 3):=ae (fun s x p l=>absurd ⟨s,x,p,l⟩ U);clear U hf r t B v q d f;go_wp2;go_ret2;exact ⟨⟨0,17,rfl,by decide,W.out⟩,H.out⟩
theorem kt(L:eF b c A rs u n T w)(z i:Int):Calls prog 10 #[b,(z:Int),(i:Int)] w fun e w'=>(∃(y:Nat) (o:Int),e= .returned (.tuple #[.float .f64 y,(o:Int)])/\y<18446744073709551616/\∀s x:Nat,z=s->rs[s]? =some x->y=fV A x i 2/\o=fC A x i 2)/\dC b c A rs T w w':=by
 obtain ⟨sv,φ,J,K,J2,h⟩:=iq L;have O:=ae (h.Zj z);have f:=ae h.space;have d:=ae (fun w1 x (hf:J7 w w1) m=>DD (h.get w1 x i 2 hf m (by decide)));have q:=ae h.ends;have v:=ae h.Xf;have B:=ae (fun x m=>h.val x i 2 m (by decide));have t:=ae (fun w' hf=>L.Xf.Qb (w':=w') hf);clear h L;generalize dC b c A rs T w=Q at*
 go_enter func10,ntmps10
 go_wp2_with fail
 obtain ⟨I,r⟩:=O.out _ rfl;clear O I;generalize w.alloc (.cells #[(z:Int)] 3)=W1 at*;refine r.out.mono ?_;rintro e w1 ⟨⟨s,x,g,cap,rfl,M,rfl,hg,P⟩|⟨U,rfl⟩,hf⟩
 ·have m:=ar M;have f:=ae (f.out w1.drew hf.drew);have d:=ae (d.out w1.drew x hf.drew m);have X:Hid (fV A x i 2<18446744073709551616/\∀s' E:Nat,(s:Int)=s'->rs[s']? =some E->fV A x i 2=fV A E i 2/\fC A x i 2=fC A E i 2):=ae ⟨B.out x m,fun s' E p l=>by
   obtain rfl:s=s':=by omega
   rw [M] at l
   cases l
   exact ⟨rfl,rfl⟩⟩
  have Y:w1.drew.cell? g=some (.int .i64 (φ x:Int)):=P;clear M hg P m B t hf r;generalize φ x=ax at*;generalize fV A x i 2=y at*;generalize fC A x i 2=o at*;go_wp2;refine cR 12 6 (fun a G=>a.heap.size<=G.heap.size) (fun a G=>G=a) [.c b,.c sv,.c (.slice (some g) 1 cap),.c g,.c (ax:Int),.c (i:Int),.w (.tuple #[.float .f64 y,(o:Int)]) (J),.c (.tuple #[.float .f64 y,(o:Int)]),.c (.float .f64 y),.c (o:Int),.c (.float .f64 y),.c (o:Int)] (fun j=>false) (by kernel_rfl) (fun _=>rfl) (fun _ _ h=>by subst h;exact ag _) (fun _ _ _ p l=>l.trans p) (fun _ _ _ p l=>by subst l;exact p) (fun _ _ _ p l=>by subst p;exact l) (fun _ _ h=>h) ⟨fun w1 w2 h Z=>by subst Z;exact h,trivial⟩ ⟨.inl rfl,trivial⟩ ?_;intro F R;simp only [il,PK.val,Kc,aa] at R;subst R;refine ⟨by
   refine ⟨?_,?_,?_,?_,?_,?_,?_,?_,?_,?_,?_,?_,trivial⟩<;>intro vs w1 V C hd m
   all_goals try (apply oV;rotate_left;rfl;exact rfl;go_simp;done)
   all_goals try (apply oV;rotate_left;rfl;exact rfl;have k:=C (by kernel_rfl);subst k;go_simp;done)
   ·have k:=C (by kernel_rfl);subst k;refine bh 29 #[b] (by go_simp) (f.out.mono ?_);rintro e w5 ⟨rfl,rfl⟩;exact ⟨_,rfl,rfl,rfl,fun h=>nomatch h⟩
   ·have k:=C (by kernel_rfl);subst k;refine bh 34 #[sv,(ax:Int),(i:Int)] (by go_simp) (d.out.mono ?_);rintro e w5 ⟨rfl,D,hz⟩;exact ⟨_,rfl,⟨rfl,D⟩,hz,fun h=>nomatch h⟩
   ,fun vs w3 V hp m=> ?_⟩
  obtain ⟨D,_⟩:=hp;have N:=ae (q.out w3 D);clear m V D d q f Y;simp only [an,aB];go_wp2_with fail
  refine N.out.mono ?_;rintro e w4 ⟨rfl,S⟩;have H:=ae (v.out w4 S);clear N S v;go_wp2;go_ret2;exact ⟨⟨y,o,rfl,X.out⟩,H.out⟩
 ·have H:=ae (t.out w1 hf);have W:Hid (∀s x:Nat,z=s->rs[s]? =some x->(0:Nat)=fV A x i 2/\(17:Int)=fC A x i 2):=ae (fun s x p l=>absurd ⟨s,x,p,l⟩ U);clear U hf r t B v q d f;go_wp2;go_ret2;exact ⟨⟨0,17,rfl,by decide,W.out⟩,H.out⟩
theorem D6(t:eF b c A rs u n T w)(z i:Int)(v:Nat)(I:v<18446744073709551616):Calls prog 75 #[b,(z:Int),(i:Int),.int .u64 v] w fun e w'=>∃o:Int,e= .returned (o:Int)/\((∃s x:Nat,z=s/\rs[s]? =some x/\o=fC A x i 3/\dC b c (A.Qy x i 3 v) rs T w w')\/(¬∃s x:Nat,z=s/\rs[s]? =some x)/\dC b c A rs T w w'):=by
 obtain ⟨sv,φ,J,K,J2,h⟩:=iq t;have C:=ae (h.Zj z);have f:=ae h.space;have d:=ae (fun w1 x (hf:J7 w w1) p=>xQ (h.set w1 x i 3 v hf p (by decide) I));have a:=ae (fun (L:AG) w' (h:sr b c L rs T w w')=>h.end_);have l:=ae (fun w' hf=>t.Xf.Qb (w':=w') hf);clear h t I
 go_enter func75,ntmps75
 go_wp2_with fail
 obtain ⟨r,j⟩:=C.out _ rfl;clear C r;generalize w.alloc (.cells #[(z:Int)] 3)=W1 at*;refine j.out.mono ?_;rintro e w1 ⟨⟨s,x,g,cap,rfl,y,rfl,hg,D⟩|⟨F,rfl⟩,hf⟩
 ·have p:=ar y;have f:=ae (fun k=>f.out (w1.drewN k) (hf.drewN k));have d:=ae (fun k=>d.out (w1.drewN k) x (hf.drewN k) p);have N:=ae y;have O:=D;have a:=ae (a.out (A.Qy x i 3 v));clear y hg D p l hf j;obtain ⟨Q,q⟩:∃Q,dC b c (A.Qy x i 3 v) rs T w=Q:=⟨_,rfl⟩;obtain ⟨o,m⟩:∃o,fC A x i 3=o:=⟨_,rfl⟩;rw [q] at a;rw [m] at d;have M:=ae (af q m);clear q m;generalize sr b c (A.Qy x i 3 v) rs T w=J at*;generalize φ x=ax at*;go_wp2;refine lL 7 (by kernel_rfl) ?_;simp only [Kc]
  repeat (go_big_quiet_step (fail))
  refine bf (sv) 29 #[b] rfl (fun w'=>by go_simp) (fun w' P=>by obtain ⟨k,rfl⟩:=P;exact (f.out k).mono (fun e w' h=>⟨h.1,k,h.2.symm⟩)) ?_;simp only [aa]
  repeat (go_big_quiet_step (fail))
  refine wpQuiet_nil ?_;rintro w2 ⟨k,rfl⟩;go_wp2_with fail
  refine (d.out k).mono ?_;rintro e w3 ⟨rfl,E⟩;have B:=ae (a.out w3 E);clear d E a f O;go_wp2_with fail
  refine B.out.mono ?_;rintro e w4 ⟨rfl,G⟩;have H:=ae G;clear B G;go_wp2;go_ret;obtain ⟨rfl,rfl⟩:=M.out;exact ⟨_,rfl,.inl ⟨s,x,rfl,N.out,rfl,H.out⟩⟩
 ·have H:=ae (af F (l.out w1 hf));clear F hf j l a d f;go_wp2;go_ret;exact ⟨17,rfl,.inr H.out⟩
theorem tv(t:eF b c A rs u n T w)(z i:Int)(v:Nat)(I:v<18446744073709551616):Calls prog 7 #[b,(z:Int),(i:Int),.float .f64 v] w fun e w'=>∃o:Int,e= .returned (o:Int)/\((∃s x:Nat,z=s/\rs[s]? =some x/\o=fC A x i 2/\dC b c (A.Qy x i 2 v) rs T w w')\/(¬∃s x:Nat,z=s/\rs[s]? =some x)/\dC b c A rs T w w'):=by
 obtain ⟨sv,φ,J,K,J2,h⟩:=iq t;have C:=ae (h.Zj z);have f:=ae h.space;have d:=ae (fun w1 x (hf:J7 w w1) p=>vD (h.set w1 x i 2 v hf p (by decide) I));have a:=ae (fun (L:AG) w' (h:sr b c L rs T w w')=>h.end_);have l:=ae (fun w' hf=>t.Xf.Qb (w':=w') hf);clear h t I
 go_enter func7,ntmps7
 go_wp2_with fail
 obtain ⟨r,j⟩:=C.out _ rfl;clear C r;generalize w.alloc (.cells #[(z:Int)] 3)=W1 at*;refine j.out.mono ?_;rintro e w1 ⟨⟨s,x,g,cap,rfl,y,rfl,hg,D⟩|⟨F,rfl⟩,hf⟩
 ·have p:=ar y;have f:=ae (fun k=>f.out (w1.drewN k) (hf.drewN k));have d:=ae (fun k=>d.out (w1.drewN k) x (hf.drewN k) p);have N:=ae y;have O:=D;have a:=ae (a.out (A.Qy x i 2 v));clear y hg D p l hf j;obtain ⟨Q,q⟩:∃Q,dC b c (A.Qy x i 2 v) rs T w=Q:=⟨_,rfl⟩;obtain ⟨o,m⟩:∃o,fC A x i 2=o:=⟨_,rfl⟩;rw [q] at a;rw [m] at d;have M:=ae (af q m);clear q m;generalize sr b c (A.Qy x i 2 v) rs T w=J at*;generalize φ x=ax at*;go_wp2;refine lL 7 (by kernel_rfl) ?_;simp only [Kc]
  repeat (go_big_quiet_step (fail))
  refine bf (sv) 29 #[b] rfl (fun w'=>by go_simp) (fun w' P=>by obtain ⟨k,rfl⟩:=P;exact (f.out k).mono (fun e w' h=>⟨h.1,k,h.2.symm⟩)) ?_;simp only [aa]
  repeat (go_big_quiet_step (fail))
  refine wpQuiet_nil ?_;rintro w2 ⟨k,rfl⟩;go_wp2_with fail
  refine (d.out k).mono ?_;rintro e w3 ⟨rfl,E⟩;have B:=ae (a.out w3 E);clear d E a f O;go_wp2_with fail
  refine B.out.mono ?_;rintro e w4 ⟨rfl,G⟩;have H:=ae G;clear B G;go_wp2;go_ret;obtain ⟨rfl,rfl⟩:=M.out;exact ⟨_,rfl,.inl ⟨s,x,rfl,N.out,rfl,H.out⟩⟩
 ·have H:=ae (af F (l.out w1 hf));clear F hf j l a d f;go_wp2;go_ret;exact ⟨17,rfl,.inr H.out⟩
end
section
variable{b u n:Nat}{c:Cf}{A:AG}{rs:List Nat}{T:Nat->Prop}{w:World}{sv:Value}{φ:Nat->Nat}{J K:World->Prop}{J2:World->World->Prop}
theorem yk(q:eF b c A rs u n T w)(z i y:Int):Calls prog 74 #[b,(z:Int),(i:Int),(y:Int)] w fun e w'=>∃G:Int,e= .returned (G:Int)/\((∃s x t v:Nat,z=s/\rs[s]? =some x/\y=t/\rs[t]? =some v/\dC b c (A.Qy x i 1 v) rs T w w')\/dC b c A rs T w w'):=by
 obtain ⟨sv,φ,J,K,J2,h⟩:=iq q;have D:=ae (h.find2 z y);have d:=ae h.space;have f:=ae (fun w1 x v (hf:J7 w w1) m R=>h.sptr w1 x i v hf m R);have a:=ae (fun (M:AG) w' (h:sr b c M rs T w w')=>h.end_);have l:=ae (fun w' hf=>q.Xf.Qb (w':=w') hf);clear h q
 go_enter func74,ntmps74
 go_wp2_with fail
 obtain ⟨p,j⟩:=D.out _ rfl;clear D p;generalize w.alloc (.cells #[(z:Int),(y:Int)] 3)=W1 at*;refine j.out.mono ?_;rintro e w1 ⟨⟨s,x,t,v,g,cap,rfl,r,rfl,B,rfl,F,c1⟩|rfl,hf⟩
 ·have m:=ar r;have d:=ae (fun k=>d.out (w1.drewN k) (hf.drewN k));have f:=ae (fun k=>f.out (w1.drewN k) x v (hf.drewN k) m (ar B));have E:=ae (af r B);have O:=F;have P:=c1;have a:=ae (a.out (A.Qy x i 1 v));clear r B F c1 m l hf j;obtain ⟨Q,o⟩:∃Q,dC b c (A.Qy x i 1 v) rs T w=Q:=⟨_,rfl⟩;rw [o] at a;have N:=ae o;clear o;generalize sr b c (A.Qy x i 1 v) rs T w=J at*;generalize fC A x i 1=G at*;generalize φ x=ax at*;generalize φ v=av at*;go_wp2;refine lL 9 (by kernel_rfl) ?_;simp only [Kc]
  repeat (go_big_quiet_step (fail))
  refine bf (sv) 29 #[b] rfl (fun w'=>by go_simp) (fun w' S=>by obtain ⟨k,rfl⟩:=S;exact (d.out k).mono (fun e w' h=>⟨h.1,k,h.2.symm⟩)) ?_;simp only [aa]
  repeat (go_big_quiet_step (fail))
  refine wpQuiet_nil ?_;rintro w2 ⟨k,rfl⟩;go_wp2_with fail
  refine (f.out k).mono ?_;rintro e w3 ⟨rfl,I⟩;have C:=ae (a.out w3 I);clear f I a d O P;go_wp2_with fail
  refine C.out.mono ?_;rintro e w4 ⟨rfl,L⟩;have H:=ae L;clear C L;go_wp2;go_ret;obtain rfl:=N.out;exact ⟨_,rfl,.inl ⟨s,x,t,v,rfl,E.out.1,rfl,E.out.2,H.out⟩⟩
 ·have H:=ae (l.out w1 hf);clear hf j l a f d;go_wp2;go_ret;exact ⟨17,rfl,.inr H.out⟩
theorem BM(U:eF b c A rs u n T w)(z y i:Int):Calls prog 73 #[b,(z:Int),(y:Int),(i:Int)] w fun e w'=>∃f:Int,e= .returned (f:Int)/\((∃s t x:Nat,z=s/\y=t/\rs[t]? =some x/\dC b c A (rs.set s (fV A x i 1)) T w w')\/dC b c A rs T w w'):=by
 obtain ⟨sv,φ,J,K,J2,h⟩:=iq U;have W:=ae (h.find2 z y);have l:=ae h.space;have k:=ae (fun w1 x (hf:J7 w w1) o=>rn (h.getp w1 x i hf o) (h.small x i o).1 (h.small x i o).2);have B:=ae h.ends;have q:=ae h.Xf;have d:=ae h.root;have D:=ae (fun w' hf=>U.Xf.Qb (w':=w') hf);clear h U
 go_enter func73,ntmps73
 go_wp2_with fail
 obtain ⟨S,C⟩:=W.out _ rfl;clear W S;generalize w.alloc (.cells #[(z:Int),(y:Int)] 3)=W1 at*;refine C.out.mono ?_;rintro e w1 ⟨⟨s,x0,t,x,g,cap,rfl,hs,rfl,V,rfl,c0,c1⟩|rfl,hf⟩
 ·have o:=ar V;have l:=ae (l.out w1.drew hf.drew);have k:=ae (k.out w1.drew x hf.drew o);have HX:=ae V;have d0:w1.drew.cell? ⟨g,1,none⟩=some (.int .i64 (φ x:Int)):=c1;obtain ⟨Q,P⟩:∃Q:Nat->World->Prop,Q=fun s' w'=>dC b c A (rs.set s' (fV A x i 1)) T w w':=⟨_,rfl⟩
  have d:Hid (∀w1,K w1->∃L,w1.cell? ⟨b,9,none⟩=some (.pointer (some ⟨L,0,none⟩))/\Calls prog 22 #[.pointer (some ⟨L,0,none⟩),(s:Int),((φ (fV A x i 1):Int):Int)] w1 fun e w'=>∃f:Int,e= .returned (f:Int)/\((∃s':Nat,(s:Int)=s'/\Q s' w')\/dC b c A rs T w w')):=by
   show∀w1,_
   intro w1 G;obtain ⟨L,r,v⟩:=d.out w1 G;rw [P];exact ⟨L,r,v s i x o⟩
  have HQ:Hid (∀s' w',Q s' w'->dC b c A (rs.set s' (fV A x i 1)) T w w'):=ae (fun s' w' h=>by rwa [P] at h);clear hs V c0 c1 o D hf C P;generalize φ (fV A x i 1)=p at*;generalize fC A x i 1=f at*;generalize φ x=ax at*;go_wp2;refine cR 12 6 (fun a O=>a.heap.size<=O.heap.size) (fun a O=>O=a) [.c b,.c sv,.c (.slice (some g) 2 cap),.c (.pointer (some ⟨g,1,none⟩)),.c (ax:Int),.c (i:Int),.w (.tuple #[(p:Int),(f:Int)]) (J),.c (.tuple #[(p:Int),(f:Int)]),.c (p:Int),.c (f:Int),.c (p:Int),.c (f:Int)] (fun j=>false) (by kernel_rfl) (fun _=>rfl) (fun _ _ h=>by subst h;exact ag _) (fun _ _ _ r v=>v.trans r) (fun _ _ _ r v=>by subst v;exact r) (fun _ _ _ r v=>by subst r;exact v) (fun _ _ h=>h) ⟨fun w1 w2 h hr=>by subst hr;exact h,trivial⟩ ⟨.inl rfl,trivial⟩ ?_;intro F Y;simp only [il,PK.val,Kc,aa] at Y;subst Y;refine ⟨by
   refine ⟨?_,?_,?_,?_,?_,?_,?_,?_,?_,?_,?_,?_,trivial⟩<;>intro vs w1 hw E hd o
   all_goals try (apply oV;rotate_left;rfl;exact rfl;go_simp;done)
   all_goals try (apply oV;rotate_left;rfl;exact rfl;have m:=E (by kernel_rfl);subst m;go_simp;done)
   ·have m:=E (by kernel_rfl);subst m;refine bh 29 #[b] (by go_simp) (l.out.mono ?_);rintro e w5 ⟨rfl,rfl⟩;exact ⟨_,rfl,rfl,rfl,fun h=>nomatch h⟩
   ·have m:=E (by kernel_rfl);subst m;refine bh 126 #[sv,(ax:Int),(i:Int)] (by go_simp) (k.out.mono ?_);rintro e w5 ⟨rfl,M,hz⟩;exact ⟨_,rfl,⟨rfl,M⟩,hz,fun h=>nomatch h⟩
   ,fun vs w3 hw hp o=> ?_⟩
  obtain ⟨M,_⟩:=hp;have N:=ae (B.out w3 M);clear o hw M k B l d0;simp only [an,aB];go_wp2_with fail
  refine N.out.mono ?_;rintro e w4 ⟨rfl,G⟩;by_cases R:f=0
  ·obtain ⟨L,k9,I⟩:=d.out w4 G;have X:=ae I;subst R;clear N G q d I;go_wp2_with fail
   refine X.out.mono ?_;rintro e w5 ⟨f,rfl,Z⟩;have H:=ae Z;clear X Z k9;go_wp2;go_ret;exact ⟨f,rfl,H.out.imp (fun ⟨s',r,v⟩=>⟨s',t,x,r,rfl,HX.out,HQ.out _ _ v⟩) id⟩
  ·have H:=ae (q.out w4 G);have R:(f==0)=false:=by rw [beq_eq_false_iff_ne];exact R
   clear N G q d;go_wp2;go_ret;exact ⟨f,rfl,.inr H.out⟩
 ·have H:=ae (D.out w1 hf);clear hf C D B k l q d;go_wp2;go_ret;exact ⟨17,rfl,.inr H.out⟩
theorem BK(i:eF b c A rs u n T w)(z y:Int):Calls prog 69 #[b,(z:Int),(y:Int)] w fun e w'=>(∃(B:Bool) (l:Int),e= .returned (.tuple #[.bool B,(l:Int)]))/\dC b c A rs T w w':=by
 obtain ⟨sv,φ,J,K,J2,h⟩:=iq i;have j:=ae (h.find2 z y);have a:=ae (fun w' hf=>i.Xf.Qb (w':=w') hf);clear h i;generalize dC b c A rs T w=Q at*
 go_enter func69,ntmps69
 go_wp2_with fail
 obtain ⟨f,d⟩:=j.out _ rfl;clear j f;generalize w.alloc (.cells #[(z:Int),(y:Int)] 3)=W1 at*;refine d.out.mono ?_;rintro e w1 ⟨⟨s,x,t,v,g,cap,rfl,m,rfl,o,rfl,p,c1⟩|rfl,hf⟩
 ·have H:=ae (fun k=>a.out (w1.drewN k) (hf.drewN k));clear m o hf a d;go_wp2
  go_quiet (fail)
  go_wp2;go_ret2;exact ⟨⟨_,_,rfl⟩,H.out _⟩
 ·have H:=ae (a.out w1 hf);clear hf a d;go_wp2;go_ret2;exact ⟨⟨_,_,rfl⟩,H.out⟩
end
section
variable{b u n:Nat}{c:Cf}{A:AG}{rs:List Nat}{T:Nat->Prop}{w:World}{sv:Value}{φ:Nat->Nat}{J K:World->Prop}{J2:World->World->Prop}
def JX(b:Nat)(c:Cf)(A:AG)(rs:List Nat)(T:Nat->Prop)(w:World)(p f g:Int)(r0 sb:Nat)(wx:World):Prop:=ay wx sb [(p:Int),(f:Int),(g:Int)] 32/\ay wx r0 [(0:Int),(0:Int),(0:Int)] 32/\sb≠r0/\¬T sb/\¬T r0/\Calls prog 30 #[b] wx fun e w'=>e= .returned (.tuple #[])/\Jy b c A rs T (r0+1) w w'/\Fr T wx w'
theorem rL(hi:eF b c A rs u n T w)(z:Int):Calls prog 36 #[b,(z:Int)] w fun e w'=>(∃p f g cd:Int,e= .returned (.tuple #[ft p f g,(cd:Int)])/\(cd=0->dD p f g/\∃s x:Nat,z=s/\rs[s]? =some x/\x≠0/\p=A.np x/\f=A.nf x/\g=A.ng x)/\∀s x:Nat,z=s->rs[s]? =some x->x≠0->cd=0)/\dC b c A rs T w w':=by
 have N:=hi.lt;obtain ⟨sv,φ,J1,K1,J,h⟩:=iq hi;have M:=hi.Xf;obtain ⟨W0,S⟩:∃W0,w.alloc (.cells #[(0:Int),(0:Int),(0:Int)] 32)=W0:=⟨_,rfl⟩;have an:J7 w W0:=by rw [<-S];exact (Kb _ w).alloc _
 have al:ay W0 w.heap.size [(0:Int),(0:Int),(0:Int)] 32:=by rw [<-S];exact ay.new w _ _
 obtain ⟨W1,I⟩:∃W1,W0.alloc (.cells #[(z:Int)] 3)=W1:=⟨_,rfl⟩;have B:J7 w W1:=by rw [<-I];exact an.alloc _
 have am:ay W1 W0.heap.size [(z:Int)] 3:=by rw [<-I];exact ay.new W0 _ _
 have m:ay W1 w.heap.size [(0:Int),(0:Int),(0:Int)] 32:=by rw [<-I];exact al.alloc _
 have H:¬T w.heap.size:=fun h=>by have:=N _ h;omega
 have P:=ae (h.find W1 B W0.heap.size 1 [z] (fun j y hy=>by
  match j,hy with
  |0,hy=>
   obtain rfl:z=y:=bK hy;exact am.cell 0 rfl) (by simp) (by simp))
 rw [show [z].length=1 from rfl] at P;have aI:Hid ((prog.info? 32).map (·.size)=some 3):=by show _=_;kernel_rfl
 go_enter func36,ntmps36
 go_wp2_with fail
 refine P.out.mono ?_;rintro e w1 (⟨xs,hs,G,cap,rfl,a0,hc,hf⟩|⟨hn,rfl,hf⟩)
 rotate_left
 ·have D:=ae (m.frame hf id);have HF:=ae (B.trans hf J8);have HH:=ae (fun w2 aY=>M.Qb (w':=w2) aY);have aX:Hid (∀s x:Nat,z=s->rs[s]? =some x->x≠0->(17:Int)=0):=ae (fun s x h1 h2 _=>absurd ⟨[φ x],rfl,fun j y hy=>by
   match j,hy with
   |0,hy=>
    obtain rfl:z=y:=bK hy;exact ⟨s,φ x,h1,by rw [aR,h2];rfl,rfl⟩⟩ hn)
  obtain ⟨c0,c1,c2⟩:=eB D.out;have l0:=D.out.free 0;have l1:=D.out.free 1;have l2:=D.out.free 2;have E:Hid (∀W,W=((w1.setCell w.heap.size (.int .i64 0)).setCell ⟨w.heap.size,1,none⟩ (.int .i64 0)).setCell ⟨w.heap.size,2,none⟩ (.int .i64 0)->ay W w.heap.size [(0:Int),(0:Int),(0:Int)] 32/\dC b c A rs T w W):=by
   show∀W,_
   rintro W rfl;exact ⟨((D.out.set 0 _).set 1 _).set 2 _,HH.out _ (((HF.out.setCell w.heap.size (.inr (ag _)) _).setCell ⟨w.heap.size,1,none⟩ (.inr (ag _)) _).setCell ⟨w.heap.size,2,none⟩ (.inr (ag _)) _)⟩
  clear hi M h hn an al B am m P S I N H hf D HF HH;go_wp2;obtain ⟨hb,V⟩:=E.out _ rfl;refine bodyPost_ret (ei rfl _ _ _ _ _ _ _ rfl hb underlying32 rfl aI.out) rfl ?_;exact ⟨⟨0,0,0,17,rfl,fun h=>absurd h (by decide),aX.out⟩,V⟩
 obtain ⟨s,a,rfl,ha,aq⟩:=hs.2 0 z rfl;rw [aR,dM] at ha;obtain ⟨x,Z,rfl⟩:=ha;obtain ⟨p,f,g,cd,aU,ao,ap,h3⟩:=h.read x (ar Z);have aW:xs.length=1:=hs.1;rw [aW];obtain ⟨O,aO⟩:∃O,O=φ x:=⟨_,rfl⟩;rw [<-aO] at h3 aq;have h2:=h.space;have h4:=h.end2;have HX:Hid (∃p' f' g' R:Int,Ending.returned (.tuple #[ft p f g,(cd:Int)])= .returned (.tuple #[ft p' f' g',(R:Int)])/\(R=0->dD p' f' g'/\∃s' x:Nat,(s:Int)=s'/\rs[s']? =some x/\x≠0/\p'=A.np x/\f'=A.nf x/\g'=A.ng x)/\∀s' x:Nat,(s:Int)=s'->rs[s']? =some x->x≠0->R=0):=by
  show∃p' f' g' R:Int,_
  refine ⟨p,f,g,cd,rfl,fun aP=>⟨aU,s,x,rfl,Z,fun hx=> ?_,?_⟩,fun s' y e1 e2 e3=> ?_⟩
  ·have:=ap hx;rw [aP] at this;cases this
  ·have hx:x≠0:=fun hx=>by have:=ap hx;rw [aP] at this;cases this
   have:=ao hx;exact ⟨this.1,this.2.1,this.2.2.1⟩
  ·obtain rfl:s=s':=by omega
   rw [Z] at e2
   cases e2
   exact (ao e3).2.2.2
 clear aU ao ap h hs Z aW aO;have C:=B.trans hf J8;have U:=hc 0 O aq;clear aq;have a3:=B.size;have aT:¬T G:=fun h=>by have:=N _ h;omega
 have Y:=m.frame hf id;have r:=ae ((Kb (fun _=>False) w1).drew);have t:=ae (fun o=>((Kb (fun _=>False) w1).alloc o).drew);have v:=ae (fun o=>((Kb (fun _=>False) w1).drew).alloc o);have az:Hid (ay (w1.alloc (.cells #[(0:Int),(0:Int),(0:Int)] 32)).drew w1.heap.size [(0:Int),(0:Int),(0:Int)] 32):=ae (ay.new w1 _ _).drew;have aA:Hid (ay (w1.drew.alloc (.cells #[(0:Int),(0:Int),(0:Int)] 32)) w1.heap.size [(0:Int),(0:Int),(0:Int)] 32):=ae (ay.new w1.drew _ _);have q:=ae (fun w' (L:J7 w1 w')=>(show w'.cell? G=some (.int .i64 O) from (World.cell?_of_block (w:=w1) (L.block _ (bu U) id)).trans U));have aN:=ae (fun w' (L:J7 w1 w')=>h2 w' (C.trans L J8));have aj:=ae (fun w' (L:J7 w1 w')=>h3 w' (C.trans L J8));have aG:Hid (∀w' ad,J7 w1 w'->Fr T w' ad->ad.cell? G=some (.int .i64 O)):=by
  show∀w' ad,_
  intro w' ad q1 q2;exact (World.cell?_of_block (w:=w') (q2.block _ (bu (q.out w' q1)) aT)).trans (q.out w' q1)
 have aB:Hid (∀(w':World) o,w'.cell? G=some (.int .i64 O)->(w'.alloc o).cell? G=some (.int .i64 O)):=by
  show∀(w':World) o,_
  exact fun w' o V=>(World.cell?_alloc_lt _ _ _ (World.block_lt_of_cell? _ _ V)).trans V
 have aC:Hid (∀(w':World) (sb:Nat) (x0 x1 x2:Value),sb≠G->w'.cell? G=some (.int .i64 O)->(((w'.setCell sb x0).setCell ⟨sb,1,none⟩ x1).setCell ⟨sb,2,none⟩ x2).cell? G=some (.int .i64 O)):=by
  show∀(w':World) (sb:Nat) (x0 x1 x2:Value),_
  intro w' sb x0 x1 x2 a2 V;have hf:=(((Kb (fun k=>k=sb) w').setCell sb (.inl rfl) x0).setCell ⟨sb,1,none⟩ (.inl rfl) x1).setCell ⟨sb,2,none⟩ (.inl rfl) x2;exact (World.cell?_of_block (a:=⟨G,0,none⟩) (hf.block _ (bu V) (fun e=>a2 (Eq.symm e)))).trans V
 have a1:G<w1.heap.size:=bu U;have aH:Hid (¬T w1.heap.size):=ae (fun h=>by have:=N _ h;have:=C.size;omega)
 go_upto_region 4 with fail
 obtain ⟨l,av⟩:∃l,l=w.heap.size:=⟨_,rfl⟩;rw [<-av] at Y H ⊢;have ak:=ae (af av hi.Qo.2.1);have F:Hid (∀wr w2 wx sb,J7 w1 wr->J wr w2->Fr T wr w2->ay wx sb [(p:Int),(f:Int),(g:Int)] 32->Fr (fun k=>k=sb) w2 wx->w1.heap.size<=sb->(sb<wr.heap.size\/w2.heap.size<=sb)->JX b c A rs T w p f g l sb wx):=by
  show∀wr w2 wx sb,_
  intro wr w2 wx sb q1 q2 q3 q4 q5 q6 q7;have a6:=C.size;have a5:=Y.lt;refine ⟨q4,((Y.frame q1 id).frame q3 H).frame q5 (fun e=>by omega),by omega,fun h=>by have:=N _ h;omega,H,(h4 wr w2 wx (C.trans q1 J8) q2 (q5.mono (fun k X=> .inl ?_))).mono (fun e w' ⟨g1,⟨u,n,T',g2,g3,g4⟩,g5⟩=>⟨g1,⟨u,n,T',g2,g3,fun k X=>(g4 k X).imp id (fun h=>by have:=q1.size;omega)⟩,g5⟩)⟩;subst X;exact ⟨by omega,q7⟩
 clear h2 h3 h4 hi an al B am m P S I C U a3 aT a0 hc hf av M
 go_cut [7,8] from 20 to 28 (fun v7 v8 wx=>∃sb:Nat,v8= .pointer (some ⟨sb,0,none⟩)/\v7= .int .i64 cd/\Hid (JX b c A rs T w p f g l sb wx))
 case first=>
  unfold ft at aj
  go_region_held3 (fun w'=>w'.cell? G=some (.int .i64 O)) (with_reducible first
   |assumption
   |exact q.out _ r.out
   |exact q.out _ (t.out _)
   |exact q.out _ (v.out _)
   |exact aB.out _ _ (by assumption)
   |exact aC.out _ _ _ _ _ (by omega) (by assumption)) (first
   |(go_at_call 29;refine (aN.out _ (by with_reducible first|exact r.out|exact t.out _|exact v.out _)).mono ?_;rintro e w3 ⟨rfl,rfl⟩)
   |(go_at_call 80;refine (aj.out _ (by with_reducible first|exact r.out|exact t.out _|exact v.out _)).mono ?_;rintro e w4 ⟨rfl,hj,d⟩;have a4:=aG.out _ _ (by with_reducible first|exact r.out|exact t.out _|exact v.out _) d;(try (have i:ay w4 w1.heap.size [(0:Int),(0:Int),(0:Int)] 32:=ay.frame (by with_reducible first|exact az.out|exact aA.out) d aH.out;obtain ⟨k0,k1,k2,_⟩:=Kf i;have l0:=i.free 0;have l1:=i.free 1;have l2:=i.free 2))))
  ·go_wp2;go_meet
   case rel=>exact ⟨_,rfl,rfl,ae (F.out _ w4 _ _ r.out hj d (ay.new w4 _ _) ((Kb _ w4).alloc _) d.size (.inr (ag _)))⟩
  all_goals
   go_wp2;go_meet
   case rel=>exact ⟨_,rfl,rfl,ae (F.out _ w4 _ _ (by with_reducible first|exact t.out _|exact v.out _) hj d (((i.set 0 _).set 1 _).set 2 _) ((((Kb (fun k=>k=w1.heap.size) w4).setCell w1.heap.size (.inl rfl) _).setCell ⟨w1.heap.size,1,none⟩ (.inl rfl) _).setCell ⟨w1.heap.size,2,none⟩ (.inl rfl) _) (ag _) (.inl (show w1.heap.size<(w1.alloc _).heap.size from by rw [World.size_alloc];exact cl _)))⟩
 case rest=>
  obtain ⟨sb,rfl,rfl,hm⟩:=hcut;obtain ⟨b1,Q,n1,n2,n3,ah⟩:=hm.out;have HE:=ae ah;have D:=ae (af b1 (af Q (af n2 n3)));clear hm b1 Q n2 n3 ah r t v q aN aj aG aB aC F az aA aH a1 Y;go_wp2_with fail
  refine HE.out.mono ?_;rintro e w5 ⟨rfl,hq,d⟩;have b1:=D.out.1.frame d D.out.2.2.1;have Q:=D.out.2.1.frame d D.out.2.2.2;obtain ⟨k0,k1,k2⟩:=eB b1;obtain ⟨c0,c1,c2⟩:=eB Q;have l0:=Q.free 0;have l1:=Q.free 1;have l2:=Q.free 2;have E:Hid (∀W,W=((w5.setCell l (.int .i64 p)).setCell ⟨l,1,none⟩ (.int .i64 f)).setCell ⟨l,2,none⟩ (.int .i64 g)->ay W l [(p:Int),(f:Int),(g:Int)] 32/\dC b c A rs T w W):=by
   show∀W,_
   rintro W rfl;obtain ⟨u',n',T',g1,g2,g3⟩:=hq;have aS:=(((Kb (fun k=>k=l) w5).setCell l (.inl rfl) (.int .i64 p)).setCell ⟨l,1,none⟩ (.inl rfl) (.int .i64 f)).setCell ⟨l,2,none⟩ (.inl rfl) (.int .i64 g);refine ⟨((Q.set 0 _).set 1 _).set 2 _,u',n',T',g1.stays aS (fun k X e=> ?_) (fun e=> ?_),g2.trans aS (fun k X=> .inr ?_),fun k X=>(g3 k X).imp id (fun h=> ?_)⟩
   ·have e:k=l:=e;subst e;exact (g3 _ X).elim H (fun h=>by omega)
   ·have e:ch=l:=e;have:=ak.out;omega
   ·have e:k=l:=X;have:=ak.out;omega
   ·have:=ak.out;omega
  clear hq d D HE b1 Q;go_wp2;obtain ⟨hb,V⟩:=E.out _ rfl;refine bodyPost_ret (ei rfl _ _ _ _ _ _ _ rfl hb underlying32 rfl aI.out) rfl ?_;exact ⟨HX.out,V⟩
end
def Qj:List Nat->Nat
 |[]=>0
 |x::xs=>x+18446744073709551616*Qj xs
theorem tY:∀(ns:List Nat) (i x y:Nat),ns[i]? =some x->Qj (ns.set i y)+x*18446744073709551616^i=Qj ns+y*18446744073709551616^i
 |[],i,x,y,h=>by grind
 |a::ns,0,x,y,h=>by grind [Qj]
 |a::ns,i+1,x,y,h=>by
  have b:=tY ns i x y (by grind);simp only [ac,Qj,d9]
  grind
def fH(ns:List Nat):Prop:=∀x∈ns,x<18446744073709551616
theorem fH.set{ns:List Nat}(h:fH ns)(i:Nat){y:Nat}(c:y<18446744073709551616):fH (ns.set i y):=by
 intro x b;rcases bS b with a|a
 ·exact h x a
 omega
theorem fH.get{ns:List Nat}(h:fH ns){i x:Nat}(a:ns[i]? =some x):x<18446744073709551616:=h x (ar a)
theorem nA:∀{ns:List Nat},fH ns->Qj ns<18446744073709551616^ns.length
 |[],_=>by simp [Qj]
 |x::xs,h=>by
  have b:=nA (ns:=xs) (fun y a=>h y (bm _ a));have c:=h x (cw)
  grind [Qj]
theorem pD{ns:List Nat}{i x a s c:Nat}(h:ns[i]? =some x)(b:s+c*18446744073709551616=x+a):
  Qj (ns.set i s)+c*18446744073709551616^(i+1)=Qj ns+a*18446744073709551616^i:=by
 grind [tY]
theorem ke{ns:List Nat}{i x a s c:Nat}(h:ns[i]? =some x)(b:s+a=x+c*18446744073709551616):
  Qj (ns.set i s)+a*18446744073709551616^i=Qj ns+c*18446744073709551616^(i+1):=by
 grind [tY]
theorem kS(x y c:Nat)(b d c':Int)(e:b=x)(f:d=y)(a:c'=c)(g:c<=1)(w:World):(callFunc 135 #[.int .u64 b,.int .u64 d,.int .u64 c']).run prog w=
  .ok (.value (.tuple #[.int .u64 (((x+y+c)% 18446744073709551616:Nat):Int),.int .u64 (((x+y+c)/18446744073709551616:Nat):Int)])) w:=by
 subst e;subst f;subst a;rcases (show c=0\/c=1 by omega) with rfl|rfl<;>kernel_rfl
def fG(made:Bool)(ns:List Nat)(nan plus minus:Bool)(count Qa:Int):List Value:=
 .bool made::(ns.map (fun n:Nat=>Value.int .u64 n)++[.bool nan,.bool plus,.bool minus,.int .i64 count,.int .i64 Qa])
theorem sA{c:Bool}{ns:List Nat}{e d b:Bool}{a f:Int}{i x:Nat}(h:ns[i]? =some x):(fG c ns e d b a f)[1+i]? =some (.int .u64 x):=by
 grind [fG,List.getElem?_append_left]
theorem t7{c:Bool}{ns:List Nat}{e d b:Bool}{a f:Int}{i:Nat}(g:i<ns.length)(y:Nat):
  (fG c ns e d b a f).set (1+i) (.int .u64 y)=fG c (ns.set i y) e d b a f:=by
 grind [fG,List.map_set]
def cS(w:World)(b:Nat)(made:Bool)(ns:List Nat)(nan plus minus:Bool)(count Qa:Int):Prop:=
 ay w b (fG made ns nan plus minus count Qa) 132/\ns.length=35/\fH ns
theorem cS.limb{w:World}{b:Nat}{d:Bool}{ns:List Nat}{f e c:Bool}{a g:Int}(h:cS w b d ns f e c a g){i x:Nat}(j:ns[i]? =some x):
  w.cell? ⟨b,1+i,none⟩=some (.int .u64 x):=h.1.cell _ (sA j)
theorem cS.set{w:World}{b:Nat}{d:Bool}{ns:List Nat}{f e c:Bool}{a g:Int}(h:cS w b d ns f e c a g){i y:Nat}(j:i<35)(k:y<18446744073709551616):
  cS (w.setCell ⟨b,1+i,none⟩ (.int .u64 y)) b d (ns.set i y) f e c a g:=by
 refine ⟨?_,by rw [aW];exact h.2.1,h.2.2.set i k⟩;rw [<-t7 (by rw [h.2.1];exact j)];exact h.1.set _ _
theorem cS.drew{w:World}{b:Nat}{d:Bool}{ns:List Nat}{f e c:Bool}{a g:Int}(h:cS w b d ns f e c a g):cS w.drew b d ns f e c a g:=h
def oQ(w0:World)(b:Nat)(made:Bool)(nan plus minus:Bool)(count Qa:Int)(T i c:Nat)(w:World):Prop:=
 ∃ms,cS w b made ms nan plus minus count Qa/\Fr (fun k=>k=b) w0 w/\Qj ms+c*18446744073709551616^i=T
theorem oQ.done{w0:World}{b:Nat}{e g f d:Bool}{a m:Int}{T i c:Nat}{w:World}(h:oQ w0 b e g f d a m T i c w)(o:i=35\/c=0):
  ∃j,cS w b e j g f d a m/\Qj j=T% 18446744073709551616^35/\Fr (fun k=>k=b) w0 w:=by
 obtain ⟨q,l,n,r⟩:=h;have p:=nA l.2.2;rw [l.2.1] at p;refine ⟨q,l,?_,n⟩;rcases o with rfl|rfl
 ·omega
 omega
theorem xM(b:Nat)(m:Bool)(ns:List Nat)(r n g:Bool)(f A:Int)(p o Hg:Nat)(w:World)(h:cS w b m ns r n g f A)(hp:p<34)(hl:o<18446744073709551616)(hh:Hg<18446744073709551616):
  Calls prog 134 #[b,(p:Int),.int .u64 o,.int .u64 Hg] w fun e w'=>e= .returned (.tuple #[])/\∃O,cS w' b m O r n g f A/\
   Qj O=(Qj ns+(o+Hg*18446744073709551616)*18446744073709551616^p)% 18446744073709551616^35/\Fr (fun k=>k=b) w w':=by
 have aj:=h.2.1;obtain ⟨x,Q⟩:∃x,ns[p]? =some x:=⟨ns[p]'(by omega),by simp⟩;have c1:=h.limb Q;have ak:(p:Int)<35:=by omega
 have P:=h.1.free (1+p);have u:=kS x o 0 _ _ 0 rfl rfl rfl (by omega);have am:=h.2.2.get Q;generalize hs:(x+o+0)% 18446744073709551616=s at u;generalize hc:(x+o+0)/18446744073709551616=c at u;have ah:s<18446744073709551616:=by omega
 have Z:c<=1:=by omega
 have Hs:=ae hs;have Hc:=ae hc;have Hx:=ae Q;clear hs hc Q
 go_enter func134,ntmps134
 go_wp2
 go_region
 have F:cS ((w.setCell ⟨b,1+p,none⟩ (.int .u64 s)).drew) b m (ns.set p s) r n g f A:=(h.set (by omega) ah).drew;have C:Fr (fun k=>k=b) w ((w.setCell ⟨b,1+p,none⟩ (.int .u64 s)).drew):=((Kb (fun k=>k=b) w).setCell ⟨b,1+p,none⟩ (.inl rfl) _).drew;generalize (w.setCell ⟨b,1+p,none⟩ (.int .u64 s)).drew=w1 at F C ⊢;clear c1 P u;obtain ⟨y,R⟩:∃y,ns[p+1]? =some y:=⟨ns[p+1]'(by omega),by simp⟩;have D:(ns.set p s)[p+1]? =some y:=by rw [co (by omega)];exact R
 have c1:=F.limb D;have P:=F.1.free (1+(p+1));have u:=kS y Hg c _ _ _ rfl rfl rfl Z;have an:=h.2.2.get R;generalize L:(y+Hg+c)% 18446744073709551616=s2 at u;generalize G:(y+Hg+c)/18446744073709551616=c2 at u;have M:s2<18446744073709551616:=by omega
 have H:c2<=1:=by omega
 have W:=ae L;have U:=ae G;have Hy:=ae R;have X:=ae D;have al:(p:Int)+1<35:=by omega
 clear L G R D;go_wp2
 go_region
 have h2:cS ((w1.setCell ⟨b,1+(p+1),none⟩ (.int .u64 s2)).drew) b m ((ns.set p s).set (p+1) s2) r n g f A:=(F.set (by omega) M).drew;have J:Fr (fun k=>k=b) w ((w1.setCell ⟨b,1+(p+1),none⟩ (.int .u64 s2)).drew):=(C.setCell ⟨b,1+(p+1),none⟩ (.inl rfl) _).drew;have q:oQ w b m r n g f A (Qj ns+(o+Hg*18446744073709551616)*18446744073709551616^p) (p+2) c2 ((w1.setCell ⟨b,1+(p+1),none⟩ (.int .u64 s2)).drew):=by
  refine ⟨_,h2,J,?_⟩;have e1:=pD (a:=o) (s:=s) (c:=c) Hx.out (by have:=Hs.out;have:=Hc.out;omega);have e2:=pD (a:=Hg+c) (s:=s2) (c:=c2) X.out (by have:=W.out;have:=U.out;omega);rw [show p+2=p+1+1 by omega,e2,jd,jd];have e3:Hg*18446744073709551616*18446744073709551616^p=Hg*18446744073709551616^(p+1):=by rw [d9,eR,bg 18446744073709551616]
  omega
 generalize (w1.setCell ⟨b,1+(p+1),none⟩ (.int .u64 s2)).drew=w2 at q ⊢;generalize hT:Qj ns+(o+Hg*18446744073709551616)*18446744073709551616^p=T at q ⊢;have HT:=ae hT;clear hT;clear h2 J F C c1 P u;go_wp2
 go_loopw [8,9] (fun c i wr=>∃j d:Nat,j<=35/\i= .int .i64 j/\c= .int .u64 d/\d<=1/\oQ w b m r n g f A T j d wr) (fun _ i _=>35-(intOf i).toNat)
 case atStart=>exact ⟨p+2,c2,by omega,by go_num,rfl,H,q⟩
 case round=>
  obtain ⟨j,d,hj,rfl,rfl,hd,K⟩:=hrel;by_cases t:j=35
  ·have l:=K.done (.inl t);have V:=ae l;subst t;clear l K;go_wp2;go_end0;exact ⟨rfl,by rw [HT.out];exact V.out⟩
  ·by_cases B:d=0
   ·have l:=K.done (.inr B);have V:=ae l;subst B;clear l K;have ad:(j:Int)<35:=by omega
    go_wp2;go_end0;exact ⟨rfl,by rw [HT.out];exact V.out⟩
   ·have ad:(j:Int)<35:=by omega
    have Xg:0<(d:Int):=by omega
    obtain ⟨ms,E,k2,k3⟩:=K;obtain ⟨z,S⟩:∃z,ms[j]? =some z:=⟨ms[j]'(by have:=E.2.1;omega),by simp⟩;have c1:=E.limb S;have P:=E.1.free (1+j);have u:=kS z 0 d _ 0 _ rfl rfl rfl hd;have ao:=E.2.2.get S;generalize ag:(z+0+d)% 18446744073709551616=s3 at u;generalize Y:(z+0+d)/18446744073709551616=c3 at u;have N:s3<18446744073709551616:=by omega
    have I:c3<=1:=by omega
    have v:oQ w b m r n g f A T (j+1) c3 ((wr.setCell ⟨b,1+j,none⟩ (.int .u64 s3)).drew):=by
     refine ⟨_,(E.set (by omega) N).drew,(k2.setCell ⟨b,1+j,none⟩ (.inl rfl) _).drew,?_⟩;rw [pD (a:=d) (s:=s3) (c:=c3) S (by omega)];exact k3
    have Hn:=ae v;clear v ag Y S k3 E k2 t B;go_wp2
    go_region
    go_wp2;go_roundw
    case rel=>exact ⟨j+1,c3,by omega,by go_num,rfl,I,Hn.out⟩
    case measure=>simp [intOf];omega
theorem nM(x y c:Nat)(b d c':Int)(e:b=x)(f:d=y)(a:c'=c)(g:c<=1)(w:World):(callFunc 177 #[.int .u64 b,.int .u64 d,.int .u64 c']).run prog w=
  .ok (.value (.tuple #[.int .u64 (((x+18446744073709551616-y-c)% 18446744073709551616:Nat):Int),.int .u64 (((if x<y+c then 1 else 0:Nat)):Int)])) w:=by
 subst e;subst f;subst a;rcases (show c=0\/c=1 by omega) with rfl|rfl<;>kernel_rfl
def mr(w0:World)(b:Nat)(made:Bool)(nan plus minus:Bool)(count Qa:Int)(T:Int)(i c:Nat)(w:World):Prop:=
 ∃ms,cS w b made ms nan plus minus count Qa/\Fr (fun k=>k=b) w0 w/\(Qj ms:Int)-(c:Int)*((18446744073709551616^i:Nat):Int)=T
theorem mr.done{w0:World}{b:Nat}{e g f d:Bool}{a m:Int}{T:Int}{i c:Nat}{w:World}(h:mr w0 b e g f d a m T i c w)(o:i=35\/c=0):
  ∃j,cS w b e j g f d a m/\(Qj j:Int)=T% ((18446744073709551616^35:Nat):Int)/\Fr (fun k=>k=b) w0 w:=by
 obtain ⟨q,l,n,r⟩:=h;have p:=nA l.2.2;rw [l.2.1] at p;refine ⟨q,l,?_,n⟩;rcases o with rfl|rfl
 ·omega
 omega
theorem vN(b:Nat)(n:Bool)(ns:List Nat)(r o g:Bool)(f A:Int)(p l Hg:Nat)(w:World)(h:cS w b n ns r o g f A)(hp:p<34)(hl:l<18446744073709551616)(hh:Hg<18446744073709551616):
  Calls prog 133 #[b,(p:Int),.int .u64 l,.int .u64 Hg] w fun e w'=>e= .returned (.tuple #[])/\∃P,cS w' b n P r o g f A/\
   (Qj P:Int)=((Qj ns:Int)-(((l+Hg*18446744073709551616)*18446744073709551616^p:Nat):Int))% ((18446744073709551616^35:Nat):Int)/\Fr (fun k=>k=b) w w':=by
 have ak:=h.2.1;obtain ⟨x,R⟩:∃x,ns[p]? =some x:=⟨ns[p]'(by omega),by simp⟩;have c1:=h.limb R;have al:(p:Int)<35:=by omega
 have Q:=h.1.free (1+p);have u:=nM x l 0 _ _ 0 rfl rfl rfl (by omega);have an:=h.2.2.get R;generalize hs:(x+18446744073709551616-l-0)% 18446744073709551616=s at u;generalize hc:(if x<l+0 then 1 else 0)=c at u;have aj:s<18446744073709551616:=by omega
 have ad:c<=1:=by rw [<-hc];split<;>omega
 have Hs:=ae hs;have Hc:=ae hc;have Hx:=ae R;clear hs hc R
 go_enter func133,ntmps133
 go_wp2
 go_region
 have H:cS ((w.setCell ⟨b,1+p,none⟩ (.int .u64 s)).drew) b n (ns.set p s) r o g f A:=(h.set (by omega) aj).drew;have E:Fr (fun k=>k=b) w ((w.setCell ⟨b,1+p,none⟩ (.int .u64 s)).drew):=((Kb (fun k=>k=b) w).setCell ⟨b,1+p,none⟩ (.inl rfl) _).drew;generalize (w.setCell ⟨b,1+p,none⟩ (.int .u64 s)).drew=w1 at H E ⊢;clear c1 Q u;obtain ⟨y,S⟩:∃y,ns[p+1]? =some y:=⟨ns[p+1]'(by omega),by simp⟩;have F:(ns.set p s)[p+1]? =some y:=by rw [co (by omega)];exact S
 have c1:=H.limb F;have Q:=H.1.free (1+(p+1));have u:=nM y Hg c _ _ _ rfl rfl rfl ad;have ao:=h.2.2.get S;generalize M:(y+18446744073709551616-Hg-c)% 18446744073709551616=s2 at u;generalize B:(if y<Hg+c then 1 else 0)=c2 at u;have N:s2<18446744073709551616:=by omega
 have I:c2<=1:=by rw [<-B];split<;>omega
 have X:=ae M;have V:=ae B;have Hy:=ae S;have Y:=ae F;have am:(p:Int)+1<35:=by omega
 clear M B S F;go_wp2
 go_region
 have h2:cS ((w1.setCell ⟨b,1+(p+1),none⟩ (.int .u64 s2)).drew) b n ((ns.set p s).set (p+1) s2) r o g f A:=(H.set (by omega) N).drew;have K:Fr (fun k=>k=b) w ((w1.setCell ⟨b,1+(p+1),none⟩ (.int .u64 s2)).drew):=(E.setCell ⟨b,1+(p+1),none⟩ (.inl rfl) _).drew;have q:mr w b n r o g f A ((Qj ns:Int)-(((l+Hg*18446744073709551616)*18446744073709551616^p:Nat):Int)) (p+2) c2 ((w1.setCell ⟨b,1+(p+1),none⟩ (.int .u64 s2)).drew):=by
  refine ⟨_,h2,K,?_⟩;have e1:=ke (a:=l) (s:=s) (c:=c) Hx.out (by have h3:=Hs.out;have Z:=Hc.out;split at Z<;>omega);have e2:=ke (a:=Hg+c) (s:=s2) (c:=c2) Y.out (by have h3:=X.out;have Z:=V.out;split at Z<;>omega);rw [show p+2=p+1+1 by omega,<-fI];rw [jd] at e2;have e3:(l+Hg*18446744073709551616)*18446744073709551616^p=l*18446744073709551616^p+Hg*18446744073709551616^(p+1):=by rw [d9,jd,eR,bg 18446744073709551616]
  rw [e3];generalize l*18446744073709551616^p=X1 at*;generalize Hg*18446744073709551616^(p+1)=X2 at*;generalize c*18446744073709551616^(p+1)=X3 at*;generalize c2*18446744073709551616^(p+1+1)=X4 at*;omega
 generalize (w1.setCell ⟨b,1+(p+1),none⟩ (.int .u64 s2)).drew=w2 at q ⊢;generalize hT:(Qj ns:Int)-(((l+Hg*18446744073709551616)*18446744073709551616^p:Nat):Int)=T at q ⊢;have HT:=ae hT;clear hT;clear h2 K H E c1 Q u;go_wp2
 go_loopw [8,9] (fun c i wr=>∃j d:Nat,j<=35/\i= .int .i64 j/\c= .int .u64 d/\d<=1/\mr w b n r o g f A T j d wr) (fun _ i _=>35-(intOf i).toNat)
 case atStart=>exact ⟨p+2,c2,by omega,by go_num,rfl,I,q⟩
 case round=>
  obtain ⟨j,d,hj,rfl,rfl,hd,L⟩:=hrel;by_cases t:j=35
  ·have m:=L.done (.inl t);have W:=ae m;subst t;clear m L;go_wp2;go_end0;exact ⟨rfl,by rw [HT.out];exact W.out⟩
  ·by_cases D:d=0
   ·have m:=L.done (.inr D);have W:=ae m;subst D;clear m L;have ag:(j:Int)<35:=by omega
    go_wp2;go_end0;exact ⟨rfl,by rw [HT.out];exact W.out⟩
   ·have ag:(j:Int)<35:=by omega
    have Xg:0<(d:Int):=by omega
    obtain ⟨ms,G,k2,k3⟩:=L;obtain ⟨z,U⟩:∃z,ms[j]? =some z:=⟨ms[j]'(by have:=G.2.1;omega),by simp⟩;have c1:=G.limb U;have Q:=G.1.free (1+j);have u:=nM z 0 d _ 0 _ rfl rfl rfl hd;have ap:=G.2.2.get U;generalize ah:(z+18446744073709551616-0-d)% 18446744073709551616=s3 at u;generalize C:(if z<0+d then 1 else 0)=c3 at u;have O:s3<18446744073709551616:=by omega
    have J:c3<=1:=by rw [<-C];split<;>omega
    have v:mr w b n r o g f A T (j+1) c3 ((wr.setCell ⟨b,1+j,none⟩ (.int .u64 s3)).drew):=by
     refine ⟨_,(G.set (by omega) O).drew,(k2.setCell ⟨b,1+j,none⟩ (.inl rfl) _).drew,?_⟩;have e1:=ke (a:=d) (s:=s3) (c:=c3) U (by split at C<;>omega);rw [<-k3,<-fI,<-fI];generalize d*18446744073709551616^j=X1 at*;generalize c3*18446744073709551616^(j+1)=X2 at*;omega
    have Hn:=ae v;clear v ah C U k3 G k2 t D;go_wp2
    go_region
    go_wp2;go_roundw
    case rel=>exact ⟨j+1,c3,by omega,by go_num,rfl,J,Hn.out⟩
    case measure=>simp [intOf];omega
def cI(b:Nat):Nat:=if gu b=0 then gl b else (4503599627370496+gl b)*2^(gu b-1)
def qg(b:Nat):Int:=if gz b then-(cI b:Int) else cI b
abbrev I8:Nat:=18446744073709551616^35
theorem im(k:Nat):0<2^k:=gJ k
theorem C4(m e:Nat)(b:m<18446744073709551616):∃a Hg:Nat,a<18446744073709551616/\Hg<18446744073709551616/\IntKind.u64.wrap ((m:Int)*2^(e% 64))=(a:Int)/\(m:Int)/2^(64-e% 64)=(Hg:Int)/\
  (a+Hg*18446744073709551616)*18446744073709551616^(e/64)=m*2^e:=by
 refine ⟨m*2^(e% 64)% 18446744073709551616,m/2^(64-e% 64),aI _ (by decide),bx (aX _ _) b,?_,?_,?_⟩
 ·grind [IntKind.wrap_u64]
 ·grind
 ·have c:m/2^(64-e% 64)=m*2^(e% 64)/18446744073709551616:=by
   have hp:(18446744073709551616:Nat)=2^(64-e% 64)*2^(e% 64):=by rw [<-cT,show 64-e% 64+e% 64=64 by omega]
   grind [Nat.mul_div_mul_right]
  grind [Nat.mod_add_div,Nat.pow_mul,Nat.pow_add]
theorem sU(m o q:Nat)(c e:Int)(b:c=(m:Int))(p:e% 64=(o:Int))(f:e/64=(q:Int))(d:0<=e)(l:e<4096)(a Hg:Nat)(j:IntKind.u64.wrap ((m:Int)*2^o)=(a:Int))(k:(m:Int)/2^(64-o)=(Hg:Int))(w:World):
  Calls prog 132 #[.int .u64 c,(e:Int)] w fun x w'=>x= .returned (.tuple #[(q:Int),.int .u64 a,.int .u64 Hg])/\∃n,w'=w.drewN n:=by
 subst b;have s:wrap64 (q:Int)=q:=IntWalk.wrap64_in q (by omega);have r:IntKind.i64.wrap (64-(o:Int))=64-(o:Int):=IntWalk.i64_in _ (by omega);have g:(64-(o:Int)).toNat=64-o:=by omega
 have h:0<=64-(o:Int):=by omega
 have i:64-(o:Int)<=64:=by omega
 go_enter func132,ntmps132
 go_wp2
 go_quiet (fail)
 go_wp2
 go_ret3
 rw [<-f];exact ⟨rfl,_,rfl⟩
theorem Ip(F:Nat)(a:F<4503599627370496):bits .or .u64 (F:Int) 4503599627370496=((4503599627370496+F:Nat):Int):=by
 have h:=u64_or_nat F 4503599627370496 (by omega) (by decide);have e:F|||4503599627370496=4503599627370496+F:=by
  rw [Nat.or_comm];exact (dI (i:=52) (b:=F) a 1).symm▸(by simp)
 grind
theorem tj(b:Nat)(_hb:b<18446744073709551616):∃m e:Nat,cI b=m*2^e/\m<18446744073709551616/\e<2047/\(gu b=0->m=gl b/\e=0)/\(gu b≠0->m=4503599627370496+gl b/\e=gu b-1):=by
 have d:gl b<4503599627370496:=aI _ (by decide);have c:gu b<2048:=aI _ (by decide);unfold cI;by_cases h:gu b=0
 ·exact ⟨gl b,0,by simp [h],by omega,by omega,fun _=>⟨rfl,rfl⟩,fun a=>absurd h a⟩
 ·exact ⟨4503599627370496+gl b,gu b-1,by simp [h],by omega,by omega,fun a=>absurd a h,fun _=>⟨rfl,rfl⟩⟩
def mV(w:World)(b:Nat)(made:Bool)(ns:List Nat)(nan plus minus:Bool)(count Qa:Int)(d:Int)(w':World):Prop:=
 ∃ns',cS w' b made ns' nan plus minus count Qa/\(Qj ns':Int)=((Qj ns:Int)+d)% (I8:Int)/\Fr (fun k=>k=b) w w'
theorem cS.drewN{w:World}{b:Nat}{d:Bool}{ns:List Nat}{f e c:Bool}{a g:Int}(h:cS w b d ns f e c a g)(n:Nat):cS (w.drewN n) b d ns f e c a g:=h
theorem sX(b:Nat)(f:Bool)(ns:List Nat)(l g c:Bool)(a m:Int)(q j Hg:Nat)(w0 w:World)(h:cS w b f ns l g c a m)(hf:Fr (fun k=>k=b) w0 w)(hp:q<34)(u:j<18446744073709551616)(s:Hg<18446744073709551616)
  (d:Nat) (x:(j+Hg*18446744073709551616)*18446744073709551616^q=d):
  Calls prog 134 #[b,(q:Int),.int .u64 j,.int .u64 Hg] w fun e w'=>e= .returned (.tuple #[])/\mV w0 b f ns l g c a m d w':=
 (xM b f ns l g c a m q j Hg w h hp u s).mono fun e w' ⟨r,n,o,v,p⟩=>⟨r,n,o,by grind,hf.trans p (fun i t=> .inl t)⟩
theorem ry(b:Nat)(f:Bool)(ns:List Nat)(l g c:Bool)(a m:Int)(q j Hg:Nat)(w0 w:World)(h:cS w b f ns l g c a m)(hf:Fr (fun k=>k=b) w0 w)(hp:q<34)(u:j<18446744073709551616)(s:Hg<18446744073709551616)
  (d:Nat) (x:(j+Hg*18446744073709551616)*18446744073709551616^q=d):
  Calls prog 133 #[b,(q:Int),.int .u64 j,.int .u64 Hg] w fun e w'=>e= .returned (.tuple #[])/\mV w0 b f ns l g c a m (-(d:Int)) w':=
 (vN b f ns l g c a m q j Hg w h hp u s).mono fun e w' ⟨r,n,o,v,p⟩=>⟨r,n,o,by grind,hf.trans p (fun i t=> .inl t)⟩
theorem vH(b:Nat)(i:Bool)(ns:List Nat)(m j c:Bool)(a s:Int)(f F q l Hg d:Nat)(N:Bool)(_hf:f<18446744073709551616)(w:World)(h:cS w b i ns m j c a s)
  (B:bits .and .u64 ((f:Int)/4503599627370496) 2047=0) (C:bits .and .u64 (f:Int) 4503599627370495=(F:Int)) (_hF:F<4503599627370496) (u:Hid (Calls prog 11 #[.float .f64 f] w fun e w'=>e= .returned (.int .u64 f)/\w=w'))
  (v:∀n,Hid (Calls prog 82 #[.float .f64 f] (w.drewN n) fun e w'=>e= .returned (.bool N)/\w.drewN n=w'))
  (r:Hid (∀w,Calls prog 132 #[.int .u64 F,(0:Int)] w fun x w'=>x= .returned (.tuple #[(q:Int),.int .u64 l,.int .u64 Hg])/\∃n,w'=w.drewN n))
  (A:q<34) (z:l<18446744073709551616) (y:Hg<18446744073709551616) (o:Hid ((l+Hg*18446744073709551616)*18446744073709551616^q=d)):
  Calls prog 83 #[b,.float .f64 f] w fun e w'=>e= .returned (.tuple #[])/\mV w b i ns m j c a s (if N then-(d:Int) else (d:Int)) w':=by
 cases N with
 |false=>
  rw [if_neg (by decide)]
  go_enter func83,ntmps83
  go_wp2_with fail
  refine u.out.mono ?_;rintro x w' ⟨rfl,rfl⟩;go_wp2_with fail
  refine (r.out _).mono ?_;rintro x w1 ⟨rfl,t,rfl⟩;go_wp2_with fail
  refine (v t).out.mono ?_;rintro x w2 ⟨rfl,p⟩;subst p;go_wp2_with fail
  refine (sX b i ns m j c a s q l Hg w _ (h.drewN _) ((Kb (fun k=>k=b) w).drewN _) A z y d o.out).mono ?_;rintro x w3 ⟨rfl,g⟩;go_wp2;go_end0;exact ⟨rfl,g⟩
 |true=>
  rw [if_pos rfl]
  go_enter func83,ntmps83
  go_wp2_with fail
  refine u.out.mono ?_;rintro x w' ⟨rfl,rfl⟩;go_wp2_with fail
  refine (r.out _).mono ?_;rintro x w1 ⟨rfl,t,rfl⟩;go_wp2_with fail
  refine (v t).out.mono ?_;rintro x w2 ⟨rfl,p⟩;subst p;go_wp2_with fail
  refine (ry b i ns m j c a s q l Hg w _ (h.drewN _) ((Kb (fun k=>k=b) w).drewN _) A z y d o.out).mono ?_;rintro x w3 ⟨rfl,g⟩;go_wp2;go_end0;exact ⟨rfl,g⟩
theorem vI(b:Nat)(i:Bool)(ns:List Nat)(o j c:Bool)(a t:Int)(f F E m q l Hg d:Nat)(N:Bool)(_hf:f<18446744073709551616)(w:World)(h:cS w b i ns o j c a t)
  (D:bits .and .u64 ((f:Int)/4503599627370496) 2047=(E:Int)) (I:E<2048) (C:0<E) (H:bits .or .u64 (F:Int) 4503599627370496=(m:Int)) (G:bits .and .u64 (f:Int) 4503599627370495=(F:Int)) (_hF:F<4503599627370496) (v:Hid (Calls prog 11 #[.float .f64 f] w fun e w'=>e= .returned (.int .u64 f)/\w=w'))
  (y:∀n,Hid (Calls prog 82 #[.float .f64 f] (w.drewN n) fun e w'=>e= .returned (.bool N)/\w.drewN n=w'))
  (s:Hid (∀w,Calls prog 132 #[.int .u64 m,(((E:Int)-1):Int)] w fun x w'=>x= .returned (.tuple #[(q:Int),.int .u64 l,.int .u64 Hg])/\∃n,w'=w.drewN n))
  (B:q<34) (A:l<18446744073709551616) (z:Hg<18446744073709551616) (p:Hid ((l+Hg*18446744073709551616)*18446744073709551616^q=d)):
  Calls prog 83 #[b,.float .f64 f] w fun e w'=>e= .returned (.tuple #[])/\mV w b i ns o j c a t (if N then-(d:Int) else (d:Int)) w':=by
 cases N with
 |false=>
  rw [if_neg (by decide)]
  go_enter func83,ntmps83
  go_wp2_with fail
  refine v.out.mono ?_;rintro x w' ⟨rfl,rfl⟩;go_wp2_with fail
  refine (s.out _).mono ?_;rintro x w1 ⟨rfl,u,rfl⟩;go_wp2_with fail
  refine (y u).out.mono ?_;rintro x w2 ⟨rfl,r⟩;subst r;go_wp2_with fail
  refine (sX b i ns o j c a t q l Hg w _ (h.drewN _) ((Kb (fun k=>k=b) w).drewN _) B A z d p.out).mono ?_;rintro x w3 ⟨rfl,g⟩;go_wp2;go_end0;exact ⟨rfl,g⟩
 |true=>
  rw [if_pos rfl]
  go_enter func83,ntmps83
  go_wp2_with fail
  refine v.out.mono ?_;rintro x w' ⟨rfl,rfl⟩;go_wp2_with fail
  refine (s.out _).mono ?_;rintro x w1 ⟨rfl,u,rfl⟩;go_wp2_with fail
  refine (y u).out.mono ?_;rintro x w2 ⟨rfl,r⟩;subst r;go_wp2_with fail
  refine (ry b i ns o j c a t q l Hg w _ (h.drewN _) ((Kb (fun k=>k=b) w).drewN _) B A z d p.out).mono ?_;rintro x w3 ⟨rfl,g⟩;go_wp2;go_end0;exact ⟨rfl,g⟩
theorem xS(b:Nat)(d:Bool)(ns:List Nat)(k g c:Bool)(a q:Int)(f:Nat)(hf:f<18446744073709551616)(w:World)(h:cS w b d ns k g c a q):
  Calls prog 83 #[b,.float .f64 f] w fun e w'=>e= .returned (.tuple #[])/\mV w b d ns k g c a q (qg f) w':=by
 obtain ⟨m,e,E,t,D,A,B⟩:=tj f hf;obtain ⟨j,Hg,y,x,p,o,i⟩:=C4 m e t;rw [<-E] at i;have s:gl f<4503599627370496:=aI _ (by decide);have C:gu f<2048:=aI _ (by decide);have r:=wB f hf;have v:=ww f hf;have z:=Ip (gl f) s;have u:qg f=if gz f then-(cI f:Int) else (cI f:Int):=rfl
 rw [u];by_cases l:gu f=0
 ·obtain ⟨rfl,rfl⟩:=A l;rw [l] at r;exact vH b d ns k g c a q f (gl f) 0 j Hg (cI f) (gz f) hf w h r v s (gB f w) (fun n=>qZ f hf (w.drewN n))
   (fun w=>sU (gl f) 0 0 (gl f:Int) 0 rfl (by decide) (by decide) (by omega) (by omega) j Hg p o w) (by omega) y x i
 ·obtain ⟨rfl,F⟩:=B l;exact vI b d ns k g c a q f (gl f) (gu f) (4503599627370496+gl f) (e/64) j Hg (cI f) (gz f) hf w h r C (by omega) z v s (gB f w) (fun n=>qZ f hf (w.drewN n))
   (fun w=>sU (4503599627370496+gl f) (e% 64) (e/64) ((4503599627370496+gl f:Nat):Int) ((gu f:Int)-1) rfl (by omega) (by omega) (by omega) (by omega) j Hg p o w) (by omega) y x i
section
variable{w:World}{b:Nat}{made:Bool}{ns:List Nat}{nan plus minus:Bool}{count Qa:Int}
theorem iT(a:ns.length=35)(i:Nat)(v:Value)(c:[Value.bool nan,.bool plus,.bool minus,(count:Int),(Qa:Int)][i]? =some v):(fG made ns nan plus minus count Qa)[36+i]? =some v:=by
 grind [fG]
theorem ik(a:ns.length=35)(i:Nat)(v:Value):
  (fG made ns nan plus minus count Qa).set (36+i) v= .bool made::(ns.map (fun n:Nat=>Value.int .u64 n)++[Value.bool nan,.bool plus,.bool minus,.int .i64 count,.int .i64 Qa].set i v):=by
 grind [fG]
theorem cS.c0(h:cS w b made ns nan plus minus count Qa):w.cell? b=some (.bool made):=h.1.cell 0 rfl
theorem cS.cNan(h:cS w b made ns nan plus minus count Qa):w.cell? ⟨b,36,none⟩=some (.bool nan):=h.1.cell 36 (iT h.2.1 0 _ rfl)
theorem cS.Zk(h:cS w b made ns nan plus minus count Qa):w.cell? ⟨b,37,none⟩=some (.bool plus):=h.1.cell 37 (iT h.2.1 1 _ rfl)
theorem cS.Yp(h:cS w b made ns nan plus minus count Qa):w.cell? ⟨b,38,none⟩=some (.bool minus):=h.1.cell 38 (iT h.2.1 2 _ rfl)
theorem cS.Yb(h:cS w b made ns nan plus minus count Qa):w.cell? ⟨b,39,none⟩=some (count:Int):=h.1.cell 39 (iT h.2.1 3 _ rfl)
theorem cS.Zl(h:cS w b made ns nan plus minus count Qa):w.cell? ⟨b,40,none⟩=some (Qa:Int):=h.1.cell 40 (iT h.2.1 4 _ rfl)
theorem cS.setNan(h:cS w b made ns nan plus minus count Qa)(v:Bool):cS (w.setCell ⟨b,36,none⟩ (.bool v)) b made ns v plus minus count Qa:=
 ⟨by have:=h.1.set 36 (.bool v);rwa [ik h.2.1 0] at this,h.2⟩
theorem cS.Zm(h:cS w b made ns nan plus minus count Qa)(v:Bool):cS (w.setCell ⟨b,37,none⟩ (.bool v)) b made ns nan v minus count Qa:=
 ⟨by have:=h.1.set 37 (.bool v);rwa [ik h.2.1 1] at this,h.2⟩
theorem cS.Yw(h:cS w b made ns nan plus minus count Qa)(v:Bool):cS (w.setCell ⟨b,38,none⟩ (.bool v)) b made ns nan plus v count Qa:=
 ⟨by have:=h.1.set 38 (.bool v);rwa [ik h.2.1 2] at this,h.2⟩
theorem cS.Xn(h:cS w b made ns nan plus minus count Qa)(v:Int):cS (w.setCell ⟨b,39,none⟩ (.int .i64 v)) b made ns nan plus minus v Qa:=
 ⟨by have:=h.1.set 39 (.int .i64 v);rwa [ik h.2.1 3] at this,h.2⟩
theorem cS.setZeroes(h:cS w b made ns nan plus minus count Qa)(v:Int):cS (w.setCell ⟨b,40,none⟩ (.int .i64 v)) b made ns nan plus minus count v:=
 ⟨by have:=h.1.set 40 (.int .i64 v);rwa [ik h.2.1 4] at this,h.2⟩
end
def fR(f:Nat):Int:=if de f<3 then qg f else 0
def jv(w:World)(b:Nat)(ns:List Nat)(nan plus minus:Bool)(count Qa:Int)(f:Nat)(w':World):Prop:=
 ∃ns',cS w' b true ns' (nan||de f==4) (plus||(de f==3&& !gz f)) (minus||(de f==3&&gz f)) (count+1) (Qa+if de f==0&&gz f then 1 else 0)/\
  (Qj ns':Int)=((Qj ns:Int)+fR f)% (I8:Int)/\Fr (fun k=>k=b) w w'
theorem oc{ns:List Nat}(h:fH ns)(a:ns.length=35):(Qj ns:Int)=((Qj ns:Int)+0)% (I8:Int):=by
 have:=nA h
 grind
theorem vY{f:Nat}(hf:f<18446744073709551616)(h:de f=3):(f=9218868437227405312/\gz f=false)\/(f=18442240474082181120/\gz f=true):=by
 grind [de,gu,gl,gz]
theorem GU(b:Nat)(ns:List Nat)(j d c:Bool)(a n:Int)(f:Nat)(o:Hid (de f=4))(hf:f<18446744073709551616)(w:World)(h:cS w b true ns j d c a n)(C:0<=a)(D:a<4611686018427387904):
  Calls prog 39 #[b,.float .f64 f] w fun e w'=>e= .returned (.tuple #[])/\jv w b ns j d c a n f w':=by
 have z:=h.c0;have A:=h.Yb;have B:=h.1.free 39;have q:=h.Xn (a+1);have l:Fr (fun k=>k=b) w (w.setCell ⟨b,39,none⟩ (.int .i64 (a+1))):=(Kb (fun k=>k=b) w).setCell ⟨b,39,none⟩ (.inl rfl) _;have i:=oC f hf (w.setCell ⟨b,39,none⟩ (.int .i64 (a+1)));generalize y:w.setCell ⟨b,39,none⟩ (.int .i64 (a+1))=w1 at*;rw [o.out] at i;have t:=ae i;have u:=q.cNan;have v:=q.1.free 36;have r:=q.setNan true;have m:Fr (fun k=>k=b) w (w1.setCell ⟨b,36,none⟩ (.bool true)):=l.setCell ⟨b,36,none⟩ (.inl rfl) _;have g:jv w b ns j d c a n f (w1.setCell ⟨b,36,none⟩ (.bool true)):=⟨ns,by simpa [o.out] using r,by
  have:fR f=0:=by unfold fR;rw [o.out];rfl
  rw [this];exact oc h.2.2 h.2.1,m⟩
 have s:=ae g;clear i g r m l
 go_enter func39,ntmps39
 go_wp2_with fail
 refine t.out.mono ?_;rintro x w2 ⟨rfl,p⟩;subst p;go_wp2;go_end0;exact ⟨rfl,s.out⟩
theorem add_zero(b:Nat)(ns:List Nat)(m g c:Bool)(a i:Int)(f:Nat)(N:Bool)(v:Hid (gz f=N))(r:Hid (de f=0))(hf:f<18446744073709551616)(w:World)(h:cS w b true ns m g c a i)(K:0<=a)(p:a<4611686018427387904)(L:0<=i)(M:i<=a):
  Calls prog 39 #[b,.float .f64 f] w fun e w'=>e= .returned (.tuple #[])/\jv w b ns m g c a i f w':=by
 have H:=h.c0;have I:=h.Yb;have J:=h.1.free 39;have t:=h.Xn (a+1);have j:Fr (fun k=>k=b) w (w.setCell ⟨b,39,none⟩ (.int .i64 (a+1))):=(Kb (fun k=>k=b) w).setCell ⟨b,39,none⟩ (.inl rfl) _;have l:=oC f hf (w.setCell ⟨b,39,none⟩ (.int .i64 (a+1)));generalize D:w.setCell ⟨b,39,none⟩ (.int .i64 (a+1))=w1 at*;rw [r.out] at l;have z:=ae l;have s:=qZ f hf w1;rw [v.out] at s;have A:=ae s;have q:fR f=0:=by
  have p:=r.out;unfold de at p;have:gl f=0/\gu f=0:=by
   split at p
   ·split at p<;>omega
   ·split at p
    ·split at p
     ·exact ⟨‹_›,‹_›⟩
     ·omega
    ·omega
  unfold fR qg cI;rw [r.out,this.1,this.2]
  cases gz f<;>rfl
 have B:=t.Zl;have C:=t.1.free 40;have y:=t.setZeroes (i+1);have n:Fr (fun k=>k=b) w (w1.setCell ⟨b,40,none⟩ (.int .i64 (i+1))):=j.setCell ⟨b,40,none⟩ (.inl rfl) _;have E:0<=i/\i<4611686018427387904:=by omega
 obtain ⟨F,G⟩:=E
 cases N with
 |true=>
  have d:jv w b ns m g c a i f (w1.setCell ⟨b,40,none⟩ (.int .i64 (i+1))):=⟨ns,by simpa [r.out,v.out] using y,by rw [q];exact oc h.2.2 h.2.1,n⟩;have u:=ae d;clear l s d y n j
  go_enter func39,ntmps39
  go_wp2_with fail
  refine z.out.mono ?_;rintro x w2 ⟨rfl,o⟩;subst o;go_wp2_with (go_at_call 82;refine A.out.mono ?_;rintro x w2 ⟨rfl,rfl⟩)
  go_end0;exact ⟨rfl,u.out⟩
 |false=>
  have d:jv w b ns m g c a i f w1:=⟨ns,by simpa [r.out,v.out] using t,by rw [q];exact oc h.2.2 h.2.1,j⟩;have u:=ae d;clear l s d y n j
  go_enter func39,ntmps39
  go_wp2_with fail
  refine z.out.mono ?_;rintro x w2 ⟨rfl,o⟩;subst o;go_wp2_with (go_at_call 82;refine A.out.mono ?_;rintro x w2 ⟨rfl,rfl⟩)
  go_end0;exact ⟨rfl,u.out⟩
theorem si(b:Nat)(ns:List Nat)(g d c:Bool)(a m:Int)(f:Nat)(K:Nat)(r:K=1\/K=2)(o:Hid (de f=K))(hf:f<18446744073709551616)(w:World)(h:cS w b true ns g d c a m)(H:0<=a)(I:a<4611686018427387904):
  Calls prog 39 #[b,.float .f64 f] w fun e w'=>e= .returned (.tuple #[])/\jv w b ns g d c a m f w':=by
 have E:=h.c0;have F:=h.Yb;have G:=h.1.free 39;have D:=h.Xn (a+1);have n:Fr (fun k=>k=b) w (w.setCell ⟨b,39,none⟩ (.int .i64 (a+1))):=(Kb (fun k=>k=b) w).setCell ⟨b,39,none⟩ (.inl rfl) _;have l:=oC f hf (w.setCell ⟨b,39,none⟩ (.int .i64 (a+1)));generalize C:w.setCell ⟨b,39,none⟩ (.int .i64 (a+1))=w1 at*;rw [o.out] at l;have t:=ae l;have j:=xS b true ns g d c (a+1) m f hf w1 D;have u:=ae j;have s:Hid (∀w',mV w1 b true ns g d c (a+1) m (qg f) w'->jv w b ns g d c a m f w'):=by
  rintro w' ⟨q,v,y,z⟩;have A:fR f=qg f:=by unfold fR;rw [o.out,if_pos (by omega)]
  refine ⟨q,?_,by rw [A];exact y,n.trans z (fun i B=> .inl B)⟩;rcases r with rfl|rfl<;>simpa [o.out] using v
 clear l j n;rcases r with rfl|rfl
 all_goals
  go_enter func39,ntmps39
  go_wp2_with fail
  refine t.out.mono ?_;rintro x w2 ⟨rfl,p⟩;subst p;go_wp2_with fail
  refine u.out.mono ?_;rintro x w3 ⟨rfl,hp⟩;go_wp2;go_end0;exact ⟨rfl,s.out _ hp⟩
theorem FQ:(FloatKind.f64.format.order 9218868437227405312 0==some Ordering.gt)=true:=by kernel_rfl
theorem FP:(FloatKind.f64.format.order 9218868437227405312 0==some Ordering.lt)=false:=by kernel_rfl
theorem FU:(FloatKind.f64.format.order 18442240474082181120 0==some Ordering.gt)=false:=by kernel_rfl
theorem FT:(FloatKind.f64.format.order 18442240474082181120 0==some Ordering.lt)=true:=by kernel_rfl
theorem GV(b:Nat)(ns:List Nat)(o d c:Bool)(a s:Int)(f:Nat)(n:Hid (de f=3))(hf:f<18446744073709551616)(w:World)(h:cS w b true ns o d c a s)(F:0<=a)(G:a<4611686018427387904):
  Calls prog 39 #[b,.float .f64 f] w fun e w'=>e= .returned (.tuple #[])/\jv w b ns o d c a s f w':=by
 have C:=h.c0;have D:=h.Yb;have E:=h.1.free 39;have j:=h.Xn (a+1);have m:Fr (fun k=>k=b) w (w.setCell ⟨b,39,none⟩ (.int .i64 (a+1))):=(Kb (fun k=>k=b) w).setCell ⟨b,39,none⟩ (.inl rfl) _;have g:=oC f hf (w.setCell ⟨b,39,none⟩ (.int .i64 (a+1)));generalize z:w.setCell ⟨b,39,none⟩ (.int .i64 (a+1))=w1 at*;rw [n.out] at g;have r:=ae g;have t:=j.Zk;have v:=j.1.free 37;have u:=j.Yp;have y:=j.1.free 38;have l:fR f=0:=by unfold fR;rw [n.out];rfl
 rcases vY hf n.out with ⟨rfl,p⟩|⟨rfl,p⟩
 ·have A:=FQ;have B:=FP;have q:=(j.Zm true).Yw c;clear g
  go_enter func39,ntmps39
  go_wp2_with fail
  refine r.out.mono ?_;rintro x w2 ⟨rfl,i⟩;subst i
  cases d<;>cases c
  all_goals
   go_wp2;go_end0;exact ⟨rfl,ns,by simpa [n.out,p] using q,by rw [l];exact oc h.2.2 h.2.1,(m.setCell ⟨b,37,none⟩ (.inl rfl) _).setCell ⟨b,38,none⟩ (.inl rfl) _⟩
 ·have A:=FU;have B:=FT;have q:=(j.Zm d).Yw true;clear g
  go_enter func39,ntmps39
  go_wp2_with fail
  refine r.out.mono ?_;rintro x w2 ⟨rfl,i⟩;subst i
  cases d<;>cases c
  all_goals
   go_wp2;go_end0;exact ⟨rfl,ns,by simpa [n.out,p] using q,by rw [l];exact oc h.2.2 h.2.1,(m.setCell ⟨b,37,none⟩ (.inl rfl) _).setCell ⟨b,38,none⟩ (.inl rfl) _⟩
theorem zR(f:Nat):de f<=4:=by grind [de]
theorem GY(b:Nat)(ns:List Nat)(g d c:Bool)(a j:Int)(f:Nat)(hf:f<18446744073709551616)(w:World)(h:cS w b true ns g d c a j)(k:0<=a)(l:a<4611686018427387904)(m:0<=j)(n:j<=a):
  Calls prog 39 #[b,.float .f64 f] w fun e w'=>e= .returned (.tuple #[])/\jv w b ns g d c a j f w':=by
 have i:=zR f;have:de f=0\/de f=1\/de f=2\/de f=3\/de f=4:=by omega
 rcases this with i|i|i|i|i
 ·exact add_zero b ns g d c a j f _ rfl i hf w h k l m n
 ·exact si b ns g d c a j f 1 (.inl rfl) i hf w h k l
 ·exact si b ns g d c a j f 2 (.inr rfl) i hf w h k l
 ·exact GV b ns g d c a j f i hf w h k l
 ·exact GU b ns g d c a j f i hf w h k l
theorem F7(w:World):
  Calls prog 37 #[] w fun e w'=>e= .returned w.heap.size/\cS w' w.heap.size true (List.replicate 35 0) false false false 0 0/\J7 w w'/\w.heap.size<w'.heap.size:=by
 go_enter func37,ntmps37
 go_wp2;go_ret;exact ⟨rfl,⟨ay.new w (fG true (List.replicate 35 0) false false false 0 0) 132,by decide,by intro x a;rw [eS a];decide⟩,(Kb _ w).alloc _,by simp⟩
theorem u9:∀n,Qj (List.replicate n 0)=0
 |0=>rfl
 |n+1=>by rw [gw,Qj,u9 n]
structure fE where
 total:Int
 nan:Bool
 plus:Bool
 minus:Bool
 count:Nat
 Qa:Nat
def fE.none:fE:=⟨0,false,false,false,0,0⟩
def fE.add(g:fE)(f:Nat):fE:=
 ⟨g.total+fR f,g.nan||de f==4,g.plus||(de f==3&& !gz f),g.minus||(de f==3&&gz f),g.count+1,g.Qa+if de f==0&&gz f then 1 else 0⟩
def fE.of(l:List Nat):fE:=l.foldl fE.add fE.none
def sn(w:World)(b:Nat)(g:fE):Prop:=
 ∃ns,cS w b true ns g.nan g.plus g.minus (g.count:Int) (g.Qa:Int)/\(Qj ns:Int)=g.total% (I8:Int)
theorem sn.frame{S:Nat->Prop}{w w':World}{b:Nat}{g:fE}(h:sn w b g)(hf:Fr S w w')(e:¬S b):sn w' b g:=by
 obtain ⟨ns,⟨a,c⟩,d⟩:=h;exact ⟨ns,⟨a.frame hf e,c⟩,d⟩
theorem sn.lt{w:World}{b:Nat}{g:fE}(h:sn w b g):b<w.heap.size:=by obtain ⟨ns,⟨a,_⟩,_⟩:=h;exact a.lt
theorem sO(l:List Nat):(fE.of l).Qa<=(fE.of l).count/\(fE.of l).count=l.length:=by
 unfold fE.of;have:∀(l:List Nat) (g:fE),g.Qa<=g.count->(l.foldl fE.add g).Qa<=(l.foldl fE.add g).count/\(l.foldl fE.add g).count=g.count+l.length:=by
  intro l
  induction l with
  |nil=>grind
  |cons f l ih=>
   grind [fE.add]
 have h:=this l fE.none (ag _)
 grind [fE.none]
theorem F9(w:World):
  Calls prog 37 #[] w fun e w'=>e= .returned w.heap.size/\sn w' w.heap.size fE.none/\J7 w w'/\w.heap.size<w'.heap.size:=
 (F7 w).mono fun e w' ⟨d,a,b,c⟩=>⟨d,⟨_,a,by rw [u9];rfl⟩,b,c⟩
theorem GW(b:Nat)(g:fE)(f:Nat)(hf:f<18446744073709551616)(w:World)(h:sn w b g)(m:g.count<4611686018427387904)(n:g.Qa<=g.count):
  Calls prog 39 #[b,.float .f64 f] w fun e w'=>e= .returned (.tuple #[])/\sn w' b (g.add f)/\Fr (fun k=>k=b) w w':=by
 obtain ⟨ns,i,o⟩:=h;refine (GY b ns g.nan g.plus g.minus g.count g.Qa f hf w i (by omega) (by omega) (by omega) (by omega)).mono ?_;rintro e w' ⟨d,a,j,l,c⟩;refine ⟨d,⟨a,?_,?_⟩,c⟩
 ·grind [fE.add]
 grind [fE.add]
end Go.Proofs.YtgnoapadkncphaaGreatDoor
