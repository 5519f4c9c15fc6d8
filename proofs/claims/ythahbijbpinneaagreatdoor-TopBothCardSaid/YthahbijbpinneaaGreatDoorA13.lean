import Derived.Test.YthahbijbpinneaaGreatDoorA0
import Derived.Test.YthahbijbpinneaaGreatDoorA4
import Derived.Test.YthahbijbpinneaaGreatDoorA5
import Derived.Test.YthahbijbpinneaaGreatDoorA8
import Derived.Test.YthahbijbpinneaaGreatDoorA12
set_option maxRecDepth 100000
set_option maxHeartbeats 8000000
set_option linter.all false
namespace Go.Proofs.YthahbijbpinneaaGreatDoor
open Go.RowKit Go.Proofs.Tryz
def F5(b:Nat)(c:Cf)(A:AG)(rs:List Nat)(A':AG)(rs':List Nat)(u n:Nat)(T:Nat->Prop)(s a:Nat)(w:World):Prop:=
 ∃h φ φ' L Ba ub cy ns bs S,h.b=b/\kP (fun _=>True) h c A rs φ L Ba u ub cy n ns bs S w/\(∀k,T k↔kT h ub S k)/\(n=0->cy=none)/\cP A' rs' φ' L Ba (Ba+u)/\rs'.map φ'=(rs.map φ).set s a/\rs'.length=rs.length
section
variable{b u sz n a s p f g k:Nat}{c:Cf}{A A':AG}{rs rs':List Nat}{T:Nat->Prop}{w w':World}
theorem Fm.Qa(o:Fm b c A rs u sz n T w a)(hf:GM w w'):Fm b c A rs u sz n T w' a:=by
 obtain ⟨h,φ,L,Ba,G,e,q,l,S,r,t,v,x,z,B,C⟩:=o;refine ⟨h,φ,L,Ba,G,e,q,l,S,r,t.Qa hf,v,x,z,B,?_⟩
 cases e with
 |none=>trivial
 |some y=>
  obtain ⟨m,s,d,hg,i,fr,j,Us,D,E,F⟩:=C;exact ⟨m,s,d,hg,i,fr,j,Us,D,E.stays hf (fun _ _ h=>h) id,F⟩
theorem ta{L:Nat->Nat}{a W n k:Nat}(h:k<a\/a+1+n<=k):nD L a W n k=L k:=by
 unfold nD;rw [aE (by omega),aE (by omega)]
theorem EW{L L':Nat->Nat}{a W n k:Nat}(d:a<=k)(e:k<a+1+n):nD L a W n k=nD L' a W n k:=by
 unfold nD;by_cases h:k=a
 ·rw [aG h,aG h]
 ·rw [aE h,aE h,aG (by omega),aG (by omega)]
def Ex(b:Nat)(c:Cf)(A:AG)(rs:List Nat)(A':AG)(rs':List Nat)(u n:Nat)(T:Nat->Prop)(s a:Nat)(w:World)(e:Ending)(w':World):Prop:=e= .returned (0:Int)/\∃T',F5 b c A rs A' rs' u n T' s a w'/\Fr T w w'/\∀k,T' k->T k\/w.heap.size<=k
theorem DA{φ:Nat->Nat}(l:φ 0=0)(d:k≠0)(h:¬Reach A.gr rs k):(rs.set s k).map (fun y=>if y=k then a else φ y)=(rs.map φ).set s a:=by
 have i:rs.map (fun y=>if y=k then a else φ y)=rs.map φ:=eI (fun z j=>aE (fun (e:z=k)=>h (.root (e▸j) d)));rw [dM,i,aG rfl]
theorem E3(ha:Fm b c A rs u sz n T w a)(ap:sz=1+(p+f+g))(ho:eO p f g)(N:k≠0)(O:¬Reach A.gr rs k):∃m,w.cell? ⟨b,8,none⟩=some (.pointer (some ⟨m,0,none⟩))/\Calls prog 55 #[.iface 112 (.pointer (some ⟨m,0,none⟩)),(a:Int),gD p f g] w (Ex b c A rs (A.new k p f g) (rs.set s k) (u+sz) n T s a w):=by
 obtain ⟨h,φ,L,Ba,ub,cy,ns,bs,S,rfl,l,hT,af,Z,rfl,ai⟩:=ha;refine ⟨h.m,aJ.cell l.Qd 8 rfl,?_⟩;have an:=l.half.le;have aq:=l.half.top;have ao:=l.Qs.Qq;have Q:=l.half.mod l.Qs;have al:=l.fits;obtain ⟨am,_⟩:=l.Qs.W5;have t:=Z.new (n:=k) (p:=p) (f:=f) (g:=g) (s:=s) (a:=Ba+u) (hi':=Ba+(u+sz)) N O (by omega) (ak _) (by omega) ho;have r:=DA (s:=s) (a:=Ba+u) (rs:=rs) Z.zero N O;have H:∀k,S k->T k:=fun k d=>(hT k).2 (.inl d)
 cases cy with
 |none=>
  obtain ⟨aj,Us,Hg,mp,hm,R⟩:=id l.mem;refine (uo (da _ _ _ _ _ _ _) (cw _ _ _ _ _ _ _) (qG _ _ _ _ _ _ _) hm (Ba+u) p f g (by omega) (by omega) ho (fun k j i=>qF R Q (show Ba+(u+sz)<=c.W by omega) k (by omega) (by omega))).mono ?_;rintro e w' ⟨rfl,S',g1,C,D⟩;have o:cP A rs φ (nD L (Ba+u) (kK p f g) (p+f+g)) Ba (Ba+(u+sz)):=(Z.congr (fun k j i=>ta (.inl i))).wide (by omega);exact ⟨rfl,kT h ub S',⟨h,φ,_,nD L (Ba+u) (kK p f g) (p+f+g),Ba,ub,none,ns,bs,S',rfl,l.Yu C D ⟨aj,Us,Hg,mp,g1,R⟩ o,fun k=>dX,fun _=>rfl,t,r,bc⟩,C.mono (fun k d=> .inl (H k d)),fun k d=>(kT.sub D k d).imp (hT k).2 id⟩
 |some y=>
  obtain ⟨Y,st,J,hg,Mv,fr,ah,Us,q1,⟨Hg,Sm,mp,M,fw,kk,p1,p2,p3,p4,p5⟩,r1,r2,r3,V,r5,r6,r7,r8,P⟩:=ai;have d:=l.mem.1;have hm:=p1.mem;rw [r2,V,r6] at hm;have U:=q1.Ys;have I:∀k,Ba+u<=k->k<Ba+(u+sz)->dD c.W c.Pg mp k:=fun k j i=>by
   have:=(p2.Xf q1.ok U (x:=k) (by omega) i).2;rw [V] at this;exact ⟨by omega,this⟩
  refine (uo (da _ _ _ _ _ _ _) (cw _ _ _ _ _ _ _) (qG _ _ _ _ _ _ _) (L:=M) (show dY h.m c.Pg c.W c.Fs Us Hg mp M Sm w from ⟨M,hm,fun _ _=>rfl⟩) (Ba+u) p f g (by omega) (by omega) ho (fun k j i=>I k (by omega) (by omega))).mono ?_;rintro e w' ⟨rfl,v,⟨X,g1,gM⟩,C,D⟩;have K:Fr S w w':=C.mono (fun k d=> .inl ((p5 k).2 (.inl d)));have hs:∀k,(v k\/Y.has k)->S k\/w.heap.size<=k:=fun k d=>by
   rcases d with d|d
   ·exact (D k d).imp (fun h=>(p5 k).2 (.inl h)) id
   ·exact .inl ((p5 k).2 (.inr d))
  obtain ⟨q,E⟩:∃q:Nat->Nat,q=fun k=>if Ba+u<=k then X k else L k:=⟨_,rfl⟩
  have z:∀k,k<Ba+u->q k=L k:=fun k d=>by rw [E];exact aE (by omega)
  have F:∀k,Ba+u<=k->q k=X k:=fun k d=>by rw [E];exact aG d
  have G:∀k,k<c.W->mp (k/c.Pg)=true->X k=nD M (Ba+u) (kK p f g) (p+f+g) k:=fun k j i=>gM k ⟨j,i⟩
  have ad:rJ Y st J hg c.Fs (Ba+(u+sz)) Mv n fr ah Us q (fun k=>v k\/Y.has k) w':=by
   refine ⟨Hg,v,mp,X,fw,kk,p1.mem_ (by rw [r2,V,r6];exact g1) C D,?_,p3,p4,fun k=>dX⟩;refine p2.put q1.ok (lo:=Ba+u) P (by omega) (ak _) U p2.Qx z (fun k j i h3=> ?_) (fun k j i=>(F k j).symm) p2.Rm;rw [r6] at j;rw [V] at i;rw [G k j i];exact ta (by omega)
  have o:cP A rs φ q Ba (Ba+(u+sz)):=(Z.congr (fun k j i=>z k i)).wide (by omega);have B:=t.congr (L':=q) (fun k j i=>by
   by_cases h3:k<Ba+u
   ·rw [z k h3,ta (.inl h3)]
   ·obtain ⟨d1,d2⟩:=I k (by omega) i;rw [F k (by omega),G k d1 d2];exact EW (by omega) (by omega))
  exact ⟨rfl,kT h ub _,⟨h,φ,_,q,Ba,ub,some y,ns,bs,_,rfl,l.Yu K hs ⟨d,Y,st,J,hg,Mv,fr,ah,q1,⟨Us,trivial,ad⟩,r1,r2,r3,V,r5,r6,r7,r8⟩ o,fun k=>dX,af,B,r,bc⟩,K.mono (fun k d=> .inl (H k d)),fun k d=>(kT.sub hs k d).imp (hT k).2 id⟩
theorem E2(C:F5 b c A rs A' rs' u n T s a w)(E:s<c.Sl):∃v,w.cell? ⟨b,9,none⟩=some (.pointer (some ⟨v,0,none⟩))/\Calls prog 56 #[.pointer (some ⟨v,0,none⟩),(s:Int),(a:Int)] w fun e w'=>e= .returned (0:Int)/\eX b c A' rs' u n T w'/\Fr T w w':=by
 obtain ⟨h,φ,H,L,Ba,G,y,F,x,S,rfl,i,r,m,D,l,j⟩:=C;refine ⟨h.rb,aJ.cell i.Qd 9 rfl,(qj i.roots s a (by rw [bL,i.Sl];exact E)).mono ?_⟩;rintro e w' ⟨rfl,t,hf⟩;rw [<-l] at t;have d:=i.d;obtain ⟨I,z,J,K,B,M,q,N,O⟩:=id i.e;exact ⟨rfl,⟨h,H,L,Ba,G,y,F,x,S,rfl,⟨i.Qs,aJ.frame i.Qd hf z,t,aJ.frame i.Yb hf (Ne.symm B),aS i.Qp hf (Ne.symm q),D,by rw [j];exact i.Sl,i.fits,i.half,i.mem.stays hf (fun k o=>(d k o).2.2.1) (Ne.symm q),d,i.e⟩,r,m⟩,hf.mono (fun k o=> .inl ((r k).2 (.inr (.inr (.inr (.inl o))))))⟩
end
def Ei(b:Nat)(c:Cf)(A:AG)(rs l0:List Nat)(s k p f g:Nat)(T:Nat->Prop)(w:World)(e:Ending)(w':World):Prop:=
 (A.Wd l0+(1+(p+f+g))<=c.Wd/\e= .returned (0:Int)/\∃u n T',eX b c (A.new k p f g) (rs.set s k) u n T' w'/\Fr T w w'/\∀k,T' k->T k\/w.heap.size<=k)\/
 (c.Wd<A.Wd l0+(1+(p+f+g))/\e= .returned (21:Int)/\∃u n T',eX b c A rs u n T' w'/\Fr T w w'/\∀k,T' k->T k\/w.heap.size<=k)
section
variable{b u n s k p f g:Nat}{c:Cf}{A A':AG}{rs rs' l0:List Nat}{T:Nat->Prop}{w w':World}
theorem Ch(j:eX b c A rs u n T w):w.cell? b=some (.int .i64 (c.kind:Int))/\∃a:Option Nat,w.cell? ⟨b,11,none⟩=some (lE a)/\(a=none->n=0)/\(n=0->a=none):=by
 obtain ⟨h,φ,L,Ba,q,a,o,l,S,rfl,i,m,d⟩:=j;refine ⟨aJ.cell i.Qd 0 rfl,a,aJ.cell i.Qd 11 rfl,fun e=> ?_,d⟩;subst e;exact i.mem.1
theorem oP(hi:eX b c A rs u n T w)(hl:dE A rs l0)(hs:s<c.Sl)(W:eO p f g)(aY:k≠0)(a0:¬Reach A.gr rs k):Calls prog 11 #[b,(s:Int),gD p f g] w (Ei b c A rs l0 s k p f g T w):=by
 obtain ⟨W1,ar⟩:∃W1,w.alloc (.cells #[(p:Int),(f:Int),(g:Int)] 31)=W1:=⟨_,rfl⟩;have r:GM w W1:=by rw [<-ar];exact (GQ _ w).alloc _
 have au:aJ W1 w.heap.size [(p:Int),(f:Int),(g:Int)] 31:=by rw [<-ar];exact aJ.new w _ _
 have aw:=hi.Qa r;have aM:=hi.lt;have aP:=hi.cf;obtain ⟨rb,v,HN,k9,HG⟩:∃rb v,Hid (Calls prog 50 #[b] W1 fun e w'=>e= .returned (.bool false)/\W1=w')/\W1.cell? ⟨b,9,none⟩=some (.pointer (some ⟨rb,0,none⟩))/\Hid (Calls prog 51 #[.pointer (some ⟨rb,0,none⟩),(s:Int)] W1 fun e w'=>e= .returned (.tuple #[(v:Int),(0:Int)])/\GM W1 w'):=by
  obtain ⟨h,φ,L,Ba,I,x,G,F,S,rfl,Y,hT,bd⟩:=aw;have a1:s<(rs.map φ).length:=by rw [bL,Y.Sl];exact hs
  exact ⟨h.rb,(rs.map φ)[s],ae (gy Y.Qd),aJ.cell Y.Qd 9 rfl,ae (t9 Y.roots s _ (aK a1))⟩
 obtain ⟨sz,az⟩:∃sz,sz=1+(p+f+g):=⟨_,rfl⟩;have a5:gg p f g=(sz:Int):=by unfold gg;rw [aG W,az];push_cast;omega
 have E:1<=sz/\sz<=1024:=by unfold eO at W;omega
 have ad:Hid (∀w1,Calls prog 52 #[gD p f g] w1 (pK w1 0)):=ae (fun w1=>by have:=kw p f g w1;rwa [aG W] at this);have ap:Hid (∀w1,Calls prog 54 #[gD p f g] w1 (jO w1 (sz:Int))):=ae (fun w1=>by have:=iF p f g w1;rwa [a5] at this);have aL:Hid (∀w1,GM W1 w1->Calls prog 53 #[b,(sz:Int)] w1 (vq b c A rs l0 sz T w1)):=ae (fun w1 hf=>B3 (aw.Qa hf) hl E.1 E.2);have HB:=ae (fun w1 (hf:GM W1 w1)=>au.frame hf id);have bc:=ae r;have ah:Hid (∀w1 w2 u n D,GM W1 w1->c.Wd<A.Wd l0+sz->eX b c A rs u n D w2->Fr T w1 w2->(∀k,D k->T k\/w1.heap.size<=k)->Ei b c A rs l0 s k p f g T w (.returned (21:Int)) w2):=by
  show∀w1 w2 u n D,_
  intro w1 w2 u n D U h2 h3 h4 h5;have hz:=(r.trans U GN).size;exact .inr ⟨by omega,rfl,u,n,D,h3,((r.trans U GN).mono GN).trans h4 (fun _ h=> .inl h),fun k hk=>(h5 k hk).imp id (fun h=>by omega)⟩
 have M:Hid (∀w1 w2 a u n D,GM W1 w1->Fm b c A rs u sz n D w2 a->Fr T w1 w2->(∀k,D k->T k\/w1.heap.size<=k)->aJ w2 w.heap.size [(p:Int),(f:Int),(g:Int)] 31/\∃m,(∀w3,GM w2 w3->w3.cell? ⟨b,8,none⟩=some (.pointer (some ⟨m,0,none⟩))/\True)/\∀w3,GM w2 w3->Calls prog 55 #[.iface 112 (.pointer (some ⟨m,0,none⟩)),(a:Int),gD p f g] w3 fun e w'=>e= .returned (0:Int)/\w3.heap.size<=w'.heap.size/\∃d,F5 b c A rs (A.new k p f g) (rs.set s k) (u+sz) n d s a w'/\Fr T w w'/\∀k,d k->T k\/w.heap.size<=k):=by
  show∀w1 w2 a u n D,_
  intro w1 w2 a u n D U h2 h3 h4;have a8:aJ w2 w.heap.size [(p:Int),(f:Int),(g:Int)] 31:=(au.frame U id).frame h3 (fun h=>by have:=aM _ h;omega);have h8:∀w3,GM w2 w3->∃m,w3.cell? ⟨b,8,none⟩=some (.pointer (some ⟨m,0,none⟩))/\Calls prog 55 #[.iface 112 (.pointer (some ⟨m,0,none⟩)),(a:Int),gD p f g] w3 (Ex b c A rs (A.new k p f g) (rs.set s k) (u+sz) n D s a w3):=fun w3 hf=>E3 (h2.Qa hf) az W aY a0
  obtain ⟨m,g1,_⟩:=h8 w2 (GQ _ _);refine ⟨a8,m,fun w3 hf=> ?_,fun w3 hf=> ?_⟩
  ·have hm:∃h φ L Ba I x G F S,h.b=b/\kP (fun _=>True) h c A rs φ L Ba (u+sz) I x n G F S w2:=let ⟨h,φ,L,Ba,I,x,G,F,S,q1,P,_⟩:=h2;⟨h,φ,L,Ba,I,x,G,F,S,q1,P⟩
   obtain ⟨h,φ,L,Ba,I,x,G,F,S,rfl,P⟩:=hm;have e1:=aJ.cell P.Qd 8 rfl;rw [g1] at e1;rw [e1];exact ⟨aJ.cell (P.Qa hf).Qd 8 rfl,trivial⟩
  ·obtain ⟨m',g3,g4⟩:=h8 w3 hf;have em:m'=m:=by
    have hm:∃h φ L Ba I x G F S,h.b=b/\kP (fun _=>True) h c A rs φ L Ba (u+sz) I x n G F S w2:=let ⟨h,φ,L,Ba,I,x,G,F,S,q1,P,_⟩:=h2;⟨h,φ,L,Ba,I,x,G,F,S,q1,P⟩
    obtain ⟨h,φ,L,Ba,I,x,G,F,S,rfl,P⟩:=hm;have e1:=aJ.cell P.Qd 8 rfl;have e2:=aJ.cell (P.Qa hf).Qd 8 rfl;rw [g1] at e1;rw [g3] at e2;have e3:=e2.trans e1.symm;exact Addr.mk.inj (bf (Value.pointer.inj (bf e3)))|>.1
   rw [em] at g4;refine g4.mono ?_;rintro e w' ⟨rfl,d,r1,r2,r3⟩;have be:=(r.trans U GN).size;have bg:=h3.size;have bi:=hf.size;exact ⟨rfl,r2.size,d,r1,((((r.trans U GN).mono GN).trans h3 (fun _ h=> .inl h)).trans hf GN).trans r2 (fun k hk=>(h4 k hk).imp id (fun h=>by omega)),fun k hk=>(r3 k hk).elim (fun h=>(h4 k h).imp id (fun h=>by omega)) (fun h=> .inr (by omega))⟩
 have am:Hid (∀w1 u n a d,F5 b c A rs (A.new k p f g) (rs.set s k) u n d s a w1->∃rb,w1.cell? ⟨b,9,none⟩=some (.pointer (some ⟨rb,0,none⟩))/\Calls prog 56 #[.pointer (some ⟨rb,0,none⟩),(s:Int),(a:Int)] w1 fun e w'=>e= .returned (0:Int)/\eX b c (A.new k p f g) (rs.set s k) u n d w'/\Fr d w1 w'):=ae (fun w1 u n a d hh=>E2 hh hs);have aq:Hid (A.Wd l0+sz<=c.Wd->∀w1 u n d,eX b c (A.new k p f g) (rs.set s k) u n d w1->Fr T w w1->(∀k,d k->T k\/w.heap.size<=k)->Ei b c A rs l0 s k p f g T w (.returned (0:Int)) w1):=ae (fun hf w1 u n d U h2 h3=> .inl ⟨by omega,rfl,u,n,d,U,h2,h3⟩);have a6:Hid ((prog.info? 31).map (·.size)=some 3):=by show _=_;kernel_rfl
 have a9:=aP.1.Yj;clear hi aw hl hs W aY a0 au aM aP a5 az E r;generalize A.new k p f g=A2 at*;generalize rs.set s k=rs2 at*;generalize (Ei b c A rs l0 s k p f g T w)=Q at*;unfold gD at ad ap M ⊢
 go_enter func11,ntmps11
 go_wp2_with fail
 refine HN.out.mono ?_;rintro e w1 ⟨rfl,rfl⟩;clear HN ar;go_wp2_with fail
 refine HG.out.mono ?_;rintro e w1 ⟨rfl,av⟩;obtain ⟨c0,c1,c2⟩:=gc (HB.out w1 av);have aD:=ae av;clear HG k9 av;go_wp2_with fail
 refine (ad.out w1).mono ?_;rintro e w2 ⟨rfl,aR⟩;have af:=ae (aD.out.trans aR GN);obtain ⟨c0,c1,c2⟩:=gc (HB.out w2 af.out);clear aR aD ad;go_wp2_with fail
 refine (ap.out w2).mono ?_;rintro e w3 ⟨rfl,aX⟩;have z:=ae (af.out.trans aX GN);have C:=ae (aL.out w3 z.out);clear aX af ap aL HB;go_wp2_with fail
 refine C.out.mono ?_;rintro e w4 (⟨V,a,u2,n2,T2,rfl,ha,hf,ht⟩|⟨a3,rfl,u2,n2,T2,X,hf,ht⟩)
 ·obtain ⟨aN,m,h8,a2⟩:=M.out w3 w4 a u2 n2 T2 z.out ha hf ht;have t:=ae (aq.out V);have a7:=(h8 w4.drew ((GQ (fun _=>False) w4).drew)).1;obtain ⟨Z,hZ⟩:∃Z:World->Prop,Z=fun w'=>∃d,F5 b c A rs A2 rs2 (u2+sz) n2 d s a w'/\Fr T w w'/\∀k,d k->T k\/w.heap.size<=k:=⟨_,rfl⟩
  have aE:Hid (Calls prog 55 #[.iface 112 (.pointer (some ⟨m,0,none⟩)),(a:Int),.agg #[(p:Int),(f:Int),(g:Int)]] w4.drew fun e w'=>e= .returned (0:Int)/\w4.drew.heap.size<=w'.heap.size/\Z w'):=by
   rw [hZ];exact ae (a2 w4.drew ((GQ (fun _=>False) w4).drew))
  have aB:=ae aN.drew;have HZ:=ae hZ;clear M aq ah V ha hf ht aN h8 a2 hZ z C;go_wp2;refine bR (fun w'=>w'=w4.drew) 7 rfl ?_;simp only [ai,an,aj,ao];refine aV [b,b,.pointer (some ⟨b,8,none⟩)] ?_
  iterate 3 (refine aW rfl (fun w9 h9=>by go_simp) ?_;simp only [aa])
  refine aU ?_;refine aA m rfl (fun w' Y=>by subst Y;go_simp) ?_;simp only [aa];refine aV [.iface 112 (.pointer (some ⟨m,0,none⟩)),(a:Int)] ?_
  iterate 2 (refine aW rfl (fun w9 h9=>by go_simp) ?_;simp only [aa])
  refine aU ?_;refine aA (.agg #[(p:Int),(f:Int),(g:Int)]) rfl (fun w' Y=>by subst Y;exact jf rfl w.heap.size rfl 31 _ (0,0) _ aB.out underlying31 rfl a6.out) ?_;simp only [aa];refine wpQuiet_nil ?_;rintro w1 rfl;go_wp2_with fail
  refine aE.out.mono ?_;rintro e w1 ⟨rfl,_,Xm⟩;rw [HZ.out] at Xm;obtain ⟨T3,g1,g2,g3⟩:=Xm;obtain ⟨bl,k9,a4⟩:=am.out w1 _ _ a T3 g1;have R:=ae a4;have J:=ae (ag g2 g3);clear am a4 HZ aE aB g1 g2 g3 a7;go_wp2_with fail
  refine R.out.mono ?_;rintro e w6 ⟨rfl,j,aQ⟩;clear R k9;have o:Fr T w w6:=J.out.1.trans aQ J.out.2;have q:=J.out.2;obtain ⟨k0,x,O,N,ay⟩:=Ch j;have al:=ae (t.out w6 _ _ T3 j o q);clear J aQ;by_cases ax:c.kind=1
  ·cases x with
   |some y=>
    rw [ax] at k0;rw [show lE (some y)= .pointer (some ⟨y,0,none⟩) from rfl] at O;clear N ay j o q t;go_wp2;exact al.out
   |none=>
    obtain rfl:=N rfl;rw [ax] at k0;rw [show lE none= .pointer none from rfl] at O;have aC:=ae (Cb j);have aF:Hid (∀w7,GM w6 w7->Q (.returned (0:Int)) w7/\Calls prog 58 #[b] w7 fun e w8=>e= .returned (.tuple #[])/\Q (.returned (0:Int)) w8):=by
     show∀w7,_
     intro w7 i;refine ⟨t.out w7 _ _ T3 (j.Qa i) (o.trans i GN) q,(qQ (j.Qa i) ax).mono ?_⟩;rintro e w8 ⟨rfl,l,n8,T8,_,r1,r2,r3⟩;have bj:=o.size;have bk:=i.size;exact ⟨rfl,t.out w8 _ _ T8 r1 ((o.trans i GN).trans r2 q) (fun k hk=>(r3 k hk).elim (q k) (fun h=> .inr (by omega)))⟩
    clear N ay j o q t al;go_wp2_with fail
    refine aC.out.mono ?_;rintro e w7 ⟨B,rfl,i⟩;obtain ⟨X,W⟩:=aF.out w7 i;have aH:=ae X;have ak:=ae W;clear aC aF X W i k0 O
    cases B with
    |false=>
     clear ak;go_wp2;exact aH.out
    |true=>
     clear aH;go_wp2_with fail
     refine ak.out.mono ?_;rintro e w8 ⟨rfl,X⟩;have H:=ae X;clear ak X;go_wp2;exact H.out
  ·have aZ:¬(c.kind:Int)=1:=by omega
   have bb:((c.kind:Int)==1)=false:=by rw [aT];exact aZ
   clear N ay j o q t O a9;generalize (c.kind:Int)=K at*;go_wp2;exact al.out
 ·have H:=ae (ah.out w3 w4 u2 n2 T2 z.out a3 X hf ht);clear M aq ah a3 X hf ht z C am;go_wp2;exact H.out
end
def bh(b:Nat)(c:Cf)(A':AG)(rs':List Nat)(T:Nat->Prop)(w w':World):Prop:=∃u n T',eX b c A' rs' u n T' w'/\Fr T w w'/\∀k,T' k->T k\/w.heap.size<=k
def C3(m:Nat):Option Nat->Value
 |none=> .iface 112 (.pointer (some ⟨m,0,none⟩))
 |some y=> .iface 115 (.pointer (some ⟨y,0,none⟩))
section
variable{b u n s x:Nat}{c:Cf}{A:AG}{rs:List Nat}{T:Nat->Prop}{w w':World}
theorem cP.slot{φ L:Nat->Nat}{lo a z:Nat}(h:cP A rs φ L lo a)(e:z=0\/Reach A.gr rs z):cP A (rs.set s z) φ L lo a:=h.less (fun _ d=>zf e d)
theorem kP.slot{h:Hp}{φ L:Nat->Nat}{Ba l:Nat}{g:Option Nat}{j f:Int}{S q:Nat->Prop}(a:kP q h c A rs φ L Ba u l g n j f S w){z:Nat}(t:z=0\/Reach A.gr rs z)(r:dt w' h.rb h.rg ((rs.map φ).set s (φ z)))(hf:Fr (fun k=>k=h.rg) w w'):kP q h c A (rs.set s z) φ L Ba u l g n j f S w':=by
 have d:=a.d;obtain ⟨v,m,y,B,o,C,i,D,E⟩:=id a.e;refine ⟨a.Qs,aJ.frame a.Qd hf m,?_,aJ.frame a.Yb hf (Ne.symm o),aS a.Qp hf (Ne.symm i),a.laid.slot t,by rw [bc];exact a.Sl,a.fits,a.half,a.mem.stays hf (fun k p=>(d k p).2.2.1) (Ne.symm i),d,a.e⟩;rw [dM];exact r
theorem Eo(B:eX b c A rs u n T w)(C:s<c.Sl){z:Nat}(D:z=0\/Reach A.gr rs z):∃i g ls,w.cell? ⟨b,9,none⟩=some (.pointer (some ⟨i,0,none⟩))/\dt w i g ls/\s<ls.length/\(∀(t r:Nat),rs[t]? =some r->∃a,ls[t]? =some a/\(r=z->∀w',dt w' i g (ls.set s a)->Fr (fun k=>k=g) w w'->bh b c A (rs.set s z) T w w'))/\(z=0->∀w',dt w' i g (ls.set s 0)->Fr (fun k=>k=g) w w'->bh b c A (rs.set s z) T w w'):=by
 obtain ⟨h,φ,L,Ba,F,y,E,v,S,rfl,f,q,m⟩:=B;have d:∀w',dt w' h.rb h.rg ((rs.map φ).set s (φ z))->Fr (fun k=>k=h.rg) w w'->bh h.b c A (rs.set s z) T w w':=fun w' p hf=>
  ⟨u,n,T,⟨h,φ,L,Ba,F,y,E,v,S,rfl,f.slot D p hf,q,m⟩,hf.mono (fun k o=> .inl ((q k).2 (.inr (.inr (.inr (.inl o)))))),fun k o=> .inl o⟩
 refine ⟨h.rb,h.rg,rs.map φ,aJ.cell f.Qd 9 rfl,f.roots,by rw [bL,f.Sl];exact C,fun t r p=>⟨φ r,by rw [aR,p];rfl,fun e w' j l=>d w' (by rw [<-e];exact j) l⟩,fun e w' j l=>d w' (by rw [e,f.laid.zero];exact j) l⟩
theorem qR(d:eX b c A rs u n T w):Calls prog 50 #[b] w fun e w'=>e= .returned (.bool false)/\w=w':=by
 obtain ⟨h,φ,L,Ba,l,i,k,g,S,rfl,f,j,a⟩:=d;exact gy f.Qd
theorem ss(d:eX b c A rs u n T w)(m:s<c.Sl):Calls prog 14 #[b,(s:Int)] w fun e w'=>e= .returned (0:Int)/\bh b c A (rs.set s 0) T w w':=by
 have f:=ae (qR d);obtain ⟨p,q,ls,o,l,a,_,k⟩:=Eo d m (z:=0) (.inl rfl);have h:=ae (qj l s 0 a);have g:=ae (k rfl);clear d l a k;generalize (bh b c A (rs.set s 0) T w)=Q at*
 go_enter func14,ntmps14
 go_wp2_with fail
 refine f.out.mono ?_;rintro e w1 ⟨rfl,rfl⟩;clear f;go_wp2_with fail
 refine h.out.mono ?_;rintro e w1 ⟨rfl,i,j⟩;have H:=ae (g.out w1 i j);clear h g i j o;go_wp2;go_ret;exact ⟨rfl,H.out⟩
theorem Cg(g:eX b c A rs u n T w)(v:s<c.Sl){t r:Nat}(p:rs[t]? =some r):Calls prog 15 #[b,(s:Int),(t:Int)] w fun e w'=>e= .returned (0:Int)/\bh b c A (rs.set s r) T w w':=by
 have h:=ae (qR g);obtain ⟨B,C,ls,y,o,d,f,_⟩:=Eo g v (z:=r) (by
  by_cases k:r=0
  ·exact .inl k
  ·exact .inr (.root (aD p) k))
 obtain ⟨a,q,f⟩:=f t r p;have j:=ae (za o s t a d q);have i:=ae (f rfl);clear g o d f;generalize (bh b c A (rs.set s r) T w)=Q at*
 go_enter func15,ntmps15
 go_wp2_with fail
 refine h.out.mono ?_;rintro e w1 ⟨rfl,rfl⟩;clear h;go_wp2_with fail
 refine j.out.mono ?_;rintro e w1 ⟨rfl,l,m⟩;have H:=ae (i.out w1 l m);clear j i l m y;go_wp2;go_ret;exact ⟨rfl,H.out⟩
theorem iE{m i j:Nat}{d:Option Nat}{g f:Int}(h:my w b c m i j d g f):Calls prog 62 #[b] w fun e w'=>e= .returned (C3 m d)/\w=w':=by
 have a:=aJ.cell h 11 rfl;have k:=aJ.cell h 8 rfl;clear h
 cases d with
 |none=>
  rw [show lE none= .pointer none from rfl] at a;unfold C3
  go_enter func62,ntmps62
  go_wp2;go_ret;exact ⟨rfl,rfl⟩
 |some y=>
  rw [show lE (some y)= .pointer (some ⟨y,0,none⟩) from rfl] at a;unfold C3
  go_enter func62,ntmps62
  go_wp2;go_ret;exact ⟨rfl,rfl⟩
theorem vB.space{q:Nat->Prop}{h:Hp}{Ba:Nat}{L:Nat->Nat}{S:Nat->Prop}{e:Option Nat}(p:vB c h.m Ba (Ba+u) q L S w e n)(G:iz c)(l:c.half Ba)(o:u<=c.Wd):∃t v D E r I dom,C3 h.m e= .iface t v/\dy t v D r I dom/\ph t v E r I dom/\I L S w/\(∀k,Ba<=k->k<Ba+u->dom k)/\∀L' S' w',I L' S' w'->∃n',vB c h.m Ba (Ba+u) (fun _=>True) L' S' w' e n':=by
 cases e with
 |none=>
  obtain ⟨K,Us,Hg,mp,J,a⟩:=p;exact ⟨_,_,_,_,_,_,_,rfl,cw _ _ _ _ _ _ _,qG _ _ _ _ _ _ _,J,qF a (l.mod G) (by have:=l.top;omega),fun L' S' w' h=>⟨0,rfl,Us,Hg,mp,h,a⟩⟩
 |some y=>
  obtain ⟨H,C,W,i,hg,z,fr,B,j,⟨Us,_,M⟩,rfl,N,O,P,Q,R,U,V⟩:=p;exact ⟨_,_,_,_,_,_,_,rfl,DS j,Fc j,⟨z,n,fr,B,M.s⟩,fun k Y F=>⟨by omega,F⟩,fun L' S' w' ⟨d,n',g,f,h⟩=>⟨n',H,C,W,i,hg,d,g,f,j,let ⟨X,o⟩:=h.su;⟨X,trivial,o⟩,rfl,N,O,P,Q,R,U,V⟩⟩
end
def kV(b:Nat)(c:Cf)(A':AG)(rs':List Nat)(T:Nat->Prop)(w w':World):Prop:=∃u n T',C5 b c A' rs' u n T' w'/\Fr T w w'/\∀k,T' k->T k\/w.heap.size<=k
section
variable{b u n s x t v i:Nat}{c:Cf}{A A':AG}{rs:List Nat}{T:Nat->Prop}{w w1 w' w'':World}
theorem kV.end_(h:kV b c A rs T w w'):Calls prog 63 #[b] w' fun e w''=>e= .returned (.tuple #[])/\bh b c A rs T w w'':=by
 obtain ⟨u,n,o,l,d,f⟩:=h;refine (tj l).mono ?_;rintro e w'' ⟨rfl,a,g1,g,j⟩;have p:=d.size;exact ⟨rfl,u,n,a,g1,d.trans g f,fun k m=>(j k m).elim (f k) (fun h=> .inr (by omega))⟩
theorem uH{p f g i:Nat}(a:eO p f g)(d:i<p):fg p f g i=1:=by
 unfold fg gg;rw [aG a,aE (by omega),aG (by omega)]
theorem uI{p f g i:Nat}(a:eO p f g)(d:p<=i)(e:i<p+f):fg p f g i=2:=by
 unfold fg gg;rw [aG a,aE (by omega),aE (by omega),aG (by omega)]
structure Gv(φ L:Nat->Nat)(A:AG)(dom:Nat->Prop)(x i:Nat):Prop where
 a1:1<=φ x
 a2:φ x<4611686018427387904
 i1:i<256
 d1:dom (φ x)
 hd:jb L (φ x) (A.np x) (A.nf x) (A.ng x)
 d2:dom (φ x+1+i)
theorem cP.spot{φ L:Nat->Nat}{lo a:Nat}(h:cP A rs φ L lo a){dom:Nat->Prop}(e:∀k,lo<=k->k<a->dom k)(m:a<=1048576)(f:Reach A.gr rs x)(hi':i<A.np x+A.nf x+A.ng x):Gv φ L A dom x i:=by
 have g:=h.Qn x f;have d:=h.head x f;have j:=d.2;have l:=h.one;unfold eO at j;unfold AG.sz at g;exact ⟨by omega,by omega,by omega,e _ (by omega) (by omega),d,e _ (by omega) (by omega)⟩
theorem lw{q:Nat->Prop}{h:Hp}{φ L L':Nat->Nat}{Ba d:Nat}{e:Option Nat}{p g:Int}{S:Nat->Prop}(z:kP q h c A rs φ L Ba u d e n p g S w)(o:∀k,T k↔kT h d S k){I:jF}(a:∀L' S' w',I L' S' w'->∃n',vB c h.m Ba (Ba+u) (fun _=>True) L' S' w' e n')(r:cP A' rs φ L' Ba (Ba+u))(hf:GM w w1)(hp:iY I L' S w1 w'):kV h.b c A' rs T w w':=by
 obtain ⟨S',g1,j,l⟩:=hp;obtain ⟨n',B⟩:=a _ _ _ g1;have C:=hf.size;have y:=(z.Qa hf).Yu j l B r;exact ⟨u,n',kT h d S',⟨h,φ,L',Ba,d,e,p,g,S',rfl,y,fun k=>dX⟩,(hf.mono GN).trans j (fun k f=> .inl ((o k).2 (.inl f))),fun k f=>(kT.sub l k f).elim (fun h=> .inl ((o k).2 h)) (fun h=> .inr (by omega))⟩
theorem zQ(X:eX b c A rs u n T w)(K:rs[s]? =some x)(E:x≠0)(q:i<A.np x)(M:rs[t]? =some v):∃N,∃G F:Nat,(∀w1,GM w w1->∀xb B:Nat,w1.cell? xb=some (s:Int)->w1.cell? ⟨xb,1,none⟩=some (t:Int)->Calls prog 60 #[b,.slice (some xb) 2 B] w1 (Aw [G,F] w1))/\
  (∀w1,GM w w1->Calls prog 62 #[b] w1 fun e w'=>e= .returned N/\w1=w')/\
  ∀w1,GM w w1->Calls prog 61 #[N,(G:Int),(i:Int),(F:Int)] w1 fun e w'=>e= .returned (0:Int)/\kV b c (A.put x i v) rs T w w':=by
 obtain ⟨h,φ,L,Ba,ub,O,ns,Z,S,rfl,f,R,V⟩:=X;have Y:=f.half.top;obtain ⟨U,_⟩:=f.Qs.W5;have p:=f.fits;have z:Reach A.gr rs x:= .root (aD K) E;have g:v=0\/Reach A.gr rs v:=by
  by_cases H:v=0
  ·exact .inl H
  ·exact .inr (.root (aD M) H)
 refine ⟨C3 h.m O,φ x,φ v,fun w1 hf xb B J P=> ?_,fun w1 hf=>iE (f.Qa hf).Qd,fun w1 hf=> ?_⟩
 ·refine lz (f.Qa hf).Qd (f.Qa hf).roots xb B [φ x,φ v] (fun j a l=> ?_) (by simp) (by simp)
  match j,l with
  |0,l=>
   obtain rfl:φ x=a:=bf l;exact ⟨s,J,by rw [aR,K];rfl⟩
  |1,l=>
   obtain rfl:φ v=a:=bf l;exact ⟨t,P,by rw [aR,M];rfl⟩
  |j+2,l=>exact absurd l (by simp)
 ·obtain ⟨ty,vv,fl,fs,r,I,dom,W,y,C,Q,o,k⟩:=(f.Qa hf).mem.space f.Qs f.half p;have d:=f.laid.spot (i:=i) o (by omega) z (by omega);have D:φ v<2147483648:=by
   rcases g with rfl|g
   ·rw [f.laid.zero];omega
   ·have:=f.laid.Qn v g;have J:1<=A.sz v:=by unfold AG.sz;omega
    omega
  rw [W];refine (qw y C Q (φ x) i _ _ _ (φ v) d.a1 d.a2 d.i1 d.d1 d.hd (uH d.hd.2 q) d.d2 D).mono ?_;rintro e w' ⟨rfl,hp⟩;exact ⟨rfl,lw f R k (f.laid.put_ptr z q g) hf hp⟩
theorem zM(K:eX b c A rs u n T w)(N:rs[s]? =some x)(z:x≠0)(y:i<A.np x)(O:rs[t]? =some v):Calls prog 13 #[b,(s:Int),(i:Int),(t:Int)] w fun e w'=>e= .returned (0:Int)/\bh b c (A.put x i v) rs T w w':=by
 obtain ⟨U,C,B,F,G,I⟩:=zQ K N z y O;obtain ⟨W1,l⟩:∃W1,w.alloc (.cells #[(s:Int),(t:Int)] 3)=W1:=⟨_,rfl⟩;have d:GM w W1:=by rw [<-l];exact (GQ _ w).alloc _
 have m:aJ W1 w.heap.size [(s:Int),(t:Int)] 3:=by rw [<-l];exact aJ.new w _ _
 have q:=ae (F W1 d w.heap.size 2 (m.cell 0 rfl) (m.cell 1 rfl));have a:=ae (fun w1 (hf:GM W1 w1)=>G w1.drew ((d.trans hf GN).drew));have r:=ae (fun w1 (hf:GM W1 w1)=>I w1.drew ((d.trans hf GN).drew));have p:=ae (fun w' (h:kV b c (A.put x i v) rs T w w')=>h.end_);clear F G I K d m N O y z;generalize (bh b c (A.put x i v) rs T w)=Q at*;generalize (kV b c (A.put x i v) rs T w)=J at*
 go_enter func13,ntmps13
 go_wp2_with fail
 refine q.out.mono ?_;rintro e w1 ⟨g,cap,rfl,D,hf⟩;have E:=D 0 C rfl;have c1:=D 1 B rfl;have P:w1.drew.cell? g=some (C:Int):=E;have R:w1.drew.cell? ⟨g,1,none⟩=some (B:Int):=c1;have j:=ae (a.out w1 hf);have k:=ae (r.out w1 hf);clear q a r D hf E c1 l;rw [show [C,B].length=2 from rfl];go_wp2;have a:=j;clear j;refine bR (fun w'=>w'=w1.drew) 9 rfl ?_;simp only [ai,an,aj,ao];refine aA b rfl (fun w' o=>by go_simp) ?_;simp only [aa];refine bT (U) 62 #[b] rfl (fun w'=>by go_simp) (fun w' o=>by subst o;exact a.out.mono (fun e w' h=>⟨h.1,h.2.symm⟩)) ?_;simp only [aa];refine aV [.slice (some g) 2 cap,g] ?_
 iterate 2 (refine aW rfl (fun V S=>by go_simp) ?_;simp only [aa])
 refine aU ?_;refine aA (C:Int) rfl (fun w' o=>by subst o;go_simp) ?_;simp only [aa];refine aV [(i:Int),.slice (some g) 2 cap,.pointer (some ⟨g,1,none⟩)] ?_
 iterate 3 (refine aW rfl (fun V S=>by go_simp) ?_;simp only [aa])
 refine aU ?_;refine aA (B:Int) rfl (fun w' o=>by subst o;go_simp) ?_;simp only [aa];refine wpQuiet_nil ?_;rintro w2 rfl;go_wp2_with fail
 refine k.out.mono ?_;rintro e w3 ⟨rfl,L⟩;have f:=ae (p.out w3 L);clear k L p a P R;go_wp2_with fail
 refine f.out.mono ?_;rintro e w4 ⟨rfl,M⟩;have H:=ae M;clear f M;go_wp2;go_ret;exact ⟨rfl,H.out⟩
end
theorem bY(n lo b:Int)(c:n<=9223372036854775807)(hp:cJ n=true)(d:lo<=n)(f:n<=b)(w:World):Calls prog 179 #[(n:Int),(lo:Int),(b:Int)] w fun e w'=>e= .returned (.bool true)/\w=w':=by
 have a:=ae (jM n c true hp w)
 go_enter func179,ntmps179
 go_wp2_with fail
 refine a.out.mono ?_;rintro e w' ⟨rfl,rfl⟩;clear a c;go_wp2;go_ret;exact ⟨rfl,rfl⟩
theorem oN(n lo c:Int)(b:n<=9223372036854775807)(h:¬(cJ n=true/\lo<=n/\n<=c))(w:World):Calls prog 179 #[(n:Int),(lo:Int),(c:Int)] w fun e w'=>e= .returned (.bool false)/\w=w':=by
 cases hb:cJ n with
 |false=>
  have a:=ae (jM n b false hb w);clear hb h
  go_enter func179,ntmps179
  go_wp2_with fail
  refine a.out.mono ?_;rintro e w' ⟨rfl,rfl⟩;clear a b;go_wp2;go_ret;exact ⟨rfl,rfl⟩
 |true=>
  have a:=ae (jM n b true hb w);by_cases f:lo<=n
  ·have d:¬n<=c:=fun d=>h ⟨hb,f,d⟩
   clear hb h
   go_enter func179,ntmps179
   go_wp2_with fail
   refine a.out.mono ?_;rintro e w' ⟨rfl,rfl⟩;clear a b;go_wp2;go_ret;exact ⟨congrArg (fun x=>Ending.returned (.bool x)) (ar (by omega)),rfl⟩
  ·clear hb h
   go_enter func179,ntmps179
   go_wp2_with fail
   refine a.out.mono ?_;rintro e w' ⟨rfl,rfl⟩;clear a b;go_wp2;go_ret;exact ⟨rfl,rfl⟩
def C4(c:Cf):List Value:=[((c.kind:Int):Int),((c.Pg:Int):Int),((c.block:Int):Int),((c.Wd:Int):Int),((c.Sl:Int):Int),((c.stack:Int):Int),((c.Ah:Int):Int),.float .f64 c.Qu]
theorem rd{c:Cf}{w:World}{b:Nat}{t:TypeId}(h:aJ w b (C4 c) t):w.cell? b=some (.int .i64 (c.kind:Int))/\w.cell? ⟨b,1,none⟩=some (.int .i64 (c.Pg:Int))/\w.cell? ⟨b,2,none⟩=some (.int .i64 (c.block:Int))/\w.cell? ⟨b,3,none⟩=some (.int .i64 (c.Wd:Int))/\w.cell? ⟨b,4,none⟩=some (.int .i64 (c.Sl:Int))/\w.cell? ⟨b,5,none⟩=some (.int .i64 (c.stack:Int))/\w.cell? ⟨b,6,none⟩=some (.int .i64 (c.Ah:Int))/\w.cell? ⟨b,7,none⟩=some (.float .f64 c.Qu):=
 ⟨h.cell 0 rfl,h.cell 1 rfl,h.cell 2 rfl,h.cell 3 rfl,h.cell 4 rfl,h.cell 5 rfl,h.cell 6 rfl,h.cell 7 rfl⟩
theorem ly{c:Cf}(w:World)(f:c.kind=1\/c.kind=2\/c.kind=3)(q:1<=c.Pg)(r:c.block<=1024)(s:c.Ah<=16)(y:c.Wd<=131072):Calls prog 119 #[pE c] w fun e w'=>e= .returned (.int .i64 (c.Fs:Int))/\GM w w':=by
 obtain ⟨W1,b⟩:∃W1,w.alloc (.cells #[((c.kind:Int):Int),((c.Pg:Int):Int),((c.block:Int):Int),((c.Wd:Int):Int),((c.Sl:Int):Int),((c.stack:Int):Int),((c.Ah:Int):Int),.float .f64 c.Qu] 24)=W1:=⟨_,rfl⟩;have m:GM w W1:=by rw [<-b];exact (GQ _ w).alloc _
 have l:aJ W1 w.heap.size (C4 c) 24:=by rw [<-b];exact aJ.new w _ _
 obtain ⟨k,z,A,B,C,D,E,F⟩:=rd l;have i:=ae m;have d:=ae (fun w'=>qP (c:=c) w' q r s);have x:¬c.Pg=0:=by omega
 have j:=bK c.Wd c.Pg;have v:IntKind.i64.wrap ((c.Wd:Int)/(c.Pg:Int))=((c.Wd/c.Pg:Nat):Int):=by
  rw [show (c.Wd:Int)/(c.Pg:Int)=((c.Wd/c.Pg:Nat):Int) from rfl];generalize c.Wd/c.Pg=X at*;rw [IntKind.wrap_i64];omega
 have g:c.spare<=20000:=by
  unfold Cf.spare;have u:max (c.block/c.Pg) 1+3<=1027:=by have:=bK c.block c.Pg;generalize c.block/c.Pg=X at*;omega
  have:=lM (show c.Ah+2<=18 by omega) u;omega
 have a:c.Fs=c.Wd/c.Pg+if c.kind=1 then c.spare else if c.kind=2 then c.Wd/c.Pg else 0:=rfl
 clear m l q r s;obtain ⟨X,t⟩:∃X,X=c.Wd/c.Pg:=⟨_,rfl⟩;rw [<-t] at v a j;generalize c.Fs=FR at*;clear t;unfold pE at d ⊢;rcases f with f|f|f
 ·rw [aG f] at a;rw [f] at d k b ⊢;rw [show ((1:Nat):Int)=1 from rfl] at d k b ⊢;generalize c.spare=SPA at*;have p:IntKind.i64.wrap ((X:Int)+(SPA:Int))=(FR:Int):=by rw [IntKind.wrap_i64,a];push_cast;omega
  clear a g f j
  go_enter func119,ntmps119
  go_wp2_with fail
  refine (d.out W1).mono ?_;rintro e w2 ⟨rfl,n⟩;have o:=ae (i.out.trans n GN);clear d n i;go_wp2;go_ret;exact ⟨rfl,o.out⟩
 ·rw [aE (by omega),aG f] at a;rw [f] at k b ⊢;rw [show ((2:Nat):Int)=2 from rfl] at k b ⊢;have p:IntKind.i64.wrap (2*(X:Int))=(FR:Int):=by rw [IntKind.wrap_i64,a];push_cast;omega
  clear a g f j d
  go_enter func119,ntmps119
  go_wp2;go_ret;exact ⟨rfl,i.out⟩
 ·rw [aE (by omega),aE (by omega),bg] at a;rw [f] at k b ⊢;rw [show ((3:Nat):Int)=3 from rfl] at k b ⊢;subst a;clear g f j d
  go_enter func119,ntmps119
  go_wp2;go_ret;exact ⟨rfl,i.out⟩
theorem wA{c:Cf}(d:iz c)(w:World):Calls prog 117 #[pE c] w fun e w'=>e= .returned (0:Int)/\GM w w':=by
 obtain ⟨W1,b⟩:∃W1,w.alloc (.cells #[((c.kind:Int):Int),((c.Pg:Int):Int),((c.block:Int):Int),((c.Wd:Int):Int),((c.Sl:Int):Int),((c.stack:Int):Int),((c.Ah:Int):Int),.float .f64 c.Qu] 24)=W1:=⟨_,rfl⟩;have l:GM w W1:=by rw [<-b];exact (GQ _ w).alloc _
 have k:aJ W1 w.heap.size (C4 c) 24:=by rw [<-b];exact aJ.new w _ _
 obtain ⟨z,A,B,C,D,E,F,G⟩:=rd k;have f:=ae l;have a:=ae (ly (c:=c) W1 d.Yj d.Qq d.Yn d.Yo d.Xp);obtain ⟨t,p1,p2,p3,o,q,r,w1,w2,w3,w4,u,v,x,y,p,s⟩:=d;have q0:(1:Int)<=(c.kind:Int):=by omega
 have H:(c.kind:Int)<=3:=by omega
 have I:(c.Pg:Int)<=(c.Wd:Int):=by omega
 have J:(1:Int)<=(c.Sl:Int):=by omega
 have K:(c.Sl:Int)<=64:=by omega
 have L:(1:Int)<=(c.stack:Int):=by omega
 have M:(c.stack:Int)<=4096:=by omega
 have N:(0:Int)<=(c.Ah:Int):=by omega
 have O:(c.Ah:Int)<=16:=by omega
 have P:¬(4096:Int)<(c.Fs:Int):=by omega
 have g:=ae (bY (c.Pg:Int) 1 256 (by omega) p1 (by omega) (by omega) W1);have i:=ae (bY (c.block:Int) 1 1024 (by omega) o (by omega) (by omega) W1);have j:=ae (bY (c.Wd:Int) 16 131072 (by omega) w1 (by omega) (by omega) W1);unfold pE at a ⊢;clear t p1 p2 p3 o q r w1 w2 w3 w4 u v x y p s l k;generalize (c.kind:Int)=v0 at*;generalize (c.Pg:Int)=v1 at*;generalize (c.block:Int)=v2 at*;generalize (c.Wd:Int)=v3 at*;generalize (c.Sl:Int)=v4 at*;generalize (c.stack:Int)=v5 at*;generalize (c.Ah:Int)=v6 at*;generalize (c.Fs:Int)=v7 at*
 go_enter func117,ntmps117
 go_wp2_with fail
 refine g.out.mono ?_;rintro e w' ⟨rfl,rfl⟩;clear g b;go_wp2_with fail
 refine i.out.mono ?_;rintro e w' ⟨rfl,rfl⟩;clear i;go_wp2_with fail
 refine j.out.mono ?_;rintro e w' ⟨rfl,rfl⟩;clear j;go_wp2_with fail
 refine a.out.mono ?_;rintro e w2 ⟨rfl,m⟩;have n:=ae (f.out.trans m GN);clear a m f;go_wp2;go_ret;exact ⟨rfl,n.out⟩
def km(v0 v1 v2 v3 v4 v5 v6:Int)(tr:Nat):Value:= .agg #[(v0:Int),(v1:Int),(v2:Int),(v3:Int),(v4:Int),(v5:Int),(v6:Int),.float .f64 tr]
section
variable{v0 v1 v2 v3 v4 v5 v6:Int}{tr:Nat}
theorem wK(g:v1<=9223372036854775807)(h:v2<=9223372036854775807)(i:v3<=9223372036854775807)(f:¬((1:Int)<=v0))(w:World):Calls prog 117 #[km v0 v1 v2 v3 v4 v5 v6 tr] w fun e w'=>e= .returned (22:Int)/\GM w w':=by
 obtain ⟨W1,b⟩:∃W1,w.alloc (.cells #[(v0:Int),(v1:Int),(v2:Int),(v3:Int),(v4:Int),(v5:Int),(v6:Int),.float .f64 tr] 24)=W1:=⟨_,rfl⟩;have c:GM w W1:=by rw [<-b];exact (GQ _ w).alloc _
 have a:aJ W1 w.heap.size [(v0:Int),(v1:Int),(v2:Int),(v3:Int),(v4:Int),(v5:Int),(v6:Int),.float .f64 tr] 24:=by rw [<-b];exact aJ.new w _ _
 obtain ⟨k,l,m,n,o,p,q,r,_⟩:=GW a;have d:=ae c;have j:decide ((1:Int)<=v0)=false:=ar f;unfold km;clear c a g h i f
 go_enter func117,ntmps117
 go_wp2;go_ret;exact ⟨rfl,d.out⟩
theorem wJ(g:v1<=9223372036854775807)(h:v2<=9223372036854775807)(i:v3<=9223372036854775807)(j:(1:Int)<=v0)(f:¬(v0<=3))(w:World):Calls prog 117 #[km v0 v1 v2 v3 v4 v5 v6 tr] w fun e w'=>e= .returned (22:Int)/\GM w w':=by
 obtain ⟨W1,b⟩:∃W1,w.alloc (.cells #[(v0:Int),(v1:Int),(v2:Int),(v3:Int),(v4:Int),(v5:Int),(v6:Int),.float .f64 tr] 24)=W1:=⟨_,rfl⟩;have c:GM w W1:=by rw [<-b];exact (GQ _ w).alloc _
 have a:aJ W1 w.heap.size [(v0:Int),(v1:Int),(v2:Int),(v3:Int),(v4:Int),(v5:Int),(v6:Int),.float .f64 tr] 24:=by rw [<-b];exact aJ.new w _ _
 obtain ⟨l,m,n,o,p,q,r,s,_⟩:=GW a;have d:=ae c;have k:decide (v0<=3)=false:=ar f;unfold km;clear c a g h i f
 go_enter func117,ntmps117
 go_wp2;go_ret;exact ⟨rfl,d.out⟩
theorem wI(g:v1<=9223372036854775807)(i:v2<=9223372036854775807)(j:v3<=9223372036854775807)(k:(1:Int)<=v0)(c1:v0<=3)(h:¬(cJ v1=true/\1<=v1/\v1<=256))(w:World):Calls prog 117 #[km v0 v1 v2 v3 v4 v5 v6 tr] w fun e w'=>e= .returned (22:Int)/\GM w w':=by
 obtain ⟨W1,b⟩:∃W1,w.alloc (.cells #[(v0:Int),(v1:Int),(v2:Int),(v3:Int),(v4:Int),(v5:Int),(v6:Int),.float .f64 tr] 24)=W1:=⟨_,rfl⟩;have d:GM w W1:=by rw [<-b];exact (GQ _ w).alloc _
 have a:aJ W1 w.heap.size [(v0:Int),(v1:Int),(v2:Int),(v3:Int),(v4:Int),(v5:Int),(v6:Int),.float .f64 tr] 24:=by rw [<-b];exact aJ.new w _ _
 obtain ⟨l,m,n,o,p,q,r,s,_⟩:=GW a;have f:=ae d;have c:=ae (oN v1 1 256 g h W1);unfold km;clear d a g i j h
 go_enter func117,ntmps117
 go_wp2_with fail
 refine c.out.mono ?_;rintro e w' ⟨rfl,rfl⟩;clear c b;go_wp2;go_ret;exact ⟨rfl,f.out⟩
theorem wH(h:v1<=9223372036854775807)(i:v2<=9223372036854775807)(k:v3<=9223372036854775807)(l:(1:Int)<=v0)(c1:v0<=3)(c2:cJ v1=true/\1<=v1/\v1<=256)(j:¬(cJ v2=true/\1<=v2/\v2<=1024))(w:World):Calls prog 117 #[km v0 v1 v2 v3 v4 v5 v6 tr] w fun e w'=>e= .returned (22:Int)/\GM w w':=by
 obtain ⟨W1,b⟩:∃W1,w.alloc (.cells #[(v0:Int),(v1:Int),(v2:Int),(v3:Int),(v4:Int),(v5:Int),(v6:Int),.float .f64 tr] 24)=W1:=⟨_,rfl⟩;have f:GM w W1:=by rw [<-b];exact (GQ _ w).alloc _
 have a:aJ W1 w.heap.size [(v0:Int),(v1:Int),(v2:Int),(v3:Int),(v4:Int),(v5:Int),(v6:Int),.float .f64 tr] 24:=by rw [<-b];exact aJ.new w _ _
 obtain ⟨m,n,o,p,q,r,s,t,_⟩:=GW a;have g:=ae f;have c:=ae (bY v1 1 256 h c2.1 c2.2.1 c2.2.2 W1);have d:=ae (oN v2 1 1024 i j W1);unfold km;clear f a h i k j c2
 go_enter func117,ntmps117
 go_wp2_with fail
 refine c.out.mono ?_;rintro e w' ⟨rfl,rfl⟩;clear c b;go_wp2_with fail
 refine d.out.mono ?_;rintro e w' ⟨rfl,rfl⟩;clear d;go_wp2;go_ret;exact ⟨rfl,g.out⟩
theorem wG(j:v1<=9223372036854775807)(k:v2<=9223372036854775807)(l:v3<=9223372036854775807)(n:(1:Int)<=v0)(c1:v0<=3)(c2:cJ v1=true/\1<=v1/\v1<=256)(h:cJ v2=true/\1<=v2/\v2<=1024)(m:¬(cJ v3=true/\16<=v3/\v3<=131072))(w:World):Calls prog 117 #[km v0 v1 v2 v3 v4 v5 v6 tr] w fun e w'=>e= .returned (22:Int)/\GM w w':=by
 obtain ⟨W1,b⟩:∃W1,w.alloc (.cells #[(v0:Int),(v1:Int),(v2:Int),(v3:Int),(v4:Int),(v5:Int),(v6:Int),.float .f64 tr] 24)=W1:=⟨_,rfl⟩;have g:GM w W1:=by rw [<-b];exact (GQ _ w).alloc _
 have a:aJ W1 w.heap.size [(v0:Int),(v1:Int),(v2:Int),(v3:Int),(v4:Int),(v5:Int),(v6:Int),.float .f64 tr] 24:=by rw [<-b];exact aJ.new w _ _
 obtain ⟨o,p,q,r,s,t,u,v,_⟩:=GW a;have i:=ae g;have c:=ae (bY v1 1 256 j c2.1 c2.2.1 c2.2.2 W1);have d:=ae (bY v2 1 1024 k h.1 h.2.1 h.2.2 W1);have f:=ae (oN v3 16 131072 l m W1);unfold km;clear g a j k l m c2 h
 go_enter func117,ntmps117
 go_wp2_with fail
 refine c.out.mono ?_;rintro e w' ⟨rfl,rfl⟩;clear c b;go_wp2_with fail
 refine d.out.mono ?_;rintro e w' ⟨rfl,rfl⟩;clear d;go_wp2_with fail
 refine f.out.mono ?_;rintro e w' ⟨rfl,rfl⟩;clear f;go_wp2;go_ret;exact ⟨rfl,i.out⟩
theorem wF(k:v1<=9223372036854775807)(l:v2<=9223372036854775807)(m:v3<=9223372036854775807)(o:(1:Int)<=v0)(c1:v0<=3)(c2:cJ v1=true/\1<=v1/\v1<=256)(h:cJ v2=true/\1<=v2/\v2<=1024)(i:cJ v3=true/\16<=v3/\v3<=131072)(n:¬(v1<=v3))(w:World):Calls prog 117 #[km v0 v1 v2 v3 v4 v5 v6 tr] w fun e w'=>e= .returned (22:Int)/\GM w w':=by
 obtain ⟨W1,b⟩:∃W1,w.alloc (.cells #[(v0:Int),(v1:Int),(v2:Int),(v3:Int),(v4:Int),(v5:Int),(v6:Int),.float .f64 tr] 24)=W1:=⟨_,rfl⟩;have g:GM w W1:=by rw [<-b];exact (GQ _ w).alloc _
 have a:aJ W1 w.heap.size [(v0:Int),(v1:Int),(v2:Int),(v3:Int),(v4:Int),(v5:Int),(v6:Int),.float .f64 tr] 24:=by rw [<-b];exact aJ.new w _ _
 obtain ⟨q,r,s,t,u,v,x,y,_⟩:=GW a;have j:=ae g;have c:=ae (bY v1 1 256 k c2.1 c2.2.1 c2.2.2 W1);have d:=ae (bY v2 1 1024 l h.1 h.2.1 h.2.2 W1);have f:=ae (bY v3 16 131072 m i.1 i.2.1 i.2.2 W1);have p:decide (v1<=v3)=false:=ar n;unfold km;clear g a k l m n c2 h i
 go_enter func117,ntmps117
 go_wp2_with fail
 refine c.out.mono ?_;rintro e w' ⟨rfl,rfl⟩;clear c b;go_wp2_with fail
 refine d.out.mono ?_;rintro e w' ⟨rfl,rfl⟩;clear d;go_wp2_with fail
 refine f.out.mono ?_;rintro e w' ⟨rfl,rfl⟩;clear f;go_wp2;go_ret;exact ⟨rfl,j.out⟩
theorem wE(k:v1<=9223372036854775807)(l:v2<=9223372036854775807)(m:v3<=9223372036854775807)(o:(1:Int)<=v0)(c1:v0<=3)(c2:cJ v1=true/\1<=v1/\v1<=256)(h:cJ v2=true/\1<=v2/\v2<=1024)(i:cJ v3=true/\16<=v3/\v3<=131072)(p:v1<=v3)(n:¬((1:Int)<=v4))(w:World):Calls prog 117 #[km v0 v1 v2 v3 v4 v5 v6 tr] w fun e w'=>e= .returned (22:Int)/\GM w w':=by
 obtain ⟨W1,b⟩:∃W1,w.alloc (.cells #[(v0:Int),(v1:Int),(v2:Int),(v3:Int),(v4:Int),(v5:Int),(v6:Int),.float .f64 tr] 24)=W1:=⟨_,rfl⟩;have g:GM w W1:=by rw [<-b];exact (GQ _ w).alloc _
 have a:aJ W1 w.heap.size [(v0:Int),(v1:Int),(v2:Int),(v3:Int),(v4:Int),(v5:Int),(v6:Int),.float .f64 tr] 24:=by rw [<-b];exact aJ.new w _ _
 obtain ⟨r,s,t,u,v,x,y,z,_⟩:=GW a;have j:=ae g;have c:=ae (bY v1 1 256 k c2.1 c2.2.1 c2.2.2 W1);have d:=ae (bY v2 1 1024 l h.1 h.2.1 h.2.2 W1);have f:=ae (bY v3 16 131072 m i.1 i.2.1 i.2.2 W1);have q:decide ((1:Int)<=v4)=false:=ar n;unfold km;clear g a k l m n c2 h i
 go_enter func117,ntmps117
 go_wp2_with fail
 refine c.out.mono ?_;rintro e w' ⟨rfl,rfl⟩;clear c b;go_wp2_with fail
 refine d.out.mono ?_;rintro e w' ⟨rfl,rfl⟩;clear d;go_wp2_with fail
 refine f.out.mono ?_;rintro e w' ⟨rfl,rfl⟩;clear f;go_wp2;go_ret;exact ⟨rfl,j.out⟩
theorem wD(k:v1<=9223372036854775807)(l:v2<=9223372036854775807)(m:v3<=9223372036854775807)(o:(1:Int)<=v0)(c1:v0<=3)(c2:cJ v1=true/\1<=v1/\v1<=256)(h:cJ v2=true/\1<=v2/\v2<=1024)(i:cJ v3=true/\16<=v3/\v3<=131072)(p:v1<=v3)(q:(1:Int)<=v4)(n:¬(v4<=64))(w:World):Calls prog 117 #[km v0 v1 v2 v3 v4 v5 v6 tr] w fun e w'=>e= .returned (22:Int)/\GM w w':=by
 obtain ⟨W1,b⟩:∃W1,w.alloc (.cells #[(v0:Int),(v1:Int),(v2:Int),(v3:Int),(v4:Int),(v5:Int),(v6:Int),.float .f64 tr] 24)=W1:=⟨_,rfl⟩;have g:GM w W1:=by rw [<-b];exact (GQ _ w).alloc _
 have a:aJ W1 w.heap.size [(v0:Int),(v1:Int),(v2:Int),(v3:Int),(v4:Int),(v5:Int),(v6:Int),.float .f64 tr] 24:=by rw [<-b];exact aJ.new w _ _
 obtain ⟨s,t,u,v,x,y,z,A,_⟩:=GW a;have j:=ae g;have c:=ae (bY v1 1 256 k c2.1 c2.2.1 c2.2.2 W1);have d:=ae (bY v2 1 1024 l h.1 h.2.1 h.2.2 W1);have f:=ae (bY v3 16 131072 m i.1 i.2.1 i.2.2 W1);have r:decide (v4<=64)=false:=ar n;unfold km;clear g a k l m n c2 h i
 go_enter func117,ntmps117
 go_wp2_with fail
 refine c.out.mono ?_;rintro e w' ⟨rfl,rfl⟩;clear c b;go_wp2_with fail
 refine d.out.mono ?_;rintro e w' ⟨rfl,rfl⟩;clear d;go_wp2_with fail
 refine f.out.mono ?_;rintro e w' ⟨rfl,rfl⟩;clear f;go_wp2;go_ret;exact ⟨rfl,j.out⟩
theorem wC(k:v1<=9223372036854775807)(l:v2<=9223372036854775807)(m:v3<=9223372036854775807)(o:(1:Int)<=v0)(c1:v0<=3)(c2:cJ v1=true/\1<=v1/\v1<=256)(h:cJ v2=true/\1<=v2/\v2<=1024)(i:cJ v3=true/\16<=v3/\v3<=131072)(p:v1<=v3)(q:(1:Int)<=v4)(r:v4<=64)(n:¬((1:Int)<=v5))(w:World):Calls prog 117 #[km v0 v1 v2 v3 v4 v5 v6 tr] w fun e w'=>e= .returned (22:Int)/\GM w w':=by
 obtain ⟨W1,b⟩:∃W1,w.alloc (.cells #[(v0:Int),(v1:Int),(v2:Int),(v3:Int),(v4:Int),(v5:Int),(v6:Int),.float .f64 tr] 24)=W1:=⟨_,rfl⟩;have g:GM w W1:=by rw [<-b];exact (GQ _ w).alloc _
 have a:aJ W1 w.heap.size [(v0:Int),(v1:Int),(v2:Int),(v3:Int),(v4:Int),(v5:Int),(v6:Int),.float .f64 tr] 24:=by rw [<-b];exact aJ.new w _ _
 obtain ⟨t,u,v,x,y,z,A,B,_⟩:=GW a;have j:=ae g;have c:=ae (bY v1 1 256 k c2.1 c2.2.1 c2.2.2 W1);have d:=ae (bY v2 1 1024 l h.1 h.2.1 h.2.2 W1);have f:=ae (bY v3 16 131072 m i.1 i.2.1 i.2.2 W1);have s:decide ((1:Int)<=v5)=false:=ar n;unfold km;clear g a k l m n c2 h i
 go_enter func117,ntmps117
 go_wp2_with fail
 refine c.out.mono ?_;rintro e w' ⟨rfl,rfl⟩;clear c b;go_wp2_with fail
 refine d.out.mono ?_;rintro e w' ⟨rfl,rfl⟩;clear d;go_wp2_with fail
 refine f.out.mono ?_;rintro e w' ⟨rfl,rfl⟩;clear f;go_wp2;go_ret;exact ⟨rfl,j.out⟩
theorem wB(k:v1<=9223372036854775807)(l:v2<=9223372036854775807)(m:v3<=9223372036854775807)(o:(1:Int)<=v0)(c1:v0<=3)(c2:cJ v1=true/\1<=v1/\v1<=256)(h:cJ v2=true/\1<=v2/\v2<=1024)(i:cJ v3=true/\16<=v3/\v3<=131072)(p:v1<=v3)(q:(1:Int)<=v4)(r:v4<=64)(s:(1:Int)<=v5)(n:¬(v5<=4096))(w:World):Calls prog 117 #[km v0 v1 v2 v3 v4 v5 v6 tr] w fun e w'=>e= .returned (22:Int)/\GM w w':=by
 obtain ⟨W1,b⟩:∃W1,w.alloc (.cells #[(v0:Int),(v1:Int),(v2:Int),(v3:Int),(v4:Int),(v5:Int),(v6:Int),.float .f64 tr] 24)=W1:=⟨_,rfl⟩;have g:GM w W1:=by rw [<-b];exact (GQ _ w).alloc _
 have a:aJ W1 w.heap.size [(v0:Int),(v1:Int),(v2:Int),(v3:Int),(v4:Int),(v5:Int),(v6:Int),.float .f64 tr] 24:=by rw [<-b];exact aJ.new w _ _
 obtain ⟨u,v,x,y,z,A,B,C,_⟩:=GW a;have j:=ae g;have c:=ae (bY v1 1 256 k c2.1 c2.2.1 c2.2.2 W1);have d:=ae (bY v2 1 1024 l h.1 h.2.1 h.2.2 W1);have f:=ae (bY v3 16 131072 m i.1 i.2.1 i.2.2 W1);have t:decide (v5<=4096)=false:=ar n;unfold km;clear g a k l m n c2 h i
 go_enter func117,ntmps117
 go_wp2_with fail
 refine c.out.mono ?_;rintro e w' ⟨rfl,rfl⟩;clear c b;go_wp2_with fail
 refine d.out.mono ?_;rintro e w' ⟨rfl,rfl⟩;clear d;go_wp2_with fail
 refine f.out.mono ?_;rintro e w' ⟨rfl,rfl⟩;clear f;go_wp2;go_ret;exact ⟨rfl,j.out⟩
theorem uQ(k:v1<=9223372036854775807)(l:v2<=9223372036854775807)(m:v3<=9223372036854775807)(o:(1:Int)<=v0)(c1:v0<=3)(c2:cJ v1=true/\1<=v1/\v1<=256)(h:cJ v2=true/\1<=v2/\v2<=1024)(i:cJ v3=true/\16<=v3/\v3<=131072)(p:v1<=v3)(q:(1:Int)<=v4)(r:v4<=64)(s:(1:Int)<=v5)(t:v5<=4096)(n:¬((0:Int)<=v6))(w:World):Calls prog 117 #[km v0 v1 v2 v3 v4 v5 v6 tr] w fun e w'=>e= .returned (22:Int)/\GM w w':=by
 obtain ⟨W1,b⟩:∃W1,w.alloc (.cells #[(v0:Int),(v1:Int),(v2:Int),(v3:Int),(v4:Int),(v5:Int),(v6:Int),.float .f64 tr] 24)=W1:=⟨_,rfl⟩;have g:GM w W1:=by rw [<-b];exact (GQ _ w).alloc _
 have a:aJ W1 w.heap.size [(v0:Int),(v1:Int),(v2:Int),(v3:Int),(v4:Int),(v5:Int),(v6:Int),.float .f64 tr] 24:=by rw [<-b];exact aJ.new w _ _
 obtain ⟨v,x,y,z,A,B,C,D,_⟩:=GW a;have j:=ae g;have c:=ae (bY v1 1 256 k c2.1 c2.2.1 c2.2.2 W1);have d:=ae (bY v2 1 1024 l h.1 h.2.1 h.2.2 W1);have f:=ae (bY v3 16 131072 m i.1 i.2.1 i.2.2 W1);have u:decide ((0:Int)<=v6)=false:=ar n;unfold km;clear g a k l m n c2 h i
 go_enter func117,ntmps117
 go_wp2_with fail
 refine c.out.mono ?_;rintro e w' ⟨rfl,rfl⟩;clear c b;go_wp2_with fail
 refine d.out.mono ?_;rintro e w' ⟨rfl,rfl⟩;clear d;go_wp2_with fail
 refine f.out.mono ?_;rintro e w' ⟨rfl,rfl⟩;clear f;go_wp2;go_ret;exact ⟨rfl,j.out⟩
theorem uP(k:v1<=9223372036854775807)(l:v2<=9223372036854775807)(m:v3<=9223372036854775807)(p:(1:Int)<=v0)(c1:v0<=3)(c2:cJ v1=true/\1<=v1/\v1<=256)(h:cJ v2=true/\1<=v2/\v2<=1024)(i:cJ v3=true/\16<=v3/\v3<=131072)(q:v1<=v3)(r:(1:Int)<=v4)(s:v4<=64)(t:(1:Int)<=v5)(u:v5<=4096)(o:(0:Int)<=v6)(n:¬(v6<=16))(w:World):Calls prog 117 #[km v0 v1 v2 v3 v4 v5 v6 tr] w fun e w'=>e= .returned (22:Int)/\GM w w':=by
 obtain ⟨W1,b⟩:∃W1,w.alloc (.cells #[(v0:Int),(v1:Int),(v2:Int),(v3:Int),(v4:Int),(v5:Int),(v6:Int),.float .f64 tr] 24)=W1:=⟨_,rfl⟩;have g:GM w W1:=by rw [<-b];exact (GQ _ w).alloc _
 have a:aJ W1 w.heap.size [(v0:Int),(v1:Int),(v2:Int),(v3:Int),(v4:Int),(v5:Int),(v6:Int),.float .f64 tr] 24:=by rw [<-b];exact aJ.new w _ _
 obtain ⟨x,y,z,A,B,C,D,E,_⟩:=GW a;have j:=ae g;have c:=ae (bY v1 1 256 k c2.1 c2.2.1 c2.2.2 W1);have d:=ae (bY v2 1 1024 l h.1 h.2.1 h.2.2 W1);have f:=ae (bY v3 16 131072 m i.1 i.2.1 i.2.2 W1);have v:decide (v6<=16)=false:=ar n;unfold km;clear g a k l m n c2 h i
 go_enter func117,ntmps117
 go_wp2_with fail
 refine c.out.mono ?_;rintro e w' ⟨rfl,rfl⟩;clear c b;go_wp2_with fail
 refine d.out.mono ?_;rintro e w' ⟨rfl,rfl⟩;clear d;go_wp2_with fail
 refine f.out.mono ?_;rintro e w' ⟨rfl,rfl⟩;clear f;go_wp2;go_ret;exact ⟨rfl,j.out⟩
theorem uO{c:Cf}(q:c.kind=1\/c.kind=2\/c.kind=3)(p1:cJ (c.Pg:Int)=true)(p2:1<=c.Pg)(p3:c.Pg<=256)(o:cJ (c.block:Int)=true)(r:1<=c.block)(p:c.block<=1024)(w1:cJ (c.Wd:Int)=true)(w2:16<=c.Wd)(w3:c.Wd<=131072)(w4:c.Pg<=c.Wd)(t:1<=c.Sl)(u:c.Sl<=64)(v:1<=c.stack)(x:c.stack<=4096)(n:c.Ah<=16)(s:¬c.Fs<=4096)(w:World):Calls prog 117 #[pE c] w fun e w'=>e= .returned (22:Int)/\GM w w':=by
 obtain ⟨W1,b⟩:∃W1,w.alloc (.cells #[((c.kind:Int):Int),((c.Pg:Int):Int),((c.block:Int):Int),((c.Wd:Int):Int),((c.Sl:Int):Int),((c.stack:Int):Int),((c.Ah:Int):Int),.float .f64 c.Qu] 24)=W1:=⟨_,rfl⟩;have k:GM w W1:=by rw [<-b];exact (GQ _ w).alloc _
 have j:aJ W1 w.heap.size (C4 c) 24:=by rw [<-b];exact aJ.new w _ _
 obtain ⟨y,z,A,B,C,D,E,F⟩:=rd j;have d:=ae k;have a:=ae (ly (c:=c) W1 q p2 p n w3);have q0:(1:Int)<=(c.kind:Int):=by omega
 have G:(c.kind:Int)<=3:=by omega
 have H:(c.Pg:Int)<=(c.Wd:Int):=by omega
 have I:(1:Int)<=(c.Sl:Int):=by omega
 have J:(c.Sl:Int)<=64:=by omega
 have K:(1:Int)<=(c.stack:Int):=by omega
 have L:(c.stack:Int)<=4096:=by omega
 have M:(0:Int)<=(c.Ah:Int):=by omega
 have N:(c.Ah:Int)<=16:=by omega
 have O:(4096:Int)<(c.Fs:Int):=by omega
 have f:=ae (bY (c.Pg:Int) 1 256 (by omega) p1 (by omega) (by omega) W1);have g:=ae (bY (c.block:Int) 1 1024 (by omega) o (by omega) (by omega) W1);have i:=ae (bY (c.Wd:Int) 16 131072 (by omega) w1 (by omega) (by omega) W1);unfold pE at a ⊢;clear q p1 p2 p3 o r p w1 w2 w3 w4 t u v x n s k j;generalize (c.kind:Int)=v0 at*;generalize (c.Pg:Int)=v1 at*;generalize (c.block:Int)=v2 at*;generalize (c.Wd:Int)=v3 at*;generalize (c.Sl:Int)=v4 at*;generalize (c.stack:Int)=v5 at*;generalize (c.Ah:Int)=v6 at*;generalize (c.Fs:Int)=v7 at*
 go_enter func117,ntmps117
 go_wp2_with fail
 refine f.out.mono ?_;rintro e w' ⟨rfl,rfl⟩;clear f b;go_wp2_with fail
 refine g.out.mono ?_;rintro e w' ⟨rfl,rfl⟩;clear g;go_wp2_with fail
 refine i.out.mono ?_;rintro e w' ⟨rfl,rfl⟩;clear i;go_wp2_with fail
 refine a.out.mono ?_;rintro e w2 ⟨rfl,l⟩;have m:=ae (d.out.trans l GN);clear a l d;go_wp2;go_ret;exact ⟨rfl,m.out⟩
theorem zS(a:v1<=9223372036854775807)(b:v2<=9223372036854775807)(d:v3<=9223372036854775807)(r:¬∃c,iz c/\km v0 v1 v2 v3 v4 v5 v6 tr=pE c)(w:World):Calls prog 117 #[km v0 v1 v2 v3 v4 v5 v6 tr] w fun e w'=>e= .returned (22:Int)/\GM w w':=by
 by_cases f:(1:Int)<=v0
 case neg=>exact wK a b d f w
 by_cases c1:v0<=3
 case neg=>exact wJ a b d f c1 w
 by_cases c2:cJ v1=true/\1<=v1/\v1<=256
 case neg=>exact wI a b d f c1 c2 w
 by_cases g:cJ v2=true/\1<=v2/\v2<=1024
 case neg=>exact wH a b d f c1 c2 g w
 by_cases h:cJ v3=true/\16<=v3/\v3<=131072
 case neg=>exact wG a b d f c1 c2 g h w
 by_cases i:v1<=v3
 case neg=>exact wF a b d f c1 c2 g h i w
 by_cases j:(1:Int)<=v4
 case neg=>exact wE a b d f c1 c2 g h i j w
 by_cases l:v4<=64
 case neg=>exact wD a b d f c1 c2 g h i j l w
 by_cases o:(1:Int)<=v5
 case neg=>exact wC a b d f c1 c2 g h i j l o w
 by_cases q:v5<=4096
 case neg=>exact wB a b d f c1 c2 g h i j l o q w
 by_cases k:(0:Int)<=v6
 case neg=>exact uQ a b d f c1 c2 g h i j l o q k w
 by_cases p:v6<=16
 case neg=>exact uP a b d f c1 c2 g h i j l o q k p w
 obtain ⟨n0,rfl⟩:=cN (show 0<=v0 by omega);obtain ⟨s,rfl⟩:=cN (show 0<=v1 by omega);obtain ⟨t,rfl⟩:=cN (show 0<=v2 by omega);obtain ⟨u,rfl⟩:=cN (show 0<=v3 by omega);obtain ⟨v,rfl⟩:=cN (show 0<=v4 by omega);obtain ⟨x,rfl⟩:=cN (show 0<=v5 by omega);obtain ⟨y,rfl⟩:=cN (show 0<=v6 by omega);obtain ⟨c,m⟩:∃c:Cf,c=⟨n0,s,t,u,v,x,y,tr⟩:=⟨_,rfl⟩;have z:km n0 s t u v x y tr=pE c:=by rw [m];rfl
 have A:c.kind=n0/\c.Pg=s/\c.block=t/\c.Wd=u/\c.Sl=v/\c.stack=x/\c.Ah=y:=by rw [m];exact ⟨rfl,rfl,rfl,rfl,rfl,rfl,rfl⟩
 obtain ⟨rfl,rfl,rfl,rfl,rfl,rfl,rfl⟩:=A;have n:c.kind=1\/c.kind=2\/c.kind=3:=by omega
 by_cases hf:c.Fs<=4096
 ·exact absurd ⟨c,⟨n,c2.1,by omega,by omega,g.1,by omega,by omega,h.1,by omega,by omega,by omega,by omega,by omega,by omega,by omega,by omega,hf⟩,z⟩ r
 ·rw [z];exact uO n c2.1 (by omega) (by omega) g.1 (by omega) (by omega) h.1 (by omega) (by omega) (by omega) (by omega) (by omega) (by omega) (by omega) (by omega) hf w
end
def Av(c:Cf)(A:AG)(w:World)(e:Ending)(w':World):Prop:=∃b T,e= .returned (.tuple #[.pointer (some ⟨b,0,none⟩),(0:Int)])/\eX b c A (List.replicate c.Sl 0) 0 0 T w'/\(∀k,T k->w.heap.size<=k)/\GM w w'
section
variable{c:Cf}{A:AG}{w:World}
theorem lq{n z:Nat}:¬Reach A.gr (List.replicate n 0) z:=by
 intro h
 induction h with
 |root h1 h2=>exact h2 (dS h1)
 |step _ _ _ ih=>exact ih
theorem sq{d m e g i:Nat}{S:Nat->Prop}{w4 w5 w6 j:World}(p:iz c)(o:et w)(n:∀k,S k->w4.heap.size<=k)(L:w.heap.size<=d)(r:d<w4.heap.size)(l:∀k,S k->k<w5.heap.size)(t:w5.heap.size<=e)(u:w5.heap.size<=g)(E:e<w6.heap.size)(F:g<w6.heap.size)(I:w6.heap.size<=i)(s:w4.heap.size<=w5.heap.size)(v:w5.heap.size<=w6.heap.size)
  (C:ed j m S c.Pg c.W c.Fs 0 0 (fun _=>false) (fun _=>0)) (D:dt j e g (List.replicate c.Sl 0)) (H:fx j i m c.Pg c.Pg (c.Pg+c.Wd)) (z:my j d c m e i none 0 0) (hf:GM w j):Av c A w (.returned (.tuple #[d,(0:Int)])) j:=by
 have G:cO<w.heap.size:=cl (o 0 0 rfl);refine ⟨d,kT ⟨d,m,e,g⟩ i S,rfl,⟨⟨d,m,e,g⟩,fun _=>0,fun _=>0,c.Pg,i,none,0,0,S,rfl,⟨p,z,by rw [List.map_const',bz];exact D,H,aS o hf id,⟨rfl,p.Qq,fun x f=>absurd f lq,fun x y f=>absurd f lq,fun x f=>absurd f lq,fun x f=>absurd f lq,fun x f=>absurd f lq⟩,bz,aF _,.inl rfl,⟨rfl,0,0,fun _=>false,⟨_,C,fun a B=>absurd B.2 eW⟩,fun q=> ?_⟩,fun k b=> ?_,?_⟩,fun k=>dX,fun _=>rfl⟩,fun k b=> ?_,hf⟩
 ·symm;rw [bl,az,az,bg];omega
 ·have J:=n k b;have K:=l k b;exact ⟨by show k≠d;omega,by show k≠e;omega,by show k≠g;omega,by omega,by omega⟩
 ·show d≠e/\d≠g/\d≠i/\e≠i/\g≠i/\d≠cO/\g≠cO/\i≠cO/\e≠cO
  omega
 ·rcases b with b|b|b|b|b
  ·have:=n k b;omega
  ·dsimp only at b;omega
  ·dsimp only at b;omega
  ·dsimp only at b;omega
  ·omega
theorem xY(hc:iz c)(hT:et w)(A:AG):Calls prog 49 #[pE c] w (Av c A w):=by
 obtain ⟨W1,aX⟩:∃W1,w.alloc (.cells #[((c.kind:Int):Int),((c.Pg:Int):Int),((c.block:Int):Int),((c.Wd:Int):Int),((c.Sl:Int):Int),((c.stack:Int):Int),((c.Ah:Int):Int),.float .f64 c.Qu] 24)=W1:=⟨_,rfl⟩;have a8:GM w W1:=by rw [<-aX];exact (GQ _ w).alloc _
 have n:aJ W1 w.heap.size (C4 c) 24:=by rw [<-aX];exact aJ.new w _ _
 have aH:=ae (wA hc W1);have aL:=ae (fun w1=>ly (c:=c) w1 hc.Yj hc.Qq hc.Yn hc.Yo hc.Xp);obtain ⟨k0,k1,k2,k3,k4,k5,k6,k7⟩:=rd n;have HC:=ae hc;have a7:Hid ((prog.info? 24).map (·.size)=some 8):=by show _=_;kernel_rfl
 have HT:=ae hT;have a5:=ae a8;have aF:=ae n;have be:=hc.Yt;have bf:=hc.Xp;clear a8 n hT hc;unfold pE at aH aL ⊢;generalize hQ:(Av c A w)=Q;have HQ:=ae hQ;clear hQ
 go_enter func49,ntmps49
 go_wp2_with fail
 refine aH.out.mono ?_;rintro e w2 ⟨rfl,aC⟩;obtain ⟨k0,k1,k2,k3,k4,k5,k6,k7⟩:=rd (aF.out.frame aC id);have aD:=ae (aF.out.frame aC id);have aK:=ae (a5.out.trans aC GN);have bg:w.heap.size<w2.heap.size:=(aD.out).lt;have az:=ae HC.out.W5;clear aH aC aX a5 aF;obtain ⟨E,aB⟩:∃E,w2.alloc (.cells (#[((c.kind:Int):Int),((c.Pg:Int):Int),((c.block:Int):Int),((c.Wd:Int):Int),((c.Sl:Int):Int),((c.stack:Int):Int),((c.Ah:Int):Int),.float .f64 c.Qu,.pointer none,.pointer none,.pointer none,.pointer none,(0:Int),(0:Int)]) 117)=E:=⟨_,rfl⟩;have a0:GM w2 E:=by rw [<-aB];exact (GQ _ w2).alloc _
 have aY:aJ E w2.heap.size (C4 c++[.pointer none,.pointer none,.pointer none,.pointer none,.int .i64 0,.int .i64 0]) 117:=by rw [<-aB];exact aJ.new w2 _ _
 have J:w2.heap.size<E.heap.size:=aY.lt;have O:=ae (fun w1 (hf:Fr (fun k=>k=w2.heap.size) E.drew w1)=>((aD.out.frame a0 id).drew).frame hf (fun e=>by omega));have ax:=ae (fun w1 (hf:GM E.drew w1)=>aY.drew.frame hf id);have ay:=ae (fun w1=>DD c.W c.Pg c.Fs (by have:=HC.out.words4;have:=HC.out.Qq;have h9:1<=c.Wd/c.Pg:=(dA (by omega)).2 (by omega);unfold Cf.Fs;generalize c.Wd/c.Pg=X at*;omega) HC.out.Zc HC.out.Qv HC.out.Qq HC.out.Yt (by have:=az.out;omega) az.out.1 HC.out.Wp w1);have a6:=ae (aK.out.trans a0 GN);clear aY a0;by_cases au:c.kind=3
 ·have l:((c.kind:Int) !=3)=false:=by rw [au];rfl
  have ap:(c.Pg:Int)+(c.Wd:Int)=(c.W:Int):=by unfold Cf.W;rw [aG au];push_cast;omega
  have am:=ae ap;clear ap au;go_wp2;rw [am.out];clear aB l;refine dw 13 12 (fun a I=>Fr (fun k=>k=w2.heap.size) a I) (fun a I=>GM a I) [.c (.pointer (some ⟨w2.heap.size,0,none⟩)),.c (.int .i64 (c.W:Int)),.c (.pointer (some ⟨w.heap.size,1,none⟩)),.c (.int .i64 (c.Pg:Int)),.c (.agg #[((c.kind:Int):Int),((c.Pg:Int):Int),((c.block:Int):Int),((c.Wd:Int):Int),((c.Sl:Int):Int),((c.stack:Int):Int),((c.Ah:Int):Int),.float .f64 c.Qu]),.c (.int .i64 (c.Fs:Int)),.p (fun v w'=>∃m S,v=(.tuple #[.pointer (some ⟨m,0,none⟩),(0:Int)])/\ed w' m S c.Pg c.W c.Fs 0 0 (fun _=>false) (fun _=>0)/\∀k,S k->E.heap.size<=k),.p (fun v w'=>∃m S,v=(.tuple #[.pointer (some ⟨m,0,none⟩),(0:Int)])/\ed w' m S c.Pg c.W c.Fs 0 0 (fun _=>false) (fun _=>0)/\∀k,S k->E.heap.size<=k),.p (fun v w'=>∃m S,v= .pointer (some ⟨m,0,none⟩)/\ed w' m S c.Pg c.W c.Fs 0 0 (fun _=>false) (fun _=>0)/\∀k,S k->E.heap.size<=k),.p (fun v _=>True),.c (.pointer (some ⟨w2.heap.size,0,none⟩)),.c (.pointer (some ⟨w2.heap.size,8,none⟩)),.p (fun v w'=>∃m S,(ed w' m S c.Pg c.W c.Fs 0 0 (fun _=>false) (fun _=>0)/\∀k,S k->E.heap.size<=k)/\aJ w' w2.heap.size (C4 c++[.pointer (some ⟨m,0,none⟩),.pointer none,.pointer none,.pointer none,.int .i64 0,.int .i64 0]) 117)] (fun j=>false) (fun _=>GQ _ _) (fun _ _ h=>h.mono GN) (fun _ _ _ f b=>f.trans b GN) (fun _ _ _ f b=>f.trans b GN) (fun _ _ _ f b=>(f.mono GN).trans b (fun _ h=> .inl h)) (fun _ _ h=>h.size) ⟨fun v w1 w2 h i=>let ⟨m,S,e,f,b⟩:=h;⟨m,S,e,f.Qa i,b⟩,fun v w1 w2 h i=>let ⟨m,S,e,f,b⟩:=h;⟨m,S,e,f.Qa i,b⟩,fun v w1 w2 h i=>let ⟨m,S,e,f,b⟩:=h;⟨m,S,e,f.Qa i,b⟩,fun _ _ _ h _=>h,fun v w1 w2 h i=>let ⟨m,S,⟨f,b⟩,Y⟩:=h;⟨m,S,⟨f.Qa i,b⟩,Y.frame i id⟩,trivial⟩ ⟨.inr (fun v w1 w2 h i=>let ⟨m,S,e,f,b⟩:=h;⟨m,S,e,f.frame i (fun k l e=>by have:=b k l;have:=J;omega),b⟩),.inr (fun v w1 w2 h i=>let ⟨m,S,e,f,b⟩:=h;⟨m,S,e,f.frame i (fun k l e=>by have:=b k l;have:=J;omega),b⟩),.inr (fun v w1 w2 h i=>let ⟨m,S,e,f,b⟩:=h;⟨m,S,e,f.frame i (fun k l e=>by have:=b k l;have:=J;omega),b⟩),.inr (fun _ _ _ h _=>h),.inl rfl,trivial⟩ ?_;intro F hF;simp only [fp,PK.val,ai,an,aa] at hF;subst hF;refine ⟨by
   refine ⟨?_,?_,?_,?_,?_,?_,?_,?_,?_,?_,?_,?_,?_,trivial⟩<;>intro vs w1 M u L hx
   all_goals try (apply oV;rotate_left;rfl;exact GQ _ _;go_simp;done)
   all_goals try (apply oV;rotate_left;rfl;exact GQ _ _;have r:=O.out w1 M;have k1:=r.cell 1 rfl;go_simp;done)
   ·have r:=O.out w1 M;refine ba (.agg #[((c.kind:Int):Int),((c.Pg:Int):Int),((c.block:Int):Int),((c.Wd:Int):Int),((c.Sl:Int):Int),((c.stack:Int):Int),((c.Ah:Int):Int),.float .f64 c.Qu]) ?_ ⟨rfl,GQ _ _,fun h=>nomatch h⟩;exact jf rfl w.heap.size rfl 24 _ (0,0) _ r underlying24 rfl a7.out
   ·refine bm 119 #[.agg #[((c.kind:Int):Int),((c.Pg:Int):Int),((c.block:Int):Int),((c.Wd:Int):Int),((c.Sl:Int):Int),((c.stack:Int):Int),((c.Ah:Int):Int),.float .f64 c.Qu]] (by go_simp) ((aL.out w1).mono ?_);rintro e w5 ⟨rfl,hf⟩;exact ⟨_,rfl,rfl,hf,fun h=>nomatch h⟩
   ·have P:=u (by kernel_rfl);refine bm 118 #[((c.W:Int):Int),((c.Pg:Int):Int),((c.Fs:Int):Int)] (by go_simp) ((ay.out w1).mono ?_);rintro e w5 ⟨m,S,rfl,f,b,Y⟩;exact ⟨_,rfl,⟨m,S,rfl,f,fun k l=>aZ P.size (b k l)⟩,Y,fun h=>nomatch h⟩
   ·have h6:=L 6 (by kernel_rfl);obtain ⟨m,S,G,q,o⟩:=h6;refine ba (.tuple #[m,(0:Int)]) (by go_simp) ⟨⟨m,S,rfl,q,o⟩,GQ _ _,fun h=>nomatch h⟩
   ·have h7:=L 7 (by kernel_rfl);obtain ⟨m,S,G,q,o⟩:=h7;refine ba (.pointer (some ⟨m,0,none⟩)) (by go_simp) ⟨⟨m,S,rfl,q,o⟩,GQ _ _,fun h=>nomatch h⟩
   ·have h7:=L 7 (by kernel_rfl);obtain ⟨m,S,G,q,o⟩:=h7;refine ba (.int .i64 0) (by go_simp) ⟨trivial,GQ _ _,fun h=>nomatch h⟩
   ·have h8:=L 8 (by kernel_rfl);obtain ⟨m,S,G,q,o⟩:=h8;have P:=u (by kernel_rfl);have n:=ax.out w1 P;have k8:=aJ.cell n 8 rfl;have f8:=aJ.free n 8;have g:=(GQ (fun k=>k=w2.heap.size) w1).setCell ⟨w2.heap.size,8,none⟩ (.inl rfl) (.pointer (some ⟨m,0,none⟩));refine ff (w':=w1.setCell ⟨w2.heap.size,8,none⟩ (.pointer (some ⟨m,0,none⟩))) (by go_simp) ⟨⟨m,S,⟨q.frame g (fun k l e=>by have h9:k=w2.heap.size:=e;have:=o k l;have:=J;omega),o⟩,n.set 8 _⟩,g,fun h=>nomatch h⟩
   ,fun vs w1 M hp hx=> ?_⟩
  obtain ⟨g6,g7,g8,g9,U,_⟩:=hp;obtain ⟨m,S,⟨G,q⟩,o⟩:=U;clear g6 g7 g8 g9 hx;simp only [aj,ao];have ar:Fr (fun k=>k=w2.heap.size) E w1:=((GQ (fun k=>k=w2.heap.size) E).drew).trans M (fun _ h=> .inl h);have z:=O.out w1 M;have k4:=z.cell 4 rfl;have al:=ae (t8 c.Sl HC.out.Yp HC.out.slots2 w1);have H8:=ae (ag G (ag q (ag o (ag ar z))));clear G q o ar z M O ax ay am k0 k1 k2 k3 k5 k6 k7;go_wp2_with fail
  refine al.out.mono ?_;rintro e w5 ⟨rb,rg,rfl,r1,r2,r3,T⟩;have K:=H8.out.2.2.1.frame T id;have k9:=aJ.cell K 9 rfl;have f9:=aJ.free K 9;obtain ⟨W5,Z⟩:∃W5,w5.setCell ⟨w2.heap.size,9,none⟩ (.pointer (some ⟨rb,0,none⟩))=W5:=⟨_,rfl⟩;have g:Fr (fun k=>k=w2.heap.size) w5 W5:=by rw [<-Z];exact (GQ (fun k=>k=w2.heap.size) w5).setCell ⟨w2.heap.size,9,none⟩ (.inl rfl) _
  have aq:aJ W5 w2.heap.size (C4 c++[.pointer (some ⟨m,0,none⟩),.pointer (some ⟨rb,0,none⟩),.pointer none,.pointer none,.int .i64 0,.int .i64 0]) 117:=by rw [<-Z];exact K.set 9 _
  obtain ⟨g1,g2,g3,g4,g5⟩:=H8.out;have N:=g4.size;have af:=T.size;have ah:=g.size;have D:=(g1.Qa T).frame g (fun k l e=>by have h9:k=w2.heap.size:=e;have:=g2 k l;omega);have t:=r1.frame g (fun e=>by omega) (fun e=>by omega);have R:=(g5.frame T id).frame g (fun e=>by omega);have s:w2.heap.size<W5.heap.size:=by omega
  have x:=ae (fun w1 (hf:Fr (fun k=>k=w2.heap.size) W5.drew w1)=>R.drew.frame hf (fun e=>by omega));have y:=ae (fun w1 (hf:GM W5.drew w1)=>aq.drew.frame hf id);have ak:=ae (fun w1 (hf:GM W5.drew w1)=>tz (D.Qa (((GQ (fun _=>False) W5).drew).trans hf GN)) c.Pg (c.Pg+c.Wd) (by omega) (by have:=az.out;omega));have av:((c.Pg+c.Wd:Nat):Int)=(c.Pg:Int)+(c.Wd:Int):=by push_cast;rfl
  have H9:=ae (ag g1 (ag g2 (ag g4 (ag r1 (ag r2 (ag r3 (ag T (ag g (ag D (ag t (ag N (ag af ah))))))))))));clear g1 g2 g3 g4 g5 r1 r2 r3 T g D t N af ah aq K R al H8 k4;go_wp2;clear Z k9 f9;refine dw 19 18 (fun a I=>Fr (fun k=>k=w2.heap.size) a I) (fun a I=>GM a I) [.c (.pointer (some ⟨w2.heap.size,0,none⟩)),.c (.pointer (some ⟨w2.heap.size,0,none⟩)),.c (.pointer (some ⟨w2.heap.size,0,none⟩)),.c (.pointer (some ⟨w2.heap.size,8,none⟩)),.c m,.c (.pointer (some ⟨w.heap.size,1,none⟩)),.c (.int .i64 (c.Pg:Int)),.c (.pointer (some ⟨w.heap.size,1,none⟩)),.c (.int .i64 (c.Pg:Int)),.c (.pointer (some ⟨w.heap.size,3,none⟩)),.c (.int .i64 (c.Wd:Int)),.c (.int .i64 ((c.Pg+c.Wd:Nat):Int)),.p (fun v w'=>∃d,v=(.tuple #[.pointer (some ⟨d,0,none⟩),(0:Int)])/\fx w' d m c.Pg c.Pg (c.Pg+c.Wd)/\W5.heap.size<=d),.p (fun v w'=>∃d,v=(.tuple #[.pointer (some ⟨d,0,none⟩),(0:Int)])/\fx w' d m c.Pg c.Pg (c.Pg+c.Wd)/\W5.heap.size<=d),.p (fun v w'=>∃d,v= .pointer (some ⟨d,0,none⟩)/\fx w' d m c.Pg c.Pg (c.Pg+c.Wd)/\W5.heap.size<=d),.p (fun v _=>True),.c (.pointer (some ⟨w2.heap.size,0,none⟩)),.c (.pointer (some ⟨w2.heap.size,10,none⟩)),.p (fun v w'=>∃d,(fx w' d m c.Pg c.Pg (c.Pg+c.Wd)/\W5.heap.size<=d)/\my w' w2.heap.size c m rb d none 0 0)] (fun j=>false) (fun _=>GQ _ _) (fun _ _ h=>h.mono GN) (fun _ _ _ f b=>f.trans b GN) (fun _ _ _ f b=>f.trans b GN) (fun _ _ _ f b=>(f.mono GN).trans b (fun _ h=> .inl h)) (fun _ _ h=>h.size) ⟨fun v w1 w2 h i=>let ⟨d,e,f,b⟩:=h;⟨d,e,aJ.frame f i id,b⟩,fun v w1 w2 h i=>let ⟨d,e,f,b⟩:=h;⟨d,e,aJ.frame f i id,b⟩,fun v w1 w2 h i=>let ⟨d,e,f,b⟩:=h;⟨d,e,aJ.frame f i id,b⟩,fun _ _ _ h _=>h,fun v w1 w2 h i=>let ⟨d,⟨f,b⟩,Y⟩:=h;⟨d,⟨aJ.frame f i id,b⟩,aJ.frame Y i id⟩,trivial⟩ ⟨.inr (fun v w1 w2 h i=>let ⟨d,e,f,b⟩:=h;⟨d,e,aJ.frame f i (fun e=>by have:=s;omega),b⟩),.inr (fun v w1 w2 h i=>let ⟨d,e,f,b⟩:=h;⟨d,e,aJ.frame f i (fun e=>by have:=s;omega),b⟩),.inr (fun v w1 w2 h i=>let ⟨d,e,f,b⟩:=h;⟨d,e,aJ.frame f i (fun e=>by have:=s;omega),b⟩),.inr (fun _ _ _ h _=>h),.inl rfl,trivial⟩ ?_;intro F hF;simp only [fp,PK.val,ai,an,aa] at hF;subst hF;refine ⟨by
   refine ⟨?_,?_,?_,?_,?_,?_,?_,?_,?_,?_,?_,?_,?_,?_,?_,?_,?_,?_,?_,trivial⟩<;>intro vs w1 M u L hx
   all_goals try (apply oV;rotate_left;rfl;exact GQ _ _;go_simp;done)
   all_goals try (apply oV;rotate_left;rfl;exact GQ _ _;have r:=x.out w1 M;have k1:=r.cell 1 rfl;go_simp;done)
   all_goals try (apply oV;rotate_left;rfl;exact GQ _ _;have r:=x.out w1 M;have k3:=r.cell 3 rfl;go_simp;done)
   all_goals try (apply oV;rotate_left;rfl;exact GQ _ _;have k8:=aJ.cell (y.out w1 (u (by kernel_rfl))) 8 rfl;go_simp;done)
   all_goals try (apply oV;rotate_left;rfl;exact GQ _ _;(have a9:IntKind.i64.wrap ((c.Pg:Int)+(c.Wd:Int))=(c.Pg:Int)+(c.Wd:Int):=by rw [IntKind.wrap_i64];omega);go_simp;done)
   ·have P:=u (by kernel_rfl);refine bm 121 #[m,((c.Pg:Int):Int),(((c.Pg+c.Wd:Nat):Int):Int)] (by go_simp) ((ak.out w1 P).mono ?_);rintro e w5 ⟨d,rfl,f,b,Y⟩;exact ⟨_,rfl,⟨d,rfl,f,aZ P.size b⟩,Y,fun h=>nomatch h⟩
   ·have aR:=L 12 (by kernel_rfl);obtain ⟨d,G,q,o⟩:=aR;refine ba (.tuple #[d,(0:Int)]) (by go_simp) ⟨⟨d,rfl,q,o⟩,GQ _ _,fun h=>nomatch h⟩
   ·have V:=L 13 (by kernel_rfl);obtain ⟨d,G,q,o⟩:=V;refine ba (.pointer (some ⟨d,0,none⟩)) (by go_simp) ⟨⟨d,rfl,q,o⟩,GQ _ _,fun h=>nomatch h⟩
   ·have V:=L 13 (by kernel_rfl);obtain ⟨d,G,q,o⟩:=V;refine ba (.int .i64 0) (by go_simp) ⟨trivial,GQ _ _,fun h=>nomatch h⟩
   ·have aT:=L 14 (by kernel_rfl);obtain ⟨d,G,q,o⟩:=aT;have P:=u (by kernel_rfl);have n:=y.out w1 P;have bc:=aJ.cell n 10 rfl;have bb:=aJ.free n 10;have g:=(GQ (fun k=>k=w2.heap.size) w1).setCell ⟨w2.heap.size,10,none⟩ (.inl rfl) (.pointer (some ⟨d,0,none⟩));refine ff (w':=w1.setCell ⟨w2.heap.size,10,none⟩ (.pointer (some ⟨d,0,none⟩))) (by go_simp) ⟨⟨d,⟨aJ.frame q g (fun e=>by have h9:d=w2.heap.size:=e;have:=s;omega),o⟩,n.set 10 _⟩,g,fun h=>nomatch h⟩
   ,fun bd w6 aw hp hx=> ?_⟩
  obtain ⟨U,aM,aN,aP,aQ,_⟩:=hp;obtain ⟨d,⟨b1,I⟩,b3⟩:=aQ;clear U aM aN aP hx;simp only [aj,ao];have C:Av c A w (.returned (.tuple #[w2.heap.size,(0:Int)])) w6:=by
   obtain ⟨g1,g2,g4,r1,r2,r3,T,g,D,t,N,af,ah⟩:=H9.out;have B:Fr (fun k=>k=w2.heap.size) W5 w6:=((GQ (fun k=>k=w2.heap.size) W5).drew).trans aw (fun _ h=> .inl h);have a4:=aK.out.size;have ad:GM w w6:=(((a6.out.trans g4 (fun k l=> .inr (by have h9:k=w2.heap.size:=l;omega))).trans T GN).trans g (fun k l=> .inr (by have h9:k=w2.heap.size:=l;omega))).trans B (fun k l=> .inr (by have h9:k=w2.heap.size:=l;omega));refine sq (w4:=E) (w5:=w1) (w6:=W5) HC.out HT.out g2 a4 J (fun k l=>(cw _ _ _ _ _ _ _).lt (fun _=>0) S w1 ⟨_,g1,fun _ _=>rfl⟩ k l) r2 r3 t.Qd.lt t.row.lt I N (by omega) (D.frame B (fun k l e=>by have h9:k=w2.heap.size:=e;have:=g2 k l;omega)) (t.frame B (fun e=>by omega) (fun e=>by omega)) b1 b3 ad
  rw [HQ.out] at C;have H:=ae C;clear C b1 I b3 H9 aw x y ak av;go_wp2;exact H.out
 ·have l:((c.kind:Int) !=3)=true:=by rw [iG];omega
  have ap:(c.Pg:Int)+(c.Wd:Int)+(c.Wd:Int)=(c.W:Int):=by unfold Cf.W;rw [aE au];push_cast;omega
  have am:=ae ap;clear ap au;go_wp2;rw [am.out];clear aB l;refine dw 13 12 (fun a I=>Fr (fun k=>k=w2.heap.size) a I) (fun a I=>GM a I) [.c (.pointer (some ⟨w2.heap.size,0,none⟩)),.c (.int .i64 (c.W:Int)),.c (.pointer (some ⟨w.heap.size,1,none⟩)),.c (.int .i64 (c.Pg:Int)),.c (.agg #[((c.kind:Int):Int),((c.Pg:Int):Int),((c.block:Int):Int),((c.Wd:Int):Int),((c.Sl:Int):Int),((c.stack:Int):Int),((c.Ah:Int):Int),.float .f64 c.Qu]),.c (.int .i64 (c.Fs:Int)),.p (fun v w'=>∃m S,v=(.tuple #[.pointer (some ⟨m,0,none⟩),(0:Int)])/\ed w' m S c.Pg c.W c.Fs 0 0 (fun _=>false) (fun _=>0)/\∀k,S k->E.heap.size<=k),.p (fun v w'=>∃m S,v=(.tuple #[.pointer (some ⟨m,0,none⟩),(0:Int)])/\ed w' m S c.Pg c.W c.Fs 0 0 (fun _=>false) (fun _=>0)/\∀k,S k->E.heap.size<=k),.p (fun v w'=>∃m S,v= .pointer (some ⟨m,0,none⟩)/\ed w' m S c.Pg c.W c.Fs 0 0 (fun _=>false) (fun _=>0)/\∀k,S k->E.heap.size<=k),.p (fun v _=>True),.c (.pointer (some ⟨w2.heap.size,0,none⟩)),.c (.pointer (some ⟨w2.heap.size,8,none⟩)),.p (fun v w'=>∃m S,(ed w' m S c.Pg c.W c.Fs 0 0 (fun _=>false) (fun _=>0)/\∀k,S k->E.heap.size<=k)/\aJ w' w2.heap.size (C4 c++[.pointer (some ⟨m,0,none⟩),.pointer none,.pointer none,.pointer none,.int .i64 0,.int .i64 0]) 117)] (fun j=>false) (fun _=>GQ _ _) (fun _ _ h=>h.mono GN) (fun _ _ _ f b=>f.trans b GN) (fun _ _ _ f b=>f.trans b GN) (fun _ _ _ f b=>(f.mono GN).trans b (fun _ h=> .inl h)) (fun _ _ h=>h.size) ⟨fun v w1 w2 h i=>let ⟨m,S,e,f,b⟩:=h;⟨m,S,e,f.Qa i,b⟩,fun v w1 w2 h i=>let ⟨m,S,e,f,b⟩:=h;⟨m,S,e,f.Qa i,b⟩,fun v w1 w2 h i=>let ⟨m,S,e,f,b⟩:=h;⟨m,S,e,f.Qa i,b⟩,fun _ _ _ h _=>h,fun v w1 w2 h i=>let ⟨m,S,⟨f,b⟩,Y⟩:=h;⟨m,S,⟨f.Qa i,b⟩,Y.frame i id⟩,trivial⟩ ⟨.inr (fun v w1 w2 h i=>let ⟨m,S,e,f,b⟩:=h;⟨m,S,e,f.frame i (fun k l e=>by have:=b k l;have:=J;omega),b⟩),.inr (fun v w1 w2 h i=>let ⟨m,S,e,f,b⟩:=h;⟨m,S,e,f.frame i (fun k l e=>by have:=b k l;have:=J;omega),b⟩),.inr (fun v w1 w2 h i=>let ⟨m,S,e,f,b⟩:=h;⟨m,S,e,f.frame i (fun k l e=>by have:=b k l;have:=J;omega),b⟩),.inr (fun _ _ _ h _=>h),.inl rfl,trivial⟩ ?_;intro F hF;simp only [fp,PK.val,ai,an,aa] at hF;subst hF;refine ⟨by
   refine ⟨?_,?_,?_,?_,?_,?_,?_,?_,?_,?_,?_,?_,?_,trivial⟩<;>intro vs w1 M u L hx
   all_goals try (apply oV;rotate_left;rfl;exact GQ _ _;go_simp;done)
   all_goals try (apply oV;rotate_left;rfl;exact GQ _ _;have r:=O.out w1 M;have k1:=r.cell 1 rfl;go_simp;done)
   ·have r:=O.out w1 M;refine ba (.agg #[((c.kind:Int):Int),((c.Pg:Int):Int),((c.block:Int):Int),((c.Wd:Int):Int),((c.Sl:Int):Int),((c.stack:Int):Int),((c.Ah:Int):Int),.float .f64 c.Qu]) ?_ ⟨rfl,GQ _ _,fun h=>nomatch h⟩;exact jf rfl w.heap.size rfl 24 _ (0,0) _ r underlying24 rfl a7.out
   ·refine bm 119 #[.agg #[((c.kind:Int):Int),((c.Pg:Int):Int),((c.block:Int):Int),((c.Wd:Int):Int),((c.Sl:Int):Int),((c.stack:Int):Int),((c.Ah:Int):Int),.float .f64 c.Qu]] (by go_simp) ((aL.out w1).mono ?_);rintro e w5 ⟨rfl,hf⟩;exact ⟨_,rfl,rfl,hf,fun h=>nomatch h⟩
   ·have P:=u (by kernel_rfl);refine bm 118 #[((c.W:Int):Int),((c.Pg:Int):Int),((c.Fs:Int):Int)] (by go_simp) ((ay.out w1).mono ?_);rintro e w5 ⟨m,S,rfl,f,b,Y⟩;exact ⟨_,rfl,⟨m,S,rfl,f,fun k l=>aZ P.size (b k l)⟩,Y,fun h=>nomatch h⟩
   ·have h6:=L 6 (by kernel_rfl);obtain ⟨m,S,G,q,o⟩:=h6;refine ba (.tuple #[m,(0:Int)]) (by go_simp) ⟨⟨m,S,rfl,q,o⟩,GQ _ _,fun h=>nomatch h⟩
   ·have h7:=L 7 (by kernel_rfl);obtain ⟨m,S,G,q,o⟩:=h7;refine ba (.pointer (some ⟨m,0,none⟩)) (by go_simp) ⟨⟨m,S,rfl,q,o⟩,GQ _ _,fun h=>nomatch h⟩
   ·have h7:=L 7 (by kernel_rfl);obtain ⟨m,S,G,q,o⟩:=h7;refine ba (.int .i64 0) (by go_simp) ⟨trivial,GQ _ _,fun h=>nomatch h⟩
   ·have h8:=L 8 (by kernel_rfl);obtain ⟨m,S,G,q,o⟩:=h8;have P:=u (by kernel_rfl);have n:=ax.out w1 P;have k8:=aJ.cell n 8 rfl;have f8:=aJ.free n 8;have g:=(GQ (fun k=>k=w2.heap.size) w1).setCell ⟨w2.heap.size,8,none⟩ (.inl rfl) (.pointer (some ⟨m,0,none⟩));refine ff (w':=w1.setCell ⟨w2.heap.size,8,none⟩ (.pointer (some ⟨m,0,none⟩))) (by go_simp) ⟨⟨m,S,⟨q.frame g (fun k l e=>by have h9:k=w2.heap.size:=e;have:=o k l;have:=J;omega),o⟩,n.set 8 _⟩,g,fun h=>nomatch h⟩
   ,fun vs w1 M hp hx=> ?_⟩
  obtain ⟨g6,g7,g8,g9,U,_⟩:=hp;obtain ⟨m,S,⟨G,q⟩,o⟩:=U;clear g6 g7 g8 g9 hx;simp only [aj,ao];have ar:Fr (fun k=>k=w2.heap.size) E w1:=((GQ (fun k=>k=w2.heap.size) E).drew).trans M (fun _ h=> .inl h);have z:=O.out w1 M;have k4:=z.cell 4 rfl;have al:=ae (t8 c.Sl HC.out.Yp HC.out.slots2 w1);have H8:=ae (ag G (ag q (ag o (ag ar z))));clear G q o ar z M O ax ay am k0 k1 k2 k3 k5 k6 k7;go_wp2_with fail
  refine al.out.mono ?_;rintro e w5 ⟨rb,rg,rfl,r1,r2,r3,T⟩;have K:=H8.out.2.2.1.frame T id;have k9:=aJ.cell K 9 rfl;have f9:=aJ.free K 9;obtain ⟨W5,Z⟩:∃W5,w5.setCell ⟨w2.heap.size,9,none⟩ (.pointer (some ⟨rb,0,none⟩))=W5:=⟨_,rfl⟩;have g:Fr (fun k=>k=w2.heap.size) w5 W5:=by rw [<-Z];exact (GQ (fun k=>k=w2.heap.size) w5).setCell ⟨w2.heap.size,9,none⟩ (.inl rfl) _
  have aq:aJ W5 w2.heap.size (C4 c++[.pointer (some ⟨m,0,none⟩),.pointer (some ⟨rb,0,none⟩),.pointer none,.pointer none,.int .i64 0,.int .i64 0]) 117:=by rw [<-Z];exact K.set 9 _
  obtain ⟨g1,g2,g3,g4,g5⟩:=H8.out;have N:=g4.size;have af:=T.size;have ah:=g.size;have D:=(g1.Qa T).frame g (fun k l e=>by have h9:k=w2.heap.size:=e;have:=g2 k l;omega);have t:=r1.frame g (fun e=>by omega) (fun e=>by omega);have R:=(g5.frame T id).frame g (fun e=>by omega);have s:w2.heap.size<W5.heap.size:=by omega
  have x:=ae (fun w1 (hf:Fr (fun k=>k=w2.heap.size) W5.drew w1)=>R.drew.frame hf (fun e=>by omega));have y:=ae (fun w1 (hf:GM W5.drew w1)=>aq.drew.frame hf id);have ak:=ae (fun w1 (hf:GM W5.drew w1)=>tz (D.Qa (((GQ (fun _=>False) W5).drew).trans hf GN)) c.Pg (c.Pg+c.Wd) (by omega) (by have:=az.out;omega));have av:((c.Pg+c.Wd:Nat):Int)=(c.Pg:Int)+(c.Wd:Int):=by push_cast;rfl
  have H9:=ae (ag g1 (ag g2 (ag g4 (ag r1 (ag r2 (ag r3 (ag T (ag g (ag D (ag t (ag N (ag af ah))))))))))));clear g1 g2 g3 g4 g5 r1 r2 r3 T g D t N af ah aq K R al H8 k4;go_wp2;clear Z k9 f9;refine dw 19 18 (fun a I=>Fr (fun k=>k=w2.heap.size) a I) (fun a I=>GM a I) [.c (.pointer (some ⟨w2.heap.size,0,none⟩)),.c (.pointer (some ⟨w2.heap.size,0,none⟩)),.c (.pointer (some ⟨w2.heap.size,0,none⟩)),.c (.pointer (some ⟨w2.heap.size,8,none⟩)),.c m,.c (.pointer (some ⟨w.heap.size,1,none⟩)),.c (.int .i64 (c.Pg:Int)),.c (.pointer (some ⟨w.heap.size,1,none⟩)),.c (.int .i64 (c.Pg:Int)),.c (.pointer (some ⟨w.heap.size,3,none⟩)),.c (.int .i64 (c.Wd:Int)),.c (.int .i64 ((c.Pg+c.Wd:Nat):Int)),.p (fun v w'=>∃d,v=(.tuple #[.pointer (some ⟨d,0,none⟩),(0:Int)])/\fx w' d m c.Pg c.Pg (c.Pg+c.Wd)/\W5.heap.size<=d),.p (fun v w'=>∃d,v=(.tuple #[.pointer (some ⟨d,0,none⟩),(0:Int)])/\fx w' d m c.Pg c.Pg (c.Pg+c.Wd)/\W5.heap.size<=d),.p (fun v w'=>∃d,v= .pointer (some ⟨d,0,none⟩)/\fx w' d m c.Pg c.Pg (c.Pg+c.Wd)/\W5.heap.size<=d),.p (fun v _=>True),.c (.pointer (some ⟨w2.heap.size,0,none⟩)),.c (.pointer (some ⟨w2.heap.size,10,none⟩)),.p (fun v w'=>∃d,(fx w' d m c.Pg c.Pg (c.Pg+c.Wd)/\W5.heap.size<=d)/\my w' w2.heap.size c m rb d none 0 0)] (fun j=>false) (fun _=>GQ _ _) (fun _ _ h=>h.mono GN) (fun _ _ _ f b=>f.trans b GN) (fun _ _ _ f b=>f.trans b GN) (fun _ _ _ f b=>(f.mono GN).trans b (fun _ h=> .inl h)) (fun _ _ h=>h.size) ⟨fun v w1 w2 h i=>let ⟨d,e,f,b⟩:=h;⟨d,e,aJ.frame f i id,b⟩,fun v w1 w2 h i=>let ⟨d,e,f,b⟩:=h;⟨d,e,aJ.frame f i id,b⟩,fun v w1 w2 h i=>let ⟨d,e,f,b⟩:=h;⟨d,e,aJ.frame f i id,b⟩,fun _ _ _ h _=>h,fun v w1 w2 h i=>let ⟨d,⟨f,b⟩,Y⟩:=h;⟨d,⟨aJ.frame f i id,b⟩,aJ.frame Y i id⟩,trivial⟩ ⟨.inr (fun v w1 w2 h i=>let ⟨d,e,f,b⟩:=h;⟨d,e,aJ.frame f i (fun e=>by have:=s;omega),b⟩),.inr (fun v w1 w2 h i=>let ⟨d,e,f,b⟩:=h;⟨d,e,aJ.frame f i (fun e=>by have:=s;omega),b⟩),.inr (fun v w1 w2 h i=>let ⟨d,e,f,b⟩:=h;⟨d,e,aJ.frame f i (fun e=>by have:=s;omega),b⟩),.inr (fun _ _ _ h _=>h),.inl rfl,trivial⟩ ?_;intro F hF;simp only [fp,PK.val,ai,an,aa] at hF;subst hF;refine ⟨by
   refine ⟨?_,?_,?_,?_,?_,?_,?_,?_,?_,?_,?_,?_,?_,?_,?_,?_,?_,?_,?_,trivial⟩<;>intro vs w1 M u L hx
   all_goals try (apply oV;rotate_left;rfl;exact GQ _ _;go_simp;done)
   all_goals try (apply oV;rotate_left;rfl;exact GQ _ _;have r:=x.out w1 M;have k1:=r.cell 1 rfl;go_simp;done)
   all_goals try (apply oV;rotate_left;rfl;exact GQ _ _;have r:=x.out w1 M;have k3:=r.cell 3 rfl;go_simp;done)
   all_goals try (apply oV;rotate_left;rfl;exact GQ _ _;have k8:=aJ.cell (y.out w1 (u (by kernel_rfl))) 8 rfl;go_simp;done)
   all_goals try (apply oV;rotate_left;rfl;exact GQ _ _;(have a9:IntKind.i64.wrap ((c.Pg:Int)+(c.Wd:Int))=(c.Pg:Int)+(c.Wd:Int):=by rw [IntKind.wrap_i64];omega);go_simp;done)
   ·have P:=u (by kernel_rfl);refine bm 121 #[m,((c.Pg:Int):Int),(((c.Pg+c.Wd:Nat):Int):Int)] (by go_simp) ((ak.out w1 P).mono ?_);rintro e w5 ⟨d,rfl,f,b,Y⟩;exact ⟨_,rfl,⟨d,rfl,f,aZ P.size b⟩,Y,fun h=>nomatch h⟩
   ·have aR:=L 12 (by kernel_rfl);obtain ⟨d,G,q,o⟩:=aR;refine ba (.tuple #[d,(0:Int)]) (by go_simp) ⟨⟨d,rfl,q,o⟩,GQ _ _,fun h=>nomatch h⟩
   ·have V:=L 13 (by kernel_rfl);obtain ⟨d,G,q,o⟩:=V;refine ba (.pointer (some ⟨d,0,none⟩)) (by go_simp) ⟨⟨d,rfl,q,o⟩,GQ _ _,fun h=>nomatch h⟩
   ·have V:=L 13 (by kernel_rfl);obtain ⟨d,G,q,o⟩:=V;refine ba (.int .i64 0) (by go_simp) ⟨trivial,GQ _ _,fun h=>nomatch h⟩
   ·have aT:=L 14 (by kernel_rfl);obtain ⟨d,G,q,o⟩:=aT;have P:=u (by kernel_rfl);have n:=y.out w1 P;have bc:=aJ.cell n 10 rfl;have bb:=aJ.free n 10;have g:=(GQ (fun k=>k=w2.heap.size) w1).setCell ⟨w2.heap.size,10,none⟩ (.inl rfl) (.pointer (some ⟨d,0,none⟩));refine ff (w':=w1.setCell ⟨w2.heap.size,10,none⟩ (.pointer (some ⟨d,0,none⟩))) (by go_simp) ⟨⟨d,⟨aJ.frame q g (fun e=>by have h9:d=w2.heap.size:=e;have:=s;omega),o⟩,n.set 10 _⟩,g,fun h=>nomatch h⟩
   ,fun bd w6 aw hp hx=> ?_⟩
  obtain ⟨U,aM,aN,aP,aQ,_⟩:=hp;obtain ⟨d,⟨b1,I⟩,b3⟩:=aQ;clear U aM aN aP hx;simp only [aj,ao];have C:Av c A w (.returned (.tuple #[w2.heap.size,(0:Int)])) w6:=by
   obtain ⟨g1,g2,g4,r1,r2,r3,T,g,D,t,N,af,ah⟩:=H9.out;have B:Fr (fun k=>k=w2.heap.size) W5 w6:=((GQ (fun k=>k=w2.heap.size) W5).drew).trans aw (fun _ h=> .inl h);have a4:=aK.out.size;have ad:GM w w6:=(((a6.out.trans g4 (fun k l=> .inr (by have h9:k=w2.heap.size:=l;omega))).trans T GN).trans g (fun k l=> .inr (by have h9:k=w2.heap.size:=l;omega))).trans B (fun k l=> .inr (by have h9:k=w2.heap.size:=l;omega));refine sq (w4:=E) (w5:=w1) (w6:=W5) HC.out HT.out g2 a4 J (fun k l=>(cw _ _ _ _ _ _ _).lt (fun _=>0) S w1 ⟨_,g1,fun _ _=>rfl⟩ k l) r2 r3 t.Qd.lt t.row.lt I N (by omega) (D.frame B (fun k l e=>by have h9:k=w2.heap.size:=e;have:=g2 k l;omega)) (t.frame B (fun e=>by omega) (fun e=>by omega)) b1 b3 ad
  rw [HQ.out] at C;have H:=ae C;clear C b1 I b3 H9 aw x y ak av;go_wp2;exact H.out
end
section
variable{v0 v1 v2 v3 v4 v5 v6:Int}{tr:Nat}
theorem pV{w:World}{b:Nat}{t:TypeId}(h:aJ w b [(v0:Int),(v1:Int),(v2:Int),(v3:Int),(v4:Int),(v5:Int),(v6:Int),.float .f64 tr] t):w.cell? b=some (v0:Int)/\w.cell? ⟨b,1,none⟩=some (v1:Int)/\w.cell? ⟨b,2,none⟩=some (v2:Int)/\w.cell? ⟨b,3,none⟩=some (v3:Int)/\w.cell? ⟨b,4,none⟩=some (v4:Int)/\w.cell? ⟨b,5,none⟩=some (v5:Int)/\w.cell? ⟨b,6,none⟩=some (v6:Int)/\w.cell? ⟨b,7,none⟩=some (.float .f64 tr):=
 ⟨h.cell 0 rfl,h.cell 1 rfl,h.cell 2 rfl,h.cell 3 rfl,h.cell 4 rfl,h.cell 5 rfl,h.cell 6 rfl,h.cell 7 rfl⟩
theorem DL(m:v1<=9223372036854775807)(n:v2<=9223372036854775807)(o:v3<=9223372036854775807)(k:¬∃c,iz c/\km v0 v1 v2 v3 v4 v5 v6 tr=pE c)(w:World):Calls prog 49 #[km v0 v1 v2 v3 v4 v5 v6 tr] w fun e w'=>e= .returned (.tuple #[.pointer none,(22:Int)])/\GM w w':=by
 obtain ⟨W1,b⟩:∃W1,w.alloc (.cells #[(v0:Int),(v1:Int),(v2:Int),(v3:Int),(v4:Int),(v5:Int),(v6:Int),.float .f64 tr] 24)=W1:=⟨_,rfl⟩;have i:GM w W1:=by rw [<-b];exact (GQ _ w).alloc _
 have g:aJ W1 w.heap.size [(v0:Int),(v1:Int),(v2:Int),(v3:Int),(v4:Int),(v5:Int),(v6:Int),.float .f64 tr] 24:=by rw [<-b];exact aJ.new w _ _
 obtain ⟨p,q,r,s,t,u,v,x⟩:=pV g;have a:=ae (zS m n o k W1);have d:=ae i;clear m n o k i g;unfold km at a ⊢;have l:Hid (∀w',GM w w'->(fun e w'=>e=Ending.returned (.tuple #[.pointer none,(22:Int)])/\GM w w') (.returned (.tuple #[.pointer none,(22:Int)])) w'):=ae (fun w' h=>⟨rfl,h⟩);generalize (fun e w'=>e=Ending.returned (.tuple #[.pointer none,(22:Int)])/\GM w w')=Q at*
 go_enter func49,ntmps49
 go_wp2_with fail
 refine a.out.mono ?_;rintro e w2 ⟨rfl,j⟩;have f:=ae (d.out.trans j GN);clear a j d b p q r s t u v x;have H:=ae (l.out w2 f.out);clear l f;go_wp2;exact H.out
end
def jL(k:Nat):Cf:=⟨k,4,4,16,3,2,1,4607182418800017408⟩
theorem Di{k:Nat}(a:1<=k)(b:k<=3):iz (jL k):=by
 refine ⟨?_,?_,?_,?_,?_,?_,?_,?_,?_,?_,?_,?_,?_,?_,?_,?_,?_⟩
 ·show k=1\/k=2\/k=3;omega
 ·exact (iD _).2 ⟨2,by decide,rfl⟩
 ·show 1<=4;omega
 ·show 4<=256;omega
 ·exact (iD _).2 ⟨2,by decide,rfl⟩
 ·show 1<=4;omega
 ·show 4<=1024;omega
 ·exact (iD _).2 ⟨4,by decide,rfl⟩
 ·show 16<=16;omega
 ·show 16<=131072;omega
 ·show 4<=16;omega
 ·show 1<=3;omega
 ·show 3<=64;omega
 ·show 1<=2;omega
 ·show 2<=4096;omega
 ·show 1<=16;omega
 ·obtain rfl|rfl|rfl:k=1\/k=2\/k=3:=by omega
  ·decide
  ·decide
  ·decide
theorem zO(k:Nat)(w:World):Calls prog 59 #[(k:Int)] w fun e w'=>e= .returned (pE (jL k))/\GM w w':=by
 have c:pE (jL k)= .agg #[(k:Int),(4:Int),(4:Int),(16:Int),(3:Int),(2:Int),(1:Int),.float .f64 4607182418800017408]:=rfl;rw [c];clear c;have a:Hid ((prog.info? 24).map (·.size)=some 8):=by show _=_;kernel_rfl
 have d:Hid ((#[(k:Int),(4:Int),(4:Int),(16:Int),(3:Int),(2:Int),(1:Int),.float .f64 4607182418800017408]:Array Value).all (·.oneCell')=true):=ae (Go.all_oneCell_toArray (cs:=[(k:Int),(4:Int),(4:Int),(16:Int),(3:Int),(2:Int),(1:Int),.float .f64 4607182418800017408]) (fun v c=>by simp only [bM,bq,fD] at c;rcases c with rfl|rfl|rfl|rfl|rfl|rfl|rfl|rfl<;>rfl))
 go_enter func59,ntmps59
 go_wp2_with (refine wpList_store_row rfl 24 _ _ rfl w.heap.size #[(k:Int),(4:Int),(4:Int),(16:Int),(3:Int),(2:Int),(1:Int),.float .f64 4607182418800017408] rfl rfl 24 _ (heap_alloc_new _ _) a.out rfl d.out ?_)
 generalize b:(World.alloc w _).setRow w.heap.size _=W2;have f:aJ W2 w.heap.size [(k:Int),(4:Int),(4:Int),(16:Int),(3:Int),(2:Int),(1:Int),.float .f64 4607182418800017408] 24:=by rw [<-b];exact setRow_heap _ _ _ _ _ _ (heap_alloc_new w _)
 have g:GM w W2:=by
  rw [<-b];exact ((GQ _ w).alloc _).trans (S':=fun i=>i=w.heap.size) ⟨rfl,rfl,rfl,by simp,fun i _ h=>setRow_other _ _ _ _ (fun e=>h e)⟩ (fun i h=> .inr (by omega))
 refine bodyPost_ret (li rfl _ _ _ _ _ _ _ rfl f underlying24 rfl a.out) rfl ?_;exact ⟨rfl,g⟩
section
variable{b:Nat}{c:Cf}{A A':AG}{rs rs' l l':List Nat}{T T':Nat->Prop}{w w':World}
theorem nE{x:Nat}:∀{l:List Nat},x∈l->x<=l.sum
 |y::l,h=>by
  rw [eu];rcases bM.1 h with rfl|h
  ·omega
  ·have:=nE h;omega
theorem wO(f:∀x,A.np x=0)(z:Nat):Reach A.gr rs z↔z∈rs/\z≠0:=by
 constructor
 ·intro h
  induction h with
  |root d a=>exact ⟨d,a⟩
  |step _ a _ _=>
   have e:∀y,A.gr.Qr y=[]:=fun y=>by unfold AG.gr;dsimp only;rw [f];rfl
   rw [e] at a;cases a
 ·rintro ⟨d,a⟩;exact .root d a
theorem wP(a:∀x,A.np x=0)(e:l.Nodup)(d:∀x,x∈l↔x∈rs/\x≠0):dE A rs l:=⟨e,fun x=>(d x).trans (wO a x).symm⟩
def ow(b:Nat)(c:Cf)(A:AG)(rs:List Nat)(xb:Nat)(cs:List Value)(t:TypeId)(w0 w:World):Prop:=∃u n T,eX b c A rs u n T w/\(∀k,T k->w0.heap.size<=k)/\¬T xb/\aJ w xb cs t/\GM w0 w
theorem ow.next{xb:Nat}{cs:List Value}{t:TypeId}{w0:World}{u n:Nat}(d:∀k,T k->w0.heap.size<=k)(e:¬T xb)(f:aJ w xb cs t)(g:GM w0 w)(j:eX b c A' rs' u n T' w')(hf:Fr T w w')(i:∀k,T' k->T k\/w.heap.size<=k):ow b c A' rs' xb cs t w0 w':=by
 have p:=g.size;have o:=f.lt;exact ⟨u,n,T',j,fun k a=>(i k a).elim (d k) (fun h=>by omega),fun m=>(i _ m).elim e (fun h=>by omega),f.frame hf e,g.trans hf (fun k a=> .inr (d k a))⟩
theorem ow.Qd{xb:Nat}{cs:List Value}{t:TypeId}{w0:World}(h:ow b c A rs xb cs t w0 w):aJ w xb cs t:=let ⟨_,_,_,_,_,_,h,_⟩:=h;h
theorem ow.fr{xb:Nat}{cs:List Value}{t:TypeId}{w0:World}(h:ow b c A rs xb cs t w0 w):GM w0 w:=let ⟨_,_,_,_,_,_,_,h⟩:=h;h
theorem ow.alloc{xb s k p f g:Nat}{cs:List Value}{t:TypeId}{w0:World}(h:ow b c A rs xb cs t w0 w)(y:dE A rs l)(B:s<c.Sl)(z:eO p f g)(a:k≠0)(d:¬Reach A.gr rs k)(i:A.Wd l+(1+(p+f+g))<=c.Wd):Calls prog 11 #[b,(s:Int),gD p f g] w fun e w'=>e= .returned (0:Int)/\ow b c (A.new k p f g) (rs.set s k) xb cs t w0 w':=by
 obtain ⟨u,n,T,o,q,r,v,x⟩:=h;refine (oP o y B z a d).mono ?_;rintro e w' (⟨_,rfl,D,n',T',g1,j,m⟩|⟨C,_⟩)
 ·exact ⟨rfl,ow.next q r v x g1 j m⟩
 ·omega
theorem ow.full{xb s p f g:Nat}{cs:List Value}{t:TypeId}{w0:World}(h:ow b c A rs xb cs t w0 w)(j:dE A rs l)(D:s<c.Sl)(B:eO p f g)(i:c.Wd<A.Wd l+(1+(p+f+g))):Calls prog 11 #[b,(s:Int),gD p f g] w fun e w'=>e= .returned (21:Int)/\ow b c A rs xb cs t w0 w':=by
 obtain ⟨u,n,T,q,r,v,x,y⟩:=h;obtain ⟨k,a,d⟩:∃k,k≠0/\¬Reach A.gr rs k:=by
  refine ⟨l.sum+1,by omega,fun C=> ?_⟩;have z:=(j.2 _).2 C;have:l.sum+1<=l.sum:=nE z;omega
 refine (oP q j D B a d).mono ?_;rintro e w' (⟨E,_⟩|⟨_,rfl,F,n',T',g1,m,o⟩)
 ·omega
 ·exact ⟨rfl,ow.next r v x y g1 m o⟩
theorem ow.clear{xb s:Nat}{cs:List Value}{t:TypeId}{w0:World}(h:ow b c A rs xb cs t w0 w)(m:s<c.Sl):Calls prog 14 #[b,(s:Int)] w fun e w'=>e= .returned (0:Int)/\ow b c A (rs.set s 0) xb cs t w0 w':=by
 obtain ⟨u,n,T,f,g,i,j,k⟩:=h;refine (ss f m).mono ?_;rintro e w' ⟨rfl,o,n',T',g1,a,d⟩;exact ⟨rfl,ow.next g i j k g1 a d⟩
end
def A7:AG:=⟨fun _=>0,fun _=>0,fun _=>7,fun _ _=>0⟩
theorem CP(k:Nat):A7.new k 0 0 7=A7:=by
 unfold AG.new A7;congr 1<;>funext y<;>simp
theorem nZ(l:List Nat):A7.Wd l=8*l.length:=by
 unfold AG.Wd
 induction l with
 |nil=>rfl
 |cons x l ih=>rw [cW,eu,ih,bn];show 1+(0+0+7)+_=_;omega
theorem Gc:eO ((0:Nat):Int) ((0:Nat):Int) ((7:Nat):Int):=by unfold eO;omega
theorem uy{k b xb:Nat}{t:TypeId}{w0:World}(n:1<=k)(o:k<=3):
  (∀w,ow b (jL k) A7 [0,0,0] xb [(0:Int),(0:Int),(7:Int)] t w0 w->Calls prog 11 #[b,(0:Int),.agg #[(0:Int),(0:Int),(7:Int)]] w fun e w'=>e= .returned (0:Int)/\ow b (jL k) A7 [1,0,0] xb [(0:Int),(0:Int),(7:Int)] t w0 w')/\
  (∀w,ow b (jL k) A7 [1,0,0] xb [(0:Int),(0:Int),(7:Int)] t w0 w->Calls prog 11 #[b,(1:Int),.agg #[(0:Int),(0:Int),(7:Int)]] w fun e w'=>e= .returned (0:Int)/\ow b (jL k) A7 [1,2,0] xb [(0:Int),(0:Int),(7:Int)] t w0 w')/\
  (∀w,ow b (jL k) A7 [1,2,0] xb [(0:Int),(0:Int),(7:Int)] t w0 w->Calls prog 11 #[b,(2:Int),.agg #[(0:Int),(0:Int),(7:Int)]] w fun e w'=>e= .returned (21:Int)/\ow b (jL k) A7 [1,2,0] xb [(0:Int),(0:Int),(7:Int)] t w0 w')/\
  (∀w,ow b (jL k) A7 [1,2,0] xb [(0:Int),(0:Int),(7:Int)] t w0 w->Calls prog 14 #[b,(0:Int)] w fun e w'=>e= .returned (0:Int)/\ow b (jL k) A7 [0,2,0] xb [(0:Int),(0:Int),(7:Int)] t w0 w')/\
  (∀w,ow b (jL k) A7 [0,2,0] xb [(0:Int),(0:Int),(7:Int)] t w0 w->Calls prog 11 #[b,(2:Int),.agg #[(0:Int),(0:Int),(7:Int)]] w fun e w'=>e= .returned (0:Int)/\GM w0 w'):=by
 have d:∀x,A7.np x=0:=fun _=>rfl
 have c:∀rs l,l.Nodup->(∀x,x∈l↔x∈rs/\x≠0)->dE A7 rs l:=fun rs l j h=>wP d j h
 have f:dE A7 [0,0,0] []:=c _ _ .nil (fun x=>by simp);have g:dE A7 [1,0,0] [1]:=c _ _ (by simp) (fun x=>by simp;omega);have m:dE A7 [1,2,0] [1,2]:=c _ _ (by simp) (fun x=>by simp;omega);have i:dE A7 [0,2,0] [2]:=c _ _ (by simp) (fun x=>by simp;omega);refine ⟨fun w h=> ?_,fun w h=> ?_,fun w h=> ?_,fun w h=> ?_,fun w h=> ?_⟩
 ·have:=h.alloc (s:=0) (k:=1) f (show 0<3 by omega) Gc (by omega) (fun a=>by have:=(f.2 _).2 a;simp at this) (by rw [nZ];show 0+_<=16;omega);rw [CP] at this;exact this
 ·have:=h.alloc (s:=1) (k:=2) g (show 1<3 by omega) Gc (by omega) (fun a=>by have:=(g.2 _).2 a;simp at this) (by rw [nZ];show 8+_<=16;omega);rw [CP] at this;exact this
 ·exact h.full (s:=2) m (show 2<3 by omega) Gc (by rw [nZ];show 16<16+_;omega)
 ·exact h.clear (s:=0) (show 0<3 by omega)
 ·have:=h.alloc (s:=2) (k:=1) i (show 2<3 by omega) Gc (by omega) (fun a=>by have:=(i.2 _).2 a;simp at this) (by rw [nZ];show 8+_<=16;omega);exact this.mono (fun e w' h=>⟨h.1,h.2.fr⟩)
theorem qS(w:World)(C:et w):Calls prog 12 #[] w fun e w'=>e= .returned (.bool true)/\GM w w':=by
 have g:=ae zO;have f:=ae (fun (k:Nat) (V:1<=k) (W:k<=3) (w1:World) (hf:GM w w1)=>xY (Di V W) (aS C hf id) A7);have K:Hid (∀(k b:Nat) (w1 w2:World),Av (jL k) A7 w1 (.returned (.tuple #[b,(0:Int)])) w2->True):=ae (fun _ _ _ _ _=>trivial);have y:=ae (GQ (fun _=>False) w);clear C K;have N:Hid (∀w',GM w w'->(fun e w'=>e=Ending.returned (.bool true)/\GM w w') (.returned (.bool true)) w'):=ae (fun w' h=>⟨rfl,h⟩);generalize (fun e w'=>e=Ending.returned (.bool true)/\GM w w')=Q at*
 go_enter func12,ntmps12
 go_wp2
 go_loopw [1] (fun x wr=>∃k:Nat,x= .int .i64 k/\1<=k/\k<=4/\Hid (GM w wr)) (fun x _=>(5-intOf x).toNat)
 case atStart=>exact ⟨1,rfl,by omega,by omega,y⟩
 case round=>
  clear y;obtain ⟨k,rfl,d,F,c⟩:=hrel;by_cases I:k<=3
  ·have c1:(k:Int)<=3:=by omega
   have B:=ae (g.out k wr);go_wp2_with fail
   refine B.out.mono ?_;rintro e w1 ⟨rfl,m⟩;have A:=ae (f.out k d I w1 (c.out.trans m GN));have z:=ae (c.out.trans m GN);have G:=ae (ag d I);clear B m f g d F I;go_wp2_with fail
   refine A.out.mono ?_;rintro e w2 ⟨b,T,rfl,M,C,D⟩;obtain ⟨o,j⟩:∃o,w2.alloc (.cells #[(0:Int),(0:Int),(7:Int)] 31)=o:=⟨_,rfl⟩;have n:GM w2 o:=by rw [<-j];exact (GQ _ w2).alloc _
   have l:aJ o w2.heap.size [(0:Int),(0:Int),(7:Int)] 31:=by rw [<-j];exact aJ.new w2 _ _
   have a:ow b (jL k) A7 [0,0,0] w2.heap.size [(0:Int),(0:Int),(7:Int)] 31 w1 o:=⟨0,0,T,M.Qa n,C,fun h=>by have:=M.lt _ h;omega,l,D.trans n GN⟩;obtain ⟨O,P,R,S,U⟩:=uy (b:=b) (xb:=w2.heap.size) (t:=31) (w0:=w1) G.out.1 G.out.2;have q:=ae (O o a);have p:=ae (ag P (ag R (ag S U)));obtain ⟨L,i,c2⟩:=gc l;clear A M C D n l a O P R S U;go_wp2_with fail
   refine q.out.mono ?_;rintro e w3 ⟨rfl,a⟩;obtain ⟨L,i,c2⟩:=gc a.Qd;have r:=ae (p.out.1 w3 a);clear q a j;go_wp2_with fail
   refine r.out.mono ?_;rintro e w4 ⟨rfl,a⟩;obtain ⟨L,i,c2⟩:=gc a.Qd;have s:=ae (p.out.2.1 w4 a);clear r a;go_wp2_with fail
   refine s.out.mono ?_;rintro e w5 ⟨rfl,a⟩;have u:=ae (p.out.2.2.1 w5 a);clear s a;go_wp2_with fail
   refine u.out.mono ?_;rintro e w6 ⟨rfl,a⟩;obtain ⟨L,i,c2⟩:=gc a.Qd;have v:=ae (p.out.2.2.2 w6 a);clear u a p;go_wp2_with fail
   refine v.out.mono ?_;rintro e X ⟨rfl,E⟩;have J:=ae (z.out.trans E GN);clear v E z c;go_wp2;go_roundw
   case rel=>exact ⟨k+1,by go_num,by omega,by have:=G.out.2;omega,J⟩
   case measure=>simp [intOf];have:=G.out;omega
  ·have c1:¬(k:Int)<=3:=by omega
   have H:=ae (N.out wr c.out);clear f g d F I N c;go_wp2;exact H.out
end Go.Proofs.YthahbijbpinneaaGreatDoor
