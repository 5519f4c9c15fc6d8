import Derived.Test.YthahbijbpinneaaGreatDoorA1
import Derived.Test.YthahbijbpinneaaGreatDoorA2
import Derived.Test.YthahbijbpinneaaGreatDoorA4
import Derived.Test.YthahbijbpinneaaGreatDoorA5
import Derived.Maps.OwnSet
import Derived.Maps.OwnOps
set_option maxRecDepth 100000
set_option maxHeartbeats 8000000
set_option linter.all false
namespace Go.Proofs.YthahbijbpinneaaGreatDoor
open Go.RowKit Go.Proofs.Tryz
section
variable{I:jF}{t:TypeId}{v wk:Value}{L:Nat->Nat}{EL:cF}{W kb sb Rm:Nat}{S0:Nat->Prop}{w0:World}{PB:Nat->Prop}{wp:World}{S S1:Nat->Prop}{sv sv1:Value}{Hg Qj nr nv:Int}{st:je}{w w1:World}{fl:Nat}{r:Value}{dom:Nat->Prop}{G:Gr}{rs:List Nat}{N:Nat}
def FZ(I:jF)(t:TypeId)(v:Value)(L:Nat->Nat)(EL:cF)(W kb sb Rm:Nat)(S:Nat->Prop)(G:Gr)(rs:List Nat)(N:Nat)(w1 w2:World):Prop:=
 ∃(st:je) (nr nv:Int) (wk:Value) (S':Nat->Prop),I L S' w2/\(∀k,S' k->S k\/w1.heap.size<=k)/\eJ w2 EL W st.E/\aJ w2 kb [.iface t v,EL.m,sb,wk,((st.no:Int):Int),((st.nw:Int):Int),(nr:Int),(nv:Int)] 225/\
  jR G rs N Rm st/\(∀a,st.E a≠0↔Reach G rs a)/\Fr (fun k=>S k\/EL.has k\/k=kb\/k=sb\/w1.heap.size<=k) w1 w2
theorem zB(F:dy t v fl r I dom)(X:I L S w)(M:gw G rs N)(R:N<=W)(O:∀a,G.size a≠0->jy L dom G a)(f:Rm<=4096)(o:AB EL kb sb w.heap.size S)
  (c:aJ w kb [.iface t v,EL.m,sb,.pointer none,(0:Int),(0:Int),(0:Int),(0:Int)] 225) (V:eJ w EL W (fun _=>0)) (Hg:Int) (u:tF w 291 sb (.slice none 0 0) [] Rm Hg false) (P:et w)
  (g Y:Nat) (l:g<w.heap.size/\¬S g/\¬EL.has g/\g≠kb/\g≠sb) (q:∀(i a:Nat),rs[i]? =some a->w.cell? ⟨g,i,none⟩=some (a:Int)) (D:rs.length<=1048576)
  (b c1 c2:Nat) (y:aJ w c1 [kb] 223) (z:aJ w c2 [.slice (some g) rs.length Y] 123):
  Calls prog 139 #[b,c1,c2] w fun e w'=>e= .returned (.tuple #[])/\FZ I t v L EL W kb sb Rm S G rs N w w':=by
 have k3:=c.cell 3 rfl;have f3:=c.free 3;have e1:=y.cell 0 rfl;have e2:=z.cell 0 rfl;have p:c2≠kb:=fun e=>by subst e;have:=z.symm.trans c;simp at this
 have n:c1≠kb:=fun e=>by subst e;have:=y.symm.trans c;simp at this
 obtain ⟨W1,j⟩:∃W1,w.setCell ⟨kb,3,none⟩ (.pointer (some ⟨b,0,none⟩))=W1:=⟨_,rfl⟩;have hf:Fr (fun k=>k=kb) w W1:=by rw [<-j];exact (GQ (fun k=>k=kb) w).setCell ⟨kb,3,none⟩ (.inl rfl) _
 have x:W1.heap.size=w.heap.size:=by rw [<-j];exact World.size_setCell _ _ _
 have U:kR I t v (.pointer (some ⟨b,0,none⟩)) L EL W kb sb Rm S W1 (fun _=>False) W1 S (.slice none 0 0) Hg 0 0 AV W1:=
  ⟨F.stays _ _ _ _ _ X hf (fun k c e=>(o.s k c).2.1 e) (fun e=>o.d2 e.symm),by rw [<-j];exact c.set 3 _,V.frame hf (fun k c e=>(o.e k c).1 e),u.Qa hf (fun e=>o.d1 e.symm) (fun k c=>by simp [Value.ownBlock] at c),aS P hf (fun e=>o.d2 e.symm),fun k c=> .inl c,fun k c=>by simp [Value.ownBlock] at c,GQ _ _,fun _ h=>h.elim⟩
 have C:=ae (BH (w0:=W1) (w:=W1) F (by rw [x];exact o) M R O ⟨_,_,_,_,_,U⟩ f g Y (by rw [x];exact l) (fun i a ha=>(World.cell?_of_block (w:=w) (w':=W1) (a:=⟨g,i,none⟩) (hf.block g l.1 l.2.2.2.1)).trans (q i a ha)) D);have g1:=(y.frame hf n).cell 0 rfl;have g2:=(z.frame hf p).cell 0 rfl;have K:Hid (∀w' st,iZ I t v (.pointer (some ⟨b,0,none⟩)) L EL W kb sb Rm S W1 (fun _=>False) W1 st w'->jR G rs N Rm st->(∀a,st.E a≠0↔Reach G rs a)->FZ I t v L EL W kb sb Rm S G rs N w w'):=by
  show∀w' st,_
  rintro w' st ⟨S',ad,Z,H,J,d⟩ A B;refine ⟨st,H,J,_,S',d.sp,fun k c=>by have:=d.s0 k c;rw [x] at this;exact this,d.ext,d.Qd,A,B,(hf.mono (fun k c=> .inl (.inr (.inr (.inl c))))).trans d.fr (fun k c=> .inl ?_)⟩;unfold GG at c;rw [x] at c;exact c
 generalize (FZ I t v L EL W kb sb Rm S G rs N w)=Q at*;unfold yz at C;clear F X M R O f o c V u P l q y z p n hf U x
 go_enter func139,ntmps139
 go_upto_region 1 with fail
 clear j k3 f3 e1 e2;go_wp2_with fail
 refine C.out.mono ?_;rintro e w2 ⟨rfl,st,T,A,B⟩;have hq:=K.out _ _ T A B;clear C K g1 g2 T A B;go_wp2;go_end0;exact ⟨rfl,hq⟩
def xt(I:jF)(L:Nat->Nat)(EL:cF)(W Rm:Nat)(S:Nat->Prop)(G:Gr)(rs:List Nat)(N:Nat)(w:World)(e:Ending)(w':World):Prop:=
 ∃(st:je) (nr nv:Int) (S':Nat->Prop),e= .returned (.tuple #[.agg #[((st.no:Int):Int),((st.nw:Int):Int),(nr:Int),(nv:Int)],(0:Int)])/\I L S' w'/\(∀k,S' k->S k\/w.heap.size<=k)/\eJ w' EL W st.E/\jR G rs N Rm st/\(∀a,st.E a≠0↔Reach G rs a)/\Fr (fun k=>S k\/EL.has k) w w'
theorem BL(H:dy t v fl r I dom)(J:cO<w.heap.size)(j:∀k,S k->k<w.heap.size)(i:∀k,EL.has k->k<w.heap.size){W5 W6:World}{c1:Nat}{e:Ending}
  (A:w.heap.size+2<=sb/\sb<kb/\kb<c1/\c1<W5.heap.size) (l:Fr EL.has w W5) (s:aJ W5 c1 [kb] 223) (u:aJ W5 (w.heap.size+1) [(0:Int),(0:Int),(0:Int),(0:Int)] 136)
  (h:pf W5 (FZ I t v L EL W kb sb Rm S G rs N) e W6):
  e= .returned (.agg #[(0:Int),(0:Int)])/\∃(st:je) (nr nv:Int) (wk:Value),aJ W6 c1 [kb] 223/\aJ W6 kb [.iface t v,EL.m,sb,wk,((st.no:Int):Int),((st.nw:Int):Int),(nr:Int),(nv:Int)] 225/\aJ W6 (w.heap.size+1) [(0:Int),(0:Int),(0:Int),(0:Int)] 136/\
   ∀g,GM W6 g->∀o,o=g.setCells (w.heap.size+1) 0 [((st.no:Int):Int),((st.nw:Int):Int),(nr:Int),(nv:Int)]->aJ o (w.heap.size+1) [((st.no:Int):Int),((st.nw:Int):Int),(nr:Int),(nv:Int)] 136/\xt I L EL W Rm S G rs N w (.returned (.tuple #[.agg #[((st.no:Int):Int),((st.nw:Int):Int),(nr:Int),(nv:Int)],(0:Int)])) o:=by
 obtain ⟨rfl,w1,w2,p,⟨st,nr,nv,wk,S',K,B,M,O,P,Q,q⟩,d⟩:=h;have R:=p.size;have T:=l.size;have U:=q.size;have z:∀k,k<W5.heap.size->(w.heap.size<=k)->k≠kb->k≠sb->¬(S k\/EL.has k\/k=kb\/k=sb\/w1.heap.size<=k):=fun k s f u F h=>by
  rcases h with h|h|h|h|h
  ·have:=j k h;omega
  ·have:=i k h;omega
  ·exact u h
  ·exact F h
  ·omega
 have c:∀k,k<W5.heap.size->¬(W5.heap.size<=k/\k<w1.heap.size):=fun k s h=>by omega
 have C:=((s.frame p id).frame q (z c1 A.2.2.2 (by omega) (by omega) (by omega))).frame d (c _ A.2.2.2);have D:=O.frame d (c _ (by omega));have y:=((u.frame p id).frame q (z _ (by omega) (by omega) (by omega) (by omega))).frame d (c _ (by omega));refine ⟨rfl,st,nr,nv,wk,C,D,y,?_⟩;rintro g a o rfl;have E:=y.frame a id;refine ⟨(((E.set 0 _).set 1 _).set 2 _).set 3 _,st,nr,nv,S',rfl,?_,fun k n=> ?_,?_,P,Q,?_⟩
 ·have b:Fr (fun k=>(W5.heap.size<=k/\k<w1.heap.size)\/k=w.heap.size+1) w2 (g.setCells (w.heap.size+1) 0 [((st.no:Int):Int),((st.nw:Int):Int),(nr:Int),(nv:Int)]):=
   (((((d.mono (fun k h=> .inl (.inl h))).trans a GN).setCell ⟨w.heap.size+1,0,none⟩ (.inl (.inr rfl)) _).setCell ⟨w.heap.size+1,1,none⟩ (.inl (.inr rfl)) _).setCell ⟨w.heap.size+1,2,none⟩ (.inl (.inr rfl)) _).setCell ⟨w.heap.size+1,3,none⟩ (.inl (.inr rfl)) _
  refine H.stays _ _ _ _ _ K b (fun k n h=> ?_) (fun h=>by omega);rcases B k n with f|f
  ·have:=j k f;omega
  ·omega
 ·rcases B k n with f|f
  ·exact .inl f
  ·exact .inr (by omega)
 ·have b:Fr (fun k=>(W5.heap.size<=k/\k<w1.heap.size)\/k=w.heap.size+1) w2 (g.setCells (w.heap.size+1) 0 [((st.no:Int):Int),((st.nw:Int):Int),(nr:Int),(nv:Int)]):=
   (((((d.mono (fun k h=> .inl (.inl h))).trans a GN).setCell ⟨w.heap.size+1,0,none⟩ (.inl (.inr rfl)) _).setCell ⟨w.heap.size+1,1,none⟩ (.inl (.inr rfl)) _).setCell ⟨w.heap.size+1,2,none⟩ (.inl (.inr rfl)) _).setCell ⟨w.heap.size+1,3,none⟩ (.inl (.inr rfl)) _
  exact M.frame b (fun k n h=>by have:=i k n;omega)
 ·have x:=((((l.trans p GN).mono (S':=fun k=>S k\/EL.has k) (fun k h=> .inl (.inr h))).trans q (fun k h=>by
   rcases h with h|h|h|h|h
   ·exact .inl (.inl h)
   ·exact .inl (.inr h)
   ·exact .inr (by omega)
   ·exact .inr (by omega)
   ·exact .inr (by omega))).trans d (fun k h=> .inr (by omega))).trans a GN
  exact (((x.setCell ⟨w.heap.size+1,0,none⟩ (.inr (fm _)) _).setCell ⟨w.heap.size+1,1,none⟩ (.inr (fm _)) _).setCell ⟨w.heap.size+1,2,none⟩ (.inr (fm _)) _).setCell ⟨w.heap.size+1,3,none⟩ (.inr (fm _)) _
theorem zF(s:dy t v fl r I dom)(A:I L S w)(J:gw G rs N)(M:N<=W)(K:∀a,G.size a≠0->jy L dom G a)(p:Rm<=4096)(z:et w)(j:∀k,EL.has k->k<w.heap.size)
  (n:∀k,S k->¬EL.has k/\k≠cO) (o:¬EL.has cO) (g D:Nat) (f:g<w.heap.size/\¬S g/\¬EL.has g) (y:∀(i a:Nat),rs[i]? =some a->w.cell? ⟨g,i,none⟩=some (a:Int)) (x:rs.length<=1048576)
  {W5:World} {c1 c2:Nat} (hf:Fr EL.turns w W5) (R:eJ W5 EL W (fun _=>0)) (Z:w.heap.size<=sb/\w.heap.size<=kb/\kb≠sb) (q:tF W5 291 sb (.slice none 0 0) [] Rm 0 false)
  (d:aJ W5 kb [.iface t v,EL.m,sb,.pointer none,(0:Int),(0:Int),(0:Int),(0:Int)] 225)
  (E:aJ W5 c1 [kb] 223) (F:aJ W5 c2 [.slice (some g) rs.length D] 123):
  Calls prog 126 #[.iface t v,.func (.func 139) #[] #[c1,c2]] W5 (pf W5 (FZ I t v L EL W kb sb Rm S G rs N)):=by
 have l:=s.lt _ _ _ A;have V:cO<w.heap.size:=cl (z 0 0 rfl);have X:=hf.size;have u:I L S W5:=s.stays _ _ _ _ _ A hf (fun k d h=>(n k d).1 (cF.Qh h)) (fun h=>o (cF.Qh h));have T:=d.lt;have C:=q.1.lt;refine sN t v 139 _ (enters_of func139 (by kernel_rfl) rfl) W5 _ (fun b w1 c Y P Q=> ?_);have U:=c.size;refine (zB s (s.Qa u c) J M K p ?_ (d.frame c id) (R.frame c (fun _ _ h=>h)) 0 (q.Qa c id (fun _ _ h=>h)) (aS (aS z hf (fun h=>o (cF.Qh h))) c id) g D ?_ ?_ x b c1 c2 (E.frame c id) (F.frame c id)).mono ?_
 ·exact ⟨fun k d=>⟨(n k d).1,by have:=l k d;omega,by have:=l k d;omega,(n k d).2,by have:=l k d;omega⟩,fun k d=>⟨by have:=j k d;omega,by have:=j k d;omega,fun e=>o (e▸d),by have:=j k d;omega⟩,by omega,by omega,by omega,by omega,by omega,by omega⟩
 ·exact ⟨by omega,f.2.1,f.2.2,by omega,by omega⟩
 ·intro i a O;have H:=(World.cell?_of_block (w:=w) (w':=W5) (a:=⟨g,i,none⟩) (hf.block g f.1 (fun h=>f.2.2 (cF.Qh h)))).trans (y i a O);exact (World.cell?_of_block (w:=W5) (w':=w1) (a:=⟨g,i,none⟩) (c.block g (by have:=f.1;show g<_;omega) id)).trans H
 ·rintro e w2 ⟨rfl,B⟩;refine ⟨rfl,B,_,fun k d=> ?_,B.choose_spec.choose_spec.choose_spec.choose_spec.choose_spec.2.2.2.2.2.2⟩;rcases d with h|h|h|h|h
  ·have:=l k h;exact .inr (.inl (by omega))
  ·have:=j k h;exact .inr (.inl (by omega))
  ·exact .inr (.inl (by omega))
  ·exact .inr (.inl (by omega))
  ·exact .inr (.inr h)
theorem mU{E0:Nat->Nat}(hs:dy t v fl r I dom)(hi:I L S w)(hG:gw G rs N)(hW:N<=W)(hO:∀a,G.size a≠0->jy L dom G a)(K:1<=Rm)(A:Rm<=4096)(U:eJ w EL W E0)(hT:et w)
  (ay:∀k,S k->¬EL.has k/\k≠cO) (az:¬EL.has cO) (B rc:Nat) (aG:B<w.heap.size/\¬S B/\¬EL.has B) (aH:∀(i a:Nat),rs[i]? =some a->w.cell? ⟨B,i,none⟩=some (a:Int)) (aY:rs.length<=1048576):
  Calls prog 68 #[.iface t v,.slice (some B) rs.length rc,EL.m,(Rm:Int)] w (xt I L EL W Rm S G rs N w):=by
 have a1:∀(fn:Fn) (first cap:Array Value) (w:World),(Instr.makeFunc fn first cap).run prog w= .ok (.func fn first cap) w:=fun _ _ _ _=>rfl
 obtain ⟨j,l⟩:=U.small;have ar:=ae (fun w1 (hf:GM w w1)=>gT (U.frame hf (fun _ _ h=>h)));have an:=ae (fun w1=>EU (Rm:Int) w1 (by omega) (by omega));have au:=ae (fun w1 (hf:GM w w1)=>Ac (U.frame hf (fun _ _ h=>h)));have aX:((W:Int)==0)=false:=by rw [aT];omega
 have F:=U.lt;have aK:=hs.lt _ _ _ hi;have ao:=ae (fun W5 kb sb c1 c2 (hf:Fr EL.turns w W5) (U:eJ W5 EL W (fun _=>0)) (hz:w.heap.size<=sb/\w.heap.size<=kb/\kb≠sb) aZ hk h1 h2=>zF (kb:=kb) (sb:=sb) (c1:=c1) (c2:=c2) (W5:=W5) hs hi hG hW hO A hT F ay az B rc aG aH aY hf U hz aZ hk h1 h2);have al:=ae (fun W5 W6 kb sb c1 e hz s h1 h3 h=>BL (I:=I) (t:=t) (v:=v) (L:=L) (EL:=EL) (W:=W) (Rm:=Rm) (S:=S) (G:=G) (rs:=rs) (N:=N) (w:=w) (W5:=W5) (W6:=W6) (kb:=kb) (sb:=sb) (c1:=c1) (e:=e) hs (cl (hT 0 0 rfl)) aK F hz s h1 h3 h);have ah:=ae (fun k (h:EL.turns k)=>F k (cF.Qh h));clear hs hi hG hW hO K A U hT ay az aG aH F aK l
 go_enter func68,ntmps68
 go_upto_region 1 with fail
 obtain ⟨W1,j⟩:∃W1,(w.alloc (.cells #[.slice (some B) rs.length rc] 123)).alloc (.cells #[(0:Int),(0:Int),(0:Int),(0:Int)] 136)=W1:=⟨_,rfl⟩;have Z:(w.alloc (.cells #[.slice (some B) rs.length rc] 123)).heap.size=w.heap.size+1:=bC _;have aM:W1.heap.size=w.heap.size+2:=by rw [<-j];exact (bC _).trans (congrArg (· +1) Z)
 have R:GM w W1:=by rw [<-j];exact ((GQ _ w).alloc _).alloc _
 have aw:aJ W1 w.heap.size [.slice (some B) rs.length rc] 123:=by rw [<-j];exact (aJ.new w [.slice (some B) rs.length rc] 123).alloc _
 have ax:aJ W1 (w.heap.size+1) [(0:Int),(0:Int),(0:Int),(0:Int)] 136:=by
  have h:=aJ.new (w.alloc (.cells #[.slice (some B) rs.length rc] 123)) [(0:Int),(0:Int),(0:Int),(0:Int)] 136;rw [Z] at h;rw [<-j];exact h
 have ap:=ae (ar.out W1 R);clear Z
 go_upto_region 3 with (refine ap.out.mono ?_;rintro e w' ⟨rfl,rfl⟩)
 clear j ar aX;have P:=ae (ag R (ag aw (ag ax aM)));have am:=ae (an.out W1);clear R aw ax aM ap an;go_wp2_with fail
 refine am.out.mono ?_;rintro e W2 ⟨rfl,l⟩;have V:GM W1 W2:=by rw [l];exact (GQ _ _).alloc _
 have av:aJ W2 W1.heap.size [.slice none 0 0,(Rm:Int),(0:Int),.bool false] 291:=by rw [l];exact aJ.new W1 _ _
 have aN:W2.heap.size=W1.heap.size+1:=by rw [l];exact bC _
 have aq:=ae (au.out W2 (P.out.1.trans V GN));have ai:=ae (ag V (ag av aN));clear l V av aN au am;go_wp2_with fail
 refine aq.out.mono ?_;rintro e d ⟨rfl,aB,aC⟩;have aj:=ae (ag aB aC);clear aB aC aq
 go_upto_region 8 with fail
 obtain ⟨D,o⟩:∃D,d.alloc (.cells #[.iface t v,EL.m,W1.heap.size,.pointer none,(0:Int),(0:Int),(0:Int),(0:Int)] 225)=D:=⟨_,rfl⟩;obtain ⟨W5,p⟩:∃W5,D.alloc (.cells #[d.heap.size] 223)=W5:=⟨_,rfl⟩;have ad:D.heap.size=d.heap.size+1:=by rw [<-o];exact bC _
 have a0:W5.heap.size=d.heap.size+2:=by rw [<-p];exact (bC _).trans (congrArg (· +1) ad)
 have aD:GM d D:=by rw [<-o];exact (GQ _ _).alloc _
 have s:GM D W5:=by rw [<-p];exact (GQ _ _).alloc _
 have aE:aJ D d.heap.size [.iface t v,EL.m,W1.heap.size,.pointer none,(0:Int),(0:Int),(0:Int),(0:Int)] 225:=by rw [<-o];exact aJ.new d _ _
 have T:aJ W5 (d.heap.size+1) [d.heap.size] 223:=by rw [<-ad,<-p];exact aJ.new D _ _
 rw [o,p];clear o p;obtain ⟨g1,g2,g3,g4⟩:=P.out;obtain ⟨g5,g6,g7⟩:=ai.out;obtain ⟨g8,g9⟩:=aj.out;have z1:=g1.size;have z9:=g9.size;have J:∀k,w.heap.size<=k->¬EL.turns k:=fun k h1 h=>by have:=ah.out k h;omega
 have g:GM d W5:=aD.trans s GN;have b1:aJ W5 W1.heap.size [.slice none 0 0,(Rm:Int),(0:Int),.bool false] 291:=(g6.frame g9 (J _ (by omega))).frame g id;have b2:=((g2.frame g5 id).frame g9 (J _ (ak _))).frame g id;have b3:=((g3.frame g5 id).frame g9 (J _ (fm _))).frame g id;have bk:=aE.frame s id;have X:Fr EL.turns w W5:=(((g1.trans g5 GN).mono (S':=EL.turns) GN).trans g9 (fun k h=> .inl h)).trans g GN;have O:=ae (ao.out W5 d.heap.size W1.heap.size (d.heap.size+1) w.heap.size X (g8.frame g (fun _ _ h=>h)) ⟨by omega,by omega,by omega⟩ ⟨b1,World.ownsRow_nil _ _ _ _,by simp [Value.ownBlock]⟩ bk T b2);have M:=ae (fun W6 e h=>al.out W5 W6 d.heap.size W1.heap.size (d.heap.size+1) e ⟨by omega,by omega,by omega,by omega⟩ (X.mono (fun k h=> .inl (cF.Qh h))) T b3 h);clear g1 g2 g3 g4 g5 g6 g7 g8 g9 z1 z9 J g b1 b2 b3 bk X aD s aE T ad a0 P ai aj ao al ah;generalize W1.heap.size=sb at*;generalize d.heap.size=kb at*;clear W1 W2 d D;go_wp2_with fail
 refine O.out.mono ?_;intro e W6 hp;obtain ⟨rfl,st,nr,nv,wk,q,y,z,c⟩:=M.out _ _ hp;clear hp O M;have af:=ae (ag q (ag y (ag z c)));clear q y z c
 go_upto_region 9 with fail
 obtain ⟨E,H⟩:∃E,W6.alloc (.cells #[(0:Int),(0:Int)] 197)=E:=⟨_,rfl⟩;rw [H];obtain ⟨q,y,z,c⟩:=af.out;have x:GM W6 E:=by rw [<-H];exact (GQ _ _).alloc _
 have aF:aJ E W6.heap.size [(0:Int),(0:Int)] 197:=by rw [<-H];exact aJ.new W6 _ _
 have k1:=aF.cell 0 rfl;have k2:=(q.frame x id).cell 0 rfl;have C:=ae (y.frame x id);have b:=z.frame x id;have HT:Hid (E.there (w.heap.size+1) 0 4):=by
  show E.there _ _ _
  intro i hi
  match i,hi with
  |0,_=>exact ⟨by rw [b.cell 0 rfl];rfl,b.free 0⟩
  |1,_=>exact ⟨by rw [b.cell 1 rfl];rfl,b.free 1⟩
  |2,_=>exact ⟨by rw [b.cell 2 rfl];rfl,b.free 2⟩
  |3,_=>exact ⟨by rw [b.cell 3 rfl];rfl,b.free 3⟩
 have aP:=ae (c E x);have Q:Hid ((prog.info? 136).map (·.size)=some 4):=by show _=_;kernel_rfl
 clear c q y z x aF b af H;have aR:Hid (E.rangeAt kb 4 [((st.no:Int):Int),((st.nw:Int):Int),(nr:Int),(nv:Int)]):=by
  show E.rangeAt _ _ _
  intro i u f
  match i,f with
  |0,f=>simp only [eE,aL] at f;subst f;exact C.out.cell 4 rfl
  |1,f=>simp only [eE,fF,aL] at f;subst f;exact C.out.cell 5 rfl
  |2,f=>simp only [eE,fF,aL] at f;subst f;exact C.out.cell 6 rfl
  |3,f=>simp only [eE,fF,aL] at f;subst f;exact C.out.cell 7 rfl
  |(n+4),f=>simp at f
 have aQ:Hid ((#[Value.int .i64 (st.no:Int),((st.nw:Int):Int),(nr:Int),(nv:Int)].all (·.oneCell'))=true):=by show _=_;exact Go.all_oneCell_toArray (cs:=[((st.no:Int):Int),((st.nw:Int):Int),(nr:Int),(nv:Int)]) (fun v hv=>by simp only [bM,bq,fD] at hv;rcases hv with rfl|rfl|rfl|rfl<;>rfl)
 go_wp2_with (first|refine wpList_load_mid rfl 136 _ rfl kb 4 rfl [((st.no:Int):Int),((st.nw:Int):Int),(nr:Int),(nv:Int)] _ aR.out underlying136 rfl Q.out ?_|refine wpList_store_mid rfl 136 _ _ rfl (w.heap.size+1) 0 #[((st.no:Int):Int),((st.nw:Int):Int),(nr:Int),(nv:Int)] rfl rfl HT.out Q.out aQ.out ?_)
 obtain ⟨hq,Y⟩:=aP.out _ rfl;refine bodyPost_ret (ee rfl _ _ _ _ _ _ _ rfl hq underlying136 rfl Q.out) rfl ?_;exact Y
end
theorem wX{w:World}{L:cF}{W:Nat}{E:Nat->Nat}(h:eJ w L W E)(j:et w)(a:Nat)(x:a<=W)(i:∀s,E s≠0->s+E s<=a):Calls prog 216 #[L.m,(a:Int),(W:Int)] w fun e w'=>e= .returned (0:Int)/\w=w':=by
 have t:=h.small;have l:=ae (gX h.Qd);have f:=ae (gT h);have k:=ae (j6 h j a (by omega));have o:=ae (oS h j a (by omega));have c:Hid (∀e w',gx E a w e w'->e= .returned (.tuple #[(0:Int),(0:Int),.bool false])/\w=w'):=by
  show∀e w',_
  rintro e w' ⟨⟨s,n,b,g,q,_⟩|⟨_,b⟩,g⟩
  ·have:=i s (by omega);omega
  ·exact ⟨b,g⟩
 have d:Hid (∀e w',gZ E W a w e w'->e= .returned (.tuple #[(0:Int),(0:Int),.bool false])/\w=w'):=by
  show∀e w',_
  intro e w' hp;rcases hp with ⟨⟨s,n,b,g,q⟩|⟨_,b⟩,g⟩
  ·have r:=eY.1 b.2.2.1;have:=i s r;have:=b.1;omega
  ·exact ⟨b,g⟩
 have u:max (a:Int) 0=(a:Int):=by omega
 have v:min (W:Int) (W:Int)=(W:Int):=by omega
 clear h j i t
 go_enter func216,ntmps216
 go_wp2_with fail
 refine l.out.mono ?_;rintro e w1 ⟨rfl,rfl⟩;go_wp2_with fail
 refine f.out.mono ?_;rintro e w1 ⟨rfl,rfl⟩;go_wp2_with fail
 refine k.out.mono ?_;intro e w1 hp;obtain ⟨rfl,rfl⟩:=c.out _ _ hp;clear hp;go_wp2_with fail
 refine o.out.mono ?_;intro e w1 hp;obtain ⟨rfl,rfl⟩:=d.out _ _ hp;clear hp l f k o c d u v;go_wp2
 go_loopw [7,13] (fun n p wr=>n= .int .i64 0/\p= .bool false/\wr=w) (fun _ _ _=>0)
 case atStart=>exact ⟨rfl,rfl,by first|trivial|rfl⟩
 case round=>
  obtain ⟨rfl,rfl,rfl⟩:=hrel;go_wp2;go_ret;exact ⟨rfl,rfl⟩
def Gd(m Pg W Fs Us Hg:Nat)(mp:Nat->Bool)(L:Nat->Nat)(S:Nat->Prop)(G:Gr)(ls:List Nat)(w:World)(e:Ending)(w':World):Prop:=
 ∃(EL:cF) (E:Nat->Nat) (S':Nat->Prop),e= .returned (.tuple #[EL.m,(0:Int)])/\dY m Pg W Fs Us Hg mp L S' w'/\(∀k,S' k->S k\/w.heap.size<=k)/\(∀k,S' k->¬EL.has k)/\eJ w' EL W E/\(∀a,E a≠0↔Reach G ls a)/\fQ G ls E/\(∀k,EL.has k->w.heap.size<=k)/\Fr S w w'
theorem sT{w:World}{m b g Pg W Fs Us Hg:Nat}{S:Nat->Prop}{mp:Nat->Bool}{L:Nat->Nat}{ls:List Nat}{G:Gr}(V:dY m Pg W Fs Us Hg mp L S w)(hr:dt w b g ls)(U:et w)(x:¬S cO)(lo top Rm:Nat)(hG:gw G ls top)(hO:∀a,G.size a≠0->jy L (dD W Pg mp) G a)(X:∀a,G.size a≠0->lo<=a)(u:top<=W)(h4:1<=Rm)(h5:Rm<=4096):
  Calls prog 151 #[m,b,(lo:Int),(top:Int),(Rm:Int)] w (Gd m Pg W Fs Us Hg mp L S G ls w):=by
 have d:=cw m Pg W Fs Us Hg mp;have HW:=ae (fun w1 (S1:Nat->Prop) (ah:dY m Pg W Fs Us Hg mp L S1 w1)=>gS ah.choose_spec.1);obtain ⟨e1,e2,e3,e4,e5,e6,e7,e8,ad⟩:=V.choose_spec.1.at;clear e1 e2 e4 e5 e6 e7 e8;have f:=d.lt _ _ _ V;have O:=ae (nR W ad (by omega) w);have F:=ae (fun w1 (hf:GM w w1)=>nz (hr.frame hf id id));have al:=hr.small;have N:=ae (fun (w1 w2:World) (EL:cF) (hf:GM w w1) (o:∀k,EL.has k->w.heap.size<=k) (t:eJ w1 EL W (fun _=>0)) (c:GM w1 w2) C rc (ai:w1.heap.size<=C/\C<w2.heap.size) (aj:∀(i a:Nat),ls[i]? =some a->w2.cell? ⟨C,i,none⟩=some (a:Int))=>
  mU (w:=w2) (Rm:=Rm) d (d.Qa (d.Qa V hf) c) hG u hO h4 h5 (t.frame c (fun _ _ h=>h)) (aS (aS U hf id) c id) (fun k B=>⟨fun h=>by have:=f k B;have:=o k h;omega,fun e=>x (e▸B)⟩) (fun h=>by have p:=o _ h;have z:cO<w.heap.size:=cl (U 0 0 rfl);omega) C rc ⟨ai.2,fun h=>by have:=f _ h;have:=hf.size;omega,fun h=>by have:=t.lt _ h;omega⟩ aj (by omega))
 have R:=ae (HW.out _ _ V);have I:Hid (∀w1 w2 w3 EL e,GM w w1->(∀k,EL.has k->w.heap.size<=k)->eJ w1 EL W (fun _=>0)->GM w1 w2->xt (dY m Pg W Fs Us Hg mp) L EL W Rm S G ls top w2 e w3->∃(j:je) (Y Z:Int),e= .returned (.tuple #[.agg #[((j.no:Int):Int),((j.nw:Int):Int),(Y:Int),(Z:Int)],(0:Int)])/\eJ w3 EL W j.E/\et w3/\(∃S',dY m Pg W Fs Us Hg mp L S' w3)/\(∀s,j.E s≠0->lo<=s/\s+j.E s<=top)/\∀w4,GM w3 w4->Gd m Pg W Fs Us Hg mp L S G ls w (.returned (.tuple #[.pointer (some ⟨EL.m,0,none⟩),(0:Int)])) w4):=by
  show∀w1 w2 w3 EL e,_
  rintro w1 w2 w3 EL e hf o t c ⟨j,Y,Z,S',rfl,q1,q2,q3,q4,q5,q6⟩;have z1:=hf.size;have z2:=c.size;have af:=t.lt;have ak:cO<w.heap.size:=cl (U 0 0 rfl);refine ⟨j,Y,Z,rfl,q3,aS (aS (aS U hf id) c id) q6 (fun h=> ?_),⟨S',q1⟩,fun s hs=> ?_,?_⟩
  ·rcases h with h|h
   ·exact x h
   ·have:=o _ h;unfold cO at ak;omega
  ·have p:=q4.marked s hs;have z:G.size s≠0:=by rw [<-p.2];exact hs
   exact ⟨X s z,by rw [p.2];exact hG.top s z⟩
  ·intro w4 y;refine ⟨EL,j.E,S',rfl,d.Qa q1 y,fun k B=> ?_,fun k B h=> ?_,q3.frame y (fun _ _ h=>h),q5,q4.marked,o,?_⟩
   ·rcases q2 k B with h|h
    ·exact .inl h
    ·exact .inr (by omega)
   ·rcases q2 k B with p|p
    ·have:=f k p;have:=o k h;omega
    ·have:=af k h;omega
   ·exact ((((hf.trans c GN).mono (S':=S) GN).trans q6 (fun k h=>by
     rcases h with h|h
     ·exact .inl h
     ·exact .inr (o k h)))).trans y GN
 clear V hr U x hG hO h4 h5 f d X
 go_enter func151,ntmps151
 go_wp2_with fail
 refine R.out.mono ?_;rintro e w1 ⟨rfl,rfl⟩;clear R;go_wp2_with fail
 refine O.out.mono ?_;rintro e w1 ⟨EL,rfl,t,o,hf⟩;have D:=ae (F.out w1 hf);clear O F;go_wp2_with fail
 refine D.out.mono ?_;rintro e w2 ⟨C,rc,rfl,r1,r2,r3,c⟩;have M:=ae (N.out w1 w2 EL hf o t c C rc ⟨r1,r2⟩ r3);have H:=ae (fun w3 e h=>I.out w1 w2 w3 EL e hf o t c h);clear r1 r2 r3 c hf o t D N I;go_wp2_with fail
 refine M.out.mono ?_;intro e w3 hp;obtain ⟨j,Y,Z,rfl,g1,g2,⟨S3,g3⟩,g4,g5⟩:=H.out _ _ hp;clear hp M H;have P:=ae (fun w4 (hf:GM w3 w4)=>oS (g1.frame hf (fun _ _ h=>h)) (aS g2 hf id) 0 (by omega));have K:=ae (fun w4 (hf:GM w3 w4)=>wX (g1.frame hf (fun _ _ h=>h)) (aS g2 hf id) top u (fun s hs=>(g4 s hs).2));have T:=ae (fun w4 (hf:GM w3 w4)=>HW.out w4 S3 ((cw m Pg W Fs Us Hg mp).Qa g3 hf));have J:Hid (∀w4 e w5,gZ j.E W 0 w4 e w5->w4=w5/\∃(s n:Int) (is:Bool),e= .returned (.tuple #[(s:Int),(n:Int),.bool is])/\(is&&decide (s<(lo:Int)))=false):=by
  show∀w4 e w5,_
  intro w4 e w5 hp;unfold gZ at hp;rcases hp with ⟨⟨s,n,p,h5,h3⟩|⟨_,p⟩,z⟩
  ·have h4:=(g4 s (eY.1 p.2.2.1)).1;exact ⟨z,_,_,_,h3,by rw [bQ,az];omega⟩
  ·exact ⟨z,_,_,_,p,rfl⟩
 have HQ:=ae g5;clear g1 g2 g3 g4 g5 HW;obtain ⟨A,hA⟩:∃A,A=w3.alloc (.cells #[((j.no:Int):Int),((j.nw:Int):Int),(Y:Int),(Z:Int)] 136):=⟨_,rfl⟩;have l:GM w3 A:=by rw [hA];exact (GQ _ _).alloc _
 have v:=ae (P.out A l);have q:=ae (K.out A l);have r:=ae (T.out A l);have Q:=ae (HQ.out A l);clear l P K T HQ;rw [show ((0:Nat):Int)=0 from rfl] at v
 go_upto_region 3 with fail
 rw [<-hA];clear hA;go_wp2_with fail
 refine v.out.mono ?_;intro e w5 hp;obtain ⟨rfl,s,n,is,rfl,f⟩:=J.out _ _ _ hp;clear hp v J
 cases is with
 |false=>
  clear f;go_wp2_with fail
  refine r.out.mono ?_;rintro e w6 ⟨rfl,rfl⟩;go_wp2_with fail
  refine q.out.mono ?_;rintro e w7 ⟨rfl,rfl⟩;clear r q;go_wp2;refine bodyPost_ret (results_tmp2 rfl _ _ _) rfl ?_;exact Q.out
 |true=>
  rw [bQ,az] at f;go_wp2_with fail
  refine r.out.mono ?_;rintro e w6 ⟨rfl,rfl⟩;go_wp2_with fail
  refine q.out.mono ?_;rintro e w7 ⟨rfl,rfl⟩;clear r q;go_wp2;refine bodyPost_ret (results_tmp2 rfl _ _ _) rfl ?_;exact Q.out
def nN(L F:Nat->Nat)(a np i:Nat):Nat:=if 1<=i/\i<=np/\L (a+i)≠0 then F (L (a+i)) else L (a+i)
def rZ(L F:Nat->Nat)(a z np n:Nat):Nat->Nat:=fun k=>if z<=k/\k<z+n then nN L F a np (k-z) else L k
theorem BF(L F:Nat->Nat)(a z b:Nat):rZ L F a z b 0=L:=by
 funext k;unfold rZ;rw [aE (by omega)]
theorem BG(L F:Nat->Nat)(a z b n:Nat):ej (rZ L F a z b n) (z+n) (nN L F a b n)=rZ L F a z b (n+1):=by
 funext k;show (if k=z+n then nN L F a b n else if z<=k/\k<z+n then nN L F a b (k-z) else L k)=if z<=k/\k<z+(n+1) then nN L F a b (k-z) else L k
 by_cases h:k=z+n
 ·subst h;rw [aG rfl,aG (by omega),show z+n-z=n by omega]
 ·rw [aE h];by_cases c:z<=k/\k<z+n
  ·rw [aG c,aG (by omega)]
  ·rw [aE c,aE (by omega)]
theorem zw(L F:Nat->Nat){a z:Nat}(b n:Nat)(d:z<=a){k:Nat}(c:a+n<=k):rZ L F a z b n k=L k:=by
 unfold rZ;rw [aE (by omega)]
section
variable{m Pg W Fs Us Hg:Nat}{mp:Nat->Bool}{L:Nat->Nat}{S:Nat->Prop}{w w1:World}
theorem dY.Qa(h:dY m Pg W Fs Us Hg mp L S w)(hf:GM w w1):dY m Pg W Fs Us Hg mp L S w1:=(cw m Pg W Fs Us Hg mp).Qa h hf
theorem zE(h:dY m Pg W Fs Us Hg mp L S w)(a:Nat)(b:dD W Pg mp a):Calls prog 223 #[m,(a:Int)] w fun e w'=>e= .returned (.tuple #[.int .u64 ((L a:Nat):Int),(0:Int)])/\GM w w':=by
 obtain ⟨M,c,d⟩:=h;exact (jt c a b.1 b.2).mono (fun e w' ⟨f,g⟩=>⟨by rw [f,d a b],g⟩)
theorem v9(h:dY m Pg W Fs Us Hg mp L S w)(a x:Nat)(c:dD W Pg mp a)(l:x<18446744073709551616):Calls prog 224 #[m,(a:Int),.int .u64 x] w fun e w'=>e= .returned (0:Int)/\dY m Pg W Fs Us Hg mp (ej L a x) S w'/\Fr S w w':=by
 obtain ⟨M,d,f⟩:=h;exact (oL d a x c.1 c.2 l).mono (fun e w' ⟨g,i,j⟩=>⟨g,⟨ej M a x,i,fun b k=>by
  unfold ej;split
  ·rfl
  ·exact f b k⟩,j⟩)
theorem mi(h:dY m Pg W Fs Us Hg mp L S w)(a p f g:Nat)(j:1<=a)(l:dD W Pg mp a)(n:jb L a p f g):Calls prog 88 #[.iface 112 (.pointer (some ⟨m,0,none⟩)),(a:Int)] w fun e w'=>e= .returned (.tuple #[gD p f g,(0:Int)])/\∃S',dY m Pg W Fs Us Hg mp L S' w'/\Fr S w w'/\∀k,S' k->S k\/w.heap.size<=k:=
 (jX (cw m Pg W Fs Us Hg mp) h a p f g j l n).mono (fun _ _ ⟨b,S2,c,d,i⟩=>⟨b,S2,c,d,i⟩)
end
section
variable{m Pg W Fs Us Hg:Nat}{mp:Nat->Bool}{L:Nat->Nat}{S:Nat->Prop}{w w1:World}
def Fg(m Pg W Fs Us Hg:Nat)(mp:Nat->Bool)(L:Nat->Nat)(S:Nat->Prop)(w:World)(e:Ending)(w':World):Prop:=e= .returned (.tuple #[])/\∃S':Nat->Prop,dY m Pg W Fs Us Hg mp L S' w'/\Fr S w w'/\∀k,S' k->S k\/w.heap.size<=k
def As(m Pg W Fs Us Hg:Nat)(mp:Nat->Bool)(L:Nat->Nat)(S1:Nat->Prop)(w w3 wr:World)(S:Nat->Prop)(q:Nat)(cs:List Value):Prop:=dY m Pg W Fs Us Hg mp L S1 wr/\Fr S1 w3 wr/\Fr S w wr/\aJ wr q cs 31/\¬S1 q/\∀k,S1 k->S k\/w.heap.size<=k
theorem As.Fh{a:Nat->Prop}{w3 wr:World}{q:Nat}{cs:List Value}(h:As m Pg W Fs Us Hg mp L a w w3 wr S q cs)(hf:GM wr w1):As m Pg W Fs Us Hg mp L a w w3 w1 S q cs:=
 ⟨h.1.Qa hf,h.2.1.trans hf GN,h.2.2.1.trans hf GN,h.2.2.2.1.frame hf id,h.2.2.2.2⟩
theorem As.put{b:Nat->Nat}{a:Nat->Prop}{w3 wr:World}{q:Nat}{cs:List Value}(h:As m Pg W Fs Us Hg mp L a w w3 wr S q cs)(d:dY m Pg W Fs Us Hg mp b a w1)(hf:Fr a wr w1):As m Pg W Fs Us Hg mp b a w w3 w1 S q cs:=
 ⟨d,h.2.1.trans hf (fun _ h=> .inl h),h.2.2.1.trans hf (fun k c=>h.2.2.2.2.2 k c),h.2.2.2.1.frame hf h.2.2.2.2.1,h.2.2.2.2⟩
theorem zl{lo hi p k Ba:Nat}{E:Nat->Nat}(h:dY m Pg W Fs Us Hg mp L S w)(hF:gU lo hi w p W k E Ba)(aq:∀j,S j->j<lo\/hi<=j)(hb:Ba<=1048576)(a n z b u v:Nat)(ha:1<=a)(ho:jb L a b u v)(hn:n=1+(b+u+v))(hE:E a=n)(hz:goes E Ba a=z)(aC:z<=a)(aN:a+n<=W)(hW:W<=524288)
  (hd:∀j,a<=j->j<a+n->dD W Pg mp j/\L j<18446744073709551616) (ar:∀j,z<=j->j<z+n->dD W Pg mp j) (hp:∀i,1<=i->i<=b->L (a+i)≠0->aI E (L (a+i))=true/\L (a+i)<W):
  Calls prog 155 #[m,p,(a:Int),(n:Int)] w (Fg m Pg W Fs Us Hg mp (rZ L (goes E Ba) a z b n) S w):=by
 have hN:b+u+v<256:=by have:=ho.2;unfold eO at this;omega
 have aY:∀j,S j->j<w.heap.size:=fun j hj=>(cw m Pg W Fs Us Hg mp).lt _ _ _ h j hj
 have al:=ae (mi h a b u v ha (hd a (ak _) (by omega)).1 ho);have T:=ae (fun (w1:World) (x:Nat) (hf:Fr S w w1) (hx:aI E x=true) (aB:x<W)=>tl (hF.frame hf aq) hb x hx aB);have az:aI E a=true:=by have:=nI (E:=E) (s:=a) (i:=0) (by omega);rwa [bg] at this
 have U:=ae (fun w1 hf=>T.out w1 a hf az (by omega));rw [hz] at U;have M:=ae (fun (i:Int) w1=>oO b u v i ho.2 w1);have aK:=ae (fun (l:Nat->Prop) w3 q cs i wr (V:i<n) (A:As m Pg W Fs Us Hg mp (rZ L (goes E Ba) a z b i) l w w3 wr S q cs)=>(zE A.1 (a+i) (hd _ (by omega) (by omega)).1).mono (fun e w' ⟨d,r⟩=>(⟨by rw [d,zw L _ b i aC (ak _)],A.Fh r⟩:e=Ending.returned (.tuple #[.int .u64 ((L (a+i):Nat):Int),(0:Int)])/\As m Pg W Fs Us Hg mp (rZ L (goes E Ba) a z b i) l w w3 w' S q cs)));have av:∀i,i<n->nN L (goes E Ba) a b i<18446744073709551616:=by
  intro i V;unfold nN;split
  ·rename_i hc;have d:=hp i hc.1 hc.2.1 hc.2.2;have r:=fZ (aI E) (L (a+i));unfold goes;omega
  ·exact (hd _ (by omega) (by omega)).2
 have R:=ae (fun (l:Nat->Prop) w3 q cs i wr (V:i<n) (A:As m Pg W Fs Us Hg mp (rZ L (goes E Ba) a z b i) l w w3 wr S q cs)=>(v9 A.1 (z+i) (nN L (goes E Ba) a b i) (ar _ (by omega) (by omega)) (av i V)).mono (fun e w' ⟨d,r,h3⟩=>(⟨d,by rw [BG] at r;exact A.put r h3⟩:e=Ending.returned (0:Int)/\As m Pg W Fs Us Hg mp (rZ L (goes E Ba) a z b (i+1)) l w w3 w' S q cs)));have ah:∀i:Nat,1<=i->i<=b->fg b u v ((i:Int)-1)=1:=fun i d r=>by
  unfold fg;rw [gg,aG ho.2,aE (by omega),aG (by omega)]
 have af:∀i:Nat,¬(1<=i/\i<=b)->¬fg b u v ((i:Int)-1)=1:=fun i d=>by
  unfold fg;split
  ·decide
  ·rw [aE (by omega)];split<;>decide
 have aH:=ae (fun (i:Nat) w1 (d:1<=i) (r:i<=b)=>by have:=M.out ((i:Int)-1) w1;rw [ah i d r] at this;exact this);have aF:=ae (fun (i:Nat) w1 (d:¬(1<=i/\i<=b))=>(⟨_,af i d,M.out ((i:Int)-1) w1⟩:∃K:Int,¬K=1/\Calls prog 195 #[gD b u v,(((i:Int)-1):Int)] w1 (jO w1 K)));have aM:=ae (fun (w1:World) (i:Nat) (hf:Fr S w w1) (d:1<=i/\i<=b) (r:L (a+i)≠0)=>T.out w1 (L (a+i)) hf (hp i d.1 d.2 r).1 (hp i d.1 d.2 r).2);have aL:=ae (fun (i:Nat) (d:1<=i/\i<=b) (r:L (a+i)≠0)=>(hp i d.1 d.2 r).2);have aD:=ae (fun (i:Nat) (d:1<=i/\i<=b) (r:L (a+i)≠0)=>(show goes E Ba (L (a+i))<=2097152 from by
  have h3:=(hp i d.1 d.2 r).2;have h4:=fZ (aI E) (L (a+i));unfold goes;omega))
 have P:Hid ((prog.info? 31).map (·.size)=some 3):=by show _=_;kernel_rfl
 have ad:Hid (∀l w3 wr q cs,As m Pg W Fs Us Hg mp (rZ L (goes E Ba) a z b n) l w w3 wr S q cs->Fg m Pg W Fs Us Hg mp (rZ L (goes E Ba) a z b n) S w (.returned (.tuple #[])) wr):=by
  show∀l w3 wr q cs,_
  exact fun l w3 wr q cs A=>⟨rfl,l,A.1,A.2.2.1,A.2.2.2.2.2⟩
 have aP:n<=256:=by omega
 have a5:z<=1048576:=by omega
 have aR:a<=1048576:=by omega
 have ay:=(fun S2 (w2:World) (r:dY m Pg W Fs Us Hg mp L S2 w2)=>(cw m Pg W Fs Us Hg mp).lt _ _ _ r);have aj:=ae ay;unfold jO at*;generalize (Fg m Pg W Fs Us Hg mp (rZ L (goes E Ba) a z b n) S w)=Q at*;clear h hF aq hb ho hn hE hz aC aN hd ar hp hN az M ah af av ay T;unfold gD at*
 go_enter func155,ntmps155
 go_wp2_with fail
 refine al.out.mono ?_;rintro e J ⟨rfl,l,g1,g2,g3⟩;have hH:∀D,D=J.alloc (.cells #[(b:Int),(u:Int),(v:Int)] 31)->As m Pg W Fs Us Hg mp (rZ L (goes E Ba) a z b 0) l w D D S J.heap.size [(b:Int),(u:Int),(v:Int)]:=by
  rintro D rfl;have hf:GM J (J.alloc (.cells #[(b:Int),(u:Int),(v:Int)] 31)):=(GQ _ _).alloc _;exact ⟨by rw [BF];exact g1.Qa hf,GQ _ _,g2.trans hf GN,aJ.new J _ _,fun h=>by have:=aj.out _ _ g1 _ h;omega,g3⟩
 have HH:=ae hH;clear g1 g2 g3 hH al aj
 go_upto_region 1 with fail
 have H:=HH.out _ rfl;generalize J.alloc (.cells #[(b:Int),(u:Int),(v:Int)] 31)=D at*;have am:=ae (U.out D H.2.2.1);have H0:=ae H;clear H HH U;generalize J.heap.size=q at*;clear J;go_wp2_with fail
 refine am.out.mono ?_;rintro e w4 ⟨rfl,au⟩;have H1:=ae (H0.out.Fh au);clear au H0 am;go_wp2
 go_loopw [31] (fun x wr=>∃(i:Nat),x= .int .i64 i/\i<=n/\Hid (As m Pg W Fs Us Hg mp (rZ L (goes E Ba) a z b i) l w D wr S q [(b:Int),(u:Int),(v:Int)])) (fun x _=>(n-intOf x).toNat)
 case atStart=>exact ⟨0,rfl,by omega,H1⟩
 case round=>
  clear H1;obtain ⟨i,rfl,d,A⟩:=hrel;by_cases I:i<n
  ·have aQ:(i:Int)<(n:Int):=by omega
   have aZ:IntKind.i64.wrap ((a:Int)+(i:Int))=(a:Int)+(i:Int):=by rw [IntKind.wrap_i64];omega
   have a0:IntKind.i64.wrap ((i:Int)-1)=(i:Int)-1:=by rw [IntKind.wrap_i64];omega
   have a1:IntKind.i64.wrap ((z:Int)+(i:Int))=(z:Int)+(i:Int):=by rw [IntKind.wrap_i64];omega
   have N:=aK.out l D q _ i wr I A.out;rw [show ((a+i:Nat):Int)=(a:Int)+(i:Int) by push_cast;rfl] at N;have ai:=ae N;clear N A;go_wp2_with fail
   refine ai.out.mono ?_;rintro e w5 ⟨rfl,Z⟩;have B:=ae Z.2.2.2.1;have C:=ae Z;clear Z ai;by_cases c:1<=i/\i<=b
   ·have y:=ae (aH.out i w5 c.1 c.2);by_cases H:L (a+i)=0
    ·rw [H];go_wp2_with (refine wpList_load_row rfl 31 _ rfl q rfl 31 #[(b:Int),(u:Int),(v:Int)] _ _ B.out underlying31 rfl P.out ?_)
     refine y.out.mono ?_;rintro e w6 ⟨rfl,f⟩;have g:=R.out l D q _ i w6 I (C.out.Fh f);rw [show ((z+i:Nat):Int)=(z:Int)+(i:Int) by push_cast;rfl,show nN L (goes E Ba) a b i=0 by unfold nN;rw [aE (fun hh=>hh.2.2 H),H],show ((0:Nat):Int)=0 from rfl] at g;have o:=ae g;clear g f C B y;go_wp2_with fail
     refine o.out.mono ?_;rintro e w7 ⟨rfl,t⟩;have F:=ae t;clear t o;go_wp2;go_roundw
     case rel=>exact ⟨i+1,by go_num,by omega,F⟩
     case measure=>simp [intOf];omega
    ·have aB:=aL.out i c H;have an:=ae (fun w6 hf=>aM.out w6 i hf c H);have aw:nN L (goes E Ba) a b i=goes E Ba (L (a+i)):=by unfold nN;rw [aG ⟨c.1,c.2,H⟩]
     have aT:goes E Ba (L (a+i))<=2097152:=aD.out i c H;have G:=ae (fun w6 h=>R.out l D q [(b:Int),(u:Int),(v:Int)] i w6 I h);rw [show ((z+i:Nat):Int)=(z:Int)+(i:Int) by push_cast;rfl,aw] at G;have a2:¬((L (a+i):Nat):Int)=0:=by omega
     have a3:IntKind.i64.wrap ((L (a+i):Nat):Int)=((L (a+i):Nat):Int):=by rw [IntKind.wrap_i64];omega
     have a4:IntKind.u64.wrap ((goes E Ba (L (a+i)):Nat):Int)=((goes E Ba (L (a+i)):Nat):Int):=by rw [IntKind.wrap_u64];omega
     clear aw;generalize goes E Ba (L (a+i))=Y at*;generalize L (a+i)=X at*;go_wp2_with (refine wpList_load_row rfl 31 _ rfl q rfl 31 #[(b:Int),(u:Int),(v:Int)] _ _ B.out underlying31 rfl P.out ?_)
     refine y.out.mono ?_;rintro e w6 ⟨rfl,f⟩;have O:=ae (C.out.Fh f);have ao:=ae (an.out w6 O.out.2.2.1);clear f C B y an;go_wp2_with fail
     refine ao.out.mono ?_;rintro e a6 ⟨rfl,f⟩;have g:=G.out _ (O.out.Fh f);have o:=ae g;clear g f O ao G;go_wp2_with fail
     refine o.out.mono ?_;rintro e w7 ⟨rfl,t⟩;have F:=ae t;clear t o;go_wp2;go_roundw
     case rel=>exact ⟨i+1,by go_num,by omega,F⟩
     case measure=>simp [intOf];omega
   ·obtain ⟨K,hK,ap⟩:=aF.out i w5 c;have y:=ae ap;clear ap;go_wp2_with (refine wpList_load_row rfl 31 _ rfl q rfl 31 #[(b:Int),(u:Int),(v:Int)] _ _ B.out underlying31 rfl P.out ?_)
    refine y.out.mono ?_;rintro e w6 ⟨rfl,f⟩;have g:=R.out l D q _ i w6 I (C.out.Fh f);rw [show ((z+i:Nat):Int)=(z:Int)+(i:Int) by push_cast;rfl,show nN L (goes E Ba) a b i=L (a+i) by unfold nN;rw [aE (fun hh=>c ⟨hh.1,hh.2.1⟩)]] at g;have o:=ae g;clear g f C B y;go_wp2_with fail
    refine o.out.mono ?_;rintro e w7 ⟨rfl,t⟩;have F:=ae t;clear t o;go_wp2;go_roundw
    case rel=>exact ⟨i+1,by go_num,by omega,F⟩
    case measure=>simp [intOf];omega
  ·have ax:i=n:=by omega
   have aX:¬(i:Int)<(n:Int):=by omega
   have HQ:=ae (ad.out l D wr q _ (by rw [ax] at A;exact A.out));clear A d I ax;go_wp2;go_end0;exact HQ.out
end
theorem Dr{lo m:Nat}{w:World}{p W k Ba:Nat}{E:Nat->Nat}(f:gU lo m w p W k E Ba)(h:Ba<=1048576)(c a:Nat)(i:aJ w c [p] 235)(g:aI E a=true)(b:a<W):
  Calls prog 156 #[(a:Int),c] w fun e w'=>e= .returned (.int .i64 ((goes E Ba a:Nat):Int))/\GM w w':=by
 have d:=ae (tl f h a g b);have l:=i.cell 0 rfl;generalize goes E Ba a=Y at*;clear f h i g b
 go_enter func156,ntmps156
 go_wp2_with fail
 refine d.out.mono ?_;rintro e w1 ⟨rfl,hf⟩;have j:=ae hf;clear hf d l;go_wp2;go_ret;exact ⟨rfl,j.out⟩
structure Eu(L F:Nat->Nat)(np:Nat->Nat)(go:Nat->Nat)(pre:List (Nat×Nat))(M:Nat->Nat):Prop where
 Qt:∀x∈pre,∀i,i<x.2->M (go x.1+i)=nN L F x.1 (np x.1) i
 still:∀k,(∀x∈pre,x.1+x.2<=k)->M k=L k
theorem Eu.none(L F b a:Nat->Nat):Eu L F b a [] L:=⟨fun _ h=>absurd h (bq),fun _ _=>rfl⟩
theorem Eu.step{L F d c M:Nat->Nat}{b:List (Nat×Nat)}{x:Nat×Nat}(h:Eu L F d c b M)(g:∀y∈b,y.1+y.2<=x.1)(j:∀y∈b,c y.1+y.2<=c x.1)(n:c x.1<=x.1):
  Eu L F d c (b++[x]) (rZ M F x.1 (c x.1) (d x.1) x.2):=by
 have m:∀i,M (x.1+i)=L (x.1+i):=fun i=>h.still _ (fun y a=>by have:=g y a;omega)
 constructor
 ·intro y a i e;rcases bB.1 a with a|a
  ·have l:=j y a;unfold rZ;rw [aE (by omega)];exact h.Qt y a i e
  ·rw [bP.1 a] at e ⊢;unfold rZ;rw [aG (by omega),show c x.1+i-c x.1=i by omega];unfold nN;rw [m]
 ·intro k f;have l:=f x (List.mem_append_right _ (bP.2 rfl));unfold rZ;rw [aE (by omega)];exact h.still k (fun y a=>f y (dg _ a))
structure AG where
 np:Nat->Nat
 nf:Nat->Nat
 ng:Nat->Nat
 Qk:Nat->Nat->Nat
def AG.sz(A:AG)(x:Nat):Nat:=1+(A.np x+A.nf x+A.ng x)
def AG.gr(A:AG):Gr:=⟨A.sz,fun x=>(List.range (A.np x)).map (A.Qk x)⟩
structure cP(A:AG)(rs:List Nat)(φ L:Nat->Nat)(lo hi:Nat):Prop where
 zero:φ 0=0
 one:1<=lo
 Qn:∀x,Reach A.gr rs x->lo<=φ x/\φ x+A.sz x<=hi
 apart:∀x y,Reach A.gr rs x->Reach A.gr rs y->x≠y->φ x+A.sz x<=φ y\/φ y+A.sz y<=φ x
 head:∀x,Reach A.gr rs x->jb L (φ x) (A.np x) (A.nf x) (A.ng x)
 ptr:∀x,Reach A.gr rs x->∀i,i<A.np x->L (φ x+1+i)=φ (A.Qk x i)
 val:∀x,Reach A.gr rs x->∀i,A.np x<=i->i<A.np x+A.nf x+A.ng x->L (φ x+1+i)=A.Qk x i/\A.Qk x i<18446744073709551616
section
variable{A:AG}{rs:List Nat}{φ L:Nat->Nat}{lo hi:Nat}
theorem ji(φ:Nat->Nat)(y k:Nat):φ y+1+k=φ y+(1+k):=bW _ _ _
theorem cP.inj(h:cP A rs φ L lo hi){x y:Nat}(c:Reach A.gr rs x)(d:Reach A.gr rs y)(e:φ x=φ y):x=y:=by
 rcases aY 0 1 with _|_
 ·by_cases a:x=y
  ·exact a
  ·have f:1<=A.sz x:=by unfold AG.sz;omega
   have g:1<=A.sz y:=by unfold AG.sz;omega
   rcases h.apart x y c d a with b|b<;>omega
 ·omega
theorem AG.Ql{x i:Nat}(b:Reach A.gr rs x)(hi:i<A.np x)(a:A.Qk x i≠0):Reach A.gr rs (A.Qk x i):=
 .step b (bu.2 ⟨i,bv.2 hi,rfl⟩) a
theorem cP.pos(h:cP A rs φ L lo hi){x:Nat}(a:Reach A.gr rs x):1<=φ x:=by have:=(h.Qn x a).1;have:=h.one;omega
structure gH(A:AG)(rs:List Nat)(φ:Nat->Nat)(G:Gr):Prop where
 size:∀x,Reach A.gr rs x->G.size (φ x)=A.sz x
 some:∀a,G.size a≠0->∃x,Reach A.gr rs x/\φ x=a
 Qr:∀x,Reach A.gr rs x->G.Qr (φ x)=(List.range (A.np x)).map (fun i=>φ (A.Qk x i))
theorem cP.conc(h:cP A rs φ L lo hi):∃G,gH A rs φ G:=by
 classical
 refine ⟨⟨fun a=>if h:∃x,Reach A.gr rs x/\φ x=a then A.sz h.choose else 0,fun a=>if h:∃x,Reach A.gr rs x/\φ x=a then (List.range (A.np h.choose)).map (fun i=>φ (A.Qk h.choose i)) else []⟩,fun x c=> ?_,fun a d=> ?_,fun x c=> ?_⟩
 ·have b:∃y,Reach A.gr rs y/\φ y=φ x:=⟨x,c,rfl⟩;show (if h:∃y,Reach A.gr rs y/\φ y=φ x then A.sz h.choose else 0)=_
  rw [mn b,h.inj b.choose_spec.1 c b.choose_spec.2]
 ·by_cases b:∃y,Reach A.gr rs y/\φ y=a
  ·exact b
  ·exact absurd (dif_neg b) d
 ·have b:∃y,Reach A.gr rs y/\φ y=φ x:=⟨x,c,rfl⟩;show (if h:∃y,Reach A.gr rs y/\φ y=φ x then (List.range (A.np h.choose)).map (fun i=>φ (A.Qk h.choose i)) else [])=_
  rw [mn b,h.inj b.choose_spec.1 c b.choose_spec.2]
variable{G:Gr}
theorem gH.reach(h:cP A rs φ L lo hi)(c:gH A rs φ G)(a:Nat):Reach G (rs.map φ) a↔∃x,Reach A.gr rs x/\φ x=a:=by
 constructor
 ·intro d
  induction d with
  |root h1 h2=>
   obtain ⟨x,b,rfl⟩:=bu.1 h1;exact ⟨x,.root b (fun e=>h2 (by rw [e];exact h.zero)),rfl⟩
  |step _ h1 h2 ih=>
   obtain ⟨x,b,rfl⟩:=ih;rw [c.Qr x b] at h1;obtain ⟨i,hi,rfl⟩:=bu.1 h1;exact ⟨_,AG.Ql b (bv.1 hi) (fun e=>h2 (by rw [e];exact h.zero)),rfl⟩
 ·rintro ⟨x,b,rfl⟩
  induction b with
  |root h1 h2=>exact .root (bu.2 ⟨_,h1,rfl⟩) (by have:=h.pos (.root h1 h2);omega)
  | @step a p h0 h1 h2 ih=>
   obtain ⟨i,hi,rfl⟩:=bu.1 h1;exact .step ih (by rw [c.Qr a h0];exact bu.2 ⟨i,hi,rfl⟩) (by have:=h.pos (.step h0 h1 h2);omega)
theorem gH.sound(h:cP A rs φ L lo hi)(d:gH A rs φ G):gw G (rs.map φ) hi:=by
 have k:∀x,Reach A.gr rs x->G.size (φ x)≠0:=fun x c=>by rw [d.size x c];unfold AG.sz;omega
 refine ⟨fun a b l f m=> ?_,fun a f=> ?_,fun a f g=> ?_,fun a f p hp g=> ?_⟩
 ·obtain ⟨x,c,rfl⟩:=d.some a f;obtain ⟨y,i,rfl⟩:=d.some b m;rw [d.size x c];rcases h.apart x y c i (fun e=>by subst e;omega) with j|j
  ·exact j
  ·have:1<=A.sz y:=by unfold AG.sz;omega
   omega
 ·obtain ⟨x,c,rfl⟩:=d.some a f;rw [d.size x c];exact (h.Qn x c).2
 ·obtain ⟨x,c,rfl⟩:=(gH.reach h d a).1 (.root f g);exact k x c
 ·obtain ⟨x,c,rfl⟩:=d.some a f;obtain ⟨y,i,rfl⟩:=(gH.reach h d p).1 (.step ((gH.reach h d _).2 ⟨x,c,rfl⟩) hp g);exact k y i
theorem gH.obj(h:cP A rs φ L lo hi)(c:gH A rs φ G){dom:Nat->Prop}(j:∀a,lo<=a->a<hi->dom a)(l:hi<=2147483648)(a:Nat)(g:G.size a≠0):jy L dom G a:=by
 obtain ⟨x,b,rfl⟩:=c.some a g;have m:=h.Qn x b;refine ⟨A.np x,A.nf x,A.ng x,h.head x b,c.size x b,?_,fun k e f=>j k (by omega) (by rw [c.size x b] at f;omega),fun i hi=> ?_⟩
 ·rw [c.Qr x b];exact eI (fun i hi=>(h.ptr x b i (bv.1 hi)).symm)
 ·rw [h.ptr x b i hi];by_cases d:A.Qk x i=0
  ·rw [d,h.zero];omega
  ·have e:=h.Qn _ (AG.Ql b hi d);have:1<=A.sz (A.Qk x i):=by unfold AG.sz;omega
   omega
theorem gH.low(h:cP A rs φ L lo hi)(c:gH A rs φ G)(a:Nat)(b:G.size a≠0):lo<=a:=by
 obtain ⟨x,d,rfl⟩:=c.some a b;exact (h.Qn x d).1
structure lX(A:AG)(rs:List Nat)(φ E:Nat->Nat):Prop where
 size:∀x,Reach A.gr rs x->E (φ x)=A.sz x
 some:∀a,E a≠0->∃x,Reach A.gr rs x/\φ x=a
theorem gH.ext(h:cP A rs φ L lo hi)(b:gH A rs φ G){E:Nat->Nat}(c:∀a,E a≠0↔Reach G (rs.map φ) a)(e:fQ G (rs.map φ) E):lX A rs φ E:=
 ⟨fun x d=>by rw [(e (φ x) ((c _).2 ((gH.reach h b _).2 ⟨x,d,rfl⟩))).2];exact b.size x d,fun a f=>(gH.reach h b a).1 ((c a).1 f)⟩
def rY(F φ:Nat->Nat)(x:Nat):Nat:=if x=0 then 0 else F (φ x)
theorem cP.slide(h:cP A rs φ L lo hi){E L':Nat->Nat}(l:lX A rs φ E){Ba:Nat}(m:1<=Ba)(g:∀x,Reach A.gr rs x->∀i,i<A.sz x->L' (goes E Ba (φ x)+i)=nN L (goes E Ba) (φ x) (A.np x) i):
  cP A rs (rY (goes E Ba) φ) L' Ba (Ba+Qb (aI E) 0 hi):=by
 have d:∀x,Reach A.gr rs x->rY (goes E Ba) φ x=goes E Ba (φ x):=fun x a=>aE a.pos
 have hg:∀x,Reach A.gr rs x->goes E Ba (φ x)+A.sz x=goes E Ba (φ x+A.sz x):=fun x a=>by
  rw [<-l.size x a];exact (pT (ak _)).symm
 refine ⟨aG rfl,m,fun x a=> ?_,fun x y a k j=> ?_,fun x a=> ?_,fun x a i hi=> ?_,fun x a i b c=> ?_⟩
 ·rw [d x a];refine ⟨by unfold goes;omega,?_⟩;rw [hg x a];exact jZ (h.Qn x a).2
 ·rw [d x a,d y k,hg x a,hg y k];rcases h.apart x y a k j with b|b
  ·exact .inl (jZ b)
  ·exact .inr (jZ b)
 ·rw [d x a];have b:=g x a 0 (by unfold AG.sz;omega);have c:=h.head x a;refine ⟨?_,c.2⟩;rw [bg] at b;rw [b];unfold nN;rw [aE (by omega),bg];exact c.1
 ·rw [d x a];have b:=g x a (1+i) (by unfold AG.sz;omega);have c:=h.ptr x a i hi;rw [<-bW] at b;rw [b];unfold nN;rw [<-bW,c];unfold rY;by_cases e:A.Qk x i=0
  ·rw [e,h.zero,aE (by omega),aG rfl]
  ·have f:=h.pos (AG.Ql a hi e);rw [aG (by omega),aE e]
 ·rw [d x a];have f:=g x a (1+i) (by unfold AG.sz;omega);rw [<-bW] at f;rw [f];unfold nN;rw [aE (by omega),<-bW];exact h.val x a i b c
def dE(A:AG)(rs l:List Nat):Prop:=l.Nodup/\∀x,x∈l↔Reach A.gr rs x
def AG.Wd(A:AG)(l:List Nat):Nat:=(l.map A.sz).sum
theorem sd{A:AG}{φ:Nat->Nat}{N:Nat}:∀(l:List Nat) (E:Nat->Nat),l.Nodup->(∀x∈l,E (φ x)=A.sz x)->(∀a,E a≠0->∃x∈l,φ x=a)->(∀x∈l,∀y∈l,x≠y->φ x+A.sz x<=φ y\/φ y+A.sz y<=φ x)->(∀x∈l,φ x+A.sz x<=N)->
  Qb (aI E) 0 N=A.Wd l/\Qb (dj E) 0 N=l.length
 |[],E,_,_,h2,_,_=>by
  have g:∀a,E a=0:=fun a=>by
   by_cases h:E a=0
   ·exact h
   ·obtain ⟨x,H,_⟩:=h2 a h;exact absurd H bq
  refine ⟨cu (fun i _ _=> ?_),cu (fun i _ _=> ?_)⟩
  ·rw [be];intro h;obtain ⟨s,C,B⟩:=cX.1 h;rw [g] at B;omega
  ·rw [be];intro h;exact eY.1 h (g i)
 |x::t,E,hn,h1,h2,h3,h4=>by
  obtain ⟨k,u⟩:=List.nodup_cons.1 hn;have c:∀y,1<=A.sz y:=fun y=>by unfold AG.sz;omega
  have r:∀y∈t,φ y≠φ x:=fun y b e=>by
   have D:x≠y:=fun e=>k (e▸b)
   have:=c x;have:=c y;rcases h3 x (cq) y (bx _ b) D with m|m<;>omega
  obtain ⟨f,d⟩:∃f,f=fun a=>if a=φ x then 0 else E a:=⟨_,rfl⟩
  have v:=h1 x cq;have p:E=ec f (φ x) (A.sz x):=by
   funext a;unfold ec;split
   ·next e=>rw [e];exact v
   ·next e=>rw [d];exact (aE e).symm
  have o:f (φ x)=0:=by rw [d];exact aG rfl
  have n:∀y∈t,f (φ y)=A.sz y:=fun y b=>by rw [d];show (if _ then _ else _)=_;rw [aE (r y b)];exact h1 y (bx _ b)
  have j:∀a,f a≠0->∃y∈t,φ y=a:=fun a q=>by
   rw [d] at q;have e:a≠φ x:=fun e=>q (aG e)
   obtain ⟨y,b,rfl⟩:=h2 a (fun g=>q (by show (if _ then _ else _)=_;rw [aE e];exact g));rcases bM.1 b with rfl|b
   ·exact absurd rfl e
   ·exact ⟨y,b,rfl⟩
  obtain ⟨C,B⟩:=sd t f u n j (fun y b z J=>h3 y (bx _ b) z (bx _ J)) (fun y b=>h4 y (bx _ b));have w:=h4 x cq;have I:=c x;rw [p];constructor
  ·rw [uz (by omega) (fun s F=> ?_) (fun s F g=> ?_) w,C]
   ·unfold AG.Wd;rw [cW,eu];omega
   ·by_cases g:f s=0
    ·omega
    ·obtain ⟨y,b,rfl⟩:=j s g;rw [n y b];have:=c y;rcases h3 x cq y (bx _ b) (fun e=>k (e▸b)) with m|m<;>omega
   ·obtain ⟨y,b,rfl⟩:=j s g;have:=c y;rcases h3 x cq y (bx _ b) (fun e=>k (e▸b)) with m|m<;>omega
  ·rw [mQ (by omega) o (by omega),B,bn]
theorem dE.Qb(h:cP A rs φ L lo hi){E:Nat->Nat}(d:lX A rs φ E){l:List Nat}(b:dE A rs l):Go.Proofs.YthahbijbpinneaaGreatDoor.Qb (aI E) 0 hi=A.Wd l/\Go.Proofs.YthahbijbpinneaaGreatDoor.Qb (dj E) 0 hi=l.length:=
 sd l E b.1 (fun x c=>d.size x ((b.2 x).1 c)) (fun a g=>let ⟨x,e,f⟩:=d.some a g;⟨x,(b.2 x).2 e,f⟩) (fun x c y i=>h.apart x y ((b.2 x).1 c) ((b.2 y).1 i)) (fun x c=>(h.Qn x ((b.2 x).1 c)).2)
theorem cP.less(h:cP A rs φ L lo hi){c:List Nat}(b:∀z,Reach A.gr c z->Reach A.gr rs z):cP A c φ L lo hi:=
 ⟨h.zero,h.one,fun x a=>h.Qn x (b x a),fun x y a d=>h.apart x y (b x a) (b y d),fun x a=>h.head x (b x a),fun x a=>h.ptr x (b x a),fun x a=>h.val x (b x a)⟩
theorem zf{G:Gr}{rs:List Nat}{i r z:Nat}(a:r=0\/Reach G rs r)(h:Reach G (rs.set i r) z):Reach G rs z:=by
 induction h with
 |root h1 h2=>
  rcases dh h1 with b|b
  ·exact .root b h2
  ·subst b;rcases a with a|a
   ·exact absurd a h2
   ·exact a
 |step _ h1 h2 ih=>exact .step ih h1 h2
theorem cP.congr(h:cP A rs φ L lo hi){L':Nat->Nat}(e:∀k,lo<=k->k<hi->L' k=L k):cP A rs φ L' lo hi:=by
 have c:∀x,Reach A.gr rs x->∀i,i<A.sz x->L' (φ x+i)=L (φ x+i):=fun x a i hi=>by have:=h.Qn x a;exact e _ (by omega) (by omega)
 refine ⟨h.zero,h.one,h.Qn,h.apart,fun x a=> ?_,fun x a i hi=> ?_,fun x a i b d=> ?_⟩
 ·have:=h.head x a;exact ⟨by have b:L' (φ x)=L (φ x):=c x a 0 (by unfold AG.sz;omega);rw [b];exact this.1,this.2⟩
 ·rw [ji,c x a (1+i) (by unfold AG.sz;omega),<-ji φ _ _];exact h.ptr x a i hi
 ·rw [ji,c x a (1+i) (by unfold AG.sz;omega),<-ji φ _ _];exact h.val x a i b d
theorem cP.wide(h:cP A rs φ L lo hi){hi':Nat}(b:hi<=hi'):cP A rs φ L lo hi':=⟨h.zero,h.one,fun x a=>⟨(h.Qn x a).1,by have:=(h.Qn x a).2;omega⟩,h.apart,h.head,h.ptr,h.val⟩
def AG.put(A:AG)(x i v:Nat):AG:={A with Qk:=fun y k=>if y=x/\k=i then v else A.Qk y k}
theorem AG.Yf{x i v z:Nat}(f:Reach A.gr rs x)(b:A.np x<=i\/v=0\/Reach A.gr rs v)(h:Reach (A.put x i v).gr rs z):Reach A.gr rs z:=by
 induction h with
 |root h1 h2=>exact .root h1 h2
 | @step a p _ h1 h2 ih=>
  obtain ⟨k,c,rfl⟩:=bu.1 h1;have c:=bv.1 c;by_cases e:a=x/\k=i
  ·have d:(A.put x i v).Qk a k=v:=aG e;rw [d] at h2 ⊢;obtain ⟨rfl,rfl⟩:=e;rcases b with b|b|b
   ·exact absurd (show k<A.np a from c) (by omega)
   ·exact absurd b h2
   ·exact b
  ·have d:(A.put x i v).Qk a k=A.Qk a k:=aE e;rw [d] at h2 ⊢;exact AG.Ql ih c h2
theorem cP.put_ptr(h:cP A rs φ L lo hi){x i v:Nat}(p:Reach A.gr rs x)(t:i<A.np x)(q:v=0\/Reach A.gr rs v):cP (A.put x i v) rs φ (ej L (φ x+1+i) (φ v)) lo hi:=by
 have b:∀z,Reach (A.put x i v).gr rs z->Reach A.gr rs z:=fun z n=>AG.Yf p (.inr q) n
 have u:∀z,(A.put x i v).sz z=A.sz z:=fun z=>rfl
 have m:∀y k,Reach A.gr rs y->k<A.sz y->¬(y=x/\k=1+i)->ej L (φ x+1+i) (φ v) (φ y+k)=L (φ y+k):=fun y k a l c=>by
  unfold ej;refine aE (fun e=> ?_);by_cases d:y=x
  ·subst d;exact c ⟨rfl,by omega⟩
  ·have:1+i<A.sz x:=by unfold AG.sz;omega
   rcases h.apart x y p a (Ne.symm d) with f|f<;>omega
 refine ⟨h.zero,h.one,fun y a=>h.Qn y (b y a),fun y z a n=>h.apart y z (b y a) (b z n),fun y a=> ?_,fun y a k l=> ?_,fun y a k f r=> ?_⟩
 ·have o:=h.head y (b y a);refine ⟨?_,o.2⟩;have s:ej L (φ x+1+i) (φ v) (φ y)=L (φ y):=m y 0 (b y a) (by unfold AG.sz;omega) (by omega);rw [s];exact o.1
 ·by_cases e:y=x/\k=i
  ·obtain ⟨rfl,rfl⟩:=e;rw [show (A.put y k v).Qk y k=v from aG ⟨rfl,rfl⟩];exact aG rfl
  ·rw [show (A.put x i v).Qk y k=A.Qk y k from aE e,ji φ y k,m y (1+k) (b y a) (by have:k<A.np y:=l;unfold AG.sz;omega) (by omega),<-ji φ _ _];exact h.ptr y (b y a) k l
 ·have g:A.np y<=k:=f;have j:k<A.np y+A.nf y+A.ng y:=r;have c:¬(y=x/\k=i):=fun e=>by obtain ⟨rfl,rfl⟩:=e;omega
  rw [show (A.put x i v).Qk y k=A.Qk y k from aE c,ji φ y k,m y (1+k) (b y a) (by unfold AG.sz;omega) (by omega),<-ji φ _ _];exact h.val y (b y a) k g j
theorem cP.Zb(h:cP A rs φ L lo hi){x i v:Nat}(r:Reach A.gr rs x)(g:A.np x<=i)(t:i<A.np x+A.nf x+A.ng x)(s:v<18446744073709551616):cP (A.put x i v) rs φ (ej L (φ x+1+i) v) lo hi:=by
 have b:∀z,Reach (A.put x i v).gr rs z->Reach A.gr rs z:=fun z p=>AG.Yf r (.inl g) p
 have o:∀y k,Reach A.gr rs y->k<A.sz y->¬(y=x/\k=1+i)->ej L (φ x+1+i) v (φ y+k)=L (φ y+k):=fun y k a q c=>by
  unfold ej;refine aE (fun e=> ?_);by_cases d:y=x
  ·subst d;exact c ⟨rfl,by omega⟩
  ·have:1+i<A.sz x:=by unfold AG.sz;omega
   rcases h.apart x y r a (Ne.symm d) with g|g<;>omega
 refine ⟨h.zero,h.one,fun y a=>h.Qn y (b y a),fun y z a p=>h.apart y z (b y a) (b z p),fun y a=> ?_,fun y a k q=> ?_,fun y a k f l=> ?_⟩
 ·have f:=h.head y (b y a);refine ⟨?_,f.2⟩;have l:ej L (φ x+1+i) v (φ y)=L (φ y):=o y 0 (b y a) (by unfold AG.sz;omega) (by omega);rw [l];exact f.1
 ·have n:k<A.np y:=q;have c:¬(y=x/\k=i):=fun e=>by obtain ⟨rfl,rfl⟩:=e;omega
  rw [show (A.put x i v).Qk y k=A.Qk y k from aE c,ji φ y k,o y (1+k) (b y a) (by unfold AG.sz;omega) (by omega),<-ji φ _ _];exact h.ptr y (b y a) k n
 ·have j:A.np y<=k:=f;have m:k<A.np y+A.nf y+A.ng y:=l;by_cases e:y=x/\k=i
  ·obtain ⟨rfl,rfl⟩:=e;rw [show (A.put y k v).Qk y k=v from aG ⟨rfl,rfl⟩];exact ⟨aG rfl,s⟩
  ·rw [show (A.put x i v).Qk y k=A.Qk y k from aE e,ji φ y k,o y (1+k) (b y a) (by unfold AG.sz;omega) (by omega),<-ji φ _ _];exact h.val y (b y a) k j m
def AG.new(A:AG)(n p f g:Nat):AG:=⟨fun y=>if y=n then p else A.np y,fun y=>if y=n then f else A.nf y,fun y=>if y=n then g else A.ng y,fun y k=>if y=n then 0 else A.Qk y k⟩
theorem AG.Qo{n p f g y:Nat}(h:y≠n):(A.new n p f g).np y=A.np y/\(A.new n p f g).nf y=A.nf y/\(A.new n p f g).ng y=A.ng y/\(A.new n p f g).Qk y=A.Qk y/\(A.new n p f g).sz y=A.sz y:=by
 have a:(A.new n p f g).np y=A.np y:=aE h;have b:(A.new n p f g).nf y=A.nf y:=aE h;have c:(A.new n p f g).ng y=A.ng y:=aE h;exact ⟨a,b,c,funext fun k=>aE h,by unfold AG.sz;rw [a,b,c]⟩
theorem AG.Xb(A:AG)(n p f g:Nat):(A.new n p f g).np n=p/\(A.new n p f g).nf n=f/\(A.new n p f g).ng n=g/\(∀k,(A.new n p f g).Qk n k=0)/\(A.new n p f g).sz n=1+(p+f+g):=by
 have a:(A.new n p f g).np n=p:=aG rfl;have b:(A.new n p f g).nf n=f:=aG rfl;have c:(A.new n p f g).ng n=g:=aG rfl;exact ⟨a,b,c,fun k=>aG rfl,by unfold AG.sz;rw [a,b,c]⟩
theorem AG.new_reach{n p f g s z:Nat}(m:¬Reach A.gr rs n)(h:Reach (A.new n p f g).gr (rs.set s n) z):z=n\/Reach A.gr rs z:=by
 induction h with
 |root h1 h2=>
  rcases dh h1 with c|c
  ·exact .inr (.root c h2)
  ·exact .inl c
 | @step a q _ h1 h2 b=>
  obtain ⟨k,l,rfl⟩:=bu.1 h1;rcases b with rfl|b
  ·exact absurd ((AG.Xb A a p f g).2.2.2.1 k) h2
  ·have d:a≠n:=fun e=>m (e▸b)
   obtain ⟨i,_,_,j,_⟩:=AG.Qo (A:=A) (p:=p) (f:=f) (g:=g) d;rw [j] at h2 ⊢;exact .inr (AG.Ql b (by have:=bv.1 l;rwa [i] at this) h2)
theorem cP.new(h:cP A rs φ L lo hi){n p f g s a hi':Nat}(D:n≠0)(F:¬Reach A.gr rs n)(N:lo<=hi)(Q:hi<=a)(R:a+(1+(p+f+g))<=hi')(O:eO p f g):
  cP (A.new n p f g) (rs.set s n) (fun y=>if y=n then a else φ y) (nD L a (kK p f g) (p+f+g)) lo hi':=by
 have d:∀z,Reach (A.new n p f g).gr (rs.set s n) z->z≠n->Reach A.gr rs z:=fun z v m=>(AG.new_reach F v).resolve_left m
 have E:∀y k,Reach A.gr rs y->k<A.sz y->nD L a (kK p f g) (p+f+g) (φ y+k)=L (φ y+k):=fun y k c t=>by
  have:=(h.Qn y c).2;unfold nD;rw [aE (by omega),aE (by omega)]
 have u:=AG.Xb A n p f g;obtain ⟨w,I,J,K,P⟩:=u;have H:=h.one;refine ⟨by rw [aE (Ne.symm D)];exact h.zero,h.one,fun y c=> ?_,fun y z c v i=> ?_,fun y c=> ?_,fun y c k t=> ?_,fun y c k l r=> ?_⟩
 ·by_cases e:y=n
  ·subst e;rw [aG rfl,P];omega
  ·obtain ⟨_,_,_,_,q⟩:=AG.Qo (A:=A) (p:=p) (f:=f) (g:=g) e;rw [aE e,q];have:=h.Qn y (d y c e);omega
 ·by_cases e:y=n
  ·subst e;obtain ⟨_,_,_,_,q⟩:=AG.Qo (A:=A) (p:=p) (f:=f) (g:=g) (Ne.symm i);rw [aG rfl,aE (Ne.symm i),q];have:=h.Qn z (d z v (Ne.symm i));right;omega
  ·obtain ⟨_,_,_,_,q⟩:=AG.Qo (A:=A) (p:=p) (f:=f) (g:=g) e;rw [aE e,q];have l:=h.Qn y (d y c e);by_cases j:z=n
   ·rw [aG j];left;omega
   ·obtain ⟨_,_,_,_,M⟩:=AG.Qo (A:=A) (p:=p) (f:=f) (g:=g) j;rw [aE j,M];exact h.apart y z (d y c e) (d z v j) i
 ·by_cases e:y=n
  ·subst e;rw [aG rfl,w,I,J];exact ⟨aG rfl,O⟩
  ·obtain ⟨o,x,B,_,_⟩:=AG.Qo (A:=A) (p:=p) (f:=f) (g:=g) e;rw [aE e,o,x,B];have l:=h.head y (d y c e);have r:nD L a (kK p f g) (p+f+g) (φ y)=L (φ y):=E y 0 (d y c e) (by unfold AG.sz;omega);exact ⟨by rw [r];exact l.1,l.2⟩
 ·by_cases e:y=n
  ·subst e;rw [aG rfl,K,aE (Ne.symm D),h.zero];rw [w] at t;unfold nD;rw [aE (by omega),aG (by omega)]
  ·obtain ⟨o,_,_,C,_⟩:=AG.Qo (A:=A) (p:=p) (f:=f) (g:=g) e;rw [o] at t;have b:=d y c e;rw [aE e,C,ji φ y k,E y (1+k) b (by unfold AG.sz;omega),<-ji φ _ _,h.ptr y b k t];have m:A.Qk y k≠n:=fun j=>F (j▸AG.Ql b t (by rw [j];exact D))
   rw [aE m]
 ·by_cases e:y=n
  ·subst e;rw [aG rfl,K];rw [w,I,J] at r;rw [w] at l;refine ⟨?_,by omega⟩;unfold nD;rw [aE (by omega),aG (by omega)]
  ·obtain ⟨o,x,B,C,_⟩:=AG.Qo (A:=A) (p:=p) (f:=f) (g:=g) e;rw [o,x,B] at r;rw [o] at l;have b:=d y c e;rw [aE e,C,ji φ y k,E y (1+k) b (by unfold AG.sz;omega),<-ji φ _ _];exact h.val y b k l r
end
section
open Go.RowKit Go.Maps
theorem ku:Keyed prog 3:=int_keyed (q:= .i64) underlying3
def kI(q:Nat):Lit:= .int .i64 q
theorem En{q:Nat}(h:q<4611686018427387904):(kI q).wf=true:=WalkArith.wf_i64 (by omega)
theorem oM{q:Nat}(h:q<4611686018427387904):keyOf prog 3 (.int .i64 q)=some (kI q):=keyOf_int_mk underlying3 (En h)
theorem BW{q r:Nat}(h:q≠r):kI q≠kI r:=fun e=>by unfold kI at e;simp only [Lit.int.injEq,kZ] at e;omega
theorem BX{q:Nat}(h:q<4611686018427387904):WideAt.IsKeyLit (kI q):=ku.key (oM h)
section
variable{w w':World}{b n:Nat}{f:Nat->Option Nat}
def gK(w:World)(b n:Nat)(f:Nat->Option Nat):Prop:=
 ∃D:DataW Unit,w.ownsMap prog 3 (plainElem prog 3) b n D/\∀q,q<4611686018427387904->Maps.has D (kI q)=(f q).isSome/\D.atKey (kI q) (.lit (.int .i64 0))= .lit (.int .i64 (((f q).getD 0:Nat):Int))
theorem rT{k:TypeId}{R:Value->Option (DataW Unit×List MemPlace)}{D:DataW Unit}{T:Nat->Prop}(h:w.ownsMap prog k R b n D)(hf:Fr T w w')(e:¬T b):w'.ownsMap prog k R b n D:=by
 obtain ⟨c,a,d,r⟩:=h;exact ⟨c,a,hf.heap d e,r⟩
theorem gK.frame{T:Nat->Prop}(h:gK w b n f)(hf:Fr T w w')(d:¬T b):gK w' b n f:=let ⟨D,a,c⟩:=h;⟨D,rT a hf d,c⟩
theorem gK.lt(h:gK w b n f):b<w.heap.size:=let ⟨_,a,_⟩:=h;a.lt
theorem sh(w:World):gK (w.alloc (.map #[] 0)) w.heap.size 0 (fun _=>none):=
 ⟨.map [],World.ownsMap_made _ _ _ _,fun _ _=>⟨rfl,rfl⟩⟩
theorem tN(w:World):(zeroValue 3).run prog w= .ok (.int .i64 0) w:=by kernel_rfl
theorem gK.look(h:gK w b n f)(q:Nat)(e:q<4611686018427387904):(Instr.lookup 33 (.map (some b)) (.int .i64 q) false).run prog w= .ok (.int .i64 (((f q).getD 0:Nat):Int)) w:=by
 obtain ⟨D,g,i⟩:=h;obtain ⟨c,d,a,_⟩:=g.lookup_int ku underlying33 underlying3 (tN w) (oM e);rw [(i q e).2] at a;simp only [DataW.lit.injEq,Lit.int.injEq,kZ] at a;rw [d,a]
theorem gK.look_ok(h:gK w b n f)(q:Nat)(d:q<4611686018427387904):(Instr.lookup 33 (.map (some b)) (.int .i64 q) true).run prog w= .ok (.tuple #[((((f q).getD 0:Nat):Int):Int),.bool (f q).isSome]) w:=by
 obtain ⟨D,j,e⟩:=h;obtain ⟨v,ps,c,i⟩:=j.look_ok ku underlying33 (tN w) (plainElem_int underlying3 (by decide)) (oM d);rw [(e q d).2] at i;obtain ⟨a,rfl,g,_⟩:=plainElem_int_inv underlying3 i;simp only [Prod.mk.injEq,DataW.lit.injEq,Lit.int.injEq,kZ] at g;rw [c,(e q d).1,g.1]
def iV{α:Type}(f:Nat->Option α)(q:Nat)(x:α)(r:Nat):Option α:=if r=q then some x else f r
theorem gK.put(h:gK w b n f)(q x:Nat)(i:q<4611686018427387904)(B:x<4611686018427387904)(G:n<4611686018427387904):
  ∃w',(Instr.mapUpdate 33 (.map (some b)) (.int .i64 q) (.int .i64 x)).run prog w= .ok () w'/\gK w' b (if (f q).isSome then n else n+1) (iV f q x)/\Fr (fun k=>k=b) w w':=by
 obtain ⟨D,c,o⟩:=h;obtain ⟨w',d,C,E⟩:=c.update ku underlying33 (by unfold maxLen;omega) (oM i) (plainElem_int underlying3 (En B));refine ⟨w',d,⟨D.put (kI q) (.lit (kI x)),?_,fun r y=> ?_⟩,(Fr.Qm E).mono (fun k v=> .inl (by simpa using v.symm))⟩
 ·obtain ⟨m,a,p,s,F,l⟩:=C;refine ⟨m,a,p,s,?_,l⟩;have t:D.put (kI q) (.lit (kI x))=_:=l;have z:Maps.size (D.put (kI q) (.lit (kI x)))=m.size:=by rw [t];simp [Maps.size,length_sorted]
  have g:=size_put (c.tidy ku) (k:=kI q) (.lit (kI x));have A:=c.size_le;have j:=(o q i).1;rw [j] at g;split<;>rename_i u<;>simp only [u,iN,fE,cA] at g<;>omega
 ·unfold iV;by_cases e:r=q
  ·subst e;rw [aG rfl];exact ⟨has_put_same c.isMap (BX i) _,atKey_put_same c.isMap (BX i) _ _⟩
  ·rw [aE e,has_put_other (BW e),atKey_put_other (BW e)];exact o r y
end
def Gb(v:Value):Option (DataW Unit×List MemPlace):=
 match v with
 | .agg a=>
  match a.toList with
  |[(p:Int),(f:Int),(g:Int)]=>some (.agg [.lit (.int .i64 p),.lit (.int .i64 f),.lit (.int .i64 g)],[])
  |_=>none
 |_=>none
theorem Cd(p f g:Int):Gb (gD p f g)=some (.agg [.lit (.int .i64 p),.lit (.int .i64 f),.lit (.int .i64 g)],[]):=rfl
theorem DM{v:Value}{p f g:Int}{ps:List MemPlace}(h:Gb v=some (.agg [.lit (.int .i64 p),.lit (.int .i64 f),.lit (.int .i64 g)],ps)):v=gD p f g:=by
 unfold Gb at h;split at h
 ·rename_i a;split at h
  ·rename_i b f' g' e;simp only [aL,Prod.mk.injEq,DataW.agg.injEq,gP,DataW.lit.injEq,Lit.int.injEq,kZ,and_true] at h;obtain ⟨⟨rfl,rfl,rfl⟩,_⟩:=h;unfold gD;rw [<-e]
  ·cases h
 ·cases h
section
variable{w w':World}{b n:Nat}{f:Nat->Option (Nat×Nat×Nat)}
def vA(o:Option (Nat×Nat×Nat)):Nat×Nat×Nat:=o.getD (0,0,0)
def iu(w:World)(b n:Nat)(f:Nat->Option (Nat×Nat×Nat)):Prop:=
 ∃D:DataW Unit,w.ownsMap prog 3 Gb b n D/\∀q,q<4611686018427387904->D.atKey (kI q) (.agg [.lit (.int .i64 0),.lit (.int .i64 0),.lit (.int .i64 0)])= .agg [.lit (.int .i64 ((vA (f q)).1:Int)),.lit (.int .i64 ((vA (f q)).2.1:Int)),.lit (.int .i64 ((vA (f q)).2.2:Int))]
theorem iu.frame{T:Nat->Prop}(h:iu w b n f)(hf:Fr T w w')(d:¬T b):iu w' b n f:=let ⟨D,a,c⟩:=h;⟨D,rT a hf d,c⟩
theorem iu.lt(h:iu w b n f):b<w.heap.size:=let ⟨_,a,_⟩:=h;a.lt
theorem zR(w:World):iu (w.alloc (.map #[] 0)) w.heap.size 0 (fun _=>none):=
 ⟨.map [],World.ownsMap_made _ _ _ _,fun _ _=>rfl⟩
theorem AE(w:World):(zeroValue 31).run prog w= .ok (gD 0 0 0) w:=by kernel_rfl
theorem iu.look(h:iu w b n f)(q:Nat)(c:q<4611686018427387904):(Instr.lookup 208 (.map (some b)) (.int .i64 q) false).run prog w= .ok (gD ((vA (f q)).1:Int) ((vA (f q)).2.1:Int) ((vA (f q)).2.2:Int)) w:=by
 obtain ⟨D,e,g⟩:=h;obtain ⟨v,ps,a,d⟩:=e.lookup ku underlying208 (AE w) (Cd 0 0 0) (oM c);rw [g q c] at d;rw [a,DM d]
theorem iu.put(h:iu w b n f)(q p t g:Nat)(d:q<4611686018427387904)(s:n<4611686018427387904):
  ∃w',(Instr.mapUpdate 208 (.map (some b)) (.int .i64 q) (gD p t g)).run prog w= .ok () w'/\iu w' b (n+1) (iV f q (p,t,g))/\Fr (fun k=>k=b) w w':=by
 obtain ⟨D,c,i⟩:=h;obtain ⟨w',a,m,o⟩:=c.update ku underlying208 (by unfold maxLen;omega) (oM d) (Cd p t g);refine ⟨w',a,⟨_,m,fun r l=> ?_⟩,(Fr.Qm o).mono (fun k j=> .inl (by simpa using j.symm))⟩;unfold iV;by_cases e:r=q
 ·subst e;rw [aG rfl];exact atKey_put_same c.isMap (BX d) _ _
 ·rw [aE e,atKey_put_other (BW e)];exact i r l
end
end
theorem xV{a:Nat}{c:(b:Nat)->a<=b->Prop}(Ba:c a (ak a))(succ:∀b (e:a<=b),c b e->c (b+1) (ol e)):∀b (d:a<=b),c b d:=by
 intro b d
 induction d with
 |refl=>exact Ba
 |step h ih=>exact succ _ h ih
theorem dP(f:Nat->Bool)(a:Nat):Qb f a a=0:=eS f (ak a)
theorem tq{f g:Nat->Bool}{a:Nat}:∀{b:Nat},a<=b->(∀i,a<=i->i<b->f i=true->g i=true)->Qb f a b<=Qb g a b:=by
 intro b c
 induction b,c using xV with
 |Ba=>intro _;rw [dP,dP];exact ak _
 |succ b hb ih=>
  intro h;rw [cr f hb,cr g hb];have d:=ih (fun i d e=>h i d (by omega));have e:=h b hb (bI b)
  cases hf:f b with
  |false=>simp only [cA,fE];omega
  |true=>rw [e hf];simp only [iN];omega
theorem tt{f g h:Nat->Bool}{a:Nat}:∀{b:Nat},a<=b->(∀i,a<=i->i<b->f i=(g i||h i))->(∀i,a<=i->i<b->g i=true->h i=false)->Qb f a b=Qb g a b+Qb h a b:=by
 intro b c
 induction b,c using xV with
 |Ba=>intro _ _;rw [dP,dP,dP]
 |succ b hb ih=>
  intro e j;rw [cr f hb,cr g hb,cr h hb,ih (fun i d l=>e i d (by omega)) (fun i d l=>j i d (by omega)),e b hb (bI b)];have k:=j b hb (bI b)
  cases hg:g b with
  |false=>
   cases hh:h b<;>simp
   omega
  |true=>
   rw [k hg];simp;omega
theorem D1{f:Nat->Bool}{a:Nat}:∀{b:Nat},a<=b->(∀i j,a<=i->i<j->j<b->f i=true->f j=true->False)->Qb f a b<=1:=by
 intro b c
 induction b,c using xV with
 |Ba=>intro _;rw [dP];omega
 |succ b hb ih=>
  intro h;rw [cr f hb]
  cases hf:f b with
  |false=>simp only [cA,fE];exact ih (fun i j d e l=>h i j d e (by omega))
  |true=>
   have g:Qb f a b=0:=cu (fun i d e=>by
    rw [be];exact fun k=>h i b d e (bI b) k hf)
   rw [g];simp
def kW(P:Nat)(f:Nat->Bool)(q:Nat):Bool:=(List.range P).any fun i=>f (q*P+i)
theorem cB{P:Nat}{f:Nat->Bool}{q:Nat}(d:1<=P):kW P f q=true↔∃a,a/P=q/\f a=true:=by
 unfold kW;simp only [fG,bv];constructor
 ·rintro ⟨i,b,c⟩;refine ⟨q*P+i,?_,c⟩;rw [aN,gO (by omega),iJ b,bg]
 ·rintro ⟨a,rfl,h⟩;refine ⟨a% P,bO _ (by omega),?_⟩;rw [aN,aM];exact h
theorem mf{P:Nat}{f:Nat->Bool}{q:Nat}(c:1<=P):kW P f q=false↔∀a,a/P=q->f a=false:=by
 rw [be,mN,cB c];constructor
 ·intro h a b;rw [be];exact fun hf=>h ⟨a,b,hf⟩
 ·rintro h ⟨a,b,hf⟩;rw [h a b] at hf;cases hf
theorem ym(P:Nat)(f:Nat->Bool)(c:1<=P):∀m,Qb f 0 (m*P)<=P*Qb (kW P f) 0 m
 |0=>by rw [gz,dP];omega
 |m+1=>by
  have e:=ym P f c m;rw [cY,bJ f (aF (m*P)) (show m*P<=m*P+P by omega),cr (kW P f) (aF m),fL];have d:=dR f (m*P) (m*P+P)
  cases h:kW P f m with
  |true=>simp only [iN];omega
  |false=>
   rw [cu (f:=f) (a:=m*P) (b:=m*P+P) (fun i g j=>(mf c).1 h i (by
    rw [show i=P*m+(i-m*P) by rw [aN];omega,gO (by omega),iJ (by omega),bg]))]
   simp only [cA,fE];omega
theorem u7(P:Nat)(f g:Nat->Bool):∀m,(∀r,r<m->g r=true->∀i,i<P->f (r*P+i)=true)->P*Qb g 0 m<=Qb f 0 (m*P)
 |0,_=>by rw [dP];omega
 |m+1,h=>by
  have d:=u7 P f g m (fun r c=>h r (by omega));rw [cY,bJ f (aF (m*P)) (show m*P<=m*P+P by omega),cr g (aF m),fL]
  cases hg:g m with
  |false=>simp only [cA,fE];omega
  |true=>
   rw [oX (f:=f) (a:=m*P) (b:=m*P+P) (fun i e j=>by
    have:=h m (bI m) hg (i-m*P) (by omega);rwa [show m*P+(i-m*P)=i by omega] at this)]
   simp only [iN];omega
theorem yn(live D:Nat->Bool):∀m,Qb (fun a=>live a&&D (Qb live 0 a)) 0 m=Qb D 0 (Qb live 0 m)
 |0=>by rw [dP,dP,dP]
 |m+1=>by
  rw [cr _ (aF m),cr live (aF m),yn live D m]
  cases h:live m with
  |false=>simp
  |true=>
   simp only [bQ,iN];rw [cr D (aF _)]
def ky(P:Nat)(live X:Nat->Bool):Nat->Bool:=kW P fun a=>live a&& !X (Qb live 0 a)
def mA(P N:Nat)(X:Nat->Bool):Nat->Bool:=kW P fun i=>decide (i<N)&&X i
def nP(P Q R N:Nat)(live X A:Nat->Bool):Nat:=Qb (ky P live X) 0 Q+Qb (fun r=>mA P N X r||A r) 0 R
theorem wL{P Q R N g:Nat}{live X A:Nat->Bool}(p:1<=P)(hN:Qb live 0 (Q*P)=N)(hg:g<=N):
  nP P Q R N live (fun i=>X i||decide (i<g)) A<=nP P Q R N live X A+2:=by
 obtain ⟨d,C⟩:∃d:Nat->Bool,d=fun i=>X i||decide (i<g):=⟨_,rfl⟩
 obtain ⟨D,hD⟩:∃D:Nat->Bool,D=fun i=>decide (i<g)&& !X i:=⟨_,rfl⟩
 rw [<-C];have v:∀i,d i=(X i||decide (i<g)):=fun i=>by rw [C]
 have B:∀i,D i=(decide (i<g)&& !X i):=fun i=>by rw [hD]
 unfold nP;obtain ⟨k,V⟩:∃k:Nat->Bool,k=fun r=>mA P N d r&& !(mA P N X r||A r):=⟨_,rfl⟩
 have l:∀r,k r=(mA P N d r&& !(mA P N X r||A r)):=fun r=>by rw [V]
 have E:∀i,X i=true->d i=true:=fun i h=>by rw [v,h];rfl
 have W:∀r,mA P N X r=true->mA P N d r=true:=fun r h=>by
  obtain ⟨a,o,n⟩:=(cB p).1 h;rw [au] at n;exact (cB p).2 ⟨a,o,by rw [au];exact ⟨n.1,E a n.2⟩⟩
 have e1:Qb (fun r=>mA P N d r||A r) 0 R=Qb (fun r=>mA P N X r||A r) 0 R+Qb k 0 R:=by
  refine tt (aF R) (fun r _ _=> ?_) (fun r _ _ h=> ?_)
  ·rw [l];have:=W r
   cases o:mA P N X r<;>cases n:mA P N d r<;>cases z:A r<;>simp_all
  ·rw [l,h];simp
 have T:∀q,ky P live d q=true->ky P live X q=true:=fun q h=>by
  obtain ⟨a,o,n⟩:=(cB p).1 h;rw [au,eb] at n;refine (cB p).2 ⟨a,o,?_⟩;rw [au,eb];refine ⟨n.1,?_⟩;rw [be];exact fun z=>by have:=E _ z;rw [n.2] at this;cases this
 obtain ⟨e,S⟩:∃e:Nat->Bool,e=fun q=>ky P live X q&& !ky P live d q:=⟨_,rfl⟩
 have t:∀q,e q=(ky P live X q&& !ky P live d q):=fun q=>by rw [S]
 have e2:Qb (ky P live X) 0 Q=Qb (ky P live d) 0 Q+Qb e 0 Q:=by
  refine tt (aF Q) (fun q _ _=> ?_) (fun q _ _ h=> ?_)
  ·rw [t];have:=T q
   cases o:ky P live X q<;>cases n:ky P live d q<;>simp_all
  ·rw [t,h];simp
 obtain ⟨s,J⟩:∃s:Nat->Bool,s=kW P (fun a=>live a&&D (Qb live 0 a)):=⟨_,rfl⟩;have e3:Qb D 0 N<=P*Qb s 0 Q:=by
  rw [<-hN,<-yn live D,J];exact ym P _ p Q
 obtain ⟨y,w⟩:∃y:Nat->Bool,y=fun q=>s q&& !e q:=⟨_,rfl⟩
 have e4:Qb s 0 Q<=Qb e 0 Q+1:=by
  have o:Qb s 0 Q<=Qb (fun q=>e q||y q) 0 Q:=tq (aF Q) (fun q _ _ h=>by
   rw [w];show (e q||(s q&& !e q))=true
   rw [h]
   cases e q<;>rfl)
  have n:Qb (fun q=>e q||y q) 0 Q=Qb e 0 Q+Qb y 0 Q:=tt (aF Q) (fun q _ _=>rfl) (fun q _ _ h=>by rw [w];show (s q&& !e q)=false;rw [h];simp);have z:Qb y 0 Q<=1:=by
   refine D1 (aF Q) (fun i j _ af _ L Y=> ?_);rw [w] at L Y;have x:s i=true/\e i=false:=by simpa using L
   have H:s j=true:=by
    have:s j=true/\e j=false:=by simpa using Y
    exact this.1
   rw [J] at x H;obtain ⟨a,M,u⟩:=(cB p).1 x.1;obtain ⟨c,c1,c2⟩:=(cB p).1 H;rw [au,B,au,aC] at u c2;have U:ky P live X i=true:=(cB p).2 ⟨a,M,by rw [au];exact ⟨u.1,u.2.2⟩⟩;have F:=x.2;rw [t,U] at F;have G:ky P live d i=true:=by simpa using F
   obtain ⟨b,b1,b2⟩:=(cB p).1 G;rw [au,v,eb,fo,az] at b2;have O:b<=c:=by
    rcases aY c b with h|h
    ·have:=bi (c:=P) (d9 h);omega
    ·exact h
   have:=il live (a:=0) O;omega
  omega
 have e5:P*Qb k 0 R<=Qb D 0 N+P:=by
  obtain ⟨m,hm⟩:∃m,g/P=m:=⟨_,rfl⟩;have ah:m*P<=g:=by rw [<-hm];exact bE g P
  have I:∀r,m<r->k r=false:=fun r Z=>by
   rw [l]
   cases o:mA P N d r with
   |false=>rfl
   |true=>
    obtain ⟨a,M,u⟩:=(cB p).1 o;rw [au,v,b8,aC,aC] at u;have ad:g<=a:=by
     rcases aY a g with h|h
     ·have:=bi (c:=P) (d9 h);omega
     ·exact h
    have n:mA P N X r=true:=(cB p).2 ⟨a,M,by
     rw [au,aC];exact ⟨u.1,by rcases u.2 with h|h;exact h;omega⟩⟩
    rw [n];simp
  have o:Qb k 0 R<=Qb k 0 m+1:=by
   rcases aY m R with h|h
   ·rw [bJ k (aF (m+1)) (show m+1<=R from h),cu (f:=k) (a:=m+1) (b:=R) (fun i q1 _=>I i q1),cr k (aF m)];split<;>omega
   ·have:=il k (a:=0) h;omega
  have n:P*Qb k 0 m<=Qb D 0 (m*P):=by
   refine u7 P D k m (fun r Z h i L=> ?_);have ai:r*P+i<m*P:=by
    have:(r+1)*P<=m*P:=aX P Z;rw [cY] at this;omega
   rw [l] at h;have z:mA P N X r=false:=by
    have:mA P N d r=true/\(mA P N X r=false/\A r=false):=by simpa using h
    exact this.2.1
   have K:=(mf p).1 z (r*P+i) (by rw [aN,gO (by omega),iJ L,bg]);rw [show decide (r*P+i<N)=true from aB (by omega),bQ] at K;rw [B,K,aB (by omega:r*P+i<g)];rfl
  have z:=il D (a:=0) (show m*P<=N by omega);have K:P*Qb k 0 R<=P*(Qb k 0 m+1):=gG P o;rw [fL] at K;omega
 have e6:P*Qb k 0 R<=P*(Qb e 0 Q+2):=by
  have o:P*Qb s 0 Q<=P*(Qb e 0 Q+1):=gG P e4;rw [fL] at o ⊢;omega
 have e7:=Nat.le_of_mul_le_mul_left e6 (by omega);omega
def vW(B P:Nat):Nat:=max (B/P) 1
def j8(B P N k:Nat)(r:Nat):Bool:=kW P (fun i=>decide (i<N)&&decide (i/B=k)) r
theorem Ak{f:Nat->Bool}{R u v:Nat}(h:∀r,f r=true->u<=r/\r<v):Qb f 0 R<=v-u:=by
 rcases aY u R with d|d
 ·rw [bJ f (aF u) (d9 d),cu (f:=f) (a:=0) (b:=u) (fun i _ c=>by rw [be];exact fun hf=>by have:=(h i hf).1;omega)];rcases aY v R with c|c
  ·rcases aY v u with e|e
   ·rw [cu (f:=f) (a:=u) (b:=R) (fun i g _=>by rw [be];exact fun hf=>by have:=h i hf;omega)];omega
   ·rw [bJ f e (d9 c),cu (f:=f) (a:=v) (b:=R) (fun i g _=>by rw [be];exact fun hf=>by have:=h i hf;omega)];have:=dR f u v;omega
  ·have:=dR f u R;omega
 ·rw [cu (f:=f) (a:=0) (b:=R) (fun i _ j=>by rw [be];exact fun hf=>by have:=h i hf;omega)];omega
theorem rh{B P N k r:Nat}(j:1<=P)(m:1<=B)(l:P∣B\/B∣P)(h:j8 B P N k r=true):k*B/P<=r/\r<k*B/P+vW B P:=by
 obtain ⟨i,d,b⟩:=(cB j).1 h;rw [au,aC,aC] at b;have g:k*B<=i:=by rw [<-b.2];exact bE i B
 have e:i<k*B+B:=by
  have a:=aM i B;have f:=bO i (show 0<B by omega);rw [b.2,aN] at a;omega
 refine ⟨by rw [<-d];exact bi g,?_⟩;unfold vW;rcases l with ⟨c,rfl⟩|⟨c,rfl⟩
 ·rw [ib c (by omega),show k*(P*c)=P*(k*c) by rw [oh],ib _ (by omega),<-d];have a:i<P*(k*c+c):=by rw [fL];rw [show k*(P*c)=P*(k*c) by rw [oh]] at e;exact e
  have:=lN a;omega
 ·have a:i/(B*c)=k/c:=by rw [<-dL,b.2]
  have f:k*B/(B*c)=k/c:=by rw [<-dL,dq _ (by omega)]
  rw [f,<-a,d];omega
theorem Ao{B P N k R:Nat}(b:1<=P)(a:1<=B)(c:P∣B\/B∣P):Qb (j8 B P N k) 0 R<=vW B P:=by
 have:=Ak (f:=j8 B P N k) (R:=R) (u:=k*B/P) (v:=k*B/P+vW B P) (fun r h=>rh b a c h);omega
theorem sC(f g:Nat->Bool):∀R,Qb (fun r=>f r||g r) 0 R<=Qb f 0 R+Qb g 0 R
 |0=>by rw [dP];omega
 |R+1=>by
  have:=sC f g R;rw [cr _ (aF R),cr f (aF R),cr g (aF R)]
  cases f R<;>cases g R<;>simp<;>omega
theorem zX{P Q R N B:Nat}{live A:Nat->Bool}{X:Nat->Bool}{mv:Nat->Bool}(c:1<=P)(p:1<=B)(t:P∣B\/B∣P)(f:Nat):∀n,f<=n->
  nP P Q R N live (fun i=>X i||(decide (f<=i/B)&&decide (i/B<n)&&mv (i/B))) A<=nP P Q R N live X A+vW B P*Qb mv f n:=by
 intro n j
 induction n,j using xV with
 |Ba=>
  have:(fun i=>X i||(decide (f<=i/B)&&decide (i/B<f)&&mv (i/B)))=X:=by
   funext i;have:(decide (f<=i/B)&&decide (i/B<f))=false:=by
    rw [bl,az,az];omega
   rw [this,jD,ca]
  rw [this];omega
 |succ n j ih=>
  rw [cr mv j,fL];have o:∀i,(X i||(decide (f<=i/B)&&decide (i/B<n+1)&&mv (i/B)))=((X i||(decide (f<=i/B)&&decide (i/B<n)&&mv (i/B)))||(decide (i/B=n)&&mv n)):=fun i=>by
   by_cases e:i/B=n
   ·rw [e];simp [j]
   ·have l:decide (i/B<n+1)=decide (i/B<n):=by rw [ce];omega
    rw [l,ar e,jD,ca]
  cases hm:mv n with
  |false=>
   have:(fun i=>X i||(decide (f<=i/B)&&decide (i/B<n+1)&&mv (i/B)))=(fun i=>X i||(decide (f<=i/B)&&decide (i/B<n)&&mv (i/B))):=by
    funext i;rw [o,hm,cV,ca]
   rw [this];simp only [cA,fE,Nat.mul_zero,bg];exact ih
  |true=>
   simp only [iN,fK];obtain ⟨Y,m⟩:∃Y:Nat->Bool,Y=(fun i=>X i||(decide (f<=i/B)&&decide (i/B<n)&&mv (i/B))):=⟨_,rfl⟩;have s:(fun i=>X i||(decide (f<=i/B)&&decide (i/B<n+1)&&mv (i/B)))=fun i=>Y i||decide (i/B=n):=by
    funext i;rw [o,hm,dZ,m]
   rw [s];rw [<-m] at ih;have l:Qb (ky P live (fun i=>Y i||decide (i/B=n))) 0 Q<=Qb (ky P live Y) 0 Q:=tq (aF Q) (fun q _ _ h=>by
    obtain ⟨a,d,b⟩:=(cB c).1 h;rw [au,eb,fo] at b;exact (cB c).2 ⟨a,d,by rw [au,eb];exact ⟨b.1,b.2.1⟩⟩)
   have u:Qb (fun r=>mA P N (fun i=>Y i||decide (i/B=n)) r||A r) 0 R<=Qb (fun r=>(mA P N Y r||A r)||j8 B P N n r) 0 R:=tq (aF R) (fun r _ _ h=>by
    rw [b8] at h;rcases h with h|h
    ·obtain ⟨a,d,b⟩:=(cB c).1 h;rw [au,b8] at b;rcases b.2 with g|g
     ·have:mA P N Y r=true:=(cB c).2 ⟨a,d,by rw [au];exact ⟨b.1,g⟩⟩;rw [this];rfl
     ·have:j8 B P N n r=true:=(cB c).2 ⟨a,d,by rw [au];exact ⟨b.1,g⟩⟩;rw [this,ew]
    ·rw [h,ew,kJ])
   have g:Qb (fun r=>(mA P N Y r||A r)||j8 B P N n r) 0 R<=Qb (fun r=>mA P N Y r||A r) 0 R+Qb (j8 B P N n) 0 R:=sC _ _ R;have v:=Ao (N:=N) (k:=n) (R:=R) c p t;unfold nP at ih ⊢;omega
structure Cy where
 y:Nat
 m:Nat
 from_:Nat
 top:Nat
 Qe:Nat
 Lm:Nat
 B:Nat
 stack:Nat
 Ah:Nat
 pl:Nat
 EL:cF
 mv:Nat
 nb:Nat
 wb:Nat
 sb:Nat
 lo:Nat
 hi:Nat
def Cy.cells(c:Cy)(left fr ah:Nat):List Value:=[c.m,((c.from_:Int):Int),((c.top:Int):Int),((c.Qe:Int):Int),((c.Lm:Int):Int),((c.B:Int):Int),((c.stack:Int):Int),((c.Ah:Int):Int),c.pl,c.EL.m,.slice (some c.mv) c.nb c.nb,(left:Int),(fr:Int),(ah:Int),.map (some c.wb),.map (some c.sb)]
def AC(w:World)(c:Cy)(left fr ah:Nat):Prop:=aJ w c.y (c.cells left fr ah) 210
section
variable{w:World}{c:Cy}{left fr ah:Nat}
theorem yW(h:AC w c left fr ah):Calls prog 80 #[c.y] w fun e w'=>e= .returned (left:Int)/\w=w':=by
 have a:=h.cell 11 rfl;clear h
 go_enter func80,ntmps80
 go_wp2;go_ret;exact ⟨rfl,rfl⟩
theorem t7(h:AC w c left fr ah):Calls prog 81 #[c.y] w fun e w'=>e= .returned (.int .i64 (c.nb:Int))/\w=w':=by
 have a:=h.cell 10 rfl;clear h
 go_enter func81,ntmps81
 go_wp2;go_ret;exact ⟨rfl,rfl⟩
theorem yY(h:AC w c left fr ah):Calls prog 132 #[c.y] w fun e w'=>e= .returned (.bool (decide (left=0)))/\w=w':=by
 have b:=ae (yW h);have d:((left:Int)==0)=decide (left=0):=by
  by_cases a:left=0
  ·subst a;rfl
  ·rw [ar a,aT];omega
 clear h
 go_enter func132,ntmps132
 go_wp2_with fail
 refine b.out.mono ?_;rintro e w' ⟨rfl,rfl⟩;go_wp2;go_ret;exact ⟨rfl,rfl⟩
variable{E:Nat->Nat}{W:Nat}
theorem AR(h:AC w c left fr ah)(hp:gj c.lo c.hi w c.pl W c.B E c.Qe)(g:c.Qe<=1048576):Calls prog 130 #[c.y] w fun e w'=>e= .returned (.int .i64 ((c.Qe+Qb (aI E) 0 W:Nat):Int))/\GM w w':=by
 have b:=ae (jg hp);have d:=ae (fun p (h:gU c.lo c.hi w p W c.B E c.Qe)=>j4 h g);have i:=h.cell 8 rfl;clear h hp
 go_enter func130,ntmps130
 go_wp2_with fail
 refine b.out.mono ?_;rintro e w' ⟨⟨p,rfl,f⟩,rfl⟩;have a:=ae (d.out p f);clear f d b;go_wp2_with fail
 refine a.out.mono ?_;rintro e w' ⟨rfl,hf⟩;have H:=ae hf;clear hf a;go_wp2;go_ret;exact ⟨rfl,H.out⟩
theorem xD(h:AC w c left fr ah)(hp:gj c.lo c.hi w c.pl W c.B E c.Qe)(k:c.Qe<=1048576)(a:Nat)(j:aI E a=true)(d:a<W):Calls prog 194 #[c.y,(a:Int)] w fun e w'=>e= .returned (.int .i64 ((goes E c.Qe a:Nat):Int))/\GM w w':=by
 have f:=ae (jg hp);have g:=ae (fun p (h:gU c.lo c.hi w p W c.B E c.Qe)=>tl h k a j d);have l:=h.cell 8 rfl;clear h hp;generalize goes E c.Qe a=Y at*
 go_enter func194,ntmps194
 go_wp2_with fail
 refine f.out.mono ?_;rintro e w' ⟨⟨p,rfl,i⟩,rfl⟩;have b:=ae (g.out p i);clear i g f;go_wp2_with fail
 refine b.out.mono ?_;rintro e w' ⟨rfl,hf⟩;have H:=ae hf;clear hf b;go_wp2;go_ret;exact ⟨rfl,H.out⟩
theorem sO(p f g:Nat)(a:eO p f g)(i:Nat)(j:i<1048576)(w:World):Calls prog 273 #[gD p f g,(i:Int)] w fun e w'=>e= .returned (.bool (decide (1<=i/\i<=p)))/\GM w w':=by
 have b:=ae (fun w1=>oO p f g ((i:Int)-1) a w1);have k:(fg p f g ((i:Int)-1)==1)=decide (1<=i/\i<=p):=by
  unfold fg;rw [gg,aG a];by_cases d:1<=i/\i<=p
  ·rw [aE (by omega),aG (by omega),aB d];rfl
  ·rw [ar d];split
   ·rfl
   ·rw [aE (by omega)];split<;>rfl
 have l:IntKind.i64.wrap ((i:Int)-1)=(i:Int)-1:=by rw [IntKind.wrap_i64];omega
 unfold jO gD at*;generalize fg p f g ((i:Int)-1)=K at*;generalize decide (1<=i/\i<=p)=D at*;clear a j
 go_enter func273,ntmps273
 go_wp2_with fail
 refine (b.out _).mono ?_;rintro e w1 ⟨rfl,hf⟩;have H:=ae hf;clear hf b;go_wp2;go_ret;exact ⟨by rw [<-k];rfl,((GQ _ w).alloc _).trans H.out GN⟩
end
section
variable{w:World}{c:Cy}{left fr ah:Nat}{E:Nat->Nat}{Pg W Fs Us Hg:Nat}{S:Nat->Prop}{mp:Nat->Bool}{M:Nat->Nat}
def Ar(w:World)(x:Nat)(e:Ending)(w':World):Prop:=e= .returned (.int .u64 x)/\GM w w'
theorem tS(h:AC w c left fr ah)(hp:gj c.lo c.hi w c.pl W c.B E c.Qe)(hb:c.Qe<=1048576)(V:ed w c.m S Pg W Fs Us Hg mp M)(a s p f g:Nat)(hs:s<=a)(ha:a<W)(Q:mp (a/Pg)=true)(ho:eO p f g)
  (z:1<=a-s->a-s<=p->M a≠0->aI E (M a)=true/\M a<W) (hM:M a<18446744073709551616):
  Calls prog 244 #[c.y,(a:Int),(s:Int),gD p f g] w (Ar w (nN M (goes E c.Qe) s p (a-s))):=by
 have af:=V.at.2.2.1;have ad:s+(a-s)=a:=by omega
 have L:∀o,GM w (w.alloc o):=fun o=>(GQ _ w).alloc o
 obtain ⟨W1,N⟩:∃W1,w.alloc (.cells #[(p:Int),(f:Int),(g:Int)] 31)=W1:=⟨_,rfl⟩;have q:GM w W1:=by rw [<-N];exact L _
 have n:aJ W1 w.heap.size [(p:Int),(f:Int),(g:Int)] 31:=by rw [<-N];exact aJ.new w _ _
 have c0:=(h.frame q id).cell 0 rfl;have HL:=ae (jt (V.Qa q) a ha Q);have HP:=ae (fun w1=>sO p f g ho (a-s) (by omega) w1);have HT:=ae (fun (w1:World) (hf:GM w w1) (i:1<=a-s/\a-s<=p) (u:M a≠0)=>xD (h.frame hf id) (hp.Qa hf) hb (M a) (z i.1 i.2 u).1 (z i.1 i.2 u).2);have v:(1<=a-s/\a-s<=p)->M a≠0->M a<=1048576:=fun i u=>by have:=(z i.1 i.2 u).2;omega
 have F:goes E c.Qe (M a)<=2097152\/¬(M a<=1048576):=by
  by_cases hx:M a<=1048576
  ·left;have:=fZ (aI E) (M a);unfold goes;omega
  ·exact .inr hx
 have P:nN M (goes E c.Qe) s p (a-s)=if (1<=a-s/\a-s<=p)/\M a≠0 then goes E c.Qe (M a) else M a:=by
  unfold nN;rw [ad];by_cases i:(1<=a-s/\a-s<=p)/\M a≠0
  ·rw [aG i,aG ⟨i.1.1,i.1.2,i.2⟩]
  ·rw [aE i,aE (fun h=>i ⟨⟨h.1,h.2.1⟩,h.2.2⟩)]
 have hi:(a:Int)-(s:Int)=((a-s:Nat):Int):=by omega
 rw [P];generalize goes E c.Qe (M a)=Y at*;have R:Hid (∀w',GM W1 w'->GM w w'):=by
  show∀w',_
  exact fun w' h=>q.trans h GN
 have G:=ae n;have T:=ae q;obtain ⟨k0,k1,k2,_⟩:=GT n;clear h hp hb V z Q ho L n q P;unfold gD Ar at*;generalize a-s=D at*;generalize M a=X at*;obtain ⟨Z,U⟩:∃Z,Z=if (1<=D/\D<=p)/\X≠0 then Y else X:=⟨_,rfl⟩
 rw [<-U];have K:=ae U;clear U
 go_enter func244,ntmps244
 go_wp2_with fail
 refine HL.out.mono ?_;rintro e w2 ⟨rfl,r⟩;have x:=G.out.frame r id;obtain ⟨k0,k1,k2,_⟩:=GT x;have A:=ae (R.out w2 r);have d:=ae (HP.out w2);have t:=ae (fun w3 (hf:GM w2 w3)=>HT.out w3 (R.out w3 (r.trans hf GN)));have k:=ae (fun w3 (hf:GM w2 w3)=>R.out w3 (r.trans hf GN));clear HL G T x R HP HT c0 r;by_cases u:X=0
 ·subst u;have l:=ae (K.out.trans (aE (fun h=>h.2 rfl)));clear d t k v F;go_wp2;go_ret;rw [l.out];exact ⟨rfl,A.out⟩
 ·have aj:¬((X:Nat):Int)=0:=by omega
  by_cases b:1<=D/\D<=p
  ·have ai:=v b u;have hY:Y<=2097152:=by omega
   have ak:IntKind.i64.wrap ((X:Nat):Int)=((X:Nat):Int):=by rw [IntKind.wrap_i64];omega
   have al:IntKind.u64.wrap ((Y:Nat):Int)=((Y:Nat):Int):=by rw [IntKind.wrap_u64];omega
   have I:=ae (fun w3 hf=>t.out w3 hf b u);rw [aB b] at d;have l:=ae (K.out.trans (aG ⟨b,u⟩));clear t A v F K;go_wp2_with fail
   refine d.out.mono ?_;rintro e w3 ⟨rfl,j⟩;have J:=ae (I.out w3 j);have H:=ae (fun w4 (hf:GM w3 w4)=>k.out w4 (j.trans hf GN));clear j d I k k0 k1 k2;go_wp2_with fail
   refine J.out.mono ?_;rintro e w4 ⟨rfl,O⟩;have C:=ae (H.out w4 O);clear O J H;go_wp2;go_ret;rw [l.out];exact ⟨rfl,C.out⟩
  ·rw [ar b] at d;have l:=ae (K.out.trans (aE (fun h=>b h.1)));clear t A v F K;go_wp2_with fail
   refine d.out.mono ?_;rintro e w3 ⟨rfl,j⟩;have C:=ae (k.out w3 j);clear j d k k0 k1 k2;go_wp2;go_ret;rw [l.out];exact ⟨rfl,C.out⟩
end
def dp(E:Nat->Nat)(a:Nat):Nat:=((List.range (a+1)).find? (fun s=>decide (a<s+E s))).getD 0
theorem fX{E:Nat->Nat}{a:Nat}(h:aI E a=true):dp E a<=a/\a<dp E a+E (dp E a):=by
 unfold dp
 cases hf:(List.range (a+1)).find? (fun s=>decide (a<s+E s)) with
 |none=>
  obtain ⟨s,b,c⟩:=cX.1 h;have:=nc.1 hf s (bv.2 (by omega));simp at this;omega
 |some s=>
  have b:=List.find?_some hf;have c:=bv.1 (List.mem_of_find?_eq_some hf);simp only [aC] at b;simp only [j9];omega
theorem sX{E:Nat->Nat}(d:iB E){a s:Nat}(b:s<=a)(c:a<s+E s):dp E a=s:=by
 have h:=fX (cX.2 ⟨s,b,c⟩);exact d.owner h.1 h.2 b c
def oq(E hp M F:Nat->Nat)(a:Nat):Nat:=nN M F (dp E a) (hp (dp E a)) (a-dp E a)
theorem jm{E hp M b F:Nat->Nat}{a:Nat}(h:aI E a=true)(e:b a=M a):oq E hp b F a=oq E hp M F a:=by
 have:=fX h;unfold oq nN;rw [show dp E a+(a-dp E a)=a by omega,e]
def ef(E:Nat->Nat)(a:Nat):Nat:=Qb (aI E) 0 a
theorem jQ{E:Nat->Nat}{a W:Nat}(h:aI E a=true)(b:a<W):ef E a<Qb (aI E) 0 W:=oY (aF a) b h
theorem wt{E:Nat->Nat}{W i:Nat}(h:i<Qb (aI E) 0 W):∃a,a<W/\aI E a=true/\ef E a=i:=
 let ⟨a,_,b,c,d⟩:=s9 (aI E) 0 W i h;⟨a,b,c,d⟩
theorem th{E:Nat->Nat}{a b:Nat}(c:aI E a=true)(d:aI E b=true)(h:ef E a=ef E b):a=b:=qy (aF _) (aF _) c d h
theorem uR(E:Nat->Nat)(Ba a:Nat):goes E Ba a=Ba+ef E a:=rfl
structure dV where
 E:Nat->Nat
 hp:Nat->Nat
 Qe:Nat
 W:Nat
 P:Nat
 B:Nat
 R:Nat
 Ah:Nat
def dV.N(s:dV):Nat:=Qb (aI s.E) 0 s.W
def dV.F(s:dV):Nat->Nat:=goes s.E s.Qe
def dV.nb(s:dV):Nat:=ou s.N s.B
def dH(B:Nat)(mvd:Nat->Bool):Nat->Bool:=fun i=>mvd (i/B)
def kQ(s:dV)(top:Nat)(r:Nat):Bool:=kW s.P (fun i=>decide (s.N<=i)&&decide (s.Qe+i<top)) r
def ic(s:dV)(mvd:Nat->Bool)(top q:Nat):Bool:=decide (s.Qe/s.P<=q)&&decide (q<s.Qe/s.P+s.R)&&(mA s.P s.N (dH s.B mvd) (q-s.Qe/s.P)||kQ s top (q-s.Qe/s.P))
structure fS(s:dV):Prop where
 apart:iB s.E
 P1:1<=s.P
 B1:1<=s.B
 div:s.P∣s.B\/s.B∣s.P
 W1:s.W% s.P=0
 W2:s.W<=524288
 to1:s.Qe% s.P=0
 to2:s.Qe+s.R*s.P<=s.W
 N2:s.N<=s.R*s.P
 from_:∀a,aI s.E a=true->a<s.W/\(a<s.Qe\/s.Qe+s.R*s.P<=a)
structure mz(s:dV)(L M:Nat->Nat)(mp:Nat->Bool)(mvd:Nat->Bool)(fr ah left top:Nat):Prop where
 Yg:∀a,a<s.W->aI s.E a=true->mvd (ef s.E a/s.B)=true->M (s.F a)=L (s.F a)
 still:∀a,a<s.W->aI s.E a=true->mvd (ef s.E a/s.B)=false->oq s.E s.hp M s.F a=L (s.F a)
 Qr:∀a,a<s.W->aI s.E a=true->mvd (ef s.E a/s.B)=false->1<=a-dp s.E a->a-dp s.E a<=s.hp (dp s.E a)->M a≠0->aI s.E (M a)=true/\M a<s.W
 small:∀a,a<s.W->aI s.E a=true->mvd (ef s.E a/s.B)=false->M a<18446744073709551616
 behind:∀k,s.Qe+s.N<=k->k<top->M k=L k
 Qx:∀q,q<s.W/s.P->mp q=(ky s.P (aI s.E) (dH s.B mvd) q||ic s mvd top q)
 front:(∀k,k<fr->mvd k=true)/\fr<=s.nb/\(fr<s.nb->mvd fr=false)
 far:∀k,s.nb<=k->mvd k=false
 Ah:ah=Qb mvd fr s.nb/\ah<=s.Ah
 left:left+Qb mvd 0 s.nb=s.nb
 Rm:∃X,(∀k,X k=true->mvd k=true)/\nP s.P (s.W/s.P) s.R s.N (aI s.E) (dH s.B X) (kQ s top)<=s.R
section
variable{s:dV}{L M:Nat->Nat}{mp:Nat->Bool}{mvd:Nat->Bool}{fr ah left top:Nat}
theorem fS.toq(a:fS s):s.Qe=s.Qe/s.P*s.P:=by have:=aM s.Qe s.P;have:=a.to1;rw [aN];omega
theorem fS.Wq(a:fS s):s.W=s.W/s.P*s.P:=by have:=aM s.W s.P;have:=a.W1;rw [aN];omega
theorem lD{P q i a:Nat}(c:1<=P)(h:a=q*P+i)(b:i<P):a/P=q:=by
 rw [h,aN,gO (by omega),iJ b,bg]
theorem wY{P t r:Nat}(a:1<=P)(i:Nat)(h:t=r*P):(t+i)/P=r+i/P:=by
 rw [h,aN,gO (by omega)]
theorem yS(c:fS s){a:Nat}(e:aI s.E a=true):ic s mvd top (a/s.P)=false:=by
 have f:=c.P1;have d:=c.toq;have b:=(c.from_ a e).2;unfold ic;rw [bl,bl,az,az];left;rcases b with b|b
 ·left;have:a/s.P<s.Qe/s.P:=by rw [bp (by omega),<-d];exact b
  omega
 ·right;have:s.Qe/s.P+s.R<=a/s.P:=by rw [dA (by omega),fM,<-d];exact b
  omega
theorem qt(d:fS s)(e:∀q,q<s.W/s.P->mp q=(ky s.P (aI s.E) (dH s.B mvd) q||ic s mvd top q)):Qb mp 0 (s.W/s.P)=nP s.P (s.W/s.P) s.R s.N (aI s.E) (dH s.B mvd) (kQ s top):=by
 have t:=d.P1;have f:=d.toq;have x:=d.Wq;have u:s.Qe/s.P+s.R<=s.W/s.P:=by
  have o:=d.to2;rw [dA (by omega),fM,<-f];exact o
 obtain ⟨g,hg⟩:∃g:Nat->Bool,g=fun r=>mA s.P s.N (dH s.B mvd) r||kQ s top r:=⟨_,rfl⟩
 have l:Qb mp 0 (s.W/s.P)=Qb (ky s.P (aI s.E) (dH s.B mvd)) 0 (s.W/s.P)+Qb (fun q=>decide (s.Qe/s.P<=q)&&decide (q<s.Qe/s.P+s.R)&&g (q-s.Qe/s.P)) 0 (s.W/s.P):=by
  refine tt (aF _) (fun q _ h=> ?_) (fun q _ _ hf=> ?_)
  ·rw [e q h,hg];rfl
  ·obtain ⟨a,k,j⟩:=(cB t).1 hf;rw [au] at j;have c:=(d.from_ a j.1).2;rw [bl,bl,az,az];left;rw [<-k];rcases c with c|c
   ·left;have:a/s.P<s.Qe/s.P:=by rw [bp (by omega),<-f];exact c
    omega
   ·right;have:s.Qe/s.P+s.R<=a/s.P:=by rw [dA (by omega),fM,<-f];exact c
    omega
 have m:Qb (fun q=>decide (s.Qe/s.P<=q)&&decide (q<s.Qe/s.P+s.R)&&g (q-s.Qe/s.P)) 0 (s.W/s.P)=Qb g 0 s.R:=by
  rw [bJ _ (aF (s.Qe/s.P)) (show s.Qe/s.P<=s.W/s.P by omega),bJ _ (show s.Qe/s.P<=s.Qe/s.P+s.R by omega) u,
   cu (a:=0) (b:=s.Qe/s.P) (fun i _ v=>by rw [bl,bl,az];left;left;omega),
   cu (a:=s.Qe/s.P+s.R) (b:=s.W/s.P) (fun i v _=>by rw [bl,bl,az,az];left;right;omega),br,bg]
  have p:∀n,n<=s.R->Qb (fun q=>decide (s.Qe/s.P<=q)&&decide (q<s.Qe/s.P+s.R)&&g (q-s.Qe/s.P)) (s.Qe/s.P) (s.Qe/s.P+n)=Qb g 0 n:=by
   intro n
   induction n with
   |zero=>intro _;rw [bg,dP,dP]
   |succ n ih=>
    intro w;rw [<-bW,cr _ (by omega),cr g (aF n),ih (by omega),aB (show s.Qe/s.P<=s.Qe/s.P+n by omega),aB (show s.Qe/s.P+n<s.Qe/s.P+s.R by omega),show s.Qe/s.P+n-s.Qe/s.P=n by omega];rfl
  exact p s.R (ak _)
 rw [l,m,hg];rfl
theorem mz.Us(a:fS s)(h:mz s L M mp mvd fr ah left top):Qb mp 0 (s.W/s.P)=nP s.P (s.W/s.P) s.R s.N (aI s.E) (dH s.B mvd) (kQ s top):=qt a h.Qx
theorem mz.bound(d:fS s)(h:mz s L M mp mvd fr ah left top):Qb mp 0 (s.W/s.P)<=s.R+2+vW s.B s.P*ah:=by
 obtain ⟨X,v,F⟩:=h.Rm;rw [h.Us d];have e:=d.P1;have t:=d.B1;obtain ⟨m,n,z⟩:=h.front;have f:=h.far;have u:Qb (aI s.E) 0 (s.W/s.P*s.P)=s.N:=by rw [<-d.Wq];rfl
 have C:=wL (P:=s.P) (Q:=s.W/s.P) (R:=s.R) (N:=s.N) (g:=min (fr*s.B) s.N) (live:=aI s.E) (X:=dH s.B X) (A:=kQ s top) e u (Nat.min_le_right _ _);have o:=zX (P:=s.P) (Q:=s.W/s.P) (R:=s.R) (N:=s.N) (B:=s.B) (live:=aI s.E) (A:=kQ s top) (X:=fun i=>dH s.B X i||decide (i<min (fr*s.B) s.N)) (mv:=mvd) e t d.div fr s.nb n;have p:nP s.P (s.W/s.P) s.R s.N (aI s.E) (dH s.B mvd) (kQ s top)=nP s.P (s.W/s.P) s.R s.N (aI s.E) (fun i=>(dH s.B X i||decide (i<min (fr*s.B) s.N))||(decide (fr<=i/s.B)&&decide (i/s.B<s.nb)&&mvd (i/s.B))) (kQ s top):=by
  have k:∀i,i<s.N->dH s.B mvd i=((dH s.B X i||decide (i<min (fr*s.B) s.N))||(decide (fr<=i/s.B)&&decide (i/s.B<s.nb)&&mvd (i/s.B))):=by
   intro i D;unfold dH
   cases hm:mvd (i/s.B) with
   |true=>
    by_cases j:fr<=i/s.B
    ·have l:i/s.B<s.nb:=by
      by_cases h:i/s.B<s.nb
      ·exact h
      ·rw [f _ (by omega)] at hm;cases hm
     rw [aB j,aB l];simp
    ·have:i<fr*s.B:=by
      have:=(bp (show 0<s.B by omega)).1 (show i/s.B<fr by omega);exact this
     rw [aB (show i<min (fr*s.B) s.N by omega)];simp
   |false=>
    have y:X (i/s.B)=false:=by
     rw [be];exact fun h=>by rw [v _ h] at hm;cases hm
    have j:¬i<fr*s.B:=fun h=>by
     have:=(bp (show 0<s.B by omega)).2 h;rw [m _ this] at hm;cases hm
    rw [y,ar (show¬i<min (fr*s.B) s.N by omega)];simp
  unfold nP;congr 1
  ·refine cI (fun q _ w=> ?_);rw [bS];unfold ky;rw [cB e,cB e];constructor
   ·rintro ⟨a,c,b⟩;refine ⟨a,c,?_⟩;rw [au] at b ⊢;have:=jQ b.1 (d.from_ a b.1).1;exact ⟨b.1,(congrArg (fun x=> !x) (k _ this).symm).trans b.2⟩
   ·rintro ⟨a,c,b⟩;refine ⟨a,c,?_⟩;rw [au] at b ⊢;have:=jQ b.1 (d.from_ a b.1).1;exact ⟨b.1,(congrArg (fun x=> !x) (k _ this)).trans b.2⟩
  ·refine cI (fun r _ _=> ?_);congr 1
   rw [bS];unfold mA;rw [cB e,cB e];constructor
   ·rintro ⟨a,c,b⟩;refine ⟨a,c,?_⟩;rw [au,aC] at b ⊢;exact ⟨b.1,(k _ b.1).symm.trans b.2⟩
   ·rintro ⟨a,c,b⟩;refine ⟨a,c,?_⟩;rw [au,aC] at b ⊢;exact ⟨b.1,(k _ b.1).trans b.2⟩
 rw [p];rw [<-h.Ah.1] at o;omega
end
end Go.Proofs.YthahbijbpinneaaGreatDoor
