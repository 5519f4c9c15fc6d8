import Derived.Test.YthahbijbpinneaaGreatDoorA0
import Derived.Test.YthahbijbpinneaaGreatDoorA4
import Derived.Test.YthahbijbpinneaaGreatDoorA5
import Derived.Test.YthahbijbpinneaaGreatDoorA7
import Derived.Deep.RegionHeld
set_option maxRecDepth 100000
set_option maxHeartbeats 8000000
set_option linter.all false
namespace Go.Proofs.YthahbijbpinneaaGreatDoor
open Go.RowKit Go.Proofs.Tryz
section
variable{c:Cy}{s:dV}{hf hg:Nat->Nat}{Fs top:Nat}{S:Nat->Prop}{L:Nat->Nat}{Mv:List Bool}{left fr ah k:Nat}{w w' w0:World}
def xu(c:Cy)(s:dV)(hf hg:Nat->Nat)(Fs top:Nat)(L:Nat->Nat)(S:Nat->Prop)(w0:World)(Mv:List Bool)(left fr ah:Nat)(w:World):Prop:=
 ∃S',jU c s hf hg Fs top Mv left fr ah L S' w/\Fr S w0 w/\∀j,S' j->S j\/w0.heap.size<=j
theorem xu.Fh(h:xu c s hf hg Fs top L S w0 Mv left fr ah w)(a:GM w w'):xu c s hf hg Fs top L S w0 Mv left fr ah w':=by
 obtain ⟨S',b,d,e⟩:=h;exact ⟨S',b.Fh a,d.trans a GN,e⟩
theorem xu.go{L':Nat->Nat}{b:List Bool}{a e d:Nat}{f S2:Nat->Prop}(g:Fr S w0 w)(i:∀j,f j->S j\/w0.heap.size<=j)(m:jU c s hf hg Fs top b a e d L' S2 w')(n:Fr f w w')(o:∀j,S2 j->f j\/w.heap.size<=j):xu c s hf hg Fs top L' S w0 b a e d w':=
 ⟨S2,m,g.trans n i,fun j l=>by
  have:=g.size;rcases o j l with h|h
  ·exact i j h
  ·exact .inr (by omega)⟩
def pH(c:Cy)(s:dV)(hf hg:Nat->Nat)(Fs top:Nat)(L:Nat->Nat)(S:Nat->Prop)(a:Nat)(w:World)(e:Ending)(w':World):Prop:=
 e= .returned (0:Int)/\∃mvl' left' fr' ah',xu c s hf hg Fs top L S w mvl' left' fr' ah' w'/\(a<s.Qe+s.N->iC mvl' ((a-s.Qe)/s.B)=true)
theorem rO(z:yD c s hf hg Fs top)(h:jU c s hf hg Fs top Mv left fr ah L S w)(a:Nat)(h1:s.Qe<=a)(h2:a<top):
  Calls prog 316 #[c.y,(a:Int)] w (pH c s hf hg Fs top L S a w):=by
 obtain ⟨b1,b2,b3,Z,hT⟩:=jU.cells z h;have ho:=z.ok;have ao:=z.Qe;have c8:=b1.cell 8 rfl;have T:xu c s hf hg Fs top L S w Mv left fr ah w:=⟨S,h,GQ _ _,fun _ h=> .inl h⟩;rcases aY a (s.Qe+s.N) with X|X
 ·have HB:=ae (rS Z hT (by omega) a h1 X);have Y:(a-s.Qe)/s.B<s.nb:=by
   have h3:s.nb=ou s.N s.B:=rfl;have h4:=vV (N:=s.N) (k:=s.B) ho.B1;rw [h3,bp (by have:=ho.B1;omega)];omega
  have C:Hid (∀b d g o w',xu c s hf hg Fs top L S w b d g o w'->iC b ((a-s.Qe)/s.B)=true->pH c s hf hg Fs top L S a w (.returned (0:Int)) w'):=by
   show∀b d g o w',_
   exact fun b d g o w' F q2=>⟨rfl,b,d,g,o,F,fun _=>q2⟩
  have aC:s.nb<=1048576:=by
   have h9:s.nb=ou s.N s.B:=rfl;unfold ou at h9;have:=bK (s.N+s.B-1) s.B;have:=z.N;have:=z.B;omega
  generalize az:(a-s.Qe)/s.B=kk at*;have aG:(kk:Int)<(c.nb:Int):=by rw [z.nb];omega
  have V:=ae (fun b d g o w1 (U:xu c s hf hg Fs top L S w b d g o w1)=>(show w1.cell? ⟨c.y,7,none⟩=some (.int .i64 (s.Ah:Int))/\w1.cell? ⟨c.y,10,none⟩=some (.slice (some c.mv) c.nb c.nb)/\w1.cell? ⟨c.y,12,none⟩=some (.int .i64 (g:Int))/\w1.cell? ⟨c.y,13,none⟩=some (.int .i64 (o:Int))/\w1.cell? ⟨c.mv,kk,none⟩=some (.bool (iC b kk))/\g<=1048576/\o<=16 from by
   obtain ⟨S',F,_⟩:=U;obtain ⟨d1,d2,d3,_⟩:=jU.cells z F;obtain ⟨⟨_,f2,_⟩,⟨_,f4⟩,_⟩:=F.Ym;have:=z.a16;exact ⟨by rw [<-z.ah];exact d1.cell 7 rfl,d1.cell 10 rfl,d1.cell 12 rfl,d1.cell 13 rfl,d2.cell kk (ms (by rw [d3];exact Y)),by omega,by omega⟩))
  have x:=ae (fun b d g o w1 (U:xu c s hf hg Fs top L S w b d g o w1) (aH:g<kk)=>(show Calls prog 65 #[c.y] w1 fun e w'=>e= .returned (.tuple #[.bool true,(0:Int)])/\∃ap aj D K,xu c s hf hg Fs top L S w ap aj D K w'/\g<D from by
   obtain ⟨S',F,q2,q3⟩:=U;obtain ⟨⟨f1,f2,f3⟩,_,f4⟩:=F.Ym;have hl:d≠0:=fun e=>by
    have W:=oY (f:=fun i=> !iC b i) (aF g) (show g<s.nb by omega) (by rw [f3 (by omega)];rfl);have h6:∀m,Qb (iC b) 0 m+Qb (fun i=> !iC b i) 0 m=m:=fun m=>by
     induction m with
     |zero=>rw [dP,dP]
     |succ m ih=>
      rw [cr _ (aF m),cr _ (aF m)]
      cases iC b m<;>simp<;>omega
    have:=h6 s.nb;omega
   refine (tV z F hl).mono ?_;rintro e w' ⟨rfl,D,K,S2,r1,r2,r3,r4⟩;exact ⟨rfl,_,_,D,K,xu.go q2 q3 r1 r3 r4,r2⟩))
  have v:=ae (fun b d g o w1 (U:xu c s hf hg Fs top L S w b d g o w1) (r:iC b kk=false) (av:¬g<kk\/o<s.Ah)=>(show Calls prog 133 #[c.y,(kk:Int)] w1 fun e w'=>e= .returned (0:Int)/\pH c s hf hg Fs top L S a w (.returned (0:Int)) w' from by
   obtain ⟨S',F,q2,q3⟩:=U;obtain ⟨⟨f1,f2,f3⟩,_,f4⟩:=F.Ym;have ay:kk=g\/o<s.Ah:=by
    rcases av with h|h
    ·left;rcases aY kk g with W|W
     ·rw [f1 kk W] at r;cases r
     ·omega
    ·exact .inr h
   obtain ⟨_,_,d3,_⟩:=jU.cells z F;refine (tX z F Y r ay).mono ?_;rintro e w' ⟨rfl,D,K,S2,r1,r2,r3,r4,r5⟩;refine ⟨rfl,C.out _ _ D K _ (xu.go q2 q3 r1 r4 r5) ?_⟩;rw [xS (by rw [d3];exact Y)];unfold gI;rw [aB rfl,ew]))
  have aq:=ae T;have j:=ae (fun w1 (hf:GM w w1)=>T.Fh hf);have aK:(s.Ah:Int)<=16:=by have:=z.a16;omega
  have aE:(kk:Int)<=1048576:=by omega
  clear h b1 b2 b3 Z hT ho ao T Y az z;generalize (pH c s hf hg Fs top L S a w)=Q at*
  go_enter func316,ntmps316
  go_wp2_with fail
  refine HB.out.mono ?_;rintro e w1 ⟨rfl,E⟩;have I:=ae (j.out w1 E);obtain ⟨c7,af,O,Xd,d0,ax,au⟩:=V.out _ _ _ _ w1 I.out;clear E HB j aq c8
  cases r:iC Mv kk with
  |true=>
   rw [r] at d0;have HE:=ae (C.out _ _ _ _ w1 I.out r);clear C V x v I r c7 O Xd;go_wp2;exact HE.out
  |false=>
   rw [r] at d0;clear r c7 O Xd;go_wp2;clear af d0 ax au
   go_loopw [] (fun wr=>∃(m:List Bool) (l f h:Nat),Hid (xu c s hf hg Fs top L S w m l f h wr)) (fun wr=>kk-rC wr c.y)
   case atStart=>exact ⟨Mv,left,fr,ah,I⟩
   case round=>
    clear I;obtain ⟨m,l,f,h,hr⟩:=hrel;obtain ⟨c7,af,O,Xd,d0,E,aD⟩:=V.out _ _ _ _ wr.drew (hr.out.Fh ((GQ _ wr).drew));have q:=ae (hr.out.Fh (w':=wr.drew) ((GQ _ wr).drew));have aw:rC wr c.y=f:=by
     unfold rC;rw [show wr.cell? ⟨c.y,12,none⟩=some (f:Int) from O];rfl
    obtain ⟨G,al⟩:∃G,G=decide (f<kk):=⟨_,rfl⟩;have t:=ae al;clear al;obtain ⟨BB,am⟩:∃BB,BB=decide (s.Ah<=h):=⟨_,rfl⟩;have A:=ae am;clear am;by_cases u:f<kk
    ·by_cases ad:s.Ah<=h
     ·have ak:=ae (x.out _ _ _ _ wr.drew q.out u);clear C v q hr d0;go_wp2;refine bt (fun w'=>w'=wr.drew) rfl ?_;refine aV [c.y,c.y,.pointer (some ⟨c.y,12,none⟩)] ?_
      iterate 3 (refine aW rfl (fun w9 h9=>by go_simp) ?_;simp only [aa])
      refine aU ?_;refine aA (f:Int) rfl (fun w' p=>by subst p;go_simp) ?_;simp only [aa];refine aA (kk:Int) rfl (fun w' p=>by go_simp) ?_;simp only [aa];refine aA (.bool G) rfl (fun w' p=>by rw [t.out];go_simp) ?_;simp only [aa];refine aA (.bool G) rfl (fun w' p=>by go_simp) ?_;simp only [aa];have j:=t.out.trans (aB u);clear t
      cases G
      case false=>cases j
      clear j;refine aV [c.y,c.y,.pointer (some ⟨c.y,13,none⟩)] ?_
      iterate 3 (refine aW rfl (fun w9 h9=>by go_simp) ?_;simp only [aa])
      refine aU ?_;refine cC (h:Int) rfl (fun w' p=>by subst p;go_simp) ?_;simp only [aa];refine aV [c.y,c.y,.pointer (some ⟨c.y,1,none⟩),.pointer (some ⟨c.y,7,none⟩)] ?_
      iterate 4 (refine aW rfl (fun w9 h9=>by go_simp) ?_;simp only [aa])
      refine aU ?_;refine cC (.int .i64 (s.Ah:Int)) rfl (fun w' p=>by subst p;go_simp) ?_;simp only [aa];refine cC (.bool BB) rfl (fun w' p=>by rw [A.out];go_simp) ?_;simp only [aa];refine aA (.bool BB) rfl (fun w' p=>by go_simp) ?_;simp only [aa];have j:=A.out.trans (aB ad);clear A
      cases BB
      case false=>cases j
      clear j;refine wpQuiet_nil ?_;rintro w2 rfl;clear V x c7 af O Xd;go_wp2_with fail
      refine ak.out.mono ?_;rintro e w5 ⟨rfl,m2,l2,f2,h2,g5,g6⟩;have an:rC w5 c.y=f2:=by
       obtain ⟨S5,g7,_⟩:=g5;obtain ⟨Us,Hg,Sm,mp,M,fw,n,F,_⟩:=g7;unfold rC;rw [F.Qd.cell 12 rfl];rfl
      have G5:=ae g5;clear g5 ak;go_wp2;go_roundw
      case rel=>exact ⟨m2,l2,f2,h2,G5⟩
      case measure=>
       rw [an,aw];omega
     ·clear d0;go_wp2;refine bt (fun w'=>w'=wr.drew) rfl ?_;refine aV [c.y,c.y,.pointer (some ⟨c.y,12,none⟩)] ?_
      iterate 3 (refine aW rfl (fun w9 h9=>by go_simp) ?_;simp only [aa])
      refine aU ?_;refine aA (f:Int) rfl (fun w' p=>by subst p;go_simp) ?_;simp only [aa];refine aA (kk:Int) rfl (fun w' p=>by go_simp) ?_;simp only [aa];refine aA (.bool G) rfl (fun w' p=>by rw [t.out];go_simp) ?_;simp only [aa];refine aA (.bool G) rfl (fun w' p=>by go_simp) ?_;simp only [aa];have j:=t.out.trans (aB u);clear t
      cases G
      case false=>cases j
      clear j;refine aV [c.y,c.y,.pointer (some ⟨c.y,13,none⟩)] ?_
      iterate 3 (refine aW rfl (fun w9 h9=>by go_simp) ?_;simp only [aa])
      refine aU ?_;refine cC (h:Int) rfl (fun w' p=>by subst p;go_simp) ?_;simp only [aa];refine aV [c.y,c.y,.pointer (some ⟨c.y,1,none⟩),.pointer (some ⟨c.y,7,none⟩)] ?_
      iterate 4 (refine aW rfl (fun w9 h9=>by go_simp) ?_;simp only [aa])
      refine aU ?_;refine cC (.int .i64 (s.Ah:Int)) rfl (fun w' p=>by subst p;go_simp) ?_;simp only [aa];refine cC (.bool BB) rfl (fun w' p=>by rw [A.out];go_simp) ?_;simp only [aa];refine aA (.bool BB) rfl (fun w' p=>by go_simp) ?_;simp only [aa];have j:=A.out.trans (ar ad);clear A
      cases BB
      case true=>cases j
      clear j;refine wpQuiet_nil ?_;rintro w2 rfl;obtain ⟨e7,ai,P,R,e0,_,_⟩:=V.out _ _ _ _ wr.drew q.out
      cases r:iC m kk with
      |true=>
       rw [r] at e0;have HE:=ae (C.out _ _ _ _ wr.drew q.out r);clear C V x v hr q r e7 P R u;go_wp2;exact HE.out
      |false=>
       rw [r] at e0;have J:=ae (v.out _ _ _ _ wr.drew q.out r (.inr (by omega)));clear C V x v hr q r e7 P R u;go_wp2_with fail
       refine J.out.mono ?_;rintro e w5 ⟨rfl,W⟩;have H5:=ae W;clear W J e0 ai;go_wp2;exact H5.out
    ·clear d0;go_wp2;refine bt (fun w'=>w'=wr.drew) rfl ?_;refine aV [c.y,c.y,.pointer (some ⟨c.y,12,none⟩)] ?_
     iterate 3 (refine aW rfl (fun w9 h9=>by go_simp) ?_;simp only [aa])
     refine aU ?_;refine aA (f:Int) rfl (fun w' p=>by subst p;go_simp) ?_;simp only [aa];refine aA (kk:Int) rfl (fun w' p=>by go_simp) ?_;simp only [aa];refine aA (.bool G) rfl (fun w' p=>by rw [t.out];go_simp) ?_;simp only [aa];refine aA (.bool G) rfl (fun w' p=>by go_simp) ?_;simp only [aa];have j:=t.out.trans (ar u);clear t
     cases G
     case true=>cases j
     clear j
     go_big_quiet_skip
     go_big_quiet_skip
     go_big_quiet_skip
     go_big_quiet_skip
     go_big_quiet_skip
     go_big_quiet_skip
     go_big_quiet_skip
     go_big_quiet_skip
     go_big_quiet_skip
     go_big_quiet_skip
     refine aA (.bool false) rfl (fun w' p=>by go_simp) ?_;simp only [aa];refine wpQuiet_nil ?_;rintro w2 rfl;obtain ⟨e7,ai,P,R,e0,_,_⟩:=V.out _ _ _ _ wr.drew q.out
     cases r:iC m kk with
     |true=>
      rw [r] at e0;have HE:=ae (C.out _ _ _ _ wr.drew q.out r);clear C V x v hr q r e7 P R u;go_wp2;exact HE.out
     |false=>
      rw [r] at e0;have J:=ae (v.out _ _ _ _ wr.drew q.out r (.inl u));clear C V x v hr q r e7 P R u;go_wp2_with fail
      refine J.out.mono ?_;rintro e w5 ⟨rfl,W⟩;have H5:=ae W;clear W J e0 ai;go_wp2;exact H5.out
 ·have HB:=ae (qs Z (by omega) a X);have C:Hid (∀w',GM w w'->pH c s hf hg Fs top L S a w (.returned (0:Int)) w'):=by
   show∀w',_
   exact fun w' hf=>⟨rfl,Mv,left,fr,ah,T.Fh hf,fun h=>absurd h (by omega)⟩
  clear z h b1 b2 b3 Z hT ho ao T h1 h2 X;generalize (pH c s hf hg Fs top L S a w)=Q at*
  go_enter func316,ntmps316
  go_wp2_with fail
  refine HB.out.mono ?_;rintro e w1 ⟨rfl,E⟩;have H:=ae (C.out w1 E);clear E HB C c8;go_wp2;exact H.out
end
theorem mz.store{s:dV}{L M:Nat->Nat}{mp:Nat->Bool}{g:Nat->Bool}{fr l left top:Nat}(n:fS s)(h:mz s L M mp g fr l left top)(o:top<=s.Qe+s.R*s.P){a x:Nat}(u:s.Qe<=a)(v:a<top)(q:a<s.Qe+s.N->g ((a-s.Qe)/s.B)=true):
  mz s (ej L a x) (ej M a x) mp g fr l left top:=by
 have i:∀b,aI s.E b=true->b≠a:=fun b c e=>by
  have p:=(n.from_ b c).2;omega
 have j:∀b,aI s.E b=true->g (ef s.E b/s.B)=false->s.F b≠a:=fun b c f e=>by
  have p:=n.Fa c;have w:s.F b=s.Qe+ef s.E b:=rfl;have m:=q (by omega);rw [show a-s.Qe=ef s.E b by omega,f] at m
  cases m
 refine ⟨fun b d c f=> ?_,fun b d c f=> ?_,fun b d c f=> ?_,fun b d c f=> ?_,fun k r t=> ?_,h.Qx,h.front,h.far,h.Ah,h.left,h.Rm⟩
 ·unfold ej;split
  ·rfl
  ·exact h.Yg b d c f
 ·have e:ej M a x b=M b:=aE (i b c);rw [jm c e,h.still b d c f];exact (aE (j b c f)).symm
 ·have e:ej M a x b=M b:=aE (i b c);rw [e];exact h.Qr b d c f
 ·have e:ej M a x b=M b:=aE (i b c);rw [e];exact h.small b d c f
 ·unfold ej;split
  ·rfl
  ·exact h.behind k r t
section
variable{c:Cy}{s:dV}{hf hg:Nat->Nat}{Fs top:Nat}{S:Nat->Prop}{L:Nat->Nat}{Mv:List Bool}{left fr ah k:Nat}{w w' w0:World}
def rI(c:Cy)(s:dV)(hf hg:Nat->Nat)(Fs top:Nat):jF:=fun L S w=>∃Mv left fr ah,jU c s hf hg Fs top Mv left fr ah L S w
def yj(s:dV)(top a:Nat):Prop:=s.Qe<=a/\a<top
theorem jU.word(o:yD c s hf hg Fs top)(h:jU c s hf hg Fs top Mv left fr ah L S w){a:Nat}(H:s.Qe<=a)(p:a<top)(v:a<s.Qe+s.N->iC Mv ((a-s.Qe)/s.B)=true):
  (Calls prog 223 #[c.m,(a:Int)] w fun e w'=>e= .returned (.tuple #[.int .u64 ((L a:Nat):Int),(0:Int)])/\GM w w')/\
  ∀x:Nat,x<18446744073709551616->Calls prog 224 #[c.m,(a:Int),.int .u64 x] w fun e w'=>e= .returned (0:Int)/\jU c s hf hg Fs top Mv left fr ah (ej L a x) S w'/\Fr S w w':=by
 obtain ⟨Us,Hg,A,mp,M,G,n,y,hp,K,O,z⟩:=h;have l:=o.ok;have g:a<s.W:=by have:=o.Ys;have:=l.to2;omega
 have f:mp (a/s.P)=true/\M a=L a:=by
  rcases aY a (s.Qe+s.N) with d|d
  ·obtain ⟨b,C,r,D⟩:=wt (E:=s.E) (W:=s.W) (i:=a-s.Qe) (by have:s.N=Qb (aI s.E) 0 s.W:=rfl;omega);have q:s.F b=a:=by show s.Qe+ef s.E b=a;omega
   have j:iC Mv (ef s.E b/s.B)=true:=by rw [D];exact v d
   have t:=hp.Yl l r j;have u:=hp.Yg b C r j;rw [q] at t u;exact ⟨t,u⟩
  ·exact ⟨(hp.Xf l o.Ys d p).2,hp.behind a d p⟩
 refine ⟨?_,fun x J=> ?_⟩
 ·have:=jt y.mem a g f.1;rwa [f.2] at this
 ·refine (uW y a x g f.1 J).mono ?_;rintro e w' ⟨rfl,Q,R⟩;exact ⟨rfl,⟨Us,Hg,A,mp,_,G,n,Q,hp.store l o.Ys H p v,K,O,z⟩,R.mono (fun k I=> .inl ((z k).2 (.inl I)))⟩
theorem AY(i:yD c s hf hg Fs top)(h:rI c s hf hg Fs top L S w)(a:Nat)(b:yj s top a):
  Calls prog 314 #[c.y,(a:Int)] w fun e w'=>e= .returned (.tuple #[.int .u64 ((L a:Nat):Int),(0:Int)])/\iY (rI c s hf hg Fs top) L S w w':=by
 obtain ⟨Mv,left,fr,ah,h⟩:=h;have p:=ae (rO i h a b.1 b.2);have o:Hid (∀e w1,pH c s hf hg Fs top L S a w e w1->e= .returned (0:Int)/\w1.cell? c.y=some c.m/\(Calls prog 223 #[c.m,(a:Int)] w1 fun e w'=>e= .returned (.tuple #[.int .u64 ((L a:Nat):Int),(0:Int)])/\iY (rI c s hf hg Fs top) L S w w')):=by
  show∀e w1,_
  rintro e w1 ⟨rfl,m,l,f,g,⟨S',j,u,v⟩,x⟩;refine ⟨rfl,(jU.cells i j).1.cell 0 rfl,((jU.word i j b.1 b.2 x).1).mono ?_⟩;rintro e w2 ⟨rfl,d⟩;exact ⟨rfl,S',⟨m,l,f,g,j.Fh d⟩,u.trans d GN,v⟩
 clear i h b;generalize (iY (rI c s hf hg Fs top) L S w)=Q at*;generalize L a=X at*
 go_enter func314,ntmps314
 go_wp2_with fail
 refine p.out.mono ?_;intro e w1 hp;obtain ⟨rfl,t,q⟩:=o.out _ _ hp;have n:=ae q;clear hp p o q;go_wp2_with fail
 refine n.out.mono ?_;rintro e w2 ⟨rfl,r⟩;have H:=ae r;clear r n t;go_wp2;go_ret2;exact ⟨rfl,H.out⟩
theorem yV(d:yD c s hf hg Fs top)(h:rI c s hf hg Fs top L S w)(a x:Nat)(b:yj s top a)(q:x<18446744073709551616):
  Calls prog 315 #[c.y,(a:Int),.int .u64 x] w fun e w'=>e= .returned (0:Int)/\iY (rI c s hf hg Fs top) (ej L a x) S w w':=by
 obtain ⟨Mv,left,fr,ah,h⟩:=h;have n:=ae (rO d h a b.1 b.2);have j:Hid (∀e w1,pH c s hf hg Fs top L S a w e w1->e= .returned (0:Int)/\w1.cell? c.y=some c.m/\(Calls prog 224 #[c.m,(a:Int),.int .u64 x] w1 fun e w'=>e= .returned (0:Int)/\iY (rI c s hf hg Fs top) (ej L a x) S w w')):=by
  show∀e w1,_
  rintro e w1 ⟨rfl,m,l,f,g,⟨S',r,v,t⟩,z⟩;refine ⟨rfl,(jU.cells d r).1.cell 0 rfl,((jU.word d r b.1 b.2 z).2 x q).mono ?_⟩;rintro e w2 ⟨rfl,A,B⟩;exact ⟨rfl,S',⟨m,l,f,g,A⟩,v.trans B t,t⟩
 clear d h b q;generalize (iY (rI c s hf hg Fs top) (ej L a x) S w)=Q at*
 go_enter func315,ntmps315
 go_wp2_with fail
 refine n.out.mono ?_;intro e w1 hp;obtain ⟨rfl,u,o⟩:=j.out _ _ hp;have i:=ae o;clear hp n j o;go_wp2_with fail
 refine i.out.mono ?_;rintro e w2 ⟨rfl,p⟩;have H:=ae p;clear p i u;go_wp2;go_ret;exact ⟨rfl,H.out⟩
theorem DS(b:yD c s hf hg Fs top):dy 115 (.pointer (some ⟨c.y,0,none⟩)) 314 (.pointer (some ⟨c.y,0,none⟩)) (rI c s hf hg Fs top) (yj s top) where
 Yd:=fun w=>by kernel_rfl
 Ye:=enters_of func314 (by kernel_rfl) rfl
 stays:=fun L S w1 w2 T ⟨m,l,f,g,q⟩ hf e b=>⟨m,l,f,g,q.stays hf e b⟩
 Xu:= .inr (fun L S w ⟨_,_,_,_,q⟩=>q.Xu)
 lt:=fun L S w ⟨_,_,_,_,q⟩=>q.lt
 load:=fun L S w a h d=>AY b h a d
theorem Fc(d:yD c s hf hg Fs top):ph 115 (.pointer (some ⟨c.y,0,none⟩)) 315 (.pointer (some ⟨c.y,0,none⟩)) (rI c s hf hg Fs top) (yj s top) where
 Xv:=fun w=>by kernel_rfl
 Xw:=enters_of func315 (by kernel_rfl) rfl
 store:=fun L S w a x h b e=>yV d h a x b e
end
theorem yG{w:World}(g k r:Nat)(A:k<=64)(h:∀j,j<k->∃a b c:Int,w.cell? ⟨g,j*3,none⟩=some (a:Int)/\w.cell? ⟨g,j*3+1,none⟩=some (b:Int)/\w.cell? ⟨g,j*3+2,none⟩=some (c:Int)/\a<=b/\b<=c):
  Calls prog 239 #[.slice (some g) k r] w fun e w'=>e= .returned (.bool true)/\GM w w':=by
 have H:=ae (fun (j:Nat) (w1:World) (hf:GM w w1) (p:j<k)=>(show∃a b c:Int,w1.cell? ⟨g,j*3,none⟩=some (a:Int)/\w1.cell? ⟨g,j*3+1,none⟩=some (b:Int)/\w1.cell? ⟨g,j*3+2,none⟩=some (c:Int)/\a<=b/\b<=c from by
  obtain ⟨a,b,c,f,i,o,s⟩:=h j p;exact ⟨a,b,c,(World.cell?_of_block (w:=w) (hf.block _ (cl f) id)).trans f,(World.cell?_of_block (w:=w) (hf.block _ (cl i) id)).trans i,(World.cell?_of_block (w:=w) (hf.block _ (cl o) id)).trans o,s⟩))
 have n:=ae (GQ (fun _=>False) w);clear h
 go_enter func239,ntmps239
 go_wp2
 go_loopw [7] (fun x wr=>∃j:Nat,x= .int .i64 j/\j<=k/\Hid (GM w wr)) (fun x _=>(k-intOf x).toNat)
 case atStart=>exact ⟨0,rfl,aF _,n⟩
 case round=>
  clear n;obtain ⟨j,rfl,p,l⟩:=hrel;by_cases d:j<k
  ·obtain ⟨a,b,c,v,y,z,f,i⟩:=H.out j wr l.out d;have q:=ae (l.out.alloc (.cells #[(a:Int),(b:Int),(c:Int)] 50));have c1:(j:Int)<(k:Int):=by omega
   have t:¬b<a:=by omega
   have u:¬c<b:=by omega
   clear l H f i;go_wp2;go_roundw
   case rel=>exact ⟨j+1,by go_num,by omega,q⟩
   case measure=>simp [intOf];omega
  ·have m:j=k:=by omega
   subst m;have c1:¬(j:Int)<(j:Int):=by omega
   clear H d;go_wp2;go_ret;exact ⟨rfl,l.out⟩
def gY(F Tp T Li B st ah:Nat):Value:= .agg #[(F:Int),(Tp:Int),(T:Int),(Li:Int),(B:Int),(st:Int),(ah:Int)]
structure nh(Pg W F Tp T Li B st ah:Nat):Prop where
 B0:cJ (B:Int)=true
 B1:1<=B
 B2:B<=1024
 s1:1<=st
 s2:st<=4096
 a1:ah<=16
 F1:Pg<=F
 F2:F<=Tp
 F3:Tp<=W
 T1:Pg<=T
 T2:T<Li
 T3:Li<=W
 F4:F% Pg=0
 T4:T% Pg=0
 L4:Li% Pg=0
 P:cJ (Pg:Int)=true
 ap:Li<=F\/(Tp+Pg-1)/Pg*Pg<=T
section
variable{w:World}{m Pg W Fs Us Hg:Nat}{S:Nat->Prop}{mp:Nat->Bool}{M:Nat->Nat}
theorem rQ(L:ed w m S Pg W Fs Us Hg mp M){F Tp T c B K H:Nat}(d:nh Pg W F Tp T c B K H):
  Calls prog 188 #[m,gY F Tp T c B K H] w fun e w'=>e= .returned (0:Int)/\GM w w':=by
 obtain ⟨p1,p2,hW,af,_,_,_,_,ad⟩:=L.at;have A:=ae (fun w1 (hf:GM w w1)=>jo (L.Qa hf));have E:=ae (fun w1 (hf:GM w w1)=>gS (L.Qa hf));have C:=ae (fun w1=>jM (B:Int) (by have:=d.B2;omega) true d.B0 w1);have r:=ae (fun w1=>AJ Tp Pg d.P p1 (by omega) (by have:=d.F3;omega) w1);obtain ⟨u,I⟩:∃u,u=(Tp+Pg-1)/Pg*Pg:=⟨_,rfl⟩;have o:=d.ap;rw [<-I] at r o;have q1:((F:Int).tmod (Pg:Int))=0:=by rw [show ((F:Int).tmod (Pg:Int))=((F% Pg:Nat):Int) from rfl,d.F4];rfl
 have q2:((T:Int).tmod (Pg:Int))=0:=by rw [show ((T:Int).tmod (Pg:Int))=((T% Pg:Nat):Int) from rfl,d.T4];rfl
 have q3:((c:Int).tmod (Pg:Int))=0:=by rw [show ((c:Int).tmod (Pg:Int))=((c% Pg:Nat):Int) from rfl,d.L4];rfl
 have aj:((Pg:Int)==0)=false:=by rw [aT];omega
 have ai:¬Pg=0:=by omega
 have G:=ae (fun (w1:World) (g:Nat) (a:aJ w1 g [(1:Int),(B:Int),(1024:Int),(1:Int),(K:Int),(4096:Int),(0:Int),(H:Int),(16:Int),(Pg:Int),(F:Int),(W:Int),(F:Int),(Tp:Int),(W:Int),(Pg:Int),(T:Int),(W:Int),(T:Int),(c:Int),(W:Int)] 50)=>yG (w:=w1) g 7 7 (by omega) (fun j hj=>by
  have hh:=d;obtain ⟨B0,B1,B2,s1,s2,a1,F1,F2,F3,T1,T2,T3,_,_,_,_,_⟩:=hh
  match j,hj with
  |0,_=>exact ⟨_,_,_,a.cell 0 rfl,a.cell 1 rfl,a.cell 2 rfl,by omega,by omega⟩
  |1,_=>exact ⟨_,_,_,a.cell 3 rfl,a.cell 4 rfl,a.cell 5 rfl,by omega,by omega⟩
  |2,_=>exact ⟨_,_,_,a.cell 6 rfl,a.cell 7 rfl,a.cell 8 rfl,by omega,by omega⟩
  |3,_=>exact ⟨_,_,_,a.cell 9 rfl,a.cell 10 rfl,a.cell 11 rfl,by omega,by omega⟩
  |4,_=>exact ⟨_,_,_,a.cell 12 rfl,a.cell 13 rfl,a.cell 14 rfl,by omega,by omega⟩
  |5,_=>exact ⟨_,_,_,a.cell 15 rfl,a.cell 16 rfl,a.cell 17 rfl,by omega,by omega⟩
  |6,_=>exact ⟨_,_,_,a.cell 18 rfl,a.cell 19 rfl,a.cell 20 rfl,by omega,by omega⟩))
 obtain ⟨W1,f⟩:∃W1,w.alloc (.cells #[(F:Int),(Tp:Int),(T:Int),(c:Int),(B:Int),(K:Int),(H:Int)] 143)=W1:=⟨_,rfl⟩;have t:GM w W1:=by rw [<-f];exact (GQ _ w).alloc _
 have b:aJ W1 w.heap.size [(F:Int),(Tp:Int),(T:Int),(c:Int),(B:Int),(K:Int),(H:Int)] 143:=by rw [<-f];exact aJ.new w _ _
 have s:=d.T2;have hN:F<=524288/\T<=524288/\c<=524288/\Tp<=524288:=by have:=d.F2;have:=d.F3;have:=d.T3;omega
 have p:=ae t;have v:=ae b;have z:=ae (A.out W1 t);obtain ⟨R,U,V,X,k4,k5,k6,_⟩:=GU b;clear L d t b I;unfold gY
 go_enter func188,ntmps188
 go_wp2_with fail
 refine z.out.mono ?_;rintro e w' ⟨rfl,rfl⟩;have D:=ae (E.out W1 p.out);go_wp2_with fail
 refine D.out.mono ?_;rintro e w' ⟨rfl,rfl⟩;clear D z A E f;go_wp2_with fail
 refine (C.out W1).mono ?_;rintro e w' ⟨rfl,rfl⟩;clear C;go_wp2_with fail
 refine (G.out _ _ (aJ.new W1 _ _)).mono ?_;rintro e w2 ⟨rfl,J⟩;have l:GM W1 w2:=((GQ (fun _=>False) W1).alloc _).trans J GN;have i:=v.out.frame l id;have y:=ae (p.out.trans l GN);have x:=ae i;have j0:=i.drew.cell 0 rfl;have j2:=i.drew.cell 2 rfl;have j3:=i.drew.cell 3 rfl;clear l J i v p G R U V X k4 k5 k6;go_wp2;refine bt (fun w'=>w'=w2.drew) rfl ?_;refine aA w.heap.size rfl (fun w' n=>by go_simp) ?_;simp only [aa];refine aA (F:Int) rfl (fun w' n=>by subst n;go_simp) ?_;simp only [aa];refine aV [(Pg:Int),(0:Int),.pointer (some ⟨w.heap.size,2,none⟩)] ?_
 iterate 3 (refine aW rfl (fun Y Q=>by go_simp) ?_;simp only [aa])
 refine aU ?_;refine aA (T:Int) rfl (fun w' n=>by subst n;go_simp) ?_;simp only [aa];refine aV [(Pg:Int),(0:Int)] ?_
 iterate 2 (refine aW rfl (fun Y Q=>by go_simp) ?_;simp only [aa])
 refine aU ?_;refine aA (0:Int) rfl (fun w' n=>by go_simp;rfl) ?_;simp only [aa];refine aA (.pointer (some ⟨w.heap.size,3,none⟩)) rfl (fun w' n=>by go_simp) ?_;simp only [aa];refine aA (c:Int) rfl (fun w' n=>by subst n;go_simp) ?_;simp only [aa];refine aV [(Pg:Int),(0:Int)] ?_
 iterate 2 (refine aW rfl (fun Y Q=>by go_simp) ?_;simp only [aa])
 refine aU ?_;refine aA (0:Int) rfl (fun w' n=>by go_simp;rfl) ?_;simp only [aa];refine aA (.bool false) rfl (fun w' n=>by go_simp) ?_;simp only [aa];refine wpQuiet_nil ?_;rintro w3 rfl;have k:=x.out.drew;obtain ⟨R,U,V,X,_⟩:=GR k;have q:=ae (y.out.drew);clear k x y j0 j2 j3;go_wp2_with fail
 refine (r.out _).mono ?_;rintro e w' ⟨rfl,rfl⟩;clear r;have c1:(T:Int)<(c:Int):=by omega
 by_cases N:F<u
 ·have Z:(F:Int)<(u:Int):=by omega
  by_cases O:F<c
  ·have d2:(F:Int)<(c:Int):=by omega
   have d3:¬(T:Int)<(u:Int):=by omega
   clear o N O s;go_wp2;go_ret;exact ⟨rfl,q.out⟩
  ·have d2:¬(F:Int)<(c:Int):=by omega
   clear o N O s;go_wp2;go_ret;exact ⟨rfl,q.out⟩
 ·have Z:¬(F:Int)<(u:Int):=by omega
  clear o N s;go_wp2;go_ret;exact ⟨rfl,q.out⟩
end
def fx(w:World)(b m Ba top Lm:Nat):Prop:=aJ w b [m,(Ba:Int),(top:Int),(Lm:Int)] 243
section
variable{w:World}{b m Ba top Lm:Nat}
theorem j7(h:fx w b m Ba top Lm):Calls prog 158 #[b] w fun e w'=>e= .returned (.bool false)/\w=w':=by
 have a:=h.cell 0 rfl;clear h
 go_enter func158,ntmps158
 go_wp2;go_ret;exact ⟨rfl,rfl⟩
theorem mu(h:fx w b m Ba top Lm):Calls prog 75 #[b] w fun e w'=>e= .returned (Ba:Int)/\w=w':=by
 have a:=ae (j7 h);have c:=h.cell 1 rfl;clear h
 go_enter func75,ntmps75
 go_wp2_with fail
 refine a.out.mono ?_;rintro e w1 ⟨rfl,rfl⟩;clear a;go_wp2;go_ret;exact ⟨rfl,rfl⟩
theorem re(h:fx w b m Ba top Lm):Calls prog 76 #[b] w fun e w'=>e= .returned (top:Int)/\w=w':=by
 have a:=ae (j7 h);have c:=h.cell 2 rfl;clear h
 go_enter func76,ntmps76
 go_wp2_with fail
 refine a.out.mono ?_;rintro e w1 ⟨rfl,rfl⟩;clear a;go_wp2;go_ret;exact ⟨rfl,rfl⟩
theorem ve(h:fx w b m Ba top Lm)(x:Nat)(g:Ba<=x)(i:x<=Lm):Calls prog 77 #[b,(x:Int)] w fun e w'=>e= .returned (0:Int)/\fx w' b m Ba x Lm/\Fr (fun k=>k=b) w w':=by
 have a:=ae (j7 h);obtain ⟨_,c1,c2,_⟩:=GT h;have o:=h.free 2;have j:=h.cell 3 rfl;have c:Hid (∀w',w'=w.setCell ⟨b,2,none⟩ (.int .i64 x)->fx w' b m Ba x Lm/\Fr (fun k=>k=b) w w'):=by
  show∀w',_
  rintro w' rfl;exact ⟨h.set 2 _,(GQ (fun k=>k=b) w).setCell ⟨b,2,none⟩ (.inl rfl) _⟩
 have l:decide ((x:Int)<(Ba:Int))=false:=by rw [az];omega
 have n:decide ((Lm:Int)<(x:Int))=false:=by rw [az];omega
 have d:¬(x:Int)<(Ba:Int):=by omega
 have f:¬(Lm:Int)<(x:Int):=by omega
 clear h g i
 go_enter func77,ntmps77
 go_wp2_with fail
 refine a.out.mono ?_;rintro e w1 ⟨rfl,rfl⟩;clear a;go_wp2;go_ret;exact ⟨rfl,c.out _ rfl⟩
theorem tz{S:Nat->Prop}{Pg W Rm Us Hg:Nat}{mp:Nat->Bool}{M:Nat->Nat}(h:ed w m S Pg W Rm Us Hg mp M)(Ba Lm:Nat)(i:Ba<=Lm)(j:Lm<=W):Calls prog 121 #[m,(Ba:Int),(Lm:Int)] w fun e w'=>∃b,e= .returned (.tuple #[.pointer (some ⟨b,0,none⟩),(0:Int)])/\fx w' b m Ba Ba Lm/\w.heap.size<=b/\GM w w':=by
 have a:=ae (gS h);obtain ⟨_,_,_,_,_,_,_,_,c⟩:=h.at;have k:((W:Int)==0)=false:=by rw [aT];omega
 have l:¬(Ba:Int)<0:=by omega
 have n:decide ((Lm:Int)<(Ba:Int))=false:=by rw [az];omega
 have f:¬(Lm:Int)<(Ba:Int):=by omega
 have o:decide ((W:Int)<(Lm:Int))=false:=by rw [az];omega
 have g:¬(W:Int)<(Lm:Int):=by omega
 have d:Hid (∀w',w'=w.alloc (.cells #[m,(Ba:Int),(Ba:Int),(Lm:Int)] 243)->fx w' w.heap.size m Ba Ba Lm/\w.heap.size<=w.heap.size/\GM w w'):=by
  show∀w',_
  rintro w' rfl;exact ⟨aJ.new w _ _,ak _,(GQ _ w).alloc _⟩
 clear h i j c
 go_enter func121,ntmps121
 go_wp2_with fail
 refine a.out.mono ?_;rintro e w1 ⟨rfl,rfl⟩;go_wp2_with fail
 refine a.out.mono ?_;rintro e w1 ⟨rfl,rfl⟩;clear a;go_wp2;refine bodyPost_ret (results_tmp2 rfl _ _ _) rfl ?_;exact ⟨_,rfl,d.out _ rfl⟩
theorem Aq(h:fx w b m Ba top Lm)(n:Nat)(i:1<=n)(l:top<=Lm)(k:Lm-top<n)(j:Lm<=1048576):Calls prog 124 #[b,(n:Int)] w fun e w'=>e= .returned (.tuple #[(0:Int),(21:Int)])/\GM w w':=by
 have a:=ae (j7 h);obtain ⟨_,_,c2,d,_⟩:=GR h;have f:¬(n:Int)<1:=by omega
 have o:IntKind.i64.wrap ((Lm:Int)-(top:Int))=(Lm:Int)-(top:Int):=by rw [IntKind.wrap_i64];omega
 have g:decide ((Lm:Int)-(top:Int)<(n:Int))=true:=by rw [aC];omega
 have c:(Lm:Int)-(top:Int)<(n:Int):=by omega
 clear h
 go_enter func124,ntmps124
 go_wp2_with fail
 refine a.out.mono ?_;rintro e w1 ⟨rfl,rfl⟩;clear a;go_wp2
 go_quiet (fail)
 go_wp2;go_ret2;exact ⟨rfl,(GQ _ _).drewN _⟩
end
section
variable{w:World}{b m Ba top Lm:Nat}{S:Nat->Prop}{Pg W Rm Us Hg:Nat}{mp:Nat->Bool}{M:Nat->Nat}
def C2(w:World)(b m Ba top Lm n:Nat)(S:Nat->Prop)(Pg W Rm Us:Nat)(mp:Nat->Bool)(M:Nat->Nat)(e:Ending)(w':World):Prop:=
 e= .returned (.tuple #[(top:Int),(0:Int)])/\fx w' b m Ba (top+n) Lm/\∃S' Hg' mp' M',ed w' m S' Pg W Rm (Us+Qb (fJ mp) (top/Pg) ((top+n-1)/Pg+1)) Hg' mp' M'/\(∀q,mp' q=(mp q||(decide (top/Pg<=q)&&decide (q<=(top+n-1)/Pg))))/\(∀a,a<W->mp (a/Pg)=true->M' a=M a)/\Fr (fun k=>S k\/k=b) w w'/\∀k,S' k->S k\/w.heap.size<=k
theorem sH(h:fx w b m Ba top Lm)(s:ed w m S Pg W Rm Us Hg mp M)(o:¬S b)(n:Nat)(H:1<=n)(L:top+n<=Lm)(I:Lm<=W)(g:Us+Qb (fJ mp) (top/Pg) ((top+n-1)/Pg+1)<=Rm):Calls prog 124 #[b,(n:Int)] w (C2 w b m Ba top Lm n S Pg W Rm Us mp M):=by
 have v:=ae (j7 h);have J:=s.at.2.2.1;obtain ⟨E,_,c2,F,_⟩:=GR h;have R:¬(n:Int)<1:=by omega
 have a:IntKind.i64.wrap ((Lm:Int)-(top:Int))=(Lm:Int)-(top:Int):=by rw [IntKind.wrap_i64];omega
 have N:IntKind.i64.wrap ((top:Int)+(n:Int))=(top:Int)+(n:Int):=by rw [IntKind.wrap_i64];omega
 have T:decide ((Lm:Int)-(top:Int)<(n:Int))=false:=by rw [az];omega
 have G:¬(Lm:Int)-(top:Int)<(n:Int):=by omega
 have d:=ae (fun w1 (hf:GM w w1)=>nB (s.Qa hf) top (top+n) (by omega) (by omega) g);rw [show ((top+n:Nat):Int)=(top:Int)+(n:Int) by push_cast;rfl] at d;have C:=ae (ag h o);have u:Hid (∀w1 e w',GM w w1->vo w1 m S Pg W Rm Us mp M (top/Pg) ((top+n-1)/Pg) e w'->e= .returned (0:Int)/\fx w' b m Ba top Lm/\∀w2,w2=w'.setCell ⟨b,2,none⟩ (.int .i64 ((top:Int)+(n:Int)))->C2 w b m Ba top Lm n S Pg W Rm Us mp M (.returned (.tuple #[(top:Int),(0:Int)])) w2):=by
  show∀w1 e w',_
  rintro w1 e w' hf ⟨rfl,S',q,t,D,O,P,Q,z,A⟩;have j:fx w' b m Ba top Lm:=aJ.frame (aJ.frame h hf id) z o;have K:b<w.heap.size:=aJ.lt h;have V:=hf.size;refine ⟨rfl,j,?_⟩;rintro w2 rfl;have l:Fr (fun k=>k=b) w' (w'.setCell ⟨b,2,none⟩ (.int .i64 ((top:Int)+(n:Int)))):=(GQ (fun k=>k=b) w').setCell ⟨b,2,none⟩ (.inl rfl) _;refine ⟨rfl,?_,S',q,t,D,O.frame l (fun k r e=> ?_),P,Q,(((hf.mono (S':=fun k=>S k\/k=b) GN).trans z (fun k h=> .inl (.inl h)))).trans l (fun k h=> .inl (.inr h)),fun k r=> ?_⟩
  ·have:=aJ.set j 2 (.int .i64 ((top:Int)+(n:Int)));unfold fx;rw [show ((top+n:Nat):Int)=(top:Int)+(n:Int) by push_cast;rfl];exact this
  ·subst e;rcases A _ r with h|h
   ·exact o h
   ·omega
  ·rcases A k r with h|h
   ·exact .inl h
   ·exact .inr (by omega)
 clear h s o H L I g J
 go_enter func124,ntmps124
 go_wp2_with fail
 refine v.out.mono ?_;rintro e w1 ⟨rfl,rfl⟩;clear v;go_wp2
 go_quiet (fail)
 go_wp2;refine bR (fun w'=>w'=(w.drewN nq).drew) 14 rfl ?_;simp only [ai,an,aj,ao];refine aV [b,b,b] ?_
 iterate 3 (refine aW rfl (fun B x=>by go_simp) ?_;simp only [aa])
 refine aU ?_;refine aA m rfl (fun w a=>by subst a;go_simp) ?_;simp only [aa];refine aV [b,b,.pointer (some ⟨b,2,none⟩)] ?_
 iterate 3 (refine aW rfl (fun B x=>by go_simp) ?_;simp only [aa])
 refine aU ?_;refine aA (top:Int) rfl (fun w a=>by subst a;go_simp) ?_;simp only [aa];refine aV [b,b,.pointer (some ⟨b,2,none⟩)] ?_
 iterate 3 (refine aW rfl (fun B x=>by go_simp) ?_;simp only [aa])
 refine aU ?_;refine aA (top:Int) rfl (fun w a=>by subst a;go_simp) ?_;simp only [aa];refine aA (n:Int) rfl (fun w a=>by go_simp) ?_;simp only [aa];refine aA (.int .i64 ((top:Int)+(n:Int))) rfl (fun w a=>by subst a;go_simp) ?_;simp only [aa];refine wpQuiet_nil ?_;rintro w6 rfl;have f:GM w (w.drewN nq).drew:=((GQ _ _).drewN _).drew;have c:=ae (d.out _ f);have i:=ae (fun e w' h=>u.out _ e w' f h);clear d u E c2 F a f;go_wp2_with fail
 refine c.out.mono ?_;intro e w3 hp;obtain ⟨rfl,g,y⟩:=i.out _ _ hp;have X:=aJ.cell g 2 rfl;have U:=aJ.free g 2;have p:=ae y;clear hp g y c i C;go_wp2;go_ret2;exact p.out _ rfl
end
structure Cf where
 kind:Nat
 Pg:Nat
 block:Nat
 Wd:Nat
 Sl:Nat
 stack:Nat
 Ah:Nat
 Qu:Nat
def Cf.spare(c:Cf):Nat:=(c.Ah+2)*(max (c.block/c.Pg) 1+3)
def Cf.Fs(c:Cf):Nat:=c.Wd/c.Pg+if c.kind=1 then c.spare else if c.kind=2 then c.Wd/c.Pg else 0
def Cf.W(c:Cf):Nat:=c.Pg+c.Wd+if c.kind=3 then 0 else c.Wd
structure iz(c:Cf):Prop where
 Yj:c.kind=1\/c.kind=2\/c.kind=3
 Qv:cJ (c.Pg:Int)=true
 Qq:1<=c.Pg
 Yt:c.Pg<=256
 Yw:cJ (c.block:Int)=true
 block2:1<=c.block
 Yn:c.block<=1024
 words1:cJ (c.Wd:Int)=true
 words2:16<=c.Wd
 Xp:c.Wd<=131072
 words4:c.Pg<=c.Wd
 Yp:1<=c.Sl
 slots2:c.Sl<=64
 Yx:1<=c.stack
 Yy:c.stack<=4096
 Yo:c.Ah<=16
 Zc:c.Fs<=4096
def Cf.cells(c:Cf):List Value:=[((c.kind:Int):Int),((c.Pg:Int):Int),((c.block:Int):Int),((c.Wd:Int):Int),((c.Sl:Int):Int),((c.stack:Int):Int),((c.Ah:Int):Int),.float .f64 c.Qu]
def lE(cy:Option Nat):Value:= .pointer (cy.map fun y=>⟨y,0,none⟩)
def my(w:World)(b:Nat)(c:Cf)(m rb ub:Nat)(cy:Option Nat)(ns bs:Int):Prop:=aJ w b (c.cells++[.pointer (some ⟨m,0,none⟩),.pointer (some ⟨rb,0,none⟩),.pointer (some ⟨ub,0,none⟩),lE cy,.int .i64 ns,.int .i64 bs]) 117
section
variable{w:World}{b m rb ub:Nat}{c:Cf}{cy:Option Nat}{ns bs:Int}
theorem gy(h:my w b c m rb ub cy ns bs):Calls prog 50 #[b] w fun e w'=>e= .returned (.bool false)/\w=w':=by
 have a:=h.cell 8 rfl;clear h
 go_enter func50,ntmps50
 go_wp2;go_ret;exact ⟨rfl,rfl⟩
variable{Ba top Lm:Nat}
theorem my.reads(h:my w b c m rb ub cy ns bs)(a:fx w ub m Ba top Lm):∀w',GM w w'->(w'.cell? ⟨b,1,none⟩=some (.int .i64 (c.Pg:Int))/\w'.cell? ⟨b,2,none⟩=some (.int .i64 (c.block:Int))/\w'.cell? ⟨b,3,none⟩=some (.int .i64 (c.Wd:Int))/\w'.cell? ⟨b,5,none⟩=some (.int .i64 (c.stack:Int))/\w'.cell? ⟨b,6,none⟩=some (.int .i64 (c.Ah:Int))/\w'.cell? ⟨b,8,none⟩=some m/\w'.cell? ⟨b,10,none⟩=some ub):=fun w' hf=>
 have g:aJ w' b _ _:=h.frame hf id
 ⟨g.cell 1 rfl,g.cell 2 rfl,g.cell 3 rfl,g.cell 5 rfl,g.cell 6 rfl,g.cell 8 rfl,g.cell 10 rfl⟩
theorem wv(i:iz c)(h:my w b c m rb ub cy ns bs)(j:fx w ub m Ba top Lm)(v:Ba<=2*c.Pg+c.Wd):Calls prog 142 #[b] w fun e w'=>e= .returned (.int .i64 ((2*c.Pg+c.Wd-Ba:Nat):Int))/\GM w w':=by
 have g:=ae (h.reads j);have f:=ae (fun w' (hf:GM w w')=>mu (show fx w' ub m Ba top Lm from aJ.frame j hf id));have t:=i.Yt;have u:=i.Xp;have q:((2*c.Pg+c.Wd-Ba:Nat):Int)=2*(c.Pg:Int)+(c.Wd:Int)-(Ba:Int):=by omega
 rw [q];clear h j i q;generalize c.Pg=pg at*;generalize c.Wd=wd at*
 go_enter func142,ntmps142
 go_wp2;refine bt (fun w'=>GM w w') ((GQ _ w).drew) ?_;refine aV [b,b,b,.pointer (some ⟨b,1,none⟩)] ?_
 iterate 4 (refine aW rfl (fun s r=>by go_simp) ?_;simp only [aa])
 refine aU ?_;refine aA (pg:Int) rfl (fun w' a=>by obtain ⟨c1,c2,l,n,o,p,d⟩:=g.out w' a;go_simp) ?_;simp only [aa];refine aA (.int .i64 (2*(pg:Int))) rfl (fun w' a=>by go_simp;rw [IntKind.wrap_i64];omega) ?_;simp only [aa];refine aV [b,b,b,.pointer (some ⟨b,3,none⟩)] ?_
 iterate 4 (refine aW rfl (fun s r=>by go_simp) ?_;simp only [aa])
 refine aU ?_;refine aA (wd:Int) rfl (fun w' a=>by obtain ⟨c1,c2,l,n,o,p,d⟩:=g.out w' a;go_simp) ?_;simp only [aa];refine aA (.int .i64 (2*(pg:Int)+(wd:Int))) rfl (fun w' a=>by go_simp;rw [IntKind.wrap_i64];omega) ?_;simp only [aa];refine aV [b,b,.pointer (some ⟨b,10,none⟩)] ?_
 iterate 3 (refine aW rfl (fun s r=>by go_simp) ?_;simp only [aa])
 refine aU ?_;refine aA ub rfl (fun w' a=>by obtain ⟨c1,c2,l,n,o,p,d⟩:=g.out w' a;go_simp) ?_;simp only [aa];refine bT (.int .i64 Ba) 75 #[ub] rfl (fun w'=>by go_simp) (fun w' a=>(f.out w' a).mono fun e w2 h=>⟨h.1,h.2▸a⟩) ?_;simp only [aa];refine aA (.int .i64 (2*(pg:Int)+(wd:Int)-(Ba:Int))) rfl (fun w' a=>by go_simp;rw [IntKind.wrap_i64];omega) ?_;simp only [aa];refine aA (.int .i64 (2*(pg:Int)+(wd:Int)-(Ba:Int))) rfl (fun w' a=>by go_simp) ?_;simp only [aa];refine wpQuiet_nil ?_;intro w2 k;go_wp2;go_ret;exact ⟨rfl,k⟩
end
theorem li{P:Program}{fn:Func}{p:Tmp}{b:TypeId}(h:fn.results= #[.cell p b])(tmps:Array Value)(w:World)(g:Nat)(t:TypeId)(cs:Array Value)(fr:Nat×Nat)(d:TypeDesc)
  (hp:tmps.getD p undef= .pointer (some ⟨g,0,none⟩)) (hg:w.heap[g]? =some (.cells cs t fr))
  (i:P.underlying b=some d) (c:(match d with| .struct _| .array _ _=>true|_=>false)=true) (f:(P.info? b).map (·.size)=some cs.size):
  (results fn tmps).run P w= .ok (.agg cs) w:=by
 have e:(results fn tmps).run P w=((asAddr (tmps.getD p undef)).run P w).andThen fun a j=>(loadVar b a).run P j:=by
  simp only [results,h];simp [Sem.run_bind,Result.andThen]
 rw [e,hp];simp [asAddr,run_loadVar_row w g t b cs fr d hg i c f,Result.andThen]
theorem Bw(a b c d e f g:Int):(#[Value.int .i64 a,(b:Int),(c:Int),(d:Int),(e:Int),(f:Int),(g:Int)]:Array Value).all (·.oneCell')=true:=
 Go.all_oneCell_toArray (cs:=[(a:Int),(b:Int),(c:Int),(d:Int),(e:Int),(f:Int),(g:Int)]) (fun v h=>by simp only [bM,bq,fD] at h;rcases h with rfl|rfl|rfl|rfl|rfl|rfl|rfl<;>rfl)
section
variable{w:World}{b m rb ub:Nat}{c:Cf}{cy:Option Nat}{ns bs:Int}{Ba top Lm:Nat}
theorem si(H:iz c)(h:my w b c m rb ub cy ns bs)(E:fx w ub m Ba top Lm)(O:Ba<=2*c.Pg+c.Wd):Calls prog 71 #[b] w fun e w'=>e= .returned (gY Ba top (2*c.Pg+c.Wd-Ba) (2*c.Pg+c.Wd-Ba+c.Wd) c.block c.stack c.Ah)/\GM w w':=by
 obtain ⟨W1,l⟩:∃W1,w.alloc (.cells #[(0:Int),(0:Int),(0:Int),(0:Int),(0:Int),(0:Int),(0:Int)] 143)=W1:=⟨_,rfl⟩;have f:GM w W1:=by rw [<-l];exact (GQ _ w).alloc _
 have C:aJ W1 w.heap.size [(0:Int),(0:Int),(0:Int),(0:Int),(0:Int),(0:Int),(0:Int)] 143:=by rw [<-l];exact aJ.new w _ _
 have M:=ae (wv H (aJ.frame h f id) (show fx W1 ub m Ba top Lm from aJ.frame E f id) O);have L:=ae (fun w' (hf:GM W1 w')=>h.reads E w' (f.trans hf GN));have p:=ae (fun w' (hf:GM W1 w')=>mu (show fx w' ub m Ba top Lm from aJ.frame E (f.trans hf GN) id));have v:=ae (fun w' (hf:GM W1 w')=>re (show fx w' ub m Ba top Lm from aJ.frame E (f.trans hf GN) id));have t:Hid ((prog.info? 143).map (·.size)=some 7):=by show _=_;kernel_rfl
 have s:=ae (Bw Ba top (2*c.Pg+c.Wd-Ba:Nat) (2*c.Pg+c.Wd-Ba+c.Wd:Nat) c.block c.stack c.Ah);have n:=ae C;have q:=ae f;have S:=H.Yt;have U:=H.Xp;clear h E H O f C;unfold gY;have V:2*c.Pg+c.Wd-Ba<=1048576:=by omega
 generalize 2*c.Pg+c.Wd-Ba=T at*;have k:((T+c.Wd:Nat):Int)=(T:Int)+(c.Wd:Int):=by push_cast;rfl
 rw [k] at s ⊢;generalize c.Pg=pg at*;generalize c.Wd=wd at*;generalize c.block=bk at*;generalize c.stack=sk at*;generalize c.Ah=ad at*;clear k
 go_enter func71,ntmps71
 go_wp2_with fail
 refine M.out.mono ?_;rintro e w2 ⟨rfl,g⟩;have d:=ae (fun w' (hf:GM w2 w')=>L.out w' (g.trans hf GN));have o:=ae (fun w' (hf:GM w2 w')=>p.out w' (g.trans hf GN));have u:=ae (fun w' (hf:GM w2 w')=>v.out w' (g.trans hf GN));have r:=ae (fun w' (hf:GM w2 w')=>ag (n.out.frame (g.trans hf GN) id) (q.out.trans (g.trans hf GN) GN));clear g M L p v n q l;go_wp2;refine bR (fun w'=>GM w2 w') 34 ((GQ _ w2).drew) ?_;simp only [ai,an,aj,ao];refine aV [b,b,.pointer (some ⟨b,10,none⟩)] ?_
 iterate 3 (refine aW rfl (fun G B=>by go_simp) ?_;simp only [aa])
 refine aU ?_;refine aA ub rfl (fun w' a=>by obtain ⟨c1,c2,x,y,z,A,i⟩:=d.out w' a;go_simp) ?_;simp only [aa];refine bT (.int .i64 Ba) 75 #[ub] rfl (fun w'=>by go_simp) (fun w' a=>(o.out w' a).mono fun e w2 h=>⟨h.1,h.2▸a⟩) ?_;simp only [aa];refine aV [b,b,.pointer (some ⟨b,10,none⟩)] ?_
 iterate 3 (refine aW rfl (fun G B=>by go_simp) ?_;simp only [aa])
 refine aU ?_;refine aA ub rfl (fun w' a=>by obtain ⟨c1,c2,x,y,z,A,i⟩:=d.out w' a;go_simp) ?_;simp only [aa];refine bT (.int .i64 top) 76 #[ub] rfl (fun w'=>by go_simp) (fun w' a=>(u.out w' a).mono fun e w2 h=>⟨h.1,h.2▸a⟩) ?_;simp only [aa];refine aV [(T:Int),(T:Int),b,b,b,.pointer (some ⟨b,3,none⟩)] ?_
 iterate 6 (refine aW rfl (fun G B=>by go_simp) ?_;simp only [aa])
 refine aU ?_;refine aA (wd:Int) rfl (fun w' a=>by obtain ⟨c1,c2,x,y,z,A,i⟩:=d.out w' a;go_simp) ?_;simp only [aa];refine aA (.int .i64 ((T:Int)+(wd:Int))) rfl (fun w' a=>by go_simp;rw [IntKind.wrap_i64];omega) ?_;simp only [aa];refine aV [b,b,b,.pointer (some ⟨b,2,none⟩)] ?_
 iterate 4 (refine aW rfl (fun G B=>by go_simp) ?_;simp only [aa])
 refine aU ?_;refine aA (bk:Int) rfl (fun w' a=>by obtain ⟨c1,c2,x,y,z,A,i⟩:=d.out w' a;go_simp) ?_;simp only [aa];refine aV [b,b,b,.pointer (some ⟨b,5,none⟩)] ?_
 iterate 4 (refine aW rfl (fun G B=>by go_simp) ?_;simp only [aa])
 refine aU ?_;refine aA (sk:Int) rfl (fun w' a=>by obtain ⟨c1,c2,x,y,z,A,i⟩:=d.out w' a;go_simp) ?_;simp only [aa];refine aV [b,b,b,.pointer (some ⟨b,6,none⟩)] ?_
 iterate 4 (refine aW rfl (fun G B=>by go_simp) ?_;simp only [aa])
 refine aU ?_;refine aA (ad:Int) rfl (fun w' a=>by obtain ⟨c1,c2,x,y,z,A,i⟩:=d.out w' a;go_simp) ?_;simp only [aa];refine aA (.agg #[(Ba:Int),(top:Int),(T:Int),(((T:Int)+(wd:Int)):Int),(bk:Int),(sk:Int),(ad:Int)]) rfl (fun w' a=>by go_simp) ?_;simp only [aa];refine wpQuiet_nil ?_;intro w3 F;obtain ⟨g1,N⟩:=r.out w3 F;have D:w3.there w.heap.size 0 7:=fun j R=>by
  match j,R with
  |0,_=>exact ⟨by rw [g1.cell 0 rfl];rfl,g1.free 0⟩
  |1,_=>exact ⟨by rw [g1.cell 1 rfl];rfl,g1.free 1⟩
  |2,_=>exact ⟨by rw [g1.cell 2 rfl];rfl,g1.free 2⟩
  |3,_=>exact ⟨by rw [g1.cell 3 rfl];rfl,g1.free 3⟩
  |4,_=>exact ⟨by rw [g1.cell 4 rfl];rfl,g1.free 4⟩
  |5,_=>exact ⟨by rw [g1.cell 5 rfl];rfl,g1.free 5⟩
  |6,_=>exact ⟨by rw [g1.cell 6 rfl];rfl,g1.free 6⟩
 have I:=ae D;have P:=ae g1;have Q:=ae N;clear D g1 N F d o u r;go_wp2_with (refine wpList_store_mid rfl 143 _ _ rfl w.heap.size 0 #[(Ba:Int),(top:Int),(T:Int),(((T:Int)+(wd:Int)):Int),(bk:Int),(sk:Int),(ad:Int)] rfl rfl I.out t.out s.out ?_)
 have J:=((((((P.out.set 0 (.int .i64 Ba)).set 1 (.int .i64 top)).set 2 (.int .i64 T)).set 3 (.int .i64 ((T:Int)+(wd:Int)))).set 4 (.int .i64 bk)).set 5 (.int .i64 sk)).set 6 (.int .i64 ad);have K:GM w (w3.setCells w.heap.size 0 [(Ba:Int),(top:Int),(T:Int),(((T:Int)+(wd:Int)):Int),(bk:Int),(sk:Int),(ad:Int)]):=((((((Q.out.setCell w.heap.size (.inr (ak _)) _).setCell ⟨w.heap.size,1,none⟩ (.inr (ak _)) _).setCell ⟨w.heap.size,2,none⟩ (.inr (ak _)) _).setCell ⟨w.heap.size,3,none⟩ (.inr (ak _)) _).setCell ⟨w.heap.size,4,none⟩ (.inr (ak _)) _).setCell ⟨w.heap.size,5,none⟩ (.inr (ak _)) _).setCell ⟨w.heap.size,6,none⟩ (.inr (ak _)) _;refine bodyPost_ret (li rfl _ _ _ _ _ _ _ rfl J underlying143 rfl t.out) rfl ?_;exact ⟨rfl,K⟩
end
def Aw(xs:List Nat)(w:World)(e:Ending)(w':World):Prop:=∃g cap,e= .returned (.tuple #[.slice (some ⟨g,0,none⟩) xs.length cap,(0:Int)])/\(∀(j a:Nat),xs[j]? =some a->w'.cell? ⟨g,j,none⟩=some (a:Int))/\GM w w'
def vu(xs:List Nat)(w:World)(e:Ending)(w':World):Prop:=∃g cap,e= .returned (.tuple #[.slice (some ⟨g,0,none⟩) xs.length cap,(0:Int)])/\w.heap.size<=g/\(∀(j a:Nat),xs[j]? =some a->w'.cell? ⟨g,j,none⟩=some (a:Int))/\GM w w'
section
variable{w:World}{b m rb rg ub:Nat}{c:Cf}{cy:Option Nat}{ns bs:Int}{ls:List Nat}
def Gg(xs:List Nat)(w:World)(j:Nat)(v:Value)(wr:World):Prop:=wr.ownsRow 0 3 1 v j (lv (xs.take j))/\(∀k,v.ownBlock=some k->w.heap.size<=k)/\GM w wr
theorem sr(h:my w b c m rb ub cy ns bs)(P:dt w rb rg ls)(x T:Nat)(xs:List Nat)(R:∀(j a:Nat),xs[j]? =some a->∃i:Nat,w.cell? ⟨x,j,none⟩=some (i:Int)/\ls[i]? =some a)(h1:1<=xs.length)(h2:xs.length<=8):
  Calls prog 60 #[b,.slice (some x) xs.length T] w (vu xs w):=by
 obtain ⟨Y,X,F,G,H⟩:=info_parts iP;have L:=ae (gy h);have n:=ae (fun (j:Nat) (wr:World) (hf:GM w wr) (N:j<xs.length)=>(show∃i:Nat,wr.cell? ⟨x,j,none⟩=some (i:Int)/\wr.cell? ⟨b,9,none⟩=some rb/\Calls prog 51 #[rb,(i:Int)] wr fun e w'=>e= .returned (.tuple #[(((xs[j]:Nat):Int):Int),(0:Int)])/\GM wr w' from by
  obtain ⟨i,q,I⟩:=R j xs[j] (aK N);exact ⟨i,(World.cell?_of_block (w:=w) (hf.block _ (cl q) id)).trans q,(show aJ wr b _ _ from aJ.frame h hf id).cell 9 rfl,t9 (P.frame hf id id) i xs[j] I⟩))
 have l:Hid (∀v wr,Gg xs w xs.length v wr->∃g cap,v= .slice (some ⟨g,0,none⟩) xs.length cap/\vu xs w (.returned (.tuple #[.slice (some ⟨g,0,none⟩) xs.length cap,(0:Int)])) wr):=by
  show∀v wr,_
  rintro v wr ⟨q,I,Z⟩;rw [kg] at q;rcases q.2 with ⟨_,h0⟩|⟨g,cap,cur,rfl,_⟩
  ·omega
  ·refine ⟨g,cap,rfl,g,cap,rfl,I g rfl,fun j a W=> ?_,Z⟩;have C:∀k,(⟨g,0,none⟩:Addr).add k=⟨g,k,none⟩:=fun k=>by unfold Addr.add;split<;>simp_all
   have:=q.cells (g:=g) rfl j (.int .i64 a) (by unfold lv;rw [aR,W];rfl);rwa [C] at this
 have J:Hid (Gg xs w 0 (.slice none 0 0) w):=ae ⟨World.ownsRow_nil _ _ _ _,fun k p=>by simp [Value.ownBlock] at p,GQ _ _⟩;clear h P R;generalize (vu xs w)=Q at*
 go_enter func60,ntmps60
 go_wp2_with fail
 refine L.out.mono ?_;rintro e w' ⟨rfl,rfl⟩;clear L;go_wp2
 go_loopw [6,15] (fun v z wr=>∃j:Nat,z= .int .i64 j/\j<=xs.length/\Hid (Gg xs w j v wr)) (fun _ z _=>(xs.length-intOf z).toNat)
 case atStart=>exact ⟨0,rfl,aF _,J⟩
 case round=>
  clear J;obtain ⟨j,rfl,N,f⟩:=hrel;by_cases o:j<xs.length
  ·obtain ⟨i,U,V,hg⟩:=n.out j wr f.out.2.2 o;have K:=ae hg;have c1:(j:Int)<(xs.length:Int):=by omega
   have s:Hid (lv (xs.take (j+1))=lv (xs.take j)++[.int .i64 ((xs[j]:Nat):Int)]):=by
    show _=_
    unfold lv;rw [ea,aK o,bD];rfl
   generalize xs[j]=A at*;clear hg n l;go_wp2_with fail
   refine K.out.mono ?_;rintro e w2 ⟨rfl,t⟩;have r:=ae t;clear t K U V;go_wp2_with (at_builtin;refine Hid.out ?_)
   unfold Hid;have u:GM w2 (w2.alloc (.cells #[(A:Int)] 3)):=(GQ _ w2).alloc _;have d:=r.out.trans u GN;refine fd rfl _ _ 123 rfl 3 Y (.int .i64 0) 8 underlying123 X F G H rfl u6 j (lv (xs.take j)) rfl (aO f.out.1 d (fun _ _ h=>h)) ⟨w2.heap.size,0,none⟩ _ (.int .i64 A) rfl ((aJ.new w2 [(A:Int)] 3).cell 0 rfl) rfl (by unfold maxLen;omega) (by omega) ?_;intro g cap w4 O M y;have B:Hid (Gg xs w (j+1) (.slice (some g) (j+1) cap) w4):=by
    have E:=(f.out.2.2.trans d GN).size;refine ae ⟨by rw [s.out];exact O,fun k p=> ?_,(f.out.2.2.trans d GN).trans M (fun k p=> .inr (f.out.2.1 k p))⟩;simp only [Value.ownBlock,aL] at p;subst p;rcases y with h|h
    ·exact f.out.2.1 _ h
    ·omega
   clear u d O M y f s r;go_wp2;go_roundw
   case rel=>exact ⟨j+1,by go_num,by omega,B⟩
   case measure=>simp [intOf];omega
  ·have D:j=xs.length:=by omega
   subst D;obtain ⟨g,cap,rfl,E⟩:=l.out _ wr f.out;have S:=ae E;have c1:¬(xs.length:Int)<(xs.length:Int):=by omega
   clear E f l n o;go_wp2;exact S.out
theorem lz(h:my w b c m rb ub cy ns bs)(l:dt w rb rg ls)(x k:Nat)(xs:List Nat)(n:∀(j a:Nat),xs[j]? =some a->∃i:Nat,w.cell? ⟨x,j,none⟩=some (i:Int)/\ls[i]? =some a)(d:1<=xs.length)(f:xs.length<=8):
  Calls prog 60 #[b,.slice (some x) xs.length k] w (Aw xs w):=
 (sr h l x k xs n d f).mono (fun e w' ⟨g,cap,d,_,f⟩=>⟨g,cap,d,f⟩)
end
structure AD(m Pg W Fs Us Hg:Nat)(mp:Nat->Bool)(kb wb:Nat)(M:Nat->Nat)(f:Nat->Option Nat)(n top:Nat)(S:Nat->Prop)(w:World):Prop where
 Qd:aJ w kb [m,.map (some wb),(top:Int)] 230
 mem:dY m Pg W Fs Us Hg mp M S w
 Qt:gK w wb n f
 d1:¬S kb
 d2:¬S wb
 d3:kb≠wb
section
variable{m Pg W Fs Us Hg:Nat}{mp:Nat->Bool}{kb wb:Nat}{M:Nat->Nat}{f:Nat->Option Nat}{n top:Nat}{S:Nat->Prop}{w w':World}
theorem AD.Fh(h:AD m Pg W Fs Us Hg mp kb wb M f n top S w)(hf:GM w w'):AD m Pg W Fs Us Hg mp kb wb M f n top S w':=
 ⟨h.Qd.frame hf id,h.mem.Qa hf,h.Qt.frame hf id,h.d1,h.d2,h.d3⟩
theorem wZ(kb:Nat)(w:World):Calls prog 146 #[kb,(0:Int)] w fun e w'=>e= .returned (0:Int)/\w=w':=by
 go_enter func146,ntmps146
 go_wp2;go_ret;exact ⟨rfl,rfl⟩
theorem CA(h:AD m Pg W Fs Us Hg mp kb wb M f n top S w)(a z:Nat)(i:1<=a)(b:a<4611686018427387904)(d:f a=some z):Calls prog 146 #[kb,(a:Int)] w fun e w'=>e= .returned (z:Int)/\w=w':=by
 have c:=h.Qt.look_ok a b;rw [d] at c;simp only [j9,Option.isSome_some] at c;have c1:=h.Qd.cell 1 rfl;have g:¬(a:Int)=0:=by omega
 clear h d
 go_enter func146,ntmps146
 go_wp2;go_ret;exact ⟨rfl,rfl⟩
theorem Ad(h:AD m Pg W Fs Us Hg mp kb wb M f n top S w)(a p t g:Nat)(ha:1<=a)(av:a<1048576)(D:f a=none)(X:jb M a p t g)(Xk:∀k,a<=k->k<a+(1+(p+t+g))->dD W Pg mp k/\M k<18446744073709551616)(aq:1<=top)(aw:top<1048576)(Qz:∀k,top<=k->k<top+(1+(p+t+g))->dD W Pg mp k)(hn:n<1048576):
  Calls prog 146 #[kb,(a:Int)] w fun e w'=>e= .returned (top:Int)/\∃S',AD m Pg W Fs Us Hg mp kb wb (ov M a top (1+(p+t+g))) (iV f a top) (n+1) (top+(1+(p+t+g))) S' w'/\Fr (fun k=>S k\/k=kb\/k=wb) w w'/\∀k,S' k->S k\/w.heap.size<=k:=by
 have hl:=h.Qt.look_ok a (by omega);rw [D] at hl;simp only [Option.getD_none,Option.isSome_none] at hl;rw [show ((0:Nat):Int)=0 from rfl] at hl;have c0:=h.Qd.cell 0 rfl;have c1:=h.Qd.cell 1 rfl;have h0:¬(a:Int)=0:=by omega
 have ap:p+t+g<256:=by have:=X.2;unfold eO at this;omega
 have al:Hid ((prog.info? 31).map (·.size)=some 3):=by show _=_;kernel_rfl
 have N:=ae (mi h.mem a p t g ha (Xk a (ak _) (by omega)).1 X);have A:=ae (fun w1=>iF p t g w1);have Z:gg p t g=((1+(p+t+g):Nat):Int):=by unfold gg;rw [aG X.2];push_cast;omega
 rw [Z] at A;have y:=ae (fun w2 S2 (hm:dY m Pg W Fs Us Hg mp M S2 w2)=>By (da m Pg W Fs Us Hg mp) (cw m Pg W Fs Us Hg mp) (qG m Pg W Fs Us Hg mp) hm a top p t g ha aq (by omega) (by omega) X Xk Qz);have s:=ae h;have am:=h.Qd.lt;have ar:=h.Qt.lt;obtain ⟨z,hz⟩:∃z,z=1+(p+t+g):=⟨_,rfl⟩;rw [<-hz] at A y ⊢;have ax:z<=256:=by omega
 unfold jO gD at*;have L:Hid ((f a).isSome=false):=by show _=_;rw [D];rfl
 clear h Xk Qz X D Z hz ap
 go_enter func146,ntmps146
 go_wp2_with fail
 refine N.out.mono ?_;rintro e w1 ⟨rfl,S1,J,G,H⟩;clear N hl c0 c1;have F:¬S1 kb:=fun v=>by rcases H _ v with h|h;exact s.out.d1 h;omega
 have af:¬S1 wb:=fun v=>by rcases H _ v with h|h;exact s.out.d2 h;omega
 have ah:=G.size;have Q:=(cw m Pg W Fs Us Hg mp).lt _ _ _ J;have R:=s.out.Qd.frame G s.out.d1;obtain ⟨P,u⟩:∃P,P=w1.alloc (.cells #[(p:Int),(t:Int),(g:Int)] 31):=⟨_,rfl⟩;have c:GM w1 P:=by rw [u];exact (GQ _ w1).alloc _
 have i:aJ P w1.heap.size [(p:Int),(t:Int),(g:Int)] 31:=by rw [u];exact aJ.new w1 _ _
 have b:=R.frame c id;have O:=ae u;obtain ⟨e0,e1,e2,_⟩:=GT b;have K:=ae (y.out P S1 (J.Qa c));have HB:=ae (ag c (ag i (ag b (ag J (ag G H)))));clear c i b R J G y u
 go_upto_region 7 with fail
 rw [<-O.out];clear O;go_wp2_with fail
 refine K.out.mono ?_;rintro e w3 ⟨rfl,S3,m3,r3,s3⟩;obtain ⟨c,i,b,J,G,H⟩:=HB.out;have au:=c.size;have o:¬S3 kb:=fun v=>by rcases s3 _ v with h|h;exact F h;omega
 have r:¬S3 wb:=fun v=>by rcases s3 _ v with h|h;exact af h;omega
 have B:=b.frame r3 F;have U:=i.frame r3 (fun v=>by have:=Q _ v;omega);have l:Fr S w w3:=(G.trans c GN).trans r3 H;have x:=s.out.Qt.frame l s.out.d2;obtain ⟨w4,u1,u2,u3⟩:=x.put a top (by omega) (by omega) (by omega);have q:(f a).isSome=false:=L.out;rw [q] at u2;simp only [cA,fE] at u2;have T:=B.frame u3 s.out.d3;have E:=U.frame u3 (fun e=>by omega);have c1:=B.cell 1 rfl;have Y:=E.drew;have d:Hid (∀w5,GM w4 w5->(w5.cell? ⟨kb,2,none⟩=some (top:Int)/\w5.frozen? ⟨kb,2,none⟩=false/\aJ w5 w1.heap.size [(p:Int),(t:Int),(g:Int)] 31)/\∀w6,w5.setCell ⟨kb,2,none⟩ (.int .i64 ((top+z:Nat):Int))=w6->∃S',AD m Pg W Fs Us Hg mp kb wb (ov M a top z) (iV f a top) (n+1) (top+z) S' w6/\Fr (fun k=>S k\/k=kb\/k=wb) w w6/\∀k,S' k->S k\/w.heap.size<=k):=by
  show∀w5,_
  intro w5 j;have C:=T.frame j id;refine ⟨⟨C.cell 2 rfl,C.free 2,E.frame j id⟩,?_⟩;rintro w6 rfl;have f6:Fr (fun k=>k=kb) w5 (w5.setCell ⟨kb,2,none⟩ (.int .i64 ((top+z:Nat):Int))):=(GQ (fun k=>k=kb) w5).setCell ⟨kb,2,none⟩ (.inl rfl) _;refine ⟨S3,⟨C.set 2 _,da _ _ _ _ _ _ _ _ _ _ _ _ ((da _ _ _ _ _ _ _ _ _ _ _ _ m3 u3 (fun k V e=>r (e▸V))).Qa j) f6 (fun k V e=>o (e▸V)),(u2.frame j id).frame f6 (fun e=>s.out.d3 e.symm),o,r,s.out.d3⟩,?_,fun k V=> ?_⟩
  ·exact (((l.mono (S':=fun k=>S k\/k=kb\/k=wb) (fun k h=> .inl (.inl h))).trans u3 (fun k h=> .inl (.inr (.inr h)))).trans j GN).trans f6 (fun k h=> .inl (.inr (.inl h)))
  ·rcases s3 k V with h|h
   ·exact H k h
   ·exact .inr (by omega)
 clear c i b J G H au B U l x u2 u3 T E m3 r3 s3 o r F af Q HB s K L am ar ah e0 e1 e2 Y q;go_wp2;refine bR (fun w'=>GM w4 w') 9 ((GQ _ w4).drew) ?_;simp only [ai,an,aj,ao];refine aV [kb,kb,.pointer (some ⟨kb,2,none⟩)] ?_
 iterate 3 (refine aW rfl (fun w9 h9=>by go_simp) ?_;simp only [aa])
 refine aU ?_;refine aA (top:Int) rfl (fun w' I=>by obtain ⟨⟨k1,_,_⟩,_⟩:=d.out w' I;go_simp) ?_;simp only [aa];refine aA (.agg #[(p:Int),(t:Int),(g:Int)]) rfl (fun w' I=>jf rfl w1.heap.size rfl 31 _ (0,0) _ (d.out w' I).1.2.2 underlying31 rfl al.out) ?_;simp only [aa];refine bT (.int .i64 z) 54 #[.agg #[(p:Int),(t:Int),(g:Int)]] rfl (fun w'=>by go_simp) (fun w' I=>(A.out w').mono fun e w2 h=>⟨h.1,I.trans h.2 GN⟩) ?_;simp only [aa];refine aA (.int .i64 ((top:Int)+(z:Int))) rfl (fun w' I=>by go_simp;rw [IntKind.wrap_i64];omega) ?_;simp only [aa];refine aV [kb,.pointer (some ⟨kb,2,none⟩)] ?_
 iterate 2 (refine aW rfl (fun w9 h9=>by go_simp) ?_;simp only [aa])
 refine aU ?_;refine wpQuiet_nil ?_;intro w5 ad;obtain ⟨⟨k1,k2,_⟩,hq⟩:=d.out w5 ad;have HQ:=ae (hq _ rfl);rw [show ((top+z:Nat):Int)=(top:Int)+(z:Int) by push_cast;rfl] at HQ;clear hq d ad;go_wp2;go_ret;exact ⟨rfl,HQ.out⟩
end
structure iw where
 M:Nat->Nat
 f:Nat->Option Nat
 n:Nat
 top:Nat
def iw.take(sz:Nat->Nat)(s:iw)(x:Nat):iw×Nat:=
 if x=0 then (s,0) else match s.f x with
  |some z=>(s,z)
  |none=>(⟨ov s.M x s.top (sz x),iV s.f x s.top,s.n+1,s.top+sz x⟩,s.top)
def iw.Ok(dom:Nat->Prop)(sz:Nat->Nat)(s:iw)(x:Nat):Prop:=
 x≠0->x<1048576/\(s.f x=none->∃p t g,jb s.M x p t g/\sz x=1+(p+t+g)/\(∀k,x<=k->k<x+sz x->dom k/\s.M k<18446744073709551616)/\1<=s.top/\s.top<1048576/\(∀k,s.top<=k->k<s.top+sz x->dom k)/\s.n<1048576)
section
variable{m Pg W Fs Us Hg:Nat}{mp:Nat->Bool}{kb wb:Nat}{S S0:Nat->Prop}{w w' w0:World}{s:iw}{sz:Nat->Nat}
def mG(m Pg W Fs Us Hg:Nat)(mp:Nat->Bool)(kb wb:Nat)(S0:Nat->Prop)(w0:World)(s:iw)(w:World):Prop:=
 ∃S,AD m Pg W Fs Us Hg mp kb wb s.M s.f s.n s.top S w/\Fr (fun k=>S0 k\/k=kb\/k=wb) w0 w/\∀k,S k->S0 k\/w0.heap.size<=k
theorem mG.Fh(h:mG m Pg W Fs Us Hg mp kb wb S0 w0 s w)(hf:GM w w'):mG m Pg W Fs Us Hg mp kb wb S0 w0 s w':=by
 obtain ⟨S,a,b,c⟩:=h;exact ⟨S,a.Fh hf,b.trans hf GN,c⟩
theorem uX(h:mG m Pg W Fs Us Hg mp kb wb S0 w0 s w)(x:Nat)(r:s.Ok (dD W Pg mp) sz x):
  Calls prog 146 #[kb,(x:Int)] w fun e w'=>e= .returned (.int .i64 (((s.take sz x).2:Nat):Int))/\mG m Pg W Fs Us Hg mp kb wb S0 w0 (s.take sz x).1 w':=by
 unfold iw.take;by_cases a:x=0
 ·subst a;rw [aG rfl];refine (wZ kb w).mono ?_;rintro e w' ⟨rfl,rfl⟩;exact ⟨rfl,h⟩
 ·rw [aE a];obtain ⟨c,d⟩:=r a
  cases hf:s.f x with
  |some z=>
   obtain ⟨S,i,j,l⟩:=id h;refine (CA i x z (by omega) (by omega) hf).mono ?_;rintro e w' ⟨rfl,rfl⟩;exact ⟨rfl,h⟩
  |none=>
   obtain ⟨S,i,j,l⟩:=h;obtain ⟨p,t,g,u,n,o,v,y,q,A⟩:=d hf;rw [n] at o q;refine (Ad i x p t g (by omega) c hf u o v y q A).mono ?_;rintro e w' ⟨rfl,S',B,C,D⟩;have E:=j.size;refine ⟨rfl,S',?_,j.trans C (fun k b=> ?_),fun k b=> ?_⟩
   ·rw [n];exact B
   ·rcases b with h|h
    ·exact (l k h).imp .inl id
    ·exact .inl (.inr h)
   ·rcases D k b with h|h
    ·exact l k h
    ·exact .inr (by omega)
end
def iw.Xx(sz:Nat->Nat)(a:Nat)(s:iw)(i:Nat):iw:=
 ⟨ej (s.take sz (s.M (a+1+i))).1.M (a+1+i) (s.take sz (s.M (a+1+i))).2,(s.take sz (s.M (a+1+i))).1.f,(s.take sz (s.M (a+1+i))).1.n,(s.take sz (s.M (a+1+i))).1.top⟩
def iw.Xa(sz:Nat->Nat)(a:Nat)(s:iw):Nat->iw
 |0=>s
 |i+1=>(iw.Xa sz a s i).Xx sz a i
section
variable{m Pg W Fs Us Hg:Nat}{mp:Nat->Bool}{kb wb:Nat}{S S0:Nat->Prop}{w w' w0:World}{s:iw}{sz:Nat->Nat}
theorem mG.sp(h:AD m Pg W Fs Us Hg mp kb wb s.M s.f s.n s.top S w)(i:Fr (fun k=>S0 k\/k=kb\/k=wb) w0 w)(j:∀k,S k->S0 k\/w0.heap.size<=k){g:Nat->Nat}(hp:iY (dY m Pg W Fs Us Hg mp) g S w w'):mG m Pg W Fs Us Hg mp kb wb S0 w0 ⟨g,s.f,s.n,s.top⟩ w':=by
 obtain ⟨S',l,d,e⟩:=hp;have o:=i.size;have p:=h.Qd.lt;have q:=h.Qt.lt;refine ⟨S',⟨h.Qd.frame d h.d1,l,h.Qt.frame d h.d2,fun b=> ?_,fun b=> ?_,h.d3⟩,i.trans d (fun k c=>(j k c).imp .inl id),fun k c=> ?_⟩
 ·rcases e _ b with a|a
  ·exact h.d1 a
  ·omega
 ·rcases e _ b with a|a
  ·exact h.d2 a
  ·omega
 ·rcases e k c with a|a
  ·exact j k a
  ·exact .inr (by omega)
structure iw.Ok1(dom:Nat->Prop)(sz:Nat->Nat)(a p t g:Nat)(s:iw)(i:Nat):Prop where
 ok:s.Ok dom sz (s.M (a+1+i))
 Xk:jb s.M a p t g
 Qz:jb (s.take sz (s.M (a+1+i))).1.M a p t g
 x:s.M (a+1+i)<2147483648
 z:(s.take sz (s.M (a+1+i))).2<2147483648
 d:dom (a+1+i)
theorem CB(a p t g:Nat)(l:1<=a)(q:a<1048576)(c:dD W Pg mp a)(h:mG m Pg W Fs Us Hg mp kb wb S0 w0 s w)(i:Nat)(r:i<p)(b:iw.Ok1 (dD W Pg mp) sz a p t g s i):
  (Calls prog 87 #[.iface 112 (.pointer (some ⟨m,0,none⟩)),(a:Int),(i:Int)] w fun e w'=>e= .returned (.tuple #[(((s.M (a+1+i):Nat):Int):Int),(0:Int)])/\mG m Pg W Fs Us Hg mp kb wb S0 w0 s w')/\
  (∀w1,mG m Pg W Fs Us Hg mp kb wb S0 w0 (s.take sz (s.M (a+1+i))).1 w1->Calls prog 61 #[.iface 112 (.pointer (some ⟨m,0,none⟩)),(a:Int),(i:Int),((((s.take sz (s.M (a+1+i))).2:Nat):Int):Int)] w1 fun e w'=>e= .returned (0:Int)/\mG m Pg W Fs Us Hg mp kb wb S0 w0 (s.Xx sz a i) w'):=by
 have o:=b.Xk.2;unfold eO at o;have n:fg p t g i=1:=by
  unfold fg;rw [gg,aG b.Xk.2,aE (by omega),aG (by omega)]
 constructor
 ·obtain ⟨S,f,j,k⟩:=h;refine (lp (cw m Pg W Fs Us Hg mp) f.mem a i p t g _ l (by omega) (by omega) c b.Xk n b.d rfl b.x).mono ?_;rintro e w' ⟨rfl,hp⟩;exact ⟨rfl,mG.sp f j k hp⟩
 ·rintro w1 ⟨S,f,j,k⟩;refine (qw (cw m Pg W Fs Us Hg mp) (qG m Pg W Fs Us Hg mp) f.mem a i p t g _ l (by omega) (by omega) c b.Qz n b.d b.z).mono ?_;rintro e w' ⟨rfl,hp⟩;exact ⟨rfl,mG.sp f j k hp⟩
end
section
variable{m Pg W Fs Us Hg:Nat}{mp:Nat->Bool}{kb wb:Nat}{S S0:Nat->Prop}{w w' w0:World}{s:iw}{sz:Nat->Nat}
theorem mG.anchor(h:mG m Pg W Fs Us Hg mp kb wb S0 w0 s w):∃a,AD m Pg W Fs Us Hg mp kb wb s.M s.f s.n s.top a w/\(∀s' w',mG m Pg W Fs Us Hg mp kb wb a w s' w'->mG m Pg W Fs Us Hg mp kb wb S0 w0 s' w')/\(∀k,a k->k<w.heap.size)/\kb<w.heap.size/\wb<w.heap.size:=by
 obtain ⟨a,b,d,e⟩:=h;refine ⟨a,b,?_,(cw m Pg W Fs Us Hg mp).lt _ _ _ b.mem,b.Qd.lt,b.Qt.lt⟩;rintro s' w' ⟨S2,g,i,j⟩;have l:=d.size;refine ⟨S2,g,d.trans i (fun k c=> ?_),fun k c=> ?_⟩
 ·rcases c with h|h
  ·exact (e k h).imp .inl id
  ·exact .inl (.inr h)
 ·rcases j k c with h|h
  ·exact e k h
  ·exact .inr (by omega)
def Gq(m Pg W Fs Us Hg:Nat)(mp:Nat->Bool)(kb wb:Nat)(S0:Nat->Prop)(w0:World)(s:iw)(x:Nat)(e:Ending)(w':World):Prop:=e= .returned (x:Int)/\mG m Pg W Fs Us Hg mp kb wb S0 w0 s w'
theorem Cz(h:mG m Pg W Fs Us Hg mp kb wb S0 w0 s w)(a p t g:Nat)(ha:1<=a)(hA:a<1048576)(H:dD W Pg mp a)(R:jb s.M a p t g)(u:∀i,i<p->iw.Ok1 (dD W Pg mp) sz a p t g (iw.Xa sz a s i) i):
  Calls prog 147 #[kb,(a:Int)] w (Gq m Pg W Fs Us Hg mp kb wb S0 w0 (iw.Xa sz a s p) (a+(1+(p+t+g)))):=by
 have hH:=R.2;unfold eO at hH;have am:p+t+g<256:=by omega
 have E:Hid ((prog.info? 31).map (·.size)=some 3):=by show _=_;kernel_rfl
 have D:Hid (Calls prog 88 #[.iface 112 (.pointer (some ⟨m,0,none⟩)),(a:Int)] w fun e w'=>e= .returned (.tuple #[gD p t g,(0:Int)])/\mG m Pg W Fs Us Hg mp kb wb S0 w0 s w'):=by
  show Calls _ _ _ _ _
  obtain ⟨b,z,q2,N⟩:=h;refine (mi z.mem a p t g ha H R).mono ?_;rintro e w' ⟨rfl,hp⟩;obtain ⟨S2,r1,O,r3⟩:=hp;exact ⟨rfl,mG.sp z q2 N ⟨S2,r1,O,r3⟩⟩
 have L:gg p t g=((1+(p+t+g):Nat):Int):=by unfold gg;rw [aG R.2];push_cast;omega
 have n:=ae (fun w1=>iF p t g w1);rw [L] at n;have P:w.cell? kb=some m:=by
  obtain ⟨b,z,_⟩:=h;exact z.Qd.cell 0 rfl
 have A:=ae (fun w1 (h1:mG m Pg W Fs Us Hg mp kb wb S0 w0 s w1)=>h1.anchor);have l:=ae (fun b T wr i (Q:i<p) (K:mG m Pg W Fs Us Hg mp kb wb b T (iw.Xa sz a s i) wr)=>ag (CB a p t g ha hA H K i Q (u i Q)) (fun w1 (ai:mG m Pg W Fs Us Hg mp kb wb b T (iw.Xa sz a s i) w1)=>uX (sz:=sz) ai ((iw.Xa sz a s i).M (a+1+i)) (u i Q).ok));have d:=ae (fun b T s' wr (K:mG m Pg W Fs Us Hg mp kb wb b T s' wr)=>(show wr.cell? kb=some m from by
  obtain ⟨S2,z,_⟩:=K;exact z.Qd.cell 0 rfl))
 unfold jO gD at*;have an:1+(p+t+g)<=256:=by omega
 rw [show ((a+(1+(p+t+g)):Nat))=a+(1+(p+t+g)) from rfl];clear h u R L hH
 go_enter func147,ntmps147
 go_wp2_with fail
 refine D.out.mono ?_;rintro e w1 ⟨rfl,J⟩;obtain ⟨b,a1,a2,a3,a4,a5⟩:=A.out w1 J;obtain ⟨c,f⟩:∃c,c=w1.alloc (.cells #[(p:Int),(t:Int),(g:Int)] 31):=⟨_,rfl⟩;have r:GM w1 c:=by rw [f];exact (GQ _ w1).alloc _
 have o:aJ c w1.heap.size [(p:Int),(t:Int),(g:Int)] 31:=by rw [f];exact aJ.new w1 _ _
 have F:=ae f;have al:c.heap.size=w1.heap.size+1:=by rw [f];exact bC _
 have G:mG m Pg W Fs Us Hg mp kb wb b c s c:=⟨b,a1.Fh r,GQ _ _,fun _ h=> .inl h⟩;have j:Hid (∀s' w',mG m Pg W Fs Us Hg mp kb wb b c s' w'->mG m Pg W Fs Us Hg mp kb wb S0 w0 s' w'):=by
  show∀s' w',_
  rintro s' w' ⟨S2,r1,O,r3⟩;exact a2 s' w' ⟨S2,r1,(r.mono GN).trans O (fun k h=> .inl h),fun k hk=>(r3 k hk).imp id (fun h=>by omega)⟩
 have Z:=ae (fun s' wr (K:mG m Pg W Fs Us Hg mp kb wb b c s' wr)=>(show aJ wr w1.heap.size [(p:Int),(t:Int),(g:Int)] 31 from by
  obtain ⟨S2,_,O,_⟩:=K;exact o.frame O (fun h=>by
   rcases h with h|h|h
   ·have:=a3 _ h;omega
   ·omega
   ·omega)))
 have H0:=ae G;have k0:=o.cell 0 rfl;clear J a1 a2 a3 a4 a5 f r o al G A D P
 go_upto_region 2 with fail
 rw [<-F.out];clear F;go_wp2
 go_loopw [22] (fun x wr=>∃i:Nat,x= .int .i64 i/\i<=p/\Hid (mG m Pg W Fs Us Hg mp kb wb b c (iw.Xa sz a s i) wr)) (fun x _=>(p-intOf x).toNat)
 case atStart=>exact ⟨0,rfl,aF _,H0⟩
 case round=>
  clear H0 k0;obtain ⟨i,rfl,Q,y⟩:=hrel;have q:=Z.out _ wr y.out;have P:=d.out b c _ wr y.out;by_cases ak:i<p
  ·obtain ⟨⟨g1,g2⟩,g3⟩:=l.out b c wr i ak y.out;have U:=ae g1;have V:=ae g2;have Y:=ae g3;have c1:(i:Int)<(p:Int):=by omega
   clear g1 g2 g3 y l q Z j;obtain ⟨sg,v⟩:∃sg,sg=iw.Xa sz a s i:=⟨_,rfl⟩;rw [<-v] at U V Y;have ah:=ae v;clear v;generalize hX:sg.M (a+1+i)=X at*;have HX:=ae hX;clear hX;go_wp2_with fail
   refine U.out.mono ?_;rintro e w3 ⟨rfl,N⟩;have c3:=d.out b c _ w3 N;have HT:=ae (Y.out w3.drew (N.Fh ((GQ _ w3).drew)));clear U N P;go_wp2
   go_region_held (fun w'=>w'.cell? kb=some m) (first|assumption|go_keep) (first
    |(refine HT.out.mono ?_;rintro e w4 ⟨rfl,q4⟩;have c4:=d.out b c _ w4 q4)
    |(refine (V.out _ q4).mono ?_;rintro e w5 ⟨rfl,q5⟩;have c5:=d.out b c _ w5 q5))
   have af:=ae q5;clear q5 q4 c4 HT V Y c3;go_wp2;refine ⟨⟨i+1,by simp,by omega,?_⟩,by unfold intOf;simp only [];omega⟩;have hn:=af.out;rw [ah.out] at hn;exact hn
  ·have aj:i=p:=by omega
   subst aj;have C:=ae (j.out _ wr y.out);have c1:¬(i:Int)<(i:Int):=by omega
   have B:=ae q;clear j l d Z q P y;go_wp2_with (refine wpList_load_row rfl 31 _ rfl w1.heap.size rfl 31 #[(i:Int),(t:Int),(g:Int)] _ _ B.out underlying31 rfl E.out ?_)
   refine (n.out _).mono ?_;rintro e w5 ⟨rfl,I⟩;have ad:=ae (C.out.Fh I);clear I C B n E;go_wp2;go_ret;refine ⟨?_,ad.out⟩;congr 2
end
def l8(sz:Nat->Nat)(l:List Nat):Nat:=(l.map sz).sum
theorem l7(sz:Nat->Nat)(l l':List Nat):l8 sz (l++l')=l8 sz l+l8 sz l':=by unfold l8;rw [bD,List.sum_append]
theorem pO(sz:Nat->Nat)(x:Nat):l8 sz [x]=sz x:=by simp [l8]
theorem tP{sz:Nat->Nat}{l:List Nat}{j x:Nat}(h:l[j]? =some x):l8 sz (l.take j)+sz x<=l8 sz l:=by
 have a:l.take (j+1)=l.take j++[x]:=by rw [ea,h];rfl
 have b:=l7 sz (l.take (j+1)) (l.drop (j+1));rw [dB,a,l7,pO] at b;omega
structure kH(L:Nat->Nat)(sz np:Nat->Nat)(To:Nat)(ord:List Nat)(cur:Nat)(s:iw):Prop where
 nd:ord.Nodup
 Qt:∀x z,s.f x=some z↔∃j,ord[j]? =some x/\z=To+l8 sz (ord.take j)
 num:s.n=ord.length
 top:s.top=To+l8 sz ord
 still:∀k,k<To\/s.top<=k->s.M k=L k
 Xt:∀x z i,s.f x=some z->i<sz x->(cur<=z+i\/i=0\/np x<i)->s.M (z+i)=L (x+i)
 new:∀x z i,s.f x=some z->z+i<cur->1<=i->i<=np x->i<sz x->(L (x+i)=0/\s.M (z+i)=0)\/s.f (L (x+i))=some (s.M (z+i))
section
variable{L sz np:Nat->Nat}{To cur:Nat}{ord:List Nat}{s:iw}
theorem kH.fits(h:kH L sz np To ord cur s){x z:Nat}(b:s.f x=some z):To<=z/\z+sz x<=s.top:=by
 obtain ⟨j,a,rfl⟩:=(h.Qt x z).1 b;have:=tP (sz:=sz) a;have:=h.top;omega
theorem kH.Fh(h:kH L sz np To ord cur s){x:Nat}:s.f x=none↔x∉ord:=by
 constructor
 ·intro a b;obtain ⟨j,c⟩:=bw.1 b;have:=(h.Qt x _).2 ⟨j,c,rfl⟩;rw [a] at this;exact absurd this (by simp)
 ·intro a
  cases hx:s.f x with
  |none=>rfl
  |some z=>
   obtain ⟨j,b,_⟩:=(h.Qt x z).1 hx;exact absurd (aD b) a
theorem kH.goes(h:kH L sz np To ord cur s){x:Nat}(F:x≠0)(hf:s.f x=none)(E:cur<=s.top)(r:∀k,x<=k->k<x+sz x->k<To\/s.top<=k):
  kH L sz np To (ord++[x]) cur (s.take sz x).1/\(s.take sz x).2=s.top/\(s.take sz x).1.top=s.top+sz x/\(s.take sz x).1.f x=some s.top/\(∀y z,s.f y=some z->(s.take sz x).1.f y=some z):=by
 have C:=h.Fh.1 hf;have K:s.take sz x=(⟨ov s.M x s.top (sz x),iV s.f x s.top,s.n+1,s.top+sz x⟩,s.top):=by
  unfold iw.take;rw [aE F,hf]
 have l:=h.top;rw [K];have d:∀y z,s.f y=some z->iV s.f x s.top y=some z:=by
  intro y z e;have m:y≠x:=by rintro rfl;rw [hf] at e;exact absurd e (by simp)
  unfold iV;rw [aE m];exact e
 have p:iV s.f x s.top x=some s.top:=by unfold iV;rw [aG rfl]
 have c:∀y z,iV s.f x s.top y=some z->(y=x/\z=s.top)\/(y≠x/\s.f y=some z):=by
  intro y z e;unfold iV at e;by_cases o:y=x
  ·rw [aG o] at e;exact .inl ⟨o,(bf e).symm⟩
  ·rw [aE o] at e;exact .inr ⟨o,e⟩
 refine ⟨⟨?_,?_,?_,?_,?_,?_,?_⟩,rfl,rfl,p,d⟩
 ·rw [gk];refine ⟨h.nd,by simp,?_⟩;intro a G b H;rw [bP.1 H];rintro rfl;exact C G
 ·intro y z;constructor
  ·intro e;rcases c y z e with ⟨rfl,rfl⟩|⟨m,q⟩
   ·refine ⟨ord.length,by simp,?_⟩;rw [kN rfl];exact l
   ·obtain ⟨j,g,t⟩:=(h.Qt y z).1 q;have u:=(al.1 g).1;refine ⟨j,by rw [bX u];exact g,?_⟩;rw [fN (by omega)];exact t
  ·rintro ⟨j,g,t⟩;rcases aY j ord.length with u|u
   ·rw [bX u] at g;rw [fN (by omega)] at t;exact d y z ((h.Qt y z).2 ⟨j,g,t⟩)
   ·have B:j=ord.length:=by
     have:=(al.1 g).1;rw [aH] at this;simp at this;omega
    subst B;rw [dJ (ak _),jj] at g;rw [kN rfl] at t;have:x=y:=by simpa using g
    subst this;rw [t,<-l];exact p
 ·show s.n+1=_
  rw [h.num,aH];rfl
 ·show s.top+sz x=_
  rw [l7,pO,l];omega
 ·intro k J;show ov s.M x s.top (sz x) k=_
  unfold ov;change k<To\/s.top+sz x<=k at J;rw [aE (by omega)];exact h.still k (by omega)
 ·intro y z i e w D;show ov s.M x s.top (sz x) (z+i)=_
  unfold ov;rcases c y z e with ⟨rfl,rfl⟩|⟨m,q⟩
  ·rw [aG (by omega),show y+(s.top+i-s.top)=y+i by omega];exact h.still _ (r _ (by omega) (by omega))
  ·have:=h.fits q;rw [aE (by omega)];exact h.Xt y z i q w D
 ·intro y z i e I v A w;show (_/\ov s.M x s.top (sz x) (z+i)=0)\/iV s.f x s.top _=some (ov s.M x s.top (sz x) (z+i))
  unfold ov;rcases c y z e with ⟨rfl,rfl⟩|⟨m,q⟩
  ·omega
  ·have:=h.fits q;rw [aE (by omega)];rcases h.new y z i q I v A w with g|g
   ·exact .inl g
   ·exact .inr (d _ _ g)
end
theorem rN{sz:Nat->Nat}{l:List Nat}{j a x:Nat}(h:l[j]? =some x)(b:j<a):l8 sz (l.take j)+sz x<=l8 sz (l.take a):=by
 have c:(l.take a)[j]? =some x:=by rw [List.getElem?_take_of_lt b];exact h
 have d:=tP (sz:=sz) c;rwa [lQ,fc (d9 b)] at d
section
variable{L sz np:Nat->Nat}{To cur:Nat}{ord:List Nat}{s:iw}
theorem kH.apart(h:kH L sz np To ord cur s){x y z a q:Nat}(d:s.f x=some z)(e:s.f y=some a)(l:z<=q)(m:q<z+sz x)(n:a<=q)(o:q<a+sz y):x=y/\z=a:=by
 obtain ⟨j,g1,i⟩:=(h.Qt x z).1 d;obtain ⟨g,c,k⟩:=(h.Qt y a).1 e;rcases dC j g with b|b|b
 ·have:=rN (sz:=sz) g1 b;omega
 ·subst b;rw [g1] at c;exact ⟨bf c,by omega⟩
 ·have:=rN (sz:=sz) c b;omega
theorem kH.skip(h:kH L sz np To ord cur s){a:Nat}(l:cur<=a)(k:∀x z i,s.f x=some z->i<sz x->cur<=z+i->z+i<a->i=0\/np x<i):kH L sz np To ord a s:=by
 refine ⟨h.nd,h.Qt,h.num,h.top,h.still,fun x z i c d b=>h.Xt x z i c d ?_,fun x z i c d b j g=> ?_⟩
 ·rcases b with b|b
  ·exact .inl (by omega)
  ·exact .inr b
 ·rcases aY (z+i) cur with e|e
  ·exact h.new x z i c e b j g
  ·have:=k x z i c g e d;omega
theorem kH.put(h:kH L sz np To ord cur s){y a i v:Nat}(e:s.f y=some a)(u:cur=a+1+i)(w:i<np y)(r:np y<sz y)(t:(L (y+1+i)=0/\v=0)\/s.f (L (y+1+i))=some v):kH L sz np To ord (cur+1) ⟨ej s.M cur v,s.f,s.n,s.top⟩:=by
 have hf:=h.fits e;refine ⟨h.nd,h.Qt,h.num,h.top,fun k l=> ?_,fun x z j c g b=> ?_,fun x z j c g b m o=> ?_⟩
 ·show ej s.M cur v k=_
  unfold ej;change k<To\/s.top<=k at l;rw [aE (by omega)];exact h.still k l
 ·show ej s.M cur v (z+j)=_
  unfold ej;by_cases d:z+j=cur
  ·obtain ⟨rfl,rfl⟩:=h.apart (q:=cur) c e (by omega) (by omega) (by omega) (by omega);omega
  ·rw [aE d];refine h.Xt x z j c g ?_;rcases b with b|b
   ·exact .inl (by omega)
   ·exact .inr b
 ·show (_/\ej s.M cur v (z+j)=0)\/s.f _=some (ej s.M cur v (z+j))
  unfold ej;by_cases d:z+j=cur
  ·obtain ⟨rfl,rfl⟩:=h.apart (q:=cur) c e (by omega) (by omega) (by omega) (by omega);rw [aG d];have p:x+j=x+1+i:=by omega
   rw [p];exact t
  ·rw [aE d];exact h.new x z j c (by omega) b m o
theorem kH.Xx(h:kH L sz np To ord cur s){y a i:Nat}(g:s.f y=some a)(j:cur=a+1+i)(m:i<np y)(d:np y<sz y)
  (c:L (y+1+i)≠0->s.f (L (y+1+i))=none->∀k,L (y+1+i)<=k->k<L (y+1+i)+sz (L (y+1+i))->k<To\/s.top<=k):
  ∃b,kH L sz np To b (cur+1) (s.Xx sz a i)/\(b=ord\/(L (y+1+i)≠0/\L (y+1+i)∉ord/\b=ord++[L (y+1+i)]))/\(∀x z,s.f x=some z->(s.Xx sz a i).f x=some z):=by
 have hf:=h.fits g;have r:s.M (a+1+i)=L (y+1+i):=by
  have:=h.Xt y a (1+i) g (by omega) (.inl (by omega));rwa [<-bW,<-bW] at this
 unfold iw.Xx;rw [r];generalize l:L (y+1+i)=X at*;rw [<-j];by_cases e:X=0
 ·have n:s.take sz X=(s,0):=by unfold iw.take;rw [aG e]
  rw [n];exact ⟨ord,h.put g j m d (.inl ⟨by rw [l];exact e,rfl⟩),.inl rfl,fun _ _ h=>h⟩
 ·cases hfx:s.f X with
  |some z=>
   have n:s.take sz X=(s,z):=by unfold iw.take;rw [aE e,hfx]
   rw [n];exact ⟨ord,h.put g j m d (.inr (by rw [l];exact hfx)),.inl rfl,fun _ _ h=>h⟩
  |none=>
   obtain ⟨g1,p,t,q,o⟩:=h.goes e hfx (by omega) (c e hfx);refine ⟨_,g1.put (o y a g) j m d (.inr ?_),.inr ⟨e,h.Fh.1 hfx,rfl⟩,o⟩;rw [l,p];exact q
end
structure C1(L:Nat->Nat)(sz np:Nat->Nat)(To Li:Nat)(R:Nat->Prop):Prop where
 some:∀x,R x->x≠0/\np x<sz x
 out:∀x,R x->∀k,x<=k->k<x+sz x->k<To\/Li<=k
 next:∀x,R x->∀i,i<np x->L (x+1+i)=0\/R (L (x+1+i))
 fit:∀l:List Nat,l.Nodup->(∀x∈l,R x)->To+l8 sz l<=Li
section
variable{L sz np:Nat->Nat}{To Li cur:Nat}{R:Nat->Prop}{ord:List Nat}{s:iw}
theorem kH.Xa(e:C1 L sz np To Li R)(h:kH L sz np To ord cur s)(A:∀x∈ord,R x){y a:Nat}(r:s.f y=some a)(M:cur=a)(c:R y):∀i,i<=np y->
  ∃b,kH L sz np To b (a+1+i) (iw.Xa sz a s i)/\(∀x∈b,R x)/\ord<+:b/\(∀x z,s.f x=some z->(iw.Xa sz a s i).f x=some z):=by
 intro i
 induction i with
 |zero=>
  intro _;have o:=(e.some y c).2;refine ⟨ord,h.skip (by omega) (fun x z j w I J K=> ?_),A,kh _,fun _ _ h=>h⟩;obtain ⟨rfl,rfl⟩:=h.apart (q:=z+j) w r (by omega) (by omega) (by omega) (by omega);exact .inl (by omega)
 |succ i ih=>
  intro N;obtain ⟨D,g1,l,m,n⟩:=ih (by omega);have o:=(e.some y c).2;have g:=e.next y c i (by omega);have O:=e.fit D g1.nd l;have p:=g1.top;obtain ⟨E,F,t,G⟩:=g1.Xx (n y a r) rfl (by omega) o (fun v _ k B C=>by
   have:=e.out _ (g.resolve_left v) k B C;omega)
  refine ⟨E,F,?_,?_,fun x z d=>G x z (n x z d)⟩
  ·rcases t with rfl|⟨u,H,rfl⟩
   ·exact l
   ·intro x d;rcases bB.1 d with d|d
    ·exact l x d
    ·rw [bP.1 d];exact g.resolve_left u
  ·rcases t with rfl|⟨u,H,rfl⟩
   ·exact m
   ·exact m.trans (mZ _ _)
theorem kH.turned(k:C1 L sz np To Li R)(h:kH L sz np To ord cur s)(m:∀x∈ord,R x){c y:Nat}(e:ord[c]? =some y)(l:cur=To+l8 sz (ord.take c)):
  ∃a,kH L sz np To a (cur+sz y) (iw.Xa sz cur s (np y))/\(∀x∈a,R x)/\ord<+:a/\cur+sz y=To+l8 sz (a.take (c+1))/\(∀x z,s.f x=some z->(iw.Xa sz cur s (np y)).f x=some z):=by
 have b:=m y (aD e);have d:=(h.Qt y cur).2 ⟨c,e,l⟩;have v:=(k.some y b).2;obtain ⟨A,g1,n,g,i⟩:=h.Xa k m d rfl b (np y) (ak _);obtain ⟨w,rfl⟩:=id g;have p:=(al.1 e).1;refine ⟨_,g1.skip (by omega) (fun x z j o r t u=> ?_),n,g,?_,i⟩
 ·obtain ⟨rfl,rfl⟩:=g1.apart (q:=z+j) o (i _ _ d) (by omega) (by omega) (by omega) (by omega);exact .inr (by omega)
 ·rw [fN (by omega),ea,e,l];show _=To+l8 sz (ord.take c++[y])
  rw [l7,pO];omega
end
structure EA(L:Nat->Nat)(sz np:Nat->Nat)(To Li:Nat)(R:Nat->Prop)(dom:Nat->Prop):Prop where
 hd:∀x,R x->∃p t g,jb L x p t g/\sz x=1+(p+t+g)/\np x=p
 Qn:∀x,R x->x<1048576/\∀k,x<=k->k<x+sz x->dom k/\L k<18446744073709551616
 Rm:∀k,To<=k->k<Li->dom k
 low:1<=To
 Hg:Li<1048576
section
variable{L sz np:Nat->Nat}{To Li cur:Nat}{R dom:Nat->Prop}{ord:List Nat}{s:iw}
theorem qf{sz:Nat->Nat}:∀l:List Nat,(∀x∈l,1<=sz x)->l.length<=l8 sz l
 |[],_=>aF _
 |x::l,h=>by
  have c:=qf l (fun y b=>h y (bx _ b));have d:=h x (cq);have a:l8 sz (x::l)=sz x+l8 sz l:=by simp [l8]
  rw [a,bn];omega
theorem kH.ok(l:C1 L sz np To Li R)(i:EA L sz np To Li R dom)(h:kH L sz np To ord cur s)(v:∀x∈ord,R x)(x:Nat)(F:x=0\/R x):s.Ok dom sz x:=by
 intro A;have c:=F.resolve_left A;obtain ⟨G,z⟩:=i.Qn x c;refine ⟨G,fun hf=> ?_⟩;obtain ⟨p,t,g,q,B,H⟩:=i.hd x c;have o:=h.Fh.1 hf;have m:=l.fit (ord++[x]) (by
  rw [gk];refine ⟨h.nd,by simp,?_⟩;intro a C b D;rw [bP.1 D];rintro rfl;exact o C) (fun y d=>by
  rcases bB.1 d with d|d
  ·exact v y d
  ·rw [bP.1 d];exact c)
 rw [l7,pO] at m;have w:=h.top;have u:=i.low;have n:=i.Hg;have r:=qf (sz:=sz) ord (fun y d=>by have:=(l.some y (v y d)).2;omega);have j:∀k,x<=k->k<x+sz x->s.M k=L k:=fun k e f=>h.still k (by have:=l.out x c k e f;omega)
 have E:=(l.some x c).2;refine ⟨p,t,g,⟨by rw [j x (ak _) (by omega)];exact q.1,q.2⟩,B,fun k e f=>⟨(z k e f).1,by rw [j k e f];exact (z k e f).2⟩,by omega,by omega,fun k e f=>i.Rm k (by omega) (by omega),by rw [h.num];omega⟩
theorem kH.taken(j:C1 L sz np To Li R)(h:kH L sz np To ord cur s)(g:∀x∈ord,R x)(d:cur<=s.top)(x:Nat)(q:x=0\/R x):
  ∃a,kH L sz np To a cur (s.take sz x).1/\(∀y∈a,R y)/\ord<+:a/\(∀y z,s.f y=some z->(s.take sz x).1.f y=some z)/\((x=0/\(s.take sz x).2=0)\/(s.take sz x).1.f x=some (s.take sz x).2):=by
 by_cases b:x=0
 ·have i:s.take sz x=(s,0):=by unfold iw.take;rw [aG b]
  rw [i];exact ⟨ord,h,g,kh _,fun _ _ h=>h,.inl ⟨b,rfl⟩⟩
 ·have c:=q.resolve_left b
  cases hfx:s.f x with
  |some z=>
   have i:s.take sz x=(s,z):=by unfold iw.take;rw [aE b,hfx]
   rw [i];exact ⟨ord,h,g,kh _,fun _ _ h=>h,.inr hfx⟩
  |none=>
   have p:=j.fit ord h.nd g;have l:=h.top;obtain ⟨g1,m,u,n,o⟩:=h.goes b hfx d (fun k r t=>by have:=j.out x c k r t;omega);refine ⟨_,g1,fun y e=> ?_,mZ _ _,o,.inr (by rw [m];exact n)⟩;rcases bB.1 e with e|e
   ·exact g y e
   ·rw [bP.1 e];exact c
theorem kH.ok1(c:C1 L sz np To Li R)(d:EA L sz np To Li R dom)(h:kH L sz np To ord cur s)(m:∀x∈ord,R x){y a i p t g:Nat}(j:s.f y=some a)(J:cur=a+1+i)(K:i<p)(k:R y)(e:jb L y p t g)(D:sz y=1+(p+t+g))(C:np y=p):iw.Ok1 dom sz a p t g s i:=by
 have hf:=h.fits j;have A:=c.fit ord h.nd m;have r:=h.top;have l:=d.Hg;have n:s.M (a+1+i)=L (y+1+i):=by
  have:=h.Xt y a (1+i) j (by omega) (.inl (by omega));rwa [<-bW,<-bW] at this
 have b:=c.next y k i (by omega);have B:L (y+1+i)<1048576:=by
  rcases b with o|o
  ·omega
  ·exact (d.Qn _ o).1
 obtain ⟨E,g1,u,F,v,w⟩:=h.taken c m (by omega) _ b;refine ⟨by rw [n];exact h.ok c d m _ b,⟨?_,e.2⟩,⟨?_,e.2⟩,by omega,?_,d.Rm _ (by omega) (by omega)⟩
 ·have:=h.Xt y a 0 j (by omega) (.inr (.inl rfl));rw [bg,bg] at this;rw [this];exact e.1
 ·rw [n];have z:(s.take sz (L (y+1+i))).1.M a=L y:=g1.Xt y a 0 (v y a j) (by omega) (.inr (.inl rfl));rw [z];exact e.1
 ·rw [n];rcases w with ⟨_,q⟩|q
  ·omega
  ·have G:=g1.fits q;have H:=c.fit E g1.nd u;have I:=g1.top;omega
end
section
variable{m Pg W Fs Us Hg:Nat}{mp:Nat->Bool}{kb wb:Nat}{S0:Nat->Prop}{w w0:World}{L sz np:Nat->Nat}{To Li cur:Nat}{R:Nat->Prop}{ord:List Nat}{s:iw}
def FC(m Pg W Fs Us Hg:Nat)(mp:Nat->Bool)(kb wb:Nat)(S0:Nat->Prop)(w0:World)(L sz np:Nat->Nat)(To:Nat)(R:Nat->Prop)(ord:List Nat)(cur:Nat)(s:iw)(w:World):Prop:=
 mG m Pg W Fs Us Hg mp kb wb S0 w0 s w/\kH L sz np To ord cur s/\∀x∈ord,R x
theorem DU(g:C1 L sz np To Li R)(p:EA L sz np To Li R (dD W Pg mp))(h:FC m Pg W Fs Us Hg mp kb wb S0 w0 L sz np To R ord cur s w)(b:cur<=s.top)(x:Nat)(i:x=0\/R x):
  Calls prog 146 #[kb,(x:Int)] w fun e w'=>∃(z:Nat) (a:List Nat) (s':iw),e= .returned (z:Int)/\FC m Pg W Fs Us Hg mp kb wb S0 w0 L sz np To R a cur s' w'/\ord<+:a/\(∀y q,s.f y=some q->s'.f y=some q)/\((x=0/\z=0)\/s'.f x=some z):=by
 obtain ⟨o,c,d⟩:=h;obtain ⟨r,g1,j,k,l,n⟩:=c.taken g d b x i;refine (uX o x (c.ok g p d x i)).mono ?_;rintro e w' ⟨rfl,q⟩;exact ⟨_,r,_,rfl,⟨q,g1,j⟩,k,l,n⟩
theorem DT(n:C1 L sz np To Li R)(k:EA L sz np To Li R (dD W Pg mp))(h:FC m Pg W Fs Us Hg mp kb wb S0 w0 L sz np To R ord cur s w){c y:Nat}(u:ord[c]? =some y)(B:cur=To+l8 sz (ord.take c)):
  Calls prog 147 #[kb,(cur:Int)] w fun e w'=>∃(a:List Nat) (s':iw),e= .returned (.int .i64 ((cur+sz y:Nat):Int))/\FC m Pg W Fs Us Hg mp kb wb S0 w0 L sz np To R a (cur+sz y) s' w'/\ord<+:a/\cur+sz y=To+l8 sz (a.take (c+1))/\∀x q,s.f x=some q->s'.f x=some q:=by
 obtain ⟨H,d,l⟩:=h;have j:=l y (aD u);have b:=(d.Qt y cur).2 ⟨c,u,B⟩;obtain ⟨p,t,g,o,v,z⟩:=k.hd y j;obtain ⟨N,g1,E,F,G,A⟩:=d.turned n l u B;have hf:=d.fits b;have J:=n.fit ord d.nd l;have D:=d.top;have r:=k.Hg;have C:=k.low;have I:s.M cur=L y:=d.Xt y cur 0 b (by omega) (.inr (.inl rfl));rw [z] at g1 A;refine (Cz (sz:=sz) H cur p t g (by omega) (by omega) (k.Rm cur (by omega) (by omega)) ⟨by rw [I];exact o.1,o.2⟩ (fun i K=> ?_)).mono ?_
 ·obtain ⟨S,O,P,T,Q⟩:=d.Xa n l b rfl j i (by omega);exact O.ok1 n k P (Q y cur b) rfl K j o v z
 ·rintro e w' ⟨rfl,q⟩;rw [<-v];exact ⟨N,_,rfl,⟨q,g1,E⟩,F,G,A⟩
end
theorem cP.copied{A:AG}{rs:List Nat}{φ L:Nat->Nat}{lo u t:Nat}{sz G:Nat->Nat}{p:List Nat}{s:iw}(h:cP A rs φ L lo u)(k:kH L sz G t p s.top s)(J:1<=t)(m:s.f 0=none)(c:∀x,Reach A.gr rs x->sz (φ x)=A.sz x/\G (φ x)=A.np x)(B:∀x,Reach A.gr rs x->φ x∈p):
  cP A rs (fun x=>(s.f (φ x)).getD 0) s.M t s.top:=by
 have d:∀x,Reach A.gr rs x->s.f (φ x)=some ((s.f (φ x)).getD 0):=by
  intro x b;obtain ⟨j,K⟩:=bw.1 (B x b);have N:=(k.Qt (φ x) _).2 ⟨j,K,rfl⟩;rw [N];rfl
 have g:∀x,1<=A.sz x:=fun x=>by unfold AG.sz;omega
 refine ⟨?_,J,fun x b=> ?_,fun x y b D C=> ?_,fun x b=>⟨?_,(h.head x b).2⟩,fun x b i u=> ?_,fun x b i v w=> ?_⟩
 ·show (s.f (φ 0)).getD 0=0
  rw [h.zero,m];rfl
 ·have:=k.fits (d x b);rw [(c x b).1] at this;exact this
 ·have g1:=d x b;have r:=d y D;generalize (s.f (φ x)).getD 0=z at*;generalize (s.f (φ y)).getD 0=a at*;have P:=(c x b).1;have Q:=(c y D).1;have O:=g x;have R:=g y;have o:φ x≠φ y:=fun e=>C (h.inj b D e)
  show z+A.sz x<=a\/a+A.sz y<=z
  rcases aY a (z+A.sz x) with H|H
  ·rcases aY z (a+A.sz y) with I|I
   ·rcases kD z a with F|F
    ·exact absurd (k.apart (q:=a) g1 r F (by omega) (ak _) (by omega)).1 o
    ·exact absurd (k.apart (q:=z) g1 r (ak _) (by omega) F (by omega)).1 o
   ·exact .inr I
  ·exact .inl H
 ·have O:=g x;have l:s.M ((s.f (φ x)).getD 0)=L (φ x):=k.Xt (φ x) _ 0 (d x b) (by rw [(c x b).1];omega) (.inr (.inl rfl));show s.M ((s.f (φ x)).getD 0)=_
  rw [l];exact (h.head x b).1
 ·have E:1+i<A.sz x:=by unfold AG.sz;omega
  have n:=k.fits (d x b);rw [(c x b).1] at n;have l:=k.new (φ x) _ (1+i) (d x b) (by omega) (by omega) (by rw [(c x b).2];omega) (by rw [(c x b).1];exact E);rw [<-ji φ,h.ptr x b i u] at l;show s.M ((s.f (φ x)).getD 0+1+i)=(s.f (φ (A.Qk x i))).getD 0
  rw [bW];rcases l with ⟨g1,r⟩|g1
  ·rw [g1,m,r];rfl
  ·rw [g1];rfl
 ·have E:1+i<A.sz x:=by unfold AG.sz;omega
  have l:=k.Xt (φ x) _ (1+i) (d x b) (by rw [(c x b).1];exact E) (.inr (.inr (by rw [(c x b).2];omega)));rw [<-ji φ] at l;show s.M ((s.f (φ x)).getD 0+1+i)=_/\_
  rw [bW,l];exact h.val x b i v w
theorem cP.shut{A:AG}{rs:List Nat}{φ L:Nat->Nat}{lo g o:Nat}{sz n:Nat->Nat}{d:List Nat}{s:iw}(h:cP A rs φ L lo g)(f:kH L sz n o d s.top s)(c:∀x,Reach A.gr rs x->sz (φ x)=A.sz x/\n (φ x)=A.np x)(b:∀x∈rs,x≠0->φ x∈d):∀x,Reach A.gr rs x->φ x∈d:=by
 intro x t
 induction t with
 |root h1 h2=>exact b _ h1 h2
 | @step a p h0 h1 h2 ih=>
  obtain ⟨i,g,rfl⟩:=bu.1 h1;have k:=bv.1 g;obtain ⟨j,q⟩:=bw.1 ih;have l:=(f.Qt (φ a) _).2 ⟨j,q,rfl⟩;have u:1+i<A.sz a:=by unfold AG.sz;omega
  have e:=f.fits l;rw [(c a h0).1] at e;have m:=f.new (φ a) _ (1+i) l (by omega) (by omega) (by rw [(c a h0).2];omega) (by rw [(c a h0).1];exact u);rw [<-ji φ,h.ptr a h0 i k] at m;have v:=h.pos (.step h0 h1 h2);rcases m with ⟨g1,_⟩|g1
  ·omega
  ·obtain ⟨w,r,_⟩:=(f.Qt _ _).1 g1;exact aD r
theorem cP.cpr{A:AG}{rs:List Nat}{φ L:Nat->Nat}{lo d g f:Nat}{sz n:Nat->Nat}(h:cP A rs φ L lo d)(c:∀x,Reach A.gr rs x->sz (φ x)=A.sz x/\n (φ x)=A.np x)(m:d<=g\/f<=lo)(e:∀l:List Nat,l.Nodup->(∀a∈l,∃x,Reach A.gr rs x/\φ x=a)->g+l8 sz l<=f):
  C1 L sz n g f (fun a=>∃x,Reach A.gr rs x/\φ x=a):=by
 refine ⟨?_,?_,?_,e⟩
 ·rintro a ⟨x,b,rfl⟩;have o:=h.pos b;rw [(c x b).1,(c x b).2];exact ⟨by omega,by unfold AG.sz;omega⟩
 ·rintro a ⟨x,b,rfl⟩ k q p;rw [(c x b).1] at p;have o:=h.Qn x b;omega
 ·rintro a ⟨x,b,rfl⟩ i d;rw [(c x b).2] at d;rw [h.ptr x b i d];by_cases j:A.Qk x i=0
  ·rw [j];exact .inl h.zero
  ·exact .inr ⟨_,AG.Ql b d j,rfl⟩
theorem kH.none(L sz b:Nat->Nat)(a:Nat):kH L sz b a [] a ⟨L,fun _=>Option.none,0,a⟩:=by
 refine ⟨List.nodup_nil,fun x z=> ?_,rfl,rfl,fun _ _=>rfl,fun x z i h=> ?_,fun x z i h=> ?_⟩
 ·constructor
  ·intro h;exact absurd h (by simp)
  ·rintro ⟨j,h,_⟩;exact absurd h (by simp)
 ·exact absurd h (by simp)
 ·exact absurd h (by simp)
theorem xB(sz:Nat->Nat)(N:Nat):∀(l:List Nat) (f:Nat->Bool),l.Nodup->(∀a∈l,a+sz a<=N/\∀k,a<=k->k<a+sz a->f k=true)->(∀a∈l,∀b∈l,a≠b->a+sz a<=b\/b+sz b<=a)->l8 sz l<=Qb f 0 N
 |[],_,_,_,_=>aF _
 |x::l,f,hn,h1,h2=>by
  obtain ⟨v,u⟩:=List.nodup_cons.1 hn;obtain ⟨y,q⟩:=h1 x (cq);have w:=xB sz N l (fun k=>f k&& !(decide (x<=k)&&decide (k<x+sz x))) u (fun a d=>by
   obtain ⟨r,s⟩:=h1 a (bx _ d);refine ⟨r,fun k o p=> ?_⟩;have I:=h2 a (bx _ d) x (cq) (fun e=>v (e▸d));have n:(decide (x<=k)&&decide (k<x+sz x))=false:=by rw [bl,az,az];omega
   show (f k&& !(decide (x<=k)&&decide (k<x+sz x)))=true
   rw [s k o p,n];rfl) (fun a d b t=>h2 a (bx _ d) b (bx _ t))
  have z:=bJ f (a:=0) (m:=x) (b:=N) (by omega) (by omega);have A:=bJ f (a:=x) (m:=x+sz x) (b:=N) (by omega) (by omega);have B:Qb f x (x+sz x)=sz x:=by rw [oX q];omega
  generalize hg:(fun k=>f k&& !(decide (x<=k)&&decide (k<x+sz x)))=g at w;have j:∀k,g k=(f k&& !(decide (x<=k)&&decide (k<x+sz x))):=fun k=>by rw [<-hg]
  have c:∀k,k<x\/x+sz x<=k->g k=f k:=fun k J=>by
   have n:(decide (x<=k)&&decide (k<x+sz x))=false:=by rw [bl,az,az];omega
   rw [j,n];simp
  have C:=bJ g (a:=0) (m:=x) (b:=N) (by omega) (by omega);have D:=bJ g (a:=x) (m:=x+sz x) (b:=N) (by omega) (by omega);have E:Qb g 0 x=Qb f 0 x:=cI (fun i _ h=>c i (.inl h));have F:Qb g (x+sz x) N=Qb f (x+sz x) N:=cI (fun i h _=>c i (.inr h));have H:Qb g x (x+sz x)=0:=cu (fun k o p=>by rw [j,aB o,aB p];simp);have G:l8 sz (x::l)=sz x+l8 sz l:=by simp [l8]
  omega
section
variable{m Pg W Fs Us Hg:Nat}{mp:Nat->Bool}{kb wb g:Nat}{S0:Nat->Prop}{w w1 w0:World}{s:iw}
def Ft(m Pg W Fs Us Hg:Nat)(mp:Nat->Bool)(kb wb g:Nat)(S0:Nat->Prop)(w0:World)(s:iw)(w:World):Prop:=
 ∃S,AD m Pg W Fs Us Hg mp kb wb s.M s.f s.n s.top S w/\Fr (fun k=>S0 k\/k=kb\/k=wb\/k=g) w0 w/\∀k,S k->S0 k\/w0.heap.size<=k
theorem Ft.step(h:Ft m Pg W Fs Us Hg mp kb wb g S0 w0 s w):∃S,mG m Pg W Fs Us Hg mp kb wb S w s w/\(∀k,S k->S0 k\/w0.heap.size<=k)/\∀s' w',mG m Pg W Fs Us Hg mp kb wb S w s' w'->Ft m Pg W Fs Us Hg mp kb wb g S0 w0 s' w':=by
 obtain ⟨S,d,c,b⟩:=h;have j:=c.size;refine ⟨S,⟨S,d,GQ _ _,fun _ h=> .inl h⟩,b,?_⟩;rintro s' w' ⟨S',e,f,i⟩;refine ⟨S',e,c.trans f (fun k a=> ?_),fun k a=> ?_⟩
 ·rcases a with h|h|h
  ·exact (b k h).imp .inl id
  ·exact .inl (.inr (.inl h))
  ·exact .inl (.inr (.inr (.inl h)))
 ·rcases i k a with h|h
  ·exact b k h
  ·exact .inr (by omega)
theorem Ft.row(h:Ft m Pg W Fs Us Hg mp kb wb g S0 w0 s w)(hg:g<w0.heap.size)(d:¬S0 g)(b:kb≠g)(i:wb≠g)(hf:Fr (fun k=>k=g) w w1):Ft m Pg W Fs Us Hg mp kb wb g S0 w0 s w1:=by
 obtain ⟨S,a,j,c⟩:=h;refine ⟨S,⟨a.Qd.frame hf b,da _ _ _ _ _ _ _ _ _ _ _ _ a.mem hf (fun k f e=> ?_),a.Qt.frame hf i,a.d1,a.d2,a.d3⟩,j.trans hf (fun k b=> .inl (.inr (.inr (.inr b)))),c⟩;rcases c k f with h|h
 ·exact d (e▸h)
 ·omega
end
section
variable{m Pg W Fs Us Hg:Nat}{mp:Nat->Bool}{kb wb b g:Nat}{S0:Nat->Prop}{w w0:World}{L sz np:Nat->Nat}{To Li:Nat}{R:Nat->Prop}{ls:List Nat}
def C7(m Pg W Fs Us Hg:Nat)(mp:Nat->Bool)(kb wb g:Nat)(S0:Nat->Prop)(w0:World)(L sz np:Nat->Nat)(To:Nat)(R:Nat->Prop)(ls rs:List Nat)(w:World):Prop:=
 ∃(ord:List Nat) (s:iw),Ft m Pg W Fs Us Hg mp kb wb g S0 w0 s w/\kH L sz np To ord To s/\(∀x∈ord,R x)/\rs.length<=ls.length/\∀i a,i<rs.length->ls[i]? =some a->(a=0/\rs[i]? =some 0)\/(∃z,s.f a=some z/\rs[i]? =some z)
theorem C7.more{s s':iw}{rs:List Nat}{a x:Nat}(k:ls[rs.length]? =some a)(n:∀y q,s.f y=some q->s'.f y=some q)(h:∀i a,i<rs.length->ls[i]? =some a->(a=0/\rs[i]? =some 0)\/(∃z,s.f a=some z/\rs[i]? =some z))(o:(a=0/\x=0)\/s'.f a=some x):
  (rs++[x]).length<=ls.length/\∀i a,i<(rs++[x]).length->ls[i]? =some a->(a=0/\(rs++[x])[i]? =some 0)\/(∃z,s'.f a=some z/\(rs++[x])[i]? =some z):=by
 have r:=(al.1 k).1;rw [aH,aP];refine ⟨by omega,fun i c p j=> ?_⟩;rcases aY i rs.length with e|e
 ·rw [bX e];rcases h i c e j with d|⟨z,d,l⟩
  ·exact .inl d
  ·exact .inr ⟨z,n _ _ d,l⟩
 ·have:i=rs.length:=by omega
  subst this;rw [k] at j
  cases j
  rw [dJ (ak _),jj];rcases o with ⟨d,rfl⟩|d
  ·exact .inl ⟨d,rfl⟩
  ·exact .inr ⟨x,d,rfl⟩
theorem Af(J:C1 L sz np To Li R)(I:EA L sz np To Li R (dD W Pg mp))(H:C7 m Pg W Fs Us Hg mp kb wb g S0 w0 L sz np To R ls [] w)(M:dt w b g ls)(u:∀a∈ls,a=0\/R a)(hg:g<w0.heap.size)(Q:b<w0.heap.size)(j:¬S0 g)(l:¬S0 b)(d:kb≠g/\wb≠g/\kb≠b/\wb≠b):
  Calls prog 145 #[b,.func (.func 146) #[kb] #[]] w (Eb (C7 m Pg W Fs Us Hg mp kb wb g S0 w0 L sz np To R ls) b g ls):=by
 refine oB 146 #[kb] #[] (enters_of func146 (by kernel_rfl) rfl) _ M H ?_ ?_ ?_
 ·rintro rs w1 w2 ⟨f,s,o,k,p,x,q⟩ hf;exact ⟨f,s,o.row hg j d.1 d.2.1 hf,k,p,x,q⟩
 ·rintro rs w1 ⟨f,s,o,k,p,x,q⟩ r;obtain ⟨g1,t⟩:=C7.more (s:=s) (s':=s) (ls:=ls) r (fun _ _ h=>h) q (.inl ⟨rfl,rfl⟩);exact ⟨f,s,o,k,p,g1,t⟩
 ·rintro rs a w1 v ⟨f,s,o,k,p,x,q⟩ r K;obtain ⟨S,c1,c2,B⟩:=o.step;have A:=k.top;refine (DU J I ⟨c1,k,p⟩ (by omega) a (u a (aD r))).mono ?_;rintro e w2 ⟨z,n,s',rfl,⟨y,C,D⟩,N,E,F⟩;obtain ⟨g1,t⟩:=C7.more (s:=s) (s':=s') (ls:=ls) r E q F;obtain ⟨S',O,G,P⟩:=id y;refine ⟨z,rfl,v.frame G (fun c=> ?_) (fun c=> ?_),n,s',B s' w2 y,C,D,g1,t⟩
  ·rcases c with c|c|c
   ·rcases c2 _ c with i|i
    ·first|exact l i|exact j i
    ·omega
   ·first|exact d.2.2.1 c.symm|exact d.1 c.symm
   ·first|exact d.2.2.2 c.symm|exact d.2.1 c.symm
  ·rcases c with c|c|c
   ·rcases c2 _ c with i|i
    ·first|exact l i|exact j i
    ·omega
   ·first|exact d.2.2.1 c.symm|exact d.1 c.symm
   ·first|exact d.2.2.2 c.symm|exact d.2.1 c.symm
end
theorem sc{w:World}{m Pg W Rm Us Hg:Nat}{S:Nat->Prop}{mp:Nat->Bool}{M:Nat->Nat}(h:ed w m S Pg W Rm Us Hg mp M)(a u:Nat)(j:u<=a)(k:u<=W):Calls prog 144 #[m,(a:Int),(u:Int)] w fun e w'=>e= .returned (0:Int)/\GM w w':=by
 obtain ⟨W1,c⟩:∃W1,w.alloc (.cells #[m] 112)=W1:=⟨_,rfl⟩;have b:GM w W1:=by rw [<-c];exact (GQ _ w).alloc _
 have d:aJ W1 w.heap.size [m] 112:=by rw [<-c];exact aJ.new w _ _
 have f:=ae (fY (h.Qa b));obtain ⟨p,g,C,B,A,ws,z,r,q,l,n,c2,o⟩:=(h.Qa b).Qr;have x:=d.cell 0 rfl;have i:=ae b;have s:¬(a:Int)<0:=by omega
 have t:¬(W:Int)<(u:Int):=by omega
 have v:(u:Int)<=(a:Int):=by omega
 have y:¬W<u:=by omega
 clear h b d l n o k
 go_enter func144,ntmps144
 go_wp2_with fail
 refine f.out.mono ?_;rintro e w2 ⟨rfl,rfl⟩;clear f;go_wp2;go_ret;exact ⟨rfl,i.out⟩
end Go.Proofs.YthahbijbpinneaaGreatDoor
