import Derived.Test.YthahbijbpinneaaGreatDoorA0
import Derived.Test.YthahbijbpinneaaGreatDoorA14
import Derived.Test.YthahbijbpinneaaGreatDoorA16
set_option maxRecDepth 100000
set_option maxHeartbeats 8000000
set_option linter.all false
namespace Go.Proofs.YthahbijbpinneaaGreatDoor
open Go.RowKit Go.Proofs.Tryz
section
variable{P:Program}{BR:Bool->Bool->World->Prop}{d e k:Nat}{ρ:Operand->Value}{o:Oper}{w:World}{v V:Value}{q:Value->World->Prop}
theorem oT(a:(k==d)=false)(b:(k==e)=false)(h:(execOp ρ o).run P w= .ok (.value v) w)(hp:q v w):dU P ρ o w (fun v w'=>q v w'/\rP BR d e k w w'/\(false=true->jY w w' v)):=by
 refine ba v h ⟨hp,?_,fun h=>nomatch h⟩;unfold rP;rw [a,b];exact ⟨ak _,GQ _ _⟩
theorem GE(a:(k==d)=false)(b:(k==e)=false)(f:FuncId)(args:Array Value)(h:(execOp ρ o).run P w= .ok (.enter f args) w)(hp:q v w)(c:Calls P f args w fun e w'=>e= .returned v/\w=w'):dU P ρ o w (fun v w'=>q v w'/\rP BR d e k w w'/\(false=true->jY w w' v)):=by
 refine bm f args h (c.mono ?_);rintro e w' ⟨rfl,rfl⟩;refine ⟨v,rfl,hp,?_,fun h=>nomatch h⟩;unfold rP;rw [a,b];exact ⟨ak _,GQ _ _⟩
theorem oD(f:FuncId)(args:Array Value)(h:(execOp ρ o).run P w= .ok (.enter f args) w)(c:Calls P f args w fun e w'=>e= .returned V/\w.heap.size<=w'.heap.size/\∃B,BR false B w/\BR true B w'):dU P ρ o w (fun v w'=>(v=V/\(BR true false w'\/BR true true w'))/\rP BR d e d w w'/\(false=true->jY w w' v)):=by
 refine bm f args h (c.mono ?_);rintro e w' ⟨rfl,g,B,b,a⟩;refine ⟨V,rfl,⟨rfl,?_⟩,?_,fun h=>nomatch h⟩
 ·cases B
  ·exact .inl a
  ·exact .inr a
 ·unfold rP;rw [cT];exact ⟨g,B,b,a⟩
theorem oE(b:(e==d)=false)(f:FuncId)(args:Array Value)(h:(execOp ρ o).run P w= .ok (.enter f args) w)(i:∃x,BR x false w)(g:Calls P f args w fun e w'=>e= .returned V/\w.heap.size<=w'.heap.size/\∀B,BR B false w->BR B true w'):dU P ρ o w (fun v w'=>(v=V/\(BR false true w'\/BR true true w'))/\rP BR d e e w w'/\(false=true->jY w w' v)):=by
 refine bm f args h (g.mono ?_);rintro e w' ⟨rfl,j,a⟩;refine ⟨V,rfl,⟨rfl,?_⟩,?_,fun h=>nomatch h⟩
 ·obtain ⟨x,c⟩:=i
  cases x
  ·exact .inl (a _ c)
  ·exact .inr (a _ c)
 ·unfold rP;rw [b,cT];exact ⟨j,a⟩
theorem GI{w2:World}(h:(execOp ρ o).run P w= .ok .skip w2)(c:w.heap.size<=w2.heap.size)(b:∃B,BR false B w/\BR true B w2):dU P ρ o w (fun v w'=>(v=undef/\(BR true false w'\/BR true true w'))/\rP BR d e d w w'/\(false=true->jY w w' v)):=by
 refine ff h ⟨⟨rfl,?_⟩,?_,fun h=>nomatch h⟩
 ·obtain ⟨B,_,a⟩:=b
  cases B
  ·exact .inl a
  ·exact .inr a
 ·unfold rP;rw [cT];exact ⟨c,b⟩
theorem GH{w2:World}(b:(e==d)=false)(h:(execOp ρ o).run P w= .ok .skip w2)(g:w.heap.size<=w2.heap.size)(f:∃x,BR x false w)(a:∀B,BR B false w->BR B true w2):dU P ρ o w (fun v w'=>(v=undef/\(BR false true w'\/BR true true w'))/\rP BR d e e w w'/\(false=true->jY w w' v)):=by
 refine ff h ⟨⟨rfl,?_⟩,?_,fun h=>nomatch h⟩
 ·obtain ⟨x,c⟩:=f
  cases x
  ·exact .inl (a _ c)
  ·exact .inr (a _ c)
 ·unfold rP;rw [b,cT];exact ⟨g,a⟩
end
section
variable{b lb tb mb nb rm rn v f key i cd:Nat}{c:Cf}{K:Nat->Prop}{mL nL m1 n1 m':List (Nat×Nat)}{w0 w w' W1:World}
theorem gQ.kept{x y:Bool}(h:gQ b c mb nb K w0 rm rn mL nL m1 n1 x y w){q:Nat}{cs:List Value}{t:TypeId}(d:K q)(a:aJ w0 q cs t):aJ w q cs t:=by
 cases x<;>cases y<;>exact fI.kept h d a
theorem fI.rows(h:fI b c mb nb K w0 rm rn mL nL m1 n1 w):∃p cap d a,aJ w mb [.slice p mL.length cap,(rm:Int)] 72/\aJ w nb [.slice d nL.length a,(rn:Int)] 76:=by
 obtain ⟨S,⟨p,cap,e,_⟩,_⟩:=h.Xz;obtain ⟨S',⟨d,a,g,_⟩,_⟩:=h.Ya;exact ⟨p,cap,d,a,e,g⟩
def rx(b:Nat)(c:Cf)(mb nb:Nat)(K:Nat->Prop)(w0:World)(mL nL:List (Nat×Nat))(sm sn:Value)(rm rm' rn rn':Nat)(x y:Bool)(w:World):Prop:=fI b c mb nb K w0 (bif x then rm' else rm) (bif y then rn' else rn) mL nL mL nL w/\aJ w mb [sm,(((bif x then rm' else rm:Nat):Int):Int)] 72/\aJ w nb [sn,(((bif y then rn' else rn:Nat):Int):Int)] 76
theorem rx.Qa{e g:Value}{a d:Nat}{x y:Bool}(h:rx b c mb nb K w0 mL nL e g rm a rn d x y w)(hf:GM w w'):rx b c mb nb K w0 mL nL e g rm a rn d x y w':=⟨h.1.Qa hf,h.2.1.frame hf id,h.2.2.frame hf id⟩
theorem rx.same{g j:Value}{d a:Nat}{x l:Bool}(h:rx b c mb nb K w0 mL nL g j rm d rn a x false w)(k:rx b c mb nb K w0 mL nL g j rm d rn a l true w):∀z w',rx b c mb nb K w0 mL nL g j rm d rn a z true w'↔rx b c mb nb K w0 mL nL g j rm d rn a z false w':=by
 have e:=(h.2.2.cell 1 rfl).symm.trans (k.2.2.cell 1 rfl);injection e with e
 injection e with _ e
 simp only [cond_true,cond_false] at e;obtain rfl:rn=a:=by omega
 intro z w';unfold rx;simp only [cond_true,cond_false]
theorem rx.stm{j k:Value}{a d:Nat}{y:Bool}(g:mb≠nb)(h:rx b c mb nb K w0 mL nL j k rm a rn d false y w):rx b c mb nb K w0 mL nL j k rm a rn d true y (w.setCell ⟨mb,1,none⟩ (.int .i64 (a:Int))):=by
 obtain ⟨S,l,m⟩:=h.1.Xz;exact ⟨m _ _ _ l.roomy,h.2.1.set 1 _,h.2.2.Qg _ _ (fun e=>g e.symm)⟩
theorem rx.stn{g j:Value}{d a:Nat}{x:Bool}(e:mb≠nb)(h:rx b c mb nb K w0 mL nL g j rm d rn a x false w):rx b c mb nb K w0 mL nL g j rm d rn a x true (w.setCell ⟨nb,1,none⟩ (.int .i64 (a:Int))):=by
 obtain ⟨S,k,l⟩:=h.1.Ya;exact ⟨l _ _ _ k.roomy,h.2.1.Qg _ _ e,h.2.2.set 1 _⟩
theorem fI.mne(h:fI b c mb nb K w0 rm rn mL nL m1 n1 w):mb≠nb:=by
 obtain ⟨A,ls,tr,o,u,n,T,g,j,m,a,d,⟨k,e,l⟩,_⟩:=h;rintro rfl;obtain ⟨_,_,_,_,_,a⟩:=a;obtain ⟨_,_,_,_,_,d⟩:=d;exact (e mb ((a mb).2 (.inl rfl))).1 ((d mb).2 (.inl rfl))
theorem Dn(left:Nat)(a:c.Wd=4*mL.length+5*nL.length+left)(v f:Nat):∃m1 cd,FX c mL nL v f m1 cd/\((mL.length<mL.length+left/4/\m1=mL++[(v,f)]/\cd=0)\/(mL.length+left/4<=mL.length/\m1=mL/\cd=21))/\m1.length<=mL.length+1:=by
 by_cases h:4<=left
 ·exact ⟨_,_,.inl ⟨by omega,rfl,rfl⟩,.inl ⟨by omega,rfl,rfl⟩,by simp⟩
 ·exact ⟨_,_,.inr ⟨by omega,rfl,rfl⟩,.inr ⟨by omega,rfl,rfl⟩,by omega⟩
theorem EM(left:Nat)(j:c.Wd=4*mL.length+5*nL.length+left)(key f:Nat):∃n1 cd,((∃i v:Nat,nL[i]? =some (key,v)/\n1=nL.set i (key,f)/\cd=0)\/((∀p∈nL,p.1≠key)/\4*mL.length+5*nL.length+5<=c.Wd/\n1=nL++[(key,f)]/\cd=0)\/((∀p∈nL,p.1≠key)/\c.Wd<4*mL.length+5*nL.length+5/\n1=nL/\cd=21))/\((∃i v:Nat,nL[i]? =some (key,v)/\n1=nL.set i (key,f)/\cd=0)\/((∀p∈nL,p.1≠key)/\nL.length<nL.length+left/5/\n1=nL++[(key,f)]/\cd=0)\/((∀p∈nL,p.1≠key)/\nL.length+left/5<=nL.length/\n1=nL/\cd=21))/\n1.length<=nL.length+1:=by
 by_cases g:∃i v:Nat,nL[i]? =some (key,v)
 ·obtain ⟨i,v,e⟩:=g;exact ⟨_,_,.inl ⟨i,v,e,rfl,rfl⟩,.inl ⟨i,v,e,rfl,rfl⟩,by simp⟩
 ·have d:∀p∈nL,p.1≠key:=by
   rintro ⟨a,v⟩ hp rfl;obtain ⟨i,e⟩:=bw.1 hp;exact g ⟨i,v,e⟩
  by_cases h:5<=left
  ·exact ⟨_,_,.inr (.inl ⟨d,by omega,rfl,rfl⟩),.inr (.inl ⟨d,by omega,rfl,rfl⟩),by simp⟩
  ·exact ⟨_,_,.inr (.inr ⟨d,by omega,rfl,rfl⟩),.inr (.inr ⟨d,by omega,rfl,rfl⟩),by omega⟩
theorem DR(key:Nat):∃n1 cd,((∃i v:Nat,nL[i]? =some (key,v)/\n1=nL.eraseIdx i/\cd=0)\/((∀p∈nL,p.1≠key)/\n1=nL/\cd=6))/\n1.length<=nL.length:=by
 by_cases g:∃i v:Nat,nL[i]? =some (key,v)
 ·obtain ⟨i,v,d⟩:=g;exact ⟨_,_,.inl ⟨i,v,d,rfl,rfl⟩,List.length_eraseIdx_le _ _⟩
 ·have e:∀p∈nL,p.1≠key:=by
   rintro ⟨a,v⟩ hp rfl;obtain ⟨i,d⟩:=bw.1 hp;exact g ⟨i,v,d⟩
  exact ⟨_,_,.inr ⟨e,rfl,rfl⟩,ak _⟩
structure GK(c:Cf)(b lb tb mb nb:Nat)(W1:World)(mL nL:List (Nat×Nat))(pm pn:Option Addr)(cm cn:Nat)(C:World->Prop):Prop where
 Qa:∀{w w'},C w->GM w w'->C w'
 fr:∀{w},C w->GM W1 w
 cm:∀{w},C w->w.cell? mb=some (.slice pm mL.length cm)
 cn:∀{w},C w->w.cell? nb=some (.slice pn nL.length cn)
 rat:∀{w i j},C w->∀hij:i+j+1=mL.length,Calls prog 40 #[mb,(i:Int)] w fun e w'=>e= .returned (.tuple #[.agg #[.int .u64 ((mL[j]'(by omega)).1:Int),.int .u64 ((mL[j]'(by omega)).2:Int)],(0:Int)])/\GM w w'
 rn:∀j (h:j<nL.length),∃g,pn=some ⟨g,0,none⟩/\∀{w},C w->w.cell? ⟨g,j*2,none⟩=some (.int .u64 (nL[j].1:Int))/\w.cell? ⟨g,j*2+1,none⟩=some (.int .u64 (nL[j].2:Int))
 at_:∀{w i j},C w->∀hij:i+j+1=mL.length,Calls prog 39 #[lb,(i:Int)] w fun e w'=>e= .returned (.tuple #[.int .u64 ((mL[j]'(by omega)).1:Int),.float .f64 (mL[j]'(by omega)).2,(0:Int)])/\C w'
 get:∀{w W i q cs t},C w->GM w W->aJ W q cs t->w.heap.size<=q->∀h:i<nL.length,Calls prog 42 #[tb,.int .u64 (nL[i].1:Int)] W fun e w'=>e= .returned (.tuple #[.float .f64 nL[i].2,(0:Int)])/\C w'/\aJ w' q cs t
 live:∀{w},C w->Calls prog 19 #[b] w fun e w'=>(∃x:Int,e= .returned (.tuple #[(x:Int),(((4*mL.length+5*nL.length:Nat):Int):Int)]))/\C w'
 len:∀{w},C w->Calls prog 43 #[tb] w fun e w'=>e= .returned (.int .i64 (nL.length:Int))/\C w'
 Xh:∀{w},C w->Calls prog 12 #[] w fun e w'=>e= .returned (.bool true)/\C w'
theorem tL.last(h:tL b c lb tb mb nb W1 rm rn mL nL mL nL w)(hT:et W1)(al:mL.length<=1000)(ap:nL.length<=1000):∃pm V X Y C,C w/\GK c b lb tb mb nb W1 mL nL pm V X Y C:=by
 have aj:=h.fr;obtain ⟨K,w0,⟨k1,k2,R,k4,k5,k6,Q,_⟩,hH⟩:=h;obtain ⟨A,ls,tr,d,hV⟩:=hH;have F:=hV.kept R k5;have ak:=hV.kept k2 k4;obtain ⟨u,n,T,Sm,Sn,H,p,h3,⟨s,d2,d3⟩,h5,h6,h7⟩:=hV;have ad:∀{w1},bh b c A [cR ls,0,0,tr.root,0,0,0,0] T w w1->∃rm S,jx 72 84 mb mL rm S w1:=fun hp=>⟨_,_,p.stays hp.fr (fun k a ht=>(s k ht).1 a)⟩
 obtain ⟨pm,X,m1,m2,m3,m4⟩:=p;obtain ⟨V,Y,n1,U,n3,n4⟩:=h3;obtain ⟨M,z⟩:=d.lens;have ah:∀k,T k->W1.heap.size<=k:=fun k a=>by
  rcases aY k W1.heap.size with h|h
  ·exact absurd (k1 k h) (s k a).2.2
  ·exact h
 have I:∀{w1},bh b c A [cR ls,0,0,tr.root,0,0,0,0] T w w1->GM W1 w1:=fun hp=>aj.trans hp.fr (fun k a=> .inr (ah k a))
 refine ⟨pm,V,X,Y,bh b c A [cR ls,0,0,tr.root,0,0,0,0] T w,H.Xm,fun hp hf=>hp.Qa hf,I,fun hp=>(m1.frame hp.fr (fun a=>(s _ a).1 ((m4 _).2 (.inl rfl)))).cell 0 rfl,fun hp=>(n1.frame hp.fr (fun a=>(s _ a).2.1 ((n4 _).2 (.inl rfl)))).cell 0 rfl,fun hp D=>(let ⟨_,_,hr⟩:=ad hp;EK hr al D),fun j hj=> ?_,fun {w1 i j} hp D=> ?_,fun {w1 W i q cs t} hp hf hb hq hi=> ?_,fun hp=> ?_,fun hp=> ?_,fun {w1} hp=> ?_⟩
 ·obtain ⟨g,rfl⟩:∃g,V=some ⟨g,0,none⟩:=by
   rcases U.2 with ⟨_,h⟩|⟨g,cap,_,h,_,_,Q,_⟩
   ·omega
   ·injection h with H _ p;exact ⟨g,H⟩
  have O:=oI (l:=nL) (i:=j) hj;refine ⟨g,rfl,fun {w1} hp=> ?_⟩;have N:=aO U hp.fr (fun k a ht=>(s k ht).2.1 ((n4 k).2 (.inr a)));exact ⟨by rw [N.cellAt (j*2) (by omega),O.1],by rw [N.cellAt (j*2+1) (by omega),O.2]⟩
 ·have L:i<ls.length:=by omega
  obtain ⟨g1,Z⟩:=BM d.g.hl L;have hx:mL[j]'(by omega)=(ls[i]).2:=by
   have hm:=d.m;subst hm;rw [List.getElem_reverse];simp only [rR,List.getElem_map,bL];congr 2
   simp only [rR,List.length_reverse,bL] at D;omega
  refine (E1 (w0:=w) ak (fun a=>(s _ a).2.2 k2) Q d.g.hl ⟨L,by omega⟩ hp).mono ?_;rintro e w' ⟨rfl,p⟩;exact ⟨by rw [g1,Z,hx],p⟩
 ·obtain ⟨u',n',P,g1,Z,g3⟩:=hp;have am:¬P q:=fun h=>by have:=g1.lt q h;omega
  have an:¬P tb:=fun h=>(g3 tb h).elim (fun h=>(s _ h).2.2 R) (fun h=>by have:=F.lt;omega)
  have B:=Z.trans hf GN;refine (Dg (w0:=W) (F.frame B (fun a=>(s _ a).2.2 R)) an d.g Q (g1.Qa hf).Xm).mono ?_;have J:nL[i]? =some (nL[i].1,nL[i].2):=aK hi;rintro e w' ⟨y,hy,p⟩;have ai:bh b c A [cR ls,0,0,tr.root,0,0,0,0] T w w'/\aJ w' q cs t:=by
   obtain ⟨u2,U,T2,G,e2,e3⟩:=p;exact ⟨⟨u2,U,T2,G,B.trans e2 g3,fun k a=>(e3 k a).elim (g3 k) (fun h=> .inr (by have:=B.size;omega))⟩,hb.frame e2 am⟩
  rcases hy with ⟨l,x,g,r,G,rfl⟩|⟨G,hd,rfl⟩
  ·have hn:=d.n;have N:=d.o;rw [G,eP] at hn N;have hv:=tA hn N J rfl;have ao:nL[i].2=g:=congrArg Prod.snd hv;rw [ao];exact ⟨rfl,ai⟩
  ·have af:kj c.Wd A ls (y.Qf .nil) mL nL:=G▸d;exact absurd rfl (af.Zd hd _ (aD J))
 ·refine hp.bind (E:=fun e=>∃x:Int,e= .returned (.tuple #[(x:Int),(((4*mL.length+5*nL.length:Nat):Int):Int)])) (fun u n P hi=>(B9 hi d.Xh).mono ?_);rintro e w' ⟨rfl,H,p⟩;exact ⟨⟨_,by rw [d.g.Wd,M,z]⟩,_,_,P,H,p,fun _ h=> .inl h⟩
 ·refine (Df (w0:=w) F (fun a=>(s _ a).2.2 R) d.g.ht d.o Q (by omega) hp).mono ?_;rintro e w' ⟨rfl,p⟩;exact ⟨by rw [z],p⟩
 ·refine (qS w1 (aS hT (I hp) id)).mono ?_;rintro e w' ⟨rfl,hf⟩;exact ⟨rfl,hp.Qa hf⟩
theorem D5{p:Option Addr}{d k:Nat}(h:mY [.int .u8,.int .u64,.int .u64] w p d)(q:k<d):∃g off n key f:Nat,p=some ⟨g,off,none⟩/\n<256/\key<18446744073709551616/\f<18446744073709551616/\∀w',GM w w'->w'.cell? ⟨g,off+k*3,none⟩=some (.int .u8 n)/\w'.cell? ⟨g,off+k*3+1,none⟩=some (.int .u64 key)/\w'.cell? ⟨g,off+k*3+2,none⟩=some (.int .u64 f):=by
 obtain ⟨g,off,cs,hp,l,o⟩:=h k q
 match cs,l with
 |[_,_,_],⟨⟨a,rfl,ha⟩,⟨y,rfl,hy⟩,⟨z,rfl,hz⟩,_⟩=>
  simp [Lit.wf,IntKind.min,IntKind.max,IntKind.bits,IntKind.signed] at ha hy hz;have m:∀w',GM w w'->∀(j:Nat) v,[Value.int .u8 a,.int .u64 y,.int .u64 z][j]? =some v->w'.cell? ⟨g,off+k*3+j,none⟩=some v:=fun w' hf j v r=>by
   have e:=o j v r;exact (World.cell?_of_block (w:=w) (hf.block g (cl e) id)).trans e
  refine ⟨g,off,a.toNat,y.toNat,z.toNat,hp,by omega,by omega,by omega,fun w' hf=>⟨?_,?_,?_⟩⟩
  ·have e:=m w' hf 0 _ rfl;rw [Int.toNat_of_nonneg (by omega)];exact e
  ·rw [m w' hf 1 _ rfl,Int.toNat_of_nonneg (by omega)]
  ·rw [m w' hf 2 _ rfl,Int.toNat_of_nonneg (by omega)]
end
def Fl(w:World)(e:Ending)(w':World):Prop:=e= .returned (.bool true)/\GM w w'
section
variable{v0 v1 v2 v3 v4 v5 v6:Int}{tr len cap:Nat}{p:Option Addr}{w:World}
theorem vJ(b1:v1<=9223372036854775807)(b2:v2<=9223372036854775807)(b3:v3<=9223372036854775807)(hT:et w)(hR:mY [.int .u8,.int .u64,.int .u64] w p len):Calls prog 8 #[km v0 v1 v2 v3 v4 v5 v6 tr,.slice p len cap] w (Fl w):=by
 obtain ⟨W1,a8⟩:∃W1,w.alloc (.cells #[(v0:Int),(v1:Int),(v2:Int),(v3:Int),(8:Int),(v5:Int),(v6:Int),.float .f64 tr] 24)=W1:=⟨_,rfl⟩;have aE:GM w W1:=by rw [<-a8];exact (GQ _ w).alloc _
 have bi:aJ W1 w.heap.size [(v0:Int),(v1:Int),(v2:Int),(v3:Int),(8:Int),(v5:Int),(v6:Int),.float .f64 tr] 24:=by rw [<-a8];exact aJ.new w _ _
 obtain ⟨k0,k1,k2,k3,k4,k5,k6,k7⟩:=pV bi;have b9:cO<W1.heap.size:=cl (aS hT aE id 0 _ rfl);have cp:=aE.size;have aL:=ae (ag (aS hT aE id) b9);have a5:=ae (B7 (v0:=v0) (v4:=8) (v5:=v5) (v6:=v6) (tr:=tr) b1 b2 b3 aL.out.1 ⟨fun _=>0,fun _=>0,fun _=>0,fun _ _=>0⟩ none 0 0);have aX:=ae (fun w1 (hf:GM w w1)=>qS w1 (aS hT hf id));have aQ:=ae aE;have HR:=ae (hR.frame aE);have HQ:Hid (∀w',GM W1 w'->Fl w (.returned (.bool true)) w'):=ae (fun w' h=>⟨rfl,aE.trans h GN⟩);have a4:=ae (fun w1 (hf:GM W1 w1)=>(bi.frame hf id).cell 3 rfl);clear b1 b2 b3 hT aE bi hR b9 cp;unfold km at a5 ⊢;generalize (Fl w)=Q at*
 go_enter func8,ntmps8
 go_wp2_with fail
 refine a5.out.mono ?_;rintro e w2 cg;rcases cg with ⟨rfl,aq⟩|⟨c,b,T,hc,bQ,ck,_,rfl,hi,be,aq⟩
 ·skip
  have aT:=ae (aX.out w2 (aQ.out.trans aq GN));have aR:=ae aq;clear a5 aX aQ aq a8 k0 k1 k2 k3 k4 k5 k6 k7 aL HR a4;go_wp2_with fail
  refine aT.out.mono ?_;rintro e w3 ⟨rfl,ay⟩;have H:=ae (HQ.out w3 (aR.out.trans ay GN));clear aT aR ay HQ;go_wp2;exact H.out
 ·have hv:=Array.mk.inj (Value.agg.inj bQ);simp only [gP,Value.int.injEq,kZ,and_true,Value.float.injEq] at hv;obtain ⟨e0,e1,e2,e3,e4,e5,e6,e7⟩:=hv;have a3:c.Sl=8:=by omega
  have bs:c.Wd<=2048:=by omega
  subst e3;clear e0 e1 e2 e4 e5 e6 e7 bQ a8 a5 ck hc;by_cases bb:60<len
  ·have c1:(60:Int)<(len:Int):=by omega
   clear hi be a3 bs bb;have aT:=ae (aX.out w2 (aQ.out.trans aq GN));have aR:=ae aq;clear aX aQ aq k0 k1 k2 k3 k4 k5 k6 k7 aL HR a4;go_wp2_with fail
   refine aT.out.mono ?_;rintro e w3 ⟨rfl,ay⟩;have H:=ae (HQ.out w3 (aR.out.trans ay GN));clear aT aR ay HQ;go_wp2;exact H.out
  ·have c1:¬(60:Int)<(len:Int):=by omega
   rw [a3] at hi;have bx:=ae (DJ hi a3);have HS:=ae (ag a3 bs);clear hi a3 bs bb k0 k1 k2 k3 k4 k5 k6 k7;go_wp2_with fail
   refine bx.out.mono ?_;rintro e w3 ⟨lb,u3,n3,T3,rfl,bW,hl,bZ,b0,ay,bL⟩;have bz:=ae (De bW HS.out.1);clear bx bW;go_wp2_with fail
   refine bz.out.mono ?_;rintro e w4 ⟨tb,u4,n4,T4,rfl,bX,ht,b8,ca,bU,bM⟩;clear bz;obtain ⟨W5,bf⟩:∃W5,w4.alloc (.cells #[.slice none 0 0,(0:Int)] 72)=W5:=⟨_,rfl⟩;obtain ⟨W6,bg⟩:∃W6,W5.alloc (.cells #[.slice none 0 0,(0:Int)] 76)=W6:=⟨_,rfl⟩;have a1:GM w4 W5:=by rw [<-bf];exact (GQ _ w4).alloc _
   have bO:aJ W5 w4.heap.size [.slice none 0 0,(0:Int)] 72:=by rw [<-bf];exact aJ.new w4 _ _
   have bV:GM W5 W6:=by rw [<-bg];exact (GQ _ W5).alloc _
   have bP:aJ W6 W5.heap.size [.slice none 0 0,(0:Int)] 76:=by rw [<-bg];exact aJ.new W5 _ _
   have H0:=ae (tL.start HS.out.1 HS.out.2 aL.out.2 be aq hl bZ b0 ay bL bX ht b8 ca bU bM a1 bO (ak _) bV bP (ak _));clear be aq hl bZ b0 ay bL bX ht b8 ca bU bM a1 bO bV bP aX aQ
   go_upto_region 10 with fail
   clear bf bg;obtain ⟨n,bq⟩:∃n,n=w4.heap.size:=⟨_,rfl⟩;obtain ⟨m,br⟩:∃m,m=W5.heap.size:=⟨_,rfl⟩;rw [<-bq,<-br] at H0 ⊢;clear bq br;have ar:=ae c1;clear c1;go_wp2
   go_loopw [64] (fun z wr=>∃i:Nat,z= .int .i64 i/\i<=len/\Hid (∃rm rn a d,a.length<=i/\d.length<=i/\tL b c lb tb n m W1 rm rn a d a d wr)) (fun z _=>(len-intOf z).toNat)
   case atStart=>exact ⟨0,rfl,aF _,ae ⟨0,0,[],[],ak _,ak _,H0.out⟩⟩
   case round=>
    clear H0;obtain ⟨i,rfl,cc,hr⟩:=hrel;have ci:=hr.out;clear hr;obtain ⟨rm,rn,a,d,t,u,hM⟩:=ci;by_cases aM:i<len
    ·have c2:(i:Int)<(len:Int):=by omega
     obtain ⟨g,off,kd,key,f,rfl,U,s,N,a0⟩:=D5 HR.out aM;obtain ⟨x0,x1,x2⟩:=a0 _ hM.fr;obtain ⟨q,hq⟩:∃q,wr.heap.size=q:=⟨_,rfl⟩;obtain ⟨W7,Y⟩:∃W7,wr.alloc (.cells #[.int .u8 0,.int .u64 0,.int .u64 0] 78)=W7:=⟨_,rfl⟩;have af:GM wr W7:=by rw [<-Y];exact (GQ _ wr).alloc _
     have o:aJ W7 q [.int .u8 0,.int .u64 0,.int .u64 0] 78:=by rw [<-Y,<-hq];exact aJ.new wr _ _
     obtain ⟨z0,z1,z2,_⟩:=GT o;have y0:=o.free 0;have y1:=o.free 1;have y2:=o.free 2;have HX:=ae (ag hM (ag af (ag o (ag U (ag s (ag N (ag t u)))))));clear hM af o U s N t u a0;have bC:=ae hq
     go_upto_region 13 with fail
     clear Y z0 z1 z2 y0 y1 y2 x0 x1 x2 hq;obtain ⟨hM,af,o,U,s,N,t,u⟩:=HX.out;obtain ⟨r,M⟩:∃r,((W7.setCell q (.int .u8 kd)).setCell ⟨q,1,none⟩ (.int .u64 key)).setCell ⟨q,2,none⟩ (.int .u64 f)=r:=⟨_,rfl⟩;have a2:=bC.out;have bk:GM wr r:=by rw [<-M];exact (af.new2 (gB a2)).setCell _ (.inr (gB a2)) _
     have R:aJ r wr.heap.size [.int .u8 kd,.int .u64 key,.int .u64 f] 78:=by rw [<-M,a2];exact ((o.set 0 _).set 1 _).set 2 _
     obtain ⟨K,hK,bd,P⟩:=hM.Ba bk R;rw [a2] at R bd;obtain ⟨cj,a9⟩:=hM.sum;obtain ⟨pm,cm,pn,cn,aw,ax⟩:=P.rows;have ah:=P.mne;rw [M];have J:=ae (ag bd R);have L:=ae hK;have kc:=a4.out r (hM.fr.trans bk GN);obtain ⟨G,x⟩:∃G,G=a.length:=⟨_,rfl⟩;obtain ⟨I,E⟩:∃I,I=d.length:=⟨_,rfl⟩;obtain ⟨lf,D⟩:∃lf,c.Wd=4*a.length+5*d.length+lf:=⟨c.Wd-(4*a.length+5*d.length),by omega⟩;have bw:=ae D;rw [<-x] at aw D t;rw [<-E] at ax D u;have O:=ar.out;have e1:IntKind.i64.wrap (4*(G:Int))=4*(G:Int):=by rw [IntKind.wrap_i64];omega
     have e2:IntKind.i64.wrap ((c.Wd:Int)-4*(G:Int))=(c.Wd:Int)-4*(G:Int):=by rw [IntKind.wrap_i64];omega
     have e3:IntKind.i64.wrap (5*(I:Int))=5*(I:Int):=by rw [IntKind.wrap_i64];omega
     have e4:IntKind.i64.wrap ((c.Wd:Int)-4*(G:Int)-5*(I:Int))=(lf:Int):=by rw [IntKind.wrap_i64];omega
     have aC:=aw.cell 0 rfl;have aD:=ax.cell 0 rfl;have bF:=ae (ag P (ag aw (ag ax (ag D (ag a9 (ag x E))))));have bE:=ae HX.out.2.2.2;clear HX hM af o U s N t u M a2 bC bk R hK bd P cj a9 aw ax D x E O;go_wp2;refine bG 16 ?_;simp only [ai,an,aj,ao]
     repeat (go_big_quiet_step (fail))
     refine wpQuiet_nil ?_;rintro w9 ⟨q0,rfl⟩;clear e1 e2 e3 e4 kc aC aD;obtain ⟨P,aw,ax,D,a9,x,E⟩:=bF.out;have aC:(r.drewN q0).cell? n=some (.slice pm G cm):=aw.cell 0 rfl;have aD:(r.drewN q0).cell? m=some (.slice pn I cn):=ax.cell 0 rfl;obtain ⟨W9,aZ⟩:∃W9,W9=r.drewN q0:=⟨_,rfl⟩;have bK:=P.Qa (aZ▸(GQ (fun _=>False) r).drewN q0);have b4:aJ W9 n _ _:=aZ▸aw.drewN q0;have b5:aJ W9 m _ _:=aZ▸ax.drewN q0;rw [<-aZ] at aC aD ⊢;clear aZ aC aD;obtain ⟨k,h4⟩:∃k,k=lf/4:=⟨_,rfl⟩;obtain ⟨l,h5⟩:∃l,l=lf/5:=⟨_,rfl⟩;obtain ⟨al,aG⟩:∃al,al=G+k:=⟨_,rfl⟩;obtain ⟨am,aK⟩:∃am,am=I+l:=⟨_,rfl⟩;have aP:Hid (IntKind.i64.wrap ((lf:Int)/4)=(k:Int)/\IntKind.i64.wrap ((lf:Int)/5)=(l:Int)/\IntKind.i64.wrap ((G:Int)+(k:Int))=(al:Int)/\IntKind.i64.wrap ((I:Int)+(l:Int))=(am:Int)):=ae ⟨by rw [IntKind.wrap_i64];omega,by rw [IntKind.wrap_i64];omega,by rw [IntKind.wrap_i64];omega,by rw [IntKind.wrap_i64];omega⟩;have bB:=ae (show rx b c n m K r a d (.slice pm G cm) (.slice pn I cn) rm al rn am false false W9 from ⟨bK,b4,b5⟩);have bH:=ae (ag x (ag E (ag h4 (ag h5 (ag aG aK)))));have av:=ae ah;clear bF P aw ax D a9 x E h4 h5 bK b4 b5 aG aK ah;go_wp2;refine kr 24 20 23 (rx b c n m K r a d (.slice pm G cm) (.slice pn I cn) rm al rn am) undef undef [.c n,.c m,.c n,.c n,.c n,.c (.slice pm G cm),.c (G:Int),.c (lf:Int),.c (k:Int),.c (al:Int),.c m,.c m,.c m,.c (.slice pn I cn),.c (I:Int),.c (lf:Int),.c (l:Int),.c (am:Int),.c n,.c (.pointer (some ⟨n,1,none⟩)),.w undef (fun w=>rx b c n m K r a d (.slice pm G cm) (.slice pn I cn) rm al rn am true false w\/rx b c n m K r a d (.slice pm G cm) (.slice pn I cn) rm al rn am true true w),.c m,.c (.pointer (some ⟨m,1,none⟩)),.w undef (fun w=>rx b c n m K r a d (.slice pm G cm) (.slice pn I cn) rm al rn am false true w\/rx b c n m K r a d (.slice pm G cm) (.slice pn I cn) rm al rn am true true w)] rfl (by decide) (by decide) rfl rfl ⟨.inl rfl,.inr rfl,trivial⟩ (fun _ _ _ _ h hf=>rx.Qa h hf) (fun _ _ _ h h2=>rx.same h h2) (bB.out.Qa (GQ _ _).drew) ?_;intro F hF;simp only [fp,PK.val,ai,an,aa] at hF;subst hF;refine ⟨by
      refine ⟨?_,?_,?_,?_,?_,?_,?_,?_,?_,?_,?_,?_,?_,?_,?_,?_,?_,?_,?_,?_,?_,?_,?_,?_,trivial⟩<;>intro vs w1 hI hP hd hx
      all_goals (obtain ⟨x9,y9,hB⟩:=hI;have aC:=hB.2.1.cell 0 rfl;have aD:=hB.2.2.cell 0 rfl;have cx:=hB.2.1.cell 1 rfl;have cy:=hB.2.2.cell 1 rfl;have cs:=hB.2.1.free 1;have ct:=hB.2.2.free 1)
      all_goals try (apply oT rfl rfl;rotate_left;rfl;go_simp;done)
      all_goals try (apply oT rfl rfl;rotate_left;rfl;have hE:=aP.out.1;go_simp;done)
      all_goals try (apply oT rfl rfl;rotate_left;rfl;have hE:=aP.out.2.1;go_simp;done)
      all_goals try (apply oT rfl rfl;rotate_left;rfl;have hE:=aP.out.2.2.1;go_simp;done)
      all_goals try (apply oT rfl rfl;rotate_left;rfl;have hE:=aP.out.2.2.2;go_simp;done)
      ·refine GI (w2:=w1.setCell ⟨n,1,none⟩ (.int .i64 al)) (by go_simp) (by simp [World.setCell]) (hP.elim (fun h=>⟨false,h,h.stm av.out⟩) (fun h=>⟨true,h,h.stm av.out⟩))
      ·refine GH (w2:=w1.setCell ⟨m,1,none⟩ (.int .i64 am)) rfl (by go_simp) (by simp [World.setCell]) (hP.elim (fun h=>⟨_,h⟩) (fun h=>⟨_,h⟩)) (fun B h=>h.stn av.out)
      ,fun vs a7 A hp=> ?_⟩
     clear hp bB aP;simp only [aj,ao]
     go_upto_region 15 with fail
     obtain ⟨x,E,h4,h5,aG,aK⟩:=bH.out;subst aG aK;have ah:=av.out;have P:fI b c n m K r (G+k) (I+l) a d a d a7:=A.1;have j0:=(P.kept J.out.1 J.out.2).cell 0 rfl;obtain ⟨U,s,N,t,u⟩:=bE.out;have O:=ar.out;have D:=bw.out;subst x E;have hR:((kd:Int)% 8=0\/(kd:Int)% 8=1)\/(kd:Int)% 8=2\/((kd:Int)% 8=3\/(kd:Int)% 8=4)\/(kd:Int)% 8=5\/(kd:Int)% 8=6\/(kd:Int)% 8=7:=by omega
     clear bH bE bw A av;rcases hR with e5|e5|e5|e5|e5|e5
     ·obtain ⟨m2,cd,aB,aN,az⟩:=Dn lf D key f;have b6:(a.length<a.length+k/\m2=a++[(key,f)]/\cd=0)\/(a.length+k<=a.length/\m2=a/\cd=21):=by rw [h4];exact aN
      clear aN;have HH:=ae (show gQ b c n m K r (a.length+k) (d.length+l) a d m2 d false false a7 from P);have y:=ae (ag aB (ag b6 (ag az (ag s (ag N (ag t u))))));have cq:=ae ah;clear P aB b6 az s N t u D U h4 h5 O ah;rcases e5 with e5|e5
      all_goals (
       go_upto_region 20 with fail
       clear j0 e5;go_wp2;refine kr 13 6 12 (gQ b c n m K r (a.length+k) (d.length+l) a d m2 d) (.int .i64 cd) (.int .i64 cd) [.c lb,.c (.pointer (some ⟨q,1,none⟩)),.c (.int .u64 key),.c (.pointer (some ⟨q,2,none⟩)),.c (.int .u64 f),.c (.float .f64 f),.w (.int .i64 cd) (fun w=>gQ b c n m K r (a.length+k) (d.length+l) a d m2 d true false w\/gQ b c n m K r (a.length+k) (d.length+l) a d m2 d true true w),.c n,.c (.pointer (some ⟨q,1,none⟩)),.c (.int .u64 key),.c (.pointer (some ⟨q,2,none⟩)),.c (.int .u64 f),.w (.int .i64 cd) (fun w=>gQ b c n m K r (a.length+k) (d.length+l) a d m2 d false true w\/gQ b c n m K r (a.length+k) (d.length+l) a d m2 d true true w)] rfl (by decide) (by decide) rfl rfl ⟨.inl rfl,.inr rfl,trivial⟩ (fun _ _ _ _ h hf=>gQ.Qa h hf) (fun _ _ _ h h2=>gQ.same h h2) (HH.out.Qa (GQ _ _).drew) ?_;intro F hF;simp only [fp,PK.val,ai,an,aa] at hF;subst hF;refine ⟨by
        refine ⟨?_,?_,?_,?_,?_,?_,?_,?_,?_,?_,?_,?_,?_,trivial⟩<;>intro vs w1 hI hP hd hx
        all_goals (obtain ⟨x9,y9,hB⟩:=hI;have Z:=hB.kept J.out.1 J.out.2;obtain ⟨_,j1,j2,_⟩:=GT Z;clear Z)
        all_goals try (apply oT rfl rfl;rotate_left;rfl;go_simp;done)
        ·exact GE rfl rfl 23 #[.int .u64 f] (by go_simp) rfl (vT f w1)
        ·exact oD 31 #[lb,.int .u64 key,.float .f64 f] (by go_simp) (EP L.out.2.2.2.1 L.out.2.1 L.out.2.2.2.2.2.2.1 y.out.2.2.2.1 y.out.2.2.2.2.1 y.out.1 hP)
        ·exact oE rfl 32 #[n,.int .u64 key,.int .u64 f] (by go_simp) (hP.elim (fun h=>⟨_,h⟩) (fun h=>⟨_,h⟩)) (EO (by have:=y.out.2.2.2.2.2.1;have:=ar.out;omega) y.out.2.1 hP)
        ,fun vs w3 A hp=> ?_⟩
       clear hp HH;simp only [aj,ao];have A:fI b c n m K r (a.length+k) (d.length+l) m2 d m2 d w3:=A;have HN:=ae (⟨_,_,_,_,by have:=y.out.2.2.1;have:=y.out.2.2.2.2.2.1;omega,by have:=y.out.2.2.2.2.2.2;omega,⟨_,_,L.out,A⟩⟩:∃rm rn a d,a.length<=i+1/\d.length<=i+1/\tL b c lb tb n m W1 rm rn a d a d _);clear A L J;go_wp2;go_roundw
       case rel=>exact ⟨i+1,by go_num,by omega,HN⟩
       case measure=>simp [intOf];omega)
     ·have y:=ae (ag t u);rcases List.eq_nil_or_concat a with rfl|⟨m2,⟨xw,xf⟩,bS⟩
      ·skip
       have HP:=ae (CL L.out.2.2.2.1 L.out.2.1 L.out.2.2.2.2.2.2.1 P);clear P s N t u D U h4 h5 O ah;go_wp2_with fail
       refine HP.out.mono ?_;rintro e w4 ⟨rfl,hB⟩;obtain ⟨S,hr,hg⟩:=hB.Xz;have HG:=ae hg;have aY:=ae (A6 hr);clear HP hB hr hg j0 e5;go_wp2_with fail
       refine aY.out.mono ?_;rintro e w5 ⟨⟨pv,rfl⟩,hp⟩;have A:=HG.out _ _ _ hp;clear aY hp HG;have HN:=ae (⟨_,_,_,_,aF _,by have:=y.out.2;omega,⟨_,_,L.out,A⟩⟩:∃rm rn a d,a.length<=i+1/\d.length<=i+1/\tL b c lb tb n m W1 rm rn a d a d _);clear A L J;go_wp2;go_roundw
       case rel=>exact ⟨i+1,by go_num,by omega,HN⟩
       case measure=>simp [intOf];omega
      ·skip
       rw [List.concat_eq_append] at bS;subst bS;have HP:=ae (D4 L.out.2.2.2.1 L.out.2.1 L.out.2.2.2.2.2.2.1 P);clear P s N t u D U h4 h5 O ah;go_wp2_with fail
       refine HP.out.mono ?_;rintro e w4 ⟨rfl,hB⟩;obtain ⟨S,hr,hg⟩:=hB.Xz;have HG:=ae hg;have aY:=ae (Dl hr (by have h1:=y.out.1;have:=ar.out;simp only [aH,bn,ch] at h1;omega));clear HP hB hr hg j0 e5;go_wp2_with fail
       refine aY.out.mono ?_;rintro e w5 ⟨⟨pv,rfl⟩,hp⟩;have A:=HG.out _ _ _ hp;clear aY hp HG;have HN:=ae (⟨_,_,_,_,by have:=y.out.1;simp only [aH,bn,ch] at this;omega,by have:=y.out.2;omega,⟨_,_,L.out,A⟩⟩:∃rm rn a d,a.length<=i+1/\d.length<=i+1/\tL b c lb tb n m W1 rm rn a d a d _);clear A L J;go_wp2;go_roundw
       case rel=>exact ⟨i+1,by go_num,by omega,HN⟩
       case measure=>simp [intOf];omega
     ·obtain ⟨n2,cd,aB,aN,az⟩:=EM lf D key f;rw [<-h5] at aN;have hu:∀(i j v v':Nat),d[i]? =some (key,v)->d[j]? =some (key,v')->i=j:=fun i j v v' h1 h2=>P.key1 h1 h2
      have HH:=ae (show gQ b c n m K r (a.length+k) (d.length+l) a d a n2 false false a7 from P);have y:=ae (ag aB (ag aN (ag az (ag s (ag N (ag t (ag u hu)))))));clear P aB aN az s N t u D U h4 h5 O ah hu;rcases e5 with e5|e5
      all_goals (
       go_upto_region 26 with fail
       clear j0 e5;go_wp2;refine kr 13 6 12 (gQ b c n m K r (a.length+k) (d.length+l) a d a n2) (.int .i64 cd) (.int .i64 cd) [.c tb,.c (.pointer (some ⟨q,1,none⟩)),.c (.int .u64 key),.c (.pointer (some ⟨q,2,none⟩)),.c (.int .u64 f),.c (.float .f64 f),.w (.int .i64 cd) (fun w=>gQ b c n m K r (a.length+k) (d.length+l) a d a n2 true false w\/gQ b c n m K r (a.length+k) (d.length+l) a d a n2 true true w),.c m,.c (.pointer (some ⟨q,1,none⟩)),.c (.int .u64 key),.c (.pointer (some ⟨q,2,none⟩)),.c (.int .u64 f),.w (.int .i64 cd) (fun w=>gQ b c n m K r (a.length+k) (d.length+l) a d a n2 false true w\/gQ b c n m K r (a.length+k) (d.length+l) a d a n2 true true w)] rfl (by decide) (by decide) rfl rfl ⟨.inl rfl,.inr rfl,trivial⟩ (fun _ _ _ _ h hf=>gQ.Qa h hf) (fun _ _ _ h h2=>gQ.same h h2) (HH.out.Qa (GQ _ _).drew) ?_;intro F hF;simp only [fp,PK.val,ai,an,aa] at hF;subst hF;refine ⟨by
        refine ⟨?_,?_,?_,?_,?_,?_,?_,?_,?_,?_,?_,?_,?_,trivial⟩<;>intro vs w1 hI hP hd hx
        all_goals (obtain ⟨x9,y9,hB⟩:=hI;have Z:=hB.kept J.out.1 J.out.2;obtain ⟨_,j1,j2,_⟩:=GT Z;clear Z)
        all_goals try (apply oT rfl rfl;rotate_left;rfl;go_simp;done)
        ·exact GE rfl rfl 23 #[.int .u64 f] (by go_simp) rfl (vT f w1)
        ·exact oD 35 #[tb,.int .u64 key,.float .f64 f] (by go_simp) (FG L.out.2.2.2.2.1 L.out.2.2.1 L.out.2.2.2.2.2.2.1 y.out.2.2.2.1 y.out.2.2.2.2.1 y.out.1 hP)
        ·exact oE rfl 36 #[m,.int .u64 key,.int .u64 f] (by go_simp) (hP.elim (fun h=>⟨_,h⟩) (fun h=>⟨_,h⟩)) (FF (by have:=y.out.2.2.2.2.2.2.1;have:=ar.out;omega) y.out.2.2.2.2.2.2.2 y.out.2.1 hP)
        ,fun vs w3 A hp=> ?_⟩
       clear hp HH;simp only [aj,ao];have A:fI b c n m K r (a.length+k) (d.length+l) a n2 a n2 w3:=A;have HN:=ae (⟨_,_,_,_,by have:=y.out.2.2.2.2.2.1;omega,by have:=y.out.2.2.1;have:=y.out.2.2.2.2.2.2.1;omega,⟨_,_,L.out,A⟩⟩:∃rm rn a d,a.length<=i+1/\d.length<=i+1/\tL b c lb tb n m W1 rm rn a d a d _);clear A L J;go_wp2;go_roundw
       case rel=>exact ⟨i+1,by go_num,by omega,HN⟩
       case measure=>simp [intOf];omega)
     ·obtain ⟨n2,cd,aB,az⟩:= @DR d key;have hu:∀(i j v v':Nat),d[i]? =some (key,v)->d[j]? =some (key,v')->i=j:=fun i j v v' h1 h2=>P.key1 h1 h2
      have HH:=ae (show gQ b c n m K r (a.length+k) (d.length+l) a d a n2 false false a7 from P);have y:=ae (ag aB (ag az (ag t (ag u hu))));clear P aB az s N t u D U h4 h5 O ah hu
      go_upto_region 28 with fail
      clear j0 e5;go_wp2;refine kr 8 3 7 (gQ b c n m K r (a.length+k) (d.length+l) a d a n2) (.int .i64 cd) (.int .i64 cd) [.c tb,.c (.pointer (some ⟨q,1,none⟩)),.c (.int .u64 key),.w (.int .i64 cd) (fun w=>gQ b c n m K r (a.length+k) (d.length+l) a d a n2 true false w\/gQ b c n m K r (a.length+k) (d.length+l) a d a n2 true true w),.c m,.c (.pointer (some ⟨q,1,none⟩)),.c (.int .u64 key),.w (.int .i64 cd) (fun w=>gQ b c n m K r (a.length+k) (d.length+l) a d a n2 false true w\/gQ b c n m K r (a.length+k) (d.length+l) a d a n2 true true w)] rfl (by decide) (by decide) rfl rfl ⟨.inl rfl,.inr rfl,trivial⟩ (fun _ _ _ _ h hf=>gQ.Qa h hf) (fun _ _ _ h h2=>gQ.same h h2) (HH.out.Qa (GQ _ _).drew) ?_;intro F hF;simp only [fp,PK.val,ai,an,aa] at hF;subst hF;refine ⟨by
       refine ⟨?_,?_,?_,?_,?_,?_,?_,?_,trivial⟩<;>intro vs w1 hI hP hd hx
       all_goals (obtain ⟨x9,y9,hB⟩:=hI;have Z:=hB.kept J.out.1 J.out.2;obtain ⟨_,j1,j2,_⟩:=GT Z;clear Z)
       all_goals try (apply oT rfl rfl;rotate_left;rfl;go_simp;done)
       ·exact oD 37 #[tb,.int .u64 key] (by go_simp) (Fb L.out.2.2.2.2.1 L.out.2.2.1 L.out.2.2.2.2.2.2.1 y.out.1 hP)
       ·exact oE rfl 38 #[m,.int .u64 key] (by go_simp) (hP.elim (fun h=>⟨_,h⟩) (fun h=>⟨_,h⟩)) (E9 (by have:=y.out.2.2.2.1;have:=ar.out;omega) y.out.2.2.2.2 y.out.1 hP)
       ,fun vs w3 A hp=> ?_⟩
      clear hp HH;simp only [aj,ao];have A:fI b c n m K r (a.length+k) (d.length+l) a n2 a n2 w3:=A;have HN:=ae (⟨_,_,_,_,by have:=y.out.2.2.1;omega,by have:=y.out.2.1;have:=y.out.2.2.2.1;omega,⟨_,_,L.out,A⟩⟩:∃rm rn a d,a.length<=i+1/\d.length<=i+1/\tL b c lb tb n m W1 rm rn a d a d _);clear A L J;go_wp2;go_roundw
      case rel=>exact ⟨i+1,by go_num,by omega,HN⟩
      case measure=>simp [intOf];omega
     ·have HP:=ae (CJ P);have y:=ae (ag t u);clear P s N t u D U h4 h5 O ah;go_wp2_with fail
      refine HP.out.mono ?_;rintro e w4 ⟨⟨B,rfl⟩,A⟩;clear HP j0 e5;have HN:=ae (⟨_,_,_,_,by have:=y.out.1;omega,by have:=y.out.2;omega,⟨_,_,L.out,A⟩⟩:∃rm rn a d,a.length<=i+1/\d.length<=i+1/\tL b c lb tb n m W1 rm rn a d a d _);clear A L J;go_wp2;go_roundw
      case rel=>exact ⟨i+1,by go_num,by omega,HN⟩
      case measure=>simp [intOf];omega
     ·have HP:=ae (An P);have y:=ae (ag t u);clear P s N t u D U h4 h5 O ah;go_wp2_with fail
      refine HP.out.mono ?_;rintro e w4 ⟨rfl,A⟩;clear HP j0 e5;have HN:=ae (⟨_,_,_,_,by have:=y.out.1;omega,by have:=y.out.2;omega,⟨_,_,L.out,A⟩⟩:∃rm rn a d,a.length<=i+1/\d.length<=i+1/\tL b c lb tb n m W1 rm rn a d a d _);clear A L J;go_wp2;go_roundw
      case rel=>exact ⟨i+1,by go_num,by omega,HN⟩
      case measure=>simp [intOf];omega
    ·have c2:¬(i:Int)<(len:Int):=by omega
     have O:=ar.out;obtain ⟨pm,pn,cm,cn,C,hC,hE⟩:=hM.last aL.out.1 (by omega) (by omega);have HE:=ae hE;have HL:=ae (ag t u);have cb:=ae (show i<=1000 by omega);have aC:=hE.cm hC;obtain ⟨G,x⟩:∃G,G=a.length:=⟨_,rfl⟩;obtain ⟨I,E⟩:∃I,I=d.length:=⟨_,rfl⟩;rw [<-x] at aC;have X:=ae (ag x E);have bq:G<=1000:=by omega
     have br:I<=1000:=by omega
     have HC:=ae hC;clear hE hC hM t u aM cc aL HR a4 ar O x E HS;go_wp2
     go_loopw [179] (fun z wr=>∃j:Nat,z= .int .i64 j/\j<=G/\Hid (C wr)) (fun z _=>(G-intOf z).toNat)
     case atStart=>exact ⟨0,rfl,aF _,HC⟩
     case round=>
      clear HC aC c2;obtain ⟨j,rfl,bl,hr⟩:=hrel;by_cases aM:j<G
      ·have c2:(j:Int)<(G:Int):=by omega
       obtain ⟨j2,bo⟩:∃j2,j+j2+1=a.length:=⟨G-j-1,by have:=X.out.1;omega⟩;have HA:=ae (HE.out.at_ hr.out bo);have a6:=ae (fun w1 (h:C w1)=>HE.out.rat h bo);generalize a[j2].1=xa at HA a6;generalize a[j2].2=xf at HA a6;clear hr bo;go_wp2_with fail
       refine HA.out.mono ?_;rintro e w4 ⟨rfl,ap⟩;have bD:=ae (a6.out _ ap);have au:=ae ap;clear HA a6 ap;go_wp2_with fail
       refine bD.out.mono ?_;rintro e w5 ⟨rfl,a1⟩;obtain ⟨q,hq⟩:∃q,w5.heap.size=q:=⟨_,rfl⟩;obtain ⟨W7,Y⟩:∃W7,w5.alloc (.cells #[.int .u64 0,.int .u64 0] 84)=W7:=⟨_,rfl⟩;have af:GM w5 W7:=by rw [<-Y];exact (GQ _ w5).alloc _
       have o:aJ W7 q [.int .u64 0,.int .u64 0] 84:=by rw [<-Y,<-hq];exact aJ.new w5 _ _
       obtain ⟨z0,z1,_⟩:=GS o;have y0:=o.free 0;have y1:=o.free 1;have HX:=ae (ag o (HE.out.Qa au.out (a1.trans (af.new2 (q:=q) (v0:= .int .u64 xa) (v1:= .int .u64 xf) (gB hq)) GN)));clear bD au a1 af o
       go_upto_region 39 with fail
       clear z0 z1 y0 y1 Y hq;obtain ⟨r,M⟩:∃r,(W7.setCell q (.int .u64 xa)).setCell ⟨q,1,none⟩ (.int .u64 xf)=r:=⟨_,rfl⟩;have R:aJ r q [.int .u64 xa,.int .u64 xf] 84:=by rw [<-M];exact lF HX.out.1
       have bu:Hid (C r):=by rw [<-M];exact ae HX.out.2
       rw [M];obtain ⟨z0,z1,_⟩:=GS R;clear M HX R;go_wp2;refine bG 10 ?_;simp only [ai,an,aj,ao]
       repeat (go_big_quiet_step (fail))
       refine fe (.int .u64 xf) 41 #[.float .f64 xf] rfl (fun w=>by go_simp) (fun w A=>(ri xf w).mono fun e w' h=>⟨h.1,h.2▸A⟩) ?_;simp only [aa]
       repeat (go_big_quiet_step (fail))
       refine wpQuiet_nil ?_;rintro w9 ⟨q0,rfl⟩;have HN:=ae (HE.out.Qa bu.out ((GQ _ r).drewN q0));clear bu z0 z1;go_wp2;go_roundw
       case rel=>exact ⟨j+1,by go_num,by omega,HN⟩
       case measure=>simp [intOf];omega
      ·have c2:¬(j:Int)<(G:Int):=by omega
       have aD:=HE.out.cn hr.out;rw [<-X.out.2] at aD;have HC:=ae hr.out;clear hr bl aM;go_wp2
       go_loopw [212] (fun z wr=>∃j:Nat,z= .int .i64 j/\j<=I/\Hid (C wr)) (fun z _=>(I-intOf z).toNat)
       case atStart=>exact ⟨0,rfl,aF _,HC⟩
       case round=>
        clear HC aD c2;obtain ⟨j,rfl,bl,hr⟩:=hrel;by_cases aM:j<I
        ·have c2:(j:Int)<(I:Int):=by omega
         have bp:j<d.length:=by have:=X.out.2;omega
         obtain ⟨g,rfl,b7⟩:=HE.out.rn j bp;obtain ⟨d0,d1⟩:=b7 hr.out;obtain ⟨q,hq⟩:∃q,wr.heap.size=q:=⟨_,rfl⟩;have HG:=ae (fun W (hf:GM wr W) (hb:aJ W q [.int .u64 (d[j].1:Int),.int .u64 (d[j].2:Int)] 93)=>HE.out.get hr.out hf hb (gB hq) bp);generalize d[j].1=xa at d0 HG;generalize d[j].2=xf at d1 HG;obtain ⟨W7,Y⟩:∃W7,wr.alloc (.cells #[.int .u64 0,.int .u64 0] 93)=W7:=⟨_,rfl⟩;have af:GM wr W7:=by rw [<-Y];exact (GQ _ wr).alloc _
         have o:aJ W7 q [.int .u64 0,.int .u64 0] 93:=by rw [<-Y,<-hq];exact aJ.new wr _ _
         obtain ⟨z0,z1,_⟩:=GS o;have y0:=o.free 0;have y1:=o.free 1;have HX:=ae (ag o (af.new2 (q:=q) (v0:= .int .u64 xa) (v1:= .int .u64 xf) (gB hq)));clear hr b7 af o bp
         go_upto_region 45 with fail
         clear z0 z1 y0 y1 Y hq d0 d1;obtain ⟨r,M⟩:∃r,(W7.setCell q (.int .u64 xa)).setCell ⟨q,1,none⟩ (.int .u64 xf)=r:=⟨_,rfl⟩;have R:aJ r q [.int .u64 xa,.int .u64 xf] 93:=by rw [<-M];exact lF HX.out.1
         have bv:=ae (HG.out r (by rw [<-M];exact HX.out.2) R);rw [M];have z0:=R.cell 0 rfl;clear M HX R HG;go_wp2_with fail
         refine bv.out.mono ?_;rintro e w4 ⟨rfl,ap,bj⟩;obtain ⟨z0,z1,_⟩:=GS bj;have au:=ae ap;clear bv ap bj;go_wp2;refine bG 8 ?_;simp only [ai,an,aj,ao]
         repeat (go_big_quiet_step (fail))
         refine bT (.int .u64 xf) 41 #[.float .f64 xf] rfl (fun w=>by go_simp) (fun w A=>(ri xf w).mono fun e w' h=>⟨h.1,h.2▸A⟩) ?_;simp only [aa]
         repeat (go_big_quiet_step (fail))
         refine wpQuiet_nil ?_;rintro w9 ⟨q0,rfl⟩;have HN:=ae (HE.out.Qa au.out ((GQ _ w4).drewN q0));clear au z0 z1;go_wp2;go_roundw
         case rel=>exact ⟨j+1,by go_num,by omega,HN⟩
         case measure=>simp [intOf];omega
        ·have c2:¬(j:Int)<(I:Int):=by omega
         have bc:=ae (HE.out.live hr.out);obtain ⟨V,hV⟩:∃V:Int,V=((4*a.length+5*d.length:Nat):Int):=⟨_,rfl⟩;rw [<-hV] at bc;have HV:=ae hV;clear hr bl aM hV;go_wp2_with fail
         refine bc.out.mono ?_;rintro e w4 ⟨⟨lx,rfl⟩,ap⟩;have au:=ae ap;clear bc ap;have ce:=HL.out;have cf:=X.out;have hv:=HV.out;have O:=cb.out;have e1:IntKind.i64.wrap (4*(G:Int))=4*(G:Int):=by rw [IntKind.wrap_i64];omega
         have e2:IntKind.i64.wrap (5*(I:Int))=5*(I:Int):=by rw [IntKind.wrap_i64];omega
         have e3:IntKind.i64.wrap (4*(G:Int)+5*(I:Int))=V:=by rw [IntKind.wrap_i64];omega
         clear ce cf hv O;go_wp2;refine bR C 28 (HE.out.Qa au.out (GQ _ _).drew) ?_;simp only [ai,an,aj,ao];refine aV [(V:Int),n,n,n,.slice pm G cm,(G:Int),((4*(G:Int)):Int),m,m,m,.slice pn I cn,(I:Int),((5*(I:Int)):Int),(V:Int),.bool true,.bool true,tb] ?_
         iterate 17 (refine aW rfl (fun w9 h9=>by first|(go_simp;done)|(have ad:=HE.out.cm h9;rw [<-X.out.1] at ad;go_simp;done)|(have ad:=HE.out.cn h9;rw [<-X.out.2] at ad;go_simp)) ?_;simp only [aa])
         refine aU ?_;refine fe (.int .i64 I) 43 #[tb] rfl (fun w=>by go_simp) (fun w A=>by rw [X.out.2];exact HE.out.len A) ?_;simp only [aa];refine aV [m,m,m,.slice pn I cn,(I:Int),.bool true,.bool true,.bool true] ?_
         iterate 8 (refine aW rfl (fun w9 h9=>by first|(go_simp;done)|(have ad:=HE.out.cm h9;rw [<-X.out.1] at ad;go_simp;done)|(have ad:=HE.out.cn h9;rw [<-X.out.2] at ad;go_simp)) ?_;simp only [aa])
         refine aU ?_;refine fe (.bool true) 12 #[] rfl (fun w=>by go_simp) (fun w A=>HE.out.Xh A) ?_;simp only [aa];refine aV [.bool true] ?_
         iterate 1 (refine aW rfl (fun w9 h9=>by first|(go_simp;done)|(have ad:=HE.out.cm h9;rw [<-X.out.1] at ad;go_simp;done)|(have ad:=HE.out.cn h9;rw [<-X.out.2] at ad;go_simp)) ?_;simp only [aa])
         refine aU ?_;refine wpQuiet_nil ?_;rintro w9 bI;have H:=ae (HQ.out w9 (HE.out.fr bI));clear bI HE au e1 e2 e3;go_wp2;exact H.out
end
theorem xp{cs:List Value}{p:Option Addr}{a cap:Nat}{W:World}(h:gL yr cs)(f:mY [.int .u8,.int .u64,.int .u64] W p a)(g:laidMetH prog Rows.topBothRow.laid W):Calls prog 8 #[.agg cs.toArray,.slice p a cap] W fun e w'=>e= .returned (.bool true)/\GM W w':=by
 obtain ⟨v0,v1,v2,v3,v4,v5,v6,tr,e,b,c,d⟩:=vc h;rw [e];exact vJ b c d (yQ g) f
end Go.Proofs.YthahbijbpinneaaGreatDoor
