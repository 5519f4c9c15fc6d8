import Derived.Test.YtgnoapadkncphaaGreatDoorA0
import Derived.Test.YtgnoapadkncphaaGreatDoorA1
set_option maxRecDepth 100000
set_option maxHeartbeats 8000000
set_option linter.all false
namespace Go.Proofs.YtgnoapadkncphaaGreatDoor
open Go.RowKit Go.Proofs.Tryz
section
open Go.RowKit Go.Shelf
theorem CN(N k:Nat)(a:bV (k:Int)=true)(b:1<=k)(c:k<=1048576)(d:N<=4194304)(w:World):Calls prog 159 #[(N:Int),(k:Int)] w fun e w'=>e= .returned (.int .i64 (((N+k-1)/k*k:Nat):Int))/\w=w':=by
 refine (Ih (N:Int) (k:Int) (by omega) w).mono ?_;rintro e w' ⟨rfl,rfl⟩;refine ⟨?_,rfl⟩;have hf:Ic (N:Int) (k:Int):=⟨a,by omega,by omega,by omega⟩;have:nD (N:Int) (k:Int) true=(((N+k-1)/k*k:Nat):Int):=by
  unfold nD
  grind
 rw [this]
def oZ(N k:Nat):Nat:=(N+k-1)/k
theorem Ga{N k:Nat}(a:1<=k):(N+k-1)/k*k/k=oZ N k:=cM _ (by omega)
theorem xU{N k:Nat}(b:1<=k):N<=oZ N k*k:=by
 unfold oZ;have:=az (N+k-1) k;have a:=aI (N+k-1) (show 0<k by omega)
 grind
theorem xT{N k j:Nat}(c:1<=k)(a:j<oZ N k):j*k<N:=by
 unfold oZ at a;have b:(j+1)*k<=N+k-1:=aH (aG k a) (ba _ _)
 grind
def fS(lo hi:Nat)(w:World)(q W k:Nat)(E:Nat->Nat)(Ba:Nat):Prop:=
 ∃p,lo<=q/\q<hi/\ay w q [.pointer (some ⟨p,0,none⟩),(k:Int)] 229/\gX lo hi w p W k E Ba/\bV (k:Int)=true/\1<=k/\k<=1024
theorem fS.frame{lo a:Nat}{S:Nat->Prop}{w w':World}{q W k Ba:Nat}{E:Nat->Nat}(h:fS lo a w q W k E Ba)(hf:Fr S w w')(b:∀i,S i->i<lo\/a<=i):fS lo a w' q W k E Ba:=by
 obtain ⟨p,c,d,e,f,g⟩:=h;exact ⟨p,c,d,e.frame hf (fun h=>by grind),f.frame hf b,g⟩
theorem fS.Qb{lo a:Nat}{w w':World}{q W k Ba:Nat}{E:Nat->Nat}(h:fS lo a w q W k E Ba)(hf:J7 w w'):fS lo a w' q W k E Ba:=h.frame hf J8
theorem gX.Qb{lo a:Nat}{w w':World}{p W k Ba:Nat}{E:Nat->Nat}(h:gX lo a w p W k E Ba)(hf:J7 w w'):gX lo a w' p W k E Ba:=h.frame hf J8
theorem fS.small{lo a:Nat}{w:World}{q W k Ba:Nat}{E:Nat->Nat}(h:fS lo a w q W k E Ba):W<=1048576:=by
 obtain ⟨p,c,d,e,b,f⟩:=h;exact b.off
theorem gX.wide{lo b a hi':Nat}{w:World}{p W k Ba:Nat}{E:Nat->Nat}(h:gX lo b w p W k E Ba)(c:a<=lo)(d:b<=hi'):gX a hi' w p W k E Ba:=by
 obtain ⟨t,o,g,i,e,f⟩:=h;exact ⟨t,o,by omega,by omega,e,f.wide c d⟩
theorem FJ{w:World}{L:bT}{W k:Nat}{E:Nat->Nat}(h:eo w L W E)(n:ee w)(f:bV (k:Int)=true)(a:1<=k)(b:k<=1024)(Ba:Nat)(o:Ba<2147483648):Calls prog 109 #[L.m,(k:Int),(Ba:Int)] w fun e w'=>∃q,e= .returned (.tuple #[.pointer (some ⟨q,0,none⟩),(0:Int)])/\fS w.heap.size w'.heap.size w' q W k E Ba/\J7 w w':=by
 have g:=ae (callsIn_wide.1 (Aa 0 h n f a b Ba o));have r:=ae (af f (af a b));obtain ⟨B,l⟩:∃B:Int,(Ba:Int)=B:=⟨_,rfl⟩;rw [l] at g ⊢;clear h n f o l
 go_enter func109,ntmps109
 go_wp2_with fail
 refine g.out.mono ?_;rintro e w1 ⟨p,rfl,i,j⟩;have c:=ae (af i j);clear i j;go_wp2;go_ret2;have s:=c.out.2.size;have d:J7 w1 (w1.alloc (.cells #[p,(k:Int)] 229)):=(Kb _ w1).alloc _;exact ⟨w1.heap.size,rfl,⟨p,s,by simp,ay.new w1 _ _,(c.out.1.Qb d).wide (ag _) (by simp),r.out⟩,c.out.2.alloc _⟩
theorem jp{lo a:Nat}{w:World}{q W k Ba:Nat}{E:Nat->Nat}(h:fS lo a w q W k E Ba):Calls prog 110 #[q] w fun e w'=>(∃p,e= .returned (.pointer (some ⟨p,0,none⟩))/\gX lo a w p W k E Ba)/\w=w':=by
 obtain ⟨p,f,g,b,c,i⟩:=h;have j:=b.cell 0 rfl;have d:=ae c;clear f g b c i
 go_enter func110,ntmps110
 go_wp2;go_ret;exact ⟨⟨p,rfl,d.out⟩,rfl⟩
theorem qj{lo t:Nat}{w:World}{q W k Ba:Nat}{E:Nat->Nat}(h:fS lo t w q W k E Ba):Calls prog 112 #[q] w fun e w'=>e= .returned (.int .i64 ((oZ (Qc (aw E) 0 W) k:Nat):Int))/\J7 w w':=by
 obtain ⟨p,A,C,b,c,i,d,j⟩:=h;have D:=b.drew.cell 0 rfl;have c1:=b.drew.cell 1 rfl;have F:=ed (E:=E) c.off;have m:=ae (rQ (c.Qb ((Kb _ w).drew)));generalize Qc (aw E) 0 W=N at*;have n:=ae (CN N k i d (by omega) (by omega) w.drew);have g:=Ga (N:=N) d;generalize (N+k-1)/k*k=M at*;have G:(M:Int).tdiv (k:Int)=((oZ N k:Nat):Int):=by rw [fF,g]
 have u:((k:Int)==0)=false:=by rw [beq_eq_false_iff_ne];omega
 have v:(1:Int)<=(k:Int):=by omega
 have o:=ae ((Kb (fun _=>False) w).drew);have z:oZ N k<=N+k:=by unfold oZ;exact aH (aX _ _) (by omega)
 have x:k<=1024:=j;have y:¬k=0:=by omega
 generalize oZ N k=B at*;have r:(B:Int)<=2097152:=by omega
 have s:(N:Int)<=1048576:=by omega
 clear A C b c i d j g
 go_enter func112,ntmps112
 go_wp2;refine aV (fun w'=>w'=w.drew) (by kernel_rfl) rfl ?_;refine aL [q,q,q] ?_
 iterate 3 (refine aM rfl (fun l f=>by go_simp) ?_;simp only [aa])
 refine aK ?_;refine ai p rfl (fun w a=>by subst a;go_simp) ?_;simp only [aa];refine bf (.int .i64 N) 111 #[p] rfl (fun w=>by go_simp) (fun w a=>by subst a;exact m.out.mono fun e w' h=>⟨h.1,h.2.symm⟩) ?_;simp only [aa];refine aL [q,q,.pointer (some ⟨q,1,none⟩)] ?_
 iterate 3 (refine aM rfl (fun l f=>by go_simp) ?_;simp only [aa])
 refine aK ?_;refine ai (k:Int) rfl (fun w a=>by subst a;go_simp) ?_;simp only [aa];refine bf (.int .i64 M) 159 #[(N:Int),(k:Int)] rfl (fun w=>by go_simp) (fun w a=>by subst a;exact n.out.mono fun e w' h=>⟨h.1,h.2.symm⟩) ?_;simp only [aa];refine aL [q,q,.pointer (some ⟨q,1,none⟩)] ?_
 iterate 3 (refine aM rfl (fun l f=>by go_simp) ?_;simp only [aa])
 refine aK ?_;refine ai (k:Int) rfl (fun w a=>by subst a;go_simp) ?_;simp only [aa];refine ai (B:Int) rfl (fun w a=>by go_simp;rw [IntKind.wrap_i64];omega) ?_;simp only [aa];refine ai (B:Int) rfl (fun w a=>by go_simp) ?_;simp only [aa];refine wpQuiet_nil ?_;rintro w2 rfl;go_wp2;go_ret;exact ⟨rfl,o.out⟩
end
section
open Go.RowKit Go.Shelf
theorem B7{lo j:Nat}{w:World}{p W k Ba:Nat}{E:Nat->Nat}(h:gX lo j w p W k E Ba)(i:Ba<=1048576)(b:Nat)(c:Ba+Qc (aw E) 0 W<=b):Calls prog 243 #[p,(b:Int)] w fun e w'=>e= .returned (.tuple #[(0:Int),(11:Int)])/\J7 w w':=by
 have d:=ae (kw h i);rw [show ((Ba+Qc (aw E) 0 W:Nat):Int)=(Ba:Int)+((Qc (aw E) 0 W:Nat):Int) by omega] at d;obtain ⟨t,o,l,m,f,n⟩:=h;have c2:=f.cell 2 rfl;generalize Qc (aw E) 0 W=N at*;have q:(Ba:Int)<=(b:Int):=by omega
 have r:(Ba:Int)+(N:Int)<=(b:Int):=by omega
 clear l m f n c
 go_enter func243,ntmps243
 go_wp2_with fail
 refine d.out.mono ?_;rintro e w1 ⟨rfl,a⟩;have g:=ae a;clear a;go_wp2;go_ret2;exact ⟨rfl,g.out⟩
theorem rj{lo l:Nat}{w:World}{q W k Ba:Nat}{E:Nat->Nat}(h:fS lo l w q W k E Ba)(j:Ba<=1048576)(b:Nat)(a:Ba+Qc (aw E) 0 W<=b):Calls prog 273 #[q,(b:Int)] w fun e w'=>e= .returned (.tuple #[(0:Int),(11:Int)])/\J7 w w':=by
 obtain ⟨p,m,n,f,g,o,r,s⟩:=h;have t:=f.cell 0 rfl;have i:=ae (B7 g j b a);clear m n f g o r s a
 go_enter func273,ntmps273
 go_wp2_with fail
 refine i.out.mono ?_;rintro e w1 ⟨rfl,c⟩;have d:=ae c;clear c;go_wp2;go_ret2;exact ⟨rfl,d.out⟩
theorem sY{lo G:Nat}{w:World}{q W k Ba:Nat}{E:Nat->Nat}(h:fS lo G w q W k E Ba)(t:ee w)(C:Ba<=1048576)(b:Nat)(f:Ba<=b)(g:b<Ba+Qc (aw E) 0 W):Calls prog 273 #[q,(b:Int)] w fun e w'=>e= .returned (.tuple #[((((b-Ba)/k:Nat):Int):Int),(0:Int)])/\J7 w w':=by
 obtain ⟨p,I,J,i,j,K,L,M⟩:=h;have z:=i.cell 0 rfl;obtain ⟨a,u⟩:=rW f g;have A:=ed (E:=E) j.off;have y:=ae (pK j t C b a u);have n:=ae (fun w1 (hf:J7 w w1)=>(af ((i.frame hf id).drew.cell 0 rfl) (af ((i.frame hf id).drew.cell 1 rfl) (tE (j.Qb (hf.drew))))));have F:(b:Int)-(Ba:Int)=((b-Ba:Nat):Int):=by omega
 obtain ⟨D,s⟩:∃D,b-Ba=D:=⟨_,rfl⟩;rw [s] at F ⊢;have T:(D:Int).tdiv (k:Int)=((D/k:Nat):Int):=fF D k;have m:D/k<=D:=aX _ _;generalize D/k=B at*;have H:¬k=0:=by omega
 have N:(B:Int)<=1048576:=by omega
 have O:(b:Int)<=2097152:=by omega
 have P:(Ba:Int)<=(b:Int):=by omega
 have Q:(D:Int)<=2097152:=by omega
 clear I J i j K L M u s f g A m t
 go_enter func273,ntmps273
 go_wp2_with fail
 refine y.out.mono ?_;rintro e w1 ⟨rfl,c⟩;have l:=ae c;obtain ⟨R,S,r⟩:=n.out w1 c;have x:=ae r;clear c r n z;go_wp2;refine aV (fun w'=>w'=w1.drew) (by kernel_rfl) rfl ?_;refine aL [(b:Int),q,q,q] ?_
 iterate 4 (refine aM rfl (fun v o=>by go_simp) ?_;simp only [aa])
 refine aK ?_;refine ai p rfl (fun w d=>by subst d;go_simp) ?_;simp only [aa];refine bf (.int .i64 Ba) 230 #[p] rfl (fun w=>by go_simp) (fun w d=>by subst d;exact x.out.mono fun e w' h=>⟨h.1,h.2.symm⟩) ?_;simp only [aa];refine ai (D:Int) rfl (fun w d=>by go_simp;rw [IntKind.wrap_i64];omega) ?_;simp only [aa];refine aL [q,q,.pointer (some ⟨q,1,none⟩)] ?_
 iterate 3 (refine aM rfl (fun v o=>by go_simp) ?_;simp only [aa])
 refine aK ?_;refine ai (k:Int) rfl (fun w d=>by subst d;go_simp) ?_;simp only [aa];refine ai (B:Int) rfl (fun w d=>by go_simp;rw [IntKind.wrap_i64];omega) ?_;simp only [aa];refine aL [(B:Int),(0:Int)] ?_
 iterate 2 (refine aM rfl (fun v o=>by go_simp) ?_;simp only [aa])
 refine aK ?_;refine wpQuiet_nil ?_;rintro w2 rfl;go_wp2;go_ret2;exact ⟨rfl,l.out.drew⟩
theorem rf{lo L:Nat}{w:World}{q W k Ba:Nat}{E:Nat->Nat}(h:fS lo L w q W k E Ba)(J:Ba<=1048576)(K:Nat)(C:K<oZ (Qc (aw E) 0 W) k):Calls prog 205 #[q,(K:Int)] w fun e w'=>e= .returned (.tuple #[(((Ba+K*k:Nat):Int):Int),(((min (Ba+K*k+k) (Ba+Qc (aw E) 0 W):Nat):Int):Int),(0:Int)])/\J7 w w':=by
 have g:=ae (qj h);obtain ⟨p,P,Q,l,m,R,D,S⟩:=h;have hN:=ed (E:=E) m.off;have t:=xT D C;have u:=ae (fun w1 (hf:J7 w w1)=>(af ((l.frame hf id).drew.cell 0 rfl) (af ((l.frame hf id).drew.cell 1 rfl) (tE (m.Qb (hf.drew))))));have o:=ae (fun w1 (hf:J7 w w1)=>kw (m.Qb hf) J);have i:=ae (fun w1 (hf:J7 w w1)=>(af ((l.frame hf id).cell 0 rfl) ((l.frame hf id).cell 1 rfl)));rw [show ((Ba+Qc (aw E) 0 W:Nat):Int)=(Ba:Int)+((Qc (aw E) 0 W:Nat):Int) by omega] at o;have s:K<=K*k:=cF K (by omega);have I:(K:Int)*(k:Int)=((K*k:Nat):Int):=by simp
 have O:oZ (Qc (aw E) 0 W) k<=Qc (aw E) 0 W+k:=by unfold oZ;exact aH (aX _ _) (by omega)
 generalize Qc (aw E) 0 W=N at*;generalize oZ N k=B at*;generalize K*k=M at*;have y:((Ba+M:Nat):Int)=(Ba:Int)+(M:Int):=by omega
 have z:((min (Ba+M+k) (Ba+N):Nat):Int)=min ((Ba:Int)+(M:Int)+(k:Int)) ((Ba:Int)+(N:Int)):=by omega
 rw [y,z];have T:(K:Int)<(B:Int):=by omega
 have U:(M:Int)<=1048576:=by omega
 have V:(k:Int)<=1024:=by omega
 have X:(Ba:Int)<=1048576:=by omega
 have Y:(N:Int)<=1048576:=by omega
 have Z:(B:Int)<=2097152:=by omega
 clear P Q l m R D S y z t C s
 go_enter func205,ntmps205
 go_wp2_with fail
 refine g.out.mono ?_;rintro e w1 ⟨rfl,c⟩;obtain ⟨G,H,A⟩:=u.out w1 c;have v:=ae A;have b:=ae c;clear c A g;go_wp2;refine aV (fun w'=>w'=w1.drew) (by kernel_rfl) rfl ?_;refine aL [q,q,q] ?_
 iterate 3 (refine aM rfl (fun n f=>by go_simp) ?_;simp only [aa])
 refine aK ?_;refine ai p rfl (fun w a=>by subst a;go_simp) ?_;simp only [aa];refine bf (.int .i64 Ba) 230 #[p] rfl (fun w=>by go_simp) (fun w a=>by subst a;exact v.out.mono fun e w' h=>⟨h.1,h.2.symm⟩) ?_;simp only [aa];refine aL [(K:Int),q,q,.pointer (some ⟨q,1,none⟩)] ?_
 iterate 4 (refine aM rfl (fun n f=>by go_simp) ?_;simp only [aa])
 refine aK ?_;refine ai (k:Int) rfl (fun w a=>by subst a;go_simp) ?_;simp only [aa];refine ai (M:Int) rfl (fun w a=>by go_simp;rw [IntKind.wrap_i64];omega) ?_;simp only [aa];refine ai (.int .i64 ((Ba:Int)+(M:Int))) rfl (fun w a=>by go_simp;rw [IntKind.wrap_i64];omega) ?_;simp only [aa];refine ai (.int .i64 ((Ba:Int)+(M:Int))) rfl (fun w a=>by go_simp) ?_;simp only [aa];refine wpQuiet_nil ?_;rintro w2 rfl;have x:=ae (fun w' (hf:J7 w1.drew.drew w')=>i.out w' (b.out.drew.drew.trans hf J8));have r:=ae (fun w' (hf:J7 w1.drew.drew w')=>o.out w' (b.out.drew.drew.trans hf J8));clear G H v u i o;go_wp2;refine aV (fun w'=>J7 w1.drew.drew w') (by kernel_rfl) (Kb _ _) ?_;refine aL [(((Ba:Int)+(M:Int)):Int),(((Ba:Int)+(M:Int)):Int),q,q,.pointer (some ⟨q,1,none⟩),(k:Int)] ?_
 iterate 6 (refine aM rfl (fun n f=>by first|(go_simp;done)|(have d:=(x.out _ f).2;go_simp;done)) ?_;simp only [aa])
 refine aK ?_;refine ai (.int .i64 ((Ba:Int)+(M:Int)+(k:Int))) rfl (fun w a=>by go_simp;rw [IntKind.wrap_i64];omega) ?_;simp only [aa];refine aL [q,q,q,p] ?_
 iterate 4 (refine aM rfl (fun n f=>by first|(go_simp;done)|(have d:=(x.out _ f).1;go_simp;done)) ?_;simp only [aa])
 refine aK ?_;refine bf (.int .i64 ((Ba:Int)+(N:Int))) 118 #[p] rfl (fun w=>by go_simp) (fun w a=>(r.out w a).mono fun e w' h=>⟨h.1,a.trans h.2 J8⟩) ?_;simp only [aa];refine aL [((min ((Ba:Int)+(M:Int)+(k:Int)) ((Ba:Int)+(N:Int))):Int),(((Ba:Int)+(M:Int)):Int),((min ((Ba:Int)+(M:Int)+(k:Int)) ((Ba:Int)+(N:Int))):Int),(0:Int)] ?_
 iterate 4 (refine aM rfl (fun n f=>by go_simp) ?_;simp only [aa])
 refine aK ?_;refine wpQuiet_nil ?_;intro w4 j;have F:=ae (b.out.drew.drew.trans j J8);clear j;go_wp2
 go_ret3
 exact ⟨rfl,F.out⟩
end
section
open Go.RowKit Go.Shelf
def sK(E:Nat->Nat)(Ba W t F n:Nat):Prop:=∀i,i<n->Ai E Ba W (t+i) (F+i)
def G4(E:Nat->Nat)(Ba W t u:Nat)(w:World)(e:Ending)(w':World):Prop:=∃F n:Nat,e= .returned (.tuple #[(F:Int),(n:Int)])/\1<=n/\t+n<=u/\sK E Ba W t F n/\J7 w w'
theorem Dj{lo I:Nat}{w:World}{q W k Ba:Nat}{E:Nat->Nat}(h:fS lo I w q W k E Ba)(O:ee w)(Z:Ba<=1048576)(t u:Nat)(T:Ba<=t)(h2:t<u)(U:u<=Ba+Qc (aw E) 0 W):Calls prog 231 #[q,(t:Int),(u:Int)] w (G4 E Ba W t u w):=by
 obtain ⟨p,q1,q2,Q,z,q5,q6,q7⟩:=h;have X:=ed (E:=E) z.off;have hW:=z.off;have M:=ae (fun w' (hf:J7 w w') b a (H:Ai E Ba W b a)=>pK (z.Qb hf) (aE O hf id) Z b a H);have L:=ae (fun w' (hf:J7 w w')=>(Q.frame hf id).cell 0 rfl);obtain ⟨F,y⟩:=rW T (show t<Ba+Qc (aw E) 0 W by omega);have V:=y.1;have C:Hid (sK E Ba W t F 1):=fun i I=>by
  have S:i=0:=by omega
  rw [S];exact y
 have j:=ae (M.out w (Kb _ w) t F y);have A:=ae (fun b (G:Ba<=b) (ad:b<u)=>rW (E:=E) (W:=W) G (show b<Ba+Qc (aw E) 0 W by omega));have x:=L.out w (Kb _ w);have b1:(t:Int)<(u:Int):=by omega
 have b2:(u:Int)<=2097152:=by omega
 have b3:(F:Int)<=1048576:=by omega
 clear q1 q2 Q z q5 q6 q7 O y U X
 go_enter func231,ntmps231
 go_wp2_with fail
 refine j.out.mono ?_;rintro e w1 ⟨rfl,o⟩;have B:=ae o;clear o x j;go_wp2
 go_loopw [10] (fun p wr=>∃n:Nat,p= .int .i64 n/\1<=n/\t+n<=u/\Hid (sK E Ba W t F n/\J7 w wr)) (fun p _=>(u-intOf p).toNat)
 case atStart=>exact ⟨1,rfl,ag 1,by omega,C.out,B.out⟩
 case round=>
  obtain ⟨n,rfl,s,v,d⟩:=hrel;by_cases K:t+n<u
  ·have r:(t:Int)+(n:Int)<(u:Int):=by omega
   obtain ⟨a,m⟩:=A.out (t+n) (by omega) K;have Y:=m.1;have f:=ae (M.out wr d.out.2 (t+n) a m);rw [show ((t+n:Nat):Int)=(t:Int)+(n:Int) by omega] at f;have x:=L.out wr d.out.2;have b4:(a:Int)<=1048576:=by omega
   by_cases P:a=F+n
   ·have R:Hid (sK E Ba W t F (n+1)):=fun i I=>by
     by_cases J:i=n
     ·subst J;rw [<-P];exact m
     ·exact d.out.1 i (by omega)
    have N:=ae d.out.2;have D:(a:Int)=(F:Int)+(n:Int):=by omega
    clear m d P;go_wp2_with fail
    refine f.out.mono ?_;rintro e w2 ⟨rfl,c⟩;have g:=ae (N.out.trans c J8);clear c x N;go_wp2;go_roundw
    case rel=>exact ⟨n+1,by go_num,by omega,by omega,R.out,g.out⟩
    case measure=>simp [intOf];omega
   ·have D:¬(a:Int)=(F:Int)+(n:Int):=by omega
    have l:=ae d.out;clear m d;go_wp2_with fail
    refine f.out.mono ?_;rintro e w2 ⟨rfl,c⟩;have g:=ae (l.out.2.trans c J8);clear c x;go_wp2;go_ret2;exact ⟨F,n,rfl,s,v,l.out.1,g.out⟩
  ·have r:¬(t:Int)+(n:Int)<(u:Int):=by omega
   have l:=ae d.out;clear d;go_wp2;go_ret2;exact ⟨F,n,rfl,s,v,l.out.1,l.out.2⟩
end
section
open Go.RowKit Go.Shelf
theorem yh:(prog.info? 273).map (fun i=>(i.zero,i.size,i.bytes))=some (some (.agg #[(0:Int),(0:Int),(0:Int)]),3,24):=by kernel_rfl
def io:List (Nat×Nat×Nat)->List Value
 |[]=>[]
 |x::l=> .int .i64 (x.1:Int):: .int .i64 (x.2.1:Int):: .int .i64 (x.2.2:Int)::io l
theorem xP(l:List (Nat×Nat×Nat))(x:Nat×Nat×Nat):io (l++[x])=io l++[.int .i64 (x.1:Int),.int .i64 (x.2.1:Int),.int .i64 (x.2.2:Int)]:=by
 induction l with
 |nil=>rfl
 |cons y l ih=>grind [io]
def pU(E:Nat->Nat)(Ba W:Nat):Nat->List (Nat×Nat×Nat)->Nat->Prop
 |t,[],u=>t=u
 |t,x::l,u=>x.2.1=t/\1<=x.2.2/\sK E Ba W t x.1 x.2.2/\pU E Ba W (t+x.2.2) l u
theorem pU.app{E:Nat->Nat}{Ba W F n:Nat}:∀{t u:Nat} {l:List (Nat×Nat×Nat)},pU E Ba W t l u->1<=n->sK E Ba W u F n->pU E Ba W t (l++[(F,u,n)]) (u+n)
 |t,u,[],h,h1,h2=>by obtain rfl:t=u:=h;exact ⟨rfl,h1,h2,rfl⟩
 |t,u,x::l,⟨q1,q2,q3,q4⟩,h1,h2=>⟨q1,q2,q3,q4.app h1 h2⟩
def zh(E:Nat->Nat)(Ba W t u:Nat)(w:World)(e:Ending)(w':World):Prop:=
 ∃v l,e= .returned (.tuple #[v,(0:Int)])/\w'.ownsRow w.heap.size 273 3 v l.length (io l)/\pU E Ba W t l u/\J7 w w'
theorem Bd{w w1 w2 w3:World}{v a:Value}{l:List (Nat×Nat×Nat)}{x:Nat×Nat×Nat}(e:J7 w w1)(c:w1.ownsRow w.heap.size 273 3 v l.length (io l))(hf:J7 w1 w2)
  (d:w3.ownsRow w.heap.size 273 3 a (l.length+1) (io l++[.int .i64 (x.1:Int),.int .i64 (x.2.1:Int),.int .i64 (x.2.2:Int)])) (hg:w2.grownBy w3 v.ownBlock):
  w3.ownsRow w.heap.size 273 3 a (l++[x]).length (io (l++[x]))/\J7 w w3:=by
 refine ⟨by grind [xP],(e.trans hf J8).trans (Fr.Xd hg) (fun i b=> .inr (c.lt i b).1)⟩
theorem dL{S:Nat->Prop}{w w':World}{Ba:Nat}{e:TypeId}{a:Nat}{v:Value}{n:Nat}{xs:List Value}(h:w.ownsRow Ba e a v n xs)
  (hf:Fr S w w') (c:∀k,v.ownBlock=some k->¬S k):w'.ownsRow Ba e a v n xs:=by
 refine ⟨h.1,?_⟩;rcases h.2 with d|⟨g,cap,cur,rfl,b,hg,r⟩
 ·grind
 ·exact Or.inr ⟨g,cap,cur,rfl,b,hf.heap hg (c g rfl),r⟩
theorem vz{lo I:Nat}{w:World}{q W k Ba:Nat}{E:Nat->Nat}(h:fS lo I w q W k E Ba)(U:ee w)(V:Ba<=1048576)(K:Nat)(G:K<oZ (Qc (aw E) 0 W) k):Calls prog 206 #[q,(K:Int)] w (zh E Ba W (Ba+K*k) (min (Ba+K*k+k) (Ba+Qc (aw E) 0 W)) w):=by
 have b:=ae (rf h V K G);have Z:=ed (E:=E) h.small;have J:1<=k:=let ⟨_,_,_,_,_,_,h,_⟩:=h;h
 have ad:k<=1024:=let ⟨_,_,_,_,_,_,_,h⟩:=h;h
 have H:=xT J G;have m:=ae (fun w' (hf:J7 w w') t (S:Ba<=t) (T:t<min (Ba+K*k+k) (Ba+Qc (aw E) 0 W))=>Dj (h.Qb hf) (aE U hf id) V t (min (Ba+K*k+k) (Ba+Qc (aw E) 0 W)) S T (by omega));obtain ⟨i0,I,N,O,P⟩:=info_parts yh;obtain ⟨s,C⟩:∃s,Ba+K*k=s:=⟨_,rfl⟩;obtain ⟨u,A⟩:∃u,min (Ba+K*k+k) (Ba+Qc (aw E) 0 W)=u:=⟨_,rfl⟩;rw [C] at b A;rw [C,A] at m;rw [A] at b;rw [C,A];have L:s<=u:=by omega
 have aj:Ba<=s:=by omega
 have ak:u<=s+1024:=by omega
 have ah:s<=2097152:=by omega
 clear h U G H C A Z
 go_enter func206,ntmps206
 go_wp2_with fail
 refine b.out.mono ?_;rintro e w1 ⟨rfl,o⟩;have f:=ae o;clear o b;go_wp2
 go_loopw [6,9] (fun p v wr=>∃(t:Nat) (l:List (Nat×Nat×Nat)),p= .int .i64 t/\s<=t/\t<=u/\l.length<=t-s/\Hid (wr.ownsRow w.heap.size 273 3 v l.length (io l)/\pU E Ba W s l t/\J7 w wr)) (fun p _ _=>(u-intOf p).toNat)
 case atStart=>exact ⟨s,[],rfl,ag s,L,by simp,World.ownsRow_nil _ _ _ _,rfl,f.out⟩
 case round=>
  clear f;obtain ⟨t,l,rfl,S,T,h3,a⟩:=hrel;by_cases r:t<u
  ·have y:(t:Int)<(u:Int):=by omega
   have i:=ae (m.out wr a.out.2.2 t (by omega) r);go_wp2_with fail
   refine i.out.mono ?_;rintro e w2 ⟨F,n,rfl,r1,r2,X,Y⟩;have g:=ae (af X Y);clear X Y i;have b1:(t:Int)+(n:Int)<=(u:Int):=by omega
   have b2:(u:Int)<=2098176:=by omega
   go_wp2_with (at_builtin;refine Hid.out ?_)
   unfold Hid;have d:J7 w2 (w2.alloc (.cells #[(F:Int),(t:Int),(n:Int)] 273)):=(Kb _ w2).alloc _;have c:ay (w2.alloc (.cells #[(F:Int),(t:Int),(n:Int)] 273)) w2.heap.size [(F:Int),(t:Int),(n:Int)] 273:=ay.new w2 _ _;have Q:=(a.out.2.2.trans g.out.2 J8).size;refine wpList_append_own _ rfl _ _ 269 rfl w.heap.size 273 i0 _ 3 24 underlying269 I N O P rfl (by decide) _ l.length (io l) rfl (dL (dL a.out.1 g.out.2 (fun _ _ h=>h)) d (fun _ _ h=>h)) ⟨w2.heap.size,0,none⟩ 1 1 [(F:Int),(t:Int),(n:Int)] rfl rfl ?_ ?_ (by unfold maxLen;omega) (by omega) (by simp;omega) ?_
   ·intro j u' hj;have:=c.cell j hj;rwa [show ((⟨w2.heap.size,0,none⟩:Addr).add j)=⟨w2.heap.size,j,none⟩ by unfold Addr.add;split<;>simp_all]
   ·intro u' B;simp only [cG,bF,or_false] at B;rcases B with rfl|rfl|rfl<;>rfl
   ·intro v' w3 z hg _;have R:=ae (Bd (x:=(F,t,n)) a.out.2.2 a.out.1 (g.out.2.trans d J8) z hg);have D:=ae (pU.app a.out.2.1 r1 g.out.1);clear d c Q z hg a g;go_wp2;go_roundw
    case rel=>exact ⟨t+n,l++[(F,t,n)],by go_num,by omega,by omega,by rw [aU,be];omega,R.out.1,D.out,R.out.2⟩
    case measure=>simp [intOf];omega
  ·have M:t=u:=by omega
   subst M;have b:=ae a.out;have y:¬(t:Int)<(t:Int):=by omega
   clear a r;go_wp2;go_ret2;exact ⟨_,l,rfl,b.out.1,b.out.2.1,b.out.2.2⟩
end
theorem rl{w:World}{g cap n:Nat}{c xs:List Value}{e:TypeId}(h:ay w g c e)(d:c.length=cap)(b:n<=cap)(a:cap<=maxLen)(i:c.take n=xs):w.ownsRow 0 e 1 (.slice (some g) n cap) n xs:=by
 have f:xs.length=n:=by grind
 exact ⟨by omega,.inr ⟨g,cap,c.toArray,rfl,ao _,h,b,a,by grind,by grind⟩⟩
theorem nN{w:World}{g cap n:Nat}{xs:List Value}{e:TypeId}(h:w.ownsRow 0 e 1 (.slice (some g) n cap) n xs):∃c,ay w g c e/\c.length=cap/\n<=cap/\cap<=maxLen/\c.take n=xs:=by
 obtain ⟨k,d⟩:=h;rcases d with ⟨b,_⟩|⟨g',a,cur,j,_,hg,i,f,l,m⟩
 ·cases b
 ·cases j
  exact ⟨cur.toList,by unfold ay;omega,by grind,i,f,by grind⟩
theorem jA{w:World}{n:Nat}{v:Value}{xs:List Value}{e:TypeId}(h:w.ownsRow 0 e 1 v n xs)(d:1<=n):∃g cap,v= .slice (some ⟨g,0,none⟩) n cap/\n<=cap/\cap<=9223372036854775807/\g<w.heap.size:=by
 rcases h.2 with ⟨_,a⟩|⟨g,cap,cur,f,_,hg,b,c,_⟩
 ·omega
 grind [maxLen]
theorem nE{w:World}{g cap n j:Nat}{xs:List Value}{e:TypeId}{u:Value}(h:w.ownsRow 0 e 1 (.slice (some g) n cap) n xs)(k:xs[j]? =some u):w.cell? ⟨g,j,none⟩=some u/\w.frozen? ⟨g,j,none⟩=false:=by
 obtain ⟨c,a,b,f,d,i⟩:=nN h;refine ⟨a.cell j ?_,a.free j⟩
 grind
theorem uk{w:World}{g cap n j:Nat}{xs:List Value}{e:TypeId}(u:Value)(h:w.ownsRow 0 e 1 (.slice (some g) n cap) n xs)(i:j<n):(w.setCell ⟨g,j,none⟩ u).ownsRow 0 e 1 (.slice (some g) n cap) n (xs.set j u):=by
 obtain ⟨c,a,f,d,b,k⟩:=nN h;refine rl (a.set j u) (by grind) d b ?_
 grind [List.take_set]
theorem ip{w:World}{v j:Value}{n p s s':Nat}{xs c:List Value}{e i:TypeId}{b k:Nat}(h:w.ownsRow b e s v n xs)(l:w.ownsRow k i s' j p c)(r:e≠i){g:Nat}(hg:v.ownBlock=some g):j.ownBlock≠some g:=by
 intro a;rcases h.2 with ⟨rfl,_⟩|⟨g1,c1,d,rfl,_,m,_⟩
 ·cases hg
 ·rcases l.2 with ⟨rfl,_⟩|⟨q,c2,f,rfl,_,o,_⟩
  ·cases a
  grind [Value.ownBlock]
theorem eQ{w:World}{v:Value}{n s b k:Nat}{xs c:List Value}{e t:TypeId}(h:w.ownsRow b e s v n xs)(f:ay w k c t)(g:e≠t):v.ownBlock≠some k:=by
 intro hg;rcases h.2 with ⟨rfl,_⟩|⟨g1,c1,a,rfl,_,d,_⟩
 ·cases hg
 grind [Value.ownBlock,ay]
structure dl(w:World)(p:Nat)(vw vt vb:Value)(ws:List Nat)(tk:List Bool)(bk:List Nat)(Rm Pg Us Hg:Nat)(Tm:Int):Prop where
 Qd:ay w p [vw,vt,vb,(Rm:Int),(Pg:Int),(Us:Int),(Hg:Int),(Tm:Int)] 211
 rw:w.ownsRow 0 34 1 vw ws.length (eK ws)
 rt:w.ownsRow 0 4 1 vt tk.length (tk.map Value.bool)
 rb:w.ownsRow 0 3 1 vb bk.length (bk.map fun (f:Nat)=>Value.int .i64 f)
 len:ws.length=tk.length*Pg
 lt:∀x∈ws,x<18446744073709551616
 Qc:Us+bk.length=tk.length
 free:∀f∈bk,tk[f]? =some false
 nd:bk.Nodup
 Ye:tk.length<=Rm
 Xs:Rm<=4096
 Qu:1<=Pg
 Qp:Pg<=256
 Qi:Hg<=Rm
def dK(p:Nat)(vw vt vb:Value)(k:Nat):Prop:=k=p\/vw.ownBlock=some k\/vt.ownBlock=some k\/vb.ownBlock=some k
theorem dl.frame{S:Nat->Prop}{w w':World}{p Rm Pg Us Hg:Nat}{f:Int}{e d c:Value}{ws:List Nat}{i:List Bool}{g:List Nat}(h:dl w p e d c ws i g Rm Pg Us Hg f)(hf:Fr S w w')(b:∀k,dK p e d c k->¬S k):dl w' p e d c ws i g Rm Pg Us Hg f:=
 ⟨h.Qd.frame hf (b _ (.inl rfl)),aF h.rw hf (fun k a=>b k (.inr (.inl a))),aF h.rt hf (fun k a=>b k (.inr (.inr (.inl a)))),aF h.rb hf (fun k a=>b k (.inr (.inr (.inr a)))),h.len,h.lt,h.Qc,h.free,h.nd,h.Ye,h.Xs,h.Qu,h.Qp,h.Qi⟩
section
variable{w:World}{p Rm Pg Us Hg:Nat}{Tm:Int}{vw vt vb:Value}{ws:List Nat}{tk:List Bool}{bk:List Nat}
theorem pI(h:dl w p vw vt vb ws tk bk Rm Pg Us Hg Tm):Calls prog 145 #[p] w fun e w'=>e= .returned (Pg:Int)/\w=w':=by
 have c:=h.Qd.cell 4 rfl;clear h
 go_enter func145,ntmps145
 go_wp2;go_ret;exact ⟨rfl,rfl⟩
theorem BT(h:dl w p vw vt vb ws tk bk Rm Pg Us Hg Tm):Calls prog 142 #[p] w fun e w'=>e= .returned (Rm:Int)/\w=w':=by
 have c:=h.Qd.cell 3 rfl;clear h
 go_enter func142,ntmps142
 go_wp2;go_ret;exact ⟨rfl,rfl⟩
theorem BR(h:dl w p vw vt vb ws tk bk Rm Pg Us Hg Tm):Calls prog 143 #[p] w fun e w'=>e= .returned (Us:Int)/\w=w':=by
 have c:=h.Qd.cell 5 rfl;clear h
 go_enter func143,ntmps143
 go_wp2;go_ret;exact ⟨rfl,rfl⟩
theorem tD(h:dl w p vw vt vb ws tk bk Rm Pg Us Hg Tm)(f:Nat)(hf:tk[f]? =some true):Calls prog 196 #[p,(f:Int)] w fun e w'=>e= .returned (0:Int)/\w=w':=by
 have a:=(aj.1 hf).1;obtain ⟨g,cap,rfl,_⟩:=jA h.rt (by omega);have c1:=h.Qd.cell 1 rfl;have c2:=(nE (j:=f) h.rt (by rw [aR,hf];rfl)).1;generalize tk.length=n at*;have b:(f:Int)<(n:Int):=by omega
 clear h hf
 go_enter func196,ntmps196
 go_wp2;go_ret;exact ⟨rfl,rfl⟩
theorem iX{f n Pg:Nat}(hf:f<n):f*Pg+Pg<=n*Pg:=by
 have:=aG Pg hf
 grind
theorem rR{g n cap:Nat}(m:w.cell? p=some (.slice (some g) n cap))(o:w.cell? ⟨p,4,none⟩=some (Pg:Int))(d:1<=Pg)(f:Nat)(c:f*Pg+Pg<=n)(q:n<=cap)(a:cap<=9223372036854775807):Calls prog 212 #[p,(f:Int)] w fun e w'=>e= .returned (.slice (some ⟨g,f*Pg,none⟩) Pg Pg)/\w=w':=by
 have b:(f:Int)*(Pg:Int)=((f*Pg:Nat):Int):=by simp
 generalize f*Pg=F at*;have h:(F:Int)+(Pg:Int)<=(n:Int):=by omega
 have i:(n:Int)<=(cap:Int):=by omega
 have j:(cap:Int)<=9223372036854775807:=by omega
 have k:(1:Int)<=(Pg:Int):=by omega
 have l:(0:Int)<=(F:Int):=by omega
 go_enter func212,ntmps212
 go_wp2;go_ret;exact ⟨by simp,rfl⟩
theorem yP(h:dl w p vw vt vb ws tk bk Rm Pg Us Hg Tm)(f:Nat)(hf:f<tk.length):Calls prog 212 #[p,(f:Int)] w fun e w'=>(∃g cap,vw= .slice (some ⟨g,0,none⟩) ws.length cap/\e= .returned (.slice (some ⟨g,f*Pg,none⟩) Pg Pg))/\w=w':=by
 have i:=iX (Pg:=Pg) hf;have c:=h.len;have b:=h.Qu;obtain ⟨g,cap,rfl,d,a,_⟩:=jA h.rw (by omega);refine (rR (h.Qd.cell 0 rfl) (h.Qd.cell 4 rfl) b f (by omega) d a).mono ?_
 grind
end
theorem tt:(prog.info? 4).map (fun i=>(i.zero,i.size,i.bytes))=some (some (.bool false),1,1):=by kernel_rfl
section
variable{w:World}{p Rm Pg Us Hg:Nat}{Tm:Int}{vw vt vb:Value}{ws:List Nat}{tk:List Bool}{bk:List Nat}
theorem tT{f n Pg i l:Nat}(hf:f<n)(a:i<Pg)(b:l=n*Pg):f*Pg+i<l:=by
 have:=iX (Pg:=Pg) hf;omega
theorem dl.word(h:dl w p vw vt vb ws tk bk Rm Pg Us Hg Tm){f i:Nat}(hf:tk[f]? =some true)(k:i<Pg):∃g cap x,vw= .slice (some ⟨g,0,none⟩) ws.length cap/\ws[f*Pg+i]? =some x/\x<18446744073709551616/\w.cell? ⟨g,f*Pg+i,none⟩=some (.int .u64 x)/\w.frozen? ⟨g,f*Pg+i,none⟩=false:=by
 have a:=(aj.1 hf).1;have b:=tT a k h.len;obtain ⟨x,e⟩:∃x,ws[f*Pg+i]? =some x:=⟨_,aC b⟩;obtain ⟨g,cap,d,_⟩:=jA h.rw (by omega);have c:=h.rw;rw [d] at c;have:=nE c (j:=f*Pg+i) (u:= .int .u64 x) (by grind [eK]);exact ⟨g,cap,x,d,e,h.lt x (ar e),this.1,this.2⟩
theorem wu(h:dl w p vw vt vb ws tk bk Rm Pg Us Hg Tm)(f i:Nat)(hf:tk[f]? =some true)(l:i<Pg):Calls prog 238 #[p,(f:Int),(i:Int)] w fun e w'=>(∃g cap,vw= .slice (some ⟨g,0,none⟩) ws.length cap/\e= .returned (.tuple #[.pointer (some ⟨g,f*Pg+i,none⟩),(0:Int)]))/\w=w':=by
 have c:=ae (tD h f hf);have a:=ae (yP h f (aj.1 hf).1);have k:=h.Qd.cell 4 rfl;have j:(i:Int)<(Pg:Int):=by omega
 clear h hf
 go_enter func238,ntmps238
 go_wp2_with fail
 refine c.out.mono ?_;rintro e w' ⟨rfl,rfl⟩;go_wp2_with fail
 refine a.out.mono ?_;rintro e w' ⟨⟨g,cap,b,rfl⟩,rfl⟩;have d:=ae b;clear b;go_wp2;go_ret2;exact ⟨⟨g,cap,d.out,rfl⟩,rfl⟩
theorem Ev(h:dl w p vw vt vb ws tk bk Rm Pg Us Hg Tm)(f i:Nat)(hf:tk[f]? =some true)(d:i<Pg):Calls prog 219 #[p,(f:Int),(i:Int)] w fun e w'=>e= .returned (.tuple #[.int .u64 ((ws.getD (f*Pg+i) 0:Nat):Int),(0:Int)])/\w=w':=by
 have b:=ae (wu h f i hf d);obtain ⟨g,cap,x,rfl,j,_,l,_⟩:=h.word hf d;have a:ws.getD (f*Pg+i) 0=x:=by rw [bX,j];rfl
 rw [a];clear h hf j a
 go_enter func219,ntmps219
 go_wp2_with fail
 refine b.out.mono ?_;rintro e w' ⟨⟨g',c,k,rfl⟩,rfl⟩
 cases k
 go_wp2;go_ret2;exact ⟨rfl,rfl⟩
theorem dl.stored(h:dl w p vw vt vb ws tk bk Rm Pg Us Hg Tm){f i g cap x:Nat}(hf:tk[f]? =some true)(o:i<Pg)(n:vw= .slice (some g) ws.length cap)(u:x<18446744073709551616):
  dl (w.setCell ⟨g,f*Pg+i,none⟩ (.int .u64 x)) p vw vt vb (ws.set (f*Pg+i) x) tk bk Rm Pg Us Hg Tm/\Fr (fun k=>vw.ownBlock=some k) w (w.setCell ⟨g,f*Pg+i,none⟩ (.int .u64 x)):=by
 have b:=(aj.1 hf).1;have c:=tT b o h.len;have hg:vw.ownBlock=some g:=by rw [n];rfl
 have a:Fr (fun k=>k=g) w (w.setCell ⟨g,f*Pg+i,none⟩ (.int .u64 x)):=(Kb (fun k=>k=g) w).setCell ⟨g,f*Pg+i,none⟩ (.inl rfl) _;have l:=h.rw;rw [n] at l;have m:=uk (.int .u64 x) l c;have r:=ip h.rw h.rt (by decide) hg;have s:=ip h.rw h.rb (by decide) hg;have t:=eQ h.rw h.Qd (by decide);refine ⟨⟨h.Qd.frame a (fun e=>t (by grind)),?_,aF h.rt a (fun k j e=>r (by grind)),aF h.rb a (fun k j e=>s (by grind)),by rw [aW];exact h.len,?_,h.Qc,h.free,h.nd,h.Ye,h.Xs,h.Qu,h.Qp,h.Qi⟩,a.mono (fun k j=> .inl (by grind))⟩
 ·grind [eK,List.map_set]
 ·intro y q;rcases bS q with d|d
  ·exact h.lt y d
  omega
theorem BS(h:dl w p vw vt vb ws tk bk Rm Pg Us Hg Tm)(f i x:Nat)(hf:tk[f]? =some true)(j:i<Pg)(m:x<18446744073709551616):Calls prog 220 #[p,(f:Int),(i:Int),.int .u64 x] w fun e w'=>e= .returned (0:Int)/\dl w' p vw vt vb (ws.set (f*Pg+i) x) tk bk Rm Pg Us Hg Tm/\Fr (fun k=>vw.ownBlock=some k) w w':=by
 have d:=ae (wu h f i hf j);obtain ⟨g,cap,y,c,n,_,q,r⟩:=h.word hf j;have a:=ae (h.stored hf j c m);clear h hf n m
 go_enter func220,ntmps220
 go_wp2_with fail
 refine d.out.mono ?_;rintro e w' ⟨⟨g',l,b,rfl⟩,rfl⟩;rw [c] at b
 cases b
 have o:=ae c;clear c;go_wp2;go_ret;exact ⟨rfl,a.out.1,a.out.2⟩
end
section
variable{w:World}{p Rm Pg Us Hg:Nat}{Tm:Int}{vw vt vb:Value}{ws:List Nat}{tk:List Bool}{bk:List Nat}
theorem dl.give1(h:dl w p vw vt vb ws tk bk Rm Pg Us Hg Tm){f g cap:Nat}(hf:f<tk.length)(j:vt= .slice (some g) tk.length cap)(b:Bool):
  ay (w.setCell ⟨g,f,none⟩ (.bool b)) p [vw,vt,vb,(Rm:Int),(Pg:Int),(Us:Int),(Hg:Int),(Tm:Int)] 211/\
  (w.setCell ⟨g,f,none⟩ (.bool b)).ownsRow 0 34 1 vw ws.length (eK ws)/\(w.setCell ⟨g,f,none⟩ (.bool b)).ownsRow 0 4 1 vt (tk.set f b).length ((tk.set f b).map Value.bool)/\
  (w.setCell ⟨g,f,none⟩ (.bool b)).ownsRow 0 3 1 vb bk.length (bk.map fun (f:Nat)=>Value.int .i64 f)/\Fr (fun k=>vt.ownBlock=some k) w (w.setCell ⟨g,f,none⟩ (.bool b)):=by
 have hg:vt.ownBlock=some g:=by rw [j];rfl
 have a:Fr (fun k=>k=g) w (w.setCell ⟨g,f,none⟩ (.bool b)):=(Kb (fun k=>k=g) w).setCell ⟨g,f,none⟩ (.inl rfl) _;have d:=h.rt;rw [j] at d;have i:=uk (.bool b) d hf;have l:=ip h.rt h.rw (by decide) hg;have m:=ip h.rt h.rb (by decide) hg;have n:=eQ h.rt h.Qd (by decide);refine ⟨h.Qd.frame a (fun e=>n (by grind)),aF h.rw a (fun k c e=>l (by grind)),?_,aF h.rb a (fun k c e=>m (by grind)),a.mono (fun k c=> .inl (by grind))⟩;simp_all
def Fj(w:World)(p:Nat)(vw vt vb:Value)(ws:List Nat)(tk:List Bool)(bk:List Nat)(Rm Pg Us Hg:Nat)(Tm:Int)(f:Nat)(e:Ending)(w':World):Prop:=
 e= .returned (0:Int)/\∃vb',dl w' p vw vt vb' ws (tk.set f false) (bk++[f]) Rm Pg (Us-1) Hg Tm/\Fr (dK p vw vt vb) w w'/\∀g,vb'.ownBlock=some g->vb.ownBlock=some g\/w.heap.size<=g
theorem Es{tk:List Bool}{f g:Nat}(h:tk[g]? =some false):(tk.set f false)[g]? =some false:=by
 grind
theorem dl.give2{w1 w2 w3 W:World}{f g cap:Nat}(h:dl w p vw vt vb ws tk bk Rm Pg Us Hg Tm)(hf:tk[f]? =some true)(F:1<=Us)
  (d:ay w1 p [vw,vt,vb,(Rm:Int),(Pg:Int),(Us:Int),(Hg:Int),(Tm:Int)] 211)
  (r:w1.ownsRow 0 34 1 vw ws.length (eK ws)) (o:w1.ownsRow 0 4 1 vt (tk.set f false).length ((tk.set f false).map Value.bool)) (n:w1.ownsRow 0 3 1 vb bk.length (bk.map fun (f:Nat)=>Value.int .i64 f)) (s:Fr (fun k=>vt.ownBlock=some k) w w1)
  (j:J7 w1 w2) (E:w3.ownsRow 0 3 1 (.slice (some g) (bk.length+1) cap) (bk.length+1) ((bk.map fun (f:Nat)=>Value.int .i64 f)++[.int .i64 f])) (m:Fr (fun k=>vb.ownBlock=some k) w2 w3) (hg:vb.ownBlock=some g\/w2.heap.size<=g):
  ay w3 p [vw,vt,vb,(Rm:Int),(Pg:Int),(Us:Int),(Hg:Int),(Tm:Int)] 211/\
  ∀W,W=(w3.setCell ⟨p,2,none⟩ (.slice (some g) (bk.length+1) cap)).setCell ⟨p,5,none⟩ (.int .i64 ((Us:Int)-1))->
   dl W p vw vt (.slice (some g) (bk.length+1) cap) ws (tk.set f false) (bk++[f]) Rm Pg (Us-1) Hg Tm/\Fr (dK p vw vt vb) w W/\∀g',(Value.slice (some g) (bk.length+1) cap).ownBlock=some g'->vb.ownBlock=some g'\/w.heap.size<=g':=by
 have u:=(aj.1 hf).1;have C:=eQ n d (by decide);have nw:∀k,vw.ownBlock=some k->vb.ownBlock≠some k:=fun k c=>ip r n (by decide) c
 have D:∀k,vt.ownBlock=some k->vb.ownBlock≠some k:=fun k c=>ip o n (by decide) c
 have l:=(d.frame j id).frame m C;refine ⟨l,?_⟩;rintro W rfl;have y:=s.size;have z:=j.size;have x:=d.lt;have v:g≠p:=fun e=>by
  grind
 have i:Fr (fun k=>k=p) w3 ((w3.setCell ⟨p,2,none⟩ (.slice (some g) (bk.length+1) cap)).setCell ⟨p,5,none⟩ (.int .i64 ((Us:Int)-1))):=((Kb (fun k=>k=p) w3).setCell ⟨p,2,none⟩ (.inl rfl) _).setCell ⟨p,5,none⟩ (.inl rfl) _;have B:=eQ r d (by decide);have A:=eQ o d (by decide);have q:((Us-1:Nat):Int)=(Us:Int)-1:=by omega
 refine ⟨⟨?_,?_,?_,?_,by rw [aW];exact h.len,h.lt,?_,?_,?_,by rw [aW];exact h.Ye,h.Xs,h.Qu,h.Qp,h.Qi⟩,?_,?_⟩
 ·rw [q];exact (l.set 2 _).set 5 _
 ·exact aF (aF (aF r j (fun _ _ h=>h)) m nw) i (fun k c e=>B (by grind))
 ·exact aF (aF (aF o j (fun _ _ h=>h)) m D) i (fun k c e=>A (by grind))
 ·grind [aF,Value.ownBlock]
 ·have:=h.Qc
  grind
 ·intro k c;rcases eI.1 c with c|c
  ·exact Es (h.free k c)
  grind
 ·rw [iw];refine ⟨h.nd,by simp,?_⟩;intro a t b d e;rw [dc] at d;subst d;subst e;have:=h.free a t
  grind
 ·exact (((s.mono (S':=dK p vw vt vb) (fun k c=> .inl (.inr (.inr (.inl c))))).trans j J8).trans m (fun k c=> .inl (.inr (.inr (.inr c))))).trans i (fun k c=> .inl (.inl c))
 grind [Value.ownBlock]
theorem EF(h:dl w p vw vt vb ws tk bk Rm Pg Us Hg Tm)(f:Nat)(hf:tk[f]? =some true)(U:1<=Us):Calls prog 166 #[p,(f:Int)] w (Fj w p vw vt vb ws tk bk Rm Pg Us Hg Tm f):=by
 have C:=ae (tD h f hf);have k:=(aj.1 hf).1;obtain ⟨g,cap,r,_⟩:=jA h.rt (by omega);obtain ⟨X,Q,z,A,B⟩:=info_parts jE;have c1:=h.Qd.cell 1 rfl;have c:=h.rt;rw [r] at c c1;have c2:=(nE (j:=f) c (by rw [aR,hf];rfl)).1;have I:=(nE (j:=f) c (by rw [aR,hf];rfl)).2;have s:=ae (h.give1 k r false);have G:=ae (fun w1 w2 w3 g cap N V T c K L q M hg=>dl.give2 (w1:=w1) (w2:=w2) (w3:=w3) (W:=w3) (g:=g) (cap:=cap) h hf U N V T c K L q M hg);have P:=h.Qc;have R:=h.Ye;have y:=h.Xs;have O:bk.length<=4096:=by omega
 generalize S:tk.length=n at*;have Z:(f:Int)<(n:Int):=by omega
 have b2:(1:Int)<=(Us:Int):=by omega
 have b3:(Us:Int)<=4096:=by omega
 have Y:=ae r;clear h hf c P R y k r S
 go_enter func166,ntmps166
 go_wp2_with fail
 refine C.out.mono ?_;rintro e w' ⟨rfl,rfl⟩
 go_upto_region 5 with fail
 obtain ⟨w1,m⟩:∃w1,w.setCell ⟨g,f,none⟩ (.bool false)=w1:=⟨_,rfl⟩;rw [m] at s ⊢;obtain ⟨t,D,E,u,v⟩:=s.out;have J:=t.cell 2 rfl;have hz:=v.size;have d:=ae (af t (af D (af E (af u v))));clear t D E v s m c1 c2 I C;go_wp2_with (at_builtin;refine Hid.out ?_)
 unfold Hid;have b:J7 w1 (w1.alloc (.cells #[(f:Int)] 3)):=(Kb _ w1).alloc _;refine eJ rfl _ _ 65 rfl 3 X (.int .i64 0) 8 underlying65 Q z A B rfl vb bk.length _ rfl (aF u b (fun _ _ h=>h)) ⟨w1.heap.size,0,none⟩ _ (.int .i64 f) rfl ((ay.new w1 [(f:Int)] 3).cell 0 rfl) rfl (by unfold maxLen;omega) (by omega) ?_;intro x a w3 q i l;obtain ⟨o,F⟩:=G.out w1 _ w3 x a d.out.1 d.out.2.1 d.out.2.2.1 d.out.2.2.2.1 d.out.2.2.2.2 b q i l;have d2:=o.cell 2 rfl;have e2:=o.free 2;have d5:=(o.set 2 (.slice (some x) (bk.length+1) a)).cell 5 rfl;have e5:=(o.set 2 (.slice (some x) (bk.length+1) a)).free 5;have H:=ae F;clear b q i l u o F J;go_wp2;go_ret;exact ⟨rfl,_,H.out _ rfl⟩
end
section
variable{w:World}{p Rm Pg Us Hg:Nat}{Tm:Int}{vw vt vb:Value}{ws:List Nat}{tk:List Bool}{bk:List Nat}
structure qM(w w':World)(p:Nat)(vw vt vb:Value)(ws:List Nat)(tk:List Bool)(Rm Pg Us Hg:Nat)(Tm:Int)(f:Nat)(vw' vt' vb':Value)(ws':List Nat)(tk':List Bool)(bk':List Nat):Prop where
 Qd:ay w' p [vw',vt',vb',(Rm:Int),(Pg:Int),(Us:Int),(Hg:Int),(Tm:Int)] 211
 rw:w'.ownsRow 0 34 1 vw' ws'.length (eK ws')
 rt:w'.ownsRow 0 4 1 vt' tk'.length (tk'.map Value.bool)
 rb:w'.ownsRow 0 3 1 vb' bk'.length (bk'.map fun (f:Nat)=>Value.int .i64 f)
 len:ws'.length=tk'.length*Pg
 lt:∀x∈ws',x<18446744073709551616
 Qc:Us+1+bk'.length=tk'.length
 free:∀g∈bk',tk'[g]? =some false
 nd:bk'.Nodup
 Ye:tk'.length<=Rm
 new:f∉bk'
 none:tk'[f]? =some false
 Xo:∀g,tk[g]? =some true->tk'[g]? =some true/\g≠f/\∀i,i<Pg->ws'.getD (g*Pg+i) 0=ws.getD (g*Pg+i) 0
 was:tk[f]? ≠some true
 fr:Fr (dK p vw vt vb) w w'
 own:∀g,dK p vw' vt' vb' g->dK p vw vt vb g\/w.heap.size<=g
def qe(w:World)(p:Nat)(vw vt vb:Value)(ws:List Nat)(tk:List Bool)(Rm Pg Us Hg:Nat)(Tm:Int)(e:Ending)(w':World):Prop:=
 ∃f vw' vt' vb' ws' tk' bk',e= .returned (.int .i64 ((f:Nat):Int))/\qM w w' p vw vt vb ws tk Rm Pg Us Hg Tm f vw' vt' vb' ws' tk' bk'
theorem yF{w1:World}{f g cap:Nat}{a:List Nat}(h:dl w p vw vt (.slice (some g) (a.length+1) cap) ws tk (a++[f]) Rm Pg Us Hg Tm)(l:w1=w.setCell ⟨p,2,none⟩ (.slice (some g) a.length cap)):
  qM w w1 p vw vt (.slice (some g) (a.length+1) cap) ws tk Rm Pg Us Hg Tm f vw vt (.slice (some g) a.length cap) ws tk a:=by
 have b:Fr (fun k=>k=p) w w1:=by rw [l];exact (Kb (fun k=>k=p) w).setCell ⟨p,2,none⟩ (.inl rfl) _
 have nw:=eQ h.rw h.Qd (by decide);have o:=eQ h.rt h.Qd (by decide);have n:=eQ h.rb h.Qd (by decide);have c:=h.nd;rw [iw] at c;have j:=h.rb;rw [aU,be,dd,nQ] at j;have i:=h.free f (by simp);refine ⟨by rw [l];exact h.Qd.set 2 _,aF h.rw b (fun k d e=>nw (by grind)),aF h.rt b (fun k d e=>o (by grind)),aF (kL j).1 b (fun k d e=>n (by grind [Value.ownBlock])),h.len,h.lt,?_,fun g' m=>h.free g' (by grind),c.1,h.Ye,?_,i,?_,by grind,b.mono (fun k d=> .inl (.inl d)),?_⟩
 ·have:=h.Qc;grind
 ·grind
 ·grind
 ·rintro k (h|h|h|h)
  ·exact .inl (.inl h)
  ·exact .inl (.inr (.inl h))
  ·exact .inl (.inr (.inr (.inl h)))
  ·exact .inl (.inr (.inr (.inr h)))
theorem wA(h:dl w p vw vt vb ws tk bk Rm Pg Us Hg Tm)(c:bk≠[]):Calls prog 211 #[p] w (qe w p vw vt vb ws tk Rm Pg Us Hg Tm):=by
 obtain ⟨a,f,rfl⟩:∃l x,bk=l++[x]:=⟨_,_,(List.dropLast_concat_getLast c).symm⟩;have d:(a++[f]).length=a.length+1:=by simp
 have b:=h.rb;rw [d] at b;obtain ⟨g,cap,rfl,i,j,_⟩:=jA b (by omega);rw [dd,nQ] at b;have c2:=h.Qd.cell 2 rfl;have r:=h.Qd.free 2;have q:=(kL b).2;have e:=ae (fun w1 k=>yF (w1:=w1) h k);generalize a.length=n at*;have m:(n:Int)+1<=(cap:Int):=by omega
 have o:(cap:Int)<=9223372036854775807:=by omega
 clear h c d b
 go_enter func211,ntmps211
 go_wp2;go_ret;exact ⟨f,_,_,_,_,_,_,rfl,e.out _ rfl⟩
theorem BY{w1 w2:World}{g1 cap1:Nat}(h:dl w p vw vt vb ws tk [] Rm Pg Us Hg Tm)(E:Us<Rm)
  (d:J7 w w1) (B:w2.ownsRow 0 4 1 (.slice (some g1) (tk.length+1) cap1) (tk.length+1) (tk.map Value.bool++[.bool false])) (c:Fr (fun k=>vt.ownBlock=some k) w1 w2) (t:vt.ownBlock=some g1\/w1.heap.size<=g1):
  ay w2 p [vw,vt,vb,(Rm:Int),(Pg:Int),(Us:Int),(Hg:Int),(Tm:Int)] 211/\
  ∀w3,w3=w2.setCell ⟨p,1,none⟩ (.slice (some g1) (tk.length+1) cap1)->
   ay w3 p [vw,.slice (some g1) (tk.length+1) cap1,vb,(Rm:Int),(Pg:Int),(Us:Int),(Hg:Int),(Tm:Int)] 211/\w3.ownsRow 0 34 1 vw ws.length (eK ws)/\
   ∀w4 l b,w4.ownsRow 0 34 1 (.slice (some ⟨l,0,none⟩) (ws.length+Pg) b) (ws.length+Pg) (eK ws++List.replicate Pg (.int .u64 0))->Fr (fun k=>vw.ownBlock=some k) w3.drew w4->(vw.ownBlock=some l\/w3.heap.size<=l)->
    ay w4 p [vw,.slice (some g1) (tk.length+1) cap1,vb,(Rm:Int),(Pg:Int),(Us:Int),(Hg:Int),(Tm:Int)] 211/\
    ∀W,W=w4.setCell p (.slice (some l) (ws.length+Pg) b)->
     qM w W p vw vt vb ws tk Rm Pg Us Hg Tm tk.length (.slice (some l) (ws.length+Pg) b) (.slice (some g1) (tk.length+1) cap1) vb (ws++List.replicate Pg 0) (tk++[false]) []:=by
 have N:=eQ h.rt h.Qd (by decide);have nw:=eQ h.rw h.Qd (by decide);have I:=eQ h.rb h.Qd (by decide);have P:∀k,vw.ownBlock=some k->vt.ownBlock≠some k:=fun k a=>ip h.rw h.rt (by decide) a
 have tb:∀k,vb.ownBlock=some k->vt.ownBlock≠some k:=fun k a=>ip h.rb h.rt (by decide) a
 have wb:∀k,vb.ownBlock=some k->vw.ownBlock≠some k:=fun k a=>ip h.rb h.rw (by decide) a
 have K:=d.size;have L:=c.size;have q:=(h.Qd.frame d id).frame c N;refine ⟨q,?_⟩;rintro w3 rfl;have f:Fr (fun k=>k=p) w2 (w2.setCell ⟨p,1,none⟩ (.slice (some g1) (tk.length+1) cap1)):=(Kb (fun k=>k=p) w2).setCell ⟨p,1,none⟩ (.inl rfl) _;have g:=q.set 1 (.slice (some g1) (tk.length+1) cap1);have o:=aF (aF (aF h.rw d (fun _ _ h=>h)) c P) f (fun k a e=>nw (by grind));have D:=aF (aF (aF h.rb d (fun _ _ h=>h)) c tb) f (fun k a e=>I (by grind));have m:g1≠p:=fun e=>by
  rcases t with hg|hg
  ·grind
  ·have:=h.Qd.lt;omega
 have y:=aF B f (fun k a e=>m (by grind [Value.ownBlock]));have M:=f.size;refine ⟨g,o,?_⟩;intro w4 l b C i A;have F:=eQ o g (by decide);have r:=g.drew.frame i F;refine ⟨r,?_⟩;rintro W rfl;have j:Fr (fun k=>k=p) w4 (w4.setCell p (.slice (some l) (ws.length+Pg) b)):=(Kb (fun k=>k=p) w4).setCell p (.inl rfl) _;have J:=g.lt;have u:l≠p:=fun e=>by
  grind
 have O:∀k,(Value.slice (some g1) (tk.length+1) cap1).ownBlock=some k->vw.ownBlock≠some k:=fun k a=>ip y o (by decide) a
 have G:∀{e:TypeId} {v:Value} {n:Nat} {xs:List Value},(w2.setCell ⟨p,1,none⟩ (.slice (some g1) (tk.length+1) cap1)).ownsRow 0 e 1 v n xs->(w2.setCell ⟨p,1,none⟩ (.slice (some g1) (tk.length+1) cap1)).drew.ownsRow 0 e 1 v n xs:=fun h=>h
 have s:=h.Qc;rw [cB] at s;have H:=h.len;refine ⟨r.set 0 _,?_,?_,?_,?_,?_,?_,by simp,by simp,?_,by simp,by simp,?_,by simp,?_,?_⟩
 ·have:=aF C j (fun k a e=>u (by grind [Value.ownBlock]))
  grind [eK,List.map_replicate]
 ·have:=aF (aF (G y) i O) j (fun k a e=>m (by grind [Value.ownBlock]))
  grind
 ·exact aF (aF (G D) i wb) j (fun k a e=>I (by grind))
 ·grind
 ·intro x z;rcases eI.1 z with z|z
  ·exact h.lt x z
  grind
 ·grind
 ·grind
 ·grind
 ·exact (((((d.mono (S':=dK p vw vt vb) J8).trans c (fun k a=> .inl (.inr (.inr (.inl a))))).trans f (fun k a=> .inl (.inl a))).drew).trans i (fun k a=> .inl (.inr (.inl a)))).trans j (fun k a=> .inl (.inl a))
 ·rintro k (a|a|a|a)
  ·exact .inl (.inl a)
  ·simp only [Value.ownBlock,aT] at a;subst a;rcases A with hg|hg
   ·exact .inl (.inr (.inl hg))
   omega
  ·simp only [Value.ownBlock,aT] at a;subst a;rcases t with hg|hg
   ·exact .inl (.inr (.inr (.inl hg)))
   omega
  ·exact .inl (.inr (.inr (.inr a)))
theorem yN(h:dl w p vw vt vb ws tk [] Rm Pg Us Hg Tm)(o:Us<Rm):Calls prog 211 #[p] w (qe w p vw vt vb ws tk Rm Pg Us Hg Tm):=by
 obtain ⟨pb,cb,rfl⟩:=fJ h.rb;obtain ⟨pt,S,rfl⟩:=fJ h.rt;obtain ⟨i0,V,D,E,F⟩:=info_parts tt;obtain ⟨M,L,t,u,x⟩:=info_parts oD;have c1:=h.Qd.cell 1 rfl;have c2:=h.Qd.cell 2 rfl;have m:=h.Qc;have X:=h.Xs;have W:=h.Qu;have C:=h.Qp;have n:=h.len;rw [cB] at m;have s:=h.rt;have I:=ae (fun w1 w2 g1 cap1 d k g j=>BY (w1:=w1) (w2:=w2) (g1:=g1) (cap1:=cap1) h o d k g j);have Z:ws.length+Pg<=1048576:=by
  rw [n];have:tk.length*Pg+Pg<=4096*Pg:=by rw [<-dh];exact aG Pg (by omega)
  have:4096*Pg<=4096*256:=cg _ C;omega
 have Y:tk.length<=4096:=by omega
 clear h n m
 go_enter func211,ntmps211
 go_wp2_with (at_builtin;refine Hid.out ?_)
 unfold Hid;have d:J7 w (w.alloc (.cells #[.bool false] 4)):=(Kb _ w).alloc _;refine eJ rfl _ _ 173 rfl 4 i0 (.bool false) 1 underlying173 V D E F rfl (.slice pt tk.length S) tk.length _ rfl (aF s d (fun _ _ h=>h)) ⟨w.heap.size,0,none⟩ _ (.bool false) rfl ((ay.new w [.bool false] 4).cell 0 rfl) rfl (by unfold maxLen;omega) (by omega) ?_;intro g1 cap1 w2 k g j;obtain ⟨G,P⟩:=I.out _ w2 g1 cap1 d k g j;have T:=G.cell 1 rfl;have U:=G.free 1;have J:=ae P;clear d k g j G P I c1 c2 s
 go_upto_region 8 with fail
 obtain ⟨w3,q⟩:∃w3,w2.setCell ⟨p,1,none⟩ (.slice (some g1) (tk.length+1) cap1)=w3:=⟨_,rfl⟩;rw [q];obtain ⟨H,Q,R⟩:=J.out w3 q.symm;have N:w3.drew.cell? p=some vw:=H.drew.cell 0 rfl;have O:w3.drew.cell? ⟨p,4,none⟩=some (Pg:Int):=H.drew.cell 4 rfl;have l:w3.drew.ownsRow 0 34 1 vw ws.length (eK ws):=Q;have z:=ae R;clear T U J q H Q R;refine wp_region_any (by kernel_rfl) ?_;change wpAny _ _ _ _ _ _ _ (World.drew _);refine Ka 0 p rfl (by kernel_rfl) (fun _ _ _ h=>h) (ej ⟨by rfl,fun w=>by go_simp⟩) ?_;refine Ka 1 p rfl (by kernel_rfl) (fun _ _ _ h=>h) (ej ⟨by rfl,fun w=>by go_simp⟩) ?_;refine Ka 2 p rfl (by kernel_rfl) (fun _ _ _ h=>h) (ej ⟨by rfl,fun w=>by go_simp⟩) ?_;refine Ka 3 p rfl (by kernel_rfl) (fun _ _ _ h=>h) (ej ⟨by rfl,fun w=>by go_simp⟩) ?_;refine Ka 5 p rfl (by kernel_rfl) (fun _ _ _ h=>h) (ej ⟨by rfl,fun w=>by go_simp⟩) ?_;refine Ka 6 p rfl (by kernel_rfl) (fun _ _ _ h=>h) (ej ⟨by rfl,fun w=>by go_simp⟩) ?_;refine Ka 7 (.pointer (some ⟨p,4,none⟩)) rfl (by kernel_rfl) (fun _ _ _ h=>h) (ej ⟨by rfl,fun w=>by go_simp⟩) ?_;simp only [Act.put];refine wpAny_ready (rs:=[4,8]) (by kernel_rfl) (by simp) ?_;refine AllReady.cons rfl (fun K a=> ?_) (AllReady.cons rfl (fun K a=> ?_) AllReady.nil)
 ·go_simp;refine a _ _ ?_;clear a K;refine J9 8 (by kernel_rfl) rfl fun K a=> ?_;go_simp;refine a _ _ ?_;clear a K;refine J9 9 (by kernel_rfl) rfl fun K a=> ?_;refine jQ rfl _ _ 25 3 rfl 34 M (.int .u64 0) .i64 8 underlying25 underlying3 L t u x rfl rfl vw ws.length _ rfl l Pg rfl (by omega) (by unfold maxLen;omega) (by omega) ?_;intro B b w4 f c e;obtain ⟨r,y⟩:=z.out w4 B b f c e;have k5:=r.cell 0 rfl;have k6:=r.free 0;have A:=ae y;clear f c e r y z N O l;refine a _ _ ?_;clear a K;refine J9 10 (by kernel_rfl) rfl fun K a=> ?_;go_simp;refine a _ _ ?_;clear a K;refine J9 11 (by kernel_rfl) rfl fun K a=> ?_;go_simp;refine a _ _ ?_;clear a K;refine J9 12 (by kernel_rfl) rfl fun K a=> ?_;go_simp;refine a _ _ ?_;clear a K;refine wpAny_done (by kernel_rfl) ?_ _;go_wp2;go_ret;exact ⟨tk.length,_,_,_,_,_,_,rfl,A.out _ rfl⟩
 ·go_simp;refine a _ _ ?_;clear a K;refine J9 4 (by kernel_rfl) rfl fun K a=> ?_;go_simp;refine a _ _ ?_;clear a K;refine J9 9 (by kernel_rfl) rfl fun K a=> ?_;refine jQ rfl _ _ 25 3 rfl 34 M (.int .u64 0) .i64 8 underlying25 underlying3 L t u x rfl rfl vw ws.length _ rfl l Pg rfl (by omega) (by unfold maxLen;omega) (by omega) ?_;intro B b w4 f c e;obtain ⟨r,y⟩:=z.out w4 B b f c e;have k5:=r.cell 0 rfl;have k6:=r.free 0;have A:=ae y;clear f c e r y z N O l;refine a _ _ ?_;clear a K;refine J9 10 (by kernel_rfl) rfl fun K a=> ?_;go_simp;refine a _ _ ?_;clear a K;refine J9 11 (by kernel_rfl) rfl fun K a=> ?_;go_simp;refine a _ _ ?_;clear a K;refine J9 12 (by kernel_rfl) rfl fun K a=> ?_;go_simp;refine a _ _ ?_;clear a K;refine wpAny_done (by kernel_rfl) ?_ _;go_wp2;go_ret;exact ⟨tk.length,_,_,_,_,_,_,rfl,A.out _ rfl⟩
end
theorem tS{P:Program}{w:World}{b:Array Oper}{rest:List Oper}{o:Oper}{a:Act}{Q:Exit->Act->World->Prop}(c:o.guard=none)(s:Operand)(t:TypeId)
  (e:o.op= .call {callee:= .builtin .clear,args:= #[s],argTypes:= #[t]})
  (H:∃w',(Builtin.clear_ #[t] o.type #[a.eval s]).run P w= .ok (.tuple #[]) w'/\wpList P b Q rest (a.put o.dst (.tuple #[])) w'):wpList P b Q (o::rest) a w:=by
 obtain ⟨w',f,h⟩:=H;refine wpList_plain c fun K d=> ?_
 unfold Oper.wp execOp;simp only [e,resolve,invoke,builtin,Sem.run_bind,Sem.run_pure,Result.andThen_ok,kB,gD,kY,f];exact d _ _ h
theorem Fr.setCells{S:Nat->Prop}{a:World}{g:Nat}(hp:S g\/a.heap.size<=g):∀(vs:List Value) (o:Nat) {w:World},Fr S a w->Fr S a (w.setCells g o vs)
 |[],_,_,h=>h
 |v::r,o,_,h=>Fr.setCells hp r (o+1) (h.setCell ⟨g,o,none⟩ hp v)
theorem ay.setCells{b:Nat}{t:TypeId}:∀(vs:List Value) (a c:List Value) {w:World},ay w b (a++c) t->vs.length<=c.length->ay (w.setCells b a.length vs) b (a++(vs++c.drop vs.length)) t
 |[],a,c,_,h,_=>by grind [World.setCells]
 |v::r,a,[],_,_,hl=>by grind
 |v::r,a,s::c,w,h,hl=>by
  have f:ay (w.setCell ⟨b,a.length,none⟩ v) b ((a++[v])++c) t:=by
   have:=h.set a.length v
   grind
  have d:=ay.setCells r (a++[v]) c f (by grind);rw [show (a++[v]).length=a.length+1 by simp] at d;have e:a++(v::r++(s::c).drop (v::r).length)=a++[v]++(r++c.drop r.length):=by simp
  rw [e];exact d
theorem uj{w:World}{g cap n o:Nat}{xs:List Value}{e:TypeId}(vs:List Value)(h:w.ownsRow 0 e 1 (.slice (some g) n cap) n xs)(k:o+vs.length<=n):(w.setCells g o vs).ownsRow 0 e 1 (.slice (some g) n cap) n (xs.take o++vs++xs.drop (o+vs.length)):=by
 obtain ⟨c,d,j,i,f,l⟩:=nN h;have b:(c.take o).length=o:=by grind
 have a:=ay.setCells vs (c.take o) (c.drop o) (by rw [dU];exact d) (by grind);rw [b] at a;refine rl a (by grind) i f ?_
 grind [List.take_append,List.take_of_length_le,List.drop_drop,List.drop_take]
theorem En{xs vs:List Nat}{o k:Nat}(b:o+vs.length<=xs.length)(a:k<o\/o+vs.length<=k):(xs.take o++vs++xs.drop (o+vs.length)).getD k 0=xs.getD k 0:=by
 grind
section
variable{w:World}{p Rm Pg Us Hg:Nat}{Tm:Int}{vw vt vb:Value}{ws:List Nat}{tk:List Bool}{bk:List Nat}
structure sm(w w':World)(p:Nat)(vw vt vb:Value)(ws:List Nat)(tk:List Bool)(Rm Pg Us:Nat)(f:Nat)(vw' vt' vb':Value)(ws':List Nat)(tk':List Bool)(bk':List Nat)(Hg':Nat)(times':Int):Prop where
 pool:dl w' p vw' vt' vb' ws' tk' bk' Rm Pg (Us+1) Hg' times'
 now:tk'[f]? =some true
 was:tk[f]? ≠some true
 Xo:∀g,tk[g]? =some true->tk'[g]? =some true/\∀i,i<Pg->ws'.getD (g*Pg+i) 0=ws.getD (g*Pg+i) 0
 fr:Fr (dK p vw vt vb) w w'
 own:∀g,dK p vw' vt' vb' g->dK p vw vt vb g\/w.heap.size<=g
def sj(w:World)(p:Nat)(vw vt vb:Value)(ws:List Nat)(tk:List Bool)(Rm Pg Us:Nat)(e:Ending)(w':World):Prop:=
 ∃f vw' vt' vb' ws' tk' bk' Hg' times',e= .returned (.tuple #[(((f:Nat):Int):Int),(0:Int)])/\sm w w' p vw vt vb ws tk Rm Pg Us f vw' vt' vb' ws' tk' bk' Hg' times'
theorem CQ{w1:World}{f g cap t Z:Nat}{d c s:Value}{a:List Nat}{r:List Bool}{E:List Nat}(h:qM w w1 p vw vt vb ws tk Rm Pg Us Hg Tm f d c s a r E)
  (D:d= .slice (some g) a.length cap) (C:c= .slice (some t) r.length Z):
  ∀w2,w2=w1.setCells g (f*Pg) (List.replicate Pg (.int .u64 0))->w2.cell? ⟨p,1,none⟩=some c/\w2.cell? ⟨t,f,none⟩=some (.bool false)/\w2.frozen? ⟨t,f,none⟩=false/\
   ∀w3,w3=w2.setCell ⟨t,f,none⟩ (.bool true)->ay w3 p [d,c,s,(Rm:Int),(Pg:Int),(Us:Int),(Hg:Int),(Tm:Int)] 211/\
    ∀W v b,v<=Rm->Us<Rm->Rm<=4096->1<=Pg->Pg<=256->ay W p [d,c,s,(Rm:Int),(Pg:Int),(((Us:Int)+1):Int),((v:Int):Int),(b:Int)] 211->Fr (fun k=>k=p) w3 W->
     sm w W p vw vt vb ws tk Rm Pg Us f d c s (a.take (f*Pg)++List.replicate Pg 0++a.drop (f*Pg+Pg)) (r.set f true) E v b:=by
 rintro w2 rfl;have G:=(aj.1 h.none).1;have K:=iX (Pg:=Pg) G;rw [<-h.len] at K;have hg:d.ownBlock=some g:=by rw [D];rfl
 have m:c.ownBlock=some t:=by rw [C];rfl
 have nt:=ip h.rw h.rt (by decide) hg;have nb:=ip h.rw h.rb (by decide) hg;have Y:=eQ h.rw h.Qd (by decide);have tp:=eQ h.rt h.Qd (by decide);have tb:=ip h.rt h.rb (by decide) m;have tw:=ip h.rt h.rw (by decide) m;have y:Fr (fun k=>k=g) w1 (w1.setCells g (f*Pg) (List.replicate Pg (.int .u64 0))):=Fr.setCells (S:=fun k=>k=g) (.inl rfl) _ _ (Kb _ w1);have F:=h.Qd.frame y (fun e=>Y (by grind));have R:=aF h.rt y (fun k l e=>nt (by grind));have O:=aF h.rb y (fun k l e=>nb (by grind));have I:=h.rw;rw [D] at I;have U:=uj (o:=f*Pg) (List.replicate Pg (.int .u64 0)) I (by grind);rw [<-D,bB] at U;have L:(a.take (f*Pg)++List.replicate Pg 0++a.drop (f*Pg+Pg)).length=a.length:=by
  grind
 have J:(w1.setCells g (f*Pg) (List.replicate Pg (.int .u64 0))).ownsRow 0 34 1 d (a.take (f*Pg)++List.replicate Pg 0++a.drop (f*Pg+Pg)).length (eK (a.take (f*Pg)++List.replicate Pg 0++a.drop (f*Pg+Pg))):=by
  grind [eK,List.map_take,List.map_drop,List.map_replicate]
 have q:=R;rw [C] at q;have X:=nE (j:=f) (u:= .bool false) q (by rw [aR,h.none];rfl);refine ⟨F.cell 1 rfl,X.1,X.2,?_⟩;rintro w3 rfl;have z:Fr (fun k=>k=t) (w1.setCells g (f*Pg) (List.replicate Pg (.int .u64 0))) ((w1.setCells g (f*Pg) (List.replicate Pg (.int .u64 0))).setCell ⟨t,f,none⟩ (.bool true)):=(Kb (fun k=>k=t) _).setCell ⟨t,f,none⟩ (.inl rfl) _;refine ⟨F.frame z (fun e=>tp (by grind)),?_⟩;intro W v b hh hu Q M N hB B;have V:=aF J z (fun k l e=>tw (by grind));have P:=aF O z (fun k l e=>tb (by grind));have T:=uk (.bool true) q G;rw [<-C,<-di] at T;have n:(r.set f true).length=r.length:=aW;have ag:((Us+1:Nat):Int)=(Us:Int)+1:=by omega
 refine ⟨⟨by grind,aF V B (fun k l e=>Y (by grind)),by grind [aF],aF P B (fun k l e=>eQ h.rb h.Qd (by decide) (by grind)),by rw [L,n];exact h.len,?_,by rw [n];exact h.Qc,?_,h.nd,by rw [n];exact h.Ye,Q,M,N,hh⟩,?_,h.was,?_,?_,h.own⟩
 ·intro x A;rcases eI.1 A with A|A
  ·rcases eI.1 A with A|A
   ·exact h.lt x (eN A)
   grind
  ·exact h.lt x (List.mem_of_mem_drop A)
 ·intro k l;rw [cq,if_neg (fun e=>h.new (by grind))];exact h.free k l
 ·grind
 ·intro k l;obtain ⟨o1,o2,o3⟩:=h.Xo k l;refine ⟨by grind,fun i hi=> ?_⟩;rw [<-o3 i hi];have ad:=(aj.1 o1).1;have:=En (xs:=a) (vs:=List.replicate Pg 0) (o:=f*Pg) (k:=k*Pg+i) (by grind) (by
   rw [bB];rcases Nat.lt_or_gt_of_ne o2 with n|m
   ·have:=iX (Pg:=Pg) n;omega
   ·have:=iX (Pg:=Pg) m;omega)
  grind
 ·have H:∀k,dK p d c s k->dK p vw vt vb k\/w.heap.size<=k:=h.own;exact ((h.fr.trans y (fun k l=>by rw [l];exact H g (.inr (.inl hg)))).trans z (fun k l=>by rw [l];exact H t (.inr (.inr (.inl m))))).trans B (fun k l=> .inl (.inl l))
theorem yO(h:dl w p vw vt vb ws tk bk Rm Pg Us Hg Tm)(a:Us<Rm):Calls prog 211 #[p] w (qe w p vw vt vb ws tk Rm Pg Us Hg Tm):=by
 grind [yN,wA]
theorem Eo(h:dl w p vw vt vb ws tk bk Rm Pg Us Hg Tm)(d:Us<Rm):Calls prog 180 #[p] w (sj w p vw vt vb ws tk Rm Pg Us):=by
 have hd:=h.frame (S:=fun _=>False) ((Kb _ w).drew) (fun _ _ h=>h);have H:=ae (yO hd d);have c3:=h.Qd.cell 3 rfl;have d3:w.drew.cell? ⟨p,3,none⟩=_:=c3;have d5:w.drew.cell? ⟨p,5,none⟩=_:=h.Qd.cell 5 rfl;have Y:=h.Xs;have s:=h.Qu;have X:=h.Qp;have ak:=h.Qi;have ao:((Rm:Int)==0)=false:=by rw [beq_eq_false_iff_ne];omega
 have ap:((Us:Int)==(Rm:Int))=false:=by rw [beq_eq_false_iff_ne];omega
 have b1:(Us:Int)<(Rm:Int):=by omega
 have b2:(Rm:Int)<=4096:=by omega
 have b3:(Hg:Int)<=4096:=by omega
 have HW:=ae (show∀e w',sj w.drew p vw vt vb ws tk Rm Pg Us e w'->sj w p vw vt vb ws tk Rm Pg Us e w' from fun e w' ⟨f,C,B,A,n,z,J,hi',ad,he,D⟩=>⟨f,C,B,A,n,z,J,hi',ad,he,⟨D.pool,D.now,D.was,D.Xo,((Kb _ w).drew).trans D.fr (fun _ h=> .inl h),D.own⟩⟩);clear h hd
 go_enter func180,ntmps180
 go_wp2;refine aV (fun w'=>w'=w.drew) (by kernel_rfl) rfl ?_;refine aL [p,p,.pointer (some ⟨p,5,none⟩)] ?_
 iterate 3 (refine aM rfl (fun O N=>by go_simp) ?_;simp only [aa])
 refine aK ?_;refine ai (Us:Int) rfl (fun w o=>by subst o;go_simp) ?_;simp only [aa];refine aL [p,p,.pointer (some ⟨p,3,none⟩)] ?_
 iterate 3 (refine aM rfl (fun O N=>by go_simp) ?_;simp only [aa])
 refine aK ?_;refine ai (Rm:Int) rfl (fun w o=>by subst o;go_simp) ?_;simp only [aa];refine aL [.bool false,.bool false] ?_
 iterate 2 (refine aM rfl (fun O N=>by go_simp) ?_;simp only [aa])
 refine aK ?_;refine wpQuiet_nil ?_;rintro w2 rfl;generalize w.drew=w0 at*;go_wp2_with fail
 refine H.out.mono ?_;rintro e w1 ⟨f,C,B,A,n,z,J,rfl,a⟩;have V:=(aj.1 a.none).1;have r:=iX (Pg:=Pg) V;rw [<-a.len] at r;obtain ⟨g,cap,l,K,L,_⟩:=jA a.rw (by omega);obtain ⟨gt,ct,t,_⟩:=jA a.rt (by omega);have R:=a.Qd.cell 0 rfl;rw [l] at R;have HF:=ae (rR R (a.Qd.cell 4 rfl) s f r K L);have i:=a.rw;rw [l] at i;have F:=ae (Lib.run_clear_slice (P:=prog) w1 25 34 0 (.int .u64 0) underlying25 (fun w=>by obtain ⟨i0,hi,hz,_⟩:=info_parts oD;simp [zeroValue,typeInfo,hi,hz]) rfl rfl g (f*Pg) Pg Pg s
  (fun j hj=>by
   obtain ⟨x,Z⟩:∃x,n[f*Pg+j]? =some x:=⟨_,aC (by omega)⟩;rw [(nE (j:=f*Pg+j) (u:= .int .u64 x) i (by unfold eK;rw [aR,Z];rfl)).1];rfl)
  (fun j hj=>by
   obtain ⟨x,Z⟩:∃x,n[f*Pg+j]? =some x:=⟨_,aC (by omega)⟩;exact (nE (j:=f*Pg+j) (u:= .int .u64 x) i (by unfold eK;rw [aR,Z];rfl)).2))
 have HM:=ae (CQ a l t);have ag:(f:Int)<(z.length:Int):=by omega
 have ah:(f:Int)<=4096:=by have:=a.Ye;omega
 have Q:=ae t;clear a r K L R i l t H;go_wp2_with fail
 refine HF.out.mono ?_;rintro e w' ⟨rfl,rfl⟩;go_wp2_with (refine tS rfl _ _ rfl ?_;refine Hid.out ?_)
 unfold Hid;refine ⟨_,F.out,?_⟩;obtain ⟨w2,v⟩:∃w2,w1.setCells g (f*Pg) (List.replicate Pg (.int .u64 0))=w2:=⟨_,rfl⟩;rw [v];obtain ⟨m1,m2,m3,m4⟩:=HM.out w2 v.symm;rw [Q.out] at m1;have I:=ae m4;clear F v HM m4 HF
 go_upto_region 8 with fail
 obtain ⟨w3,y⟩:∃w3,w2.setCell ⟨gt,f,none⟩ (.bool true)=w3:=⟨_,rfl⟩;rw [y];obtain ⟨b,hT⟩:=I.out w3 y.symm;have HT:=ae hT;have E:=ae b;have k5:=b.cell 5 rfl;have k6:=b.free 5;have k7:=(b.set 5 (.int .i64 ((Us:Int)+1))).cell 7 rfl;have k8:=(b.set 5 (.int .i64 ((Us:Int)+1))).free 7;clear m1 m2 m3 y I hT b
 go_upto_region 10 with fail
 obtain ⟨w5,m⟩:∃w5,(w3.setCell ⟨p,5,none⟩ (.int .i64 ((Us:Int)+1))).setCell ⟨p,7,none⟩ (.int .i64 (wrap64 (Tm+1)))=w5:=⟨_,rfl⟩;rw [m];have c:ay w5 p [C,B,A,(Rm:Int),(Pg:Int),(((Us:Int)+1):Int),(Hg:Int),((wrap64 (Tm+1)):Int)] 211:=by rw [<-m];exact (E.out.set 5 _).set 7 _
 have M:Fr (fun k=>k=p) w3 w5:=by rw [<-m];exact ((Kb (fun k=>k=p) w3).setCell ⟨p,5,none⟩ (.inl rfl) _).setCell ⟨p,7,none⟩ (.inl rfl) _
 obtain ⟨q,T⟩:∃q,q=max Hg (Us+1):=⟨_,rfl⟩;have am:max (Hg:Int) ((Us:Int)+1)=(q:Int):=by omega
 have U:q<=Rm:=by omega
 have k9:w5.drew.cell? ⟨p,6,none⟩=_:=c.drew.cell 6 rfl;have aq:w5.drew.cell? ⟨p,5,none⟩=_:=c.drew.cell 5 rfl;have ar:w5.drew.frozen? ⟨p,6,none⟩=false:=c.drew.free 6;have G:=ae (fun W (hW:W=(w5.drew.setCell ⟨p,6,none⟩ (.int .i64 q)))=>HT.out W q (wrap64 (Tm+1)) U d Y s X (by rw [hW];exact c.drew.set 6 _) (by rw [hW];exact M.drew.setCell ⟨p,6,none⟩ (.inl rfl) _));clear m c M HT E k5 k6 k7 k8 T;refine bz (fun w'=>w'=w5.drew) 10 (by kernel_rfl) rfl ?_;simp only [Kc];refine aL [p,p,p,.pointer (some ⟨p,6,none⟩)] ?_
 iterate 4 (refine aM rfl (fun O N=>by go_simp) ?_;simp only [aa])
 refine aK ?_;refine ai (Hg:Int) rfl (fun w o=>by subst o;go_simp) ?_;simp only [aa];refine aL [p,p,.pointer (some ⟨p,5,none⟩)] ?_
 iterate 3 (refine aM rfl (fun O N=>by go_simp) ?_;simp only [aa])
 refine aK ?_;refine ai (.int .i64 ((Us:Int)+1)) rfl (fun w o=>by subst o;go_simp) ?_;simp only [aa];refine ai (q:Int) rfl (fun w o=>by go_simp) ?_;simp only [aa];refine wpQuiet_nil ?_;rintro w6 rfl;go_wp2;go_ret2;exact HW.out _ _ ⟨f,_,_,_,_,_,_,_,_,rfl,G.out _ rfl⟩
end
def vy:Option Nat->Value
 |none=> .pointer none
 |some t=> .pointer (some ⟨t,0,none⟩)
def ep(fr:Nat->Nat)(p:Nat):Bool:=fr p !=0
def nB(fr:Nat->Nat)(i:Nat):List Value:=(List.range 256).map (fun q=>Value.int .u32 ((fr (256*i+q):Nat):Int))++[.int .i64 ((Qc (ep fr) (256*i) (256*i+256):Nat):Int)]
structure bW(w:World)(g gt:Nat)(ts:List (Option Nat))(P:Nat)(fr:Nat->Nat)(n:Int):Prop where
 Qd:ay w g [.slice (some gt) ts.length ts.length,(P:Int),(n:Int)] 214
 row:ay w gt (ts.map vy) 283
 len:ts.length=(P+255)/256
 Qo:∀(i t:Nat),ts[i]? =some (some t)->ay w t (nB fr i) 286
 nil:∀(i:Nat),ts[i]? =some none->∀q,q<256->fr (256*i+q)=0
 inj:∀(i j t:Nat),ts[i]? =some (some t)->ts[j]? =some (some t)->i=j
 one:1<=P
 small:P<=524288
 lt:∀p,fr p<4294967296
 off:∀p,P<=p->fr p=0
def bQ(g gt:Nat)(ts:List (Option Nat))(k:Nat):Prop:=k=g\/k=gt\/some k∈ts
theorem bW.frame{S:Nat->Prop}{w w':World}{g a:Nat}{c:List (Option Nat)}{P:Nat}{fr:Nat->Nat}{n:Int}(h:bW w g a c P fr n)(hf:Fr S w w')(b:∀k,bQ g a c k->¬S k):bW w' g a c P fr n:=
 ⟨h.Qd.frame hf (b _ (.inl rfl)),h.row.frame hf (b _ (.inr (.inl rfl))),h.len,fun i t d=>(h.Qo i t d).frame hf (b _ (.inr (.inr (ar d)))),h.nil,h.inj,h.one,h.small,h.lt,h.off⟩
theorem oe(fr:Nat->Nat)(i q:Nat)(a:q<256):(nB fr i)[q]? =some (.int .u32 ((fr (256*i+q):Nat):Int)):=by
 simp_all [nB,List.getElem?_append_left]
theorem zv(fr:Nat->Nat)(i:Nat):(nB fr i)[256]? =some (.int .i64 ((Qc (ep fr) (256*i) (256*i+256):Nat):Int)):=by
 simp_all [nB]
section
variable{w:World}{g gt:Nat}{ts:List (Option Nat)}{P:Nat}{fr:Nat->Nat}{n:Int}
theorem bW.slot(h:bW w g gt ts P fr n){p:Nat}(hp:p<P):∃o,ts[p/256]? =some o/\w.cell? ⟨gt,p/256,none⟩=some (vy o)/\w.frozen? ⟨gt,p/256,none⟩=false:=by
 have a:p/256<ts.length:=by rw [h.len];omega
 obtain ⟨o,b⟩:∃o,ts[p/256]? =some o:=⟨_,aC a⟩;exact ⟨o,b,h.row.cell (p/256) (by grind),h.row.free _⟩
theorem rh(h:bW w g gt ts P fr n)(p:Nat)(hp:p<P):Calls prog 210 #[g,(p:Int)] w fun e w'=>e= .returned (.int .u32 ((fr p:Nat):Int))/\w=w':=by
 obtain ⟨o,a,d,_⟩:=h.slot hp;have l:=h.Qd.cell 0 rfl;have m:p/256<ts.length:=(aj.1 a).1;have q:=h.small;have r:(p:Int).tdiv 256=((p/256:Nat):Int):=rfl;have s:(p:Int).tmod 256=((p% 256:Nat):Int):=rfl;have b:256*(p/256)+p% 256=p:=by omega
 cases o with
 |none=>
  have c:=h.nil _ a (p% 256) (aI _ (by decide));rw [b] at c;rw [c];unfold vy at d;generalize ts.length=L at*;have f:((p/256:Nat):Int)<(L:Int):=by omega
  have i:(p:Int)<=524288:=by omega
  clear h a b
  go_enter func210,ntmps210
  go_wp2;go_ret;exact ⟨rfl,rfl⟩
 |some t=>
  have j:=(h.Qo _ t a).cell (p% 256) (oe fr (p/256) (p% 256) (aI _ (by decide)));rw [b] at j;unfold vy at d;generalize ts.length=L at*;generalize fr p=x at*;have f:((p/256:Nat):Int)<(L:Int):=by omega
  have i:(p:Int)<=524288:=by omega
  have k:((p% 256:Nat):Int)<256:=by omega
  clear h a b
  go_enter func210,ntmps210
  go_wp2;go_ret;exact ⟨rfl,rfl⟩
theorem ui(h:bW w g gt ts P fr n)(p:Nat)(hp:p<P)(b:Nat)(f:w.cell? b=some (p:Int)):Calls prog 209 #[g,.slice (some b) 1 1] w fun e w'=>e= .returned (0:Int)/\w=w':=by
 have c1:=h.Qd.cell 1 rfl;have l:=h.small;have c:(p:Int)<(P:Int):=by omega
 have d:(p:Int)<=524288:=by omega
 clear h
 go_enter func209,ntmps209
 go_wp2
 go_loopw [11] (fun k wr=>∃j:Nat,k= .int .i64 j/\j<=1/\wr=w) (fun k _=>(1-intOf k).toNat)
 case atStart=>exact ⟨0,rfl,by omega,rfl⟩
 case round=>
  obtain ⟨j,rfl,i,rfl⟩:=hrel;by_cases a:j=0
  ·subst a;go_wp2;go_roundw
   case rel=>exact ⟨1,rfl,by omega,trivial⟩
   case measure=>simp [intOf]
  ·obtain rfl:j=1:=by omega
   go_wp2;go_ret;exact ⟨rfl,rfl⟩
theorem vC(h:bW w g gt ts P fr n)(p:Nat)(hp:p<P)(f:fr p=0):Calls prog 179 #[g,(p:Int)] w fun e w'=>e= .returned (.tuple #[(0:Int),(12:Int)])/\J7 w w':=by
 have hf:J7 w (w.alloc (.cells #[(p:Int)] 3)):=(Kb _ w).alloc _;have a:=h.frame hf (fun _ _ h=>h);have d:=ae (ui a p hp w.heap.size ((ay.new w [(p:Int)] 3).cell 0 rfl));have b:=ae (rh a p hp);rw [f] at b;have c:=ae hf;clear h a hf
 go_enter func179,ntmps179
 go_wp2_with fail
 refine d.out.mono ?_;rintro e w' ⟨rfl,rfl⟩;go_wp2_with fail
 refine b.out.mono ?_;rintro e w' ⟨rfl,rfl⟩;go_wp2;go_ret2;exact ⟨rfl,c.out⟩
theorem lO(h:bW w g gt ts P fr n)(p f:Nat)(hp:p<P)(k:fr p=f+1):Calls prog 179 #[g,(p:Int)] w fun e w'=>e= .returned (.tuple #[(f:Int),(0:Int)])/\J7 w w':=by
 have hf:J7 w (w.alloc (.cells #[(p:Int)] 3)):=(Kb _ w).alloc _;have c:=h.frame hf (fun _ _ h=>h);have j:=ae (ui c p hp w.heap.size ((ay.new w [(p:Int)] 3).cell 0 rfl));have b:=ae (rh c p hp);have d:=h.lt p;rw [k] at b d;rw [show ((f+1:Nat):Int)=(f:Int)+1 by omega] at b;have i:=ae hf;have l:(((f:Int)+1)==0)=false:=by rw [beq_eq_false_iff_ne];omega
 obtain ⟨F,a⟩:∃F:Int,(f:Int)=F:=⟨_,rfl⟩;rw [a] at b l ⊢;have m:F<4294967295:=by omega
 have o:0<=F:=by omega
 clear h c hf d a
 go_enter func179,ntmps179
 go_wp2_with fail
 refine j.out.mono ?_;rintro e w' ⟨rfl,rfl⟩;go_wp2_with fail
 refine b.out.mono ?_;rintro e w' ⟨rfl,rfl⟩;go_wp2;go_ret2;exact ⟨by simp,i.out⟩
end
def fX(fr:Nat->Nat)(p x:Nat)(k:Nat):Nat:=if k=p then x else fr k
theorem mQ{fr:Nat->Nat}{p x a b:Nat}(e:a<=p)(c:p<b):Qc (ep (fX fr p x)) a b+(if fr p=0 then 0 else 1)=Qc (ep fr) a b+(if x=0 then 0 else 1):=by
 rw [bp _ e (ea c),bp (ep fr) e (ea c)];have d:∀f:Nat->Bool,Qc f p b=(if f p then 1 else 0)+Qc f (p+1) b:=fun f=>by
  rw [bp f (show p<=p+1 from fx p) (show p+1<=b from c),bJ f (ag p),eL f (ag p),bq]
 rw [d (ep (fX fr p x)),d (ep fr),bY (f:=ep (fX fr p x)) (g:=ep fr) (a:=a) (b:=p) (fun i _ h=>by unfold ep fX;grind),
  bY (f:=ep (fX fr p x)) (g:=ep fr) (a:=p+1) (b:=b) (fun i h _=>by unfold ep fX;grind)]
 have j:ep (fX fr p x) p=(x !=0):=by unfold ep fX;grind
 have k:ep fr p=(fr p !=0):=rfl
 grind
theorem xD{fr:Nat->Nat}{p x i:Nat}(d:i≠p/256):nB (fX fr p x) i=nB fr i:=by
 unfold nB;congr 1
 ·apply dP;intro q a;rw [bO] at a;unfold fX
  grind
 ·rw [bY (g:=ep fr) (fun k b c=>by unfold ep fX;grind)]
theorem AU{fr:Nat->Nat}{p x:Nat}:nB (fX fr p x) (p/256)=((nB fr (p/256)).set (p% 256) (.int .u32 (x:Int))).set 256 (.int .i64 ((Qc (ep (fX fr p x)) (256*(p/256)) (256*(p/256)+256):Nat):Int)):=by
 apply eO;intro k;have b:∀f i,(nB f i).length=257:=fun f i=>by unfold nB;simp
 rcases cW k 256 with a|a|a
 ·rw [oe _ _ _ a,co (by omega),cq];unfold fX;by_cases e:p% 256=k
  ·grind
  ·rw [if_neg (by omega),if_neg e,oe _ _ _ a]
 ·subst a;rw [zv,cq,if_pos rfl,if_pos (by grind)]
 grind
section
variable{w:World}{g gt:Nat}{ts:List (Option Nat)}{P:Nat}{fr:Nat->Nat}{n:Int}
theorem bW.gne(h:bW w g gt ts P fr n):g≠gt:=fun e=>by
 have a:=h.Qd;have b:=h.row
 grind [ay]
theorem bW.tne(h:bW w g gt ts P fr n){i t:Nat}(a:ts[i]? =some (some t)):t≠g/\t≠gt:=by
 have b:=h.Qo i t a;have c:=h.Qd;have d:=h.row
 grind [ay]
theorem bW.upd(h:bW w g gt ts P fr n){p x t:Nat}(hp:p<P)(s:x<4294967296)(d:ts[p/256]? =some (some t))(c:Int)(o:c=((Qc (ep (fX fr p x)) (256*(p/256)) (256*(p/256)+256):Nat):Int))(j:Int):
  ∀W,W=((w.setCell ⟨t,p% 256,none⟩ (.int .u32 (x:Int))).setCell ⟨t,256,none⟩ (.int .i64 c)).setCell ⟨g,2,none⟩ (.int .i64 j)->bW W g gt ts P (fX fr p x) j/\Fr (bQ g gt ts) w W:=by
 rintro W rfl;obtain ⟨l,u⟩:=h.tne d;have hg:=h.gne;have hf:Fr (fun k=>k=t\/k=g) w (((w.setCell ⟨t,p% 256,none⟩ (.int .u32 (x:Int))).setCell ⟨t,256,none⟩ (.int .i64 c)).setCell ⟨g,2,none⟩ (.int .i64 j)):=
  (((Kb (fun k=>k=t\/k=g) w).setCell ⟨t,p% 256,none⟩ (.inl (.inl rfl)) _).setCell ⟨t,256,none⟩ (.inl (.inl rfl)) _).setCell ⟨g,2,none⟩ (.inl (.inr rfl)) _
 refine ⟨⟨?_,h.row.frame hf (by omega),h.len,?_,?_,h.inj,h.one,h.small,?_,?_⟩,hf.mono (fun k f=> .inl (by rcases f with rfl|rfl;exact .inr (.inr (ar d));exact .inl rfl))⟩
 ·exact ((h.Qd.Qg ⟨t,p% 256,none⟩ _ (Ne.symm l)).Qg ⟨t,256,none⟩ _ (Ne.symm l)).set 2 _
 ·intro i m a;by_cases b:i=p/256
  ·subst b;rw [d] at a;simp only [aT] at a;subst a;rw [AU,<-o];exact (((h.Qo _ t d).set (p% 256) _).set 256 _).Qg ⟨g,2,none⟩ _ l
  ·rw [xD b];have:m≠t:=fun e=>b (h.inj i (p/256) t (by grind) d)
   exact (h.Qo i m a).frame hf (by have:=(h.tne a).1;omega)
 ·intro i b q r;have:i≠p/256:=fun e=>by grind
  unfold fX;rw [if_neg (by omega)];exact h.nil i b q r
 ·intro k;unfold fX;split
  ·exact s
  ·exact h.lt k
 ·intro k f;unfold fX;rw [if_neg (by omega)];exact h.off k f
theorem bW.more(h:bW w g gt ts P fr n){i:Nat}(p:ts[i]? =some none):
  ∀W,W=(w.alloc (.cells (List.replicate 256 (Value.int .u32 0)++[Value.int .i64 0]).toArray 286)).setCell ⟨gt,i,none⟩ (.pointer (some ⟨w.heap.size,0,none⟩))->
   bW W g gt (ts.set i (some w.heap.size)) P fr n/\Fr (bQ g gt ts) w W:=by
 rintro W rfl;have f:=(aj.1 p).1;have hg:=h.gne;have z:=h.Qd.lt;have A:=h.row.lt;have b:J7 w (w.alloc (.cells (List.replicate 256 (Value.int .u32 0)++[Value.int .i64 0]).toArray 286)):=(Kb _ w).alloc _;have c:Fr (fun k=>k=gt) (w.alloc (.cells (List.replicate 256 (Value.int .u32 0)++[Value.int .i64 0]).toArray 286)) ((w.alloc (.cells (List.replicate 256 (Value.int .u32 0)++[Value.int .i64 0]).toArray 286)).setCell ⟨gt,i,none⟩ (.pointer (some ⟨w.heap.size,0,none⟩))):=
  (Kb (fun k=>k=gt) _).setCell ⟨gt,i,none⟩ (.inl rfl) _
 refine ⟨⟨?_,?_,by rw [aW];exact h.len,?_,?_,?_,h.one,h.small,h.lt,h.off⟩,(b.mono (S':=bQ g gt ts) J8).trans c (fun k d=> .inl (.inr (.inl d)))⟩
 ·rw [aW];exact (h.Qd.frame b id).frame c hg
 ·have:=(h.row.frame b id).set i (.pointer (some ⟨w.heap.size,0,none⟩));rw [di];exact this
 ·intro j t l;rw [cq] at l;by_cases e:i=j
  ·subst e;rw [if_pos rfl,if_pos f] at l;simp only [aT] at l;subst l;have u:nB fr i=List.replicate 256 (Value.int .u32 0)++[Value.int .i64 0]:=by
    unfold nB;congr 1
    ·rw [List.eq_replicate_iff];refine ⟨by simp,fun v s=> ?_⟩;obtain ⟨q,o,rfl⟩:=bw.1 s;rw [bO] at o;rw [h.nil i p q o];rfl
    ·rw [bP (fun k x y=>by
      have:=h.nil i p (k-256*i) (by omega)
      grind [ep])]
     rfl
   rw [u];exact (ay.new w _ _).frame c (by omega)
  ·rw [if_neg e] at l;exact ((h.Qo j t l).frame b id).frame c (h.tne l).2
 ·intro j a q o;rw [cq] at a;by_cases e:i=j
  ·grind
  ·rw [if_neg e] at a;exact h.nil j a q o
 ·intro j k t a d;rw [cq] at a d;by_cases r:i=j
  ·by_cases m:i=k
   ·omega
   ·subst r;rw [if_pos rfl,if_pos f] at a;rw [if_neg m] at d;simp only [aT] at a;have:=(h.Qo k t d).lt;omega
  ·rw [if_neg r] at a;by_cases m:i=k
   ·subst m;rw [if_pos rfl,if_pos f] at d;simp only [aT] at d;have:=(h.Qo j t a).lt;omega
   ·rw [if_neg m] at d;exact h.inj j k t a d
theorem bW.less(h:bW w g gt ts P fr n){i t:Nat}(r:ts[i]? =some (some t))(p:Qc (ep fr) (256*i) (256*i+256)=0):
  ∀W,W=w.setCell ⟨gt,i,none⟩ (.pointer none)->bW W g gt (ts.set i none) P fr n/\Fr (bQ g gt ts) w W:=by
 rintro W rfl;have s:=(aj.1 r).1;have hg:=h.gne;have a:Fr (fun k=>k=gt) w (w.setCell ⟨gt,i,none⟩ (.pointer none)):=(Kb (fun k=>k=gt) _).setCell ⟨gt,i,none⟩ (.inl rfl) _;refine ⟨⟨?_,?_,by rw [aW];exact h.len,?_,?_,?_,h.one,h.small,h.lt,h.off⟩,a.mono (fun k c=> .inl (.inr (.inl c)))⟩
 ·rw [aW];exact h.Qd.frame a hg
 ·rw [di];exact h.row.set i (.pointer none)
 ·intro j f d;rw [cq] at d;by_cases e:i=j
  ·grind
  ·rw [if_neg e] at d;exact (h.Qo j f d).frame a (h.tne d).2
 ·intro j b q u;by_cases e:i=j
  ·subst e
   cases hz:fr (256*i+q) with
   |zero=>rfl
   |succ m=>
    have:=wH p (256*i+q) (by omega) (by omega)
    grind [ep]
  ·rw [cq,if_neg e] at b;exact h.nil j b q u
 ·intro j k f b c;rw [cq] at b c;by_cases l:i=j
  ·grind
  ·rw [if_neg l] at b;by_cases o:i=k
   ·grind
   ·rw [if_neg o] at c;exact h.inj j k f b c
end
section
variable{w:World}{g gt:Nat}{ts:List (Option Nat)}{P:Nat}{fr:Nat->Nat}{n:Int}
def kT(w:World)(g gt:Nat)(ts:List (Option Nat))(P:Nat)(fr:Nat->Nat)(p x:Nat)(e:Ending)(w':World):Prop:=
 e= .returned (.tuple #[])/\∃ts' n',bW w' g gt ts' P (fX fr p x) n'/\Fr (bQ g gt ts) w w'/\∀k,bQ g gt ts' k->bQ g gt ts k\/w.heap.size<=k
theorem xo:Tryz.zeroCells286=(List.replicate 256 (Value.int .u32 0)++[Value.int .i64 0]).toArray:=by kernel_rfl
theorem zY{ts:List (Option Nat)}{g gt i k m:Nat}(h:bQ g gt (ts.set i (some m)) k):bQ g gt ts k\/k=m:=by
 rcases h with h|h|h
 ·exact .inl (.inl h)
 ·exact .inl (.inr (.inl h))
 ·rcases bS h with h|h
  ·exact .inl (.inr (.inr h))
  grind
theorem bW.setf(h:bW w g gt ts P fr n){p x t:Nat}(hp:p<P)(k:x<4294967296)(e:ts[p/256]? =some (some t))(δ:Int)(C:Nat)(l:Qc (ep fr) (256*(p/256)) (256*(p/256)+256)=C)(c:Int)(j:c=((Qc (ep (fX fr p x)) (256*(p/256)) (256*(p/256)+256):Nat):Int)):
  (∃u,w.cell? ⟨t,p% 256,none⟩=some u)/\w.frozen? ⟨t,p% 256,none⟩=false/\
  (w.setCell ⟨t,p% 256,none⟩ (.int .u32 (x:Int))).cell? ⟨t,256,none⟩=some (C:Int)/\(w.setCell ⟨t,p% 256,none⟩ (.int .u32 (x:Int))).frozen? ⟨t,256,none⟩=false/\
  ((w.setCell ⟨t,p% 256,none⟩ (.int .u32 (x:Int))).setCell ⟨t,256,none⟩ (.int .i64 c)).cell? ⟨g,2,none⟩=some (n:Int)/\((w.setCell ⟨t,p% 256,none⟩ (.int .u32 (x:Int))).setCell ⟨t,256,none⟩ (.int .i64 c)).frozen? ⟨g,2,none⟩=false/\
  (((w.setCell ⟨t,p% 256,none⟩ (.int .u32 (x:Int))).setCell ⟨t,256,none⟩ (.int .i64 c)).setCell ⟨g,2,none⟩ (.int .i64 (wrap64 (n+δ)))).cell? ⟨t,256,none⟩=some (c:Int)/\
  ∀W,W=(((w.setCell ⟨t,p% 256,none⟩ (.int .u32 (x:Int))).setCell ⟨t,256,none⟩ (.int .i64 c)).setCell ⟨g,2,none⟩ (.int .i64 (wrap64 (n+δ))))->bW W g gt ts P (fX fr p x) (wrap64 (n+δ))/\Fr (bQ g gt ts) w W:=by
 have b:=h.Qo _ t e;have a:=b.set (p% 256) (.int .u32 (x:Int));have i:((nB fr (p/256)).set (p% 256) (.int .u32 (x:Int)))[256]? =some (.int .i64 C):=by grind [zv]
 obtain ⟨f,m⟩:=h.tne e;have d:=(h.Qd.Qg ⟨t,p% 256,none⟩ (.int .u32 (x:Int)) (Ne.symm f)).Qg ⟨t,256,none⟩ (.int .i64 c) (Ne.symm f);exact ⟨⟨_,b.cell (p% 256) (oe fr (p/256) (p% 256) (aI _ (by decide)))⟩,b.free _,a.cell 256 i,a.free 256,d.cell 2 rfl,d.free 2,
  ((a.set 256 (.int .i64 c)).Qg ⟨g,2,none⟩ _ f).cell 256 (by grind),h.upd hp k e c j _⟩
theorem Dg(h:bW w g gt ts P fr n)(p x t:Nat)(hp:p<P)(i:x≠0)(C:x<4294967296)(q:fr p=0)(f:ts[p/256]? =some (some t)):Calls prog 195 #[g,(p:Int),.int .u32 (x:Int)] w (kT w g gt ts P fr p x):=by
 obtain ⟨o,m,r,s⟩:=h.slot hp;rw [f] at m
 cases m
 unfold vy at r;have I:=h.Qd.cell 0 rfl;have A:p/256<ts.length:=(aj.1 f).1;have J:=h.small;have S:(p:Int).tdiv 256=((p/256:Nat):Int):=rfl;have T:(p:Int).tmod 256=((p% 256:Nat):Int):=rfl;have F:(p:Int)<=524288:=by omega
 have G:((p% 256:Nat):Int)<256:=by omega
 have w1:IntKind.i64.wrap ((p:Int)/256)=((p/256:Nat):Int):=by rw [IntKind.wrap_i64];omega
 have w2:IntKind.i64.wrap ((p:Int)% 256)=((p% 256:Nat):Int):=by rw [IntKind.wrap_i64];omega
 have v1:((p:Int)/256).toNat=p/256:=by omega
 have v2:((p:Int)% 256).toNat=p% 256:=by omega
 have e:=mQ (fr:=fr) (p:=p) (x:=x) (a:=256*(p/256)) (b:=256*(p/256)+256) (by omega) (by omega);rw [if_pos q,if_neg i] at e;obtain ⟨c,d⟩:∃c,Qc (ep fr) (256*(p/256)) (256*(p/256)+256)=c:=⟨_,rfl⟩;have v:c<=256:=by rw [<-d];have:=dA (ep fr) (256*(p/256)) (256*(p/256)+256);omega
 rw [d] at e;obtain ⟨⟨u,K⟩,B,M,N,O,Q,R,l⟩:=h.setf hp C f 1 c d ((c:Int)+1) (by omega);have j:=ae l;have D:((x:Int)==0)=false:=by rw [beq_eq_false_iff_ne];omega
 have y:(((c:Int)+1)==0)=false:=by rw [beq_eq_false_iff_ne];omega
 generalize ts.length=L at*;have E:((p/256:Nat):Int)<(L:Int):=by omega
 have H:(c:Int)<=256:=by omega
 clear h f e d A l
 go_enter func195,ntmps195
 go_wp2;go_end0;exact ⟨rfl,ts,_,(j.out _ rfl).1,(j.out _ rfl).2,fun k z=> .inl z⟩
theorem Dh(h:bW w g gt ts P fr n)(p x:Nat)(hp:p<P)(z:x≠0)(S:x<4294967296)(N:fr p=0)(m:ts[p/256]? =some none):Calls prog 195 #[g,(p:Int),.int .u32 (x:Int)] w (kT w g gt ts P fr p x):=by
 obtain ⟨o,l,E,v⟩:=h.slot hp;rw [m] at l
 cases l
 unfold vy at E;have J:=h.Qd.cell 0 rfl;have G:p/256<ts.length:=(aj.1 m).1;have Y:=h.small;have q1:(p:Int).tdiv 256=((p/256:Nat):Int):=rfl;have q2:(p:Int).tmod 256=((p% 256:Nat):Int):=rfl;have V:(p:Int)<=524288:=by omega
 have W:((p% 256:Nat):Int)<256:=by omega
 have w1:IntKind.i64.wrap ((p:Int)/256)=((p/256:Nat):Int):=by rw [IntKind.wrap_i64];omega
 have w2:IntKind.i64.wrap ((p:Int)% 256)=((p% 256:Nat):Int):=by rw [IntKind.wrap_i64];omega
 have v1:((p:Int)/256).toNat=p/256:=by omega
 have v2:((p:Int)% 256).toNat=p% 256:=by omega
 have f:=mQ (fr:=fr) (p:=p) (x:=x) (a:=256*(p/256)) (b:=256*(p/256)+256) (by omega) (by omega);rw [if_pos N,if_neg z] at f;obtain ⟨c,d⟩:∃c,Qc (ep fr) (256*(p/256)) (256*(p/256)+256)=c:=⟨_,rfl⟩;have O:c<=256:=by rw [<-d];have:=dA (ep fr) (256*(p/256)) (256*(p/256)+256);omega
 rw [d] at f;have T:((x:Int)==0)=false:=by rw [beq_eq_false_iff_ne];omega
 have Q:(((c:Int)+1)==0)=false:=by rw [beq_eq_false_iff_ne];omega
 have B:=ae (h.more m);have I:=ae G;have q:=ae d;have r:=ae f;have K:∀o,(w.alloc o).cell? ⟨gt,p/256,none⟩=some (.pointer none):=fun o=>((h.row.alloc o).cell (p/256) (by rw [aR,m];rfl))
 have M:∀o,(w.alloc o).frozen? ⟨gt,p/256,none⟩=false:=fun o=>(h.row.alloc o).free _
 generalize s:ts.length=L at*;have U:((p/256:Nat):Int)<(L:Int):=by omega
 have X:(c:Int)<=256:=by omega
 clear h m f d G
 go_enter func195,ntmps195
 go_upto_region 3 with fail
 obtain ⟨W1,i⟩:∃W1,(w.alloc (.cells Tryz.zeroCells286 286)).setCell ⟨gt,p/256,none⟩ (.pointer (some ⟨w.heap.size,0,none⟩))=W1:=⟨_,rfl⟩;rw [i];obtain ⟨g1,C⟩:=B.out W1 (by rw [<-i,xo]);have j:(ts.set (p/256) (some w.heap.size))[p/256]? =some (some w.heap.size):=by rw [cq,if_pos rfl,if_pos (by rw [s];exact I.out)]
 obtain ⟨o,l,t,F⟩:=g1.slot hp;rw [j] at l
 cases l
 unfold vy at t;obtain ⟨⟨u,Z⟩,R,k1,k2,k3,k4,k5,D⟩:=g1.setf hp S j 1 c q.out ((c:Int)+1) (by have:=r.out;omega);have A:=ae D;have H:=ae C;clear g1 C D i B K M J E v j;go_wp2;go_end0;exact ⟨rfl,_,_,(A.out _ rfl).1,H.out.trans (A.out _ rfl).2 (fun k y=>(zY y).imp id (fun e=>by rw [e];exact ag _)),fun k y=>(zY y).imp id (fun e=>by rw [e];exact ag _)⟩
theorem A8(h:bW w g gt ts P fr n)(p:Nat)(hp:p<P)(C:fr p≠0):Calls prog 195 #[g,(p:Int),.int .u32 0] w (kT w g gt ts P fr p 0):=by
 obtain ⟨o,B,G,H⟩:=h.slot hp;obtain ⟨t,rfl⟩:∃t,o=some t:=by
  cases o with
  |none=>
   have:=h.nil _ B (p% 256) (aI _ (by decide));rw [show 256*(p/256)+p% 256=p by omega] at this;exact absurd this C
  |some t=>exact ⟨t,rfl⟩
 have q:=B;clear B;unfold vy at G;have Y:=h.Qd.cell 0 rfl;have J:p/256<ts.length:=(aj.1 q).1;have hs:=h.small;have q1:(p:Int).tdiv 256=((p/256:Nat):Int):=rfl;have q2:(p:Int).tmod 256=((p% 256:Nat):Int):=rfl;have V:(p:Int)<=524288:=by omega
 have W:((p% 256:Nat):Int)<256:=by omega
 have w1:IntKind.i64.wrap ((p:Int)/256)=((p/256:Nat):Int):=by rw [IntKind.wrap_i64];omega
 have w2:IntKind.i64.wrap ((p:Int)% 256)=((p% 256:Nat):Int):=by rw [IntKind.wrap_i64];omega
 have v1:((p:Int)/256).toNat=p/256:=by omega
 have v2:((p:Int)% 256).toNat=p% 256:=by omega
 have j:=mQ (fr:=fr) (p:=p) (x:=0) (a:=256*(p/256)) (b:=256*(p/256)+256) (by omega) (by omega);rw [if_neg C,if_pos rfl] at j;obtain ⟨c,l⟩:∃c,Qc (ep fr) (256*(p/256)) (256*(p/256)+256)=c+1:=⟨Qc (ep fr) (256*(p/256)) (256*(p/256)+256)-1,by omega⟩;have I:c<=256:=by have:=dA (ep fr) (256*(p/256)) (256*(p/256)+256);omega
 rw [l] at j;obtain ⟨⟨u,k0⟩,K,D,M,N,O,Q,z⟩:=h.setf (x:=0) hp (by decide) q (-1) (c+1) l (c:Int) (by omega);rw [show ((0:Nat):Int)=0 from rfl] at D M N O Q z;have v:=ae z;obtain ⟨R,s⟩:=h.tne q;have m:=h.gne;have F:=ae j;have E:=ae q;rw [show ((c+1:Nat):Int)=(c:Int)+1 by omega] at D;have hd:IntKind.i64.wrap ((c:Int)+1+ -1)=(c:Int):=by rw [IntKind.wrap_i64];omega
 have Z:∀a b d,(((w.setCell ⟨t,p% 256,none⟩ a).setCell ⟨t,256,none⟩ b).setCell ⟨g,2,none⟩ d).cell? ⟨gt,p/256,none⟩=some t:=fun a b d=>(((h.row.Qg ⟨t,p% 256,none⟩ a (Ne.symm s)).Qg ⟨t,256,none⟩ b (Ne.symm s)).Qg ⟨g,2,none⟩ d (Ne.symm m)).cell (p/256) (by rw [aR,q];rfl)
 have e6:∀a b d,(((w.setCell ⟨t,p% 256,none⟩ a).setCell ⟨t,256,none⟩ b).setCell ⟨g,2,none⟩ d).frozen? ⟨gt,p/256,none⟩=false:=fun a b d=>(((h.row.Qg ⟨t,p% 256,none⟩ a (Ne.symm s)).Qg ⟨t,256,none⟩ b (Ne.symm s)).Qg ⟨g,2,none⟩ d (Ne.symm m)).free _
 generalize ts.length=L at*;have U:((p/256:Nat):Int)<(L:Int):=by omega
 have X:(c:Int)<=256:=by omega
 clear h q j l J z R s m;by_cases A:c=0
 ·have r:((c:Int)==0)=true:=by rw [beq_iff_eq];omega
  have f:=(v.out _ rfl).1.less (i:=p/256) (t:=t) E.out (by have:=F.out;omega);have y:=ae f;clear f A
  go_enter func195,ntmps195
  go_wp2;go_end0;obtain ⟨S,T⟩:=y.out _ rfl;refine ⟨rfl,_,_,S,(v.out _ rfl).2.trans T (fun k e=> .inl e),fun k e=> .inl ?_⟩;rcases e with e|e|e
  ·exact .inl e
  ·exact .inr (.inl e)
  ·rcases bS e with e|e
   ·exact .inr (.inr e)
   ·cases e
 ·have r:((c:Int)==0)=false:=by rw [beq_eq_false_iff_ne];omega
  go_enter func195,ntmps195
  go_wp2;go_end0;exact ⟨rfl,ts,_,(v.out _ rfl).1,(v.out _ rfl).2,fun k e=> .inl e⟩
theorem Di(h:bW w g gt ts P fr n)(p x:Nat)(hp:p<P)(a:x≠0)(d:x<4294967296)(b:fr p=0):Calls prog 195 #[g,(p:Int),.int .u32 (x:Int)] w (kT w g gt ts P fr p x):=by
 obtain ⟨o,c,_⟩:=h.slot hp
 cases o with
 |none=>grind [Dh]
 |some t=>grind [Dg]
end
section
variable{w:World}{g gt:Nat}{ts:List (Option Nat)}{P:Nat}{fr:Nat->Nat}{n:Int}
def ju(w:World)(g gt:Nat)(ts:List (Option Nat))(P:Nat)(fr:Nat->Nat)(p x:Nat)(v:Value)(e:Ending)(w':World):Prop:=
 e= .returned v/\∃ts' n',bW w' g gt ts' P (fX fr p x) n'/\Fr (bQ g gt ts) w w'/\∀k,bQ g gt ts' k->bQ g gt ts k\/w.heap.size<=k
theorem FH(h:bW w g gt ts P fr n)(p f:Nat)(hp:p<P)(hf:f<=4096)(l:fr p=0):Calls prog 181 #[g,(p:Int),(f:Int)] w (ju w g gt ts P fr p (f+1) (.int .i64 0)):=by
 have a:J7 w (w.alloc (.cells #[(p:Int)] 3)):=(Kb _ w).alloc _;have c:=h.frame a (fun _ _ h=>h);have r:=ae (ui c p hp w.heap.size ((ay.new w [(p:Int)] 3).cell 0 rfl));have j:=ae (rh c p hp);rw [l] at j;have d:=ae (Di c p (f+1) hp (by omega) (by omega) l);rw [show ((f+1:Nat):Int)=(f:Int)+1 by omega] at d;have q:=ae (show∀e w',kT (w.alloc (.cells #[(p:Int)] 3)) g gt ts P fr p (f+1) e w'->e= .returned (.tuple #[])/\ju w g gt ts P fr p (f+1) (.int .i64 0) (.returned (0:Int)) w' from
  fun e w' ⟨t,i,v,x,y,z⟩=>⟨t,rfl,i,v,x,(a.mono (S':=bQ g gt ts) J8).trans y (fun _ h=> .inl h),fun k u=>(z k u).imp id (fun h=>by have:=a.size;omega)⟩)
 obtain ⟨F,b⟩:∃F:Int,(f:Int)=F:=⟨_,rfl⟩;rw [b] at d ⊢;have A:F<=4096:=by omega
 have B:0<=F:=by omega
 generalize ju w g gt ts P fr p (f+1) (.int .i64 0)=Q at*;generalize kT (w.alloc (.cells #[(p:Int)] 3)) g gt ts P fr p (f+1)=Q2 at*;clear h c a hf b
 go_enter func181,ntmps181
 go_wp2_with fail
 refine r.out.mono ?_;rintro e w' ⟨rfl,rfl⟩;go_wp2_with fail
 refine j.out.mono ?_;rintro e w' ⟨rfl,rfl⟩;go_wp2_with fail
 refine d.out.mono ?_;intro e w' o;obtain ⟨rfl,m⟩:=q.out e w' o;have s:=ae m;clear o m;go_wp2;exact s.out
theorem Dr(h:bW w g gt ts P fr n)(p f:Nat)(hp:p<P)(i:fr p=f+1):Calls prog 165 #[g,(p:Int)] w (ju w g gt ts P fr p 0 (.tuple #[(f:Int),(0:Int)])):=by
 have o:=ae (lO h p f hp i);have r:=ae (fun w1 (hf:J7 w w1)=>A8 (h.frame hf (fun _ _ h=>h)) p hp (by omega));have m:=ae (show∀w1,J7 w w1->∀e w',kT w1 g gt ts P fr p 0 e w'->e= .returned (.tuple #[])/\ju w g gt ts P fr p 0 (.tuple #[(f:Int),(0:Int)]) (.returned (.tuple #[(f:Int),(0:Int)])) w' from
  fun w1 hf e w' ⟨s,d,u,v,x,y⟩=>⟨s,rfl,d,u,v,(hf.mono (S':=bQ g gt ts) J8).trans x (fun _ h=> .inl h),fun k t=>(y k t).imp id (fun h=>by have:=hf.size;omega)⟩)
 generalize ju w g gt ts P fr p 0 (.tuple #[(f:Int),(0:Int)])=Q at*;clear h i
 go_enter func165,ntmps165
 go_wp2_with fail
 refine o.out.mono ?_;rintro e w1 ⟨rfl,a⟩;have c:=ae (r.out w1 a);have b:=ae (m.out w1 a);clear a;go_wp2_with fail
 refine c.out.mono ?_;intro e w' l;obtain ⟨rfl,j⟩:=b.out e w' l;have q:=ae j;clear l j;go_wp2;exact q.out
theorem BE:(prog.info? 283).map (fun i=>(i.zero,i.size,i.bytes))=some (some (.pointer none),1,8):=by kernel_rfl
theorem Bv(k:Nat)(i:k<=16777216)(X:Int)(a:X=(k:Int))(w:World):(Instr.makeSlice 212 (.int .i64 X) (.int .i64 X)).run prog w= .ok (.slice (some w.heap.size) k k) (w.alloc (.cells (List.replicate k (Value.pointer none)).toArray 283)):=by
 obtain ⟨e,b,d,c,f⟩:=info_parts BE;subst a;have h:=run_makeSlice (P:=prog) w 212 283 e (.pointer none) underlying212 b d .i64 .i64 (k:Int) (k:Int) (by omega) (mx _) (by grind) (by grind) (by omega);rw [c,eP,fu,show (Value.pointer none).cells= #[.pointer none] from rfl,oz] at h
 grind
theorem Dq(P:Nat)(d:1<=P)(f:P<=524288)(w:World):Calls prog 92 #[(P:Int)] w fun e w'=>∃g gt ts n,e= .returned (.tuple #[.pointer (some ⟨g,0,none⟩),(0:Int)])/\bW w' g gt ts P (fun _=>0) n/\(∀k,bQ g gt ts k->w.heap.size<=k)/\J7 w w':=by
 have m:((P:Int)+256-1).tdiv 256=(((P+255)/256:Nat):Int):=by
  rw [show (P:Int)+256-1=((P+255:Nat):Int) by omega];rfl
 have l:=Bv ((P+255)/256) (by omega) (((P:Int)+255)/256) (by omega);have a:∀W,W=(w.alloc (.cells (List.replicate ((P+255)/256) (Value.pointer none)).toArray 283)).alloc (.cells #[.slice (some w.heap.size) ((P+255)/256) ((P+255)/256),(P:Int),(0:Int)] 214)->
   bW W (w.heap.size+1) w.heap.size (List.replicate ((P+255)/256) none) P (fun _=>0) 0/\(∀k,bQ (w.heap.size+1) w.heap.size (List.replicate ((P+255)/256) none) k->w.heap.size<=k)/\J7 w W:=by
  rintro W rfl;refine ⟨⟨?_,?_,by simp,?_,fun _ _ _ _=>rfl,?_,d,f,fun _=>by decide,fun _ _=>rfl⟩,?_,((Kb _ w).alloc _).alloc _⟩
  ·have:=ay.new (w.alloc (.cells (List.replicate ((P+255)/256) (Value.pointer none)).toArray 283)) [.slice (some w.heap.size) ((P+255)/256) ((P+255)/256),(P:Int),(0:Int)] 214;rw [World.size_alloc] at this;rw [bB];exact this
  ·rw [eD];exact (ay.new w _ _).alloc _
  ·intro i t b;rw [ff] at b;split at b<;>cases b
  ·intro i j t b;rw [ff] at b;split at b<;>cases b
  ·rintro k (h|h|h)
   ·omega
   ·omega
   ·have:=eS h;cases this
 have c:=ae a;clear a;generalize (List.replicate ((P+255)/256) (Value.pointer none)).toArray=Z at*
 go_enter func92,ntmps92
 go_wp2;go_ret2;exact ⟨_,_,_,_,rfl,c.out _ rfl⟩
end
theorem sc{w:World}{a b:Nat}{c c':List Value}{t d:TypeId}(h:ay w a c t)(f:ay w b c' d)(g:t≠d):a≠b:=fun e=>by
 grind [ay]
section
variable{w:World}{p Rm Pg Us Hg:Nat}{Tm:Int}{vw vt vb:Value}{ws:List Nat}{tk:List Bool}{bk:List Nat}{g gt:Nat}{ts:List (Option Nat)}{P:Nat}{fr:Nat->Nat}{n:Int}
theorem gQ(h:dl w p vw vt vb ws tk bk Rm Pg Us Hg Tm)(d:bW w g gt ts P fr n){k:Nat}(a:dK p vw vt vb k):¬bQ g gt ts k:=by
 intro hg;have e:∀{c:List Value} {t:TypeId},ay w k c t->t≠211->t≠34->t≠4->t≠3->False:=fun b j l m o=>by
  rcases a with a|a|a|a
  ·exact sc b h.Qd j (by rw [a])
  ·exact eQ h.rw b (Ne.symm l) a
  ·exact eQ h.rt b (Ne.symm m) a
  ·exact eQ h.rb b (Ne.symm o) a
 rcases hg with hg|hg|hg
 ·exact e (by rw [hg];exact d.Qd) (by decide) (by decide) (by decide) (by decide)
 ·exact e (by rw [hg];exact d.row) (by decide) (by decide) (by decide) (by decide)
 ·obtain ⟨i,f⟩:=bc.1 hg;exact e (d.Qo i k f) (by decide) (by decide) (by decide) (by decide)
theorem lN(h:dl w p vw vt vb ws tk bk Rm Pg Us Hg Tm){m:Nat}{c:List Value}(b:ay w m c 146):¬dK p vw vt vb m:=by
 rintro (a|a|a|a)
 ·exact sc b h.Qd (by decide) a
 ·exact eQ h.rw b (by decide) a
 ·exact eQ h.rt b (by decide) a
 ·exact eQ h.rb b (by decide) a
theorem mJ(h:bW w g gt ts P fr n){m:Nat}{c:List Value}(b:ay w m c 146):¬bQ g gt ts m:=by
 rintro (a|a|a)
 ·exact sc b h.Qd (by decide) a
 ·exact sc b h.row (by decide) a
 ·obtain ⟨i,d⟩:=bc.1 a;exact sc b (h.Qo i m d) (by decide) rfl
end
def dQ(w:World)(m:Nat)(S:Nat->Prop)(Pg W Rm Us Hg:Nat)(mp:Nat->Bool)(M:Nat->Nat):Prop:=
 ∃p vw vt vb ws tk bk Tm g gt ts fr n,ay w m [.pointer (some ⟨p,0,none⟩),.pointer (some ⟨g,0,none⟩),(W:Int)] 146/\dl w p vw vt vb ws tk bk Rm Pg Us Hg Tm/\bW w g gt ts (W/Pg) fr n/\
  (W% Pg=0/\W<=524288/\1<=W)/\(∀q f,fr q=f+1->tk[f]? =some true)/\(∀q q',fr q=fr q'->fr q≠0->q=q')/\Us=Qc (ep fr) 0 (W/Pg)/\(∀q,mp q=ep fr q)/\
  (∀a f,a<W->fr (a/Pg)=f+1->M a=ws.getD (f*Pg+a% Pg) 0)/\∀k,S k↔(k=m\/dK p vw vt vb k\/bQ g gt ts k)
theorem dQ.frame{T S:Nat->Prop}{w w':World}{m Pg W Rm Us Hg:Nat}{mp:Nat->Bool}{M:Nat->Nat}(h:dQ w m S Pg W Rm Us Hg mp M)(hf:Fr T w w')(c:∀k,S k->¬T k):dQ w' m S Pg W Rm Us Hg mp M:=by
 obtain ⟨p,A,z,y,ws,v,e,d,g,f,x,fr,n,i,j,l,o,q,r,s,t,u,a⟩:=h;exact ⟨p,A,z,y,ws,v,e,d,g,f,x,fr,n,i.frame hf (c _ ((a _).2 (.inl rfl))),j.frame hf (fun k b=>c k ((a k).2 (.inr (.inl b)))),l.frame hf (fun k b=>c k ((a k).2 (.inr (.inr b)))),o,q,r,s,t,u,a⟩
theorem dQ.Qb{S:Nat->Prop}{w w':World}{m Pg W Rm Us Hg:Nat}{mp:Nat->Bool}{M:Nat->Nat}(h:dQ w m S Pg W Rm Us Hg mp M)(hf:J7 w w'):dQ w' m S Pg W Rm Us Hg mp M:=h.frame hf (fun _ _ h=>h)
theorem dQ.at{S:Nat->Prop}{w:World}{m Pg W Rm Us Hg:Nat}{mp:Nat->Bool}{M:Nat->Nat}(h:dQ w m S Pg W Rm Us Hg mp M):1<=Pg/\Pg<=256/\W<=524288/\W% Pg=0/\Us<=Rm/\Rm<=4096/\Hg<=Rm/\Us=Qc mp 0 (W/Pg)/\1<=W:=by
 obtain ⟨p,x,v,u,ws,s,e,d,g,f,t,fr,n,i,a,j,b,k,l,o,q,r,c⟩:=h;refine ⟨a.Qu,a.Qp,b.2.1,b.1,?_,a.Xs,a.Qi,by grind [bY],b.2.2⟩;have:=a.Qc;have:=a.Ye;omega
theorem jq{a W Pg:Nat}(h:a<W)(hp:1<=Pg)(c:W% Pg=0):a/Pg<W/Pg:=by
 have b:W=Pg*(W/Pg):=by grind [Nat.div_add_mod]
 exact (aO (by omega)).2 (by grind)
section
variable{w:World}{m Pg W Rm Us Hg:Nat}{S:Nat->Prop}{mp:Nat->Bool}{M:Nat->Nat}
theorem dQ.Qr(h:dQ w m S Pg W Rm Us Hg mp M):∃p g i f e ws d b a,w.cell? m=some (.pointer (some ⟨p,0,none⟩))/\w.cell? ⟨m,1,none⟩=some (.pointer (some ⟨g,0,none⟩))/\w.cell? ⟨m,2,none⟩=some (W:Int)/\dl w p i f e ws d b Rm Pg Us Hg a:=by
 obtain ⟨p,i,f,e,ws,d,b,a,g,k,l,fr,n,c,j,_⟩:=h;exact ⟨p,g,i,f,e,ws,d,b,a,c.cell 0 rfl,c.cell 1 rfl,c.cell 2 rfl,j⟩
theorem fL(h:dQ w m S Pg W Rm Us Hg mp M):Calls prog 141 #[m] w fun e w'=>e= .returned (.bool false)/\w=w':=by
 obtain ⟨p,g,j,i,f,ws,d,b,a,c,_⟩:=h.Qr;clear h
 go_enter func141,ntmps141
 go_wp2;go_ret;exact ⟨rfl,rfl⟩
theorem gR(h:dQ w m S Pg W Rm Us Hg mp M):Calls prog 94 #[m] w fun e w'=>e= .returned (W:Int)/\w=w':=by
 have a:=ae (fL h);obtain ⟨p,g,k,j,i,ws,f,c,b,d,c1,c2,hp⟩:=h.Qr;clear h hp
 go_enter func94,ntmps94
 go_wp2_with fail
 refine a.out.mono ?_;rintro e w' ⟨rfl,rfl⟩;go_wp2;go_ret;exact ⟨rfl,rfl⟩
theorem jy(h:dQ w m S Pg W Rm Us Hg mp M):Calls prog 114 #[m] w fun e w'=>e= .returned (Pg:Int)/\w=w':=by
 have a:=ae (fL h);obtain ⟨p,g,l,k,j,ws,i,d,c,f,c1,c2,hp⟩:=h.Qr;have b:=ae (pI hp);clear h hp
 go_enter func114,ntmps114
 go_wp2_with fail
 refine a.out.mono ?_;rintro e w' ⟨rfl,rfl⟩;go_wp2_with fail
 refine b.out.mono ?_;rintro e w' ⟨rfl,rfl⟩;go_wp2;go_ret;exact ⟨rfl,rfl⟩
theorem Bm(h:dQ w m S Pg W Rm Us Hg mp M):Calls prog 96 #[m] w fun e w'=>e= .returned (Us:Int)/\w=w':=by
 have a:=ae (fL h);obtain ⟨p,g,l,k,j,ws,i,d,c,f,c1,c2,hp⟩:=h.Qr;have b:=ae (BR hp);clear h hp
 go_enter func96,ntmps96
 go_wp2_with fail
 refine a.out.mono ?_;rintro e w' ⟨rfl,rfl⟩;go_wp2_with fail
 refine b.out.mono ?_;rintro e w' ⟨rfl,rfl⟩;go_wp2;go_ret;exact ⟨rfl,rfl⟩
theorem Bn(h:dQ w m S Pg W Rm Us Hg mp M):Calls prog 95 #[m] w fun e w'=>e= .returned (Rm:Int)/\w=w':=by
 have a:=ae (fL h);obtain ⟨p,g,l,k,j,ws,i,d,c,f,c1,c2,hp⟩:=h.Qr;have b:=ae (BT hp);clear h hp
 go_enter func95,ntmps95
 go_wp2_with fail
 refine a.out.mono ?_;rintro e w' ⟨rfl,rfl⟩;go_wp2_with fail
 refine b.out.mono ?_;rintro e w' ⟨rfl,rfl⟩;go_wp2;go_ret;exact ⟨rfl,rfl⟩
def I0(w:World)(f i:Nat)(e:Ending)(w':World):Prop:=e= .returned (.tuple #[(f:Int),(i:Int),(0:Int)])/\J7 w w'
theorem vO{p g z n0:Nat}{I H G:Value}{ws:List Nat}{E:List Bool}{y:List Nat}{x n:Int}{F:List (Option Nat)}{fr:Nat->Nat}(h:dQ w m S Pg W Rm Us Hg mp M)
  (c:ay w m [p,g,(W:Int)] 146) (hp:dl w p I H G ws E y Rm Pg Us Hg x) (hg:bW w g z F (W/Pg) fr n) (a f:Nat) (C:a<W) (hf:fr (a/Pg)=f+1):
  Calls prog 218 #[m,(a:Int)] w (I0 w f (a% Pg)):=by
 have t:=ae (fL h);obtain ⟨p1,p2,R,q,_⟩:=h.at;have Q:=c.cell 0 rfl;have c1:w.drew.cell? ⟨m,1,none⟩=_:=c.drew.cell 1 rfl;have c2:=c.cell 2 rfl;have u:=ae (pI hp);have i:=hg.frame (S:=fun _=>False) ((Kb _ w).drew) (fun _ _ h=>h);have s:=ae (fun w' (b:J7 w.drew w')=>lO (i.frame b (fun _ _ h=>h)) (a/Pg) f (jq C p1 q) hf);have k:=ae (fun w' (b:J7 w.drew w')=>(c.drew.frame b id).cell 1 rfl);have o:=ae ((Kb (fun _=>False) w).drew);have T:(a:Int).tdiv (Pg:Int)=((a/Pg:Nat):Int):=fF a Pg;have U:(a:Int).tmod (Pg:Int)=((a% Pg:Nat):Int):=rfl;have J:a/Pg<=a:=aX _ _;have K:a% Pg<Pg:=aI _ (by omega);generalize a/Pg=A at*;generalize a% Pg=B at*;have D:¬Pg=0:=by omega
 have L:(a:Int)<(W:Int):=by omega
 have N:(W:Int)<=524288:=by omega
 have O:(A:Int)<=524288:=by omega
 have P:(B:Int)<=256:=by omega
 clear h c hp hg i hf q
 go_enter func218,ntmps218
 go_wp2_with fail
 refine t.out.mono ?_;rintro e w' ⟨rfl,rfl⟩;go_wp2_with fail
 refine u.out.mono ?_;rintro e w' ⟨rfl,rfl⟩;go_wp2;refine aV (fun w'=>J7 w.drew w') (by kernel_rfl) (Kb _ _) ?_;refine aL [m,m,.pointer (some ⟨m,1,none⟩),g,(a:Int),(Pg:Int)] ?_
 iterate 6 (refine aM rfl (fun r l=>by first|(go_simp;done)|(have d:=k.out _ l;go_simp)) ?_;simp only [aa])
 refine aK ?_;refine ai (A:Int) rfl (fun w b=>by go_simp;rw [IntKind.wrap_i64];omega) ?_;simp only [aa];refine bf (.tuple #[(f:Int),(0:Int)]) 179 #[g,(A:Int)] rfl (fun w=>by go_simp) (fun w b=>(s.out w b).mono fun e w' h=>⟨h.1,b.trans h.2 J8⟩) ?_;simp only [aa];refine aL [.tuple #[(f:Int),(0:Int)],(f:Int),(0:Int),(f:Int),(0:Int)] ?_
 iterate 5 (refine aM rfl (fun r l=>by go_simp) ?_;simp only [aa])
 refine aK ?_;refine wpQuiet_nil ?_;intro w1 j;have v:=ae (o.out.trans j J8);clear j c1;go_wp2;refine aV (fun w'=>w'=w1.drew) (by kernel_rfl) rfl ?_;refine aL [(f:Int),(a:Int),(Pg:Int),(B:Int),(0:Int),(f:Int),(B:Int),(0:Int)] ?_
 iterate 8 (refine aM rfl (fun r l=>by go_simp) ?_;simp only [aa])
 refine aK ?_;refine wpQuiet_nil ?_;rintro w2 rfl;go_wp2
 go_ret3
 exact ⟨rfl,v.out.drew⟩
theorem jB(h:dQ w m S Pg W Rm Us Hg mp M)(a:Nat)(t:a<W)(hp:mp (a/Pg)=true):Calls prog 187 #[m,(a:Int)] w fun e w'=>e= .returned (.tuple #[.int .u64 ((M a:Nat):Int),(0:Int)])/\J7 w w':=by
 obtain ⟨p,L,K,J,ws,H,E,D,g,G,I,fr,n,l,c,u,A,v,B,C,y,z,o⟩:=id h;rw [y] at hp;unfold ep at hp;obtain ⟨f,hf⟩:∃f,fr (a/Pg)=f+1:=⟨fr (a/Pg)-1,by rw [bne_iff_ne] at hp;omega⟩;have r:=ae (vO (n0:=0) h l c u a f t hf);rw [z a f t hf];have s:=ae (fun w1 (k:J7 w w1)=>Ev (c.frame k (fun _ _ h=>h)) f (a% Pg) (v _ f hf) (aI _ c.Qu));have q:=ae (fun w1 (k:J7 w w1)=>(l.frame k id).cell 0 rfl);generalize ws.getD (f*Pg+a% Pg) 0=x at*;generalize a% Pg=i at*;clear h l c u A v B C y z o hp hf
 go_enter func187,ntmps187
 go_wp2_with fail
 refine r.out.mono ?_;rintro e w1 ⟨rfl,b⟩;have F:=q.out w1 b;have j:=ae (s.out w1 b);have d:=ae b;clear b s q r;go_wp2_with fail
 refine j.out.mono ?_;rintro e w' ⟨rfl,rfl⟩;go_wp2;go_ret2;exact ⟨rfl,d.out⟩
def eb(M:Nat->Nat)(a x:Nat)(b:Nat):Nat:=if b=a then x else M b
theorem xZ{p g y f a x:Nat}{j s r:Value}{ws:List Nat}{o:List Bool}{u:List Nat}{t n:Int}{E:List (Option Nat)}{fr:Nat->Nat}{w1 w2:World}
  (G:ay w m [p,g,(W:Int)] 146) (l:dl w p j s r ws o u Rm Pg Us Hg t) (H:bW w g y E (W/Pg) fr n) (Q:W% Pg=0/\W<=524288/\1<=W) (I:∀q f,fr q=f+1->o[f]? =some true) (R:∀q F,fr q=fr F->fr q≠0->q=F) (T:Us=Qc (ep fr) 0 (W/Pg)) (U:∀q,mp q=ep fr q)
  (Y:∀a f,a<W->fr (a/Pg)=f+1->M a=ws.getD (f*Pg+a% Pg) 0) (i:∀k,S k↔(k=m\/dK p j s r k\/bQ g y E k)) (V:a<W) (hf:fr (a/Pg)=f+1)
  (D:J7 w w1) (hp:dl w2 p j s r (ws.set (f*Pg+a% Pg) x) o u Rm Pg Us Hg t) (c:Fr (fun k=>j.ownBlock=some k) w1 w2):dQ w2 m S Pg W Rm Us Hg mp (eb M a x)/\Fr S w w2:=by
 have C:=lN l G;refine ⟨⟨p,j,s,r,_,o,u,t,g,y,E,fr,n,(G.frame D id).frame c (fun e=>C (.inr (.inl e))),hp,(H.frame D (fun _ _ h=>h)).frame c (fun k A e=>gQ l H (.inr (.inl e)) A),Q,I,R,T,U,?_,i⟩,(D.mono (S':=S) J8).trans c (fun k A=> .inl ((i k).2 (.inr (.inl (.inr (.inl A))))))⟩;intro b v X J;unfold eb;have P:=l.Qu;have B:=aI a (show 0<Pg by omega);have N:=aI b (show 0<Pg by omega);have z:=(aj.1 (I _ f hf)).1;have L:=tT z B l.len;rw [bX,cq];by_cases e:b=a
 ·grind
 ·rw [if_neg e];have O:f*Pg+a% Pg≠v*Pg+b% Pg:=fun h=>by
   have K:f=v:=by
    rcases cW f v with d|d|d
    ·have:=iX (Pg:=Pg) d;omega
    ·exact d
    ·have:=iX (Pg:=Pg) d;omega
   grind [Nat.div_add_mod]
  simp_all
theorem pC(h:dQ w m S Pg W Rm Us Hg mp M)(a x:Nat)(C:a<W)(hp:mp (a/Pg)=true)(D:x<18446744073709551616):Calls prog 188 #[m,(a:Int),.int .u64 x] w fun e w'=>e= .returned (0:Int)/\dQ w' m S Pg W Rm Us Hg mp (eb M a x)/\Fr S w w':=by
 obtain ⟨p,U,T,R,ws,P,L,K,g,O,Q,fr,n,r,q,s,E,t,F,G,u,H,o⟩:=id h;rw [u] at hp;unfold ep at hp;obtain ⟨f,hf⟩:∃f,fr (a/Pg)=f+1:=⟨fr (a/Pg)-1,by rw [bne_iff_ne] at hp;omega⟩;have z:=ae (vO (n0:=0) h r q s a f C hf);have A:=ae (fun w1 (l:J7 w w1)=>BS (q.frame l (fun _ _ h=>h)) f (a% Pg) x (t _ f hf) (aI _ q.Qu) D);have v:=ae (fun w1 (l:J7 w w1)=>(r.frame l id).cell 0 rfl);have y:=ae (fun w1 w2 l hp c=>xZ (w1:=w1) (w2:=w2) (x:=x) r q s E t F G u H o C hf l hp c);generalize f*Pg+a% Pg=i at*;generalize a% Pg=j at*;clear h r q s E t F G u H o hp hf D
 go_enter func188,ntmps188
 go_wp2_with fail
 refine z.out.mono ?_;rintro e w1 ⟨rfl,b⟩;have N:=v.out w1 b;have k:=ae (A.out w1 b);have d:=ae (fun w2 hp c=>y.out w1 w2 b hp c);clear b A v z y;go_wp2_with fail
 refine k.out.mono ?_;rintro e w2 ⟨rfl,I,J⟩;have B:=ae (d.out w2 I J);clear I J d k;go_wp2;go_ret;exact ⟨rfl,B.out.1,B.out.2⟩
end
section
variable{w:World}{m Pg W Rm Us Hg:Nat}{S:Nat->Prop}{mp:Nat->Bool}{M:Nat->Nat}
def mq(w:World)(m:Nat)(S:Nat->Prop)(Pg W Rm used':Nat)(mp' mp:Nat->Bool)(M:Nat->Nat)(v:Value)(e:Ending)(w':World):Prop:=
 e= .returned v/\∃S' Hg' M',dQ w' m S' Pg W Rm used' Hg' mp' M'/\(∀a,a<W->mp (a/Pg)=true->mp' (a/Pg)=true->M' a=M a)/\Fr S w w'/\∀k,S' k->S k\/w.heap.size<=k
theorem ya{p g o f q0 y:Nat}{T R Q v u t:Value}{ws l:List Nat}{P B:List Bool}{Z z:List Nat}{Y c n V:Int}{C r:List (Option Nat)}{fr:Nat->Nat}{w1 w2 w3:World}
  (L:ay w m [p,g,(W:Int)] 146) (N:dl w p T R Q ws P Z Rm Pg Us Hg Y) (O:bW w g o C (W/Pg) fr n) (q4:W% Pg=0/\W<=524288/\1<=W) (X:∀q f,fr q=f+1->P[f]? =some true) (q6:∀q K,fr q=fr K->fr q≠0->q=K) (q7:Us=Qc (ep fr) 0 (W/Pg)) (q8:∀q,mp q=ep fr q)
  (q9:∀a f,a<W->fr (a/Pg)=f+1->M a=ws.getD (f*Pg+a% Pg) 0) (A:∀k,S k↔(k=m\/dK p T R Q k\/bQ g o C k)) (hq:q0<W/Pg) (h0:fr q0=0)
  (D:J7 w w1) (i:sm w1 w2 p T R Q ws P Rm Pg Us f v u t l B z y c) (hP:bW w3 g o r (W/Pg) (fX fr q0 (f+1)) V) (s:Fr (bQ g o C) w2 w3) (hn:∀k,bQ g o r k->bQ g o C k\/w2.heap.size<=k):
  mq w m S Pg W Rm (Us+1) (fun q=>mp q||q==q0) mp M (.int .i64 0) (.returned (0:Int)) w3:=by
 have J:=lN N L;have F:=mJ O L;have ag:=D.size;have ah:=i.fr.size;have E:bW w2 g o C (W/Pg) fr n:=(O.frame D (fun _ _ h=>h)).frame i.fr (fun k j e=>gQ N O e j);have G:=(L.frame D id).frame i.fr J;have I:=i.pool.frame s (fun k j e=>gQ i.pool E j e);have ad:∀q d,fr q=d+1->d≠f:=fun q d h e=>i.was (by grind)
 refine ⟨rfl,fun k=>k=m\/dK p v u t k\/bQ g o r k,y,fun a=>if a/Pg=q0 then l.getD (f*Pg+a% Pg) 0 else M a,⟨p,v,u,t,l,B,z,c,g,o,r,fX fr q0 (f+1),V,G.frame s F,I,hP,q4,?_,?_,?_,?_,?_,fun k=>dO⟩,?_,?_,?_⟩
 ·intro q d h;unfold fX at h;by_cases e:q=q0
  ·rw [if_pos e] at h;have:d=f:=by omega
   rw [this];exact i.now
  ·rw [if_neg e] at h;exact (i.Xo d (X q d h)).1
 ·intro q K h H;unfold fX at h H
  grind
 ·have:=mQ (fr:=fr) (p:=q0) (x:=f+1) (a:=0) (b:=W/Pg) (ao _) hq
  grind
 ·grind [ep,fX]
 ·intro a d U h;unfold fX at h;show (if a/Pg=q0 then l.getD (f*Pg+a% Pg) 0 else M a)=_
  by_cases e:a/Pg=q0
  ·grind
  ·rw [if_neg e] at h ⊢;rw [q9 a d U h];exact ((i.Xo d (X _ d h)).2 (a% Pg) (aI _ N.Qu)).symm
 ·intro a U hm _;show (if a/Pg=q0 then l.getD (f*Pg+a% Pg) 0 else M a)=M a
  rw [if_neg]
  grind [ep]
 ·exact ((D.mono (S':=S) J8).trans i.fr (fun k j=> .inl ((A k).2 (.inr (.inl j))))).trans s (fun k j=> .inl ((A k).2 (.inr (.inr j))))
 ·rintro k (j|j|j)
  ·grind
  ·rcases i.own k j with h|h
   ·grind
   omega
  grind
theorem Ge(h:dQ w m S Pg W Rm Us Hg mp M)(q:Nat)(P:q<W/Pg)(H:mp q=false)(hr:Us<Rm):Calls prog 146 #[m,(q:Int)] w (mq w m S Pg W Rm (Us+1) (fun k=>mp k||k==q) mp M (.int .i64 0)):=by
 have HN:=ae (fL h);obtain ⟨p,vw,vt,vb,ws,tk,bk,Tm,g,R,X,fr,n,A,B,N,q4,q5,q6,q7,V,q9,L⟩:=id h;have O:fr q=0:=by
  rw [V] at H;unfold ep at H;rwa [bne_eq_false_iff_eq] at H
 have J:=lN B A;have c1:=A.cell 1 rfl;have Y:=ae (vC N q P O);have Z:=ae (fun w1 (y:J7 w w1)=>(af ((A.frame y id).cell 0 rfl) (Eo (B.frame y (fun _ _ h=>h)) hr)));have u:∀w1 w2 f l j i o d c b a,J7 w w1->sm w1 w2 p vw vt vb ws tk Rm Pg Us f l j i o d c b a->w2.cell? ⟨m,1,none⟩=some g/\Calls prog 181 #[g,(q:Int),(f:Int)] w2 (ju w2 g R X (W/Pg) fr q (f+1) (.int .i64 0)):=by
  intro w1 w2 f l j i o d c b a y z;have T:bW w2 g R X (W/Pg) fr n:=(N.frame y (fun _ _ h=>h)).frame z.fr (fun k hk e=>gQ B N e hk);have U:=(A.frame y id).frame z.fr J;have ad:=(aj.1 z.now).1;have:=z.pool.Ye;have:=B.Xs;exact ⟨U.cell 1 rfl,FH T q f P (by omega) O⟩
 have s:=ae u;have t:∀w1 w2 f l j i o d c b a e w3,J7 w w1->sm w1 w2 p vw vt vb ws tk Rm Pg Us f l j i o d c b a->ju w2 g R X (W/Pg) fr q (f+1) (.int .i64 0) e w3->e= .returned (0:Int)/\mq w m S Pg W Rm (Us+1) (fun k=>mp k||k==q) mp M (.int .i64 0) (.returned (0:Int)) w3:=by
  rintro w1 w2 f l j i o d c b a e w3 y z ⟨rfl,ag,n',r1,r2,r3⟩;exact ⟨rfl,ya A B N q4 q5 q6 q7 V q9 L P O y z r1 r2 r3⟩
 have r:=ae t;generalize mq w m S Pg W Rm (Us+1) (fun k=>mp k||k==q) mp M (.int .i64 0)=Q at*;clear h A B N q4 q5 q6 q7 V q9 L J u t H P O
 go_enter func146,ntmps146
 go_wp2_with fail
 refine HN.out.mono ?_;rintro e w' ⟨rfl,rfl⟩;go_wp2_with fail
 refine Y.out.mono ?_;rintro e w1 ⟨rfl,x⟩;obtain ⟨c0,G⟩:=Z.out w1 x;have F:=ae G;have D:=ae x;clear x G Z Y c1;go_wp2_with fail
 refine F.out.mono ?_;rintro e w2 ⟨f,l,j,i,o,d,c,b,a,rfl,v⟩;obtain ⟨c1,I⟩:=s.out w1 w2 f l j i o d c b a D.out v;have E:=ae I;have C:=ae (fun e w3=>r.out w1 w2 f l j i o d c b a e w3 D.out v);clear I v s r F c0;go_wp2_with fail
 refine E.out.mono ?_;intro e w3 hs;obtain ⟨rfl,K⟩:=C.out e w3 hs;have HQ:=ae K;clear hs K C E;go_wp2;exact HQ.out
theorem Gf(h:dQ w m S Pg W Rm Us Hg mp M)(q:Nat)(i:q<W/Pg)(b:mp q=true):Calls prog 146 #[m,(q:Int)] w fun e w'=>e= .returned (13:Int)/\J7 w w':=by
 have r:=ae (fL h);obtain ⟨p,G,F,E,ws,C,A,z,g,B,D,fr,n,j,s,k,t,u,v,x,l,y,d⟩:=id h;rw [l] at b;unfold ep at b;obtain ⟨f,hf⟩:∃f,fr q=f+1:=⟨fr q-1,by rw [bne_iff_ne] at b;omega⟩;have c1:=j.cell 1 rfl;have o:=ae (lO k q f i hf);clear h j s k t u v x l y d b i hf
 go_enter func146,ntmps146
 go_wp2_with fail
 refine r.out.mono ?_;rintro e w' ⟨rfl,rfl⟩;go_wp2_with fail
 refine o.out.mono ?_;rintro e w1 ⟨rfl,a⟩;have c:=ae a;clear a;go_wp2;go_ret;exact ⟨rfl,c.out⟩
theorem ut{p g o f q0:Nat}{t s y l:Value}{ws:List Nat}{u:List Bool}{A:List Nat}{z n L:Int}{v j:List (Option Nat)}{fr:Nat->Nat}{w2 w3:World}
  (I:ay w m [p,g,(W:Int)] 146) (J:dl w p t s y ws u A Rm Pg Us Hg z) (N:bW w g o v (W/Pg) fr n) (U:W% Pg=0/\W<=524288/\1<=W) (Z:∀q f,fr q=f+1->u[f]? =some true) (q6:∀q H,fr q=fr H->fr q≠0->q=H) (q7:Us=Qc (ep fr) 0 (W/Pg)) (q8:∀q,mp q=ep fr q)
  (q9:∀a f,a<W->fr (a/Pg)=f+1->M a=ws.getD (f*Pg+a% Pg) 0) (d:∀k,S k↔(k=m\/dK p t s y k\/bQ g o v k)) (Q:q0<W/Pg) (V:fr q0=f+1)
  (K:bW w2 g o j (W/Pg) (fX fr q0 0) L) (i:Fr (bQ g o v) w w2) (Y:∀k,bQ g o j k->bQ g o v k\/w.heap.size<=k)
  (P:dl w3 p t s l ws (u.set f false) (A++[f]) Rm Pg (Us-1) Hg z) (r:Fr (dK p t s y) w2 w3) (R:∀g,l.ownBlock=some g->y.ownBlock=some g\/w2.heap.size<=g):
  mq w m S Pg W Rm (Us-1) (fun q=>mp q&& !(q==q0)) mp M (.int .i64 0) (.returned (0:Int)) w3:=by
 have G:=lN J I;have C:=mJ N I;have T:=i.size;have F:=J.frame i (fun k c e=>gQ J N c e);have D:=I.frame i C;have B:=K.frame r (fun k c e=>gQ F K e c);refine ⟨rfl,fun k=>k=m\/dK p t s l k\/bQ g o j k,Hg,M,⟨p,t,s,l,ws,u.set f false,A++[f],z,g,o,j,fX fr q0 0,L,D.frame r G,P,B,U,?_,?_,?_,?_,?_,fun k=>dO⟩,fun _ _ _ _=>rfl,?_,?_⟩
 ·intro q O h;unfold fX at h
  grind
 ·intro q H h E;unfold fX at h E
  grind
 ·have:=mQ (fr:=fr) (p:=q0) (x:=0) (a:=0) (b:=W/Pg) (ao _) Q
  grind
 ·grind [ep,fX]
 ·intro a O X h;unfold fX at h
  grind
 ·exact (i.mono (S':=S) (fun k c=> .inl ((d k).2 (.inr (.inr c))))).trans r (fun k c=> .inl ((d k).2 (.inr (.inl c))))
 ·rintro k (c|c|c)
  ·grind
  ·rcases c with c|c|c|c
   ·exact .inl ((d k).2 (.inr (.inl (.inl c))))
   ·exact .inl ((d k).2 (.inr (.inl (.inr (.inl c)))))
   ·exact .inl ((d k).2 (.inr (.inl (.inr (.inr (.inl c))))))
   ·rcases R k c with h|h
    ·exact .inl ((d k).2 (.inr (.inl (.inr (.inr (.inr h))))))
    omega
  grind
theorem mK(h:dQ w m S Pg W Rm Us Hg mp M)(q:Nat)(u:q<W/Pg)(t:mp q=true):Calls prog 117 #[m,(q:Int)] w (mq w m S Pg W Rm (Us-1) (fun k=>mp k&& !(k==q)) mp M (.int .i64 0)):=by
 have J:=ae (fL h);obtain ⟨p,vw,vt,vb,ws,tk,bk,Z,g,L,V,fr,n,o,v,s,F,y,G,H,z,I,r⟩:=id h;rw [z] at t;unfold ep at t;obtain ⟨f,hf⟩:∃f,fr q=f+1:=⟨fr q-1,by rw [bne_iff_ne] at t;omega⟩;have E:1<=Us:=by
  have:=mQ (fr:=fr) (p:=q) (x:=0) (a:=0) (b:=W/Pg) (ao _) u;rw [if_neg (by omega),if_pos rfl] at this;omega
 have j:=mJ s o;have c1:=o.cell 1 rfl;have B:=ae (Dr s q f u hf);have c:∀e w2,ju w g L V (W/Pg) fr q 0 (.tuple #[(f:Int),(0:Int)]) e w2->e= .returned (.tuple #[(f:Int),(0:Int)])/\w2.cell? m=some p/\Calls prog 166 #[p,(f:Int)] w2 (fun e w3=>e= .returned (0:Int)/\mq w m S Pg W Rm (Us-1) (fun k=>mp k&& !(k==q)) mp M (.int .i64 0) (.returned (0:Int)) w3):=by
  rintro e w2 ⟨rfl,X,n',O,A,P⟩;refine ⟨rfl,(o.frame A j).cell 0 rfl,(EF (v.frame A (fun k N e=>gQ v s N e)) f (y q f hf) E).mono ?_⟩;rintro e w3 ⟨rfl,Y,R,T,U⟩;exact ⟨rfl,ut o v s F y G H z I r u hf O A P R T U⟩
 have C:=ae c;generalize mq w m S Pg W Rm (Us-1) (fun k=>mp k&& !(k==q)) mp M (.int .i64 0)=Q at*;clear h o v s F y G H z I r j c t u hf E
 go_enter func117,ntmps117
 go_wp2_with fail
 refine J.out.mono ?_;rintro e w' ⟨rfl,rfl⟩;go_wp2_with fail
 refine B.out.mono ?_;intro e w2 D;obtain ⟨rfl,c0,i⟩:=C.out e w2 D;have d:=ae i;clear D i C B c1;go_wp2_with fail
 refine d.out.mono ?_;rintro e w3 ⟨rfl,l⟩;have K:=ae l;clear l d;go_wp2;exact K.out
end
end Go.Proofs.YtgnoapadkncphaaGreatDoor
