import Derived.Test.YthahbijbpinneaaGreatDoorA7
import Derived.Test.YthahbijbpinneaaGreatDoorA8
import Derived.Test.YthahbijbpinneaaGreatDoorA13
import Derived.Deep.RegionHeld
set_option maxRecDepth 100000
set_option maxHeartbeats 8000000
set_option linter.all false
namespace Go.Proofs.YthahbijbpinneaaGreatDoor
open Go.RowKit
theorem tR {w:World} (g k r:Nat) (A:k<=64) (h:∀j,j<k->∃a b c:Int,w.cell? ⟨g,j*3,none⟩=some (.int .i64 a)∧w.cell? ⟨g,j*3+1,none⟩=some (.int .i64 b)∧w.cell? ⟨g,j*3+2,none⟩=some (.int .i64 c)∧a<=b∧b<=c):
  Calls Tryz.prog 239 #[.slice (some ⟨g,0,none⟩) k r] w fun e w'=>e= .returned (.bool true)∧Fr (fun _=>False) w w':=by
 have H:=ae (fun (j:Nat) (w1:World) (hf:Fr (fun _=>False) w w1) (p:j<k)=>(show∃a b c:Int,w1.cell? ⟨g,j*3,none⟩=some (.int .i64 a)∧w1.cell? ⟨g,j*3+1,none⟩=some (.int .i64 b)∧w1.cell? ⟨g,j*3+2,none⟩=some (.int .i64 c)∧a<=b∧b<=c from by
  obtain ⟨a,b,c,f,i,o,s⟩:=h j p;exact ⟨a,b,c,(World.cell?_of_block (w:=w) (hf.block _ (aD f) (fun h=>h))).trans f,(World.cell?_of_block (w:=w) (hf.block _ (aD i) (fun h=>h))).trans i,(World.cell?_of_block (w:=w) (hf.block _ (aD o) (fun h=>h))).trans o,s⟩))
 have n:=ae (Fr.refl (fun _=>False) w);clear h
 go_enter Tryz.func239,Tryz.ntmps239
 go_wp2
 go_loopw [7] (fun x wr=>∃j:Nat,x= .int .i64 j∧j<=k∧Hid (Fr (fun _=>False) w wr)) (fun x _=>(k-intOf x).toNat)
 case atStart=>exact ⟨0,rfl,Nat.zero_le _,n⟩
 case round=>
  clear n;obtain ⟨j,rfl,p,l⟩:=hrel;by_cases d:j<k
  ·obtain ⟨a,b,c,v,y,z,f,i⟩:=H.out j wr l.out d;have q:=ae (l.out.alloc (.cells #[.int .i64 a,.int .i64 b,.int .i64 c] 50));have c1:(j:Int)<(k:Int):=by omega
   have t:¬b<a:=by omega
   have u:¬c<b:=by omega
   clear l H f i;go_wp2;go_roundw
   case rel=>exact ⟨j+1,by go_num,by omega,q⟩
   case measure=>simp [intOf];omega
  ·have m:j=k:=by omega
   subst m;have c1:¬(j:Int)<(j:Int):=by omega
   clear H d;go_wp2;go_ret;exact ⟨rfl,l.out⟩
def cP (F Tp T Li B st ah:Nat):Value:= .agg #[.int .i64 F,.int .i64 Tp,.int .i64 T,.int .i64 Li,.int .i64 B,.int .i64 st,.int .i64 ah]
structure gw (Pg W F Tp T Li B st ah:Nat):Prop where
 B0:aL (B:Int)=true
 B1:1<=B
 B2:B<=1024
 s1:1<=st
 s2:st<=4096
 a1:ah<=16
 F1:Pg<=F
 F2:F<=Tp
 F3:Tp<=W
 T1:Pg<=T
 T2:T<Li
 T3:Li<=W
 F4:F% Pg=0
 T4:T% Pg=0
 L4:Li% Pg=0
 P:aL (Pg:Int)=true
 ap:Li<=F∨(Tp+Pg-1)/Pg*Pg<=T
section
variable {w:World} {m Pg W Fs Us Hg:Nat} {S:Nat->Prop} {mp:Nat->Bool} {M:Nat->Nat}
theorem lM (L:bn w m S Pg W Fs Us Hg mp M) {F Tp T d B K H:Nat} (f:gw Pg W F Tp T d B K H):
  Calls Tryz.prog 188 #[m,cP F Tp T d B K H] w fun e w'=>e= .returned (.int .i64 0)∧Fr (fun _=>False) w w':=by
 obtain ⟨p1,p2,hW,ad,_,_,_,_,Z⟩:=L.at;have A:=ae (fun w1 (hf:Fr (fun _=>False) w w1)=>dJ (L.keep hf));have E:=ae (fun w1 (hf:Fr (fun _=>False) w w1)=>cL (L.keep hf));have C:=ae (fun w1=>eb (B:Int) (by have:=f.B2;omega) true f.B0 w1);have r:=ae (fun w1=>wv Tp Pg f.P p1 (by omega) (by have:=f.F3;omega) w1);obtain ⟨u,I⟩:∃u,u=(Tp+Pg-1)/Pg*Pg:=⟨_,rfl⟩;have o:=f.ap;rw [<-I] at r o;have q1:((F:Int).tmod (Pg:Int))=0:=by rw [show ((F:Int).tmod (Pg:Int))=((F% Pg:Nat):Int) from rfl,f.F4];rfl
 have q2:((T:Int).tmod (Pg:Int))=0:=by rw [show ((T:Int).tmod (Pg:Int))=((T% Pg:Nat):Int) from rfl,f.T4];rfl
 have q3:((d:Int).tmod (Pg:Int))=0:=by rw [show ((d:Int).tmod (Pg:Int))=((d% Pg:Nat):Int) from rfl,f.L4];rfl
 have aq:((Pg:Int)==0)=false:=by rw [beq_eq_false_iff_ne];omega
 have am:¬Pg=0:=by omega
 have G:=ae (fun (w1:World) (g:Nat) (a:aj w1 g [.int .i64 1,.int .i64 B,.int .i64 1024,.int .i64 1,.int .i64 K,.int .i64 4096,.int .i64 0,.int .i64 H,.int .i64 16,.int .i64 Pg,.int .i64 F,.int .i64 W,.int .i64 F,.int .i64 Tp,.int .i64 W,.int .i64 Pg,.int .i64 T,.int .i64 W,.int .i64 T,.int .i64 d,.int .i64 W] 50)=>tR (w:=w1) g 7 7 (by omega) (fun j hj=>by
  have hh:=f;obtain ⟨B0,B1,B2,s1,s2,a1,F1,F2,F3,T1,T2,T3,_,_,_,_,_⟩:=hh
  match j,hj with
  |0,_=>exact ⟨_,_,_,a.cell 0 rfl,a.cell 1 rfl,a.cell 2 rfl,by omega,by omega⟩
  |1,_=>exact ⟨_,_,_,a.cell 3 rfl,a.cell 4 rfl,a.cell 5 rfl,by omega,by omega⟩
  |2,_=>exact ⟨_,_,_,a.cell 6 rfl,a.cell 7 rfl,a.cell 8 rfl,by omega,by omega⟩
  |3,_=>exact ⟨_,_,_,a.cell 9 rfl,a.cell 10 rfl,a.cell 11 rfl,by omega,by omega⟩
  |4,_=>exact ⟨_,_,_,a.cell 12 rfl,a.cell 13 rfl,a.cell 14 rfl,by omega,by omega⟩
  |5,_=>exact ⟨_,_,_,a.cell 15 rfl,a.cell 16 rfl,a.cell 17 rfl,by omega,by omega⟩
  |6,_=>exact ⟨_,_,_,a.cell 18 rfl,a.cell 19 rfl,a.cell 20 rfl,by omega,by omega⟩))
 obtain ⟨W1,i⟩:∃W1,w.alloc (.cells #[.int .i64 F,.int .i64 Tp,.int .i64 T,.int .i64 d,.int .i64 B,.int .i64 K,.int .i64 H] 143)=W1:=⟨_,rfl⟩;have t:Fr (fun _=>False) w W1:=by rw [<-i];exact (Fr.refl _ w).alloc _
 have b:aj W1 w.heap.size [.int .i64 F,.int .i64 Tp,.int .i64 T,.int .i64 d,.int .i64 B,.int .i64 K,.int .i64 H] 143:=by rw [<-i];exact aj.new w _ _
 have s:=f.T2;have hN:F<=524288∧T<=524288∧d<=524288∧Tp<=524288:=by have:=f.F2;have:=f.F3;have:=f.T3;omega
 have p:=ae t;have v:=ae b;have z:=ae (A.out W1 t);have Q:=b.cell 0 rfl;have R:=b.cell 1 rfl;have U:=b.cell 2 rfl;have V:=b.cell 3 rfl;have k4:=b.cell 4 rfl;have k5:=b.cell 5 rfl;have k6:=b.cell 6 rfl;clear L f t b I;unfold cP
 go_enter Tryz.func188,Tryz.ntmps188
 go_wp2_with fail
 refine (z.out).mono ?_;rintro e w' ⟨rfl,rfl⟩;have D:=ae (E.out W1 p.out);go_wp2_with fail
 refine (D.out).mono ?_;rintro e w' ⟨rfl,rfl⟩;clear D z A E i;go_wp2_with fail
 refine (C.out W1).mono ?_;rintro e w' ⟨rfl,rfl⟩;clear C;go_wp2_with fail
 refine (G.out _ _ (aj.new W1 _ _)).mono ?_;rintro e w2 ⟨rfl,J⟩;have n:Fr (fun _=>False) W1 w2:=((Fr.refl (fun _=>False) W1).alloc _).trans J (fun _ h=>h.elim);have k:=v.out.frame n (fun h=>h);have y:=ae (p.out.trans n (fun _ h=>h.elim));have x:=ae k;have j0:=k.drew.cell 0 rfl;have j2:=k.drew.cell 2 rfl;have j3:=k.drew.cell 3 rfl;clear n J k v p G Q R U V k4 k5 k6;go_wp2;refine au (fun w'=>w'=w2.drew) (by kernel_rfl) (by kernel_rfl) rfl ?_;refine ag (.pointer (some ⟨w.heap.size,0,none⟩)) rfl (fun w' c=>by go_simp) ?_;simp only [Act.put,aa,ab,ac];refine ag (.int .i64 F) rfl (fun w' c=>by subst c;go_simp) ?_;simp only [Act.put,aa,ab,ac];refine ag (.int .i64 Pg) rfl (fun w' c=>by go_simp) ?_;simp only [Act.put,aa,ab,ac];refine ag (.int .i64 0) rfl (fun w' c=>by go_simp) ?_;simp only [Act.put,aa,ab,ac];refine ag (.pointer (some ⟨w.heap.size,2,none⟩)) rfl (fun w' c=>by go_simp) ?_;simp only [Act.put,aa,ab,ac];refine ag (.int .i64 T) rfl (fun w' c=>by subst c;go_simp) ?_;simp only [Act.put,aa,ab,ac];refine ag (.int .i64 Pg) rfl (fun w' c=>by go_simp) ?_;simp only [Act.put,aa,ab,ac];refine ag (.int .i64 0) rfl (fun w' c=>by go_simp) ?_;simp only [Act.put,aa,ab,ac];refine ag (.int .i64 0) rfl (fun w' c=>by go_simp;rfl) ?_;simp only [Act.put,aa,ab,ac];refine ag (.pointer (some ⟨w.heap.size,3,none⟩)) rfl (fun w' c=>by go_simp) ?_;simp only [Act.put,aa,ab,ac];refine ag (.int .i64 d) rfl (fun w' c=>by subst c;go_simp) ?_;simp only [Act.put,aa,ab,ac];refine ag (.int .i64 Pg) rfl (fun w' c=>by go_simp) ?_;simp only [Act.put,aa,ab,ac];refine ag (.int .i64 0) rfl (fun w' c=>by go_simp) ?_;simp only [Act.put,aa,ab,ac];refine ag (.int .i64 0) rfl (fun w' c=>by go_simp;rfl) ?_;simp only [Act.put,aa,ab,ac];refine ag (.bool false) rfl (fun w' c=>by go_simp) ?_;simp only [Act.put,aa,ab,ac];refine wpQuiet_nil ?_;rintro w3 rfl;have l:=x.out.drew;have Q:=l.cell 0 rfl;have R:=l.cell 1 rfl;have U:=l.cell 2 rfl;have V:=l.cell 3 rfl;have q:=ae (y.out.drew);clear l x y j0 j2 j3;go_wp2_with fail
 refine (r.out _).mono ?_;rintro e w' ⟨rfl,rfl⟩;clear r;have c1:(T:Int)<(d:Int):=by omega
 by_cases N:F<u
 ·have X:(F:Int)<(u:Int):=by omega
  by_cases O:F<d
  ·have Y:(F:Int)<(d:Int):=by omega
   have d3:¬(T:Int)<(u:Int):=by omega
   clear o N O s;go_wp2;go_ret;exact ⟨rfl,q.out⟩
  ·have Y:¬(F:Int)<(d:Int):=by omega
   clear o N O s;go_wp2;go_ret;exact ⟨rfl,q.out⟩
 ·have X:¬(F:Int)<(u:Int):=by omega
  clear o N s;go_wp2;go_ret;exact ⟨rfl,q.out⟩
end
def bR (w:World) (b m Ba top Lm:Nat):Prop:=aj w b [.pointer (some ⟨m,0,none⟩),.int .i64 Ba,.int .i64 top,.int .i64 Lm] 243
section
variable {w:World} {b m Ba top Lm:Nat}
theorem et (h:bR w b m Ba top Lm):Calls Tryz.prog 158 #[b] w fun e w'=>e= .returned (.bool false)∧w=w':=by
 have a:=h.cell 0 rfl;clear h
 go_enter Tryz.func158,Tryz.ntmps158
 go_wp2;go_ret;exact ⟨rfl,rfl⟩
theorem ep (h:bR w b m Ba top Lm):Calls Tryz.prog 75 #[b] w fun e w'=>e= .returned (.int .i64 Ba)∧w=w':=by
 have a:=ae (et h);have c:=h.cell 1 rfl;clear h
 go_enter Tryz.func75,Tryz.ntmps75
 go_wp2_with fail
 refine (a.out).mono ?_;rintro e w1 ⟨rfl,rfl⟩;clear a;go_wp2;go_ret;exact ⟨rfl,rfl⟩
theorem gO (h:bR w b m Ba top Lm):Calls Tryz.prog 76 #[b] w fun e w'=>e= .returned (.int .i64 top)∧w=w':=by
 have a:=ae (et h);have c:=h.cell 2 rfl;clear h
 go_enter Tryz.func76,Tryz.ntmps76
 go_wp2_with fail
 refine (a.out).mono ?_;rintro e w1 ⟨rfl,rfl⟩;clear a;go_wp2;go_ret;exact ⟨rfl,rfl⟩
theorem nx (h:bR w b m Ba top Lm) (x:Nat) (g:Ba<=x) (i:x<=Lm):Calls Tryz.prog 77 #[b,.int .i64 x] w fun e w'=>e= .returned (.int .i64 0)∧bR w' b m Ba x Lm∧Fr (fun k=>k=b) w w':=by
 have a:=ae (et h);have c1:=h.cell 1 rfl;have c2:=h.cell 2 rfl;have o:=h.free 2;have j:=h.cell 3 rfl;have c:Hid (∀w',w'=w.setCell ⟨b,2,none⟩ (.int .i64 x)->bR w' b m Ba x Lm∧Fr (fun k=>k=b) w w'):=by
  show∀w',_
  rintro w' rfl;exact ⟨h.set 2 _,(Fr.refl (fun k=>k=b) w).setCell ⟨b,2,none⟩ (.inl rfl) _⟩
 have l:decide ((x:Int)<(Ba:Int))=false:=by rw [decide_eq_false_iff_not];omega
 have n:decide ((Lm:Int)<(x:Int))=false:=by rw [decide_eq_false_iff_not];omega
 have d:¬(x:Int)<(Ba:Int):=by omega
 have f:¬(Lm:Int)<(x:Int):=by omega
 clear h g i
 go_enter Tryz.func77,Tryz.ntmps77
 go_wp2_with fail
 refine (a.out).mono ?_;rintro e w1 ⟨rfl,rfl⟩;clear a;go_wp2;go_ret;exact ⟨rfl,c.out _ rfl⟩
theorem mf {S:Nat->Prop} {Pg W Rm Us Hg:Nat} {mp:Nat->Bool} {M:Nat->Nat} (h:bn w m S Pg W Rm Us Hg mp M) (Ba Lm:Nat) (i:Ba<=Lm) (j:Lm<=W):Calls Tryz.prog 121 #[m,.int .i64 Ba,.int .i64 Lm] w fun e w'=>∃b,e= .returned (.tuple #[.pointer (some ⟨b,0,none⟩),.int .i64 0])∧bR w' b m Ba Ba Lm∧w.heap.size<=b∧Fr (fun _=>False) w w':=by
 have a:=ae (cL h);obtain ⟨_,_,_,_,_,_,_,_,c⟩:=h.at;have k:((W:Int)==0)=false:=by rw [beq_eq_false_iff_ne];omega
 have l:¬(Ba:Int)<0:=by omega
 have n:decide ((Lm:Int)<(Ba:Int))=false:=by rw [decide_eq_false_iff_not];omega
 have f:¬(Lm:Int)<(Ba:Int):=by omega
 have o:decide ((W:Int)<(Lm:Int))=false:=by rw [decide_eq_false_iff_not];omega
 have g:¬(W:Int)<(Lm:Int):=by omega
 have d:Hid (∀w',w'=w.alloc (.cells #[m,.int .i64 Ba,.int .i64 Ba,.int .i64 Lm] 243)->bR w' w.heap.size m Ba Ba Lm∧w.heap.size<=w.heap.size∧Fr (fun _=>False) w w'):=by
  show∀w',_
  rintro w' rfl;exact ⟨aj.new w _ _,Nat.le_refl _,(Fr.refl _ w).alloc _⟩
 clear h i j c
 go_enter Tryz.func121,Tryz.ntmps121
 go_wp2_with fail
 refine (a.out).mono ?_;rintro e w1 ⟨rfl,rfl⟩;go_wp2_with fail
 refine (a.out).mono ?_;rintro e w1 ⟨rfl,rfl⟩;clear a;go_wp2;refine bodyPost_ret (results_tmp2 rfl _ _ _) rfl ?_;exact ⟨_,rfl,d.out _ rfl⟩
theorem rV (h:bR w b m Ba top Lm) (n:Nat) (i:1<=n) (l:top<=Lm) (k:Lm-top<n) (j:Lm<=1048576):Calls Tryz.prog 124 #[b,.int .i64 n] w fun e w'=>e= .returned (.tuple #[.int .i64 0,.int .i64 21])∧Fr (fun _=>False) w w':=by
 have a:=ae (et h);have c2:=h.cell 2 rfl;have d:=h.cell 3 rfl;have f:¬(n:Int)<1:=by omega
 have o:IntKind.i64.wrap ((Lm:Int)-(top:Int))=(Lm:Int)-(top:Int):=by rw [IntKind.wrap_i64];omega
 have g:decide ((Lm:Int)-(top:Int)<(n:Int))=true:=by rw [decide_eq_true_eq];omega
 have c:(Lm:Int)-(top:Int)<(n:Int):=by omega
 clear h
 go_enter Tryz.func124,Tryz.ntmps124
 go_wp2_with fail
 refine (a.out).mono ?_;rintro e w1 ⟨rfl,rfl⟩;clear a;go_wp2
 go_quiet (fail)
 go_wp2;go_ret2;exact ⟨rfl,(Fr.refl _ _).drewN _⟩
end
section
variable {w:World} {b m Ba top Lm:Nat} {S:Nat->Prop} {Pg W Rm Us Hg:Nat} {mp:Nat->Bool} {M:Nat->Nat}
def tX (w:World) (b m Ba top Lm n:Nat) (S:Nat->Prop) (Pg W Rm Us:Nat) (mp:Nat->Bool) (M:Nat->Nat) (e:Ending) (w':World):Prop:=
 e= .returned (.tuple #[.int .i64 top,.int .i64 0])∧bR w' b m Ba (top+n) Lm∧∃S' Hg' mp' M',bn w' m S' Pg W Rm (Us+cnt (bX mp) (top/Pg) ((top+n-1)/Pg+1)) Hg' mp' M'∧(∀q,mp' q=(mp q||(decide (top/Pg<=q)&&decide (q<=(top+n-1)/Pg))))∧(∀a,a<W->mp (a/Pg)=true->M' a=M a)∧Fr (fun k=>S k∨k=b) w w'∧∀k,S' k->S k∨w.heap.size<=k
theorem kX (h:bR w b m Ba top Lm) (s:bn w m S Pg W Rm Us Hg mp M) (o:¬S b) (n:Nat) (F:1<=n) (J:top+n<=Lm) (G:Lm<=W) (g:Us+cnt (bX mp) (top/Pg) ((top+n-1)/Pg+1)<=Rm):Calls Tryz.prog 124 #[b,.int .i64 n] w (tX w b m Ba top Lm n S Pg W Rm Us mp M):=by
 have v:=ae (et h);have H:=s.at.2.2.1;have C:=h.cell 0 rfl;have c2:=h.cell 2 rfl;have D:=h.cell 3 rfl;have P:¬(n:Int)<1:=by omega
 have a:IntKind.i64.wrap ((Lm:Int)-(top:Int))=(Lm:Int)-(top:Int):=by rw [IntKind.wrap_i64];omega
 have K:IntKind.i64.wrap ((top:Int)+(n:Int))=(top:Int)+(n:Int):=by rw [IntKind.wrap_i64];omega
 have Q:decide ((Lm:Int)-(top:Int)<(n:Int))=false:=by rw [decide_eq_false_iff_not];omega
 have E:¬(Lm:Int)-(top:Int)<(n:Int):=by omega
 have d:=ae (fun w1 (hf:Fr (fun _=>False) w w1)=>ik (s.keep hf) top (top+n) (by omega) (by omega) g);rw [show ((top+n:Nat):Int)=(top:Int)+(n:Int) by push_cast;rfl] at d;have A:=ae (af h o);have u:Hid (∀w1 e w',Fr (fun _=>False) w w1->mW w1 m S Pg W Rm Us mp M (top/Pg) ((top+n-1)/Pg) e w'->e= .returned (.int .i64 0)∧bR w' b m Ba top Lm∧∀w2,w2=w'.setCell ⟨b,2,none⟩ (.int .i64 ((top:Int)+(n:Int)))->tX w b m Ba top Lm n S Pg W Rm Us mp M (.returned (.tuple #[.int .i64 top,.int .i64 0])) w2):=by
  show∀w1 e w',_
  rintro w1 e w' hf ⟨rfl,S',q,t,B,L,N,O,y,z⟩;have j:bR w' b m Ba top Lm:=aj.frame (aj.frame h hf (fun h=>h)) y o;have I:b<w.heap.size:=aj.lt h;have T:=hf.size;refine ⟨rfl,j,?_⟩;rintro w2 rfl;have l:Fr (fun k=>k=b) w' (w'.setCell ⟨b,2,none⟩ (.int .i64 ((top:Int)+(n:Int)))):=(Fr.refl (fun k=>k=b) w').setCell ⟨b,2,none⟩ (.inl rfl) _;refine ⟨rfl,?_,S',q,t,B,L.frame l (fun k r e=> ?_),N,O,(((hf.mono (S':=fun k=>S k∨k=b) (fun _ h=>h.elim)).trans y (fun k h=> .inl (.inl h)))).trans l (fun k h=> .inl (.inr h)),fun k r=> ?_⟩
  ·have:=aj.set j 2 (.int .i64 ((top:Int)+(n:Int)));unfold bR;rw [show ((top+n:Nat):Int)=(top:Int)+(n:Int) by push_cast;rfl];exact this
  ·subst e;rcases z _ r with h|h
   ·exact o h
   ·omega
  ·rcases z k r with h|h
   ·exact .inl h
   ·exact .inr (by omega)
 clear h s o F J G g H
 go_enter Tryz.func124,Tryz.ntmps124
 go_wp2_with fail
 refine (v.out).mono ?_;rintro e w1 ⟨rfl,rfl⟩;clear v;go_wp2
 go_quiet (fail)
 go_wp2;refine aA (fun w'=>w'=(w.drewN nq).drew) 14 (by kernel_rfl) (by kernel_rfl) rfl ?_;simp only [List.take_succ_cons,List.take_zero,List.drop_succ_cons,List.drop_zero];refine ag (.pointer (some ⟨b,0,none⟩)) rfl (fun w a=>by go_simp) ?_;simp only [Act.put,aa,ab,ac];refine ag (.pointer (some ⟨b,0,none⟩)) rfl (fun w a=>by go_simp) ?_;simp only [Act.put,aa,ab,ac];refine ag (.pointer (some ⟨b,0,none⟩)) rfl (fun w a=>by go_simp) ?_;simp only [Act.put,aa,ab,ac];refine ag (.pointer (some ⟨m,0,none⟩)) rfl (fun w a=>by subst a;go_simp) ?_;simp only [Act.put,aa,ab,ac];refine ag (.pointer (some ⟨b,0,none⟩)) rfl (fun w a=>by go_simp) ?_;simp only [Act.put,aa,ab,ac];refine ag (.pointer (some ⟨b,0,none⟩)) rfl (fun w a=>by go_simp) ?_;simp only [Act.put,aa,ab,ac];refine ag (.pointer (some ⟨b,2,none⟩)) rfl (fun w a=>by go_simp) ?_;simp only [Act.put,aa,ab,ac];refine ag (.int .i64 top) rfl (fun w a=>by subst a;go_simp) ?_;simp only [Act.put,aa,ab,ac];refine ag (.pointer (some ⟨b,0,none⟩)) rfl (fun w a=>by go_simp) ?_;simp only [Act.put,aa,ab,ac];refine ag (.pointer (some ⟨b,0,none⟩)) rfl (fun w a=>by go_simp) ?_;simp only [Act.put,aa,ab,ac];refine ag (.pointer (some ⟨b,2,none⟩)) rfl (fun w a=>by go_simp) ?_;simp only [Act.put,aa,ab,ac];refine ag (.int .i64 top) rfl (fun w a=>by subst a;go_simp) ?_;simp only [Act.put,aa,ab,ac];refine ag (.int .i64 n) rfl (fun w a=>by go_simp) ?_;simp only [Act.put,aa,ab,ac];refine ag (.int .i64 ((top:Int)+(n:Int))) rfl (fun w a=>by subst a;go_simp) ?_;simp only [Act.put,aa,ab,ac];refine wpQuiet_nil ?_;rintro w6 rfl;have f:Fr (fun _=>False) w (w.drewN nq).drew:=((Fr.refl _ _).drewN _).drew;have c:=ae (d.out _ f);have i:=ae (fun e w' h=>u.out _ e w' f h);clear d u C c2 D a f;go_wp2_with fail
 refine (c.out).mono ?_;intro e w3 hp;obtain ⟨rfl,g,x⟩:=i.out _ _ hp;have U:=aj.cell g 2 rfl;have R:=aj.free g 2;have p:=ae x;clear hp g x c i A;go_wp2;go_ret2;exact p.out _ rfl
end
structure Cf where
 kind:Nat
 Pg:Nat
 block:Nat
 Wd:Nat
 Sl:Nat
 stack:Nat
 Ah:Nat
 trig:Nat
def Cf.spare (c:Cf):Nat:=(c.Ah+2)*(max (c.block/c.Pg) 1+3)
def Cf.Fs (c:Cf):Nat:=c.Wd/c.Pg+if c.kind=1 then c.spare else if c.kind=2 then c.Wd/c.Pg else 0
def Cf.W (c:Cf):Nat:=c.Pg+c.Wd+if c.kind=3 then 0 else c.Wd
structure cT (c:Cf):Prop where
 kind1:c.kind=1∨c.kind=2∨c.kind=3
 page1:aL (c.Pg:Int)=true
 page2:1<=c.Pg
 page3:c.Pg<=256
 block1:aL (c.block:Int)=true
 block2:1<=c.block
 block3:c.block<=1024
 words1:aL (c.Wd:Int)=true
 words2:16<=c.Wd
 words3:c.Wd<=131072
 words4:c.Pg<=c.Wd
 slots1:1<=c.Sl
 slots2:c.Sl<=64
 stack1:1<=c.stack
 stack2:c.stack<=4096
 ahead1:c.Ah<=16
 frames1:c.Fs<=4096
def Cf.cells (c:Cf):List Value:=[.int .i64 (c.kind:Int),.int .i64 (c.Pg:Int),.int .i64 (c.block:Int),.int .i64 (c.Wd:Int),.int .i64 (c.Sl:Int),.int .i64 (c.stack:Int),.int .i64 (c.Ah:Int),.float .f64 c.trig]
def fq (cy:Option Nat):Value:= .pointer (cy.map fun y=>⟨y,0,none⟩)
def gq (w:World) (b:Nat) (c:Cf) (m rb ub:Nat) (cy:Option Nat) (ns bs:Int):Prop:=aj w b (c.cells++[.pointer (some ⟨m,0,none⟩),.pointer (some ⟨rb,0,none⟩),.pointer (some ⟨ub,0,none⟩),fq cy,.int .i64 ns,.int .i64 bs]) 117
section
variable {w:World} {b m rb ub:Nat} {c:Cf} {cy:Option Nat} {ns bs:Int}
theorem cC (h:gq w b c m rb ub cy ns bs):Calls Tryz.prog 50 #[b] w fun e w'=>e= .returned (.bool false)∧w=w':=by
 have a:=h.cell 8 rfl;clear h
 go_enter Tryz.func50,Tryz.ntmps50
 go_wp2;go_ret;exact ⟨rfl,rfl⟩
variable {Ba top Lm:Nat}
theorem gq.reads (h:gq w b c m rb ub cy ns bs) (a:bR w ub m Ba top Lm):∀w',Fr (fun _=>False) w w'->(w'.cell? ⟨b,1,none⟩=some (.int .i64 (c.Pg:Int))∧w'.cell? ⟨b,2,none⟩=some (.int .i64 (c.block:Int))∧w'.cell? ⟨b,3,none⟩=some (.int .i64 (c.Wd:Int))∧w'.cell? ⟨b,5,none⟩=some (.int .i64 (c.stack:Int))∧w'.cell? ⟨b,6,none⟩=some (.int .i64 (c.Ah:Int))∧w'.cell? ⟨b,8,none⟩=some (.pointer (some ⟨m,0,none⟩))∧w'.cell? ⟨b,10,none⟩=some (.pointer (some ⟨ub,0,none⟩))):=fun w' hf=>
 have g:aj w' b _ _:=h.frame hf (fun h=>h)
 ⟨g.cell 1 rfl,g.cell 2 rfl,g.cell 3 rfl,g.cell 5 rfl,g.cell 6 rfl,g.cell 8 rfl,g.cell 10 rfl⟩
theorem pW (i:cT c) (h:gq w b c m rb ub cy ns bs) (j:bR w ub m Ba top Lm) (t:Ba<=2*c.Pg+c.Wd):Calls Tryz.prog 142 #[b] w fun e w'=>e= .returned (.int .i64 ((2*c.Pg+c.Wd-Ba:Nat):Int))∧Fr (fun _=>False) w w':=by
 have g:=ae (h.reads j);have f:=ae (fun w' (hf:Fr (fun _=>False) w w')=>ep (show bR w' ub m Ba top Lm from aj.frame j hf (fun h=>h)));have r:=i.page3;have s:=i.words3;have q:((2*c.Pg+c.Wd-Ba:Nat):Int)=2*(c.Pg:Int)+(c.Wd:Int)-(Ba:Int):=by omega
 rw [q];clear h j i q;generalize c.Pg=pg at*;generalize c.Wd=wd at*
 go_enter Tryz.func142,Tryz.ntmps142
 go_wp2;refine au (fun w'=>Fr (fun _=>False) w w') (by kernel_rfl) (by kernel_rfl) ((Fr.refl _ w).drew) ?_;refine ag (.pointer (some ⟨b,0,none⟩)) rfl (fun w' a=>by go_simp) ?_;simp only [Act.put,aa,ab,ac];refine ag (.pointer (some ⟨b,0,none⟩)) rfl (fun w' a=>by go_simp) ?_;simp only [Act.put,aa,ab,ac];refine ag (.pointer (some ⟨b,0,none⟩)) rfl (fun w' a=>by go_simp) ?_;simp only [Act.put,aa,ab,ac];refine ag (.pointer (some ⟨b,1,none⟩)) rfl (fun w' a=>by go_simp) ?_;simp only [Act.put,aa,ab,ac];refine ag (.int .i64 pg) rfl (fun w' a=>by obtain ⟨c1,c2,l,n,o,p,d⟩:=g.out w' a;go_simp) ?_;simp only [Act.put,aa,ab,ac];refine ag (.int .i64 (2*(pg:Int))) rfl (fun w' a=>by go_simp;rw [IntKind.wrap_i64];omega) ?_;simp only [Act.put,aa,ab,ac];refine ag (.pointer (some ⟨b,0,none⟩)) rfl (fun w' a=>by go_simp) ?_;simp only [Act.put,aa,ab,ac];refine ag (.pointer (some ⟨b,0,none⟩)) rfl (fun w' a=>by go_simp) ?_;simp only [Act.put,aa,ab,ac];refine ag (.pointer (some ⟨b,0,none⟩)) rfl (fun w' a=>by go_simp) ?_;simp only [Act.put,aa,ab,ac];refine ag (.pointer (some ⟨b,3,none⟩)) rfl (fun w' a=>by go_simp) ?_;simp only [Act.put,aa,ab,ac];refine ag (.int .i64 wd) rfl (fun w' a=>by obtain ⟨c1,c2,l,n,o,p,d⟩:=g.out w' a;go_simp) ?_;simp only [Act.put,aa,ab,ac];refine ag (.int .i64 (2*(pg:Int)+(wd:Int))) rfl (fun w' a=>by go_simp;rw [IntKind.wrap_i64];omega) ?_;simp only [Act.put,aa,ab,ac];refine ag (.pointer (some ⟨b,0,none⟩)) rfl (fun w' a=>by go_simp) ?_;simp only [Act.put,aa,ab,ac];refine ag (.pointer (some ⟨b,0,none⟩)) rfl (fun w' a=>by go_simp) ?_;simp only [Act.put,aa,ab,ac];refine ag (.pointer (some ⟨b,10,none⟩)) rfl (fun w' a=>by go_simp) ?_;simp only [Act.put,aa,ab,ac];refine ag (.pointer (some ⟨ub,0,none⟩)) rfl (fun w' a=>by obtain ⟨c1,c2,l,n,o,p,d⟩:=g.out w' a;go_simp) ?_;simp only [Act.put,aa,ab,ac];refine az (.int .i64 Ba) 75 #[ub] rfl (fun w'=>by go_simp) (fun w' a=>(f.out w' a).mono fun e w2 h=>⟨h.1,h.2▸a⟩) ?_;simp only [Act.put,aa,ab,ac];refine ag (.int .i64 (2*(pg:Int)+(wd:Int)-(Ba:Int))) rfl (fun w' a=>by go_simp;rw [IntKind.wrap_i64];omega) ?_;simp only [Act.put,aa,ab,ac];refine ag (.int .i64 (2*(pg:Int)+(wd:Int)-(Ba:Int))) rfl (fun w' a=>by go_simp) ?_;simp only [Act.put,aa,ab,ac];refine wpQuiet_nil ?_;intro w2 k;go_wp2;go_ret;exact ⟨rfl,k⟩
end
theorem fK {P:Program} {fn:Func} {p:Tmp} {b:TypeId} (h:fn.results= #[.cell p b]) (tmps:Array Value) (w:World) (g:Nat) (t:TypeId) (cs:Array Value) (fr:Nat×Nat) (d:TypeDesc)
  (hp:tmps.getD p undef= .pointer (some ⟨g,0,none⟩)) (hg:w.heap[g]? =some (.cells cs t fr))
  (i:P.underlying b=some d) (c:(match d with| .struct _| .array _ _=>true|_=>false)=true) (f:(P.info? b).map (·.size)=some cs.size):
  (results fn tmps).run P w= .ok (.agg cs) w:=by
 have e:(results fn tmps).run P w=((asAddr (tmps.getD p undef)).run P w).andThen fun a j=>(loadVar b a).run P j:=by
  simp only [results,h];simp [Sem.run_bind,Result.andThen]
 rw [e,hp];simp [asAddr,run_loadVar_row w g t b cs fr d hg i c f,Result.andThen]
theorem vx (a b c d e f g:Int):(#[Value.int .i64 a,.int .i64 b,.int .i64 c,.int .i64 d,.int .i64 e,.int .i64 f,.int .i64 g]:Array Value).all (·.oneCell')=true:=
 Go.all_oneCell_toArray (cs:=[.int .i64 a,.int .i64 b,.int .i64 c,.int .i64 d,.int .i64 e,.int .i64 f,.int .i64 g]) (fun v h=>by simp only [List.mem_cons,List.not_mem_nil,or_false] at h;rcases h with rfl|rfl|rfl|rfl|rfl|rfl|rfl<;>rfl)
section
variable {w:World} {b m rb ub:Nat} {c:Cf} {cy:Option Nat} {ns bs:Int} {Ba top Lm:Nat}
theorem lp (F:cT c) (h:gq w b c m rb ub cy ns bs) (D:bR w ub m Ba top Lm) (M:Ba<=2*c.Pg+c.Wd):Calls Tryz.prog 71 #[b] w fun e w'=>e= .returned (cP Ba top (2*c.Pg+c.Wd-Ba) (2*c.Pg+c.Wd-Ba+c.Wd) c.block c.stack c.Ah)∧Fr (fun _=>False) w w':=by
 obtain ⟨W1,l⟩:∃W1,w.alloc (.cells #[.int .i64 0,.int .i64 0,.int .i64 0,.int .i64 0,.int .i64 0,.int .i64 0,.int .i64 0] 143)=W1:=⟨_,rfl⟩;have f:Fr (fun _=>False) w W1:=by rw [<-l];exact (Fr.refl _ w).alloc _
 have B:aj W1 w.heap.size [.int .i64 0,.int .i64 0,.int .i64 0,.int .i64 0,.int .i64 0,.int .i64 0,.int .i64 0] 143:=by rw [<-l];exact aj.new w _ _
 have K:=ae (pW F (aj.frame h f (fun h=>h)) (show bR W1 ub m Ba top Lm from aj.frame D f (fun h=>h)) M);have J:=ae (fun w' (hf:Fr (fun _=>False) W1 w')=>h.reads D w' (f.trans hf (fun _ h=>h.elim)));have p:=ae (fun w' (hf:Fr (fun _=>False) W1 w')=>ep (show bR w' ub m Ba top Lm from aj.frame D (f.trans hf (fun _ h=>h.elim)) (fun h=>h)));have v:=ae (fun w' (hf:Fr (fun _=>False) W1 w')=>gO (show bR w' ub m Ba top Lm from aj.frame D (f.trans hf (fun _ h=>h.elim)) (fun h=>h)));have t:Hid ((Tryz.prog.info? 143).map (·.size)=some 7):=by show _=_;kernel_rfl
 have s:=ae (vx Ba top (2*c.Pg+c.Wd-Ba:Nat) (2*c.Pg+c.Wd-Ba+c.Wd:Nat) c.block c.stack c.Ah);have n:=ae B;have q:=ae f;have Q:=F.page3;have R:=F.words3;clear h D F M f B;unfold cP;have S:2*c.Pg+c.Wd-Ba<=1048576:=by omega
 generalize 2*c.Pg+c.Wd-Ba=T at*;have k:((T+c.Wd:Nat):Int)=(T:Int)+(c.Wd:Int):=by push_cast;rfl
 rw [k] at s ⊢;generalize c.Pg=pg at*;generalize c.Wd=wd at*;generalize c.block=bk at*;generalize c.stack=sk at*;generalize c.Ah=ad at*;clear k
 go_enter Tryz.func71,Tryz.ntmps71
 go_wp2_with fail
 refine (K.out).mono ?_;rintro e w2 ⟨rfl,g⟩;have d:=ae (fun w' (hf:Fr (fun _=>False) w2 w')=>J.out w' (g.trans hf (fun _ h=>h.elim)));have o:=ae (fun w' (hf:Fr (fun _=>False) w2 w')=>p.out w' (g.trans hf (fun _ h=>h.elim)));have u:=ae (fun w' (hf:Fr (fun _=>False) w2 w')=>v.out w' (g.trans hf (fun _ h=>h.elim)));have r:=ae (fun w' (hf:Fr (fun _=>False) w2 w')=>af (n.out.frame (g.trans hf (fun _ h=>h.elim)) (fun h=>h)) (q.out.trans (g.trans hf (fun _ h=>h.elim)) (fun _ h=>h.elim)));clear g K J p v n q l;go_wp2;refine aA (fun w'=>Fr (fun _=>False) w2 w') 34 (by kernel_rfl) (by kernel_rfl) ((Fr.refl _ w2).drew) ?_;simp only [List.take_succ_cons,List.take_zero,List.drop_succ_cons,List.drop_zero];refine ag (.pointer (some ⟨b,0,none⟩)) rfl (fun w' a=>by go_simp) ?_;simp only [Act.put,aa,ab,ac];refine ag (.pointer (some ⟨b,0,none⟩)) rfl (fun w' a=>by go_simp) ?_;simp only [Act.put,aa,ab,ac];refine ag (.pointer (some ⟨b,10,none⟩)) rfl (fun w' a=>by go_simp) ?_;simp only [Act.put,aa,ab,ac];refine ag (.pointer (some ⟨ub,0,none⟩)) rfl (fun w' a=>by obtain ⟨c1,c2,x,y,z,A,i⟩:=d.out w' a;go_simp) ?_;simp only [Act.put,aa,ab,ac];refine az (.int .i64 Ba) 75 #[ub] rfl (fun w'=>by go_simp) (fun w' a=>(o.out w' a).mono fun e w2 h=>⟨h.1,h.2▸a⟩) ?_;simp only [Act.put,aa,ab,ac];refine ag (.pointer (some ⟨b,0,none⟩)) rfl (fun w' a=>by go_simp) ?_;simp only [Act.put,aa,ab,ac];refine ag (.pointer (some ⟨b,0,none⟩)) rfl (fun w' a=>by go_simp) ?_;simp only [Act.put,aa,ab,ac];refine ag (.pointer (some ⟨b,10,none⟩)) rfl (fun w' a=>by go_simp) ?_;simp only [Act.put,aa,ab,ac];refine ag (.pointer (some ⟨ub,0,none⟩)) rfl (fun w' a=>by obtain ⟨c1,c2,x,y,z,A,i⟩:=d.out w' a;go_simp) ?_;simp only [Act.put,aa,ab,ac];refine az (.int .i64 top) 76 #[ub] rfl (fun w'=>by go_simp) (fun w' a=>(u.out w' a).mono fun e w2 h=>⟨h.1,h.2▸a⟩) ?_;simp only [Act.put,aa,ab,ac];refine ag (.int .i64 T) rfl (fun w' a=>by go_simp) ?_;simp only [Act.put,aa,ab,ac];refine ag (.int .i64 T) rfl (fun w' a=>by go_simp) ?_;simp only [Act.put,aa,ab,ac];refine ag (.pointer (some ⟨b,0,none⟩)) rfl (fun w' a=>by go_simp) ?_;simp only [Act.put,aa,ab,ac];refine ag (.pointer (some ⟨b,0,none⟩)) rfl (fun w' a=>by go_simp) ?_;simp only [Act.put,aa,ab,ac];refine ag (.pointer (some ⟨b,0,none⟩)) rfl (fun w' a=>by go_simp) ?_;simp only [Act.put,aa,ab,ac];refine ag (.pointer (some ⟨b,3,none⟩)) rfl (fun w' a=>by go_simp) ?_;simp only [Act.put,aa,ab,ac];refine ag (.int .i64 wd) rfl (fun w' a=>by obtain ⟨c1,c2,x,y,z,A,i⟩:=d.out w' a;go_simp) ?_;simp only [Act.put,aa,ab,ac];refine ag (.int .i64 ((T:Int)+(wd:Int))) rfl (fun w' a=>by go_simp;rw [IntKind.wrap_i64];omega) ?_;simp only [Act.put,aa,ab,ac];refine ag (.pointer (some ⟨b,0,none⟩)) rfl (fun w' a=>by go_simp) ?_;simp only [Act.put,aa,ab,ac];refine ag (.pointer (some ⟨b,0,none⟩)) rfl (fun w' a=>by go_simp) ?_;simp only [Act.put,aa,ab,ac];refine ag (.pointer (some ⟨b,0,none⟩)) rfl (fun w' a=>by go_simp) ?_;simp only [Act.put,aa,ab,ac];refine ag (.pointer (some ⟨b,2,none⟩)) rfl (fun w' a=>by go_simp) ?_;simp only [Act.put,aa,ab,ac];refine ag (.int .i64 bk) rfl (fun w' a=>by obtain ⟨c1,c2,x,y,z,A,i⟩:=d.out w' a;go_simp) ?_;simp only [Act.put,aa,ab,ac];refine ag (.pointer (some ⟨b,0,none⟩)) rfl (fun w' a=>by go_simp) ?_;simp only [Act.put,aa,ab,ac];refine ag (.pointer (some ⟨b,0,none⟩)) rfl (fun w' a=>by go_simp) ?_;simp only [Act.put,aa,ab,ac];refine ag (.pointer (some ⟨b,0,none⟩)) rfl (fun w' a=>by go_simp) ?_;simp only [Act.put,aa,ab,ac];refine ag (.pointer (some ⟨b,5,none⟩)) rfl (fun w' a=>by go_simp) ?_;simp only [Act.put,aa,ab,ac];refine ag (.int .i64 sk) rfl (fun w' a=>by obtain ⟨c1,c2,x,y,z,A,i⟩:=d.out w' a;go_simp) ?_;simp only [Act.put,aa,ab,ac];refine ag (.pointer (some ⟨b,0,none⟩)) rfl (fun w' a=>by go_simp) ?_;simp only [Act.put,aa,ab,ac];refine ag (.pointer (some ⟨b,0,none⟩)) rfl (fun w' a=>by go_simp) ?_;simp only [Act.put,aa,ab,ac];refine ag (.pointer (some ⟨b,0,none⟩)) rfl (fun w' a=>by go_simp) ?_;simp only [Act.put,aa,ab,ac];refine ag (.pointer (some ⟨b,6,none⟩)) rfl (fun w' a=>by go_simp) ?_;simp only [Act.put,aa,ab,ac];refine ag (.int .i64 ad) rfl (fun w' a=>by obtain ⟨c1,c2,x,y,z,A,i⟩:=d.out w' a;go_simp) ?_;simp only [Act.put,aa,ab,ac];refine ag (.agg #[.int .i64 Ba,.int .i64 top,.int .i64 T,.int .i64 ((T:Int)+(wd:Int)),.int .i64 bk,.int .i64 sk,.int .i64 ad]) rfl (fun w' a=>by go_simp) ?_;simp only [Act.put,aa,ab,ac];refine wpQuiet_nil ?_;intro w3 E;obtain ⟨g1,L⟩:=r.out w3 E;have C:w3.there w.heap.size 0 7:=fun j P=>by
  match j,P with
  |0,_=>exact ⟨by rw [g1.cell 0 rfl];rfl,g1.free 0⟩
  |1,_=>exact ⟨by rw [g1.cell 1 rfl];rfl,g1.free 1⟩
  |2,_=>exact ⟨by rw [g1.cell 2 rfl];rfl,g1.free 2⟩
  |3,_=>exact ⟨by rw [g1.cell 3 rfl];rfl,g1.free 3⟩
  |4,_=>exact ⟨by rw [g1.cell 4 rfl];rfl,g1.free 4⟩
  |5,_=>exact ⟨by rw [g1.cell 5 rfl];rfl,g1.free 5⟩
  |6,_=>exact ⟨by rw [g1.cell 6 rfl];rfl,g1.free 6⟩
 have G:=ae C;have N:=ae g1;have O:=ae L;clear C g1 L E d o u r;go_wp2_with (refine wpList_store_mid rfl 143 _ _ rfl w.heap.size 0 #[.int .i64 Ba,.int .i64 top,.int .i64 T,.int .i64 ((T:Int)+(wd:Int)),.int .i64 bk,.int .i64 sk,.int .i64 ad] rfl rfl G.out t.out s.out ?_)
 have H:=((((((N.out.set 0 (.int .i64 Ba)).set 1 (.int .i64 top)).set 2 (.int .i64 T)).set 3 (.int .i64 ((T:Int)+(wd:Int)))).set 4 (.int .i64 bk)).set 5 (.int .i64 sk)).set 6 (.int .i64 ad);have I:Fr (fun _=>False) w (w3.setCells w.heap.size 0 [.int .i64 Ba,.int .i64 top,.int .i64 T,.int .i64 ((T:Int)+(wd:Int)),.int .i64 bk,.int .i64 sk,.int .i64 ad]):=((((((O.out.setCell ⟨w.heap.size,0,none⟩ (.inr (Nat.le_refl _)) _).setCell ⟨w.heap.size,1,none⟩ (.inr (Nat.le_refl _)) _).setCell ⟨w.heap.size,2,none⟩ (.inr (Nat.le_refl _)) _).setCell ⟨w.heap.size,3,none⟩ (.inr (Nat.le_refl _)) _).setCell ⟨w.heap.size,4,none⟩ (.inr (Nat.le_refl _)) _).setCell ⟨w.heap.size,5,none⟩ (.inr (Nat.le_refl _)) _).setCell ⟨w.heap.size,6,none⟩ (.inr (Nat.le_refl _)) _;refine bodyPost_ret (fK rfl _ _ _ _ _ _ _ rfl H Tryz.underlying143 rfl t.out) rfl ?_;exact ⟨rfl,I⟩
end
def t8 (xs:List Nat) (w:World) (e:Ending) (w':World):Prop:=∃g cap,e= .returned (.tuple #[.slice (some ⟨g,0,none⟩) xs.length cap,.int .i64 0])∧(∀(j a:Nat),xs[j]? =some a->w'.cell? ⟨g,j,none⟩=some (.int .i64 a))∧Fr (fun _=>False) w w'
def mS (xs:List Nat) (w:World) (e:Ending) (w':World):Prop:=∃g cap,e= .returned (.tuple #[.slice (some ⟨g,0,none⟩) xs.length cap,.int .i64 0])∧w.heap.size<=g∧(∀(j a:Nat),xs[j]? =some a->w'.cell? ⟨g,j,none⟩=some (.int .i64 a))∧Fr (fun _=>False) w w'
section
variable {w:World} {b m rb rg ub:Nat} {c:Cf} {cy:Option Nat} {ns bs:Int} {ls:List Nat}
def zV (xs:List Nat) (w:World) (j:Nat) (v:Value) (wr:World):Prop:=wr.ownsRow 0 3 1 v j (fC (xs.take j))∧(∀k,v.ownBlock=some k->w.heap.size<=k)∧Fr (fun _=>False) w wr
theorem lk (h:gq w b c m rb ub cy ns bs) (P:aV w rb rg ls) (x T:Nat) (xs:List Nat) (R:∀(j a:Nat),xs[j]? =some a->∃i:Nat,w.cell? ⟨x,j,none⟩=some (.int .i64 i)∧ls[i]? =some a) (h1:1<=xs.length) (h2:xs.length<=8):
  Calls Tryz.prog 60 #[b,.slice (some ⟨x,0,none⟩) xs.length T] w (mS xs w):=by
 obtain ⟨Y,X,F,G,H⟩:=info_parts dQ;have L:=ae (cC h);have n:=ae (fun (j:Nat) (wr:World) (hf:Fr (fun _=>False) w wr) (N:j<xs.length)=>(show∃i:Nat,wr.cell? ⟨x,j,none⟩=some (.int .i64 i)∧wr.cell? ⟨b,9,none⟩=some (.pointer (some ⟨rb,0,none⟩))∧Calls Tryz.prog 51 #[rb,.int .i64 i] wr fun e w'=>e= .returned (.tuple #[.int .i64 ((xs[j]:Nat):Int),.int .i64 0])∧Fr (fun _=>False) wr w' from by
  obtain ⟨i,q,I⟩:=R j xs[j] (List.getElem?_eq_getElem N);exact ⟨i,(World.cell?_of_block (w:=w) (hf.block _ (aD q) (fun h=>h))).trans q,(show aj wr b _ _ from aj.frame h hf (fun h=>h)).cell 9 rfl,kr (P.frame hf (fun h=>h) (fun h=>h)) i xs[j] I⟩))
 have l:Hid (∀v wr,zV xs w xs.length v wr->∃g cap,v= .slice (some ⟨g,0,none⟩) xs.length cap∧mS xs w (.returned (.tuple #[.slice (some ⟨g,0,none⟩) xs.length cap,.int .i64 0])) wr):=by
  show∀v wr,_
  rintro v wr ⟨q,I,Z⟩;rw [List.take_length] at q;rcases q.2 with ⟨_,h0⟩|⟨g,cap,cur,rfl,_⟩
  ·omega
  ·refine ⟨g,cap,rfl,g,cap,rfl,I g rfl,fun j a W=> ?_,Z⟩;have C:∀k,(⟨g,0,none⟩:Addr).add k=⟨g,k,none⟩:=fun k=>by unfold Addr.add;split<;>simp_all
   have:=q.cells (g:=g) rfl j (.int .i64 a) (by unfold fC;rw [List.getElem?_map,W];rfl);rwa [C] at this
 have J:Hid (zV xs w 0 (.slice none 0 0) w):=ae ⟨World.ownsRow_nil _ _ _ _,fun k p=>by simp [Value.ownBlock] at p,Fr.refl _ _⟩;clear h P R;generalize (mS xs w)=Q at*
 go_enter Tryz.func60,Tryz.ntmps60
 go_wp2_with fail
 refine (L.out).mono ?_;rintro e w' ⟨rfl,rfl⟩;clear L;go_wp2
 go_loopw [6,15] (fun v z wr=>∃j:Nat,z= .int .i64 j∧j<=xs.length∧Hid (zV xs w j v wr)) (fun _ z _=>(xs.length-intOf z).toNat)
 case atStart=>exact ⟨0,rfl,Nat.zero_le _,J⟩
 case round=>
  clear J;obtain ⟨j,rfl,N,f⟩:=hrel;by_cases o:j<xs.length
  ·obtain ⟨i,U,V,hg⟩:=n.out j wr f.out.2.2 o;have K:=ae hg;have c1:(j:Int)<(xs.length:Int):=by omega
   have s:Hid (fC (xs.take (j+1))=fC (xs.take j)++[.int .i64 ((xs[j]:Nat):Int)]):=by
    show _=_
    unfold fC;rw [List.take_add_one,List.getElem?_eq_getElem o,List.map_append];rfl
   generalize xs[j]=A at*;clear hg n l;go_wp2_with fail
   refine (K.out).mono ?_;rintro e w2 ⟨rfl,t⟩;have r:=ae t;clear t K U V;go_wp2_with (at_builtin;refine Hid.out ?_)
   unfold Hid;have u:Fr (fun _=>False) w2 (w2.alloc (.cells #[.int .i64 A] 3)):=(Fr.refl _ w2).alloc _;have d:=r.out.trans u (fun _ h=>h.elim);refine bL rfl _ _ 123 rfl 3 Y (.int .i64 0) 8 Tryz.underlying123 X F G H rfl u6 j (fC (xs.take j)) rfl (an f.out.1 d (fun _ _ h=>h)) ⟨w2.heap.size,0,none⟩ _ (.int .i64 A) rfl ((aj.new w2 [.int .i64 A] 3).cell 0 rfl) rfl (by unfold maxLen;omega) (by omega) ?_;intro g cap w4 O M y;have B:Hid (zV xs w (j+1) (.slice (some ⟨g,0,none⟩) (j+1) cap) w4):=by
    have E:=(f.out.2.2.trans d (fun _ h=>h.elim)).size;refine ae ⟨by rw [s.out];exact O,fun k p=> ?_,(f.out.2.2.trans d (fun _ h=>h.elim)).trans M (fun k p=> .inr (f.out.2.1 k p))⟩;simp only [Value.ownBlock,Option.some.injEq] at p;subst p;rcases y with h|h
    ·exact f.out.2.1 _ h
    ·omega
   clear u d O M y f s r;go_wp2;go_roundw
   case rel=>exact ⟨j+1,by go_num,by omega,B⟩
   case measure=>simp [intOf];omega
  ·have D:j=xs.length:=by omega
   subst D;obtain ⟨g,cap,rfl,E⟩:=l.out _ wr f.out;have S:=ae E;have c1:¬(xs.length:Int)<(xs.length:Int):=by omega
   clear E f l n o;go_wp2;exact S.out
theorem gX (h:gq w b c m rb ub cy ns bs) (l:aV w rb rg ls) (x k:Nat) (xs:List Nat) (n:∀(j a:Nat),xs[j]? =some a->∃i:Nat,w.cell? ⟨x,j,none⟩=some (.int .i64 i)∧ls[i]? =some a) (d:1<=xs.length) (f:xs.length<=8):
  Calls Tryz.prog 60 #[b,.slice (some ⟨x,0,none⟩) xs.length k] w (t8 xs w):=
 (lk h l x k xs n d f).mono (fun e w' ⟨g,cap,d,_,f⟩=>⟨g,cap,d,f⟩)
end
structure tT (m Pg W Fs Us Hg:Nat) (mp:Nat->Bool) (kb wb:Nat) (M:Nat->Nat) (f:Nat->Option Nat) (n top:Nat) (S:Nat->Prop) (w:World):Prop where
 blk:aj w kb [.pointer (some ⟨m,0,none⟩),.map (some wb),.int .i64 top] 230
 mem:bm m Pg W Fs Us Hg mp M S w
 went:cI w wb n f
 d1:¬S kb
 d2:¬S wb
 d3:kb≠wb
section
variable {m Pg W Fs Us Hg:Nat} {mp:Nat->Bool} {kb wb:Nat} {M:Nat->Nat} {f:Nat->Option Nat} {n top:Nat} {S:Nat->Prop} {w w':World}
theorem tT.Fh (h:tT m Pg W Fs Us Hg mp kb wb M f n top S w) (hf:Fr (fun _=>False) w w'):tT m Pg W Fs Us Hg mp kb wb M f n top S w':=
 ⟨h.blk.frame hf (fun h=>h),h.mem.keep hf,h.went.frame hf (fun h=>h),h.d1,h.d2,h.d3⟩
theorem pw (kb:Nat) (w:World):Calls Tryz.prog 146 #[kb,.int .i64 0] w fun e w'=>e= .returned (.int .i64 0)∧w=w':=by
 go_enter Tryz.func146,Tryz.ntmps146
 go_wp2;go_ret;exact ⟨rfl,rfl⟩
theorem ux (h:tT m Pg W Fs Us Hg mp kb wb M f n top S w) (a z:Nat) (i:1<=a) (b:a<4611686018427387904) (d:f a=some z):Calls Tryz.prog 146 #[kb,.int .i64 a] w fun e w'=>e= .returned (.int .i64 z)∧w=w':=by
 have c:=h.went.look_ok a b;rw [d] at c;simp only [Option.getD_some,Option.isSome_some] at c;have c1:=h.blk.cell 1 rfl;have g:¬(a:Int)=0:=by omega
 clear h d
 go_enter Tryz.func146,Tryz.ntmps146
 go_wp2;go_ret;exact ⟨rfl,rfl⟩
theorem si (h:tT m Pg W Fs Us Hg mp kb wb M f n top S w) (a p t g:Nat) (ha:1<=a) (a4:a<1048576) (F:f a=none) (Z:dw M a p t g) (E:∀k,a<=k->k<a+(1+(p+t+g))->aY W Pg mp k∧M k<18446744073709551616) (a1:1<=top) (a5:top<1048576) (V:∀k,top<=k->k<top+(1+(p+t+g))->aY W Pg mp k) (hn:n<1048576):
  Calls Tryz.prog 146 #[kb,.int .i64 a] w fun e w'=>e= .returned (.int .i64 top)∧∃S',tT m Pg W Fs Us Hg mp kb wb (iu M a top (1+(p+t+g))) (dB f a top) (n+1) (top+(1+(p+t+g))) S' w'∧Fr (fun k=>S k∨k=kb∨k=wb) w w'∧∀k,S' k->S k∨w.heap.size<=k:=by
 have hl:=h.went.look_ok a (by omega);rw [F] at hl;simp only [Option.getD_none,Option.isSome_none] at hl;rw [show ((0:Nat):Int)=0 from rfl] at hl;have c0:=h.blk.cell 0 rfl;have c1:=h.blk.cell 1 rfl;have h0:¬(a:Int)=0:=by omega
 have a0:p+t+g<256:=by have:=Z.2;unfold bl at this;omega
 have av:Hid ((Tryz.prog.info? 31).map (·.size)=some 3):=by show _=_;kernel_rfl
 have O:=ae (fV h.mem a p t g ha (E a (Nat.le_refl _) (by omega)).1 Z);have B:=ae (fun w1=>dj p t g w1);have ah:co p t g=((1+(p+t+g):Nat):Int):=by unfold co;rw [if_pos Z.2];push_cast;omega
 rw [ah] at B;have A:=ae (fun w2 S2 (hm:bm m Pg W Fs Us Hg mp M S2 w2)=>vq (aR m Pg W Fs Us Hg mp) (aF m Pg W Fs Us Hg mp) (j4 m Pg W Fs Us Hg mp) hm a top p t g ha a1 (by omega) (by omega) Z E V);have u:=ae h;have ax:=h.blk.lt;have a2:=h.went.lt;obtain ⟨z,hz⟩:∃z,z=1+(p+t+g):=⟨_,rfl⟩;rw [<-hz] at B A ⊢;have a6:z<=256:=by omega
 unfold d8 bN at*;have N:Hid ((f a).isSome=false):=by show _=_;rw [F];rfl
 clear h E V Z F ah hz a0
 go_enter Tryz.func146,Tryz.ntmps146
 go_wp2_with fail
 refine (O.out).mono ?_;rintro e w1 ⟨rfl,S1,K,I,J⟩;clear O hl c0 c1;have H:¬S1 kb:=fun x=>by rcases J _ x with h|h;exact u.out.d1 h;omega
 have ap:¬S1 wb:=fun x=>by rcases J _ x with h|h;exact u.out.d2 h;omega
 have aq:=I.size;have R:=(aF m Pg W Fs Us Hg mp).lt _ _ _ K;have T:=u.out.blk.frame I u.out.d1;obtain ⟨Q,v⟩:∃Q,Q=w1.alloc (.cells #[.int .i64 p,.int .i64 t,.int .i64 g] 31):=⟨_,rfl⟩;have c:Fr (fun _=>False) w1 Q:=by rw [v];exact (Fr.refl _ w1).alloc _
 have i:aj Q w1.heap.size [.int .i64 p,.int .i64 t,.int .i64 g] 31:=by rw [v];exact aj.new w1 _ _
 have b:=T.frame c (fun h=>h);have P:=ae v;have e0:=b.cell 0 rfl;have e1:=b.cell 1 rfl;have e2:=b.cell 2 rfl;have L:=ae (A.out Q S1 (K.keep c));have HB:=ae (af c (af i (af b (af K (af I J)))));clear c i b T K I A v
 go_upto_region 7 with fail
 rw [<-P.out];clear P;go_wp2_with fail
 refine (L.out).mono ?_;rintro e w3 ⟨rfl,S3,m3,r3,s3⟩;obtain ⟨c,i,b,K,I,J⟩:=HB.out;have a3:=c.size;have o:¬S3 kb:=fun x=>by rcases s3 _ x with h|h;exact H h;omega
 have s:¬S3 wb:=fun x=>by rcases s3 _ x with h|h;exact ap h;omega
 have C:=b.frame r3 H;have X:=i.frame r3 (fun x=>by have:=R _ x;omega);have l:Fr S w w3:=(I.trans c (fun _ h=>h.elim)).trans r3 J;have y:=u.out.went.frame l u.out.d2;obtain ⟨w4,u1,u2,u3⟩:=y.put a top (by omega) (by omega) (by omega);have q:(f a).isSome=false:=N.out;rw [q] at u2;simp only [Bool.false_eq_true,if_false] at u2;have U:=C.frame u3 u.out.d3;have G:=X.frame u3 (fun e=>by omega);have c1:=C.cell 1 rfl;have ad:=G.drew;have d:Hid (∀w5,Fr (fun _=>False) w4 w5->(w5.cell? ⟨kb,2,none⟩=some (.int .i64 top)∧w5.frozen? ⟨kb,2,none⟩=false∧aj w5 w1.heap.size [.int .i64 p,.int .i64 t,.int .i64 g] 31)∧∀w6,w5.setCell ⟨kb,2,none⟩ (.int .i64 ((top+z:Nat):Int))=w6->∃S',tT m Pg W Fs Us Hg mp kb wb (iu M a top z) (dB f a top) (n+1) (top+z) S' w6∧Fr (fun k=>S k∨k=kb∨k=wb) w w6∧∀k,S' k->S k∨w.heap.size<=k):=by
  show∀w5,_
  intro w5 j;have D:=U.frame j (fun h=>h);refine ⟨⟨D.cell 2 rfl,D.free 2,G.frame j (fun h=>h)⟩,?_⟩;rintro w6 rfl;have f6:Fr (fun k=>k=kb) w5 (w5.setCell ⟨kb,2,none⟩ (.int .i64 ((top+z:Nat):Int))):=(Fr.refl (fun k=>k=kb) w5).setCell ⟨kb,2,none⟩ (.inl rfl) _;refine ⟨S3,⟨D.set 2 _,aR _ _ _ _ _ _ _ _ _ _ _ _ ((aR _ _ _ _ _ _ _ _ _ _ _ _ m3 u3 (fun k Y e=>s (e▸Y))).keep j) f6 (fun k Y e=>o (e▸Y)),(u2.frame j (fun h=>h)).frame f6 (fun e=>u.out.d3 e.symm),o,s,u.out.d3⟩,?_,fun k Y=> ?_⟩
  ·exact (((l.mono (S':=fun k=>S k∨k=kb∨k=wb) (fun k h=> .inl (.inl h))).trans u3 (fun k h=> .inl (.inr (.inr h)))).trans j (fun _ h=>h.elim)).trans f6 (fun k h=> .inl (.inr (.inl h)))
  ·rcases s3 k Y with h|h
   ·exact J k h
   ·exact .inr (by omega)
 clear c i b K I J a3 C X l y u2 u3 U G m3 r3 s3 o s H ap R HB u L N ax a2 aq e0 e1 e2 ad q;go_wp2;refine aA (fun w'=>Fr (fun _=>False) w4 w') 9 (by kernel_rfl) (by kernel_rfl) ((Fr.refl _ w4).drew) ?_;simp only [List.take_succ_cons,List.take_zero,List.drop_succ_cons,List.drop_zero];refine ag (.pointer (some ⟨kb,0,none⟩)) rfl (fun w' r=>by go_simp) ?_;simp only [Act.put,aa,ab,ac];refine ag (.pointer (some ⟨kb,0,none⟩)) rfl (fun w' r=>by go_simp) ?_;simp only [Act.put,aa,ab,ac];refine ag (.pointer (some ⟨kb,2,none⟩)) rfl (fun w' r=>by go_simp) ?_;simp only [Act.put,aa,ab,ac];refine ag (.int .i64 top) rfl (fun w' r=>by obtain ⟨⟨k1,_,_⟩,_⟩:=d.out w' r;go_simp) ?_;simp only [Act.put,aa,ab,ac];refine ag (.agg #[.int .i64 p,.int .i64 t,.int .i64 g]) rfl (fun w' r=>dI rfl w1.heap.size rfl 31 _ (0,0) _ (d.out w' r).1.2.2 Tryz.underlying31 rfl av.out) ?_;simp only [Act.put,aa,ab,ac];refine az (.int .i64 z) 54 #[.agg #[.int .i64 p,.int .i64 t,.int .i64 g]] rfl (fun w'=>by go_simp) (fun w' r=>(B.out w').mono fun e w2 h=>⟨h.1,r.trans h.2 (fun _ h=>h.elim)⟩) ?_;simp only [Act.put,aa,ab,ac];refine ag (.int .i64 ((top:Int)+(z:Int))) rfl (fun w' r=>by go_simp;rw [IntKind.wrap_i64];omega) ?_;simp only [Act.put,aa,ab,ac];refine ag (.pointer (some ⟨kb,0,none⟩)) rfl (fun w' r=>by go_simp) ?_;simp only [Act.put,aa,ab,ac];refine ag (.pointer (some ⟨kb,2,none⟩)) rfl (fun w' r=>by go_simp) ?_;simp only [Act.put,aa,ab,ac];refine wpQuiet_nil ?_;intro w5 am;obtain ⟨⟨k1,k2,_⟩,hq⟩:=d.out w5 am;have HQ:=ae (hq _ rfl);rw [show ((top+z:Nat):Int)=(top:Int)+(z:Int) by push_cast;rfl] at HQ;clear hq d am;go_wp2;go_ret;exact ⟨rfl,HQ.out⟩
end
structure dg where
 M:Nat->Nat
 f:Nat->Option Nat
 n:Nat
 top:Nat
def dg.take (sz:Nat->Nat) (s:dg) (x:Nat):dg×Nat:=
 if x=0 then (s,0) else match s.f x with
  |some z=>(s,z)
  |none=>(⟨iu s.M x s.top (sz x),dB s.f x s.top,s.n+1,s.top+sz x⟩,s.top)
def dg.Ok (dom:Nat->Prop) (sz:Nat->Nat) (s:dg) (x:Nat):Prop:=
 x≠0->x<1048576∧(s.f x=none->∃p t g,dw s.M x p t g∧sz x=1+(p+t+g)∧(∀k,x<=k->k<x+sz x->dom k∧s.M k<18446744073709551616)∧1<=s.top∧s.top<1048576∧(∀k,s.top<=k->k<s.top+sz x->dom k)∧s.n<1048576)
section
variable {m Pg W Fs Us Hg:Nat} {mp:Nat->Bool} {kb wb:Nat} {S S0:Nat->Prop} {w w' w0:World} {s:dg} {sz:Nat->Nat}
def gk (m Pg W Fs Us Hg:Nat) (mp:Nat->Bool) (kb wb:Nat) (S0:Nat->Prop) (w0:World) (s:dg) (w:World):Prop:=
 ∃S,tT m Pg W Fs Us Hg mp kb wb s.M s.f s.n s.top S w∧Fr (fun k=>S0 k∨k=kb∨k=wb) w0 w∧∀k,S k->S0 k∨w0.heap.size<=k
theorem gk.Fh (h:gk m Pg W Fs Us Hg mp kb wb S0 w0 s w) (hf:Fr (fun _=>False) w w'):gk m Pg W Fs Us Hg mp kb wb S0 w0 s w':=by
 obtain ⟨S,a,b,c⟩:=h;exact ⟨S,a.Fh hf,b.trans hf (fun _ h=>h.elim),c⟩
theorem nF (h:gk m Pg W Fs Us Hg mp kb wb S0 w0 s w) (x:Nat) (r:s.Ok (aY W Pg mp) sz x):
  Calls Tryz.prog 146 #[kb,.int .i64 x] w fun e w'=>e= .returned (.int .i64 (((s.take sz x).2:Nat):Int))∧gk m Pg W Fs Us Hg mp kb wb S0 w0 (s.take sz x).1 w':=by
 unfold dg.take;by_cases a:x=0
 ·subst a;rw [if_pos rfl];refine (pw kb w).mono ?_;rintro e w' ⟨rfl,rfl⟩;exact ⟨rfl,h⟩
 ·rw [if_neg a];obtain ⟨c,d⟩:=r a
  cases hf:s.f x with
  |some z=>
   obtain ⟨S,i,j,l⟩:=id h;refine (ux i x z (by omega) (by omega) hf).mono ?_;rintro e w' ⟨rfl,rfl⟩;exact ⟨rfl,h⟩
  |none=>
   obtain ⟨S,i,j,l⟩:=h;obtain ⟨p,t,g,u,n,o,v,y,q,A⟩:=d hf;rw [n] at o q;refine (si i x p t g (by omega) c hf u o v y q A).mono ?_;rintro e w' ⟨rfl,S',B,C,D⟩;have E:=j.size;refine ⟨rfl,S',?_,j.trans C (fun k b=> ?_),fun k b=> ?_⟩
   ·rw [n];exact B
   ·rcases b with h|h
    ·exact (l k h).imp .inl id
    ·exact .inl (.inr h)
   ·rcases D k b with h|h
    ·exact l k h
    ·exact .inr (by omega)
end
def dg.turn1 (sz:Nat->Nat) (a:Nat) (s:dg) (i:Nat):dg:=
 ⟨bw (s.take sz (s.M (a+1+i))).1.M (a+1+i) (s.take sz (s.M (a+1+i))).2,(s.take sz (s.M (a+1+i))).1.f,(s.take sz (s.M (a+1+i))).1.n,(s.take sz (s.M (a+1+i))).1.top⟩
def dg.turnN (sz:Nat->Nat) (a:Nat) (s:dg):Nat->dg
 |0=>s
 |i+1=>(dg.turnN sz a s i).turn1 sz a i
section
variable {m Pg W Fs Us Hg:Nat} {mp:Nat->Bool} {kb wb:Nat} {S S0:Nat->Prop} {w w' w0:World} {s:dg} {sz:Nat->Nat}
theorem gk.sp (h:tT m Pg W Fs Us Hg mp kb wb s.M s.f s.n s.top S w) (i:Fr (fun k=>S0 k∨k=kb∨k=wb) w0 w) (j:∀k,S k->S0 k∨w0.heap.size<=k) {g:Nat->Nat} (hp:dz (bm m Pg W Fs Us Hg mp) g S w w'):gk m Pg W Fs Us Hg mp kb wb S0 w0 ⟨g,s.f,s.n,s.top⟩ w':=by
 obtain ⟨S',l,d,e⟩:=hp;have o:=i.size;have p:=h.blk.lt;have q:=h.went.lt;refine ⟨S',⟨h.blk.frame d h.d1,l,h.went.frame d h.d2,fun b=> ?_,fun b=> ?_,h.d3⟩,i.trans d (fun k c=>(j k c).imp .inl id),fun k c=> ?_⟩
 ·rcases e _ b with a|a
  ·exact h.d1 a
  ·omega
 ·rcases e _ b with a|a
  ·exact h.d2 a
  ·omega
 ·rcases e k c with a|a
  ·exact j k a
  ·exact .inr (by omega)
structure dg.Ok1 (dom:Nat->Prop) (sz:Nat->Nat) (a p t g:Nat) (s:dg) (i:Nat):Prop where
 ok:s.Ok dom sz (s.M (a+1+i))
 hd1:dw s.M a p t g
 hd2:dw (s.take sz (s.M (a+1+i))).1.M a p t g
 x:s.M (a+1+i)<2147483648
 z:(s.take sz (s.M (a+1+i))).2<2147483648
 d:dom (a+1+i)
theorem uw (a p t g:Nat) (l:1<=a) (q:a<1048576) (c:aY W Pg mp a) (h:gk m Pg W Fs Us Hg mp kb wb S0 w0 s w) (i:Nat) (r:i<p) (b:dg.Ok1 (aY W Pg mp) sz a p t g s i):
  (Calls Tryz.prog 87 #[.iface 112 (.pointer (some ⟨m,0,none⟩)),.int .i64 a,.int .i64 i] w fun e w'=>e= .returned (.tuple #[.int .i64 ((s.M (a+1+i):Nat):Int),.int .i64 0])∧gk m Pg W Fs Us Hg mp kb wb S0 w0 s w')∧
  (∀w1,gk m Pg W Fs Us Hg mp kb wb S0 w0 (s.take sz (s.M (a+1+i))).1 w1->Calls Tryz.prog 61 #[.iface 112 (.pointer (some ⟨m,0,none⟩)),.int .i64 a,.int .i64 i,.int .i64 (((s.take sz (s.M (a+1+i))).2:Nat):Int)] w1 fun e w'=>e= .returned (.int .i64 0)∧gk m Pg W Fs Us Hg mp kb wb S0 w0 (s.turn1 sz a i) w'):=by
 have o:=b.hd1.2;unfold bl at o;have n:bK p t g i=1:=by
  unfold bK;rw [co,if_pos b.hd1.2,if_neg (by omega),if_pos (by omega)]
 constructor
 ·obtain ⟨S,f,j,k⟩:=h;refine (fF (aF m Pg W Fs Us Hg mp) f.mem a i p t g _ l (by omega) (by omega) c b.hd1 n b.d rfl b.x).mono ?_;rintro e w' ⟨rfl,hp⟩;exact ⟨rfl,gk.sp f j k hp⟩
 ·rintro w1 ⟨S,f,j,k⟩;refine (kg (aF m Pg W Fs Us Hg mp) (j4 m Pg W Fs Us Hg mp) f.mem a i p t g _ l (by omega) (by omega) c b.hd2 n b.d b.z).mono ?_;rintro e w' ⟨rfl,hp⟩;exact ⟨rfl,gk.sp f j k hp⟩
end
section
variable {m Pg W Fs Us Hg:Nat} {mp:Nat->Bool} {kb wb:Nat} {S S0:Nat->Prop} {w w' w0:World} {s:dg} {sz:Nat->Nat}
theorem gk.anchor (h:gk m Pg W Fs Us Hg mp kb wb S0 w0 s w):∃a,tT m Pg W Fs Us Hg mp kb wb s.M s.f s.n s.top a w∧(∀s' w',gk m Pg W Fs Us Hg mp kb wb a w s' w'->gk m Pg W Fs Us Hg mp kb wb S0 w0 s' w')∧(∀k,a k->k<w.heap.size)∧kb<w.heap.size∧wb<w.heap.size:=by
 obtain ⟨a,b,d,e⟩:=h;refine ⟨a,b,?_,(aF m Pg W Fs Us Hg mp).lt _ _ _ b.mem,b.blk.lt,b.went.lt⟩;rintro s' w' ⟨S2,g,i,j⟩;have l:=d.size;refine ⟨S2,g,d.trans i (fun k c=> ?_),fun k c=> ?_⟩
 ·rcases c with h|h
  ·exact (e k h).imp .inl id
  ·exact .inl (.inr h)
 ·rcases j k c with h|h
  ·exact e k h
  ·exact .inr (by omega)
def Ap (m Pg W Fs Us Hg:Nat) (mp:Nat->Bool) (kb wb:Nat) (S0:Nat->Prop) (w0:World) (s:dg) (x:Nat) (e:Ending) (w':World):Prop:=e= .returned (.int .i64 x)∧gk m Pg W Fs Us Hg mp kb wb S0 w0 s w'
theorem uy (h:gk m Pg W Fs Us Hg mp kb wb S0 w0 s w) (a p t g:Nat) (ha:1<=a) (hA:a<1048576) (H:aY W Pg mp a) (R:dw s.M a p t g) (u:∀i,i<p->dg.Ok1 (aY W Pg mp) sz a p t g (dg.turnN sz a s i) i):
  Calls Tryz.prog 147 #[kb,.int .i64 a] w (Ap m Pg W Fs Us Hg mp kb wb S0 w0 (dg.turnN sz a s p) (a+(1+(p+t+g)))):=by
 have hH:=R.2;unfold bl at hH;have a0:p+t+g<256:=by omega
 have E:Hid ((Tryz.prog.info? 31).map (·.size)=some 3):=by show _=_;kernel_rfl
 have D:Hid (Calls Tryz.prog 88 #[.iface 112 (.pointer (some ⟨m,0,none⟩)),.int .i64 a] w fun e w'=>e= .returned (.tuple #[bN p t g,.int .i64 0])∧gk m Pg W Fs Us Hg mp kb wb S0 w0 s w'):=by
  show Calls _ _ _ _ _
  obtain ⟨b,z,q2,N⟩:=h;refine (fV z.mem a p t g ha H R).mono ?_;rintro e w' ⟨rfl,hp⟩;obtain ⟨S2,r1,O,r3⟩:=hp;exact ⟨rfl,gk.sp z q2 N ⟨S2,r1,O,r3⟩⟩
 have L:co p t g=((1+(p+t+g):Nat):Int):=by unfold co;rw [if_pos R.2];push_cast;omega
 have n:=ae (fun w1=>dj p t g w1);rw [L] at n;have P:w.cell? ⟨kb,0,none⟩=some (.pointer (some ⟨m,0,none⟩)):=by
  obtain ⟨b,z,_⟩:=h;exact z.blk.cell 0 rfl
 have A:=ae (fun w1 (h1:gk m Pg W Fs Us Hg mp kb wb S0 w0 s w1)=>h1.anchor);have l:=ae (fun b T wr i (Q:i<p) (K:gk m Pg W Fs Us Hg mp kb wb b T (dg.turnN sz a s i) wr)=>af (uw a p t g ha hA H K i Q (u i Q)) (fun w1 (ap:gk m Pg W Fs Us Hg mp kb wb b T (dg.turnN sz a s i) w1)=>nF (sz:=sz) ap ((dg.turnN sz a s i).M (a+1+i)) (u i Q).ok));have d:=ae (fun b T s' wr (K:gk m Pg W Fs Us Hg mp kb wb b T s' wr)=>(show wr.cell? ⟨kb,0,none⟩=some (.pointer (some ⟨m,0,none⟩)) from by
  obtain ⟨S2,z,_⟩:=K;exact z.blk.cell 0 rfl))
 unfold d8 bN at*;have a6:1+(p+t+g)<=256:=by omega
 rw [show ((a+(1+(p+t+g)):Nat))=a+(1+(p+t+g)) from rfl];clear h u R L hH
 go_enter Tryz.func147,Tryz.ntmps147
 go_wp2_with fail
 refine (D.out).mono ?_;rintro e w1 ⟨rfl,J⟩;obtain ⟨b,a1,a2,a3,a4,a5⟩:=A.out w1 J;obtain ⟨c,f⟩:∃c,c=w1.alloc (.cells #[.int .i64 p,.int .i64 t,.int .i64 g] 31):=⟨_,rfl⟩;have r:Fr (fun _=>False) w1 c:=by rw [f];exact (Fr.refl _ w1).alloc _
 have o:aj c w1.heap.size [.int .i64 p,.int .i64 t,.int .i64 g] 31:=by rw [f];exact aj.new w1 _ _
 have F:=ae f;have ax:c.heap.size=w1.heap.size+1:=by rw [f];exact Array.size_push _
 have G:gk m Pg W Fs Us Hg mp kb wb b c s c:=⟨b,a1.Fh r,Fr.refl _ _,fun _ h=> .inl h⟩;have j:Hid (∀s' w',gk m Pg W Fs Us Hg mp kb wb b c s' w'->gk m Pg W Fs Us Hg mp kb wb S0 w0 s' w'):=by
  show∀s' w',_
  rintro s' w' ⟨S2,r1,O,r3⟩;exact a2 s' w' ⟨S2,r1,(r.mono (fun _ h=>h.elim)).trans O (fun k h=> .inl h),fun k hk=>(r3 k hk).imp id (fun h=>by omega)⟩
 have Z:=ae (fun s' wr (K:gk m Pg W Fs Us Hg mp kb wb b c s' wr)=>(show aj wr w1.heap.size [.int .i64 p,.int .i64 t,.int .i64 g] 31 from by
  obtain ⟨S2,_,O,_⟩:=K;exact o.frame O (fun h=>by
   rcases h with h|h|h
   ·have:=a3 _ h;omega
   ·omega
   ·omega)))
 have H0:=ae G;have k0:=o.cell 0 rfl;clear J a1 a2 a3 a4 a5 f r o ax G A D P
 go_upto_region 2 with fail
 rw [<-F.out];clear F;go_wp2
 go_loopw [22] (fun x wr=>∃i:Nat,x= .int .i64 i∧i<=p∧Hid (gk m Pg W Fs Us Hg mp kb wb b c (dg.turnN sz a s i) wr)) (fun x _=>(p-intOf x).toNat)
 case atStart=>exact ⟨0,rfl,Nat.zero_le _,H0⟩
 case round=>
  clear H0 k0;obtain ⟨i,rfl,Q,y⟩:=hrel;have q:=Z.out _ wr y.out;have P:=d.out b c _ wr y.out;by_cases av:i<p
  ·obtain ⟨⟨g1,g2⟩,g3⟩:=l.out b c wr i av y.out;have U:=ae g1;have V:=ae g2;have Y:=ae g3;have c1:(i:Int)<(p:Int):=by omega
   clear g1 g2 g3 y l q Z j;obtain ⟨sg,v⟩:∃sg,sg=dg.turnN sz a s i:=⟨_,rfl⟩;rw [<-v] at U V Y;have am:=ae v;clear v;generalize hX:sg.M (a+1+i)=X at*;have HX:=ae hX;clear hX;go_wp2_with fail
   refine (U.out).mono ?_;rintro e w3 ⟨rfl,N⟩;have c3:=d.out b c _ w3 N;have HT:=ae (Y.out w3.drew (N.Fh ((Fr.refl _ w3).drew)));clear U N P;go_wp2
   go_region_held (fun w'=>w'.cell? ⟨kb,0,none⟩=some (.pointer (some ⟨m,0,none⟩))) (first|assumption|go_keep) (first
    |(refine (HT.out).mono ?_;rintro e w4 ⟨rfl,q4⟩;have c4:=d.out b c _ w4 q4)
    |(refine (V.out _ q4).mono ?_;rintro e w5 ⟨rfl,q5⟩;have c5:=d.out b c _ w5 q5))
   have ah:=ae q5;clear q5 q4 c4 HT V Y c3;go_wp2;refine ⟨⟨i+1,by simp,by omega,?_⟩,by unfold intOf;simp only [];omega⟩;have hn:=ah.out;rw [am.out] at hn;exact hn
  ·have aq:i=p:=by omega
   subst aq;have C:=ae (j.out _ wr y.out);have c1:¬(i:Int)<(i:Int):=by omega
   have B:=ae q;clear j l d Z q P y;go_wp2_with (refine wpList_load_row rfl 31 _ rfl w1.heap.size rfl 31 #[.int .i64 i,.int .i64 t,.int .i64 g] _ _ B.out Tryz.underlying31 rfl E.out ?_)
   refine (n.out _).mono ?_;rintro e w5 ⟨rfl,I⟩;have ad:=ae (C.out.Fh I);clear I C B n E;go_wp2;go_ret;refine ⟨?_,ad.out⟩;congr 2
end
def gg (sz:Nat->Nat) (l:List Nat):Nat:=(l.map sz).sum
theorem gh (sz:Nat->Nat) (l a:List Nat):gg sz (l++a)=gg sz l+gg sz a:=by unfold gg;rw [List.map_append,List.sum_append]
theorem jw (sz:Nat->Nat) (x:Nat):gg sz [x]=sz x:=by simp [gg]
theorem oQ {sz:Nat->Nat} {l:List Nat} {j x:Nat} (h:l[j]? =some x):gg sz (l.take j)+sz x<=gg sz l:=by
 have a:l.take (j+1)=l.take j++[x]:=by rw [List.take_add_one,h];rfl
 have b:=gh sz (l.take (j+1)) (l.drop (j+1));rw [List.take_append_drop,a,gh,jw] at b;omega
structure eG (L:Nat->Nat) (sz np:Nat->Nat) (To:Nat) (ord:List Nat) (cur:Nat) (s:dg):Prop where
 nd:ord.Nodup
 went:∀x z,s.f x=some z↔∃j,ord[j]? =some x∧z=To+gg sz (ord.take j)
 num:s.n=ord.length
 top:s.top=To+gg sz ord
 still:∀k,k<To∨s.top<=k->s.M k=L k
 old:∀x z i,s.f x=some z->i<sz x->(cur<=z+i∨i=0∨np x<i)->s.M (z+i)=L (x+i)
 new:∀x z i,s.f x=some z->z+i<cur->1<=i->i<=np x->i<sz x->(L (x+i)=0∧s.M (z+i)=0)∨s.f (L (x+i))=some (s.M (z+i))
section
variable {L sz np:Nat->Nat} {To cur:Nat} {ord:List Nat} {s:dg}
theorem eG.fits (h:eG L sz np To ord cur s) {x z:Nat} (b:s.f x=some z):To<=z∧z+sz x<=s.top:=by
 obtain ⟨j,a,rfl⟩:=(h.went x z).1 b;have:=oQ (sz:=sz) a;have:=h.top;omega
theorem eG.Fh (h:eG L sz np To ord cur s) {x:Nat}:s.f x=none↔x∉ord:=by
 constructor
 ·intro a b;obtain ⟨j,c⟩:=List.mem_iff_getElem?.1 b;have:=(h.went x _).2 ⟨j,c,rfl⟩;rw [a] at this;exact absurd this (by simp)
 ·intro a
  cases hx:s.f x with
  |none=>rfl
  |some z=>
   obtain ⟨j,b,_⟩:=(h.went x z).1 hx;exact absurd (List.mem_of_getElem? b) a
theorem eG.goes (h:eG L sz np To ord cur s) {x:Nat} (F:x≠0) (hf:s.f x=none) (E:cur<=s.top) (r:∀k,x<=k->k<x+sz x->k<To∨s.top<=k):
  eG L sz np To (ord++[x]) cur (s.take sz x).1∧(s.take sz x).2=s.top∧(s.take sz x).1.top=s.top+sz x∧(s.take sz x).1.f x=some s.top∧(∀y z,s.f y=some z->(s.take sz x).1.f y=some z):=by
 have C:=h.Fh.1 hf;have K:s.take sz x=(⟨iu s.M x s.top (sz x),dB s.f x s.top,s.n+1,s.top+sz x⟩,s.top):=by
  unfold dg.take;rw [if_neg F,hf]
 have l:=h.top;rw [K];have d:∀y z,s.f y=some z->dB s.f x s.top y=some z:=by
  intro y z e;have m:y≠x:=by rintro rfl;rw [hf] at e;exact absurd e (by simp)
  unfold dB;rw [if_neg m];exact e
 have p:dB s.f x s.top x=some s.top:=by unfold dB;rw [if_pos rfl]
 have c:∀y z,dB s.f x s.top y=some z->(y=x∧z=s.top)∨(y≠x∧s.f y=some z):=by
  intro y z e;unfold dB at e;by_cases o:y=x
  ·rw [if_pos o] at e;exact .inl ⟨o,(Option.some.inj e).symm⟩
  ·rw [if_neg o] at e;exact .inr ⟨o,e⟩
 refine ⟨⟨?_,?_,?_,?_,?_,?_,?_⟩,rfl,rfl,p,d⟩
 ·rw [List.nodup_append];refine ⟨h.nd,by simp,?_⟩;intro a G b H;rw [List.mem_singleton.1 H];rintro rfl;exact C G
 ·intro y z;constructor
  ·intro e;rcases c y z e with ⟨rfl,rfl⟩|⟨m,q⟩
   ·refine ⟨ord.length,by simp,?_⟩;rw [List.take_left' rfl];exact l
   ·obtain ⟨j,g,t⟩:=(h.went y z).1 q;have u:=(List.getElem?_eq_some_iff.1 g).1;refine ⟨j,by rw [List.getElem?_append_left u];exact g,?_⟩;rw [List.take_append_of_le_length (by omega)];exact t
  ·rintro ⟨j,g,t⟩;rcases Nat.lt_or_ge j ord.length with u|u
   ·rw [List.getElem?_append_left u] at g;rw [List.take_append_of_le_length (by omega)] at t;exact d y z ((h.went y z).2 ⟨j,g,t⟩)
   ·have B:j=ord.length:=by
     have:=(List.getElem?_eq_some_iff.1 g).1;rw [List.length_append] at this;simp at this;omega
    subst B;rw [List.getElem?_append_right (Nat.le_refl _),Nat.sub_self] at g;rw [List.take_left' rfl] at t;have:x=y:=by simpa using g
    subst this;rw [t,<-l];exact p
 ·show s.n+1=_
  rw [h.num,List.length_append];rfl
 ·show s.top+sz x=_
  rw [gh,jw,l];omega
 ·intro k J;show iu s.M x s.top (sz x) k=_
  unfold iu;change k<To∨s.top+sz x<=k at J;rw [if_neg (by omega)];exact h.still k (by omega)
 ·intro y z i e w D;show iu s.M x s.top (sz x) (z+i)=_
  unfold iu;rcases c y z e with ⟨rfl,rfl⟩|⟨m,q⟩
  ·rw [if_pos (by omega),show y+(s.top+i-s.top)=y+i by omega];exact h.still _ (r _ (by omega) (by omega))
  ·have:=h.fits q;rw [if_neg (by omega)];exact h.old y z i q w D
 ·intro y z i e I v A w;show (_∧iu s.M x s.top (sz x) (z+i)=0)∨dB s.f x s.top _=some (iu s.M x s.top (sz x) (z+i))
  unfold iu;rcases c y z e with ⟨rfl,rfl⟩|⟨m,q⟩
  ·omega
  ·have:=h.fits q;rw [if_neg (by omega)];rcases h.new y z i q I v A w with g|g
   ·exact .inl g
   ·exact .inr (d _ _ g)
end
end Go.Proofs.YthahbijbpinneaaGreatDoor
