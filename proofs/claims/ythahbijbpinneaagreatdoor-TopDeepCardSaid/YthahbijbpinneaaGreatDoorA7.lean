import Derived.Test.YthahbijbpinneaaGreatDoorA0
import Derived.Test.YthahbijbpinneaaGreatDoorA4
import Derived.Test.YthahbijbpinneaaGreatDoorA6
import Derived.Laws.BitsAllLaws
import Derived.Laws.BitsLemmas
import Derived.Recover
import Derived.Shelf.Abstract
import Derived.Maps.AppendAt
set_option maxRecDepth 100000
set_option maxHeartbeats 8000000
set_option linter.all false
namespace Go.Proofs.YthahbijbpinneaaGreatDoor
open Go.RowKit
def bX (mp:Nat->Bool) (q:Nat):Bool:= !mp q
def gH (w:World) (m:Nat) (S:Nat->Prop) (Pg W Rm Us:Nat) (mp:Nat->Bool) (M:Nat->Nat) (A p:Nat) (wr:World):Prop:=
 ∃S1 high1 mp1 M1 v l,bn wr m S1 Pg W Rm (Us+cnt (bX mp) A p) high1 mp1 M1∧(∀q,mp1 q=(mp q||(decide (A<=q)&&decide (q<p))))∧(∀a,a<W->mp (a/Pg)=true->M1 a=M a)∧Fr S w wr∧(∀k,S1 k->S k∨w.heap.size<=k)∧
  aj wr (w.heap.size+1) [v] 123∧wr.ownsRow 0 3 1 v l.length l∧l.length<=p-A∧aj wr w.heap.size [.pointer (some ⟨m,0,none⟩)] 112∧¬S1 (w.heap.size+1)∧¬S1 w.heap.size∧∀k,v.ownBlock=some k->¬S1 k∧w.heap.size+2<=k
section
variable {w:World} {m Pg W Rm Us Hg:Nat} {S:Nat->Prop} {mp:Nat->Bool} {M:Nat->Nat}
theorem iD {A p:Nat} (h:A<=p):cnt (bX mp) A (p+1)=cnt (bX mp) A p+(if mp p then 0 else 1):=by
 rw [aC _ h];unfold bX
 cases mp p<;>rfl
theorem gH.is {A p:Nat} {wr w2:World} (h:gH w m S Pg W Rm Us mp M A p wr) (i:A<=p) (hp:mp p=true) (hf:Fr (fun _=>False) wr w2):gH w m S Pg W Rm Us mp M A (p+1) w2:=by
 obtain ⟨g,high1,a,f,v,l,j,k,n,o,r,s,t,x,u,b,c,d⟩:=h;refine ⟨g,high1,a,f,v,l,by rw [iD i,if_pos hp];exact j.keep hf,fun q=> ?_,n,o.trans hf (fun _ h=>h.elim),r,s.frame hf (fun h=>h),an t hf (fun _ _ h=>h),by omega,u.frame hf (fun h=>h),b,c,d⟩;rw [k];by_cases e:q=p
 ·subst e;rw [hp];rfl
 ·congr 2
  rw [decide_eq_decide];omega
theorem gH.more {A p g cap:Nat} {wr w2 w3 w4:World} {o S2:Nat->Prop} {high1 high2:Nat} {j mp2:Nat->Bool} {K M2:Nat->Nat} {v:Value} {l:List Value} (L:A<=p) (hp:mp p=false)
  (I:∀q,j q=(mp q||(decide (A<=q)&&decide (q<p)))) (q3:∀a,a<W->mp (a/Pg)=true->K a=M a) (O:Fr S w wr) (P:∀k,o k->S k∨w.heap.size<=k)
  (Q:aj wr (w.heap.size+1) [v] 123) (q7:wr.ownsRow 0 3 1 v l.length l) (q8:l.length<=p-A) (R:aj wr w.heap.size [.pointer (some ⟨m,0,none⟩)] 112) (s:¬o (w.heap.size+1)) (t:¬o w.heap.size) (c:∀k,v.ownBlock=some k->¬o k∧w.heap.size+2<=k)
  (T:bn w2 m S2 Pg W Rm (Us+cnt (bX mp) A p+1) high2 mp2 M2) (U:∀q,mp2 q=(j q||q==p)) (r2:∀a,a<W->j (a/Pg)=true->mp2 (a/Pg)=true->M2 a=K a) (C:Fr o wr w2) (D:∀k,S2 k->o k∨wr.heap.size<=k)
  (r:Fr (fun _=>False) w2 w3) (Z:w4.ownsRow 0 3 1 (.slice (some ⟨g,0,none⟩) (l.length+1) cap) (l.length+1) (l++[.int .i64 p])) (B:Fr (fun k=>v.ownBlock=some k) w3 w4) (hg:v.ownBlock=some g∨w3.heap.size<=g):
  (∃u,w4.cell? ⟨w.heap.size+1,0,none⟩=some u)∧w4.frozen? ⟨w.heap.size+1,0,none⟩=false∧∀W5,W5=w4.setCell ⟨w.heap.size+1,0,none⟩ (.slice (some ⟨g,0,none⟩) (l.length+1) cap)->gH w m S Pg W Rm Us mp M A (p+1) W5:=by
 have ah:=O.size;have ad:=C.size;have am:=r.size;have l6:=Q.lt;have l9:=R.lt;have f:aj w4 (w.heap.size+1) [v] 123:=((Q.frame C s).frame r (fun h=>h)).frame B (fun e=>by have:=(c _ e).2;omega);refine ⟨⟨v,f.cell 0 rfl⟩,f.free 0,?_⟩;rintro W5 rfl;have d:Fr (fun k=>k=w.heap.size+1) w4 (w4.setCell ⟨w.heap.size+1,0,none⟩ (.slice (some ⟨g,0,none⟩) (l.length+1) cap)):=(Fr.refl (fun k=>k=w.heap.size+1) w4).setCell ⟨w.heap.size+1,0,none⟩ (.inl rfl) _;have x:¬S2 (w.heap.size+1):=fun h=>by rcases D _ h with h|h;exact s h;omega
 have J:¬S2 w.heap.size:=fun h=>by rcases D _ h with h|h;exact t h;omega
 have y:∀k,v.ownBlock=some k->¬S2 k:=fun k b h=>by
  rcases D _ h with h|h
  ·exact (c k b).1 h
  ·have:=(q7.lt k b).2;omega
 have G:¬S2 g∧w.heap.size+2<=g:=by
  rcases hg with hg|hg
  ·exact ⟨y g hg,(c g hg).2⟩
  ·refine ⟨fun h=> ?_,by omega⟩;obtain ⟨p',vw,vt,vb,ws,tk,bk,Tm,g',gt,ts,fr,n,V,z,F,_,_,_,_,_,_,E⟩:=T;have Y:g<w2.heap.size:=by
    rcases (E g).1 h with h|(h|h|h|h)|(h|h|h)
    ·rw [h];exact V.lt
    ·rw [h];exact z.blk.lt
    ·exact (z.rw.lt g h).2
    ·exact (z.rt.lt g h).2
    ·exact (z.rb.lt g h).2
    ·rw [h];exact F.blk.lt
    ·rw [h];exact F.row.lt
    ·obtain ⟨i,X⟩:=List.mem_iff_getElem?.1 h;exact (F.tab i g X).lt
   omega
 refine ⟨S2,high2,mp2,M2,.slice (some ⟨g,0,none⟩) (l.length+1) cap,l++[.int .i64 p],?_,?_,?_,?_,?_,f.set 0 _,?_,?_,?_,x,J,?_⟩
 ·rw [iD L,hp];exact ((T.keep r).frame B (fun k b e=>y k e b)).frame d (fun k b e=>x (by rw [<-e];exact b))
 ·intro q;rw [U,I];by_cases e:q=p
  ·subst e;simp only [beq_self_eq_true,Bool.or_true,L,decide_true,Bool.true_and,Nat.lt_succ_self]
  ·have:(q==p)=false:=by rw [beq_eq_false_iff_ne];exact e
   rw [this,Bool.or_false];congr 2
   rw [decide_eq_decide];omega
 ·intro a N H;rw [r2 a N (by rw [I,H];rfl) (by rw [U,I,H];rfl)];exact q3 a N H
 ·exact ((((O.trans C P).trans r (fun _ h=>h.elim)).trans B (fun k b=> .inr (by have:=(c k b).2;omega))).trans d (fun k b=> .inr (by omega)))
 ·intro k b;rcases D k b with h|h
  ·exact P k h
  ·exact .inr (by omega)
 ·have:=an Z d (fun k b e=>by simp only [Value.ownBlock,Option.some.injEq] at b;omega);rw [List.length_append,List.length_singleton];exact this
 ·rw [List.length_append,List.length_singleton];omega
 ·exact (((R.frame C t).frame r (fun h=>h)).frame B (fun e=>by have:=(c _ e).2;omega)).frame d (by omega)
 ·intro k b;simp only [Value.ownBlock,Option.some.injEq] at b;subst b;exact G
def mW (w:World) (m:Nat) (S:Nat->Prop) (Pg W Rm Us:Nat) (mp:Nat->Bool) (M:Nat->Nat) (A B:Nat) (e:Ending) (w':World):Prop:=
 e= .returned (.int .i64 0)∧∃S' Hg' mp' M',bn w' m S' Pg W Rm (Us+cnt (bX mp) A (B+1)) Hg' mp' M'∧(∀q,mp' q=(mp q||(decide (A<=q)&&decide (q<=B))))∧(∀a,a<W->mp (a/Pg)=true->M' a=M a)∧Fr S w w'∧∀k,S' k->S k∨w.heap.size<=k
theorem ik (h:bn w m S Pg W Rm Us Hg mp M) (a u:Nat) (bj:a<u) (hu:u<=W) (j:Us+cnt (bX mp) (a/Pg) ((u-1)/Pg+1)<=Rm):Calls Tryz.prog 144 #[m,.int .i64 a,.int .i64 u] w (mW w m S Pg W Rm Us mp M (a/Pg) ((u-1)/Pg)):=by
 obtain ⟨i0,hi,a5,a6,a7⟩:=info_parts dQ;obtain ⟨p1,p2,hW,ax,b9,b7,Y⟩:=h.at;clear Y;have f:Fr (fun _=>False) w ((w.alloc (.cells #[.pointer (some ⟨m,0,none⟩)] 112)).alloc (.cells #[.slice none 0 0] 123)):=((Fr.refl _ w).alloc _).alloc _;have b:Fr (fun _=>False) w (w.alloc (.cells #[.pointer (some ⟨m,0,none⟩)] 112)):=(Fr.refl _ w).alloc _;have hS:∀k,S k->k<w.heap.size:=fun k hk=>by
  obtain ⟨p',vw,vt,vb,ws,tk,bk,Tm,g',gt,ts,fr,n,b1,T,b3,_,_,_,_,_,_,aq⟩:=id h;rcases (aq k).1 hk with h|(h|h|h|h)|(h|h|h)
  ·rw [h];exact b1.lt
  ·rw [h];exact T.blk.lt
  ·exact (T.rw.lt k h).2
  ·exact (T.rt.lt k h).2
  ·exact (T.rb.lt k h).2
  ·rw [h];exact b3.blk.lt
  ·rw [h];exact b3.row.lt
  ·obtain ⟨i,hi⟩:=List.mem_iff_getElem?.1 h;exact (b3.tab i k hi).lt
 obtain ⟨A,U⟩:∃A,a/Pg=A:=⟨_,rfl⟩;obtain ⟨B,F⟩:∃B,(u-1)/Pg=B:=⟨_,rfl⟩;have a9:A<=B:=by rw [<-U,<-F];exact Nat.div_le_div_right (by omega)
 have bb:B<W/Pg:=by rw [<-F];exact dG (by omega) p1 ax
 have bd:W/Pg<=W:=Nat.div_le_self _ _;rw [U,F] at j;rw [U,F];have HN:=ae (bT (h.keep b));have c2:(w.alloc (.cells #[m] 112)).cell? ⟨m,2,none⟩=_:=(let ⟨_,_,_,_,_,_,_,_,_,_,_,q,_⟩:=(h.keep b).ptrs;q);obtain ⟨p,g,vw,vt,vb,ws,tk,bk,Tm,k0,k1,k2,hp⟩:=(h.keep f).ptrs;have Q:=ae (iL hp);have y:aj ((w.alloc (.cells #[m] 112)).alloc (.cells #[.slice none 0 0] 123)) w.heap.size [.pointer (some ⟨m,0,none⟩)] 112:=(aj.new w _ _).alloc _;have X:aj ((w.alloc (.cells #[m] 112)).alloc (.cells #[.slice none 0 0] 123)) (w.heap.size+1) [.slice none 0 0] 123:=by
  have:=aj.new (w.alloc (.cells #[m] 112)) [.slice none 0 0] 123;rwa [World.size_alloc] at this
 have k3:=y.cell 0 rfl;have V:gH w m S Pg W Rm Us mp M A A ((w.alloc (.cells #[.pointer (some ⟨m,0,none⟩)] 112)).alloc (.cells #[.slice none 0 0] 123)):=
  ⟨S,Hg,mp,M,.slice none 0 0,[],by rw [bG _ (Nat.le_refl A)];exact h.keep f,fun q=>by
   have:(decide (A<=q)&&decide (q<A))=false:=by rw [Bool.eq_false_iff];simp only [ne_eq,Bool.and_eq_true,decide_eq_true_eq];omega
   rw [this,Bool.or_false],fun _ _ _=>rfl,f.mono (fun _ h=>h.elim),fun _ h=> .inl h,X,World.ownsRow_nil _ _ _ _,by simp,y,fun h=>by have:=hS _ h;omega,fun h=>by have:=hS _ h;omega,fun k hk=>by simp [Value.ownBlock] at hk⟩
 have N:=ae V;have q1:(a:Int).tdiv (Pg:Int)=(A:Int):=by rw [bV,U]
 have q2:((u:Int)-1).tdiv (Pg:Int)=(B:Int):=by rw [show (u:Int)-1=((u-1:Nat):Int) by omega,bV,F]
 have bo:¬Pg=0:=by omega
 have b1:(a:Int)<(u:Int):=by omega
 have T:(u:Int)<=(W:Int):=by omega
 have b3:(W:Int)<=524288:=by omega
 have b4:(B:Int)<=524288:=by omega
 have b5:(A:Int)<=524288:=by omega
 have HR:=ae j;have a8:=ae f;clear h hS U F hp V y X j f b
 go_enter Tryz.func144,Tryz.ntmps144
 go_wp2_with fail
 refine (HN.out).mono ?_;rintro e w' ⟨rfl,rfl⟩;go_wp2_with fail
 refine (Q.out).mono ?_;rintro e w' ⟨rfl,rfl⟩;generalize av:(w.alloc (.cells #[m] 112)).alloc (.cells #[.slice none 0 0] 123)=W0 at*;clear av k0 k1 k2 k3 c2 HN Q;go_wp2
 go_loopw [10] (fun k wr=>∃q:Nat,k= .int .i64 q∧A<=q∧q<=B+1∧Hid (gH w m S Pg W Rm Us mp M A q wr)) (fun k _=>(B+1-intOf k).toNat)
 case atStart=>exact ⟨A,by go_num,Nat.le_refl A,by omega,N.out⟩
 case round=>
  clear N;obtain ⟨q,rfl,z,b0,j⟩:=hrel;by_cases b6:q<=B
  ·have c1:(q:Int)<=(B:Int):=by omega
   cases hmq:mp q with
   |true=>
    obtain ⟨S1,high1,C,M1,v,l,D,x,H,I,J,r6,r7,r8,K,o,s,r⟩:=j.out;have d:=ae (xA D q (by omega) (by rw [x,hmq];rfl));have P:=ae (fun w2 hf=>gH.is (w2:=w2) j.out z hmq hf);have k3:=K.cell 0 rfl;clear D x H I J r6 r7 r8 K o s r j;go_wp2_with fail
    refine (d.out).mono ?_;rintro e w2 ⟨rfl,Z⟩;have ap:=ae (P.out w2 Z);clear Z P d k3;go_wp2;go_roundw
    case rel=>exact ⟨q+1,by go_num,by omega,by omega,ap.out⟩
    case measure=>simp [intOf];omega
   |false=>
    obtain ⟨S1,high1,C,M1,v,l,D,x,H,I,J,r6,r7,r8,K,o,s,r⟩:=j.out;have ad:Us+cnt (bX mp) A q<Rm:=by
     have h1:=iD (mp:=mp) z;rw [hmq] at h1;have h2:=cZ (bX mp) (a:=A) (show q+1<=B+1 by omega);have h3:=HR.out;simp only [Bool.false_eq_true,if_false] at h1;omega
    have d:=ae (xB D q (by omega) (by
     rw [x,hmq,Bool.false_or,Bool.eq_false_iff];simp only [ne_eq,Bool.and_eq_true,decide_eq_true_eq];omega) ad)
    have k3:=K.cell 0 rfl;have c:=ae (fun w2 w3 w4 S2 high2 mp2 M2 g cap a1 am a2 R a4 f1 G E hg=>gH.more (w:=w) (m:=m) (S:=S) (M:=M) (wr:=wr) (w2:=w2) (w3:=w3) (w4:=w4) (S2:=S2) (high2:=high2) (mp2:=mp2) (M2:=M2) (g:=g) (cap:=cap) (high1:=high1) (Rm:=Rm) (Us:=Us) z hmq x H I J r6 r7 r8 K o s r a1 am a2 R a4 f1 G E hg);have L:=ae (fun w2 (ah:Fr S1 wr w2)=>(af ((r6.frame ah o).cell 0 rfl) (an r7 ah (fun k hk h=>(r k hk).1 h))));have bs:l.length<=524289:=by omega
    clear D x H I J r6 r7 r8 K o s r j ad;go_wp2_with fail
    refine (d.out).mono ?_;rintro e w2 ⟨rfl,S2,high2,M2,a1,a2,R,a4⟩;obtain ⟨kx,t⟩:=L.out w2 R;have O:=ae (fun w3 w4 g cap f1 G E hg=>c.out w2 w3 w4 S2 high2 _ M2 g cap a1 (fun _=>rfl) a2 R a4 f1 G E hg);clear a1 a2 R a4 c L d k3;go_wp2_with (at_builtin;refine Hid.out ?_)
    unfold Hid;have b:Fr (fun _=>False) w2 (w2.alloc (.cells #[.int .i64 q] 3)):=(Fr.refl _ w2).alloc _;refine bL rfl _ _ 123 rfl 3 i0 (.int .i64 0) 8 Tryz.underlying123 hi a5 a6 a7 rfl v l.length l rfl (an t b (fun _ _ h=>h)) ⟨w2.heap.size,0,none⟩ _ (.int .i64 q) rfl ((aj.new w2 [.int .i64 q] 3).cell 0 rfl) rfl (by unfold maxLen;omega) (by omega) ?_;intro g cap w4 G E hg;obtain ⟨⟨uu,s1⟩,s2,s3⟩:=O.out _ w4 g cap b G E hg;have HS:=ae s3;clear b G E hg s3 O t kx;go_wp2;go_roundw
    case rel=>exact ⟨q+1,by go_num,by omega,by omega,HS.out _ rfl⟩
    case measure=>simp [intOf];omega
  ·have a0:q=B+1:=by omega
   subst a0;have c1:¬((B+1:Nat):Int)<=(B:Int):=by omega
   have HE:=ae j.out;clear j;go_wp2;go_ret;obtain ⟨S1,high1,C,M1,v,l,D,x,H,I,J,_⟩:=HE.out;exact ⟨rfl,S1,high1,C,M1,D,fun k=>by rw [x];congr 2;rw [decide_eq_decide];omega,H,I,J⟩
end
theorem uK (Rm Pg:Nat) (n:1<=Rm) (d:Rm<=4096) (hp:aL (Pg:Int)=true) (f:1<=Pg) (g:Pg<=256) (w:World):Calls Tryz.prog 180 #[.int .i64 Rm,.int .i64 Pg] w fun e w'=>∃p,e= .returned (.tuple #[.pointer (some ⟨p,0,none⟩),.int .i64 0])∧ba w' p (.slice none 0 0) (.slice none 0 0) (.slice none 0 0) [] [] [] Rm Pg 0 0 0∧w.heap.size<=p∧Fr (fun _=>False) w w':=by
 have c:=ae (eb (Pg:Int) (by omega) true hp);have a:∀W,W=w.alloc (.cells #[.slice none 0 0,.slice none 0 0,.slice none 0 0,.int .i64 Rm,.int .i64 Pg,.int .i64 0,.int .i64 0,.int .i64 0] 307)->ba W w.heap.size (.slice none 0 0) (.slice none 0 0) (.slice none 0 0) [] [] [] Rm Pg 0 0 0∧Fr (fun _=>False) w W:=by
  rintro W rfl;exact ⟨⟨aj.new w _ _,World.ownsRow_nil _ _ _ _,World.ownsRow_nil _ _ _ _,World.ownsRow_nil _ _ _ _,by simp,by simp,by simp,by simp,by simp,by simp,d,f,g,by omega⟩,(Fr.refl _ w).alloc _⟩
 have b:=ae a;have h:(1:Int)<=(Rm:Int):=by omega
 have i:(Rm:Int)<=4096:=by omega
 have j:(Pg:Int)<=256:=by omega
 have k:decide ((4096:Int)<(Rm:Int))=false:=decide_eq_false (by omega);have l:decide ((256:Int)<(Pg:Int))=false:=decide_eq_false (by omega);have m:decide ((Rm:Int)<1)=false:=decide_eq_false (by omega);clear hp a
 go_enter Tryz.func180,Tryz.ntmps180
 go_wp2_with fail
 refine (c.out _).mono ?_;rintro e w' ⟨rfl,rfl⟩;go_wp2;go_ret2;exact ⟨_,rfl,(b.out _ rfl).1,Nat.le_refl _,(b.out _ rfl).2⟩
theorem xC (W Pg Rm:Nat) (R:1<=Rm) (T:Rm<=4096) (hp:aL (Pg:Int)=true) (U:1<=Pg) (V:Pg<=256) (E:Pg<=W) (F:W<=524288) (o:W% Pg=0) (w:World):Calls Tryz.prog 118 #[.int .i64 W,.int .i64 Pg,.int .i64 Rm] w fun e w'=>∃m S,e= .returned (.tuple #[.pointer (some ⟨m,0,none⟩),.int .i64 0])∧bn w' m S Pg W Rm 0 0 (fun _=>false) (fun _=>0)∧(∀k,S k->w.heap.size<=k)∧Fr (fun _=>False) w w':=by
 have M:=ae (fun w=>uK Rm Pg R T hp U V w);have u:1<=W/Pg:=Nat.div_pos E (by omega);have v:W/Pg<=W:=Nat.div_le_self _ _;have D:=ae (fun w=>vJ (W/Pg) u (by omega) w);have d:∀w1 w2 w3 p g c l n W5,w2=w1.alloc (.cells #[.pointer (some ⟨p,0,none⟩),.pointer none,.int .i64 W] 219)->ba w1 p (.slice none 0 0) (.slice none 0 0) (.slice none 0 0) [] [] [] Rm Pg 0 0 0->w.heap.size<=p->Fr (fun _=>False) w w1->aM w3 g c l (W/Pg) (fun _=>0) n->(∀k,aG g c l k->w2.heap.size<=k)->Fr (fun _=>False) w2 w3->
   (w3.cell? ⟨w1.heap.size,1,none⟩=some (.pointer none)∧w3.frozen? ⟨w1.heap.size,1,none⟩=false)∧(W5=w3.setCell ⟨w1.heap.size,1,none⟩ (.pointer (some ⟨g,0,none⟩))->∃S,bn W5 w1.heap.size S Pg W Rm 0 0 (fun _=>false) (fun _=>0)∧(∀k,S k->w.heap.size<=k)∧Fr (fun _=>False) w W5):=by
  rintro w1 w2 w3 p g c l n W5 rfl H Z y A I r;have ad:=y.size;have b:aj w3 w1.heap.size [.pointer (some ⟨p,0,none⟩),.pointer none,.int .i64 W] 219:=(aj.new w1 _ _).frame r (fun h=>h);refine ⟨⟨b.cell 1 rfl,b.free 1⟩,?_⟩;rintro rfl;have s:Fr (fun k=>k=w1.heap.size) w3 (w3.setCell ⟨w1.heap.size,1,none⟩ (.pointer (some ⟨g,0,none⟩))):=(Fr.refl (fun k=>k=w1.heap.size) w3).setCell ⟨w1.heap.size,1,none⟩ (.inl rfl) _;have z:Fr (fun _=>False) w1 (w1.alloc (.cells #[.pointer (some ⟨p,0,none⟩),.pointer none,.int .i64 W] 219)):=(Fr.refl _ w1).alloc _;have j:=((H.frame z (fun _ _ h=>h)).frame r (fun _ _ h=>h));refine ⟨fun k=>k=w1.heap.size∨bq p (.slice none 0 0) (.slice none 0 0) (.slice none 0 0) k∨aG g c l k,⟨p,_,_,_,[],[],[],0,g,c,l,fun _=>0,n,b.set 1 _,j.frame s (fun k G e=>fH j b (by rw [<-e];exact G)),A.frame s (fun k G e=>fX A b (by rw [<-e];exact G)),⟨o,F,by omega⟩,(fun q f h=>by cases h),fun q q' _ h=>absurd rfl h,(aE (fun _ _ _=>rfl)).symm,fun _=>rfl,(fun a f _ h=>by cases h),fun k=>Iff.rfl⟩,?_,((y.trans z (fun _ h=>h.elim)).trans r (fun _ h=>h.elim)).trans s (fun i hi=> .inr (by omega))⟩;rintro k (h|h|h)
  ·omega
  ·rcases h with h|h|h|h
   ·omega
   ·cases h
   ·cases h
   ·cases h
  ·have:=I k h;rw [World.size_alloc] at this;omega
 have B:=ae d;have q1:(W:Int).tdiv (Pg:Int)=((W/Pg:Nat):Int):=bV W Pg;have q2:(W:Int).tmod (Pg:Int)=((W% Pg:Nat):Int):=rfl;rw [o] at q2;obtain ⟨P,x⟩:∃P,W/Pg=P:=⟨_,rfl⟩;rw [x] at q1 D B v;have Y:¬Pg=0:=by omega
 have b1:(1:Int)<=(W:Int):=by omega
 have b2:(W:Int)<=524288:=by omega
 have b3:(P:Int)<=524288:=by omega
 clear d hp x u v o
 go_enter Tryz.func118,Tryz.ntmps118
 go_wp2_with fail
 refine (M.out _).mono ?_;rintro e w1 ⟨p,rfl,N,O,Q⟩;have t:=ae (af N (af O Q));clear N O Q M;go_wp2_with fail
 refine (D.out _).mono ?_;rintro e w3 ⟨g,c,l,n,rfl,J,K,L⟩;obtain ⟨⟨k1,k2⟩,_⟩:=B.out w1 _ w3 p g c l n w3 rfl t.out.1 t.out.2.1 t.out.2.2 J K L;have C:=ae (fun W5 X=>(B.out w1 _ w3 p g c l n W5 rfl t.out.1 t.out.2.1 t.out.2.2 J K L).2 X);clear J K L B D;go_wp2;go_ret2;obtain ⟨S,t1,t2,t3⟩:=C.out _ rfl;exact ⟨_,S,rfl,t1,t2,t3⟩
def bl (p f g:Int):Prop:=0<=p∧p<256∧0<=f∧f<256∧0<=g∧g<256∧p+f+g<256
instance (p f g:Int):Decidable (bl p f g):=by unfold bl;exact inferInstance
def bN (p f g:Int):Value:= .agg #[.int .i64 p,.int .i64 f,.int .i64 g]
def ji (p f g:Int) (i:Nat):Int:=if i=0 then p else if i=1 then f else g
theorem sM (p f g:Int) (i:Nat) (a:i<3) (w:World):(Instr.index 50 (.agg #[.int .i64 p,.int .i64 f,.int .i64 g]) (.int .i64 i)).run Tryz.prog w= .ok (.int .i64 (ji p f g i)) w:=by
 obtain rfl|rfl|rfl:i=0∨i=1∨i=2:=by omega
 all_goals kernel_rfl
def gG (w:World) (n:Int) (e:Ending) (w':World):Prop:=e= .returned (.int .i64 n)∧Fr (fun _=>False) w w'
theorem bE {w:World} {b:Nat} {t:TypeId} {v0 v1 v2:Value} (h:aj w b [v0,v1,v2] t):w.cell? ⟨b,0,none⟩=some v0∧w.cell? ⟨b,1,none⟩=some v1∧w.cell? ⟨b,2,none⟩=some v2:=
 ⟨h.cell 0 rfl,h.cell 1 rfl,h.cell 2 rfl⟩
theorem dP (p f g:Int) (w:World):Calls Tryz.prog 52 #[bN p f g] w (gG w (if bl p f g then 0 else 15)):=by
 have q:=ae (sM p f g);have y:Hid (bl p f g->∀w',Fr (fun _=>False) w w'->gG w (if bl p f g then 0 else 15) (.returned (.int .i64 0)) w'):=fun h w' hf=>⟨by rw [if_pos h],hf⟩
 have o:Hid (¬bl p f g->∀w',Fr (fun _=>False) w w'->gG w (if bl p f g then 0 else 15) (.returned (.int .i64 15)) w'):=fun h w' hf=>⟨by rw [if_neg h],hf⟩
 generalize (gG w (if bl p f g then 0 else 15))=Q at*;unfold bN
 go_enter Tryz.func52,Tryz.ntmps52
 go_upto_region 1 with fail
 have v:=aj.new w [.int .i64 p,.int .i64 f,.int .i64 g] 31;have u:=(Fr.refl (fun _=>False) w).alloc (.cells #[.int .i64 p,.int .i64 f,.int .i64 g] 31);generalize w.alloc (.cells #[.int .i64 p,.int .i64 f,.int .i64 g] 31)=W at*;obtain ⟨G,H,I⟩:=bE v;have n:=ae u;clear v u
 go_upto_region 2 with fail
 go_loopw [4,12] (fun _ l wr=>∃i:Nat,i<=3∧l= .int .i64 i∧wr=W∧∀j,j<i->0<=ji p f g j∧ji p f g j<256) (fun _ l _=>3-(intOf l).toNat)
 case atStart=>exact ⟨0,Nat.zero_le _,rfl,rfl,fun j h=>absurd h (Nat.not_lt_zero j)⟩
 case round=>
  obtain ⟨i,B,rfl,rfl,a⟩:=hrel;by_cases d:i<3
  ·have s:=q.out i d;have c:¬(0<=ji p f g i∧ji p f g i<256)->¬bl p f g:=by
    intro h k;unfold bl at k;unfold ji at h;obtain rfl|rfl|rfl:i=0∨i=1∨i=2:=by omega
    all_goals simp at h;omega
   have m:=ae a;have b:=ae c;obtain ⟨x,t⟩:∃x,ji p f g i=x:=⟨_,rfl⟩;rw [t] at s;have r:=ae t;clear a c t;by_cases C:x<0
   ·go_wp2
    try go_ret
    exact o.out (b.out (by rw [r.out];omega)) _ n.out
   ·by_cases D:256<=x
    ·go_wp2
     try go_ret
     exact o.out (b.out (by rw [r.out];omega)) _ n.out
    ·go_wp2;go_roundw
     case rel=>exact ⟨i+1,d,by go_num,trivial,fun j E=>by
      by_cases e:j=i
      ·subst e;rw [r.out];omega
      ·exact m.out j (by omega)⟩
     case measure=>simp [intOf];omega
  ·obtain rfl:i=3:=by omega
   have a0:=a 0 (by decide);have z:=a 1 (by decide);have A:=a 2 (by decide);simp only [ji,if_true,show (1:Nat)≠0 from by decide,show (2:Nat)≠0 from by decide,show (2:Nat)≠1 from by decide,if_false] at a0 z A;clear a d B;by_cases F:256<=p+f+g
   ·go_wp2
    try go_ret
    exact o.out (by unfold bl;omega) _ n.out
   ·go_wp2
    try go_ret
    exact y.out (by unfold bl;omega) _ n.out
def co (p f g:Int):Int:=if bl p f g then 1+p+f+g else 0
def d8 (w:World) (n:Int) (e:Ending) (w':World):Prop:=e= .returned (.int .i64 n)∧Fr (fun _=>False) w w'
theorem dj (p f g:Int) (w:World):Calls Tryz.prog 54 #[bN p f g] w (d8 w (co p f g)):=by
 have d:=ae (dP p f g);unfold bN at*;unfold gG at d;by_cases h:bl p f g
 ·have j:co p f g=1+p+f+g:=if_pos h;rw [if_pos h] at d;rw [j];obtain ⟨o,q,r,s,t,u,v⟩:=h
  go_enter Tryz.func54,Tryz.ntmps54
  go_upto_region 1 with fail
  have c:=aj.new w [.int .i64 p,.int .i64 f,.int .i64 g] 31;have i:=(Fr.refl (fun _=>False) w).alloc (.cells #[.int .i64 p,.int .i64 f,.int .i64 g] 31);generalize w.alloc (.cells #[.int .i64 p,.int .i64 f,.int .i64 g] 31)=W at*;obtain ⟨k,l,m⟩:=bE c;have n:=ae c;clear j c;go_wp2_with fail
  refine (d.out _).mono ?_;rintro e w1 ⟨rfl,a⟩;obtain ⟨q0,x,y⟩:=bE (n.out.frame a (fun h=>h));have b:=i.trans a (fun _ h=>h.elim);clear k l m i a;go_wp2;go_ret;exact ⟨rfl,b⟩
 ·have j:co p f g=0:=if_neg h;rw [if_neg h] at d;rw [j];clear h j
  go_enter Tryz.func54,Tryz.ntmps54
  go_upto_region 1 with fail
  have c:=aj.new w [.int .i64 p,.int .i64 f,.int .i64 g] 31;have i:=(Fr.refl (fun _=>False) w).alloc (.cells #[.int .i64 p,.int .i64 f,.int .i64 g] 31);generalize w.alloc (.cells #[.int .i64 p,.int .i64 f,.int .i64 g] 31)=W at*;obtain ⟨k,l,m⟩:=bE c;clear c;go_wp2_with fail
  refine (d.out _).mono ?_;rintro e w1 ⟨rfl,a⟩;have b:=i.trans a (fun _ h=>h.elim);clear k l m i a;go_wp2;go_ret;exact ⟨rfl,b⟩
def gW (p f g:Nat):Nat:=p+f*256+g*65536+165*16777216
def eW (p f g:Nat):Nat:=(4294967295-gW p f g)*4294967296+gW p f g
theorem pU {p f g:Nat} (hp:p<256) (hf:f<256) (hg:g<256):gW p f g<4294967296:=by unfold gW;omega
theorem uS {p f g:Nat} (hp:p<256) (hf:f<256) (hg:g<256):eW p f g<18446744073709551616:=by
 have:=pU hp hf hg;unfold eW;omega
theorem rA (a b k:Nat) (c:a<2^k):a|||(b*2^k)=a+b*2^k:=by
 have:=Nat.two_pow_add_eq_or_of_lt (i:=k) (b:=a) c b;rw [Nat.or_comm,Nat.mul_comm b,<-this,Nat.add_comm]
theorem y6 {a b:Nat} (k:Nat) (c:a<2^k) (f:a+b*2^k<4294967296) (x y:Int) (d:x=(a:Int)) (e:y=((b*2^k:Nat):Int)):bits .or .u32 x y=((a+b*2^k:Nat):Int):=by
 subst d;subst e;have h:=u32_or_nat a (b*2^k) (by omega) (by omega);rw [rA a b k c] at h;exact h
theorem Ar {a b:Nat} (k:Nat) (c:a<2^k) (f:a+b*2^k<18446744073709551616) (x y:Int) (d:x=(a:Int)) (e:y=((b*2^k:Nat):Int)):bits .or .u64 y x=((a+b*2^k:Nat):Int):=by
 subst d;subst e;have h:=u64_or_nat (b*2^k) a (by omega) (by omega);rw [Nat.or_comm,rA a b k c] at h;exact h
theorem yw (y:Nat) (a:y<4294967296):bits .xor .u32 IntKind.u32.max (y:Int)=((4294967295-y:Nat):Int):=by
 have h:=u32_xor_nat 4294967295 y (by decide) a;have e:4294967295^^^y=4294967295-y:=by
  have c:4294967295-y=2^32-(y+1):=by omega
  rw [c];apply Nat.eq_of_testBit_eq;intro i;rw [Nat.testBit_two_pow_sub_succ (by exact a),Nat.testBit_xor,show (4294967295:Nat)=2^32-1 by rfl,Nat.testBit_two_pow_sub_one];by_cases b:i<32
  ·simp [b]
  ·have d:y.testBit i=false:=Nat.testBit_lt_two_pow (Nat.lt_of_lt_of_le a (Nat.pow_le_pow_right (n:=2) (by decide) (by omega:32<=i)));simp [b,d]
 rw [e] at h;exact h
def yr (w:World) (n:Nat) (e:Ending) (w':World):Prop:=e= .returned (.tuple #[.int .u64 n,.int .i64 0])∧Fr (fun _=>False) w w'
theorem uW (p f g:Nat) (h:bl p f g) (w:World):Calls Tryz.prog 125 #[bN p f g] w (yr w (eW p f g)):=by
 have i:=ae (dP p f g);rw [if_pos h] at i;obtain ⟨z,A,B,C,D,E,F⟩:=h;unfold bN at*;unfold gG at i;have u:bits .or .u32 (p:Int) ((f:Int)*256)=((p+f*256:Nat):Int):=y6 8 (by omega) (by omega) _ _ rfl (by simp);have v:bits .or .u32 ((p:Int)+(f:Int)*256) ((g:Int)*65536)=((p+f*256+g*65536:Nat):Int):=y6 16 (by omega) (by omega) _ _ (by simp) (by simp);have x:bits .or .u32 ((p:Int)+(f:Int)*256+(g:Int)*65536) 2768240640=((gW p f g:Nat):Int):=y6 (b:=165) 24 (by omega) (by omega) _ _ (by simp) (by simp);have d:=pU (p:=p) (f:=f) (g:=g) (by omega) (by omega) (by omega);have y:=yw (gW p f g) d;have j:bits .or .u64 (((4294967295-gW p f g:Nat):Int)*4294967296) (gW p f g:Int)=(eW p f g:Int):=by
  have:=Ar (a:=gW p f g) (b:=4294967295-gW p f g) 32 d (by omega) _ _ rfl rfl;rw [show gW p f g+(4294967295-gW p f g)*2^32=eW p f g by unfold eW;omega] at this;rw [<-this];simp
 have m:IntKind.u64.wrap (IntKind.u64.wrap ((4294967295-gW p f g:Nat):Int)*4294967296)=((4294967295-gW p f g:Nat):Int)*4294967296:=by
  rw [IntKind.wrap_u64,IntKind.wrap_u64];omega
 rw [<-m] at j;have o:=ae j;clear j m;generalize eW p f g=V at*;generalize gW p f g=N at*
 go_enter Tryz.func125,Tryz.ntmps125
 go_upto_region 1 with fail
 have k:=aj.new w [.int .i64 p,.int .i64 f,.int .i64 g] 31;have n:=(Fr.refl (fun _=>False) w).alloc (.cells #[.int .i64 p,.int .i64 f,.int .i64 g] 31);generalize w.alloc (.cells #[.int .i64 p,.int .i64 f,.int .i64 g] 31)=W at*;obtain ⟨r,s,t⟩:=bE k;have q:=ae k;clear k;go_wp2_with fail
 refine (i.out _).mono ?_;rintro e w1 ⟨rfl,c⟩;obtain ⟨q0,G,H⟩:=bE (q.out.frame c (fun h=>h));have l:=n.trans c (fun _ h=>h.elim);clear r s t n c;go_wp2;go_ret2;refine ⟨?_,l⟩;rw [<-o.out];rfl
theorem ph (a:Nat) (b:a<4294967296) (x:Int) (c:x=(a:Int)):bits .and .u32 x 255=((a% 256:Nat):Int):=by
 subst c;have h:=u32_and_nat a 255 b (by decide);rw [show a&&&255=a% 256 from Nat.and_two_pow_sub_one_eq_mod a 8] at h;exact h
def yL (w:World) (p f g:Nat) (e:Ending) (w':World):Prop:=e= .returned (.tuple #[bN p f g,.int .i64 0])∧Fr (fun _=>False) w w'
theorem cg {P:Program} {fn:Func} {p u:Tmp} {a:TypeId} (h:fn.results= #[.cell p a,.tmp u]) (tmps:Array Value) (w:World) (g:Nat) (t:TypeId) (cs:Array Value) (fr:Nat×Nat) (d:TypeDesc)
  (hp:tmps.getD p undef= .pointer (some ⟨g,0,none⟩)) (hg:w.heap[g]? =some (.cells cs t fr))
  (e:P.underlying a=some d) (b:(match d with| .struct _| .array _ _=>true|_=>false)=true) (c:(P.info? a).map (·.size)=some cs.size):
  (results fn tmps).run P w= .ok (.tuple #[.agg cs,tmps.getD u undef]) w:=by
 rw [results_cell_tmp h,hp];simp [asAddr,run_loadVar_row w g t a cs fr d hg e b c,Result.andThen]
theorem vu (p f g:Int):(#[Value.int .i64 p,.int .i64 f,.int .i64 g]:Array Value).all (·.oneCell')=true:=
 Go.all_oneCell_toArray (cs:=[.int .i64 p,.int .i64 f,.int .i64 g]) (fun v a=>by simp only [List.mem_cons,List.not_mem_nil,or_false] at a;rcases a with rfl|rfl|rfl<;>rfl)
theorem sL (p f g:Nat) (h:bl p f g) (w:World):Calls Tryz.prog 164 #[.int .u64 (eW p f g:Int)] w (yL w p f g):=by
 have A:=ae (dP p f g);rw [if_pos h] at A;obtain ⟨X,Y,Z,h4,h5,h6,h7⟩:=h;unfold bN at A;unfold gG at A;have I:gW p f g=p+f*256+g*65536+165*16777216:=rfl;have H:eW p f g=(4294967295-gW p f g)*4294967296+gW p f g:=rfl;have y:=pU (p:=p) (f:=f) (g:=g) (by omega) (by omega) (by omega);have o:eW p f g/4294967296=4294967295-gW p f g:=by rw [H];omega
 have U:IntKind.u32.wrap ((eW p f g:Int)/4294967296)=((4294967295-gW p f g:Nat):Int):=by
  rw [show (eW p f g:Int)/4294967296=((eW p f g/4294967296:Nat):Int) by simp,o,IntKind.wrap_u32];omega
 have P:IntKind.u32.wrap (eW p f g:Int)=(gW p f g:Int):=by rw [IntKind.wrap_u32];omega
 have Q:bits .and .u32 (gW p f g:Int) 255=(p:Int):=by rw [ph _ y _ rfl];omega
 have R:bits .and .u32 ((gW p f g:Int)/256) 255=(f:Int):=by rw [ph (gW p f g/256) (by omega) _ (by simp)];omega
 have S:bits .and .u32 ((gW p f g:Int)/65536) 255=(g:Int):=by rw [ph (gW p f g/65536) (by omega) _ (by simp)];omega
 have T:(gW p f g:Int)/16777216=165:=by omega
 have W:=yw (gW p f g) y;have K:IntKind.u32.signed=false:=rfl;have d:Hid ((Tryz.prog.info? 31).map (·.size)=some 3):=by show _=_;kernel_rfl
 have n:=ae (vu p f g);clear o;generalize eW p f g=V at*;generalize gW p f g=N at*;clear I H
 go_enter Tryz.func164,Tryz.ntmps164
 go_upto_region 1 with fail
 generalize j:World.alloc w _=W0;have v:aj W0 w.heap.size [.int .i64 0,.int .i64 0,.int .i64 0] 31:=by rw [<-j];exact aj.new w [.int .i64 0,.int .i64 0,.int .i64 0] 31
 have q:Fr (fun _=>False) w W0:=by rw [<-j];exact (Fr.refl _ w).alloc _
 clear j
 go_upto_region 3 with (refine wpList_store_row rfl 31 _ _ rfl W0.heap.size #[.int .i64 p,.int .i64 f,.int .i64 g] rfl rfl 31 _ (heap_alloc_new _ _) d.out rfl n.out ?_)
 generalize k:(World.alloc W0 _).setRow W0.heap.size _=W2;have l:aj W2 W0.heap.size [.int .i64 p,.int .i64 f,.int .i64 g] 31:=by rw [<-k];exact setRow_heap _ _ _ _ _ _ (heap_alloc_new W0 _)
 have m:Fr (fun _=>False) W0 W2:=by
  rw [<-k];exact ((Fr.refl _ W0).alloc _).trans (S':=fun i=>i=W0.heap.size) ⟨rfl,rfl,rfl,by simp,fun i _ h=>setRow_other _ _ _ _ (fun e=>h e)⟩ (fun i h=> .inr (by omega))
 clear k;have c:=v.frame m (fun h=>h);have r:=q.trans m (fun _ h=>h.elim);obtain ⟨L,M,O⟩:=bE l;have B:=ae l;have D:=ae c;have E:=ae r;clear v q m l c r;go_wp2_with fail
 refine (A.out _).mono ?_;rintro e w3 ⟨rfl,b⟩;have t:=B.out.frame b (fun h=>h);have a:=D.out.frame b (fun h=>h);have s:=E.out.trans b (fun _ h=>h.elim);clear L M O b;obtain ⟨q0,q1,q2⟩:=bE t;have z:w3.there w.heap.size 0 3:=fun i J=>by
  match i,J with
  |0,_=>exact ⟨by rw [a.cell 0 rfl];rfl,a.free 0⟩
  |1,_=>exact ⟨by rw [a.cell 1 rfl];rfl,a.free 1⟩
  |2,_=>exact ⟨by rw [a.cell 2 rfl];rfl,a.free 2⟩
 have u:aj (w3.setCells w.heap.size 0 [.int .i64 p,.int .i64 f,.int .i64 g]) w.heap.size [.int .i64 p,.int .i64 f,.int .i64 g] 31:=((a.set 0 _).set 1 _).set 2 _;have x:Fr (fun _=>False) w (w3.setCells w.heap.size 0 [.int .i64 p,.int .i64 f,.int .i64 g]):=
  ((s.setCell ⟨w.heap.size,0,none⟩ (.inr (Nat.le_refl _)) _).setCell ⟨w.heap.size,1,none⟩ (.inr (Nat.le_refl _)) _).setCell ⟨w.heap.size,2,none⟩ (.inr (Nat.le_refl _)) _
 have G:=ae z;have C:=ae u;have F:=ae x;clear t a s z u x;go_wp2_with (refine wpList_store_mid rfl 31 _ _ rfl w.heap.size 0 #[.int .i64 p,.int .i64 f,.int .i64 g] rfl rfl G.out d.out n.out ?_)
 refine bodyPost_ret (cg rfl _ _ _ _ _ _ _ rfl C.out Tryz.underlying31 rfl d.out) rfl ?_;exact ⟨rfl,F.out⟩
def bK (p f g i:Int):Int:=if i<0∨co p f g-1<=i then 0 else if i<p then 1 else if i<p+f then 2 else 3
theorem iN (p f g i:Int) (h:bl p f g) (w:World):Calls Tryz.prog 195 #[bN p f g,.int .i64 i] w (d8 w (bK p f g i)):=by
 have l:=ae (dj p f g);have o:co p f g=1+p+f+g:=if_pos h;have u:bK p f g i=if i<0∨p+f+g<=i then 0 else if i<p then 1 else if i<p+f then 2 else 3:=by
  unfold bK;rw [o,show 1+p+f+g-1=p+f+g by omega]
 rw [o] at l;rw [u];obtain ⟨H,k,I,J,L,M,N⟩:=h;clear o u;unfold bN at*;unfold d8 at l;obtain ⟨K,c⟩:∃K,(if i<0∨p+f+g<=i then (0:Int) else if i<p then 1 else if i<p+f then 2 else 3)=K:=⟨_,rfl⟩;have s:=ae (show (i<0∨p+f+g<=i)->K=0 from fun h=>by rw [<-c,if_pos h]);have y:=ae (show¬(i<0∨p+f+g<=i)->i<p->K=1 from fun h j=>by rw [<-c,if_neg h,if_pos j]);have z:=ae (show¬(i<0∨p+f+g<=i)->¬i<p->i<p+f->K=2 from fun h j k=>by rw [<-c,if_neg h,if_neg j,if_pos k]);have A:=ae (show¬(i<0∨p+f+g<=i)->¬i<p->¬i<p+f->K=3 from fun h j k=>by rw [<-c,if_neg h,if_neg j,if_neg k]);rw [c];clear c;have d:Hid (∀n w',K=n->Fr (fun _=>False) w w'->d8 w K (.returned (.int .i64 n)) w'):=fun n w' e hf=>⟨by rw [e],hf⟩
 go_enter Tryz.func195,Tryz.ntmps195
 go_upto_region 1 with fail
 have m:=aj.new w [.int .i64 p,.int .i64 f,.int .i64 g] 31;have t:=(Fr.refl (fun _=>False) w).alloc (.cells #[.int .i64 p,.int .i64 f,.int .i64 g] 31);generalize w.alloc (.cells #[.int .i64 p,.int .i64 f,.int .i64 g] 31)=W at*;obtain ⟨E,F,G⟩:=bE m;have x:=ae m;have r:=ae t;clear m t;by_cases C:i<0
 ·go_wp2;go_ret;exact d.out 0 _ (s.out (.inl C)) r.out
 ·go_wp2_with fail
  refine (l.out _).mono ?_;rintro e w1 ⟨rfl,b⟩;obtain ⟨q0,P,Q⟩:=bE (x.out.frame b (fun h=>h));have a:=ae (r.out.trans b (fun _ h=>h.elim));clear E F G b;have O:IntKind.i64.wrap (1+p+f+g-1)=p+f+g:=by rw [IntKind.wrap_i64];omega
  by_cases D:p+f+g<=i
  ·have B:decide (1+p+f+g-1<=i)=true:=by rw [decide_eq_true_eq];omega
   go_wp2;go_ret;exact d.out 0 _ (s.out (.inr D)) a.out
  ·have B:decide (1+p+f+g-1<=i)=false:=by rw [decide_eq_false_iff_not];omega
   by_cases q:i<p
   ·go_wp2;go_ret;exact d.out 1 _ (y.out (by omega) q) a.out
   ·by_cases v:i<p+f
    ·go_wp2;go_ret;exact d.out 2 _ (z.out (by omega) q v) a.out
    ·go_wp2;go_ret;exact d.out 3 _ (A.out (by omega) q v) a.out
abbrev dZ:=(Nat->Nat)->(Nat->Prop)->World->Prop
def dz (I:dZ) (L:Nat->Nat) (S:Nat->Prop) (W W':World):Prop:=∃S':Nat->Prop,I L S' W'∧Fr S W W'∧∀k,S' k->S k∨W.heap.size<=k
def cW (I:dZ):Prop:=∀L S W W' (T:Nat->Prop),I L S W->Fr T W W'->(∀k,S k->¬T k)->I L S W'
structure aX (t:TypeId) (v:Value) (fl:Nat) (r:Value) (I:dZ) (dom:Nat->Prop):Prop where
 mload:∀w,(method 476 t v "Load").run Tryz.prog w= .ok (fl,r) w
 eload:∀args w,(callFunc fl args).run Tryz.prog w= .ok (.enter fl args) w
 stays:∀L S W W' (T:Nat->Prop),I L S W->Fr T W W'->(∀k,S k->¬T k)->¬T 1->I L S W'
 tabl:cW I∨∀L S W,I L S W->1<W.heap.size
 lt:∀L S W,I L S W->∀k,S k->k<W.heap.size
 load:∀L S W a,I L S W->dom a->Calls Tryz.prog fl #[r,.int .i64 ((a:Nat):Int)] W fun e W'=>e= .returned (.tuple #[.int .u64 ((L a:Nat):Int),.int .i64 0])∧dz I L S W W'
structure iA (t:TypeId) (v:Value) (fs:Nat) (r:Value) (I:dZ) (dom:Nat->Prop):Prop where
 mstore:∀w,(method 476 t v "Store").run Tryz.prog w= .ok (fs,r) w
 estore:∀args w,(callFunc fs args).run Tryz.prog w= .ok (.enter fs args) w
 store:∀L S W a x,I L S W->dom a->x<18446744073709551616->Calls Tryz.prog fs #[r,.int .i64 ((a:Nat):Int),.int .u64 ((x:Nat):Int)] W fun e W'=>e= .returned (.int .i64 0)∧dz I (bw L a x) S W W'
section
variable {t:TypeId} {v:Value} {fl fs:Nat} {r:Value} {I:dZ} {dom:Nat->Prop} {L L' L'':Nat->Nat} {S:Nat->Prop} {w w1 w2:World}
theorem aX.keep (h:aX t v fl r I dom) (a:I L S w) (hf:Fr (fun _=>False) w w1):I L S w1:=h.stays L S w w1 _ a hf (fun _ _ h=>h) (fun h=>h)
theorem aX.stays_new (h:aX t v fl r I dom) {b:Nat->Nat} {S0:Nat->Prop} {w0:World} (e:I b S0 w0) (c:I L S w) {T:Nat->Prop} (hf:Fr T w w1) (d:∀k,S k->¬T k) (f:∀k,T k->w0.heap.size<=k):I L S w1:=by
 rcases h.tabl with a|a
 ·exact a L S w w1 T c hf d
 ·exact h.stays L S w w1 T c hf d (fun g=>by have:=f _ g;have:=a b S0 w0 e;omega)
theorem dz.trans (h:dz I L S w w1) (d:∀a,I L a w1->dz I L' a w1 w2):dz I L' S w w2:=by
 obtain ⟨a,f,b,c⟩:=h;obtain ⟨S2,g,i,j⟩:=d a f;have l:=b.size;exact ⟨S2,g,b.trans i c,fun k e=>by
  rcases j k e with h|h
  ·exact c k h
  ·exact .inr (by omega)⟩
theorem aX.Fh (h:aX t v fl r I dom) (a:I L S w) (hf:Fr (fun _=>False) w w1):dz I L S w w1:=⟨S,h.keep a hf,hf.mono (fun _ h=>h.elim),fun _ h=> .inl h⟩
theorem aX.behind (h:aX t v fl r I dom) (hp:dz I L S w w1) (hf:Fr (fun _=>False) w1 w2):dz I L S w w2:=hp.trans (fun _ a=>h.Fh a hf)
theorem aX.Ah (h:aX t v fl r I dom) (hf:Fr (fun _=>False) w w1) (e:I L S w) (hp:dz I L' S w1 w2):dz I L' S w w2:=by
 obtain ⟨S2,b,c,d⟩:=hp;have f:=hf.size;exact ⟨S2,b,(hf.mono (S':=S) (fun _ h=>h.elim)).trans c (fun _ h=> .inl h),fun k a=>(d k a).imp id (fun h=>by omega)⟩
theorem dz.blk (hp:dz I L S w w1) {b:Nat} {c:List Value} {a:TypeId} (d:aj w b c a) (e:¬S b):aj w1 b c a:=let ⟨_,_,f,_⟩:=hp;d.frame f e
theorem dz.fr (hp:dz I L S w w1):Fr S w w1:=let ⟨_,_,a,_⟩:=hp;a
def dw (L:Nat->Nat) (a p f g:Nat):Prop:=L a=eW p f g∧bl p f g
def lY (I:dZ) (L:Nat->Nat) (S:Nat->Prop) (w:World) (p f g:Nat) (e:Ending) (w':World):Prop:=e= .returned (.tuple #[bN p f g,.int .i64 0])∧dz I L S w w'
theorem eB (l:aX t v fl r I dom) (q:I L S w) (a p f g:Nat) (ha:1<=a) (P:dom a) (N:dw L a p f g):Calls Tryz.prog 88 #[.iface t v,.int .i64 a] w (lY I L S w p f g):=by
 have HM:=l.mload;have Z:=l.eload;have y:Hid ((Tryz.prog.info? 31).map (·.size)=some 3):=by show _=_;kernel_rfl
 have H:=ae (vu p f g);have R:=ae (sL p f g N.2);have G:=ae (fun w1 (hf:Fr (fun _=>False) w w1)=>l.load L S w1 a (l.keep q hf) P);rw [N.1] at G;have z:=l.lt _ _ _ q;have j:∀w1 w2 w3 W,Fr (fun _=>False) w w1->aj w1 w.heap.size [.int .i64 0,.int .i64 0,.int .i64 0] 31->dz I L S w1 w2->Fr (fun _=>False) w2 w3->
   w3.there w.heap.size 0 3∧(W=w3.setCells w.heap.size 0 [.int .i64 p,.int .i64 f,.int .i64 g]->aj W w.heap.size [.int .i64 p,.int .i64 f,.int .i64 g] 31∧dz I L S w W):=by
  intro w1 w2 w3 W C A hp b;have E:¬S w.heap.size:=fun h=>by have:=z _ h;omega
  have c:=(hp.blk A E).frame b (fun h=>h);refine ⟨fun i q=> ?_,?_⟩
  ·match i,q with
   |0,_=>exact ⟨by rw [c.cell 0 rfl];rfl,c.free 0⟩
   |1,_=>exact ⟨by rw [c.cell 1 rfl];rfl,c.free 1⟩
   |2,_=>exact ⟨by rw [c.cell 2 rfl];rfl,c.free 2⟩
  ·rintro rfl;refine ⟨((c.set 0 _).set 1 _).set 2 _,?_⟩;obtain ⟨S2,X,Y,Q⟩:=l.behind hp b;have V:=C.size;have l1:=A.lt;have D:Fr (fun k=>k=w.heap.size) w3 (w3.setCells w.heap.size 0 [.int .i64 p,.int .i64 f,.int .i64 g]):=
    (((Fr.refl (fun k=>k=w.heap.size) w3).setCell ⟨w.heap.size,0,none⟩ (.inl rfl) _).setCell ⟨w.heap.size,1,none⟩ (.inl rfl) _).setCell ⟨w.heap.size,2,none⟩ (.inl rfl) _
   have M:¬S2 w.heap.size:=fun h=>by
    rcases Q _ h with h|h
    ·exact E h
    ·omega
   exact ⟨S2,l.stays_new q X D (fun k s e=>M (by rw [<-e];exact s)) (fun k s=>Nat.le_of_eq s.symm),((C.mono (S':=S) (fun _ h=>h.elim)).trans Y (fun _ h=> .inl h)).trans D (fun k s=> .inr (by omega)),fun k s=>(Q k s).imp id (fun h=>by omega)⟩
 have d:=ae j;have U:(1:Int)<=(a:Int):=by omega
 clear l q P N z j
 go_enter Tryz.func88,Tryz.ntmps88
 go_upto_region 1 with fail
 generalize o:World.alloc w _=W0;have B:aj W0 w.heap.size [.int .i64 0,.int .i64 0,.int .i64 0] 31:=by rw [<-o];exact aj.new w [.int .i64 0,.int .i64 0,.int .i64 0] 31
 have n:Fr (fun _=>False) w W0:=by rw [<-o];exact (Fr.refl _ w).alloc _
 clear o;have x:=ae (G.out W0 n);have u:=ae (fun w2 w3 W hp b=>d.out W0 w2 w3 W n B hp b);clear B n G d;go_wp2_with fail
 refine (x.out).mono ?_;rintro e w2 ⟨rfl,hp⟩;have m:=ae (fun w3 W b=>u.out w2 w3 W hp b);clear hp u x;go_wp2_with fail
 refine (R.out _).mono ?_;rintro e w3 ⟨rfl,b⟩;have J:=ae (m.out w3 w3 b).1;have F:=ae (fun W T=>(m.out w3 W b).2 T);unfold bN;clear b m;go_wp2_with (refine wpList_store_mid rfl 31 _ _ rfl w.heap.size 0 #[.int .i64 p,.int .i64 f,.int .i64 g] rfl rfl J.out y.out H.out ?_)
 obtain ⟨K,O⟩:=F.out _ rfl;refine bodyPost_ret (cg rfl _ _ _ _ _ _ _ rfl K Tryz.underlying31 rfl y.out) rfl ?_;exact ⟨rfl,O⟩
end
def bz (I:dZ) (L:Nat->Nat) (S:Nat->Prop) (w:World) (r:Value) (e:Ending) (w':World):Prop:=e= .returned r∧dz I L S w w'
section
variable {t:TypeId} {v:Value} {fl fs:Nat} {r:Value} {I:dZ} {dom:Nat->Prop} {L L' L'':Nat->Nat} {S:Nat->Prop} {w w1 w2:World}
theorem iS (l:aX t v fl r I dom) (s:I L S w) (a i p f g x:Nat) (n:1<=a) (y:a<4611686018427387904) (z:i<256) (q:dom a) (j:dw L a p f g) (u:bK p f g i=x):Calls Tryz.prog 131 #[.iface t v,.int .i64 a,.int .i64 i,.int .i64 x] w (bz I L S w (.tuple #[.int .i64 ((a+1+i:Nat):Int),.int .i64 0])):=by
 have d:=ae (eB l s a p f g n q j);have c:=ae (fun w1=>iN p f g i j.2 w1);rw [u] at c;unfold d8 at c;have w1:IntKind.i64.wrap ((a:Int)+1)=(a:Int)+1:=by rw [IntKind.wrap_i64];omega
 have w2:IntKind.i64.wrap ((a:Int)+1+(i:Int))=(a:Int)+1+(i:Int):=by rw [IntKind.wrap_i64];omega
 have b:=ae (fun W1 o m (hp:dz I L S w W1) (hf:Fr (fun _=>False) (W1.alloc o) m)=>l.behind hp (((Fr.refl (fun _=>False) W1).alloc o).trans hf (fun _ h=>h.elim)));unfold lY at d;clear l s q j u n y z;unfold bN at d c
 go_enter Tryz.func131,Tryz.ntmps131
 go_upto_region 1 with fail
 go_wp2_with fail
 refine (d.out).mono ?_;rintro e W1 ⟨rfl,hp⟩;go_wp2_with fail
 refine (c.out _).mono ?_;rintro e m ⟨rfl,hf⟩;have k:=b.out _ _ _ hp hf;clear hp hf b d c;go_wp2;go_ret2;exact ⟨by simp,k⟩
theorem iX {a:Nat->Prop} (b:Fr S w w1) (c:∀k,a k->S k∨w.heap.size<=k) (e:dz I L' a w1 w2):dz I L' S w w2:=by
 obtain ⟨S2,f,g,i⟩:=e;have j:=b.size;exact ⟨S2,f,b.trans g c,fun k d=>by
  rcases i k d with h|h
  ·exact c k h
  ·exact .inr (by omega)⟩
theorem dz.load (k:aX t v fl r I dom) {a x:Nat} (g:dom a) (l:L a=x) (hp:dz I L S w w1):Calls Tryz.prog fl #[r,.int .i64 ((a:Nat):Int)] w1 (bz I L S w (.tuple #[.int .u64 x,.int .i64 0])):=by
 obtain ⟨b,c,d,f⟩:=hp;have h:=k.load L b w1 a c g;rw [l] at h;exact h.mono (fun e m ⟨i,j⟩=>⟨i,iX d f j⟩)
theorem dz.store (j:iA t v fs r I dom) {a x:Nat} (g:dom a) (k:x<18446744073709551616) (hp:dz I L S w w1):Calls Tryz.prog fs #[r,.int .i64 ((a:Nat):Int),.int .u64 ((x:Nat):Int)] w1 (bz I (bw L a x) S w (.int .i64 0)):=by
 obtain ⟨b,c,d,f⟩:=hp;exact (j.store L b w1 a x c g k).mono (fun e l ⟨h,i⟩=>⟨h,iX d f i⟩)
theorem mB (d:aX t v fl r I dom) (A:I L S w) (a i p f g o x:Nat) (u:1<=a) (q:a<4611686018427387904) (s:i<256) (y:dom a) (C:dw L a p f g) (B:bK p f g i=o) (c:dom (a+1+i)) (D:L (a+1+i)=x):Calls Tryz.prog 163 #[.iface t v,.int .i64 a,.int .i64 i,.int .i64 o] w (bz I L S w (.tuple #[.int .u64 x,.int .i64 0])):=by
 have k:=ae (iS d A a i p f g o u q s y C B);have H:=d.mload;have G:=d.eload;have j:=ae (fun w1 (h:dz I L S w w1)=>dz.load d c D h);obtain ⟨z,E⟩:∃z:Int,z=((a+1+i:Nat):Int):=⟨_,rfl⟩;rw [<-E] at k j;clear d A y C B c D E u q s;obtain ⟨Q,l⟩:∃Q,Q=bz I L S w (.tuple #[.int .u64 x,.int .i64 0]):=⟨_,rfl⟩;rw [<-l] at j ⊢;have F:Hid (∀e w',Q e w'->e= .returned (.tuple #[.int .u64 x,.int .i64 0])∧dz I L S w w'):=by show∀e w',_;intro e w' h;rw [l] at h;exact h
 have m:Hid (∀w',dz I L S w w'->Q (.returned (.tuple #[.int .u64 x,.int .i64 0])) w'):=by show∀w',_;intro w' h;rw [l];exact ⟨rfl,h⟩
 clear l;unfold bz at k
 go_enter Tryz.func163,Tryz.ntmps163
 go_wp2_with fail
 refine (k.out).mono ?_;rintro e W1 ⟨rfl,hp⟩;have b:=ae (j.out _ hp);clear hp j k;go_wp2_with fail
 refine (b.out).mono ?_;intro e J hp;obtain ⟨rfl,n⟩:=F.out _ _ hp;clear hp b;go_wp2;exact m.out _ n
theorem rB (D:aX t v fl r I dom) (k:iA t v fs r I dom) (A:I L S w) (a i p f g n x:Nat) (u:1<=a) (q:a<4611686018427387904) (s:i<256) (y:dom a) (C:dw L a p f g) (B:bK p f g i=n) (d:dom (a+1+i)) (E:x<18446744073709551616):Calls Tryz.prog 161 #[.iface t v,.int .i64 a,.int .i64 i,.int .i64 n,.int .u64 x] w (bz I (bw L (a+1+i) x) S w (.int .i64 0)):=by
 have l:=ae (iS D A a i p f g n u q s y C B);have H:=k.mstore;have G:=k.estore;have j:=ae (fun w1 (h:dz I L S w w1)=>dz.store k d E h);obtain ⟨z,F⟩:∃z:Int,z=((a+1+i:Nat):Int):=⟨_,rfl⟩;obtain ⟨o,c⟩:∃o,o=bw L (a+1+i) x:=⟨_,rfl⟩;rw [<-F] at l j;rw [<-c] at j ⊢;clear D A y C B d E F u q s k c;unfold bz at*
 go_enter Tryz.func161,Tryz.ntmps161
 go_wp2_with fail
 refine (l.out).mono ?_;rintro e W1 ⟨rfl,hp⟩;have b:=ae (j.out _ hp);clear hp j l;go_wp2_with fail
 refine (b.out).mono ?_;rintro e J ⟨rfl,m⟩;clear b;go_wp2;go_ret;exact ⟨rfl,m⟩
end
theorem pk (p q r:Addr) (w:World):
  CallsD Tryz.prog 237 #[.pointer (some p),.pointer (some q),.pointer (some r)] .returning w fun e c w'=>e= .returned (.tuple #[])∧c= .returning∧w'=w:=by
 refine callsD_of_wpS Tryz.func237 rfl fun a cs b=> ?_
 apply wpS_seq;apply wpS_region;simp [wpOpsS,go_sem,recoverD,b,Tryz.ntmps237,Exit.thenS];apply wpS_seq;apply wpS_seq;apply wpS_region;simp [wpOpsS,go_sem,Exit.thenS];refine wpS_cond (t:=true) (by simp [Act.eval,Array.replicate]) ?_;simp only [if_true];refine wpS_of_wp (wp_ret ?_)
 cases a
 simp_all [bodyPostS,results,Tryz.results237,Exit.thenS]
def iB (w:World) (R:World->World->Prop) (e:Ending) (w':World):Prop:=e= .returned (.agg #[.int .i64 0,.int .i64 0])∧∃w1 w2,Fr (fun _=>False) w w1∧R w1 w2∧Fr (fun k=>w.heap.size<=k∧k<w1.heap.size) w2 w'
theorem xP (t:TypeId) (v:Value) (F b:Nat) (cap:Array Value) (W:∀args w,(callFunc F args).run Tryz.prog w= .ok (.enter F args) w) (w:World) (R:World->World->Prop)
  (z:aj w b [.iface t v,.slice none 0 0] 270)
  (G:∀w1,Fr (fun _=>False) w w1->Calls Tryz.prog F (#[.pointer (some ⟨b,0,none⟩)]++cap) w1 fun e w2=>e= .returned (.tuple #[])∧R w1 w2∧∃T:Nat->Prop,(∀k,T k->k<w.heap.size∨w1.heap.size<=k)∧Fr T w1 w2):
  Calls Tryz.prog 184 #[b,.func (.func F) #[] cap] w (iB w R):=by
 have Q:∀(fn:Fn) (first cap:Array Value) (w:World),(Instr.makeFunc fn first cap).run Tryz.prog w= .ok (.func fn first cap) w:=fun _ _ _ _=>rfl
 have B:=z.cell 1 rfl
 go_enter_defers Tryz.func184,Tryz.ntmps184
 go_upto_region 1 with fail
 obtain ⟨W1,c⟩:∃W1,(w.alloc (.cells #[b] 199)).alloc (.cells #[.int .i64 0,.int .i64 0] 197)=W1:=⟨_,rfl⟩;rw [c];have r:=z.lt;have L:W1.heap.size=w.heap.size+2:=by rw [<-c];exact (Array.size_push _).trans (congrArg (· +1) (Array.size_push _))
 have g:Fr (fun _=>False) w W1:=by rw [<-c];exact ((Fr.refl _ w).alloc _).alloc _
 have y:aj W1 w.heap.size [.pointer (some ⟨b,0,none⟩)] 199:=by rw [<-c];exact (aj.new w [.pointer (some ⟨b,0,none⟩)] 199).alloc _
 have H:aj W1 (w.heap.size+1) [.int .i64 0,.int .i64 0] 197:=by
  have h:=aj.new (w.alloc (.cells #[b] 199)) [.int .i64 0,.int .i64 0] 197;have O:(w.alloc (.cells #[b] 199)).heap.size=w.heap.size+1:=Array.size_push _;rw [O] at h;rw [<-c];exact h
 have C:=(z.frame g (fun h=>h)).cell 1 rfl;have D:=y.cell 0 rfl;have s:∀o,(W1.alloc o).cell? ⟨w.heap.size,0,none⟩=some (.pointer (some ⟨b,0,none⟩)):=fun o=>(y.alloc o).cell 0 rfl
 have E:=ae G;have x:=ae (af g (af y (af H (af L r))));clear c g y H L z G B r
 go_upto_region 3 with fail
 have j:Fr (fun _=>False) w (W1.alloc (.cells #[.int .i64 0] 3)):=x.out.1.alloc _;have q:aj (W1.alloc (.cells #[.int .i64 0] 3)) (w.heap.size+1) [.int .i64 0,.int .i64 0] 197:=x.out.2.2.1.alloc _;have u:(W1.alloc (.cells #[.int .i64 0] 3)).heap.size=w.heap.size+3:=(Array.size_push _).trans (congrArg (· +1) x.out.2.2.2.1);have S:=s (.cells #[.int .i64 0] 3);have m:=ae (E.out _ j);have d:=ae (af j (af q u));generalize W1.alloc (.cells #[.int .i64 0] 3)=W2 at*;clear E x j q u C D s;generalize W1.heap.size=n at*;clear W1;go_wp2_with fail
 refine (m.out).mono ?_;rintro e w3 ⟨rfl,I,T,J,hf⟩;have a:=d.out.2.1.frame hf (fun h=>by have:=J _ h;have:=d.out.2.2;omega);have M:Hid (∀w4,w4=w3.setCells (w.heap.size+1) 0 [.int .i64 0,.int .i64 0]->aj w4 (w.heap.size+1) [.int .i64 0,.int .i64 0] 197∧iB w R (.returned (.agg #[.int .i64 0,.int .i64 0])) w4):=by
  show∀w4,_
  rintro w4 rfl;refine ⟨(a.set 0 _).set 1 _,rfl,W2,w3,d.out.1,I,?_⟩;have:=d.out.2.2;exact ((Fr.refl _ w3).setCell ⟨w.heap.size+1,0,none⟩ (.inl ⟨Nat.le_succ _,by show w.heap.size+1<_;omega⟩) _).setCell ⟨w.heap.size+1,1,none⟩ (.inl ⟨Nat.le_succ _,by show w.heap.size+1<_;omega⟩) _
 have N:Hid (w3.there (w.heap.size+1) 0 2):=by
  show w3.there _ _ _
  intro i P
  match i,P with
  |0,_=>exact ⟨by rw [a.cell 0 rfl];rfl,a.free 0⟩
  |1,_=>exact ⟨by rw [a.cell 1 rfl];rfl,a.free 1⟩
 have p:Hid ((Tryz.prog.info? 197).map (·.size)=some 2):=by show _=_;kernel_rfl
 have A:Hid ((#[Value.int .i64 0,.int .i64 0].all (·.oneCell'))=true):=by show _=_;exact Go.all_oneCell_toArray (cs:=[.int .i64 0,.int .i64 0]) (fun v K=>by simp only [List.mem_cons,List.not_mem_nil,or_false] at K;rcases K with rfl|rfl<;>rfl)
 clear I J hf a m d;go_wp2_with (refine wpList_store_mid rfl 197 _ _ rfl (w.heap.size+1) 0 #[.int .i64 0,.int .i64 0] rfl rfl N.out p.out A.out ?_)
 obtain ⟨U,l⟩:=M.out _ rfl;refine leaves_cons (f:=237) (args:= #[w.heap.size,.pointer (some ⟨n,0,none⟩),.pointer (some ⟨w.heap.size+1,0,none⟩)]) (by simp) (by simp [go_sem]) ?_;refine (pk ⟨w.heap.size,0,none⟩ ⟨n,0,none⟩ ⟨w.heap.size+1,0,none⟩ _).mono ?_;rintro e X V ⟨rfl,rfl,rfl⟩;exact ⟨_,results_cell_row rfl _ _ _ _ _ _ _ rfl U Tryz.underlying197 rfl p.out,l⟩
theorem mM (t:TypeId) (v:Value) (F:Nat) (cap:Array Value) (L:∀args w,(callFunc F args).run Tryz.prog w= .ok (.enter F args) w) (w:World) (R:World->World->Prop)
  (D:∀b w1,Fr (fun _=>False) w w1->w.heap.size<=b->b<w1.heap.size->aj w1 b [.iface t v,.slice none 0 0] 270->Calls Tryz.prog F (#[.pointer (some ⟨b,0,none⟩)]++cap) w1 fun e w2=>e= .returned (.tuple #[])∧R w1 w2∧∃T:Nat->Prop,(∀k,T k->k=b∨k<w.heap.size∨w1.heap.size<=k)∧Fr T w1 w2):
  Calls Tryz.prog 126 #[.iface t v,.func (.func F) #[] cap] w (iB w R):=by
 have C:=ae D;clear D;have o:Hid ((Tryz.prog.info? 197).map (·.size)=some 2):=by show _=_;kernel_rfl
 have A:Hid ((#[Value.int .i64 0,.int .i64 0].all (·.oneCell'))=true):=by show _=_;exact Go.all_oneCell_toArray (cs:=[.int .i64 0,.int .i64 0]) (fun v H=>by simp only [List.mem_cons,List.not_mem_nil,or_false] at H;rcases H with rfl|rfl<;>rfl)
 go_enter Tryz.func126,Tryz.ntmps126
 go_upto_region 1 with fail
 obtain ⟨W1,d⟩:∃W1,w.alloc (.cells #[.int .i64 0,.int .i64 0] 197)=W1:=⟨_,rfl⟩;have I:W1.heap.size=w.heap.size+1:=by rw [<-d];exact Array.size_push _
 have p:Fr (fun _=>False) w W1:=by rw [<-d];exact (Fr.refl _ w).alloc _
 have E:aj W1 w.heap.size [.int .i64 0,.int .i64 0] 197:=by rw [<-d];exact aj.new w _ _
 rw [d];have m:=ae (af p (af E I));clear d p E I;go_wp2_with fail
 have g:Fr (fun _=>False) w (W1.alloc (.cells #[.iface t v,.slice none 0 0] 270)):=m.out.1.alloc _;have f:=aj.new W1 [.iface t v,.slice none 0 0] 270;have q:aj (W1.alloc (.cells #[.iface t v,.slice none 0 0] 270)) w.heap.size [.int .i64 0,.int .i64 0] 197:=m.out.2.1.alloc _;have B:(W1.alloc (.cells #[.iface t v,.slice none 0 0] 270)).heap.size=w.heap.size+2:=(Array.size_push _).trans (congrArg (· +1) m.out.2.2);have y:=m.out.2.2;obtain ⟨b,G⟩:∃b,b=W1.heap.size:=⟨_,rfl⟩;rw [<-G] at f y ⊢;clear m G;generalize W1.alloc (.cells #[.iface t v,.slice none 0 0] 270)=W2 at*;clear W1;have n:=ae (xP t v F b cap L W2 (fun w1 w2=>R w1 w2∧∃T:Nat->Prop,(∀k,T k->k=b∨k<w.heap.size∨w1.heap.size<=k)∧Fr T w1 w2) f (fun w1 a=>by
  have x:=a.size;refine (C.out b w1 (g.trans a (fun _ h=>h.elim)) (by omega) (by omega) (f.frame a (fun h=>h))).mono ?_;rintro e w2 ⟨rfl,z,T,r,hf⟩;exact ⟨rfl,⟨z,T,r,hf⟩,T,fun k N=>by have:=r k N;omega,hf⟩))
 refine (n.out).mono ?_;rintro e w3 ⟨rfl,w1,w2,a,⟨z,T,r,u⟩,j⟩;have x:=a.size;have c:=((q.frame a (fun h=>h)).frame u (fun h=>by have:=r _ h;omega)).frame j (fun h=>by have:=h.1;omega);have J:Hid (∀w4,w4=w3.setCells w.heap.size 0 [.int .i64 0,.int .i64 0]->aj w4 w.heap.size [.int .i64 0,.int .i64 0] 197∧iB w R (.returned (.agg #[.int .i64 0,.int .i64 0])) w4):=by
  show∀w4,_
  rintro w4 rfl;refine ⟨(c.set 0 _).set 1 _,rfl,w1,w2,g.trans a (fun _ h=>h.elim),z,?_⟩;have s:=j.mono (S':=fun k=>w.heap.size<=k∧k<w1.heap.size) (fun k h=> .inl ⟨by have:=h.1;omega,h.2⟩);exact (s.setCell ⟨w.heap.size,0,none⟩ (.inl ⟨Nat.le_refl _,by show w.heap.size<_;omega⟩) _).setCell ⟨w.heap.size,1,none⟩ (.inl ⟨Nat.le_refl _,by show w.heap.size<_;omega⟩) _
 have K:Hid (w3.there w.heap.size 0 2):=by
  show w3.there _ _ _
  intro i M
  match i,M with
  |0,_=>exact ⟨by rw [c.cell 0 rfl];rfl,c.free 0⟩
  |1,_=>exact ⟨by rw [c.cell 1 rfl];rfl,c.free 1⟩
 clear z r u a j c n C g f q B y x;go_wp2_with (refine wpList_store_mid rfl 197 _ _ rfl w.heap.size 0 #[.int .i64 0,.int .i64 0] rfl rfl K.out o.out A.out ?_)
 obtain ⟨O,l⟩:=J.out _ rfl;refine bodyPost_ret (results_cell_row rfl _ _ _ _ _ _ _ rfl O Tryz.underlying197 rfl o.out) rfl ?_;exact l
def ni (I:dZ) (t:TypeId) (v:Value) (b lo:Nat) (L:Nat->Nat) (S:Nat->Prop) (n:Nat) (w:World):Prop:=
 I L S w∧b<lo∧lo<=w.heap.size∧¬S b∧∃sl xs,aj w b [.iface t v,sl] 270∧w.ownsRow lo 274 2 sl n xs∧∀k,sl.ownBlock=some k->¬S k
def tW (I:dZ) (t:TypeId) (v:Value) (b lo:Nat) (L:Nat->Nat) (S:Nat->Prop) (n:Nat) (w w':World):Prop:=
 ∃S':Nat->Prop,ni I t v b lo L S' n w'∧Fr (fun k=>S k∨k=b∨lo<=k) w w'∧∀k,S' k->S k∨w.heap.size<=k
section
variable {t:TypeId} {v:Value} {fl fs:Nat} {r:Value} {I:dZ} {dom:Nat->Prop} {L L' L'':Nat->Nat} {S:Nat->Prop} {w w1 w2:World} {b lo n:Nat}
theorem ni.sp (h:ni I t v b lo L S n w) (hp:dz I L' S w w1):tW I t v b lo L' S n w w1:=by
 obtain ⟨m,j,o,d,sl,xs,e,f,g⟩:=h;obtain ⟨S',l,a,c⟩:=hp;have q:=a.size;have p:=e.lt;refine ⟨S',⟨l,j,by omega,fun h=> ?_,sl,xs,e.frame a d,bp f a g,fun k i h=> ?_⟩,a.mono (fun k h=> .inl (.inl h)),c⟩
 ·rcases c _ h with h|h
  ·exact d h
  ·omega
 ·rcases c _ h with h|h
  ·exact g k i h
  ·have:=(f.lt k i).2;omega
theorem ni.Fh (a:aX t v fl r I dom) (h:ni I t v b lo L S n w) (hf:Fr (fun _=>False) w w1):tW I t v b lo L S n w w1:=h.sp (a.Fh h.1 hf)
theorem gj {c:Nat} {a:Nat->Prop} (_hlo:lo<=w.heap.size) (d:Fr (fun k=>S k∨k=b∨lo<=k) w w1) (e:∀k,a k->S k∨w.heap.size<=k) (h:tW I t v b lo L' a c w1 w2):tW I t v b lo L' S c w w2:=by
 obtain ⟨S2,f,g,i⟩:=h;have j:=d.size;refine ⟨S2,f,d.trans g (fun k h=> ?_),fun k h=> ?_⟩
 ·rcases h with h|h|h
  ·exact (e k h).imp .inl id
  ·exact .inl (.inr (.inl h))
  ·exact .inl (.inr (.inr h))
 ·rcases i k h with h|h
  ·exact e k h
  ·exact .inr (by omega)
theorem ni.cells (h:ni I t v b lo L S n w):w.cell? ⟨b,0,none⟩=some (.iface t v):=let ⟨_,_,_,_,_,_,h,_⟩:=h;h.cell 0 rfl
def nj (I:dZ) (t:TypeId) (v:Value) (b lo:Nat) (L:Nat->Nat) (S:Nat->Prop) (n:Nat) (w:World) (r:Value) (e:Ending) (w':World):Prop:=e= .returned r∧tW I t v b lo L S n w w'
theorem lR (c:aX t v fl r I dom) (h:ni I t v b lo L S n w) (a:Nat) (g:dom a):Calls Tryz.prog 185 #[b,.int .i64 a] w (nj I t v b lo L S n w (.int .u64 (L a:Int))):=by
 have l:=c.mload;have k:=c.eload;have d:=ae (c.load L S w a h.1 g);have i:=h.cells;have f:=ae (fun w' (hp:dz I L S w w')=>h.sp hp);generalize L a=x at*;unfold nj;clear c h g
 go_enter Tryz.func185,Tryz.ntmps185
 go_wp2_with fail
 refine (d.out).mono ?_;rintro e w2 ⟨rfl,hp⟩;have j:=f.out _ hp;clear hp f d i;go_wp2;go_ret;exact ⟨rfl,j⟩
theorem uZ:(Tryz.prog.info? 274).map (fun i=>(i.zero,i.size,i.bytes))=some (some (.agg #[.int .i64 0,.int .u64 0]),2,16):=by kernel_rfl
theorem ni.entry {sl sl':Value} {xs ys:List Value} {w3:World} (h:ni I t v b lo L S n w) (o:aj w b [.iface t v,sl] 270) (E:w.ownsRow lo 274 2 sl n xs) (hf:Fr (fun _=>False) w w2)
  (m:w3.ownsRow lo 274 2 sl' (n+1) ys) (hg:w2.grownBy w3 sl.ownBlock) (G:sl'.ownBlock=sl.ownBlock∨sl'.ownBlock=some w2.heap.size) (q:∀k,S k->k<w.heap.size) (s:cW I):
  ∃c,aj w3 b [.iface t v,c] 270∧∀w4,w4=w3.setCell ⟨b,1,none⟩ sl'->tW I t v b lo L S (n+1) w w4:=by
 obtain ⟨z,A,J,u,d,H,B,K,x⟩:=h;have y:d=sl:=by
  have:=B.symm.trans o;simp only [Option.some.injEq,Obj.cells.injEq,List.cons.injEq,Array.mk.injEq] at this
  simpa using this.1
 subst y;have C:=o.lt;have f:=fun k (a:d.ownBlock=some k)=>E.lt k a
 have g:Fr (fun k=>d.ownBlock=some k) w w3:=(hf.mono (S':=fun k=>d.ownBlock=some k) (fun _ h=>h.elim)).trans (Fr.of_grown hg) (fun i D=> .inl D);have j:=o.frame g (fun a=>by have:=(f b a).1;omega);refine ⟨d,j,?_⟩;rintro w4 rfl;have l:Fr (fun k=>S k∨k=b∨lo<=k) w (w3.setCell ⟨b,1,none⟩ sl'):=(g.mono (S':=fun k=>S k∨k=b∨lo<=k) (fun k a=> .inl (.inr (.inr (f k a).1)))).setCell ⟨b,1,none⟩ (.inl (.inr (.inl rfl))) sl';have F:=l.size;refine ⟨S,⟨?_,A,by omega,u,sl',ys,j.set 1 sl',?_,?_⟩,l,fun k h=> .inl h⟩
 ·refine s L S w _ (fun k=>d.ownBlock=some k∨k=b) z ((g.mono (fun k a=> .inl (.inl a))).setCell ⟨b,1,none⟩ (.inl (.inr rfl)) sl') ?_;rintro k a (p|rfl)
  ·exact x k p a
  ·exact u a
 ·exact bp m ((Fr.refl (fun k=>k=b) w3).setCell ⟨b,1,none⟩ (.inl rfl) sl') (fun k a e=>by have:=(m.lt k a).1;omega)
 ·intro k a h;rcases G with e|e
  ·exact x k (e▸a) h
  ·rw [e] at a;simp only [Option.some.injEq] at a;have:=q k h;have:=hf.size;omega
theorem gE (N:cW I) (Z:aX t v fl r I dom) (Q:iA t v fs r I dom) (h:ni I t v b lo L S n w) (a x:Nat) (X:dom a) (hx:x<18446744073709551616) (hn:n<1000000000):Calls Tryz.prog 128 #[b,.int .i64 a,.int .u64 x] w (nj I t v b lo (bw L a x) S (n+1) w (.tuple #[])):=by
 have HM:=Q.mstore;have HE:=Q.estore;have U:=ae (lR Z h a X);have c0:=h.cells;have V:=ae (fun w1 E (P:ni I t v b lo L E n w1)=>Q.store L E w1 a x P.1 X hx);have l:=ae (fun E (wa w2 w3:World) (sl sl':Value) (xs ys:List Value) (P:ni I t v b lo (bw L a x) E n wa) m K hf s hg z=>ni.entry (w:=wa) (w2:=w2) (w3:=w3) (sl:=sl) (sl':=sl') (xs:=xs) (ys:=ys) P m K hf s hg z (Z.lt _ _ _ P.1) N);obtain ⟨i0,hi,ad,ah,am⟩:=info_parts uZ;obtain ⟨y,hy⟩:∃y,L a=y:=⟨_,rfl⟩;rw [hy] at U;obtain ⟨W,F⟩:∃W,W=bw L a x:=⟨_,rfl⟩;rw [<-F] at V l ⊢;unfold nj at*;have Y:=h.2.2.1;clear N Z Q h X hx hy F
 go_enter Tryz.func128,Tryz.ntmps128
 go_wp2_with fail
 refine (U.out).mono ?_;rintro e w1 ⟨rfl,E,f,p,G⟩;have D:=ae (V.out _ _ f);have C:=ae (fun w' hp=>f.sp (w1:=w') (L':=W) hp);have c1:=f.cells;have A:=ae (af p G);have aq:=p.size;clear f p G U V c0;go_wp2_with fail
 refine (D.out).mono ?_;rintro e w2 ⟨rfl,hp⟩;obtain ⟨S2,u,J,H⟩:=C.out _ hp;obtain ⟨g1,h2,h3,g2,sl,xs,m,K,g3⟩:=id u;have c2:=m.cell 0 rfl;have c3:=m.cell 1 rfl;have B:=ae (af J H);have i:=ae (fun wb w3 sl' ys hf s hg z=>l.out S2 w2 wb w3 sl sl' xs ys u m K hf s hg z);have HB:=ae (af m K);have av:=h3;clear hp C D l u J H m c1 h2 h3 K g1 g2 g3;go_wp2_with (at_builtin;refine Hid.out ?_)
 unfold Hid;have d:Fr (fun _=>False) w2 (w2.alloc (.cells #[.int .i64 a,.int .u64 y] 274)):=(Fr.refl _ w2).alloc _;have k:aj (w2.alloc (.cells #[.int .i64 a,.int .u64 y] 274)) w2.heap.size [.int .i64 a,.int .u64 y] 274:=aj.new w2 _ _;have ap:=d.size;have T:=ae d;have M:=bp HB.out.2 d (fun _ _ h=>h);refine wpList_append_own_at _ rfl _ _ 268 rfl lo 274 i0 _ 2 16 Tryz.underlying268 hi ad ah am rfl (by decide) _ n xs rfl M ⟨w2.heap.size,0,none⟩ 1 1 [.int .i64 a,.int .u64 y] rfl rfl ?_ ?_ (by unfold maxLen;omega) (by omega) (by omega) ?_
 ·intro j u' hj;have:=k.cell j hj;rwa [show ((⟨w2.heap.size,0,none⟩:Addr).add j)=⟨w2.heap.size,j,none⟩ by unfold Addr.add;split<;>simp_all]
 ·intro u' O;simp only [List.mem_cons,List.not_mem_nil,or_false] at O;rcases O with rfl|rfl<;>rfl
 ·intro v' w3 q hg _ z;obtain ⟨g,cap,rfl⟩:∃g cap,v'= .slice (some ⟨g,0,none⟩) (n+1) cap:=by
   rcases q.2 with ⟨_,h⟩|⟨g,cap,_,h,_⟩
   ·omega
   ·exact ⟨g,cap,h⟩
  obtain ⟨c,o,hE⟩:=i.out _ w3 _ _ d q hg z;have c4:=o.cell 1 rfl;have f4:=o.free 1;have R:=ae hE;clear d k ap T M q hg z o hE i HB c2 c3;go_wp2;go_end0;exact ⟨rfl,gj Y A.out.1 A.out.2 (gj (by omega) B.out.1 B.out.2 (R.out _ rfl))⟩
end
end Go.Proofs.YthahbijbpinneaaGreatDoor
