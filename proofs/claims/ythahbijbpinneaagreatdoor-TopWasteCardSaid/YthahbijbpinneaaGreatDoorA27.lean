import Derived.Test.YthahbijbpinneaaGreatDoorA16
import Derived.Test.YthahbijbpinneaaGreatDoorA24
import Derived.Test.YthahbijbpinneaaGreatDoorA26
set_option maxRecDepth 100000
set_option maxHeartbeats 8000000
set_option linter.all false
namespace Go.Proofs.YthahbijbpinneaaGreatDoor
open Go.RowKit
def yF (w:World) (e:Ending) (w':World):Prop:=e= .returned (.bool true)∧Fr (fun _=>False) w w'
section
variable {v0 v1 v2 v3 v4 v5 v6 p f g P:Int} {tr x2:Nat} {w:World}
theorem oP (b1:v1<=9223372036854775807) (b2:v2<=9223372036854775807) (b3:v3<=9223372036854775807) (hT:bv w) (ck:x2<256):Calls Tryz.prog 4 #[dY v0 v1 v2 v3 v4 v5 v6 tr,bN p f g,.int .u8 x2] w (yF w):=by
 obtain ⟨P,hP⟩:∃P:Int,max p 1=P:=⟨_,rfl⟩;have y:1<=P:=by omega
 have cn:(w.alloc (.cells #[.int .i64 v0,.int .i64 v1,.int .i64 v2,.int .i64 v3,.int .i64 2,.int .i64 v5,.int .i64 v6,.float .f64 tr] 24)).heap.size=w.heap.size+1:=World.size_alloc _ _;obtain ⟨W1,L⟩:∃W1,(w.alloc (.cells #[.int .i64 v0,.int .i64 v1,.int .i64 v2,.int .i64 v3,.int .i64 2,.int .i64 v5,.int .i64 v6,.float .f64 tr] 24)).alloc (.cells #[.int .i64 P,.int .i64 f,.int .i64 g] 31)=W1:=⟨_,rfl⟩;have a3:Fr (fun _=>False) w W1:=by rw [<-L];exact ((Fr.refl _ w).alloc _).alloc _
 have a2:aj W1 w.heap.size [.int .i64 v0,.int .i64 v1,.int .i64 v2,.int .i64 v3,.int .i64 2,.int .i64 v5,.int .i64 v6,.float .f64 tr] 24:=by rw [<-L];exact (aj.new w _ _).alloc _
 have cc:aj W1 (w.heap.size+1) [.int .i64 P,.int .i64 f,.int .i64 g] 31:=by
  have:=aj.new (w.alloc (.cells #[.int .i64 v0,.int .i64 v1,.int .i64 v2,.int .i64 v3,.int .i64 2,.int .i64 v5,.int .i64 v6,.float .f64 tr] 24)) [.int .i64 P,.int .i64 f,.int .i64 g] 31;rw [cn] at this;rw [<-L];exact this
 obtain ⟨k0,k1,k2,k3,k4,k5,k6,k7⟩:=cY a2;have U:=ae (gZ (v0:=v0) (v4:=2) (v5:=v5) (v6:=v6) (tr:=tr) b1 b2 b3 (ak hT a3 (fun h=>h)) ⟨fun _=>0,fun _=>0,fun _=>0,fun _ _=>0⟩ none 0 0);have o:=ae (fun w1 (hf:Fr (fun _=>False) w w1)=>eN w1 (ak hT hf (fun h=>h)));have j:=ae a3;have i:=ae (af a2 cc);have Y:Hid (∀w',Fr (fun _=>False) w w'->yF w (.returned (.bool true)) w'):=ae (fun w' h=>⟨rfl,h⟩);have v:=ae (af y ck);clear b1 b2 b3 hT a3 a2 cc cn y ck;unfold dY at U ⊢;unfold bN;generalize (yF w)=Q at*
 go_enter Tryz.func4,Tryz.ntmps4
 go_upto_region 3 with fail
 clear hP;go_wp2_with fail
 refine (U.out).mono ?_;rintro e w2 cy;obtain ⟨k0,k1,k2,k3,k4,k5,k6,k7⟩:=cY (i.out.1);rcases cy with ⟨rfl,d⟩|⟨c,b,T,hc,cd,c3,_,rfl,hi,J,d⟩
 ·have G:=ae (o.out w2 (j.out.trans d (fun _ h=>h.elim)));have E:=ae (j.out.trans d (fun _ h=>h.elim));clear U o j i v d L k0 k1 k2 k3 k4 k5 k6 k7;go_wp2_with fail
  refine (G.out).mono ?_;rintro e w3 ⟨rfl,n⟩;have H:=ae (Y.out w3 (E.out.trans n (fun _ h=>h.elim)));clear G E n Y;go_wp2;exact H.out
 ·have hv:=Array.mk.inj (Value.agg.inj cd);simp only [List.cons.injEq,Value.int.injEq,true_and,and_true,Value.float.injEq] at hv;obtain ⟨e0,e1,e2,e3,e4,e5,e6,e7⟩:=hv;have u:c.Sl=2:=by omega
  subst e3;clear e0 e1 e2 e4 e5 e6 e7 cd L U c3 hc;obtain ⟨k0,k1,k2,k3,k4,k5,k6,k7⟩:=cY (i.out.1.frame d (fun h=>h));obtain ⟨j0,j1,j2⟩:=bE (i.out.2.frame d (fun h=>h));by_cases m:c.Wd<=512
  case neg=>
   have V:(512:Int)<(c.Wd:Int):=by omega
   have g3:decide ((512:Int)<(c.Wd:Int))=true:=decide_eq_true V;have G:=ae (o.out w2 (j.out.trans d (fun _ h=>h.elim)));have E:=ae (j.out.trans d (fun _ h=>h.elim));clear o j i v d hi J u m;go_wp2_with fail
   refine (G.out).mono ?_;rintro e w3 ⟨rfl,n⟩;have H:=ae (Y.out w3 (E.out.trans n (fun _ h=>h.elim)));clear G E n Y;go_wp2;exact H.out
  case pos=>
   have V:¬(512:Int)<(c.Wd:Int):=by omega
   have g3:decide ((512:Int)<(c.Wd:Int))=false:=decide_eq_false V;by_cases R:bl P f g
   case neg=>
    have S:=ae (xq hi (s:=0) (by omega) R);unfold bN at S;rw [show ((0:Nat):Int)=0 from rfl] at S;have y:=v.out.1;have c2:(decide (f<0)=true)∨(decide (f<0)=false∧decide (g<0)=true)∨(decide (f<0)=false∧decide (g<0)=false∧decide (255<P)=true)∨(decide (f<0)=false∧decide (g<0)=false∧decide (255<P)=false∧decide (255<f)=true)∨(decide (f<0)=false∧decide (g<0)=false∧decide (255<P)=false∧decide (255<f)=false∧decide (255<g)=true)∨(decide (f<0)=false∧decide (g<0)=false∧decide (255<P)=false∧decide (255<f)=false∧decide (255<g)=false∧decide (256<wrap64 (wrap64 (wrap64 (1+P)+f)+g))=true):=by
     simp only [decide_eq_true_eq,decide_eq_false_iff_not];unfold bl at R;unfold wrap64;omega
    have bo:=ae (fun w3 (hf:Fr (fun _=>False) w2 w3)=>o.out w3 ((j.out.trans d (fun _ h=>h.elim)).trans hf (fun _ h=>h.elim)));have b5:=ae (fun w3 (hf:Fr (fun _=>False) w2 w3)=>Y.out w3 ((j.out.trans d (fun _ h=>h.elim)).trans hf (fun _ h=>h.elim)));clear hi J u m R d o Y j i v y;rcases c2 with d1|⟨d1,d2⟩|⟨d1,d2,d3⟩|⟨d1,d2,d3,d4⟩|⟨d1,d2,d3,d4,d5⟩|⟨d1,d2,d3,d4,d5,d6⟩
    all_goals (
     go_wp2_with fail
     refine (S.out).mono ?_;rintro e w3 ⟨rfl,n⟩;have bj:=ae (bo.out w3 n);have b0:=ae (fun w4 (hf:Fr (fun _=>False) w3 w4)=>b5.out w4 (n.trans hf (fun _ h=>h.elim)));clear S n bo b5;go_wp2_with fail
     refine (bj.out).mono ?_;rintro e w4 ⟨rfl,O⟩;have H:=ae (b0.out w4 O);clear bj O b0;go_wp2;exact H.out)
   case pos=>
    obtain ⟨a,ha⟩:∃a:Nat,P=(a:Int):=⟨P.toNat,by unfold bl at R;omega⟩;obtain ⟨q,hq⟩:∃q:Nat,f=(q:Int):=⟨f.toNat,by unfold bl at R;omega⟩;obtain ⟨r,A⟩:∃r:Nat,g=(r:Int):=⟨g.toNat,by unfold bl at R;omega⟩;obtain ⟨z,hz⟩:∃z,z=1+(a+q+r):=⟨_,rfl⟩;obtain ⟨Z,hZ⟩:∃Z:Int,Z=(z:Int):=⟨_,rfl⟩;obtain ⟨K,hK⟩:∃K,c.Wd/z=K:=⟨_,rfl⟩;obtain ⟨M,hM⟩:∃M:Int,M=((K*z:Nat):Int):=⟨_,rfl⟩;obtain ⟨N,hN⟩:∃N,N=x2% 4:=⟨_,rfl⟩;have y:=v.out.1;have cf:=R;unfold bl at cf;have cs:K*z<=512:=by rw [<-hK];exact Nat.le_trans (Nat.div_mul_le_self _ _) m
    have c0:(x2:Int)% 4=(N:Int):=by omega
    have d1:decide (f<0)=false:=by rw [decide_eq_false_iff_not];omega
    have d2:decide (g<0)=false:=by rw [decide_eq_false_iff_not];omega
    have d3:decide (255<P)=false:=by rw [decide_eq_false_iff_not];omega
    have d4:decide (255<f)=false:=by rw [decide_eq_false_iff_not];omega
    have d5:decide (255<g)=false:=by rw [decide_eq_false_iff_not];omega
    have a7:wrap64 (wrap64 (wrap64 (1+P)+f)+g)=Z:=by unfold wrap64;omega
    have d6:decide (256<wrap64 (wrap64 (wrap64 (1+P)+f)+g))=false:=by rw [a7,decide_eq_false_iff_not];omega
    have b9:=ae a7;clear a7;have ah:Hid (∀w3,dD b c z 0 w.heap.size [.int .i64 v0,.int .i64 v1,.int .i64 v2,.int .i64 (c.Wd:Int),.int .i64 2,.int .i64 v5,.int .i64 v6,.float .f64 tr] 24 W1 w3->Calls Tryz.prog 18 #[b,.agg #[.int .i64 P,.int .i64 f,.int .i64 g],.int .i64 1] w3 fun e w'=>e= .returned (.int .i64 K)∧dD b c z K w.heap.size [.int .i64 v0,.int .i64 v1,.int .i64 v2,.int .i64 (c.Wd:Int),.int .i64 2,.int .i64 v5,.int .i64 v6,.float .f64 tr] 24 W1 w'):=by
     show∀w3,_
     intro w3 W;have h4:=un (p:=a) (f:=q) (g:=r) (by rw [<-hz];exact W) i.out.1 u m (by rw [<-ha,<-hq,<-A];exact R) (by omega);unfold wL bN at h4;rw [<-ha,<-hq,<-A,<-hz,hK] at h4;exact h4
    have ad:Hid (∀w3,dD b c z K w.heap.size [.int .i64 v0,.int .i64 v1,.int .i64 v2,.int .i64 (c.Wd:Int),.int .i64 2,.int .i64 v5,.int .i64 v6,.float .f64 tr] 24 W1 w3->Calls Tryz.prog 11 #[b,.int .i64 1,.agg #[.int .i64 P,.int .i64 f,.int .i64 g]] w3 fun e w'=>e= .returned (.int .i64 21)∧dD b c z K w.heap.size [.int .i64 v0,.int .i64 v1,.int .i64 v2,.int .i64 (c.Wd:Int),.int .i64 2,.int .i64 v5,.int .i64 v6,.float .f64 tr] 24 W1 w'):=by
     show∀w3,_
     intro w3 W;have h4:=dD.alloc (p:=a) (f:=q) (g:=r) (by rw [<-hz];exact W) u (by rw [<-ha,<-hq,<-A];exact R);unfold bN at h4;rw [<-ha,<-hq,<-A,<-hz,hK] at h4;refine h4.mono ?_;rintro e w' (⟨h5,_⟩|⟨_,rfl,X⟩)
     ·exact absurd h5 (Nat.lt_irrefl _)
     ·exact ⟨rfl,X⟩
    have aq:Hid ((c.Wd:Int).tdiv Z=(K:Int)):=by
     show _=_
     rw [hZ,bV,hK]
    have ap:Hid ((K:Int)*Z=M∧wrap64 ((K:Int)*Z)=M):=by
     show _∧_
     have e:(K:Int)*Z=M:=by rw [hZ,hM];push_cast;rfl
     refine ⟨e,?_⟩;rw [e];unfold wrap64;omega
    have am:=ae hM;have HC:=ae (fun w3 (hf:Fr (fun _=>False) W1 w3)=>(show w3.cell? ⟨w.heap.size,3,none⟩=some (.int .i64 (c.Wd:Int))∧w3.cell? ⟨w.heap.size+1,0,none⟩=some (.int .i64 P)∧w3.cell? ⟨w.heap.size+1,1,none⟩=some (.int .i64 f)∧w3.cell? ⟨w.heap.size+1,2,none⟩=some (.int .i64 g) from ⟨(i.out.1.frame hf (fun h=>h)).cell 3 rfl,(i.out.2.frame hf (fun h=>h)).cell 0 rfl,(i.out.2.frame hf (fun h=>h)).cell 1 rfl,(i.out.2.frame hf (fun h=>h)).cell 2 rfl⟩));rw [u] at hi;have H0:=ae (show dD b c z 0 w.heap.size [.int .i64 v0,.int .i64 v1,.int .i64 v2,.int .i64 (c.Wd:Int),.int .i64 2,.int .i64 v5,.int .i64 v6,.float .f64 tr] 24 W1 w2 from dD.zero ⟨_,_,T,hi,J,fun hk=>by have:=J _ hk;have:=i.out.1.lt;omega,i.out.1.frame d (fun h=>h),d⟩);have HS:=ae u;have bs:=ae (show N<4 by omega);have I:K<=512:=by rw [<-hK];exact Nat.le_trans (Nat.div_le_self _ _) m
    have av:Hid (¬Z=0∧(Z==0)=false∧decide (Z=0)=false∧K<=512∧IntKind.i64.wrap (K:Int)=(K:Int)):=ae ⟨by omega,by rw [beq_eq_false_iff_ne];omega,by rw [decide_eq_false_iff_not];omega,I,by rw [IntKind.wrap_i64];omega⟩;clear hi J u m R d i v ha hq A hz hZ hK hM hN y cf cs I;go_wp2;rw [b9.out];clear c0 d1 d2 d3 d4 d5 d6 b9 g3 V k0 k1 k2 k3 k4 k5 k6 k7 j0 j1 j2
    go_loopw [74] (fun x wr=>∃k:Nat,x= .int .i64 k∧k<=N+1∧Hid (dD b c z 0 w.heap.size [.int .i64 v0,.int .i64 v1,.int .i64 v2,.int .i64 (c.Wd:Int),.int .i64 2,.int .i64 v5,.int .i64 v6,.float .f64 tr] 24 W1 wr)) (fun x _=>(N+2-intOf x).toNat)
    case atStart=>exact ⟨0,rfl,by omega,H0⟩
    case round=>
     clear H0;obtain ⟨k,rfl,hk,A⟩:=hrel;have c5:=bs.out;by_cases cx:k<N+1
     ·have c1:(k:Int)<(N:Int)+1:=by omega
      by_cases h2:k% 2=1
      ·have cb:(k:Int).tmod 2=1:=by have:=Int.tmod_eq_emod_of_nonneg (a:=(k:Int)) (b:=2) (by omega);rw [this];omega
       have b7:=ae A.out.start;clear A h2;go_wp2_with fail
       refine (b7.out).mono ?_;rintro e w3 ⟨rfl,W⟩;have b6:=ae W.step;clear b7 W;go_wp2_with fail
       refine (b6.out).mono ?_;rintro e wz ⟨⟨B,rfl⟩,W⟩;have HZ:=ae W;clear b6 W cb
       go_upto_region 15 with fail
       have C:=ae (ah.out wz.drew (HZ.out.keep ((Fr.refl _ wz).drew)));have F:=ae (HZ.out.fr.drew);obtain ⟨ax,a0,a1,cp,a6⟩:=av.out;have a5:=aq.out
       go_cut [91] from 84 to 90 (fun bd wx=>bd= .bool false∧Hid (dD b c z K w.heap.size [.int .i64 v0,.int .i64 v1,.int .i64 v2,.int .i64 (c.Wd:Int),.int .i64 2,.int .i64 v5,.int .i64 v6,.float .f64 tr] 24 W1 wx))
       case first=>
        go_region_held3 (fun w'=>w'.cell? ⟨w.heap.size,3,none⟩=some (.int .i64 (c.Wd:Int))∧w'.cell? ⟨w.heap.size+1,0,none⟩=some (.int .i64 P)∧w'.cell? ⟨w.heap.size+1,1,none⟩=some (.int .i64 f)∧w'.cell? ⟨w.heap.size+1,2,none⟩=some (.int .i64 g)) (with_reducible first|assumption|exact HC.out _ F.out) (first|(go_at_call 18;refine (C.out).mono ?_;rintro e w5 ⟨rfl,l⟩;have ct:=HC.out w5 l.fr))
        go_wp2;go_meet
        case rel=>exact ⟨rfl,ae l⟩
       case rest=>
        obtain ⟨rfl,l⟩:=hcut;have t:=ae l.out.live;rw [<-am.out] at t;clear l C F HZ;go_wp2_with fail
        refine (t.out).mono ?_;rintro e w6 ⟨rfl,X⟩;obtain ⟨kc,a8,a9,bb⟩:=HC.out w6 X.fr;have a4:=ap.out.2;have HA:=ae (ad.out w6 X);clear t X;go_wp2_with fail
        refine (HA.out).mono ?_;rintro e w7 ⟨rfl,h7⟩;have D:=ae (h7.clear0 HS.out);clear HA h7 kc a8 a9 bb a4 a5 ax a0 a1 a6;go_wp2_with fail
        refine (D.out).mono ?_;rintro e w8 ⟨rfl,h8⟩;have HN:=ae h8;clear D h8;go_wp2;go_roundw
        case rel=>exact ⟨k+1,by go_num,by omega,HN⟩
        case measure=>simp [intOf];omega
      ·have cb:(k:Int).tmod 2=0:=by have:=Int.tmod_eq_emod_of_nonneg (a:=(k:Int)) (b:=2) (by omega);rw [this];omega
       obtain ⟨wz,c4⟩:∃wz,wz=wr:=⟨_,rfl⟩;subst c4;have HZ:=ae A.out;clear A h2
       go_upto_region 15 with fail
       have C:=ae (ah.out wz.drew (HZ.out.keep ((Fr.refl _ wz).drew)));have F:=ae (HZ.out.fr.drew);obtain ⟨ax,a0,a1,cp,a6⟩:=av.out;have a5:=aq.out
       go_cut [91] from 84 to 90 (fun bd wx=>bd= .bool false∧Hid (dD b c z K w.heap.size [.int .i64 v0,.int .i64 v1,.int .i64 v2,.int .i64 (c.Wd:Int),.int .i64 2,.int .i64 v5,.int .i64 v6,.float .f64 tr] 24 W1 wx))
       case first=>
        go_region_held3 (fun w'=>w'.cell? ⟨w.heap.size,3,none⟩=some (.int .i64 (c.Wd:Int))∧w'.cell? ⟨w.heap.size+1,0,none⟩=some (.int .i64 P)∧w'.cell? ⟨w.heap.size+1,1,none⟩=some (.int .i64 f)∧w'.cell? ⟨w.heap.size+1,2,none⟩=some (.int .i64 g)) (with_reducible first|assumption|exact HC.out _ F.out) (first|(go_at_call 18;refine (C.out).mono ?_;rintro e w5 ⟨rfl,l⟩;have ct:=HC.out w5 l.fr))
        go_wp2;go_meet
        case rel=>exact ⟨rfl,ae l⟩
       case rest=>
        obtain ⟨rfl,l⟩:=hcut;have t:=ae l.out.live;rw [<-am.out] at t;clear l C F HZ;go_wp2_with fail
        refine (t.out).mono ?_;rintro e w6 ⟨rfl,X⟩;obtain ⟨kc,a8,a9,bb⟩:=HC.out w6 X.fr;have a4:=ap.out.2;have HA:=ae (ad.out w6 X);clear t X;go_wp2_with fail
        refine (HA.out).mono ?_;rintro e w7 ⟨rfl,h7⟩;have D:=ae (h7.clear0 HS.out);clear HA h7 kc a8 a9 bb a4 a5 ax a0 a1 a6;go_wp2_with fail
        refine (D.out).mono ?_;rintro e w8 ⟨rfl,h8⟩;have HN:=ae h8;clear D h8;go_wp2;go_roundw
        case rel=>exact ⟨k+1,by go_num,by omega,HN⟩
        case measure=>simp [intOf];omega
     ·have c1:¬(k:Int)<(N:Int)+1:=by omega
      have bk:=ae (o.out wr (j.out.trans A.out.fr (fun _ h=>h.elim)));have b4:=ae (fun w4 (hf:Fr (fun _=>False) wr w4)=>Y.out w4 ((j.out.trans A.out.fr (fun _ h=>h.elim)).trans hf (fun _ h=>h.elim)));clear A o Y j ah ad aq ap am HC HS hk cx bs av;go_wp2_with fail
      refine (bk.out).mono ?_;rintro e w4 ⟨rfl,O⟩;have H:=ae (b4.out w4 O);clear bk O b4;go_wp2;exact H.out
end
def rl:List Sc:=[.int .i64,.int .i64,.int .i64]
theorem nQ {cs:List Value} (h:cq rl cs):∃p f g:Int,.agg cs.toArray=bN p f g:=by
 rcases cs with _|⟨_,cs⟩
 ·exact h.elim
 obtain ⟨⟨p,rfl,_⟩,h⟩:=h;rcases cs with _|⟨_,cs⟩
 ·exact h.elim
 obtain ⟨⟨f,rfl,_⟩,h⟩:=h;rcases cs with _|⟨_,cs⟩
 ·exact h.elim
 obtain ⟨⟨g,rfl,_⟩,h⟩:=h;rcases cs with _|⟨_,cs⟩
 rotate_left
 ·exact h.elim
 exact ⟨p,f,g,rfl⟩
theorem zS {n:Int} (h:(Lit.int .u8 n).wf=true):∃x:Nat,x<256∧n=(x:Int):=by
 simp [Lit.wf,IntKind.min,IntKind.max,IntKind.bits,IntKind.signed] at h;exact ⟨n.toNat,by omega,by rw [Int.toNat_of_nonneg (by omega)]⟩
theorem nc {cs b:List Value} {a:Int} {W:World} (h:cq gP cs) (l:cq rl b) (m:(Lit.int .u8 a).wf=true) (n:laidMetH Tryz.prog Rows.topWasteRow.laid W):Calls Tryz.prog 4 #[.agg cs.toArray,.agg b.toArray,.int .u8 a] W fun e w'=>e= .returned (.bool true)∧Fr (fun _=>False) W w':=by
 obtain ⟨v0,v1,v2,v3,v4,v5,v6,tr,e,c,d,i⟩:=ea h;obtain ⟨p,f,g,j⟩:=nQ l;obtain ⟨o,k,rfl⟩:=zS m;rw [e,j];exact oP c d i (gd n) k
end Go.Proofs.YthahbijbpinneaaGreatDoor
