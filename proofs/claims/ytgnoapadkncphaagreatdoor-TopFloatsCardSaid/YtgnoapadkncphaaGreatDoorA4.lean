import Derived.Test.YtgnoapadkncphaaGreatDoorA0
import Derived.Test.YtgnoapadkncphaaGreatDoorA1
import Derived.Test.YtgnoapadkncphaaGreatDoorA2
import Derived.Test.YtgnoapadkncphaaGreatDoorA3
import Derived.Maps.OwnIn
import Derived.Laws.OwnMore
set_option maxRecDepth 100000
set_option maxHeartbeats 8000000
set_option linter.all false
namespace Go.Proofs.YtgnoapadkncphaaGreatDoor
open Go.RowKit Go.Proofs.Tryz
section
variable{t:TypeId}{v:Value}{fl fs:Nat}{r:Value}{I:jW}{dom:Nat->Prop}{L L' L'':Nat->Nat}{S:Nat->Prop}{w w1 w2:World}{sv:Value}{a z cd:Int}{y:Nat}{J:World->Prop}
theorem FO(h:Calls prog 79 #[sv,(a:Int),(z:Int),(3:Int)] w fun e w'=>e= .returned (.tuple #[.int .u64 y,(cd:Int)])/\J w'):Calls prog 121 #[sv,(a:Int),(z:Int)] w fun e w'=>e= .returned (.tuple #[.int .u64 y,(cd:Int)])/\J w':=by
 go_enter func121,ntmps121
 go_wp2_with fail
 refine h.mono ?_;rintro e W1 ⟨rfl,b⟩;have c:=ae b;clear h b;go_wp2;go_ret2;exact ⟨rfl,c.out⟩
theorem DD(h:Calls prog 79 #[sv,(a:Int),(z:Int),(2:Int)] w fun e w'=>e= .returned (.tuple #[.int .u64 y,(cd:Int)])/\J w'):Calls prog 34 #[sv,(a:Int),(z:Int)] w fun e w'=>e= .returned (.tuple #[.float .f64 y,(cd:Int)])/\J w':=by
 go_enter func34,ntmps34
 go_wp2_with fail
 refine h.mono ?_;rintro e W1 ⟨rfl,b⟩;have c:=ae b;clear h b;go_wp2_with fail
 refine (un y W1).mono ?_;rintro e d ⟨rfl,rfl⟩;go_wp2;go_ret2;exact ⟨rfl,c.out⟩
theorem rn(h:Calls prog 79 #[sv,(a:Int),(z:Int),(1:Int)] w fun e w'=>e= .returned (.tuple #[.int .u64 y,(cd:Int)])/\J w')(k:y<2147483648)(b:cd≠0->y=0):Calls prog 126 #[sv,(a:Int),(z:Int)] w fun e w'=>e= .returned (.tuple #[(y:Int),(cd:Int)])/\J w':=by
 go_enter func126,ntmps126
 obtain ⟨B,g⟩:∃B:Int,B=2147483647:=⟨_,rfl⟩;have f:decide (B<(y:Int))=false:=by rw [decide_eq_false_iff_not];omega
 have j:IntKind.i64.wrap (y:Int)=y:=by rw [IntKind.wrap_i64];omega
 rw [g] at f;have b:cd≠0->(y:Int)=0:=fun h=>by rw [b h];rfl
 clear g k;generalize (y:Int)=X at*;go_wp2_with fail
 refine h.mono ?_;rintro e W1 ⟨rfl,i⟩;have d:=ae i;clear h i;by_cases c:cd=0
 ·subst c;clear b;go_wp2;go_ret2;exact ⟨rfl,d.out⟩
 ·obtain rfl:=b c;have c:(cd==0)=false:=by rw [beq_eq_false_iff_ne];exact c
  clear b f j;go_wp2;go_ret2;exact ⟨rfl,d.out⟩
theorem xQ{x:Int}(h:Calls prog 65 #[sv,(a:Int),(z:Int),(3:Int),.int .u64 x] w fun e w'=>e= .returned (cd:Int)/\J w'):Calls prog 128 #[sv,(a:Int),(z:Int),.int .u64 x] w fun e w'=>e= .returned (cd:Int)/\J w':=by
 go_enter func128,ntmps128
 go_wp2_with fail
 refine h.mono ?_;rintro e W1 ⟨rfl,b⟩;have c:=ae b;clear h b;go_wp2;go_ret;exact ⟨rfl,c.out⟩
theorem vD(h:Calls prog 65 #[sv,(a:Int),(z:Int),(2:Int),.int .u64 y] w fun e w'=>e= .returned (cd:Int)/\J w'):Calls prog 28 #[sv,(a:Int),(z:Int),.float .f64 y] w fun e w'=>e= .returned (cd:Int)/\J w':=by
 go_enter func28,ntmps28
 go_wp2_with fail
 refine (gB y w).mono ?_;rintro e W1 ⟨rfl,rfl⟩;go_wp2_with fail
 refine h.mono ?_;rintro e W1 ⟨rfl,b⟩;have c:=ae b;clear h b;go_wp2;go_ret;exact ⟨rfl,c.out⟩
theorem qk(D:cY t v fl r I dom)(i:qy t v fs r I dom)(A:I L S w){a p f g:Nat}(k:Ia dom L a p f g)(z:Int)(u:nX a p f g z 1=0->dom (a+1+z.toNat)){x:Nat}(E:x<2147483648):Calls prog 127 #[.iface t v,(a:Int),(z:Int),(x:Int)] w (fc I (if nX a p f g z 1=0 then eb L (a+1+z.toNat) x else L) S w (.int .i64 (nX a p f g z 1))):=by
 have b:=ae (nF D A k z 1 (by decide));have K:=i.Xv;have H:=i.Xw;have m:=fun h=>(pz (a:=a) (z:=z) (kd:=1) k.hd h (by decide)).2.1
 have j:=ae (fun w1 h (hp:je I L S w w1)=>je.store i (u h) (iv E (by decide)) hp);obtain ⟨B,s⟩:∃B:Int,B=2147483647:=⟨_,rfl⟩;have F:decide ((x:Int)<0)=false:=by rw [decide_eq_false_iff_not];omega
 have o:decide (B<(x:Int))=false:=by rw [decide_eq_false_iff_not];omega
 have G:IntKind.u64.wrap (x:Int)=x:=by rw [IntKind.wrap_u64];omega
 rw [s] at o;generalize nX a p f g z 1=C at*;clear D A k u i E s;by_cases d:C=0
 ·subst d;have e:(a:Int)+1+z=((a+1+z.toNat:Nat):Int):=by have:=m rfl;omega
  have n:=ae (fun w1=>j.out w1 rfl);rw [if_pos rfl] at b ⊢;clear j m;rw [e] at b;generalize eb L (a+1+z.toNat) x=L2 at*;clear e;unfold fc at*;generalize ((a+1+z.toNat:Nat):Int)=q at*;generalize (x:Int)=X at*
  go_enter func127,ntmps127
  go_wp2_with fail
  refine b.out.mono ?_;rintro e W1 ⟨rfl,hp⟩;have c:=ae (n.out _ hp);clear hp n b;go_wp2_with fail
  refine c.out.mono ?_;rintro e M ⟨rfl,l⟩;clear c;go_wp2;go_ret;exact ⟨rfl,l⟩
 ·rw [if_neg d] at b ⊢;have d:(C==0)=false:=by rw [beq_eq_false_iff_ne];exact d
  clear j m F o G;unfold fc at*
  go_enter func127,ntmps127
  go_wp2_with fail
  refine b.out.mono ?_;rintro e W1 ⟨rfl,hp⟩;clear b;go_wp2;go_ret;exact ⟨rfl,hp⟩
theorem zE{a p f g i:Nat}(b:1<=a)(c:fP p f g i=1):nX a p f g i 1=0:=by
 unfold nX;omega
theorem ql(n:cY t v fl r I dom)(k:I L S w)(a i p f g x:Nat)(b:1<=a)(d:a<4611686018427387904)(j:dom a)(m:lw L a p f g)(l:fP p f g i=1)(c:dom (a+1+i))(o:L (a+1+i)=x)(e:x<2147483648):Calls prog 126 #[.iface t v,(a:Int),(i:Int)] w (fc I L S w (.tuple #[(x:Int),(0:Int)])):=by
 have h:=vF n k (.inr ⟨b,d,j,m⟩) i 1 (by decide) (fun _=>c);rw [zE b l,if_pos rfl,show (i:Int).toNat=i from rfl,o] at h;exact rn h e (fun h=>absurd rfl h)
theorem xR(m:cY t v fl r I dom)(n:qy t v fs r I dom)(j:I L S w)(a i p f g x:Nat)(b:1<=a)(d:a<4611686018427387904)(e:dom a)(l:lw L a p f g)(k:fP p f g i=1)(c:dom (a+1+i))(o:x<2147483648):Calls prog 127 #[.iface t v,(a:Int),(i:Int),(x:Int)] w (fc I (eb L (a+1+i) x) S w (.int .i64 0)):=by
 have h:=qk m n j (.inr ⟨b,d,e,l⟩) i (fun _=>c) o;rwa [zE b k,if_pos rfl,show (i:Int).toNat=i from rfl] at h
end
structure jl where
 E:Nat->Nat
 xs:List Nat
 lost:Bool
 no:Nat
 nw:Nat
def ch:Nat:=1
structure CE(EL:bT)(kb sb n0:Nat)(S0:Nat->Prop):Prop where
 s:∀k,S0 k->¬EL.has k/\k≠kb/\k≠sb/\k≠ch/\k<n0
 e:∀k,EL.has k->k≠kb/\k≠sb/\k≠ch/\k<n0
 k1:kb<n0
 s1:sb<n0
 t1:ch<n0
 d1:kb≠sb
 d2:kb≠ch
 d3:sb≠ch
def JY(EL:bT)(kb sb n0:Nat)(S0:Nat->Prop)(k:Nat):Prop:=S0 k\/EL.has k\/k=kb\/k=sb\/n0<=k
structure lq(I:jW)(t:TypeId)(v wk:Value)(L:Nat->Nat)(EL:bT)(W kb sb Rm:Nat)(S0:Nat->Prop)(w0:World)(PB:Nat->Prop)(wp:World)(S:Nat->Prop)(sv:Value)(Hg nr nv:Int)(st:jl)(w:World):Prop where
 sp:I L S w
 Qd:ay w kb [.iface t v,EL.m,sb,wk,((st.no:Int):Int),((st.nw:Int):Int),(nr:Int),(nv:Int)] 247
 ext:eo w EL W st.E
 stk:uP w 266 sb sv (st.xs.map Int.ofNat) Rm Hg st.lost
 Qo:ee w
 s0:∀k,S k->S0 k\/w0.heap.size<=k
 Zg:∀k,sv.ownBlock=some k->w0.heap.size<=k/\¬S k
 fr:Fr (JY EL kb sb w0.heap.size S0) w0 w
 prot:∀k,PB k->w0.heap.size<=k/\k<w.heap.size/\¬S k/\sv.ownBlock≠some k/\w.heap[k]? =wp.heap[k]?
def ji(I:jW)(t:TypeId)(v wk:Value)(L:Nat->Nat)(EL:bT)(W kb sb Rm:Nat)(S0:Nat->Prop)(w0:World)(PB:Nat->Prop)(wp:World)(st:jl)(w:World):Prop:=
 ∃S sv Hg nr nv,lq I t v wk L EL W kb sb Rm S0 w0 PB wp S sv Hg nr nv st w
section
variable{I:jW}{t:TypeId}{v wk:Value}{L:Nat->Nat}{EL:bT}{W kb sb Rm:Nat}{S0:Nat->Prop}{w0:World}{PB:Nat->Prop}{wp:World}{S S1:Nat->Prop}{sv sv1:Value}{Hg Qi nr nv:Int}{st:jl}{w w1:World}{fl:Nat}{r:Value}{dom:Nat->Prop}
theorem lq.size(h:lq I t v wk L EL W kb sb Rm S0 w0 PB wp S sv Hg nr nv st w):w0.heap.size<=w.heap.size:=h.fr.size
theorem lq.svlt(h:lq I t v wk L EL W kb sb Rm S0 w0 PB wp S sv Hg nr nv st w):∀k,sv.ownBlock=some k->k<w.heap.size:=fun k a=>(h.stk.2.1.lt k a).2
theorem uP.Qb{T:Nat->Prop}{a:TypeId}{b:Nat}{xs:List Int}{Rm Hg:Int}{lost:Bool}(h:uP w a b sv xs Rm Hg lost)(hf:Fr T w w1)(c:¬T b)(d:∀k,sv.ownBlock=some k->¬T k):uP w1 a b sv xs Rm Hg lost:=
 ⟨h.1.frame hf c,dL h.2.1 hf d,h.2.2⟩
theorem lq.sp_(b:CE EL kb sb w0.heap.size S0)(h:lq I t v wk L EL W kb sb Rm S0 w0 PB wp S sv Hg nr nv st w)(hp:je I L S w w1):ji I t v wk L EL W kb sb Rm S0 w0 PB wp st w1:=by
 obtain ⟨S1,l,c,m⟩:=hp;have i:=h.size;have g:∀k,k<w0.heap.size->¬S0 k->¬S k:=fun k a n f=>by
  rcases h.s0 k f with h|h
  ·grind
  ·omega
 refine ⟨S1,sv,Hg,nr,nv,l,h.Qd.frame c (g _ b.k1 (fun e=>(b.s _ e).2.1 rfl)),h.ext.frame c (fun k a=>g k (b.e k a).2.2.2 (fun e=>(b.s _ e).1 a)),h.stk.Qb c (g _ b.s1 (fun e=>(b.s _ e).2.2.1 rfl)) (fun k a=>(h.Zg k a).2),aE h.Qo c (g _ b.t1 (fun e=>(b.s _ e).2.2.2.1 rfl)),fun k a=> ?_,fun k a=>⟨(h.Zg k a).1,fun f=> ?_⟩,h.fr.trans c (fun k a=> .inl ?_),fun k a=> ?_⟩
 ·grind
 ·rcases m k f with d|d
  ·exact (h.Zg k a).2 d
  ·have:=h.svlt k a;omega
 ·rcases h.s0 k a with d|d
  ·exact .inl d
  ·exact .inr (.inr (.inr (.inr d)))
 ·obtain ⟨p1,p2,p3,p4,j⟩:=h.prot k a;have:=c.size;exact ⟨p1,by omega,fun f=>by grind,p4,(c.block k p2 p3).trans j⟩
theorem ji.Fh(b:cY t v fl r I dom)(a:CE EL kb sb w0.heap.size S0)(h:ji I t v wk L EL W kb sb Rm S0 w0 PB wp st w)(hf:J7 w w1):ji I t v wk L EL W kb sb Rm S0 w0 PB wp st w1:=by
 obtain ⟨S,sv,Hg,nr,nv,h⟩:=h;exact h.sp_ a (b.Fh h.sp hf)
theorem lq.ext_(i:cY t v fl r I dom)(a:CE EL kb sb w0.heap.size S0)(h:lq I t v wk L EL W kb sb Rm S0 w0 PB wp S sv Hg nr nv st w){c:Nat->Nat}(g:eo w1 EL W c)(hf:Fr EL.turns w w1):ji I t v wk L EL W kb sb Rm S0 w0 PB wp {st with E:=c} w1:=by
 have j:=h.size;refine ⟨S,sv,Hg,nr,nv,i.stays _ _ _ _ _ h.sp hf (fun k b e=> ?_) (fun e=>(a.e _ (bT.Qh e)).2.2.1 rfl),h.Qd.frame hf (fun e=>(a.e _ (bT.Qh e)).1 rfl),g,h.stk.Qb hf (fun e=>(a.e _ (bT.Qh e)).2.1 rfl) (fun k b e=> ?_),aE h.Qo hf (fun e=>(a.e _ (bT.Qh e)).2.2.1 rfl),h.s0,h.Zg,h.fr.trans hf (fun k b=> .inl (.inr (.inl (bT.Qh b)))),fun k b=> ?_⟩
 ·have f:=a.e k (bT.Qh e);rcases h.s0 k b with d|d
  ·exact (a.s k d).1 (bT.Qh e)
  ·omega
 ·have f:=a.e k (bT.Qh e);have:=(h.Zg k b).1;omega
 ·obtain ⟨p1,p2,p3,p4,l⟩:=h.prot k b;have:=hf.size;exact ⟨p1,by omega,p3,p4,(hf.block k p2 (fun e=>by have:=(a.e k (bT.Qh e)).2.2.2;omega)).trans l⟩
theorem lq.stk_(f:cY t v fl r I dom)(b:CE EL kb sb w0.heap.size S0)(h:lq I t v wk L EL W kb sb Rm S0 w0 PB wp S sv Hg nr nv st w){xs:List Nat}{lost:Bool}(g:uP w1 266 sb sv1 (xs.map Int.ofNat) Rm Qi lost)(hf:Fr (fun k=>k=sb\/sv.ownBlock=some k) w w1)(l:∀k,sv1.ownBlock=some k->sv.ownBlock=some k\/w.heap.size<=k):ji I t v wk L EL W kb sb Rm S0 w0 PB wp {st with xs:=xs,lost:=lost} w1:=by
 have j:=h.size;have d:∀k,k<w0.heap.size->k≠sb->¬(k=sb\/sv.ownBlock=some k):=fun k a i e=>by
  rcases e with e|e
  ·omega
  ·have:=(h.Zg k e).1;omega
 refine ⟨S,sv1,Qi,nr,nv,f.stays _ _ _ _ _ h.sp hf (fun k a e=> ?_) (d _ b.t1 (Ne.symm b.d3)),h.Qd.frame hf (d _ b.k1 b.d1),h.ext.frame hf (fun k a=>d k (b.e k a).2.2.2 (b.e k a).2.1),g,aE h.Qo hf (d _ b.t1 (Ne.symm b.d3)),h.s0,fun k a=> ?_,h.fr.trans hf (fun k a=> .inl ?_),fun k a=> ?_⟩
 ·rcases e with rfl|e
  ·rcases h.s0 _ a with c|c
   ·exact (b.s _ c).2.2.1 rfl
   ·have:=b.s1;omega
  ·exact (h.Zg k e).2 a
 ·rcases l k a with e|e
  ·exact h.Zg k e
  ·exact ⟨by omega,fun c=>by have:=f.lt _ _ _ h.sp k c;omega⟩
 ·rcases a with e|e
  ·exact .inr (.inr (.inr (.inl e)))
  ·exact .inr (.inr (.inr (.inr (h.Zg k e).1)))
 ·obtain ⟨p1,p2,p3,p4,m⟩:=h.prot k a;have:=hf.size;exact ⟨p1,by omega,p3,fun e=>by grind,(hf.block k p2 (fun e=>by rcases e with e|e;have:=b.s1;omega;grind)).trans m⟩
theorem lq.Yy(f:cY t v fl r I dom)(b:CE EL kb sb w0.heap.size S0)(h:lq I t v wk L EL W kb sb Rm S0 w0 PB wp S sv Hg nr nv st w){no nw:Nat}{nr1 nv1:Int}(d:ay w1 kb [.iface t v,EL.m,sb,wk,(no:Int),(nw:Int),(nr1:Int),(nv1:Int)] 247)(hf:Fr (fun k=>k=kb) w w1):lq I t v wk L EL W kb sb Rm S0 w0 PB wp S sv Hg nr1 nv1 {st with no:=no,nw:=nw} w1:=by
 have g:=h.size;refine ⟨f.stays _ _ _ _ _ h.sp hf (fun k a e=> ?_) (fun e=>b.d2 e.symm),d,h.ext.frame hf (fun k a e=>(b.e k a).1 e),h.stk.Qb hf (fun e=>b.d1 e.symm) (fun k a e=> ?_),aE h.Qo hf (fun e=>b.d2 e.symm),h.s0,h.Zg,h.fr.trans hf (fun k a=> .inl (.inr (.inr (.inl a)))),fun k a=> ?_⟩
 ·subst e;rcases h.s0 _ a with c|c
  ·exact (b.s _ c).2.1 rfl
  ·have:=b.k1;omega
 ·have:=(h.Zg k a).1;have:=b.k1;omega
 ·obtain ⟨p1,p2,p3,p4,i⟩:=h.prot k a;have:=hf.size;exact ⟨p1,by omega,p3,p4,(hf.block k p2 (fun e=>by have:=b.k1;omega)).trans i⟩
end
theorem rx(k:Value)(w:World):Calls prog 227 #[k,.bool true] w fun e w'=>e= .returned (.tuple #[])/\w=w':=by
 go_enter func227,ntmps227
 go_wp2;go_end0
 grind
def ez(G:Gr)(Rm:Nat)(st:jl)(a:Nat):jl:=
 if a=0\/st.E a≠0 then st else
  {E:=dR st.E a (G.size a),xs:=if st.xs.length<Rm then st.xs++[a] else st.xs,lost:=if st.xs.length<Rm then st.lost else true,no:=st.no+1,nw:=st.nw+G.size a}
def jJ(L:Nat->Nat)(dom:Nat->Prop)(G:Gr)(a:Nat):Prop:=
 ∃p f g,lw L a p f g/\G.size a=1+(p+f+g)/\G.Qr a=(List.range p).map (fun i=>L (a+1+i))/\(∀k,a<=k->k<a+G.size a->dom k)/\∀i,i<p->L (a+1+i)<2147483648
def qa(I:jW)(t:TypeId)(v wk:Value)(L:Nat->Nat)(EL:bT)(W kb sb Rm:Nat)(S0:Nat->Prop)(w0:World)(PB:Nat->Prop)(wp:World)(st:jl)(e:Ending)(w':World):Prop:=e= .returned (.tuple #[])/\ji I t v wk L EL W kb sb Rm S0 w0 PB wp st w'
section
variable{I:jW}{t:TypeId}{v wk:Value}{L:Nat->Nat}{EL:bT}{W kb sb Rm:Nat}{S0:Nat->Prop}{w0:World}{PB:Nat->Prop}{wp:World}{S S1:Nat->Prop}{sv sv1:Value}{Hg Qi nr nv:Int}{st:jl}{w w1:World}{fl:Nat}{r:Value}{dom:Nat->Prop}{G:Gr}{rs:List Nat}{N:Nat}
theorem xX(R:cY t v fl r I dom)(J:CE EL kb sb w0.heap.size S0)(hG:gd G rs N)(hW:N<=W)(hO:∀a,G.size a≠0->jJ L dom G a)(h:ji I t v wk L EL W kb sb Rm S0 w0 PB wp st w)(hm:fz G rs st.E)(a:Nat)(ha:a≠0)(hr:Reach G rs a)(U:st.E a=0)(aC:st.no<=1048576)(aG:st.nw<=1048576)(P:Rm<=4096):
  Calls prog 199 #[kb,(a:Int)] w (qa I t v wk L EL W kb sb Rm S0 w0 PB wp (ez G Rm st a)):=by
 have u:=hG.reach hr;obtain ⟨p,f,g,o1,o2,o3,o4,o5⟩:=hO a u;have aq:=hG.top a u;have b:=hm.Rm hG u U;obtain ⟨S,sv,Hg,nr,nv,z⟩:=h;have az:=z.ext.small.2;have HF:=ae (ky z.ext z.Qo a (by omega));have m:∀e w',gg st.E a w e w'->e= .returned (.tuple #[(0:Int),(0:Int),.bool false])/\w=w':=by
  rintro e w' ⟨⟨s,n,h1,h2,h3,_⟩|⟨_,h1⟩,h2⟩
  ·have:=b.1 s h1;omega
  ·exact ⟨h1,h2⟩
 have ad:=ae m;have k0:=z.Qd.cell 0 rfl;have k1:=z.Qd.cell 1 rfl;have H:=ae (kr R z.sp a p f g (by omega) (o4 a (ag _) (by omega)) o1);have ak:=ae (fun w1 (hp:je I L S w w1)=>z.sp_ J hp);have D:=ae (fun w1 w2 (c:ji I t v wk L EL W kb sb Rm S0 w0 PB wp st w1) (hf:J7 w1 w2)=>c.Fh R J hf);have F:=ae (fun w1=>rx (.pointer (some ⟨kb,0,none⟩)) w1);have i:=ae (fun w1=>iK p f g w1);have A:fO p f g=((1+(p+f+g):Nat):Int):=by rw [fO,if_pos o1.2];push_cast;omega
 rw [A] at i;obtain ⟨n,hn⟩:∃n,1+(p+f+g)=n:=⟨_,rfl⟩;rw [hn] at i o2;have X:=ae (fun w1 S sv Hg nr nv (c:lq I t v wk L EL W kb sb Rm S0 w0 PB wp S sv Hg nr nv st w1)=>(Ab c.ext c.Qo a n (by omega) (by omega) b.1 (fun s h1 h2=>by have:=b.2 s h1 h2;omega)).mono (fun e w2 ⟨q1,q2,q3⟩=>(⟨q1,c.ext_ R J q2 q3⟩:e=Ending.returned (0:Int)/\ji I t v wk L EL W kb sb Rm S0 w0 PB wp {st with E:=dR st.E a n} w2)));have C:=ae (fun w1 w2 S sv Hg nr nv d no nw (c:lq I t v wk L EL W kb sb Rm S0 w0 PB wp S sv Hg nr nv d w1) U hf=>c.Yy (w1:=w2) (no:=no) (nw:=nw) (nr1:=nr) (nv1:=nv) R J U hf);have ah:=ae (fun w1 S sv Hg nr nv d (hx:d.xs=st.xs/\d.lost=st.lost) (c:lq I t v wk L EL W kb sb Rm S0 w0 PB wp S sv Hg nr nv d w1)=>by
  by_cases hl:st.xs.length<Rm
  ·exact (A5 sb sv _ Rm Hg (a:Int) _ w1 c.stk (by rw [hx.1,cQ];omega) (by omega)).mono (fun e w2 ⟨q1,aH,q2,q3,q4⟩=>(⟨.inl q1,by
    rw [if_pos hl,if_pos hl,<-hx.1,<-hx.2];refine c.stk_ R J (sv1:=aH) (Qi:=(max Hg (((d.xs.map Int.ofNat).length:Int)+1))) ?_ q3 q4;rw [dd];exact q2⟩:(e=Ending.returned (.bool true)\/e=Ending.returned (.bool false))/\ji I t v wk L EL W kb sb Rm S0 w0 PB wp {d with xs:=if st.xs.length<Rm then st.xs++[a] else st.xs,lost:=if st.xs.length<Rm then st.lost else true} w2))
  ·exact (A6 sb sv _ Rm Hg (a:Int) _ w1 c.stk (by rw [hx.1,cQ];omega)).mono (fun e w2 ⟨q1,q2,q3⟩=>(⟨.inr q1,by
    rw [if_neg hl,if_neg hl,<-hx.1];exact c.stk_ R J q2 (q3.mono (fun k hk=> .inl (.inl hk))) (fun k hk=> .inl hk)⟩:(e=Ending.returned (.bool true)\/e=Ending.returned (.bool false))/\ji I t v wk L EL W kb sb Rm S0 w0 PB wp {d with xs:=if st.xs.length<Rm then st.xs++[a] else st.xs,lost:=if st.xs.length<Rm then st.lost else true} w2)))
 have y:∀w',ji I t v wk L EL W kb sb Rm S0 w0 PB wp {E:=dR st.E a n,xs:=if st.xs.length<Rm then st.xs++[a] else st.xs,lost:=if st.xs.length<Rm then st.lost else true,no:=st.no+1,nw:=st.nw+n} w'->qa I t v wk L EL W kb sb Rm S0 w0 PB wp (ez G Rm st a) (.returned (.tuple #[])) w':=by
  intro w' c;refine ⟨rfl,?_⟩;unfold ez;rw [if_neg (by omega),o2];exact c
 have x:=ae y;generalize (qa I t v wk L EL W kb sb Rm S0 w0 PB wp (ez G Rm st a))=Q at*;have aN:n<=1048576:=by omega
 have aS:IntKind.i64.wrap ((st.no:Int)+1)=(st.no:Int)+1:=by rw [IntKind.wrap_i64];omega
 have aU:IntKind.i64.wrap ((st.nw:Int)+(n:Int))=(st.nw:Int)+(n:Int):=by rw [IntKind.wrap_i64];omega
 have aI:¬(a:Int)=0:=by omega
 unfold jn at i;unfold zg at H;unfold ft at*;clear R J hG hW hO hm hr U o1 o2 o3 o4 o5 aq b z az m A u y aC aG P hn
 go_enter func199,ntmps199
 go_wp2_with fail
 refine HF.out.mono ?_;intro e w1 hp;obtain ⟨rfl,rfl⟩:=ad.out _ _ hp;clear hp HF ad;go_wp2_with fail
 refine H.out.mono ?_;rintro e T ⟨rfl,hp⟩;have an:=ak.out _ hp;obtain ⟨W3,K⟩:∃W3,T.alloc (.cells #[(p:Int),(f:Int),(g:Int)] 32)=W3:=⟨_,rfl⟩;have am:J7 T W3:=by rw [<-K];exact (Kb _ _).alloc _
 have al:=ae (show ay W3 T.heap.size [(p:Int),(f:Int),(g:Int)] 32 from by rw [<-K];exact ay.new T _ _);have Y:=ae (D.out _ _ an am);clear hp an am ak H k0 k1
 go_upto_region 4 with fail
 clear K;generalize T.heap.size=q at*;clear T;go_wp2_with fail
 refine (F.out _).mono ?_;rintro e w4 ⟨rfl,rfl⟩;have aj:Hid ((prog.info? 32).map (·.size)=some 3):=by show _=_;kernel_rfl
 go_wp2_with (refine wpList_load_row rfl 32 _ rfl q rfl 32 #[(p:Int),(f:Int),(g:Int)] _ _ al.out underlying32 rfl aj.out ?_)
 refine (i.out _).mono ?_;rintro e w5 ⟨rfl,ap⟩;have aA:=D.out _ _ Y.out ap;clear ap Y al i D aj;obtain ⟨S5,aR,aB,aO,aP,M⟩:=aA;have V:=ae (X.out _ _ _ _ _ _ M);have k1:=M.Qd.cell 1 rfl;clear M X;go_wp2_with fail
 refine V.out.mono ?_;rintro e w6 ⟨rfl,ao⟩;have Z:=ae ao;clear ao V k1;go_wp2_with fail
 refine (F.out _).mono ?_;rintro e w7 ⟨rfl,rfl⟩;obtain ⟨S6,ax,o,ar,av,j⟩:=Z.out;clear Z F;have k4:=j.Qd.cell 4 rfl;have f4:=j.Qd.free 4;have hX:∀B,B=w6.setCell ⟨kb,4,none⟩ (.int .i64 ((st.no:Int)+1))->lq I t v wk L EL W kb sb Rm S0 w0 PB wp S6 ax o ar av {E:=dR st.E a n,xs:=st.xs,lost:=st.lost,no:=st.no+1,nw:=st.nw} B:=by
  rintro B rfl;exact C.out _ _ _ _ _ _ _ _ (st.no+1) st.nw j (j.Qd.set 4 (.int .i64 ((st.no:Int)+1))) ((Kb (fun k=>k=kb) w6).setCell ⟨kb,4,none⟩ (.inl rfl) _)
 have HX:=ae hX;clear hX j
 go_upto_region 8 with fail
 have l:=HX.out _ rfl;generalize w6.setCell ⟨kb,4,none⟩ (.int .i64 ((st.no:Int)+1))=B at*;clear HX k4 f4 w6;have k5:=l.Qd.cell 5 rfl;have f5:=l.Qd.free 5;have hX:∀w9,w9=B.setCell ⟨kb,5,none⟩ (.int .i64 ((st.nw:Int)+(n:Int)))->lq I t v wk L EL W kb sb Rm S0 w0 PB wp S6 ax o ar av {E:=dR st.E a n,xs:=st.xs,lost:=st.lost,no:=st.no+1,nw:=st.nw+n} w9:=by
  rintro w9 rfl;exact C.out _ _ _ _ _ _ _ _ (st.no+1) (st.nw+n) l (by have:=l.Qd.set 5 (.int .i64 ((st.nw:Int)+(n:Int)));exact this) ((Kb (fun k=>k=kb) B).setCell ⟨kb,5,none⟩ (.inl rfl) _)
 have HX:=ae hX;clear hX l C
 go_upto_region 9 with fail
 have O:=HX.out _ rfl;generalize B.setCell ⟨kb,5,none⟩ (.int .i64 ((st.nw:Int)+(n:Int)))=w9 at*;clear HX k5 f5 B;have k2:=O.Qd.cell 2 rfl;have HP:=ae (ah.out _ _ _ _ _ _ _ (by exact ⟨rfl,rfl⟩) O);clear O ah;go_wp2_with fail
 refine HP.out.mono ?_;rintro e aT ⟨U,c⟩;have HQ:=ae (x.out _ c);clear c HP x k2;rcases U with rfl|rfl
 ·go_wp2;go_end0;exact HQ.out
 ·go_wp2;go_end0;exact HQ.out
end
section
variable{I:jW}{t:TypeId}{v wk:Value}{L:Nat->Nat}{EL:bT}{W kb sb Rm:Nat}{S0:Nat->Prop}{w0:World}{PB:Nat->Prop}{wp:World}{S S1:Nat->Prop}{sv sv1:Value}{Hg Qi nr nv:Int}{st:jl}{w w1:World}{fl:Nat}{r:Value}{dom:Nat->Prop}{G:Gr}{rs:List Nat}{N:Nat}
theorem vM(h:ji I t v wk L EL W kb sb Rm S0 w0 PB wp st w):
  Calls prog 199 #[kb,(0:Int)] w (qa I t v wk L EL W kb sb Rm S0 w0 PB wp st):=by
 have H:=ae h;clear h;generalize a:(qa I t v wk L EL W kb sb Rm S0 w0 PB wp st)=Q;have b:Hid (∀w',ji I t v wk L EL W kb sb Rm S0 w0 PB wp st w'->Q (.returned (.tuple #[])) w'):=by show∀w',_;intro w' h;rw [<-a];exact ⟨rfl,h⟩
 clear a
 go_enter func199,ntmps199
 go_wp2;refine bodyPost_ret (results_none rfl _ _ _) rfl ?_;exact b.out _ H.out
theorem xW(h:ji I t v wk L EL W kb sb Rm S0 w0 PB wp st w)(a:Nat)(y:a≠0)(i:st.E a≠0):
  Calls prog 199 #[kb,(a:Int)] w (qa I t v wk L EL W kb sb Rm S0 w0 PB wp st):=by
 have H:=ae h;obtain ⟨S,sv,Hg,nr,nv,c⟩:=h;have f:=c.ext.top a i;have g:=c.ext.small.2;have j:=ae (ky c.ext c.Qo a (by omega));have b:∀e w',gg st.E a w e w'->(∃n:Nat,e= .returned (.tuple #[(a:Int),(n:Int),.bool true]))/\w=w':=by
  rintro e w' ⟨⟨s,n,k,u,x,p⟩|⟨k,_⟩,o⟩
  ·refine ⟨⟨n,?_⟩,o⟩;have:s=a:=by
    rcases aN s a with h|h
    ·have:=c.ext.apart s a h (by omega) i;omega
    ·omega
   rw [p,this]
  ·have:=k a (ag a);omega
 have d:=ae b;have z:=c.Qd.cell 1 rfl;generalize l:(qa I t v wk L EL W kb sb Rm S0 w0 PB wp st)=Q;have m:Hid (∀w',ji I t v wk L EL W kb sb Rm S0 w0 PB wp st w'->Q (.returned (.tuple #[])) w'):=by show∀w',_;intro w' h;rw [<-l];exact ⟨rfl,h⟩
 have q:¬(a:Int)=0:=by omega
 clear l c f g b i
 go_enter func199,ntmps199
 go_wp2_with fail
 refine j.out.mono ?_;intro e w1 hp;obtain ⟨⟨n,rfl⟩,rfl⟩:=d.out _ _ hp;clear hp j d;go_wp2;refine bodyPost_ret (results_none rfl _ _ _) rfl ?_;exact m.out _ H.out
theorem tg(n:cY t v fl r I dom)(i:CE EL kb sb w0.heap.size S0)(f:gd G rs N)(j:N<=W)(g:∀a,G.size a≠0->jJ L dom G a)(h:ji I t v wk L EL W kb sb Rm S0 w0 PB wp st w)(m:fz G rs st.E)(a:Nat)(k:a≠0->Reach G rs a)(d:st.no<=1048576)(e:st.nw<=1048576)(b:Rm<=4096):
  Calls prog 199 #[kb,(a:Int)] w (qa I t v wk L EL W kb sb Rm S0 w0 PB wp (ez G Rm st a)):=by
 by_cases c:a=0
 ·subst c;have:ez G Rm st 0=st:=if_pos (.inl rfl)
  grind [vM]
 ·by_cases l:st.E a=0
  ·grind [xX]
  simp_all [ez,xW]
end
theorem vR{E:Nat->Nat}{a n N:Nat}(t:n≠0)(q:∀s,s<=a->s+E s<=a)(r:∀s,a<=s->E s≠0->a+n<=s)(m:a+n<=N):Qc (aw (dR E a n)) 0 N=Qc (aw E) 0 N+n:=by
 have p:E a=0:=by grind
 have l:∀i,i<a->aw (dR E a n) i=aw E i:=fun i o=>by
  rw [bM,cE,cE];constructor
  ·rintro ⟨s,c,j⟩;exact ⟨s,c,by unfold dR at j;grind⟩
  ·rintro ⟨s,c,j⟩;exact ⟨s,c,by unfold dR;grind⟩
 have e:∀i,a<=i->i<a+n->aw (dR E a n) i=true:=fun i c j=>cE.2 ⟨a,c,by unfold dR;grind⟩
 have d:∀i,a<=i->i<a+n->aw E i=false:=fun i c j=>by
  rw [bt]
  grind [cE]
 have Hg:∀i,a+n<=i->aw (dR E a n) i=aw E i:=fun i o=>by
  rw [bM,cE,cE];constructor
  ·grind [dR]
  ·rintro ⟨s,c,j⟩;refine ⟨s,c,?_⟩;unfold dR
   grind
 rw [bp (aw (dR E a n)) (ao a) (show a<=N by omega),bp (aw E) (ao a) (show a<=N by omega),bp (aw (dR E a n)) (show a<=a+n by omega) m,bp (aw E) (show a<=a+n by omega) m,
  bY (f:=aw (dR E a n)) (g:=aw E) (a:=0) (b:=a) (fun i _ h=>l i h),pO (f:=aw (dR E a n)) (fun i h k=>e i h k),bP (f:=aw E) (a:=a) (b:=a+n) (fun i h k=>d i h k),bY (f:=aw (dR E a n)) (g:=aw E) (a:=a+n) (b:=N) (fun i h _=>Hg i h)]
 omega
structure kh(G:Gr)(rs:List Nat)(N Rm:Nat)(st:jl):Prop where
 marked:fz G rs st.E
 no:st.no=Qc (cV st.E) 0 N
 nw:st.nw=Qc (aw st.E) 0 N
 xs:∀x∈st.xs,st.E x≠0
 rm:st.xs.length<=Rm
structure ln(st st':jl):Prop where
 mono:∀b,st.E b≠0->st'.E b≠0
 xs:∀x∈st.xs,x∈st'.xs
 new:∀b,st'.E b≠0->st.E b≠0\/b∈st'.xs\/st'.lost=true
 lost:st.lost=true->st'.lost=true
 Xt:st'.lost=true->st.lost=true\/st.no<st'.no
 no:st.no<=st'.no
 len:st'.xs.length+st.no<=st.xs.length+st'.no
theorem ln.refl(a:jl):ln a a:=⟨fun _ h=>h,fun _ h=>h,fun _ h=> .inl h,id,.inl,ag _,ag _⟩
theorem ln.trans{a b c:jl}(h:ln a b)(k:ln b c):ln a c:=
 ⟨fun x g=>k.mono x (h.mono x g),fun x g=>k.xs x (h.xs x g),fun x g=>by
  rcases k.new x g with d|d|d
  ·rcases h.new x d with f|f|f
   ·omega
   ·exact .inr (.inl (k.xs x f))
   ·exact .inr (.inr (k.lost f))
  ·grind
  grind,fun e=>k.lost (h.lost e),fun e=>by
  have:=h.no;have:=k.no;rcases k.Xt e with d|d
  ·rcases h.Xt d with f|f
   ·grind
   omega
  omega,aH h.no k.no,by have:=h.len;have:=k.len;omega⟩
section
variable{G:Gr}{rs:List Nat}{N Rm:Nat}{st:jl}
theorem kh.small(h:kh G rs N Rm st):st.no<=N/\st.nw<=N:=by
 have a:=dA (cV st.E) 0 N;have b:=dA (aw st.E) 0 N;rw [h.no,h.nw];omega
theorem rv(c:gd G rs N)(h:kh G rs N Rm st){a:Nat}(f:a≠0->Reach G rs a):kh G rs N Rm (ez G Rm st a):=by
 unfold ez;split
 ·exact h
 ·rename_i j;have d:a≠0:=fun e=>j (.inl e)
  have g:st.E a=0:=by
   omega
  have b:=c.reach (f d);have i:=h.marked.Rm c b g;have k:=c.top a b;refine ⟨h.marked.put (f d),?_,?_,?_,?_⟩
  ·show st.no+1=_
   rw [nC b g (by omega),h.no]
  ·show st.nw+G.size a=_
   rw [vR b i.1 i.2 k,h.nw]
  ·intro x m;show dR st.E a (G.size a) x≠0
   unfold dR;split
   ·exact b
   ·rename_i l;refine h.xs x ?_
    grind
  ·show (if st.xs.length<Rm then st.xs++[a] else st.xs).length<=Rm
   have:=h.rm
   grind
theorem qo(st:jl)(a:Nat)(h:a≠0->G.size a≠0):ln st (ez G Rm st a)/\(a≠0->(ez G Rm st a).E a≠0):=by
 unfold ez;split
 ·grind [ln.refl]
 ·rename_i g;have d:a≠0:=fun e=>g (.inl e)
  have i:=h d;refine ⟨⟨?_,?_,?_,?_,?_,?_,?_⟩,fun _=> ?_⟩
  ·grind [dR]
  ·grind
  ·intro b f;show st.E b≠0\/b∈(if st.xs.length<Rm then st.xs++[a] else st.xs)\/(if st.xs.length<Rm then st.lost else true)=true
   have c:dR st.E a (G.size a) b≠0:=f;unfold dR at c
   grind
  ·grind
  ·grind
  ·grind
  ·grind
  ·show dR st.E a (G.size a) a≠0;unfold dR;grind
def ga(G:Gr)(Rm:Nat)(st:jl)(a:Nat):jl:=(G.Qr a).foldl (ez G Rm) st
theorem rz(d:gd G rs N):∀(l:List Nat) (st:jl),kh G rs N Rm st->(∀p∈l,p≠0->Reach G rs p)->kh G rs N Rm (l.foldl (ez G Rm) st)/\ln st (l.foldl (ez G Rm) st)/\∀p∈l,p≠0->(l.foldl (ez G Rm) st).E p≠0
 |[],st,h,_=>⟨h,ln.refl st,fun p hp=>absurd hp (bF)⟩
 |a::l,st,h,hr=>by
  have b:=hr a (cw ..);have g:=rv d h b;have e:=qo (G:=G) (Rm:=Rm) st a (fun c=>d.reach (b c));obtain ⟨i,f,j⟩:=rz d l _ g (fun p hp=>hr p (bm _ hp));refine ⟨i,e.1.trans f,fun p hp c=> ?_⟩;rcases cG.1 hp with rfl|hp
  ·exact f.mono _ (e.2 c)
  grind
theorem pB(c:gd G rs N)(h:kh G rs N Rm st){a:Nat}(d:Reach G rs a):kh G rs N Rm (ga G Rm st a)/\ln st (ga G Rm st a)/\Cw G (ga G Rm st a).E a:=
 rz c _ st h (fun p hp b=> .step d hp b)
end
section
variable{I:jW}{t:TypeId}{v wk:Value}{L:Nat->Nat}{EL:bT}{W kb sb Rm:Nat}{S0:Nat->Prop}{w0:World}{PB:Nat->Prop}{wp:World}{S S1:Nat->Prop}{sv sv1:Value}{Hg Qi nr nv:Int}{st:jl}{w w1:World}{fl:Nat}{r:Value}{dom:Nat->Prop}{G:Gr}{rs:List Nat}{N:Nat}
theorem ru(F:cY t v fl r I dom)(D:CE EL kb sb w0.heap.size S0)(V:gd G rs N)(hW:N<=W)(hO:∀a,G.size a≠0->jJ L dom G a)(h:ji I t v wk L EL W kb sb Rm S0 w0 PB wp st w)(hI:kh G rs N Rm st)(a:Nat)(X:Reach G rs a)(n:Rm<=4096):
  Calls prog 204 #[kb,(a:Int)] w (qa I t v wk L EL W kb sb Rm S0 w0 PB wp (ga G Rm st a)):=by
 have A:=V.reach X;have aq:=X.pos;obtain ⟨p,f,g,o1,o2,o3,o4,o5⟩:=hO a A;have al:=V.top a A;have hN:N<=1048576:=by obtain ⟨_,_,_,_,_,hd⟩:=h;have:=hd.ext.small.2;omega
 have R:=ae (fun w1 S sv Hg nr nv b (m:lq I t v wk L EL W kb sb Rm S0 w0 PB wp S sv Hg nr nv b w1)=>(kr F m.sp a p f g (by omega) (o4 a (ag _) (by omega)) o1).mono (fun e w2 ⟨he,hp⟩=>(⟨he,m.sp_ D hp⟩:e=Ending.returned (.tuple #[ft p f g,(0:Int)])/\ji I t v wk L EL W kb sb Rm S0 w0 PB wp b w2)));have aj:∀i:Nat,i<p->fP p f g i=(1:Nat):=fun i E=>by
  have hh:=o1.2;unfold fP;rw [fO,if_pos hh,if_neg (by omega),if_pos (by omega)];rfl
 have ap:=ae (fun i (E:i<p) w1 S sv Hg nr nv b (m:lq I t v wk L EL W kb sb Rm S0 w0 PB wp S sv Hg nr nv b w1)=>(ql F m.sp a i p f g (L (a+1+i)) (by omega) (by omega) (o4 a (ag _) (by omega)) o1 (aj i E) (o4 _ (by omega) (by omega)) rfl (o5 i E)).mono (fun e w2 ⟨he,hp⟩=>(⟨he,m.sp_ D hp⟩:e=Ending.returned (.tuple #[(((L (a+1+i):Nat):Int):Int),(0:Int)])/\ji I t v wk L EL W kb sb Rm S0 w0 PB wp b w2)));have ao:=ae (fun w1 w2 b (m:ji I t v wk L EL W kb sb Rm S0 w0 PB wp b w1) (hf:J7 w1 w2)=>m.Fh F D hf);have K:=ae (fun w1=>rx (.pointer (some ⟨kb,0,none⟩)) w1);have ak:∀i,i<=p->((List.range i).map (fun i=>L (a+1+i))).foldl (ez G Rm) st=((List.range i).map (fun i=>L (a+1+i))).foldl (ez G Rm) st/\kh G rs N Rm (((List.range i).map (fun i=>L (a+1+i))).foldl (ez G Rm) st):=fun i E=>⟨rfl,(rz V _ st hI (fun q hq C=> .step X (by rw [o3];obtain ⟨j,hj,rfl⟩:=bw.1 hq;exact bw.2 ⟨j,bO.2 (by have:=bO.1 hj;omega),rfl⟩) C)).1⟩
 obtain ⟨c,l⟩:∃c:Nat->jl,c=fun i=>((List.range i).map (fun i=>L (a+1+i))).foldl (ez G Rm) st:=⟨_,rfl⟩
 have o:∀i,ez G Rm (c i) (L (a+1+i))=c (i+1):=fun i=>by
  rw [l];show ez G Rm _ _=((List.range (i+1)).map _).foldl _ _;rw [List.range_succ,dd,List.foldl_append];rfl
 have P:=ae (fun i (E:i<p) w1 (m:ji I t v wk L EL W kb sb Rm S0 w0 PB wp (c i) w1)=>by
  have ad:kh G rs N Rm (c i):=by rw [l];exact (ak i (by omega)).2
  have aA:=ad.small;have:=tg F D V hW hO m ad.marked (L (a+1+i)) (fun C=> .step X (by rw [o3];exact bw.2 ⟨i,bO.2 E,rfl⟩) C) (by omega) (by omega) n;rwa [o] at this)
 have an:=ae (fun w1 w2 S sv Hg nr nv b nv1 (m:lq I t v wk L EL W kb sb Rm S0 w0 PB wp S sv Hg nr nv b w1) he hf=>m.Yy (w1:=w2) (no:=b.no) (nw:=b.nw) (nr1:=nr) (nv1:=nv1) F D he hf);have C:ji I t v wk L EL W kb sb Rm S0 w0 PB wp (c 0) w:=by rw [l];exact h
 have u:∀w',ji I t v wk L EL W kb sb Rm S0 w0 PB wp (c p) w'->qa I t v wk L EL W kb sb Rm S0 w0 PB wp (ga G Rm st a) (.returned (.tuple #[])) w':=by
  intro w' m;refine ⟨rfl,?_⟩;unfold ga;rw [o3];rwa [l] at m
 have J:=ae u;generalize (qa I t v wk L EL W kb sb Rm S0 w0 PB wp (ga G Rm st a))=Q at*;have H0:=ae C;have av:p<256:=by have:=o1.2;unfold dD at this;omega
 obtain ⟨S,sv,Hg,nr,nv,hd⟩:=C;have k0:=hd.Qd.cell 0 rfl;have s:=ae (R.out _ _ _ _ _ _ _ hd);unfold ft at*;unfold qa at P;clear F D V hW hO h hI X n A aq o1 o2 o3 o4 o5 al hN aj ak l o u hd R
 go_enter func204,ntmps204
 go_wp2_with fail
 refine s.out.mono ?_;rintro e B ⟨rfl,hp⟩;obtain ⟨W3,y⟩:∃W3,B.alloc (.cells #[(p:Int),(f:Int),(g:Int)] 32)=W3:=⟨_,rfl⟩;have U:J7 B W3:=by rw [<-y];exact (Kb _ _).alloc _
 have T:=ae (show ay W3 B.heap.size [(p:Int),(f:Int),(g:Int)] 32 from by rw [<-y];exact ay.new B _ _);have H:=ae (ao.out _ _ _ hp U);clear hp U s k0 H0
 go_upto_region 1 with fail
 clear y;generalize B.heap.size=q at*;clear B;go_wp2_with fail
 refine (K.out _).mono ?_;rintro e w4 ⟨rfl,rfl⟩;have kq:=T.out.cell 0 rfl;go_wp2
 go_loopw [24] (fun x wr=>∃(i:Nat),x= .int .i64 i/\i<=p/\Hid (ji I t v wk L EL W kb sb Rm S0 w0 PB wp (c i) wr)) (fun x _=>(p-intOf x).toNat)
 case atStart=>exact ⟨0,rfl,by omega,H⟩
 case round=>
  clear H T kq;obtain ⟨i,rfl,h1,hr⟩:=hrel;obtain ⟨S5,aG,ar,aB,aC,d⟩:=hr.out;have k0:=d.Qd.cell 0 rfl;by_cases z:i<p
  ·have ax:(i:Int)<(p:Int):=by omega
   have M:=ae (ap.out i z _ _ _ _ _ _ _ d);clear hr d;go_wp2_with fail
   refine M.out.mono ?_;rintro e w5 ⟨rfl,Y⟩;have O:=ae (P.out i z _ Y);clear Y M k0;go_wp2_with fail
   refine (K.out _).mono ?_;rintro e w6 ⟨rfl,rfl⟩;go_wp2_with fail
   refine O.out.mono ?_;rintro e w7 ⟨rfl,Z⟩;have am:=ae Z;clear Z O;go_wp2;go_roundw
   case rel=>exact ⟨i+1,by go_num,by omega,am⟩
   case measure=>simp [intOf];omega
  ·have ah:i=p:=by omega
   have az:¬(i:Int)<(p:Int):=by omega
   have kv:=d.Qd.cell 7 rfl;have fv:=d.Qd.free 7;have HX:=ae (fun x w8 (e:w8=wr.setCell ⟨kb,7,none⟩ (.int .i64 x))=>J.out w8 (by rw [<-ah];exact ⟨_,_,_,_,_,an.out _ _ _ _ _ _ _ _ x d (by rw [e];exact d.Qd.set 7 (.int .i64 x)) (by rw [e];exact (Kb (fun k=>k=kb) wr).setCell ⟨kb,7,none⟩ (.inl rfl) _)⟩));clear hr d h1 z ah k0;go_wp2;go_end0;exact HX.out _ _ rfl
end
structure tR(G:Gr)(rs:List Nat)(N Rm:Nat)(st cur:jl)(pend:List Nat):Prop where
 inv:kh G rs N Rm cur
 mono:∀b,st.E b≠0->cur.E b≠0
 all:∀b,cur.E b≠0->Cw G cur.E b\/b∈cur.xs\/b∈pend\/cur.lost=true\/(st.E b≠0/\b∉st.xs)
 lost:st.lost=true->cur.lost=true
 Xt:cur.lost=true->st.lost=true\/st.no<cur.no
 no:st.no<=cur.no
 pd:∀b∈pend,Reach G rs b
section
variable{G:Gr}{rs:List Nat}{N Rm:Nat}{st cur:jl}{pend:List Nat}
theorem tR.start(h:kh G rs N Rm st):tR G rs N Rm st st []:=
 ⟨h,fun _ h=>h,fun b a=>by
  grind,id,.inl,ag _,fun b a=>absurd a (bF)⟩
theorem tR.pop(h:tR G rs N Rm st cur []){ys:List Nat}{x:Nat}(d:cur.xs=ys++[x]):tR G rs N Rm st {cur with xs:=ys} [x]:=
 ⟨⟨h.inv.marked,h.inv.no,h.inv.nw,fun y e=>h.inv.xs y (by grind),by have:=h.inv.rm;grind⟩,h.mono,fun b c=>by
  rcases h.all b c with a|a|a|a|a
  ·grind
  ·grind
  ·grind
  ·grind
  grind,h.lost,h.Xt,h.no,fun b c=>by
  rw [dc.1 c];exact (h.inv.marked x (h.inv.xs x (by grind))).1⟩
theorem tR.visit(j:gd G rs N){x:Nat}(h:tR G rs N Rm st cur [x]):tR G rs N Rm st (ga G Rm cur x) []/\(ga G Rm cur x).xs.length+cur.no<=cur.xs.length+(ga G Rm cur x).no/\cur.no<=(ga G Rm cur x).no:=by
 obtain ⟨k,a,l⟩:=pB (Rm:=Rm) j h.inv (h.pd x (by simp));refine ⟨⟨k,fun b d=>a.mono b (h.mono b d),fun b d=> ?_,fun e=>a.lost (h.lost e),fun e=> ?_,aH h.no a.no,fun b d=>absurd d (bF)⟩,a.len,a.no⟩
 ·rcases a.new b d with f|f|f
  ·rcases h.all b f with c|c|c|c|c
   ·exact .inl (fun p hp g=>a.mono p (c p hp g))
   ·exact .inr (.inl (a.xs b c))
   ·grind
   ·exact .inr (.inr (.inr (.inl (a.lost c))))
   grind
  ·grind
  grind
 ·have:=h.no;have:=a.no;rcases a.Xt e with c|c
  ·rcases h.Xt c with i|i
   ·grind
   omega
  omega
end
section
variable{I:jW}{t:TypeId}{v wk:Value}{L:Nat->Nat}{EL:bT}{W kb sb Rm:Nat}{S0:Nat->Prop}{w0:World}{PB:Nat->Prop}{wp:World}{S S1:Nat->Prop}{sv sv1:Value}{Hg Qi nr nv:Int}{st:jl}{w w1:World}{fl:Nat}{r:Value}{dom:Nat->Prop}{G:Gr}{rs:List Nat}{N:Nat}
def Hq(I:jW)(t:TypeId)(v wk:Value)(L:Nat->Nat)(EL:bT)(W kb sb Rm:Nat)(S0:Nat->Prop)(w0:World)(PB:Nat->Prop)(wp:World)(G:Gr)(rs:List Nat)(N:Nat)(st:jl)(m:Nat)(e:Ending)(w':World):Prop:=
 ∃(x:Nat) (is:Bool) (cur:jl),e= .returned (.tuple #[(x:Int),.bool is])/\Hid (ji I t v wk L EL W kb sb Rm S0 w0 PB wp cur w'/\tR G rs N Rm st cur (if is then [x] else [])/\(is=false->cur.xs=[])/\2*(N-cur.no)+cur.xs.length+(if is then 1 else 0)<=m)
theorem Gb(i:cY t v fl r I dom)(f:CE EL kb sb w0.heap.size S0){cur:jl}(h:lq I t v wk L EL W kb sb Rm S0 w0 PB wp S sv Hg nr nv cur w)(b:tR G rs N Rm st cur [])(c:Rm<=4096)(m:Nat)(o:2*(N-cur.no)+cur.xs.length<=m):
  Calls prog 229 #[sb] w (Hq I t v wk L EL W kb sb Rm S0 w0 PB wp G rs N st m):=by
 rcases List.eq_nil_or_concat cur.xs with e|⟨ys,x,e⟩
 ·have a:=h.stk;rw [e] at a;refine (Dn sb sv Rm Hg cur.lost w a).mono ?_;rintro d w' ⟨rfl,rfl⟩;exact ⟨0,false,cur,rfl,⟨_,_,_,_,_,h⟩,b,fun _=>e,by grind⟩
 ·rw [List.concat_eq_append] at e;have a:=h.stk;rw [e,dd] at a;have g:=b.inv.rm;rw [e,aU,be] at g;refine (Dm sb sv (ys.map Int.ofNat) (x:Int) Rm Hg cur.lost w a (by grind)).mono ?_;rintro d w' ⟨rfl,n,j,l,p⟩;refine ⟨x,true,{cur with xs:=ys},rfl,h.stk_ i f j (l.mono (fun k a=> .inl (.inl a))) (fun k a=> .inl (by grind)),b.pop e,(fun h=>by cases h),?_⟩
  grind
theorem DZ(P:Nat->Prop):∀m,P m->∃m,P m/\∀k,P k->m<=k:=by
 intro m
 induction m using Nat.strongRecOn with
 |ind m ih=>
  grind
open Classical in
noncomputable def jD(P:Nat->Prop):Nat:=if h:∃m,P m then Classical.choose (DZ P _ (lx h)) else 0
theorem fp{P:Nat->Prop}{m:Nat}(h:P m):P (jD P)/\jD P<=m:=by
 have a:∃m,P m:=⟨m,h⟩;unfold jD
 grind
def JD(I:jW)(t:TypeId)(v wk:Value)(L:Nat->Nat)(EL:bT)(W kb sb Rm:Nat)(S0:Nat->Prop)(w0:World)(PB:Nat->Prop)(wp:World)(G:Gr)(rs:List Nat)(N:Nat)(st:jl)(p q:Value)(w':World)(m:Nat):Prop:=
 ∃(x:Nat) (is:Bool) (cur:jl),p= .int .i64 x/\q= .bool is/\(ji I t v wk L EL W kb sb Rm S0 w0 PB wp cur w'/\tR G rs N Rm st cur (if is then [x] else [])/\(is=false->cur.xs=[])/\2*(N-cur.no)+cur.xs.length+(if is then 1 else 0)<=m)
def He(I:jW)(t:TypeId)(v wk:Value)(L:Nat->Nat)(EL:bT)(W kb sb Rm:Nat)(S0:Nat->Prop)(w0:World)(PB:Nat->Prop)(wp:World)(G:Gr)(rs:List Nat)(N:Nat)(st:jl)(e:Ending)(w':World):Prop:=
 e= .returned (.tuple #[])/\∃cur:jl,ji I t v wk L EL W kb sb Rm S0 w0 PB wp cur w'/\tR G rs N Rm st cur []/\cur.xs=[]
theorem yc(hs:cY t v fl r I dom)(U:CE EL kb sb w0.heap.size S0)(H:gd G rs N)(hW:N<=W)(hO:∀a,G.size a≠0->jJ L dom G a)(h:ji I t v wk L EL W kb sb Rm S0 w0 PB wp st w)(hI:kh G rs N Rm st)(b:Rm<=4096):
  Calls prog 200 #[kb] w (He I t v wk L EL W kb sb Rm S0 w0 PB wp G rs N st):=by
 have n:=ae (fun w1 S sv Hg nr nv cur m (d:lq I t v wk L EL W kb sb Rm S0 w0 PB wp S sv Hg nr nv cur w1) (c:tR G rs N Rm st cur []) (J:2*(N-cur.no)+cur.xs.length<=m)=>Gb hs U d c b m J);have O:=ae (fun w1 cur x (d:ji I t v wk L EL W kb sb Rm S0 w0 PB wp cur w1) (c:tR G rs N Rm st cur [x])=>(ru hs U H hW hO d c.inv x (c.pd x (by simp)) b).mono (fun e w2 ⟨R,T⟩=>(⟨R,T,(c.visit H).1,(c.visit H).2⟩:e=Ending.returned (.tuple #[])/\ji I t v wk L EL W kb sb Rm S0 w0 PB wp (ga G Rm cur x) w2/\tR G rs N Rm st (ga G Rm cur x) []/\(ga G Rm cur x).xs.length+cur.no<=cur.xs.length+(ga G Rm cur x).no/\cur.no<=(ga G Rm cur x).no)));have f:∀w' cur,ji I t v wk L EL W kb sb Rm S0 w0 PB wp cur w'->tR G rs N Rm st cur []->cur.xs=[]->He I t v wk L EL W kb sb Rm S0 w0 PB wp G rs N st (.returned (.tuple #[])) w':=fun w' cur R T h3=>⟨rfl,cur,R,T,h3⟩
 have j:=ae f;generalize (He I t v wk L EL W kb sb Rm S0 w0 PB wp G rs N st)=Q at*;obtain ⟨S,sv,Hg,nr,nv,X⟩:=h;have k2:=X.Qd.cell 2 rfl;obtain ⟨M,hM⟩:∃M,2*(N-st.no)+st.xs.length=M:=⟨_,rfl⟩;have k:=ae (n.out _ _ _ _ _ _ _ M X (tR.start hI) (by omega));unfold Hq at*;clear hs U H hW hO hI b X f hM
 go_enter func200,ntmps200
 go_wp2_with fail
 refine k.out.mono ?_;rintro e w1 ⟨x0,E,u,rfl,z⟩;have D:JD I t v wk L EL W kb sb Rm S0 w0 PB wp G rs N st (.int .i64 x0) (.bool E) w1 M:=⟨x0,E,u,rfl,rfl,z.out⟩;have o:=ae D;clear k k2 z D;go_wp2
 go_loopw [2,3] (fun p q wr=>∃m,Hid (JD I t v wk L EL W kb sb Rm S0 w0 PB wp G rs N st p q wr m)) (fun p q wr=>jD (JD I t v wk L EL W kb sb Rm S0 w0 PB wp G rs N st p q wr))
 case atStart=>exact ⟨M,o⟩
 case round=>
  clear o;obtain ⟨m,J⟩:=hrel;obtain ⟨hr,_⟩:=fp J.out;clear J;generalize C:jD (JD I t v wk L EL W kb sb Rm S0 w0 PB wp G rs N st _ _ _)=m0 at hr;obtain ⟨x,is,cur,rfl,rfl,d,c,hx,i⟩:=hr;have K:=ae C;clear C
  cases is with
  |false=>
   have HQ:=ae (j.out _ _ d c (hx rfl));clear d c hx i;go_wp2;go_end0;exact HQ.out
  |true=>
   rw [if_pos rfl] at c i;have HV:=ae (O.out _ _ _ d c);clear d c hx;go_wp2_with fail
   refine HV.out.mono ?_;rintro e w2 ⟨rfl,V,g,Y,ad⟩;have B:=g.inv.small;obtain ⟨S2,aj,high2,ag,ah,P⟩:=V;have k2:=P.Qd.cell 2 rfl;have l:=ae (n.out _ _ _ _ _ _ _ (m0-1) P g (by omega));have Z:m0-1<m0:=by omega
   clear P g Y ad B HV i;go_wp2_with fail
   refine l.out.mono ?_;rintro e w3 ⟨x3,F,y,rfl,A⟩;have s:=ae (show JD I t v wk L EL W kb sb Rm S0 w0 PB wp G rs N st (.int .i64 x3) (.bool F) w3 (m0-1) from ⟨x3,F,y,rfl,rfl,A.out⟩);clear l k2 A;go_wp2;go_roundw
   case rel=>exact ⟨m0-1,s⟩
   case measure=>exact bx (fp s.out).2 (by rw [K.out];exact Z)
end
def jR(l:List (Nat×Nat)):List Value:=l.map fun x=> .int .i64 (x.1:Int)
theorem ro(E:Nat->Nat)(W:Nat):(cj E W).length<=W:=by
 grind [cj,dy]
def E6(E:Nat->Nat)(W:Nat)(w:World)(e:Ending)(w':World):Prop:=
 ∃v,e= .returned v/\w'.ownsRow (w.heap.size+2) 3 1 v (cj E W).length (jR (cj E W))/\J7 w w'
def IR(L:bT)(W:Nat)(E:Nat->Nat)(tb c:Nat)(pre:List (Nat×Nat))(S:Nat->Prop)(W':World):Prop:=
 ∃sl,S=(fun k=>k=c\/sl.ownBlock=some k)/\sN L tb W E W'/\ay W' c [sl] 65/\W'.ownsRow (tb+1) 3 1 sl pre.length (jR pre)
theorem IR.stays{L:bT}{W:Nat}{E:Nat->Nat}{tb c B:Nat}(g:∀k,L.has k->k<B)(e:tb<B)(f:ch<B):gm B (IR L W E tb c):=by
 rintro j S W1 q T ⟨sl,rfl,⟨l,m,n⟩,o,p⟩ hf d;have a:∀i,i<B->¬T i:=fun i r h=>by grind
 exact ⟨sl,rfl,⟨l.frame hf (fun k b=>a k (g k b)),aE m hf (a _ f),n.frame hf (a _ e)⟩,o.frame hf (fun h=>(d _ h).2 (.inl rfl)),dL p hf (fun k b h=>(d _ h).2 (.inr b))⟩
section
attribute [local go_sem] Oper.semAt_some
theorem xV(d:Nat){w:World}{kb:Nat}{L:bT}{W:Nat}{E:Nat->Nat}(a:w.cell? ⟨kb,1,none⟩=some L.m)(h:eo w L W E)(hT:ee w):CallsIn Fence.wide d prog 203 #[kb] w (E6 E W w):=by
 refine callsIn_of_wp_marks func203 rfl trivial ?_ rfl;simp only [ntmps203,du,bG,cB,Nat.reduceAdd,Nat.reduceSub,cK,cJ,dv,cU,dz,dH];obtain ⟨aA,an⟩:=h.small;have HX:=ae h;have HT:=ae hT;obtain ⟨i0,hi,ar,av,ax⟩:=info_parts jE;have Z:∀o,(w.alloc o).cell? ⟨kb,1,none⟩=some L.m:=fun o=>by
  have hf:J7 w (w.alloc o):=(Kb _ w).alloc o;exact (World.cell?_of_block (w:=w) (hf.block _ (bu a) id)).trans a
 have aB:=bu a;clear h hT;obtain ⟨f,p⟩:∃f,w.alloc (.cells #[.slice none 0 0] 65)=f:=⟨_,rfl⟩;have A:J7 w f:=by rw [<-p];exact (Kb _ w).alloc _
 have z:ay f w.heap.size [.slice none 0 0] 65:=by rw [<-p];exact ay.new w _ _
 have r:f.heap.size=w.heap.size+1:=by rw [<-p];exact aY _
 have HA:=ae (jH L.m f);have ao:f.cell? ⟨kb,1,none⟩=some L.m:=by rw [<-p];exact Z _
 have V:=ae (af A (af z r));clear A z r a Z;gi_wp2;clear p ao;refine dZ (HA.out.mono ?_);rintro e U ⟨rfl,C⟩;have u:J7 f U:=by rw [C];exact (Kb _ f).alloc _
 have ak:ay U f.heap.size [L.m] 165:=by rw [C];exact ay.new f _ _
 have am:U.heap.size=f.heap.size+1:=by rw [C];exact aY _
 obtain ⟨A,z,r⟩:=V.out;have y:J7 w U:=A.trans u J8;have al:ch<w.heap.size:=bu (HT.out 0 0 rfl);have O:IR L W E f.heap.size w.heap.size [] (fun k=>k=w.heap.size\/(Value.slice none 0 0).ownBlock=some k) U:=⟨_,rfl,⟨HX.out.frame y (fun _ _ h=>h),aE HT.out y id,ak⟩,z.frame u id,World.ownsRow_nil _ _ _ _⟩;have v:gm U.heap.size (IR L W E f.heap.size w.heap.size):=IR.stays (fun k a=>by have:=HX.out.lt k a;omega) (by omega) (by omega);have B:=ae (af y (af am (af r al)));clear C u ak z A V HA am r al y;gi_wp2;refine iU (gf:=161) (lb:= #[f.heap.size]) rfl (enters_of func161 (by kernel_rfl) rfl) (encs:=mX) (fun _=>rfl) (jI (L:=L) (tb:=f.heap.size) (E:=E) an) (IR L W E f.heap.size w.heap.size) _ v (fun _ _ _ h=>h.choose_spec.2.1) (fun k a=>by have:=B.out.2.1;have:=B.out.2.2.1;rcases a with h|h;omega;simp [Value.ownBlock] at h) O
  ?a1 ?assign ?body ?done
 case assign=>
  intro k x W K hK;unfold mX;gi_wp2;exact hK
 case body=>
  intro l b S x c hI J hf hs;obtain ⟨sl,rfl,T,I,N⟩:=hI;obtain ⟨s,n⟩:=x;have c0:=I.cell 0 rfl;have R:=B.out;have ap:b.length<1048576:=by
   have h1:=(aj.1 J).1;have h2:=ro E W;omega
  have HB:=ae (af T (af I N));have Q:=hf.size;clear hf hs J O v T I N;gi_wp2_with (gi_at_builtin;refine Hid.out ?_)
  unfold Hid;have P:J7 c (c.alloc (.cells #[(s:Int)] 3)):=(Kb _ c).alloc _;have M:ay (c.alloc (.cells #[(s:Int)] 3)) c.heap.size [(s:Int)] 3:=ay.new c _ _;have az:(c.alloc (.cells #[(s:Int)] 3)).heap.size=c.heap.size+1:=aY _;have ah:=dL HB.out.2.2 P (fun _ _ h=>h);refine wpListIn_append_own_at _ rfl _ _ 65 rfl (f.heap.size+1) 3 i0 _ 1 8 underlying65 hi ar av ax rfl (by decide) sl b.length (jR b) rfl ah ⟨c.heap.size,0,none⟩ 1 1 [(s:Int)] rfl rfl ?_ ?_ (by unfold maxLen;omega) (by omega) (by omega) ?_
  ·intro j u' hj;have:=M.cell j hj;rwa [show ((⟨c.heap.size,0,none⟩:Addr).add j)=⟨c.heap.size,j,none⟩ by unfold Addr.add;split<;>simp_all]
  ·intro u' aq;rw [dc.1 aq];rfl
  ·intro v' w3 H hg _ hv;obtain ⟨g,cap,rfl⟩:∃g cap,v'= .slice (some ⟨g,0,none⟩) (b.length+1) cap:=by
    rcases H.2 with ⟨_,h⟩|⟨g,cap,_,h,_⟩
    ·omega
    ·exact ⟨g,cap,h⟩
   obtain ⟨⟨T,q2,q3⟩,I,N⟩:=HB.out;have q:=fun k (a:sl.ownBlock=some k)=>N.lt k a
   have u:Fr (fun k=>sl.ownBlock=some k) c w3:=(P.mono (S':=fun k=>sl.ownBlock=some k) J8).trans (Fr.Xd hg) (fun i hi=> .inl hi);have F:=I.frame u (fun h=>by have:=(q _ h).1;omega);have c3:=F.cell 0 rfl;have f3:=F.free 0;have HE:Hid (∀w4,w4=w3.setCell w.heap.size (.slice (some g) (b.length+1) cap)->E9 (IR L W E f.heap.size w.heap.size) (b++[(s,n)]) (fun k=>k=w.heap.size\/sl.ownBlock=some k) c w4):=by
    show∀w4,_
    rintro w4 rfl;have G:Fr (fun k=>k=w.heap.size\/sl.ownBlock=some k) c (w3.setCell w.heap.size (.slice (some g) (b.length+1) cap)):=(u.mono (fun k a=> .inl (.inr a))).setCell w.heap.size (.inl (.inl rfl)) _;have aC:∀k,k<w.heap.size+2->k≠w.heap.size->(∀j,sl.ownBlock=some j->j≠k)->¬(k=w.heap.size\/sl.ownBlock=some k):=fun k _ h1 h2 h=>by
     rcases h with h|h
     ·exact h1 h
     ·exact h2 k h rfl
    refine ⟨_,⟨.slice (some g) (b.length+1) cap,rfl,⟨T.frame G ?_,aE q2 G ?_,q3.frame G ?_⟩,F.set 0 _,?_⟩,G,?_⟩
    ·rintro k a (h|h)
     ·have:=HX.out.lt k a;omega
     ·have:=HX.out.lt k a;have:=(q k h).1;omega
    ·rintro (h|h)
     ·have:=R.2.2.2;unfold ch at this;omega
     ·have:=R.2.2.2;have:=(q _ h).1;unfold ch at*;omega
    ·rintro (h|h)
     ·omega
     ·have:=(q _ h).1;omega
    ·rw [aU,show jR (b++[(s,n)])=jR b++[.int .i64 s] by simp [jR]];exact dL H ((Kb (fun k=>k=w.heap.size) w3).setCell w.heap.size (.inl rfl) _) (fun k a e=>by have:=(H.lt k a).1;omega)
    ·rintro k (h|h)
     ·exact .inl (.inl h)
     ·rcases hv with e|e
      ·exact .inl (.inr (by rw [<-e];exact h))
      ·rw [e] at h;simp only [aT] at h;exact .inr (by omega)
   clear P M az ah H hg hv T q2 q3 I N q u F HB c0 Q R ap;gi_wp2;exact HE.out _ rfl
 case done=>
  intro D S c hI hD ad ag hf hs;obtain ⟨sl,rfl,T,I,N⟩:=hI;have c0:=I.cell 0 rfl;have R:=B.out;have Q:=R.1.size;have Y:J7 w c:=R.1.trans hf (fun k a=> .inr (by
   rcases a with h|h
   ·omega
   ·simp [Value.ownBlock] at h))
  have HD:=ae hD;have hQ:E6 E W w (.returned sl) (c.putObj D (.deferred none)):=by
   have X:Fr (fun k=>k=D) c (c.putObj D (.deferred none)):=(Kb _ c).putObj _ _ (.inl rfl);refine ⟨sl,rfl,?_,Y.trans X (fun k a=> .inr (by omega))⟩;rw [<-show f.heap.size+1=w.heap.size+2 by omega];exact dL N X (fun k a e=>ag (.inr (by rw [<-e];exact a)))
  have HQ:=ae hQ;clear hf hs T I N R Q Y hQ O v hD ag ad;gi_wp2;refine ⟨by simp,.inl ⟨_,_,rfl,run_takeDeferred HD.out,?_⟩⟩;exact ⟨_,results_tmp (t:=2) rfl _ _ _,HQ.out⟩
end
structure tP(G:Gr)(rs:List Nat)(N Rm no0:Nat)(pend:Nat->Prop)(st:jl):Prop where
 inv:kh G rs N Rm st
 xs:st.xs=[]
 all:∀b,st.E b≠0->Cw G st.E b\/st.lost=true\/pend b
 lost:st.lost=true->no0<st.no
 le:no0<=st.no
section
variable{G:Gr}{rs:List Nat}{N Rm no0:Nat}{pend pend':Nat->Prop}{st st1 cur:jl}
theorem tP.go(h:tP G rs N Rm no0 pend st)(d:ln st st1)(hp:∀b,pend b->st1.E b≠0->pend' b\/Cw G st1.E b)(a:tR G rs N Rm st1 cur [])(m:cur.xs=[]):
  tP G rs N Rm no0 pend' cur/\∀b,st1.E b≠0->cur.E b≠0:=by
 refine ⟨⟨a.inv,m,fun b l=> ?_,fun e=> ?_,aH h.le (aH d.no a.no)⟩,a.mono⟩
 ·rcases a.all b l with c|c|c|c|⟨c,j⟩
  ·grind
  ·grind
  ·grind
  ·grind
  ·rcases d.new b c with g|g|g
   ·rcases h.all b g with f|f|f
    ·exact .inl (fun p hp i=>a.mono p (d.mono p (f p hp i)))
    ·exact .inr (.inl (a.lost (d.lost f)))
    ·rcases hp b f c with k|k
     ·grind
     ·exact .inl (fun p hp i=>a.mono p (k p hp i))
   ·grind
   ·exact .inr (.inl (a.lost g))
 ·have:=d.no;have:=a.no;have:=h.le;rcases a.Xt e with c|c
  ·rcases d.Xt c with j|j
   ·have:=h.lost j;omega
   ·omega
  ·omega
theorem tP.again(h:tP G rs N Rm no0 (fun _=>False) st){W:Nat}(f:N<=W)(c:gd G rs N):tP G rs N Rm st.no (fun b=>b∈(cj st.E W).map (·.1)) {st with lost:=false}:=
 ⟨⟨h.inv.marked,h.inv.no,h.inv.nw,h.inv.xs,h.inv.rm⟩,h.xs,fun b a=> .inr (.inr (bw.2 ⟨(b,st.E b),dG.2 ⟨by
  have d:=(h.inv.marked b a);have e:=c.top b (by grind)
  grind,a,rfl⟩,rfl⟩)),(fun h=>by cases h),ag _⟩
theorem tP.done(h:tP G rs N Rm no0 (fun _=>False) st)(f:st.lost=false)(e:∀a∈rs,a≠0->st.E a≠0)(a:Nat):st.E a≠0↔Reach G rs a:=
 yd h.inv.marked e (fun b d=>by
  rcases h.all b d with c|c|c
  ·exact c
  ·grind
  grind) a
end
section
variable{I:jW}{t:TypeId}{v wk:Value}{L:Nat->Nat}{EL:bT}{W kb sb Rm:Nat}{S0:Nat->Prop}{w0:World}{PB:Nat->Prop}{wp:World}{S S1:Nat->Prop}{sv sv1:Value}{Hg Qi nr nv:Int}{st:jl}{w w1:World}{fl:Nat}{r:Value}{dom:Nat->Prop}{G:Gr}{rs:List Nat}{N:Nat}
theorem lq.fresh_(b:cY t v fl r I dom)(h:lq I t v wk L EL W kb sb Rm S0 w0 PB wp S sv Hg nr nv st w)(hf:J7 w w1):lq I t v wk L EL W kb sb Rm S0 w0 PB wp S sv Hg nr nv st w1:=
 ⟨b.Qb h.sp hf,h.Qd.frame hf id,h.ext.frame hf (fun _ _ h=>h),h.stk.Qb hf id (fun _ _ h=>h),aE h.Qo hf id,h.s0,h.Zg,h.fr.trans hf J8,fun k a=>by
  obtain ⟨p1,p2,p3,p4,c⟩:=h.prot k a;have:=hf.size;exact ⟨p1,by omega,p3,p4,(hf.block k p2 id).trans c⟩⟩
theorem lq.protect(c:cY t v fl r I dom)(h:lq I t v wk L EL W kb sb Rm S0 w0 PB wp S sv Hg nr nv st w)(hf:J7 w w1){P:Nat->Prop}(e:∀g,P g->w.heap.size<=g/\g<w1.heap.size):lq I t v wk L EL W kb sb Rm S0 w0 P w1 S sv Hg nr nv st w1:=by
 have a:=h.fresh_ c hf;have f:=h.size;refine ⟨a.sp,a.Qd,a.ext,a.stk,a.Qo,a.s0,a.Zg,a.fr,fun k b=> ?_⟩;obtain ⟨i,d⟩:=e k b;exact ⟨by omega,d,fun b=>by have:=c.lt _ _ _ h.sp k b;omega,fun b=>by have:=h.svlt k b;omega,rfl⟩
theorem ji.unprotect(h:ji I t v wk L EL W kb sb Rm S0 w0 PB wp st w)(a:World):ji I t v wk L EL W kb sb Rm S0 w0 (fun _=>False) a st w:=by
 obtain ⟨S,sv,Hg,nr,nv,h⟩:=h;exact ⟨S,sv,Hg,nr,nv,h.sp,h.Qd,h.ext,h.stk,h.Qo,h.s0,h.Zg,h.fr,fun _ h=>h.elim⟩
end
def CW:jl:={E:=fun _=>0,xs:=[],lost:=false,no:=0,nw:=0}
section
variable{I:jW}{t:TypeId}{v wk:Value}{L:Nat->Nat}{EL:bT}{W kb sb Rm:Nat}{S0:Nat->Prop}{w0:World}{PB:Nat->Prop}{wp:World}{S S1:Nat->Prop}{sv sv1:Value}{Hg Qi nr nv:Int}{st:jl}{w w1:World}{fl:Nat}{r:Value}{dom:Nat->Prop}{G:Gr}{rs:List Nat}{N:Nat}
def Av(I:jW)(t:TypeId)(v wk:Value)(L:Nat->Nat)(EL:bT)(W kb sb Rm:Nat)(S0:Nat->Prop)(w0:World)(G:Gr)(rs:List Nat)(N:Nat)(e:Ending)(w':World):Prop:=
 e= .returned (.tuple #[])/\∃st:jl,ji I t v wk L EL W kb sb Rm S0 w0 (fun _=>False) w0 st w'/\kh G rs N Rm st/\∀a,st.E a≠0↔Reach G rs a
def JQ(I:jW)(t:TypeId)(v wk:Value)(L:Nat->Nat)(EL:bT)(W kb sb Rm:Nat)(S0:Nat->Prop)(w0:World)(G:Gr)(rs:List Nat)(N i:Nat)(w':World):Prop:=
 ∃st:jl,ji I t v wk L EL W kb sb Rm S0 w0 (fun _=>False) w0 st w'/\tP G rs N Rm 0 (fun _=>False) st/\∀(j a:Nat),j<i->rs[j]? =some a->a≠0->st.E a≠0
def Jr(I:jW)(t:TypeId)(v wk:Value)(L:Nat->Nat)(EL:bT)(W kb sb Rm:Nat)(S0:Nat->Prop)(w0:World)(G:Gr)(rs:List Nat)(N:Nat)(w':World)(m:Nat):Prop:=
 ∃(st:jl) (n0:Nat),ji I t v wk L EL W kb sb Rm S0 w0 (fun _=>False) w0 st w'/\tP G rs N Rm n0 (fun _=>False) st/\(∀a∈rs,a≠0->st.E a≠0)/\2*(N-st.no)+(if st.lost then 1 else 0)<=m
def I6(I:jW)(t:TypeId)(v wk:Value)(L:Nat->Nat)(EL:bT)(W kb sb Rm:Nat)(S0:Nat->Prop)(w0:World)(PB:Nat->Prop)(wp:World)(G:Gr)(rs:List Nat)(N n0:Nat)(l:List (Nat×Nat))(i:Nat)(w':World):Prop:=
 ∃st:jl,ji I t v wk L EL W kb sb Rm S0 w0 PB wp st w'/\tP G rs N Rm n0 (fun b=>b∈(l.drop i).map (·.1)) st/\(∀a∈rs,a≠0->st.E a≠0)/\(∀x∈l,st.E x.1≠0)
theorem I6.close{PB:Nat->Prop}{n0 c:Nat}{l:List (Nat×Nat)}{i:Nat}(h:I6 I t v wk L EL W kb sb Rm S0 w0 PB wp G rs N n0 l i w)(n:i=l.length)(o:2*(N-n0)+1<=c):∃m,m<c/\Jr I t v wk L EL W kb sb Rm S0 w0 G rs N w m:=by
 obtain ⟨st,d,a,e,_⟩:=h;have f:tP G rs N Rm n0 (fun _=>False) st:=⟨a.inv,a.xs,fun b g=>by
  rcases a.all b g with h|h|h
  ·grind
  ·grind
  grind,a.lost,a.le⟩
 have j:=a.inv.small;have k:=a.le;refine ⟨2*(N-st.no)+(if st.lost then 1 else 0),?_,st,n0,d.unprotect w0,f,e,ag _⟩
 cases hl:st.lost with
 |false=>grind
 |true=>have:=a.lost hl;grind
theorem DN(hs:cY t v fl r I dom)(hS:CE EL kb sb w0.heap.size S0)(hG:gd G rs N)(hW:N<=W)(hO:∀a,G.size a≠0->jJ L dom G a)(h:ji I t v wk L EL W kb sb Rm S0 w0 (fun _=>False) w0 CW w)(y:Rm<=4096)
  (Z rc:Nat) (A:Z<w0.heap.size/\¬S0 Z/\¬EL.has Z/\Z≠kb/\Z≠sb) (bn:∀(i a:Nat),rs[i]? =some a->w0.cell? ⟨Z,i,none⟩=some (a:Int)) (bZ:rs.length<=1048576):
  Calls prog 174 #[kb,.slice (some Z) rs.length rc] w (Av I t v wk L EL W kb sb Rm S0 w0 G rs N):=by
 have z:∀a,a∈rs->a≠0->Reach G rs a:=fun a n Y=> .root n Y
 have a4:=ae (fun (i:Nat) w1 (a:Nat) c (o:rs[i]? =some a) (d:ji I t v wk L EL W kb sb Rm S0 w0 (fun _=>False) w0 c w1) (f:tP G rs N Rm 0 (fun _=>False) c)=>by
  have b0:=f.inv.small;have bN:N<=1048576:=by obtain ⟨_,_,_,_,_,H⟩:=d;have:=H.ext.small.2;omega
  exact tg hs hS hG hW hO d f.inv.marked a (fun K=>z a (ar o) K) (by omega) (by omega) y)
 have aG:=ae (fun PB wp w1 c (d:ji I t v wk L EL W kb sb Rm S0 w0 PB wp c w1) (o:kh G rs N Rm c)=>yc hs hS hG hW hO d o y);have bv:=ae (fun PB wp w1 c a (d:ji I t v wk L EL W kb sb Rm S0 w0 PB wp c w1) (o:kh G rs N Rm c) (T:Reach G rs a)=>ru hs hS hG hW hO d o a T y);have aU:=ae (fun (i a:Nat) c (o:rs[i]? =some a) (f:tP G rs N Rm 0 (fun _=>False) c)=>rv (Rm:=Rm) hG f.inv (fun K=>z a (ar o) K));have aW:=ae (fun (l:List (Nat×Nat)) (i:Nat) x n0 c (o:l[i]? =some x) (f:tP G rs N Rm n0 (fun b=>b∈(l.drop i).map (·.1)) c) (U:∀x∈l,c.E x.1≠0)=>af (f.inv.marked _ (U x (ar o))).1 (pB (Rm:=Rm) hG f.inv (f.inv.marked _ (U x (ar o))).1).1);have aX:=ae (fun (i a:Nat) w2 c (o:rs[i]? =some a) (f:tP G rs N Rm 0 (fun _=>False) c) (hj:∀(j a:Nat),j<i->rs[j]? =some a->a≠0->c.E a≠0) cur (d:ji I t v wk L EL W kb sb Rm S0 w0 (fun _=>False) w0 cur w2) (H:tR G rs N Rm (ez G Rm c a) cur []) (B:cur.xs=[])=>by
  have n:=qo (G:=G) (Rm:=Rm) c a (fun K=>hG.reach (z a (ar o) K));obtain ⟨u,q⟩:=f.go n.1 (fun b d _=>d.elim) H B;exact (show JQ I t v wk L EL W kb sb Rm S0 w0 G rs N (i+1) w2 from ⟨cur,d,u,fun j b bS F K=>by
   rcases aN j i with h|h
   ·exact q _ (n.1.mono _ (hj j b h F K))
   ·have:j=i:=by omega
    subst this;rw [o] at F;simp only [aT] at F;subst F;exact q _ (n.2 K)⟩))
 have aY:=ae (fun (PB:Nat->Prop) (wp:World) n0 (l:List (Nat×Nat)) (i:Nat) x w2 c (o:l[i]? =some x) (f:tP G rs N Rm n0 (fun b=>b∈(l.drop i).map (·.1)) c) (bG:∀a∈rs,a≠0->c.E a≠0) (U:∀x∈l,c.E x.1≠0) cur (d:ji I t v wk L EL W kb sb Rm S0 w0 PB wp cur w2) (H:tR G rs N Rm (ga G Rm c x.1) cur []) (B:cur.xs=[])=>by
  have bH:=U x (ar o);have n:=pB (Rm:=Rm) hG f.inv (f.inv.marked _ bH).1;have bB:l.drop i=x::l.drop (i+1):=(aj.1 o).2▸(dn (aj.1 o).1);obtain ⟨u,q⟩:=f.go (pend':=fun b=>b∈(l.drop (i+1)).map (·.1)) n.2.1 (fun b d _=>by
   rw [bB,gD] at d;rcases cG.1 d with e|e
   ·rw [e];exact .inr n.2.2
   ·exact .inl e) H B
  exact (show I6 I t v wk L EL W kb sb Rm S0 w0 PB wp G rs N n0 l (i+1) w2 from ⟨cur,d,u,fun a T K=>q _ (n.2.1.mono _ (bG a T K)),fun x B=>q _ (n.2.1.mono _ (U x B))⟩))
 have a8:∀wr c,ji I t v wk L EL W kb sb Rm S0 w0 (fun _=>False) w0 c wr->∀(i a:Nat),rs[i]? =some a->wr.cell? ⟨Z,i,none⟩=some (a:Int):=by
  intro wr c d i a o;obtain ⟨_,_,_,_,_,H⟩:=d;exact (World.cell?_of_block (w:=w0) (w':=wr) (a:=⟨Z,i,none⟩) (H.fr.block Z A.1 (fun h=>by
   rcases h with h|h|h|h|h
   ·exact A.2.1 h
   ·exact A.2.2.1 h
   ·exact A.2.2.2.1 h
   ·exact A.2.2.2.2 h
   ·have:=A.1;omega))).trans (bn i a o)
 have a3:=ae a8;clear a8;have an:=ae (fun PB wp w1 w2 S sv Hg nr nv c nr1 (d:lq I t v wk L EL W kb sb Rm S0 w0 PB wp S sv Hg nr nv c w1) he hf=>d.Yy (w1:=w2) (no:=c.no) (nw:=c.nw) (nr1:=nr1) (nv1:=nv) hs hS he hf);have aP:=ae (fun w1 S sv Hg nr nv c (d:lq I t v wk L EL W kb sb Rm S0 w0 (fun _=>False) w0 S sv Hg nr nv c w1)=>Bx sb sv _ Rm Hg c.lost w1 d.stk);have aO:=ae (fun w1 S sv Hg nr nv c (d:lq I t v wk L EL W kb sb Rm S0 w0 (fun _=>False) w0 S sv Hg nr nv c w1)=>(yG sb sv _ Rm Hg c.lost w1 d.stk).mono (fun e w2 ⟨u,q,C⟩=>(⟨u,d.stk_ hs hS (xs:=c.xs) q (C.mono (fun k hk=> .inl (.inl hk))) (fun k hk=> .inl hk)⟩:e=Ending.returned (.tuple #[])/\ji I t v wk L EL W kb sb Rm S0 w0 (fun _=>False) w0 {c with lost:=false} w2)));have ak:=ae (fun w1 S sv Hg nr nv c (d:lq I t v wk L EL W kb sb Rm S0 w0 (fun _=>False) w0 S sv Hg nr nv c w1)=>callsIn_wide.1 (xV 0 (d.Qd.cell 1 rfl) d.ext d.Qo));have a0:=ae (fun w1 w2 S sv Hg nr nv c (P:Nat->Prop) (d:lq I t v wk L EL W kb sb Rm S0 w0 (fun _=>False) w0 S sv Hg nr nv c w1) (hf:J7 w1 w2) (hP:∀g,P g->w1.heap.size<=g/\g<w2.heap.size)=>d.protect hs hf hP);have ax:=ae (fun n0 c (f:tP G rs N Rm n0 (fun _=>False) c)=>f.again hW hG);have al:∀w' st n0,ji I t v wk L EL W kb sb Rm S0 w0 (fun _=>False) w0 st w'->tP G rs N Rm n0 (fun _=>False) st->(∀a∈rs,a≠0->st.E a≠0)->st.lost=false->Av I t v wk L EL W kb sb Rm S0 w0 G rs N (.returned (.tuple #[])) w':=fun w' st n0 n Y h3 h4=>⟨rfl,st,n,Y.inv,fun a=>Y.done h4 h3 a⟩
 have aH:=ae al;generalize (Av I t v wk L EL W kb sb Rm S0 w0 G rs N)=Q at*;have bl:tP G rs N Rm 0 (fun _=>False) CW:=⟨⟨fz.none G rs,by
  show 0=Qc _ 0 N
  exact (bP (fun i _ _=>rfl)).symm,by
  show 0=Qc _ 0 N
  exact (bP (fun i _ _=>by rw [bt];intro hh;obtain ⟨s,n,Y⟩:=cE.1 hh;simp only [CW] at Y;omega)).symm,fun x B=>absurd B (bF),ao _⟩,rfl,fun b d=>absurd rfl d,(fun h=>by cases h),ag _⟩
 obtain ⟨S,sv,Hg,nr,nv,H⟩:=h;have k6:=H.Qd.cell 6 rfl;have f6:=H.Qd.free 6;have HX:Hid (∀w8,w8=w.setCell ⟨kb,6,none⟩ (.int .i64 1)->JQ I t v wk L EL W kb sb Rm S0 w0 G rs N 0 w8):=by
  show∀w8,_
  rintro w8 rfl;exact ⟨CW,⟨_,_,_,_,_,an.out _ _ _ _ _ _ _ _ _ _ 1 H (H.Qd.set 6 (.int .i64 1)) ((Kb (fun k=>k=kb) w).setCell ⟨kb,6,none⟩ (.inl rfl) _)⟩,bl,fun j a hj=>by omega⟩
 clear hs hS hG hW hO y A bn z al bl H;unfold qa He at*
 go_enter func174,ntmps174
 go_upto_region 1 with fail
 have a7:=ae (HX.out _ rfl);generalize w.setCell ⟨kb,6,none⟩ (.int .i64 1)=w1 at*;clear HX k6 f6;go_wp2
 go_loopw [14] (fun x wr=>∃(i:Nat),x= .int .i64 i/\i<=rs.length/\Hid (JQ I t v wk L EL W kb sb Rm S0 w0 G rs N i wr)) (fun x _=>(rs.length-intOf x).toNat)
 case atStart=>exact ⟨0,rfl,by omega,a7⟩
 case round=>
  clear a7;obtain ⟨i,rfl,n,f⟩:=hrel;by_cases V:i<rs.length
  ·have be:(i:Int)<(rs.length:Int):=by omega
   obtain ⟨a,T⟩:∃a,rs[i]? =some a:=⟨_,aC V⟩;obtain ⟨c,u,q,C⟩:=f.out;have ck:=a3.out wr c u i a T;have a1:=ae (a4.out i wr a c T u q);have HN:=ae (fun w4 cur=>aX.out i a w4 c T q C cur);have O:=ae (aU.out i a c T q);clear f u q C T;go_wp2_with fail
   refine a1.out.mono ?_;rintro e w3 ⟨rfl,a9⟩;have D:=ae (aG.out _ _ _ _ a9 O.out);clear a9 a1 ck O;go_wp2_with fail
   refine D.out.mono ?_;rintro e w4 ⟨rfl,cur,b1,b2,b3⟩;have bq:=ae (HN.out w4 cur b1 b2 b3);clear b1 b2 b3 D HN;go_wp2;go_roundw
   case rel=>exact ⟨i+1,by go_num,by omega,bq⟩
   case measure=>simp [intOf];omega
  ·have bk:¬(i:Int)<(rs.length:Int):=by omega
   have bD:i=rs.length:=by omega
   obtain ⟨M,hM⟩:∃M,Hid (Jr I t v wk L EL W kb sb Rm S0 w0 G rs N wr M):=by
    obtain ⟨c,u,q,C⟩:=f.out;exact ⟨_,⟨c,0,u,q,fun a T K=>by
     obtain ⟨j,hj,e⟩:=List.getElem_of_mem T;exact C j a (by omega) (by rw [<-e];exact aC hj) K,ag _⟩⟩
   clear f n V bD aX a4 a3;go_wp2
   go_loopw [] (fun wr=>∃m,Hid (Jr I t v wk L EL W kb sb Rm S0 w0 G rs N wr m)) (fun wr=>jD (Jr I t v wk L EL W kb sb Rm S0 w0 G rs N wr))
   case atStart=>exact ⟨M,hM⟩
   case round=>
    clear hM bk;obtain ⟨m,hm⟩:=hrel;obtain ⟨f,_⟩:=fp hm.out;clear hm;generalize bg:jD (Jr I t v wk L EL W kb sb Rm S0 w0 G rs N _)=m0 at f;have aS:=ae bg;clear bg;obtain ⟨c,n0,u,q,C,q4⟩:=f;obtain ⟨S1,sv1,Qi,nr1,nv1,Xg⟩:=id u;have k2:=Xg.Qd.cell 2 rfl;have R:=ae (aP.out _ _ _ _ _ _ _ Xg)
    cases hls:c.lost with
    |false=>
     have HQ:=ae (aH.out _ _ _ u q C hls);rw [hls] at R;clear u q C q4 Xg hls aS;go_wp2_with fail
     refine R.out.mono ?_;rintro e w2 ⟨rfl,rfl⟩;go_wp2;go_end0;exact HQ.out
    |true=>
     have aI:=ae (aO.out _ _ _ _ _ _ _ Xg);have am:=ae (af (ax.out _ _ q) C);have bi:2*(N-c.no)+1<=m0:=by rwa [hls,if_pos rfl] at q4
     rw [hls] at R;clear u q C q4 Xg hls;go_wp2_with fail
     refine R.out.mono ?_;rintro e w2 ⟨rfl,rfl⟩;go_wp2_with fail
     refine aI.out.mono ?_;rintro e w2 ⟨rfl,F⟩;obtain ⟨S2,bL,high2,aq,bK,Xl⟩:=F;have k6:=Xl.Qd.cell 6 rfl;have f6:=Xl.Qd.free 6;have HX:Hid (∀x w8,w8=w2.setCell ⟨kb,6,none⟩ (.int .i64 x)->lq I t v wk L EL W kb sb Rm S0 w0 (fun _=>False) w0 S2 bL high2 x bK {c with lost:=false} w8):=by
      show∀x w8,_
      rintro x w8 rfl;exact an.out _ _ _ _ _ _ _ _ _ _ x Xl (Xl.Qd.set 6 (.int .i64 x)) ((Kb (fun k=>k=kb) w2).setCell ⟨kb,6,none⟩ (.inl rfl) _)
     clear Xl aI R k2
     go_upto_region 10 with fail
     have uz:=HX.out (wrap64 (aq+1)) _ rfl;generalize w2.setCell ⟨kb,6,none⟩ (.int .i64 (wrap64 (aq+1)))=w3 at*;generalize wrap64 (aq+1)=nr3 at*;clear HX k6 f6;have a5:=ae (ak.out _ _ _ _ _ _ _ uz);have D:=ae uz;clear uz;go_wp2_with fail
     refine a5.out.mono ?_;rintro e w4 ⟨sl,rfl,ho,hf⟩;obtain ⟨l,U⟩:∃l,l=cj c.E W:=⟨_,rfl⟩;have bX:l.length<=1048576:=by
      have n:=ro c.E W;obtain ⟨_,Y⟩:=D.out.ext.small;rw [U];omega
     have bd:∀x∈l,c.E x.1≠0:=fun x B=>by rw [U] at B;exact (dG.1 B).2.1
     have X:w4.ownsRow (w3.heap.size+2) 3 1 sl l.length (jR l):=by rw [U];exact ho
     have hA:=am.out.1;rw [<-U] at hA;clear ho U;obtain ⟨p,cap,ap⟩:∃p cap,sl= .slice p l.length cap:=by
      rcases X.2 with ⟨n,Y⟩|⟨g,cap,cur,n,_⟩
      ·exact ⟨none,0,by rw [n,Y]⟩
      ·exact ⟨_,cap,n⟩
     have bb:=a0.out _ _ _ _ _ _ _ _ (fun k=>sl.ownBlock=some k) D.out hf (fun g hg=>by have:=X.lt g hg;omega);have az:Hid (∀wr J,ji I t v wk L EL W kb sb Rm S0 w0 (fun k=>sl.ownBlock=some k) w4 J wr->∀(i:Nat) x,l[i]? =some x->∃g,p=some ⟨g,0,none⟩/\wr.cell? ⟨g,i,none⟩=some (.int .i64 (x.1:Int))):=by
      show∀wr J,_
      rintro wr J ⟨_,_,_,_,_,bC⟩ i x o;have bO:=(aj.1 o).1;rcases X.2 with ⟨n,Y⟩|⟨g,bM,cur,n,_⟩
      ·omega
      ·have hp:p=some ⟨g,0,none⟩:=by rw [n] at ap;cases ap;rfl
       refine ⟨g,hp,?_⟩;have bE:=(bC.prot g (by rw [n];rfl)).2.2.2.2;have hc:=X;rw [n] at hc;have bw:=hc.cellAt i (by omega);rw [(World.cell?_of_block (w:=w4) (w':=wr) (a:=⟨g,i,none⟩) bE),bw];unfold jR;rw [aR,o];rfl
     have av:Hid (I6 I t v wk L EL W kb sb Rm S0 w0 (fun k=>sl.ownBlock=some k) w4 G rs N c.no l 0 w4):=⟨{c with lost:=false},⟨_,_,_,_,_,bb⟩,hA,am.out.2,bd⟩;have aA:=ae (fun i wr (h:I6 I t v wk L EL W kb sb Rm S0 w0 (fun k=>sl.ownBlock=some k) w4 G rs N c.no l i wr) o=>h.close o bi);have ad:=ae (aY.out (fun k=>sl.ownBlock=some k) w4 c.no l);have ah:=ae (aW.out l);generalize (fun k=>sl.ownBlock=some k)=PB at*;generalize c.no=n1 at*;clear bb hA bd X hf D am a5 bi aY aW ax a0 ak aO aP an aU;subst ap;go_wp2
     go_loopw [46] (fun x wr=>∃(i:Nat),x= .int .i64 i/\i<=l.length/\Hid (I6 I t v wk L EL W kb sb Rm S0 w0 PB w4 G rs N n1 l i wr)) (fun x _=>(l.length-intOf x).toNat)
     case atStart=>exact ⟨0,rfl,by omega,av⟩
     case round=>
      clear av;obtain ⟨j,rfl,n,f⟩:=hrel;by_cases V:j<l.length
      ·have be:(j:Int)<(l.length:Int):=by omega
       obtain ⟨x,B⟩:∃x,l[j]? =some x:=⟨_,aC V⟩;obtain ⟨J,u,q,C,q5⟩:=f.out;obtain ⟨g,hp,ck⟩:=az.out _ _ u j x B;obtain ⟨bo,bc⟩:=ah.out j x _ J B q q5;have a6:=ae (bv.out _ _ _ _ _ u q.inv bo);have O:=ae bc;have HN:=ae (fun w6 cur=>ad.out j x w6 J B q C q5 cur);clear f u q C q5 bo bc B;subst hp;go_wp2_with fail
       refine a6.out.mono ?_;rintro e w5 ⟨rfl,ba⟩;have aB:=ae (aG.out _ _ _ _ ba O.out);clear ba a6 ck O;go_wp2_with fail
       refine aB.out.mono ?_;rintro e w6 ⟨rfl,cur,b1,b2,b3⟩;have bs:=ae (HN.out w6 cur b1 b2 b3);clear b1 b2 b3 aB HN;go_wp2;go_roundw
       case rel=>exact ⟨j+1,by go_num,by omega,bs⟩
       case measure=>simp [intOf];omega
      ·have bk:¬(j:Int)<(l.length:Int):=by omega
       obtain ⟨m2,bj,bm⟩:=aA.out j _ f.out (by omega);have a2:=ae bm;clear f bm n V aA az ad ah;go_wp2;go_roundw
       case rel=>exact ⟨m2,a2⟩
       case measure=>exact bx (fp a2.out).2 (by first|exact bj|(rw [aS.out];exact bj))
end
section
variable{I:jW}{t:TypeId}{v wk:Value}{L:Nat->Nat}{EL:bT}{W kb sb Rm:Nat}{S0:Nat->Prop}{w0:World}{PB:Nat->Prop}{wp:World}{S S1:Nat->Prop}{sv sv1:Value}{Hg Qi nr nv:Int}{st:jl}{w w1:World}{fl:Nat}{r:Value}{dom:Nat->Prop}{G:Gr}{rs:List Nat}{N:Nat}
def Jt(I:jW)(t:TypeId)(v:Value)(L:Nat->Nat)(EL:bT)(W kb sb Rm:Nat)(S:Nat->Prop)(G:Gr)(rs:List Nat)(N:Nat)(w1 w2:World):Prop:=
 ∃(st:jl) (nr nv:Int) (wk:Value) (S':Nat->Prop),I L S' w2/\(∀k,S' k->S k\/w1.heap.size<=k)/\eo w2 EL W st.E/\ay w2 kb [.iface t v,EL.m,sb,wk,((st.no:Int):Int),((st.nw:Int):Int),(nr:Int),(nv:Int)] 247/\
  kh G rs N Rm st/\(∀a,st.E a≠0↔Reach G rs a)/\Fr (fun k=>S k\/EL.has k\/k=kb\/k=sb\/w1.heap.size<=k) w1 w2
theorem Bp(F:cY t v fl r I dom)(X:I L S w)(M:gd G rs N)(R:N<=W)(O:∀a,G.size a≠0->jJ L dom G a)(f:Rm<=4096)(o:CE EL kb sb w.heap.size S)
  (c:ay w kb [.iface t v,EL.m,sb,.pointer none,(0:Int),(0:Int),(0:Int),(0:Int)] 247) (V:eo w EL W (fun _=>0)) (Hg:Int) (u:uP w 266 sb (.slice none 0 0) [] Rm Hg false) (P:ee w)
  (g Y:Nat) (l:g<w.heap.size/\¬S g/\¬EL.has g/\g≠kb/\g≠sb) (q:∀(i a:Nat),rs[i]? =some a->w.cell? ⟨g,i,none⟩=some (a:Int)) (D:rs.length<=1048576)
  (b c1 c2:Nat) (y:ay w c1 [kb] 245) (z:ay w c2 [.slice (some g) rs.length Y] 65):
  Calls prog 173 #[b,c1,c2] w fun e w'=>e= .returned (.tuple #[])/\Jt I t v L EL W kb sb Rm S G rs N w w':=by
 have k3:=c.cell 3 rfl;have f3:=c.free 3;have e1:=y.cell 0 rfl;have e2:=z.cell 0 rfl;have p:c2≠kb:=fun e=>by subst e;have:=z.symm.trans c;simp at this
 have n:c1≠kb:=fun e=>by subst e;have:=y.symm.trans c;simp at this
 obtain ⟨W1,j⟩:∃W1,w.setCell ⟨kb,3,none⟩ (.pointer (some ⟨b,0,none⟩))=W1:=⟨_,rfl⟩;have hf:Fr (fun k=>k=kb) w W1:=by rw [<-j];exact (Kb (fun k=>k=kb) w).setCell ⟨kb,3,none⟩ (.inl rfl) _
 have x:W1.heap.size=w.heap.size:=by rw [<-j];exact World.size_setCell _ _ _
 have U:lq I t v (.pointer (some ⟨b,0,none⟩)) L EL W kb sb Rm S W1 (fun _=>False) W1 S (.slice none 0 0) Hg 0 0 CW W1:=
  ⟨F.stays _ _ _ _ _ X hf (fun k c e=>(o.s k c).2.1 e) (fun e=>o.d2 e.symm),by rw [<-j];exact c.set 3 _,V.frame hf (fun k c e=>(o.e k c).1 e),u.Qb hf (fun e=>o.d1 e.symm) (fun k c=>by simp [Value.ownBlock] at c),aE P hf (fun e=>o.d2 e.symm),fun k c=> .inl c,fun k c=>by simp [Value.ownBlock] at c,Kb _ _,fun _ h=>h.elim⟩
 have C:=ae (DN (w0:=W1) (w:=W1) F (by rw [x];exact o) M R O ⟨_,_,_,_,_,U⟩ f g Y (by rw [x];exact l) (fun i a ha=>(World.cell?_of_block (w:=w) (w':=W1) (a:=⟨g,i,none⟩) (hf.block g l.1 l.2.2.2.1)).trans (q i a ha)) D);have g1:=(y.frame hf n).cell 0 rfl;have g2:=(z.frame hf p).cell 0 rfl;have K:Hid (∀w' st,ji I t v (.pointer (some ⟨b,0,none⟩)) L EL W kb sb Rm S W1 (fun _=>False) W1 st w'->kh G rs N Rm st->(∀a,st.E a≠0↔Reach G rs a)->Jt I t v L EL W kb sb Rm S G rs N w w'):=by
  show∀w' st,_
  rintro w' st ⟨S',ad,Z,H,J,d⟩ A B;refine ⟨st,H,J,_,S',d.sp,fun k c=>by have:=d.s0 k c;rwa [x] at this,d.ext,d.Qd,A,B,(hf.mono (fun k c=> .inl (.inr (.inr (.inl c))))).trans d.fr (fun k c=> .inl ?_)⟩;unfold JY at c;rwa [x] at c
 generalize (Jt I t v L EL W kb sb Rm S G rs N w)=Q at*;unfold Av at C;clear F X M R O f o c V u P l q y z p n hf U x
 go_enter func173,ntmps173
 go_upto_region 1 with fail
 clear j k3 f3 e1 e2;go_wp2_with fail
 refine C.out.mono ?_;rintro e w2 ⟨rfl,st,T,A,B⟩;have hq:=K.out _ _ T A B;clear C K g1 g2 T A B;go_wp2;go_end0;exact ⟨rfl,hq⟩
def zj(I:jW)(L:Nat->Nat)(EL:bT)(W Rm:Nat)(S:Nat->Prop)(G:Gr)(rs:List Nat)(N:Nat)(w:World)(e:Ending)(w':World):Prop:=
 ∃(st:jl) (nr nv:Int) (S':Nat->Prop),e= .returned (.tuple #[.agg #[((st.no:Int):Int),((st.nw:Int):Int),(nr:Int),(nv:Int)],(0:Int)])/\I L S' w'/\(∀k,S' k->S k\/w.heap.size<=k)/\eo w' EL W st.E/\kh G rs N Rm st/\(∀a,st.E a≠0↔Reach G rs a)/\Fr (fun k=>S k\/EL.has k) w w'
theorem DS(D:cY t v fl r I dom)(E:ch<w.heap.size)(C:∀k,S k->k<w.heap.size)(B:∀k,EL.has k->k<w.heap.size){W5 W6:World}{c1:Nat}{e:Ending}
  (x:w.heap.size+2<=sb/\sb<kb/\kb<c1/\c1<W5.heap.size) (g:Fr EL.has w W5) (n:ay W5 c1 [kb] 245) (q:ay W5 (w.heap.size+1) [(0:Int),(0:Int),(0:Int),(0:Int)] 188)
  (h:pT W5 (Jt I t v L EL W kb sb Rm S G rs N) e W6):
  e= .returned (.agg #[(0:Int),(0:Int)])/\∃(st:jl) (nr nv:Int) (wk:Value),ay W6 c1 [kb] 245/\ay W6 kb [.iface t v,EL.m,sb,wk,((st.no:Int):Int),((st.nw:Int):Int),(nr:Int),(nv:Int)] 247/\ay W6 (w.heap.size+1) [(0:Int),(0:Int),(0:Int),(0:Int)] 188/\
   ∀f,J7 W6 f->∀i,i=f.setCells (w.heap.size+1) 0 [((st.no:Int):Int),((st.nw:Int):Int),(nr:Int),(nv:Int)]->ay i (w.heap.size+1) [((st.no:Int):Int),((st.nw:Int):Int),(nr:Int),(nv:Int)] 188/\zj I L EL W Rm S G rs N w (.returned (.tuple #[.agg #[((st.no:Int):Int),((st.nw:Int):Int),(nr:Int),(nv:Int)],(0:Int)])) i:=by
 obtain ⟨rfl,w1,w2,j,⟨st,nr,nv,wk,S',F,Q,H,J,K,M,l⟩,d⟩:=h;have R:=j.size;have T:=g.size;have U:=l.size;have u:∀k,k<W5.heap.size->(w.heap.size<=k)->k≠kb->k≠sb->¬(S k\/EL.has k\/k=kb\/k=sb\/w1.heap.size<=k):=fun k n O q P h=>by
  grind
 have c:∀k,k<W5.heap.size->¬(W5.heap.size<=k/\k<w1.heap.size):=fun k n h=>by omega
 have y:=((n.frame j id).frame l (u c1 x.2.2.2 (by omega) (by omega) (by omega))).frame d (c _ x.2.2.2);have z:=J.frame d (c _ (by omega));have p:=((q.frame j id).frame l (u _ (by omega) (by omega) (by omega) (by omega))).frame d (c _ (by omega));refine ⟨rfl,st,nr,nv,wk,y,z,p,?_⟩;rintro f a i rfl;have A:=p.frame a id;refine ⟨(((A.set 0 _).set 1 _).set 2 _).set 3 _,st,nr,nv,S',rfl,?_,fun k s=> ?_,?_,K,M,?_⟩
 ·have b:Fr (fun k=>(W5.heap.size<=k/\k<w1.heap.size)\/k=w.heap.size+1) w2 (f.setCells (w.heap.size+1) 0 [((st.no:Int):Int),((st.nw:Int):Int),(nr:Int),(nv:Int)]):=
   (((((d.mono (fun k h=> .inl (.inl h))).trans a J8).setCell ⟨w.heap.size+1,0,none⟩ (.inl (.inr rfl)) _).setCell ⟨w.heap.size+1,1,none⟩ (.inl (.inr rfl)) _).setCell ⟨w.heap.size+1,2,none⟩ (.inl (.inr rfl)) _).setCell ⟨w.heap.size+1,3,none⟩ (.inl (.inr rfl)) _
  refine D.stays _ _ _ _ _ F b (fun k s h=> ?_) (fun h=>by omega)
  grind
 ·grind
 ·have b:Fr (fun k=>(W5.heap.size<=k/\k<w1.heap.size)\/k=w.heap.size+1) w2 (f.setCells (w.heap.size+1) 0 [((st.no:Int):Int),((st.nw:Int):Int),(nr:Int),(nv:Int)]):=
   (((((d.mono (fun k h=> .inl (.inl h))).trans a J8).setCell ⟨w.heap.size+1,0,none⟩ (.inl (.inr rfl)) _).setCell ⟨w.heap.size+1,1,none⟩ (.inl (.inr rfl)) _).setCell ⟨w.heap.size+1,2,none⟩ (.inl (.inr rfl)) _).setCell ⟨w.heap.size+1,3,none⟩ (.inl (.inr rfl)) _
  exact H.frame b (fun k s h=>by grind)
 ·have o:=((((g.trans j J8).mono (S':=fun k=>S k\/EL.has k) (fun k h=> .inl (.inr h))).trans l (fun k h=>by
   grind)).trans d (fun k h=> .inr (by omega))).trans a J8
  exact (((o.setCell ⟨w.heap.size+1,0,none⟩ (.inr (fx _)) _).setCell ⟨w.heap.size+1,1,none⟩ (.inr (fx _)) _).setCell ⟨w.heap.size+1,2,none⟩ (.inr (fx _)) _).setCell ⟨w.heap.size+1,3,none⟩ (.inr (fx _)) _
theorem Bu(p:cY t v fl r I dom)(y:I L S w)(H:gd G rs N)(K:N<=W)(J:∀a,G.size a≠0->jJ L dom G a)(l:Rm<=4096)(x:ee w)(F:∀k,EL.has k->k<w.heap.size)
  (g:∀k,S k->¬EL.has k/\k≠ch) (j:¬EL.has ch) (f B:Nat) (n:f<w.heap.size/\¬S f/\¬EL.has f) (u:∀(i a:Nat),rs[i]? =some a->w.cell? ⟨f,i,none⟩=some (a:Int)) (s:rs.length<=1048576)
  {W5:World} {c1 c2:Nat} (hf:Fr EL.turns w W5) (Q:eo W5 EL W (fun _=>0)) (Z:w.heap.size<=sb/\w.heap.size<=kb/\kb≠sb) (o:uP W5 266 sb (.slice none 0 0) [] Rm 0 false)
  (d:ay W5 kb [.iface t v,EL.m,sb,.pointer none,(0:Int),(0:Int),(0:Int),(0:Int)] 247)
  (C:ay W5 c1 [kb] 245) (D:ay W5 c2 [.slice (some f) rs.length B] 65):
  Calls prog 56 #[.iface t v,.func (.func 173) #[] #[c1,c2]] W5 (pT W5 (Jt I t v L EL W kb sb Rm S G rs N)):=by
 have U:=p.lt _ _ _ y;have V:ch<w.heap.size:=bu (x 0 0 rfl);have X:=hf.size;have q:I L S W5:=p.stays _ _ _ _ _ y hf (fun k d h=>(g k d).1 (bT.Qh h)) (fun h=>j (bT.Qh h));have R:=d.lt;have A:=o.1.lt;refine tW t v 173 _ (enters_of func173 (by kernel_rfl) rfl) W5 _ (fun b w1 c Y O P=> ?_);have T:=c.size;refine (Bp p (p.Qb q c) H K J l ?_ (d.frame c id) (Q.frame c (fun _ _ h=>h)) 0 (o.Qb c id (fun _ _ h=>h)) (aE (aE x hf (fun h=>j (bT.Qh h))) c id) f B ?_ ?_ s b c1 c2 (C.frame c id) (D.frame c id)).mono ?_
 ·exact ⟨fun k d=>⟨(g k d).1,by grind,by grind,(g k d).2,by grind⟩,fun k d=>⟨by grind,by grind,fun e=>j (e▸d),by grind⟩,by omega,by omega,by omega,by omega,by omega,by omega⟩
 ·grind
 ·intro i a M;have E:=(World.cell?_of_block (w:=w) (w':=W5) (a:=⟨f,i,none⟩) (hf.block f n.1 (fun h=>n.2.2 (bT.Qh h)))).trans (u i a M);exact (World.cell?_of_block (w:=W5) (w':=w1) (a:=⟨f,i,none⟩) (c.block f (by omega) id)).trans E
 ·rintro e w2 ⟨rfl,z⟩;refine ⟨rfl,z,_,fun k d=> ?_,z.choose_spec.choose_spec.choose_spec.choose_spec.choose_spec.2.2.2.2.2.2⟩
  grind
theorem nG{E0:Nat->Nat}(hs:cY t v fl r I dom)(hi:I L S w)(hG:gd G rs N)(hW:N<=W)(hO:∀a,G.size a≠0->jJ L dom G a)(K:1<=Rm)(A:Rm<=4096)(U:eo w EL W E0)(hT:ee w)
  (aC:∀k,S k->¬EL.has k/\k≠ch) (aG:¬EL.has ch) (B rc:Nat) (aR:B<w.heap.size/\¬S B/\¬EL.has B) (aS:∀(i a:Nat),rs[i]? =some a->w.cell? ⟨B,i,none⟩=some (a:Int)) (a4:rs.length<=1048576):
  Calls prog 124 #[.iface t v,.slice (some B) rs.length rc,EL.m,(Rm:Int)] w (zj I L EL W Rm S G rs N w):=by
 have a7:∀(fn:Fn) (first cap:Array Value) (w:World),(Instr.makeFunc fn first cap).run prog w= .ok (.func fn first cap) w:=fun _ _ _ _=>rfl
 obtain ⟨j,l⟩:=U.small;have av:=ae (fun w1 (hf:J7 w w1)=>gU (U.frame hf (fun _ _ h=>h)));have ao:=ae (fun w1=>Is (Rm:Int) w1 (by omega) (by omega));have ax:=ae (fun w1 (hf:J7 w w1)=>B8 (U.frame hf (fun _ _ h=>h)));have a3:((W:Int)==0)=false:=by rw [beq_eq_false_iff_ne];omega
 have F:=U.lt;have aU:=hs.lt _ _ _ hi;have ap:=ae (fun W5 kb sb c1 c2 (hf:Fr EL.turns w W5) (U:eo W5 EL W (fun _=>0)) (hz:w.heap.size<=sb/\w.heap.size<=kb/\kb≠sb) a5 hk h1 h2=>Bu (kb:=kb) (sb:=sb) (c1:=c1) (c2:=c2) (W5:=W5) hs hi hG hW hO A hT F aC aG B rc aR aS a4 hf U hz a5 hk h1 h2);have am:=ae (fun W5 W6 kb sb c1 e hz s h1 h3 h=>DS (I:=I) (t:=t) (v:=v) (L:=L) (EL:=EL) (W:=W) (Rm:=Rm) (S:=S) (G:=G) (rs:=rs) (N:=N) (w:=w) (W5:=W5) (W6:=W6) (kb:=kb) (sb:=sb) (c1:=c1) (e:=e) hs (bu (hT 0 0 rfl)) aU F hz s h1 h3 h);have aj:=ae (fun k (h:EL.turns k)=>F k (bT.Qh h));clear hs hi hG hW hO K A U hT aC aG aR aS F aU l
 go_enter func124,ntmps124
 go_upto_region 1 with fail
 obtain ⟨W1,j⟩:∃W1,(w.alloc (.cells #[.slice (some B) rs.length rc] 65)).alloc (.cells #[(0:Int),(0:Int),(0:Int),(0:Int)] 188)=W1:=⟨_,rfl⟩;have Z:(w.alloc (.cells #[.slice (some B) rs.length rc] 65)).heap.size=w.heap.size+1:=aY _;have aW:W1.heap.size=w.heap.size+2:=by rw [<-j];exact (aY _).trans (congrArg (· +1) Z)
 have R:J7 w W1:=by rw [<-j];exact ((Kb _ w).alloc _).alloc _
 have aA:ay W1 w.heap.size [.slice (some B) rs.length rc] 65:=by rw [<-j];exact (ay.new w [.slice (some B) rs.length rc] 65).alloc _
 have aB:ay W1 (w.heap.size+1) [(0:Int),(0:Int),(0:Int),(0:Int)] 188:=by
  have h:=ay.new (w.alloc (.cells #[.slice (some B) rs.length rc] 65)) [(0:Int),(0:Int),(0:Int),(0:Int)] 188;rw [Z] at h;rw [<-j];exact h
 have aq:=ae (av.out W1 R);clear Z
 go_upto_region 3 with (refine aq.out.mono ?_;rintro e w' ⟨rfl,rfl⟩)
 clear j av a3;have P:=ae (af R (af aA (af aB aW)));have an:=ae (ao.out W1);clear R aA aB aW aq ao;go_wp2_with fail
 refine an.out.mono ?_;rintro e W2 ⟨rfl,l⟩;have V:J7 W1 W2:=by rw [l];exact (Kb _ _).alloc _
 have az:ay W2 W1.heap.size [.slice none 0 0,(Rm:Int),(0:Int),.bool false] 266:=by rw [l];exact ay.new W1 _ _
 have aX:W2.heap.size=W1.heap.size+1:=by rw [l];exact aY _
 have ar:=ae (ax.out W2 (P.out.1.trans V J8));have ak:=ae (af V (af az aX));clear l V az aX ax an;go_wp2_with fail
 refine ar.out.mono ?_;rintro e d ⟨rfl,aH,aI⟩;have al:=ae (af aH aI);clear aH aI ar
 go_upto_region 8 with fail
 obtain ⟨D,o⟩:∃D,d.alloc (.cells #[.iface t v,EL.m,W1.heap.size,.pointer none,(0:Int),(0:Int),(0:Int),(0:Int)] 247)=D:=⟨_,rfl⟩;obtain ⟨W5,p⟩:∃W5,D.alloc (.cells #[d.heap.size] 245)=W5:=⟨_,rfl⟩;have ad:D.heap.size=d.heap.size+1:=by rw [<-o];exact aY _
 have a6:W5.heap.size=d.heap.size+2:=by rw [<-p];exact (aY _).trans (congrArg (· +1) ad)
 have aN:J7 d D:=by rw [<-o];exact (Kb _ _).alloc _
 have s:J7 D W5:=by rw [<-p];exact (Kb _ _).alloc _
 have aO:ay D d.heap.size [.iface t v,EL.m,W1.heap.size,.pointer none,(0:Int),(0:Int),(0:Int),(0:Int)] 247:=by rw [<-o];exact ay.new d _ _
 have T:ay W5 (d.heap.size+1) [d.heap.size] 245:=by rw [<-ad,<-p];exact ay.new D _ _
 rw [o,p];clear o p;obtain ⟨g1,g2,g3,g4⟩:=P.out;obtain ⟨g5,g6,g7⟩:=ak.out;obtain ⟨g8,g9⟩:=al.out;have z1:=g1.size;have z9:=g9.size;have J:∀k,w.heap.size<=k->¬EL.turns k:=fun k h1 h=>by have:=aj.out k h;omega
 have g:J7 d W5:=aN.trans s J8;have b1:ay W5 W1.heap.size [.slice none 0 0,(Rm:Int),(0:Int),.bool false] 266:=(g6.frame g9 (J _ (by omega))).frame g id;have b2:=((g2.frame g5 id).frame g9 (J _ (ag _))).frame g id;have b3:=((g3.frame g5 id).frame g9 (J _ (fx _))).frame g id;have bk:=aO.frame s id;have X:Fr EL.turns w W5:=(((g1.trans g5 J8).mono (S':=EL.turns) J8).trans g9 (fun k h=> .inl h)).trans g J8;have O:=ae (ap.out W5 d.heap.size W1.heap.size (d.heap.size+1) w.heap.size X (g8.frame g (fun _ _ h=>h)) ⟨by omega,by omega,by omega⟩ ⟨b1,World.ownsRow_nil _ _ _ _,by simp [Value.ownBlock]⟩ bk T b2);have M:=ae (fun W6 e h=>am.out W5 W6 d.heap.size W1.heap.size (d.heap.size+1) e ⟨by omega,by omega,by omega,by omega⟩ (X.mono (fun k h=> .inl (bT.Qh h))) T b3 h);clear g1 g2 g3 g4 g5 g6 g7 g8 g9 z1 z9 J g b1 b2 b3 bk X aN s aO T ad a6 P ak al ap am aj;generalize W1.heap.size=sb at*;generalize d.heap.size=kb at*;clear W1 W2 d D;go_wp2_with fail
 refine O.out.mono ?_;intro e W6 hp;obtain ⟨rfl,st,nr,nv,wk,q,y,z,c⟩:=M.out _ _ hp;clear hp O M;have ah:=ae (af q (af y (af z c)));clear q y z c
 go_upto_region 9 with fail
 obtain ⟨E,H⟩:∃E,W6.alloc (.cells #[(0:Int),(0:Int)] 106)=E:=⟨_,rfl⟩;rw [H];obtain ⟨q,y,z,c⟩:=ah.out;have x:J7 W6 E:=by rw [<-H];exact (Kb _ _).alloc _
 have aP:ay E W6.heap.size [(0:Int),(0:Int)] 106:=by rw [<-H];exact ay.new W6 _ _
 have k1:=aP.cell 0 rfl;have k2:=(q.frame x id).cell 0 rfl;have C:=ae (y.frame x id);have b:=z.frame x id;have HT:Hid (E.there (w.heap.size+1) 0 4):=by
  show E.there _ _ _
  intro i hi
  match i,hi with
  |0,_=>exact ⟨by rw [b.cell 0 rfl];rfl,b.free 0⟩
  |1,_=>exact ⟨by rw [b.cell 1 rfl];rfl,b.free 1⟩
  |2,_=>exact ⟨by rw [b.cell 2 rfl];rfl,b.free 2⟩
  |3,_=>exact ⟨by rw [b.cell 3 rfl];rfl,b.free 3⟩
 have a0:=ae (c E x);have Q:Hid ((prog.info? 188).map (·.size)=some 4):=by show _=_;kernel_rfl
 clear c q y z x aP b ah H;have a2:Hid (E.rangeAt kb 4 [((st.no:Int):Int),((st.nw:Int):Int),(nr:Int),(nv:Int)]):=by
  show E.rangeAt _ _ _
  intro i u f
  match i,f with
  |0,f=>simp only [eh,aT] at f;subst f;exact C.out.cell 4 rfl
  |1,f=>simp only [eh,fg,aT] at f;subst f;exact C.out.cell 5 rfl
  |2,f=>simp only [eh,fg,aT] at f;subst f;exact C.out.cell 6 rfl
  |3,f=>simp only [eh,fg,aT] at f;subst f;exact C.out.cell 7 rfl
  |(n+4),f=>simp at f
 have a1:Hid ((#[Value.int .i64 (st.no:Int),((st.nw:Int):Int),(nr:Int),(nv:Int)].all (·.oneCell'))=true):=by show _=_;exact Go.all_oneCell_toArray (cs:=[((st.no:Int):Int),((st.nw:Int):Int),(nr:Int),(nv:Int)]) (fun v hv=>by simp only [cG,bF,or_false] at hv;rcases hv with rfl|rfl|rfl|rfl<;>rfl)
 go_wp2_with (first|refine wpList_load_mid rfl 188 _ rfl kb 4 rfl [((st.no:Int):Int),((st.nw:Int):Int),(nr:Int),(nv:Int)] _ a2.out underlying188 rfl Q.out ?_|refine wpList_store_mid rfl 188 _ _ rfl (w.heap.size+1) 0 #[((st.no:Int):Int),((st.nw:Int):Int),(nr:Int),(nv:Int)] rfl rfl HT.out Q.out a1.out ?_)
 obtain ⟨hq,Y⟩:=a0.out _ rfl;refine bodyPost_ret (ei rfl _ _ _ _ _ _ _ rfl hq underlying188 rfl Q.out) rfl ?_;exact Y
end
theorem yR{w:World}{L:bT}{W:Nat}{E:Nat->Nat}(h:eo w L W E)(j:ee w)(a:Nat)(x:a<=W)(i:∀s,E s≠0->s+E s<=a):Calls prog 184 #[L.m,(a:Int),(W:Int)] w fun e w'=>e= .returned (0:Int)/\w=w':=by
 have t:=h.small;have l:=ae (ib h.Qd);have f:=ae (gU h);have k:=ae (ky h j a (by omega));have o:=ae (pL h j a (by omega));have c:Hid (∀e w',gg E a w e w'->e= .returned (.tuple #[(0:Int),(0:Int),.bool false])/\w=w'):=by
  show∀e w',_
  rintro e w' ⟨⟨s,n,b,g,q,_⟩|⟨_,b⟩,g⟩
  ·have:=i s (by omega);omega
  ·exact ⟨b,g⟩
 have d:Hid (∀e w',ie E W a w e w'->e= .returned (.tuple #[(0:Int),(0:Int),.bool false])/\w=w'):=by
  show∀e w',_
  intro e w' hp;rcases hp with ⟨⟨s,n,b,g,q⟩|⟨_,b⟩,g⟩
  ·have r:=eG.1 b.2.2.1;have:=i s r;have:=b.1;omega
  ·exact ⟨b,g⟩
 have u:max (a:Int) 0=(a:Int):=by omega
 have v:min (W:Int) (W:Int)=(W:Int):=by omega
 clear h j i t
 go_enter func184,ntmps184
 go_wp2_with fail
 refine l.out.mono ?_;rintro e w1 ⟨rfl,rfl⟩;go_wp2_with fail
 refine f.out.mono ?_;rintro e w1 ⟨rfl,rfl⟩;go_wp2_with fail
 refine k.out.mono ?_;intro e w1 hp;obtain ⟨rfl,rfl⟩:=c.out _ _ hp;clear hp;go_wp2_with fail
 refine o.out.mono ?_;intro e w1 hp;obtain ⟨rfl,rfl⟩:=d.out _ _ hp;clear hp l f k o c d u v;go_wp2
 go_loopw [7,13] (fun n p wr=>n= .int .i64 0/\p= .bool false/\wr=w) (fun _ _ _=>0)
 case atStart=>exact ⟨rfl,rfl,by first|trivial|rfl⟩
 case round=>
  obtain ⟨rfl,rfl,rfl⟩:=hrel;go_wp2;go_ret;exact ⟨rfl,rfl⟩
def JH(m Pg W Fs Us Hg:Nat)(mp:Nat->Bool)(L:Nat->Nat)(S:Nat->Prop)(G:Gr)(ls:List Nat)(w:World)(e:Ending)(w':World):Prop:=
 ∃(EL:bT) (E:Nat->Nat) (S':Nat->Prop),e= .returned (.tuple #[EL.m,(0:Int)])/\dJ m Pg W Fs Us Hg mp L S' w'/\(∀k,S' k->S k\/w.heap.size<=k)/\(∀k,S' k->¬EL.has k)/\eo w' EL W E/\(∀a,E a≠0↔Reach G ls a)/\fz G ls E/\(∀k,EL.has k->w.heap.size<=k)/\Fr S w w'
theorem uh{w:World}{m b g Pg W Fs Us Hg:Nat}{S:Nat->Prop}{mp:Nat->Bool}{L:Nat->Nat}{ls:List Nat}{G:Gr}(V:dJ m Pg W Fs Us Hg mp L S w)(hr:cz w b g ls)(U:ee w)(x:¬S ch)(lo top Rm:Nat)(hG:gd G ls top)(hO:∀a,G.size a≠0->jJ L (cX W Pg mp) G a)(X:∀a,G.size a≠0->lo<=a)(u:top<=W)(h4:1<=Rm)(h5:Rm<=4096):
  Calls prog 151 #[m,b,(lo:Int),(top:Int),(Rm:Int)] w (JH m Pg W Fs Us Hg mp L S G ls w):=by
 have d:=bR m Pg W Fs Us Hg mp;have HW:=ae (fun w1 (S1:Nat->Prop) (ah:dJ m Pg W Fs Us Hg mp L S1 w1)=>gR ah.choose_spec.1);obtain ⟨e1,e2,e3,e4,e5,e6,e7,e8,ad⟩:=V.choose_spec.1.at;clear e1 e2 e4 e5 e6 e7 e8;have f:=d.lt _ _ _ V;have O:=ae (oJ W ad (by omega) w);have F:=ae (fun w1 (hf:J7 w w1)=>ol (hr.frame hf id id));have am:=hr.small;have N:=ae (fun (w1 w2:World) (EL:bT) (hf:J7 w w1) (o:∀k,EL.has k->w.heap.size<=k) (t:eo w1 EL W (fun _=>0)) (c:J7 w1 w2) C rc (aj:w1.heap.size<=C/\C<w2.heap.size) (ak:∀(i a:Nat),ls[i]? =some a->w2.cell? ⟨C,i,none⟩=some (a:Int))=>
  nG (w:=w2) (Rm:=Rm) d (d.Qb (d.Qb V hf) c) hG u hO h4 h5 (t.frame c (fun _ _ h=>h)) (aE (aE U hf id) c id) (fun k B=>⟨fun h=>by have:=f k B;have:=o k h;omega,fun e=>x (e▸B)⟩) (fun h=>by have p:=o _ h;have z:ch<w.heap.size:=bu (U 0 0 rfl);omega) C rc ⟨aj.2,fun h=>by have:=f _ h;have:=hf.size;omega,fun h=>by have:=t.lt _ h;omega⟩ ak (by omega))
 have R:=ae (HW.out _ _ V);have I:Hid (∀w1 w2 w3 EL e,J7 w w1->(∀k,EL.has k->w.heap.size<=k)->eo w1 EL W (fun _=>0)->J7 w1 w2->zj (dJ m Pg W Fs Us Hg mp) L EL W Rm S G ls top w2 e w3->∃(j:jl) (Y Z:Int),e= .returned (.tuple #[.agg #[((j.no:Int):Int),((j.nw:Int):Int),(Y:Int),(Z:Int)],(0:Int)])/\eo w3 EL W j.E/\ee w3/\(∃S',dJ m Pg W Fs Us Hg mp L S' w3)/\(∀s,j.E s≠0->lo<=s/\s+j.E s<=top)/\∀w4,J7 w3 w4->JH m Pg W Fs Us Hg mp L S G ls w (.returned (.tuple #[.pointer (some ⟨EL.m,0,none⟩),(0:Int)])) w4):=by
  show∀w1 w2 w3 EL e,_
  rintro w1 w2 w3 EL e hf o t c ⟨j,Y,Z,S',rfl,q1,q2,q3,q4,q5,q6⟩;have z1:=hf.size;have z2:=c.size;have ag:=t.lt;have al:ch<w.heap.size:=bu (U 0 0 rfl);refine ⟨j,Y,Z,rfl,q3,aE (aE (aE U hf id) c id) q6 (fun h=> ?_),⟨S',q1⟩,fun s hs=> ?_,?_⟩
  ·rcases h with h|h
   ·exact x h
   ·have:=o _ h;unfold ch at al;omega
  ·have p:=q4.marked s hs;have z:G.size s≠0:=by rw [<-p.2];exact hs
   exact ⟨X s z,by rw [p.2];exact hG.top s z⟩
  ·intro w4 y;refine ⟨EL,j.E,S',rfl,d.Qb q1 y,fun k B=> ?_,fun k B h=> ?_,q3.frame y (fun _ _ h=>h),q5,q4.marked,o,?_⟩
   ·rcases q2 k B with h|h
    ·exact .inl h
    ·exact .inr (by omega)
   ·rcases q2 k B with p|p
    ·have:=f k p;have:=o k h;omega
    ·have:=ag k h;omega
   ·exact ((((hf.trans c J8).mono (S':=S) J8).trans q6 (fun k h=>by
     rcases h with h|h
     ·exact .inl h
     ·exact .inr (o k h)))).trans y J8
 clear V hr U x hG hO h4 h5 f d X
 go_enter func151,ntmps151
 go_wp2_with fail
 refine R.out.mono ?_;rintro e w1 ⟨rfl,rfl⟩;clear R;go_wp2_with fail
 refine O.out.mono ?_;rintro e w1 ⟨EL,rfl,t,o,hf⟩;have D:=ae (F.out w1 hf);clear O F;go_wp2_with fail
 refine D.out.mono ?_;rintro e w2 ⟨C,rc,rfl,r1,r2,r3,c⟩;have M:=ae (N.out w1 w2 EL hf o t c C rc ⟨r1,r2⟩ r3);have H:=ae (fun w3 e h=>I.out w1 w2 w3 EL e hf o t c h);clear r1 r2 r3 c hf o t D N I;go_wp2_with fail
 refine M.out.mono ?_;intro e w3 hp;obtain ⟨j,Y,Z,rfl,g1,g2,⟨S3,g3⟩,g4,g5⟩:=H.out _ _ hp;clear hp M H;have P:=ae (fun w4 (hf:J7 w3 w4)=>pL (g1.frame hf (fun _ _ h=>h)) (aE g2 hf id) 0 (by omega));have K:=ae (fun w4 (hf:J7 w3 w4)=>yR (g1.frame hf (fun _ _ h=>h)) (aE g2 hf id) top u (fun s hs=>(g4 s hs).2));have T:=ae (fun w4 (hf:J7 w3 w4)=>HW.out w4 S3 ((bR m Pg W Fs Us Hg mp).Qb g3 hf));have J:Hid (∀w4 e w5,ie j.E W 0 w4 e w5->w4=w5/\∃(s n:Int) (is:Bool),e= .returned (.tuple #[(s:Int),(n:Int),.bool is])/\(is&&decide (s<(lo:Int)))=false):=by
  show∀w4 e w5,_
  intro w4 e w5 hp;unfold ie at hp;rcases hp with ⟨⟨s,n,p,h5,h3⟩|⟨_,p⟩,z⟩
  ·have h4:=(g4 s (eG.1 p.2.2.1)).1;exact ⟨z,_,_,_,h3,by rw [cH,decide_eq_false_iff_not];omega⟩
  ·exact ⟨z,_,_,_,p,rfl⟩
 have HQ:=ae g5;clear g1 g2 g3 g4 g5 HW;obtain ⟨A,hA⟩:∃A,A=w3.alloc (.cells #[((j.no:Int):Int),((j.nw:Int):Int),(Y:Int),(Z:Int)] 188):=⟨_,rfl⟩;have l:J7 w3 A:=by rw [hA];exact (Kb _ _).alloc _
 have v:=ae (P.out A l);have q:=ae (K.out A l);have r:=ae (T.out A l);have Q:=ae (HQ.out A l);clear l P K T HQ;rw [show ((0:Nat):Int)=0 from rfl] at v
 go_upto_region 3 with fail
 rw [<-hA];clear hA;go_wp2_with fail
 refine v.out.mono ?_;intro e w5 hp;obtain ⟨rfl,s,n,is,rfl,f⟩:=J.out _ _ _ hp;clear hp v J
 cases is with
 |false=>
  clear f;go_wp2_with fail
  refine r.out.mono ?_;rintro e w6 ⟨rfl,rfl⟩;go_wp2_with fail
  refine q.out.mono ?_;rintro e w7 ⟨rfl,rfl⟩;clear r q;go_wp2;refine bodyPost_ret (results_tmp2 rfl _ _ _) rfl ?_;exact Q.out
 |true=>
  rw [cH,decide_eq_false_iff_not] at f;go_wp2_with fail
  refine r.out.mono ?_;rintro e w6 ⟨rfl,rfl⟩;go_wp2_with fail
  refine q.out.mono ?_;rintro e w7 ⟨rfl,rfl⟩;clear r q;go_wp2;refine bodyPost_ret (results_tmp2 rfl _ _ _) rfl ?_;exact Q.out
def oF(L F:Nat->Nat)(a np i:Nat):Nat:=if 1<=i/\i<=np/\L (a+i)≠0 then F (L (a+i)) else L (a+i)
def tf(L F:Nat->Nat)(a z np n:Nat):Nat->Nat:=fun k=>if z<=k/\k<z+n then oF L F a np (k-z) else L k
theorem DL(L F:Nat->Nat)(a z b:Nat):tf L F a z b 0=L:=by
 funext k;unfold tf;grind
theorem DM(L F:Nat->Nat)(a z b n:Nat):eb (tf L F a z b n) (z+n) (oF L F a b n)=tf L F a z b (n+1):=by
 funext k;show (if k=z+n then oF L F a b n else if z<=k/\k<z+n then oF L F a b (k-z) else L k)=if z<=k/\k<z+(n+1) then oF L F a b (k-z) else L k
 grind
theorem Bl(L F:Nat->Nat){a z:Nat}(b n:Nat)(d:z<=a){k:Nat}(c:a+n<=k):tf L F a z b n k=L k:=by
 unfold tf;grind
section
variable{m Pg W Fs Us Hg:Nat}{mp:Nat->Bool}{L:Nat->Nat}{S:Nat->Prop}{w w1:World}
theorem dJ.Qb(h:dJ m Pg W Fs Us Hg mp L S w)(hf:J7 w w1):dJ m Pg W Fs Us Hg mp L S w1:=(bR m Pg W Fs Us Hg mp).Qb h hf
theorem Bt(h:dJ m Pg W Fs Us Hg mp L S w)(a:Nat)(b:cX W Pg mp a):Calls prog 187 #[m,(a:Int)] w fun e w'=>e= .returned (.tuple #[.int .u64 ((L a:Nat):Int),(0:Int)])/\J7 w w':=by
 obtain ⟨M,c,f⟩:=h;exact (jB c a b.1 b.2).mono (fun e w' ⟨g,d⟩=>⟨by grind,d⟩)
theorem xY(h:dJ m Pg W Fs Us Hg mp L S w)(a x:Nat)(c:cX W Pg mp a)(j:x<18446744073709551616):Calls prog 188 #[m,(a:Int),.int .u64 x] w fun e w'=>e= .returned (0:Int)/\dJ m Pg W Fs Us Hg mp (eb L a x) S w'/\Fr S w w':=by
 obtain ⟨M,d,k⟩:=h;exact (pC d a x c.1 c.2 j).mono (fun e w' ⟨f,g,i⟩=>⟨f,⟨eb M a x,g,fun b l=>by
  grind [eb]⟩,i⟩)
theorem mM(h:dJ m Pg W Fs Us Hg mp L S w)(a p f g:Nat)(j:1<=a)(l:cX W Pg mp a)(n:lw L a p f g):Calls prog 80 #[.iface 52 (.pointer (some ⟨m,0,none⟩)),(a:Int)] w fun e w'=>e= .returned (.tuple #[ft p f g,(0:Int)])/\∃S',dJ m Pg W Fs Us Hg mp L S' w'/\Fr S w w'/\∀k,S' k->S k\/w.heap.size<=k:=
 (kr (bR m Pg W Fs Us Hg mp) h a p f g j l n).mono (fun _ _ ⟨b,S2,c,d,i⟩=>⟨b,S2,c,d,i⟩)
end
section
variable{m Pg W Fs Us Hg:Nat}{mp:Nat->Bool}{L:Nat->Nat}{S:Nat->Prop}{w w1:World}
def IS(m Pg W Fs Us Hg:Nat)(mp:Nat->Bool)(L:Nat->Nat)(S:Nat->Prop)(w:World)(e:Ending)(w':World):Prop:=e= .returned (.tuple #[])/\∃S':Nat->Prop,dJ m Pg W Fs Us Hg mp L S' w'/\Fr S w w'/\∀k,S' k->S k\/w.heap.size<=k
def Cs(m Pg W Fs Us Hg:Nat)(mp:Nat->Bool)(L:Nat->Nat)(S1:Nat->Prop)(w w3 wr:World)(S:Nat->Prop)(q:Nat)(cs:List Value):Prop:=dJ m Pg W Fs Us Hg mp L S1 wr/\Fr S1 w3 wr/\Fr S w wr/\ay wr q cs 32/\¬S1 q/\∀k,S1 k->S k\/w.heap.size<=k
theorem Cs.Fh{a:Nat->Prop}{w3 wr:World}{q:Nat}{cs:List Value}(h:Cs m Pg W Fs Us Hg mp L a w w3 wr S q cs)(hf:J7 wr w1):Cs m Pg W Fs Us Hg mp L a w w3 w1 S q cs:=
 ⟨h.1.Qb hf,h.2.1.trans hf J8,h.2.2.1.trans hf J8,h.2.2.2.1.frame hf id,h.2.2.2.2⟩
theorem Cs.put{b:Nat->Nat}{a:Nat->Prop}{w3 wr:World}{q:Nat}{cs:List Value}(h:Cs m Pg W Fs Us Hg mp L a w w3 wr S q cs)(d:dJ m Pg W Fs Us Hg mp b a w1)(hf:Fr a wr w1):Cs m Pg W Fs Us Hg mp b a w w3 w1 S q cs:=
 ⟨d,h.2.1.trans hf (fun _ h=> .inl h),h.2.2.1.trans hf (fun k c=>h.2.2.2.2.2 k c),h.2.2.2.1.frame hf h.2.2.2.2.1,h.2.2.2.2⟩
theorem Bc{lo hi p k Ba:Nat}{E:Nat->Nat}(h:dJ m Pg W Fs Us Hg mp L S w)(hF:gX lo hi w p W k E Ba)(ar:∀j,S j->j<lo\/hi<=j)(hb:Ba<=1048576)(a n z b u v:Nat)(ha:1<=a)(ho:lw L a b u v)(hn:n=1+(b+u+v))(hE:E a=n)(hz:goes E Ba a=z)(aI:z<=a)(aW:a+n<=W)(hW:W<=524288)
  (hd:∀j,a<=j->j<a+n->cX W Pg mp j/\L j<18446744073709551616) (av:∀j,z<=j->j<z+n->cX W Pg mp j) (hp:∀i,1<=i->i<=b->L (a+i)≠0->aw E (L (a+i))=true/\L (a+i)<W):
  Calls prog 153 #[m,p,(a:Int),(n:Int)] w (IS m Pg W Fs Us Hg mp (tf L (goes E Ba) a z b n) S w):=by
 have hN:b+u+v<256:=by have:=ho.2;unfold dD at this;omega
 have a3:∀j,S j->j<w.heap.size:=fun j hj=>(bR m Pg W Fs Us Hg mp).lt _ _ _ h j hj
 have am:=ae (mM h a b u v ha (hd a (ag _) (by omega)).1 ho);have T:=ae (fun (w1:World) (x:Nat) (hf:Fr S w w1) (hx:aw E x=true) (aH:x<W)=>uA (hF.frame hf ar) hb x hx aH);have aG:aw E a=true:=by have:=oA (E:=E) (s:=a) (i:=0) (by omega);rwa [aP] at this
 have U:=ae (fun w1 hf=>T.out w1 a hf aG (by omega));rw [hz] at U;have M:=ae (fun (i:Int) w1=>pG b u v i ho.2 w1);have aS:=ae (fun (l:Nat->Prop) w3 q cs i wr (V:i<n) (A:Cs m Pg W Fs Us Hg mp (tf L (goes E Ba) a z b i) l w w3 wr S q cs)=>(Bt A.1 (a+i) (hd _ (by omega) (by omega)).1).mono (fun e w' ⟨d,r⟩=>(⟨by rw [d,Bl L _ b i aI (ag _)],A.Fh r⟩:e=Ending.returned (.tuple #[.int .u64 ((L (a+i):Nat):Int),(0:Int)])/\Cs m Pg W Fs Us Hg mp (tf L (goes E Ba) a z b i) l w w3 w' S q cs)));have az:∀i,i<n->oF L (goes E Ba) a b i<18446744073709551616:=by
  intro i V;unfold oF;split
  ·rename_i hc;have d:=hp i hc.1 hc.2.1 hc.2.2;have r:=fM (aw E) (L (a+i));unfold goes;omega
  ·exact (hd _ (by omega) (by omega)).2
 have R:=ae (fun (l:Nat->Prop) w3 q cs i wr (V:i<n) (A:Cs m Pg W Fs Us Hg mp (tf L (goes E Ba) a z b i) l w w3 wr S q cs)=>(xY A.1 (z+i) (oF L (goes E Ba) a b i) (av _ (by omega) (by omega)) (az i V)).mono (fun e w' ⟨d,r,h3⟩=>(⟨d,by rw [DM] at r;exact A.put r h3⟩:e=Ending.returned (0:Int)/\Cs m Pg W Fs Us Hg mp (tf L (goes E Ba) a z b (i+1)) l w w3 w' S q cs)));have aj:∀i:Nat,1<=i->i<=b->fP b u v ((i:Int)-1)=1:=fun i d r=>by
  unfold fP;rw [fO,if_pos ho.2,if_neg (by omega),if_pos (by omega)]
 have ah:∀i:Nat,¬(1<=i/\i<=b)->¬fP b u v ((i:Int)-1)=1:=fun i d=>by
  unfold fP;split
  ·decide
  ·rw [if_neg (by omega)];split<;>decide
 have aR:=ae (fun (i:Nat) w1 (d:1<=i) (r:i<=b)=>by have:=M.out ((i:Int)-1) w1;rwa [aj i d r] at this);have aO:=ae (fun (i:Nat) w1 (d:¬(1<=i/\i<=b))=>(⟨_,ah i d,M.out ((i:Int)-1) w1⟩:∃K:Int,¬K=1/\Calls prog 167 #[ft b u v,(((i:Int)-1):Int)] w1 (jn w1 K)));have aU:=ae (fun (w1:World) (i:Nat) (hf:Fr S w w1) (d:1<=i/\i<=b) (r:L (a+i)≠0)=>T.out w1 (L (a+i)) hf (hp i d.1 d.2 r).1 (hp i d.1 d.2 r).2);have aT:=ae (fun (i:Nat) (d:1<=i/\i<=b) (r:L (a+i)≠0)=>(hp i d.1 d.2 r).2);have aN:=ae (fun (i:Nat) (d:1<=i/\i<=b) (r:L (a+i)≠0)=>(show goes E Ba (L (a+i))<=2097152 from by
  have h3:=(hp i d.1 d.2 r).2;have h4:=fM (aw E) (L (a+i));unfold goes;omega))
 have P:Hid ((prog.info? 32).map (·.size)=some 3):=by show _=_;kernel_rfl
 have ad:Hid (∀l w3 wr q cs,Cs m Pg W Fs Us Hg mp (tf L (goes E Ba) a z b n) l w w3 wr S q cs->IS m Pg W Fs Us Hg mp (tf L (goes E Ba) a z b n) S w (.returned (.tuple #[])) wr):=by
  show∀l w3 wr q cs,_
  exact fun l w3 wr q cs A=>⟨rfl,l,A.1,A.2.2.1,A.2.2.2.2.2⟩
 have aX:n<=256:=by omega
 have ba:z<=1048576:=by omega
 have a0:a<=1048576:=by omega
 have aC:=(fun S2 (w2:World) (r:dJ m Pg W Fs Us Hg mp L S2 w2)=>(bR m Pg W Fs Us Hg mp).lt _ _ _ r);have al:=ae aC;unfold jn at*;generalize (IS m Pg W Fs Us Hg mp (tf L (goes E Ba) a z b n) S w)=Q at*;clear h hF ar hb ho hn hE hz aI aW hd av hp hN aG M aj ah az aC T;unfold ft at*
 go_enter func153,ntmps153
 go_wp2_with fail
 refine am.out.mono ?_;rintro e J ⟨rfl,l,g1,g2,g3⟩;have hH:∀D,D=J.alloc (.cells #[(b:Int),(u:Int),(v:Int)] 32)->Cs m Pg W Fs Us Hg mp (tf L (goes E Ba) a z b 0) l w D D S J.heap.size [(b:Int),(u:Int),(v:Int)]:=by
  rintro D rfl;have hf:J7 J (J.alloc (.cells #[(b:Int),(u:Int),(v:Int)] 32)):=(Kb _ _).alloc _;exact ⟨by rw [DL];exact g1.Qb hf,Kb _ _,g2.trans hf J8,ay.new J _ _,fun h=>by have:=al.out _ _ g1 _ h;omega,g3⟩
 have HH:=ae hH;clear g1 g2 g3 hH am al
 go_upto_region 1 with fail
 have H:=HH.out _ rfl;generalize J.alloc (.cells #[(b:Int),(u:Int),(v:Int)] 32)=D at*;have an:=ae (U.out D H.2.2.1);have H0:=ae H;clear H HH U;generalize J.heap.size=q at*;clear J;go_wp2_with fail
 refine an.out.mono ?_;rintro e w4 ⟨rfl,ax⟩;have H1:=ae (H0.out.Fh ax);clear ax H0 an;go_wp2
 go_loopw [31] (fun x wr=>∃(i:Nat),x= .int .i64 i/\i<=n/\Hid (Cs m Pg W Fs Us Hg mp (tf L (goes E Ba) a z b i) l w D wr S q [(b:Int),(u:Int),(v:Int)])) (fun x _=>(n-intOf x).toNat)
 case atStart=>exact ⟨0,rfl,by omega,H1⟩
 case round=>
  clear H1;obtain ⟨i,rfl,d,A⟩:=hrel;by_cases I:i<n
  ·have aY:(i:Int)<(n:Int):=by omega
   have a4:IntKind.i64.wrap ((a:Int)+(i:Int))=(a:Int)+(i:Int):=by rw [IntKind.wrap_i64];omega
   have a5:IntKind.i64.wrap ((i:Int)-1)=(i:Int)-1:=by rw [IntKind.wrap_i64];omega
   have a6:IntKind.i64.wrap ((z:Int)+(i:Int))=(z:Int)+(i:Int):=by rw [IntKind.wrap_i64];omega
   have N:=aS.out l D q _ i wr I A.out;rw [show ((a+i:Nat):Int)=(a:Int)+(i:Int) by push_cast;rfl] at N;have ak:=ae N;clear N A;go_wp2_with fail
   refine ak.out.mono ?_;rintro e w5 ⟨rfl,Z⟩;have B:=ae Z.2.2.2.1;have C:=ae Z;clear Z ak;by_cases c:1<=i/\i<=b
   ·have y:=ae (aR.out i w5 c.1 c.2);by_cases H:L (a+i)=0
    ·rw [H];go_wp2_with (refine wpList_load_row rfl 32 _ rfl q rfl 32 #[(b:Int),(u:Int),(v:Int)] _ _ B.out underlying32 rfl P.out ?_)
     refine y.out.mono ?_;rintro e w6 ⟨rfl,f⟩;have g:=R.out l D q _ i w6 I (C.out.Fh f);rw [show ((z+i:Nat):Int)=(z:Int)+(i:Int) by push_cast;rfl,show oF L (goes E Ba) a b i=0 by unfold oF;rw [if_neg (fun hh=>hh.2.2 H),H],show ((0:Nat):Int)=0 from rfl] at g;have o:=ae g;clear g f C B y;go_wp2_with fail
     refine o.out.mono ?_;rintro e w7 ⟨rfl,t⟩;have F:=ae t;clear t o;go_wp2;go_roundw
     case rel=>exact ⟨i+1,by go_num,by omega,F⟩
     case measure=>simp [intOf];omega
    ·have aH:=aT.out i c H;have ao:=ae (fun w6 hf=>aU.out w6 i hf c H);have aA:oF L (goes E Ba) a b i=goes E Ba (L (a+i)):=by unfold oF;rw [if_pos ⟨c.1,c.2,H⟩]
     have a1:goes E Ba (L (a+i))<=2097152:=aN.out i c H;have G:=ae (fun w6 h=>R.out l D q [(b:Int),(u:Int),(v:Int)] i w6 I h);rw [show ((z+i:Nat):Int)=(z:Int)+(i:Int) by push_cast;rfl,aA] at G;have a7:¬((L (a+i):Nat):Int)=0:=by omega
     have a8:IntKind.i64.wrap ((L (a+i):Nat):Int)=((L (a+i):Nat):Int):=by rw [IntKind.wrap_i64];omega
     have a9:IntKind.u64.wrap ((goes E Ba (L (a+i)):Nat):Int)=((goes E Ba (L (a+i)):Nat):Int):=by rw [IntKind.wrap_u64];omega
     clear aA;generalize goes E Ba (L (a+i))=Y at*;generalize L (a+i)=X at*;go_wp2_with (refine wpList_load_row rfl 32 _ rfl q rfl 32 #[(b:Int),(u:Int),(v:Int)] _ _ B.out underlying32 rfl P.out ?_)
     refine y.out.mono ?_;rintro e w6 ⟨rfl,f⟩;have O:=ae (C.out.Fh f);have ap:=ae (ao.out w6 O.out.2.2.1);clear f C B y ao;go_wp2_with fail
     refine ap.out.mono ?_;rintro e bb ⟨rfl,f⟩;have g:=G.out _ (O.out.Fh f);have o:=ae g;clear g f O ap G;go_wp2_with fail
     refine o.out.mono ?_;rintro e w7 ⟨rfl,t⟩;have F:=ae t;clear t o;go_wp2;go_roundw
     case rel=>exact ⟨i+1,by go_num,by omega,F⟩
     case measure=>simp [intOf];omega
   ·obtain ⟨K,hK,aq⟩:=aO.out i w5 c;have y:=ae aq;clear aq;go_wp2_with (refine wpList_load_row rfl 32 _ rfl q rfl 32 #[(b:Int),(u:Int),(v:Int)] _ _ B.out underlying32 rfl P.out ?_)
    refine y.out.mono ?_;rintro e w6 ⟨rfl,f⟩;have g:=R.out l D q _ i w6 I (C.out.Fh f);rw [show ((z+i:Nat):Int)=(z:Int)+(i:Int) by push_cast;rfl,show oF L (goes E Ba) a b i=L (a+i) by unfold oF;rw [if_neg (fun hh=>c ⟨hh.1,hh.2.1⟩)]] at g;have o:=ae g;clear g f C B y;go_wp2_with fail
    refine o.out.mono ?_;rintro e w7 ⟨rfl,t⟩;have F:=ae t;clear t o;go_wp2;go_roundw
    case rel=>exact ⟨i+1,by go_num,by omega,F⟩
    case measure=>simp [intOf];omega
  ·have aB:i=n:=by omega
   have a2:¬(i:Int)<(n:Int):=by omega
   have HQ:=ae (ad.out l D wr q _ (by rw [aB] at A;exact A.out));clear A d I aB;go_wp2;go_end0;exact HQ.out
end
theorem FK{lo m:Nat}{w:World}{p W k Ba:Nat}{E:Nat->Nat}(f:gX lo m w p W k E Ba)(h:Ba<=1048576)(c a:Nat)(i:ay w c [p] 171)(g:aw E a=true)(b:a<W):
  Calls prog 154 #[(a:Int),c] w fun e w'=>e= .returned (.int .i64 ((goes E Ba a:Nat):Int))/\J7 w w':=by
 have d:=ae (uA f h a g b);have l:=i.cell 0 rfl;generalize goes E Ba a=Y at*;clear f h i g b
 go_enter func154,ntmps154
 go_wp2_with fail
 refine d.out.mono ?_;rintro e w1 ⟨rfl,hf⟩;have j:=ae hf;clear hf d l;go_wp2;go_ret;exact ⟨rfl,j.out⟩
structure Hv(L F:Nat->Nat)(np:Nat->Nat)(go:Nat->Nat)(pre:List (Nat×Nat))(M:Nat->Nat):Prop where
 Qs:∀x∈pre,∀i,i<x.2->M (go x.1+i)=oF L F x.1 (np x.1) i
 still:∀k,(∀x∈pre,x.1+x.2<=k)->M k=L k
theorem Hv.none(L F b a:Nat->Nat):Hv L F b a [] L:=⟨fun _ h=>absurd h (bF),fun _ _=>rfl⟩
theorem Hv.step{L F d c M:Nat->Nat}{b:List (Nat×Nat)}{x:Nat×Nat}(h:Hv L F d c b M)(l:∀y∈b,y.1+y.2<=x.1)(g:∀y∈b,c y.1+y.2<=c x.1)(m:c x.1<=x.1):
  Hv L F d c (b++[x]) (tf M F x.1 (c x.1) (d x.1) x.2):=by
 have n:∀i,M (x.1+i)=L (x.1+i):=fun i=>h.still _ (fun y a=>by grind)
 constructor
 ·intro y a i e;rcases eI.1 a with a|a
  ·have j:=g y a;unfold tf;rw [if_neg (by omega)];exact h.Qs y a i e
  ·rw [dc.1 a] at e ⊢;simp_all [tf,oF]
 ·intro k f;have j:=f x (List.mem_append_right _ (dc.2 rfl));unfold tf;rw [if_neg (by omega)];exact h.still k (fun y a=>f y (List.mem_append_left _ a))
end Go.Proofs.YtgnoapadkncphaaGreatDoor
