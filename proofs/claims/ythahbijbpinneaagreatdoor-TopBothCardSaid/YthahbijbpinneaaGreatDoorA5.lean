import Derived.Test.YthahbijbpinneaaGreatDoorA0
import Derived.Test.YthahbijbpinneaaGreatDoorA1
import Derived.Test.YthahbijbpinneaaGreatDoorA2
import Derived.Test.YthahbijbpinneaaGreatDoorA4
import Derived.Shelf.Abstract
import Derived.Maps.OwnIn
import Derived.Laws.OwnMore
set_option maxRecDepth 100000
set_option maxHeartbeats 8000000
set_option linter.all false
namespace Go.Proofs.YthahbijbpinneaaGreatDoor
open Go.RowKit Go.Proofs.Tryz
theorem za{w:World}{b g:Nat}{ls:List Nat}(h:dt w b g ls)(i f a:Nat)(d:i<ls.length)(hf:ls[f]? =some a):Calls prog 64 #[b,(i:Int),(f:Int)] w fun e w'=>e= .returned (0:Int)/\dt w' b g (ls.set i a)/\Fr (fun k=>k=g) w w':=by
 have r:=(al.1 hf).1;have t:Hid (∀W1,W1=w.alloc (.cells #[(i:Int),(f:Int)] 3)->W1.cell? b=some (.slice (some g) ls.length ls.length)/\W1.cell? ⟨g,f,none⟩=some (a:Int)/\W1.cell? ⟨g,i,none⟩=some (.int .i64 ((ls.getD i 0:Nat):Int))/\W1.frozen? ⟨g,i,none⟩=false/\(∀q,q=W1.drew.setCell ⟨g,i,none⟩ (.int .i64 a)->dt q b g (ls.set i a)/\Fr (fun k=>k=g) w q)/\Calls prog 122 #[b,.slice (some w.heap.size) 2 2] W1 fun e w'=>e= .returned (0:Int)/\W1=w'):=by
  show∀W1,_
  rintro W1 rfl;have o:GM w (w.alloc (.cells #[(i:Int),(f:Int)] 3)):=(GQ _ w).alloc _;have c:=h.frame o id id;have y:GM (w.alloc (.cells #[(i:Int),(f:Int)] 3)) (w.alloc (.cells #[(i:Int),(f:Int)] 3)).drew:=(GQ _ _).drew;have u:=c.frame y id id;refine ⟨c.Qd.cell 0 rfl,c.get hf,c.get (by rw [aK d,aQ,aK d];rfl),c.row.free i,?_,oC c w.heap.size 2 2 (fun j C=> ?_) (by omega)⟩
  ·rintro q rfl;refine ⟨⟨by rw [bc];exact u.Qd.Qg _ _ c.ne,?_,c.ne,by rw [bc];exact c.one,by rw [bc];exact c.small⟩,((o.trans y GN).mono (S':=fun k=>k=g) GN).setCell ⟨g,i,none⟩ (.inl rfl) _⟩;have:=u.row.set i (.int .i64 a);unfold lv at*;rw [dM];exact this
  ·match j,C with
   |0,_=>exact ⟨i,d,(aJ.new w [(i:Int),(f:Int)] 3).cell 0 rfl⟩
   |1,_=>exact ⟨f,r,(aJ.new w [(i:Int),(f:Int)] 3).cell 1 rfl⟩
 have z:(i:Int)<(ls.length:Int):=by omega
 have s:(f:Int)<(ls.length:Int):=by omega
 clear h hf
 go_enter func64,ntmps64
 go_wp2_with fail
 obtain ⟨D,E,F,G,x,m⟩:=t.out _ rfl;generalize w.alloc (.cells #[(i:Int),(f:Int)] 3)=W1 at*;have l:=ae m;have B:=ae x;clear m x t;refine l.out.mono ?_;rintro e w' ⟨rfl,rfl⟩;clear l;generalize ls.length=n at*;go_wp2;refine bR (fun w'=>w'=W1.drew) 12 rfl ?_;simp only [ai,an,aj,ao];refine aV [b,b,b] ?_
 iterate 3 (refine aW rfl (fun A v=>by go_simp) ?_;simp only [aa])
 refine aU ?_;refine aA (.slice (some g) n n) rfl (fun w p=>by subst p;go_simp) ?_;simp only [aa];refine aV [(i:Int),b,b,b] ?_
 iterate 4 (refine aW rfl (fun A v=>by go_simp) ?_;simp only [aa])
 refine aU ?_;refine aA (.slice (some g) n n) rfl (fun w p=>by subst p;go_simp) ?_;simp only [aa];refine aV [(f:Int),.pointer (some ⟨g,f,none⟩)] ?_
 iterate 2 (refine aW rfl (fun A v=>by go_simp) ?_;simp only [aa])
 refine aU ?_;refine aA (a:Int) rfl (fun w p=>by subst p;go_simp) ?_;simp only [aa];refine wpQuiet_nil ?_;rintro w6 rfl;go_wp2;go_ret;exact ⟨rfl,B.out _ rfl⟩
def Fx(J:List Nat->World->Prop)(b g:Nat)(ls rs:List Nat)(w:World):Prop:=dt w b g (rs++ls.drop rs.length)/\J rs w
def Eb(J:List Nat->World->Prop)(b g:Nat)(ls:List Nat)(e:Ending)(w':World):Prop:=e= .returned (.tuple #[])/\∃rs,rs.length=ls.length/\dt w' b g rs/\J rs w'
theorem EH{J:List Nat->World->Prop}{b g x:Nat}{ls rs:List Nat}{w:World}(a:∀rs w1 w2,J rs w1->Fr (fun k=>k=g) w1 w2->J rs w2)(f:rs.length<ls.length)(h:dt w b g (rs++ls.drop rs.length))(d:J (rs++[x]) w):
  Fx J b g ls (rs++[x]) (w.setCell ⟨g,rs.length,none⟩ (.int .i64 x)):=by
 have c:ls.drop rs.length=ls[rs.length]::ls.drop (rs.length+1):=ei f;have e:(rs++ls.drop rs.length).set rs.length x=(rs++[x])++ls.drop (rs++[x]).length:=by
  rw [c,aH,aP,it];rw [List.set_append_right _ _ (ak _),jj];rfl
 have hf:Fr (fun k=>k=g) w (w.setCell ⟨g,rs.length,none⟩ (.int .i64 x)):=(GQ (fun k=>k=g) w).setCell ⟨g,rs.length,none⟩ (.inl rfl) _;refine ⟨?_,a _ _ _ d hf⟩;rw [<-e];refine ⟨by rw [bc];exact h.Qd.Qg _ _ h.ne,?_,h.ne,by rw [bc];exact h.one,by rw [bc];exact h.small⟩;have:=h.row.set rs.length (.int .i64 x);unfold lv at*;rw [dM];exact this
theorem oB(F:Nat)(first cap:Array Value)(eg:∀args w,(callFunc F args).run prog w= .ok (.enter F args) w)(J:List Nat->World->Prop){w:World}{b g:Nat}{ls:List Nat}(h:dt w b g ls)(P:J [] w)
  (n:∀rs w1 w2,J rs w1->Fr (fun k=>k=g) w1 w2->J rs w2)
  (o:∀rs w1,J rs w1->ls[rs.length]? =some 0->J (rs++[0]) w1)
  (j:∀rs a w1,dt w1 b g (rs++ls.drop rs.length)->J rs w1->ls[rs.length]? =some a->a≠0->Calls prog F (first++ #[.int .i64 a]++cap) w1 fun e w2=>∃x:Nat,e= .returned (x:Int)/\dt w2 b g (rs++ls.drop rs.length)/\J (rs++[x]) w2):
  Calls prog 145 #[b,.func (.func F) first cap] w (Eb J b g ls):=by
 have T:=h.small;have O:=ae (fun rs x w1 (B:rs.length<ls.length) h hj=>EH (J:=J) (b:=b) (g:=g) (x:=x) (ls:=ls) (rs:=rs) (w:=w1) n B h hj);have G:=ae (fun rs w1 (u:Fx J b g ls rs w1)=>(⟨u.1.frame ((GQ (fun _=>False) w1).drew) id id,n _ _ _ u.2 ((GQ _ w1).drew)⟩:dt w1.drew b g (rs++ls.drop rs.length)/\J rs w1.drew));have W:=ae j;have HZ:=ae o;have N:=ae (show Fx J b g ls [] w from ⟨h,P⟩);have r:Hid (∀rs w1,rs.length<=ls.length->dt w1 b g (rs++ls.drop rs.length)->w1.cell? b=some (.slice (some g) ls.length ls.length)):=by
  show∀rs w1,_
  intro rs w1 B f;have:=f.Qd.cell 0 rfl;rw [aH,en,show rs.length+(ls.length-rs.length)=ls.length by omega] at this;exact this
 have H:Hid (∀rs w1 (a:Nat),ls[rs.length]? =some a->dt w1 b g (rs++ls.drop rs.length)->w1.cell? ⟨g,rs.length,none⟩=some (a:Int)/\w1.frozen? ⟨g,rs.length,none⟩=false):=by
  show∀rs w1 a,_
  intro rs w1 a s f;refine ⟨f.get ?_,f.row.free _⟩;rw [dJ (ak _),jj,fR,bg];exact s
 have X:Hid (∀rs w',rs.length=ls.length->Fx J b g ls rs w'->Eb J b g ls (.returned (.tuple #[])) w'):=by
  show∀rs w',_
  intro rs w' B u;refine ⟨rfl,rs,B,?_,u.2⟩;have:=u.1;rw [B,iL,List.append_nil] at this;exact this
 have V:Hid (∀i,i<ls.length->∃a,ls[i]? =some a):=by
  show∀i,_
  exact fun i u=>⟨_,aK u⟩
 have D:=r.out [] w (aF _) h;generalize (Eb J b g ls)=Q at*;clear h P n o j
 go_enter func145,ntmps145
 go_wp2
 go_loopw [13] (fun p wr=>∃rs:List Nat,p= .int .i64 (rs.length:Int)/\rs.length<=ls.length/\Hid (Fx J b g ls rs wr)) (fun p _=>(ls.length-intOf p).toNat)
 case atStart=>exact ⟨[],rfl,aF _,N⟩
 case round=>
  clear N D;obtain ⟨rs,rfl,E,f⟩:=hrel;by_cases m:rs.length<ls.length
  ·have U:(rs.length:Int)<(ls.length:Int):=by omega
   obtain ⟨a,s⟩:=V.out _ m;have ck:=(H.out rs wr a s f.out.1).1;by_cases t:a=0
   ·subst t;have Y:=ae (show Fx J b g ls (rs++[0]) wr from ⟨by
     have R:=f.out.1;have hd:ls.drop rs.length=ls[rs.length]::ls.drop (rs.length+1):=ei m;have h3:ls[rs.length]=0:=(al.1 s).2;rw [hd,h3] at R;rw [aH,aP,it];exact R,HZ.out rs wr f.out.2 s⟩)
    rw [show ((0:Nat):Int)=0 from rfl] at ck;clear f s;go_wp2;go_roundw
    case rel=>exact ⟨rs++[0],by rw [aH,aP];go_num,by rw [aH,aP];omega,Y⟩
    case measure=>simp [intOf];omega
   ·have S:¬(a:Int)=0:=by omega
    obtain ⟨y,A⟩:=G.out rs wr f.out;have D:=r.out rs _ E y;have q:=ae (W.out rs a _ y A s t);have z:=ae s;clear f s y A t;go_wp2;refine wp_region_any (by kernel_rfl) ?_;change wpAny _ _ _ _ _ _ _ (World.drew _);generalize af:wr.drew=wd at*;refine GP 0 b rfl ?_;refine GP 1 b rfl ?_;refine GP 2 b rfl ?_;refine GP 4 (.int .i64 (rs.length:Int)) rfl ?_;refine GP 5 (.func (.func F) first cap) rfl ?_;refine GP 6 (.int .i64 a) rfl ?_;simp only [Act.put];refine wpAny_ready (rs:=[3,7]) (by kernel_rfl) (by simp) ?_;refine AllReady.cons rfl (fun K c=> ?_) (AllReady.cons rfl (fun K c=> ?_) AllReady.nil)
    ·go_simp;refine c _ _ ?_;clear c K;refine GO 7 rfl fun K c=> ?_;go_simp;refine q.out.mono ?_;rintro e w2 ⟨x,rfl,d,l⟩;have D:=r.out rs _ E d;obtain ⟨I,L⟩:=H.out rs _ a z.out d;have C:=ae (O.out rs x w2 m d l);have M:max (x:Int) 0=(x:Int):=by omega
     clear d l q;refine c _ _ ?_;clear c K;refine GO 8 rfl fun K c=> ?_;go_simp;refine c _ _ ?_;clear c K;refine GO 9 rfl fun K c=> ?_;go_simp;refine c _ _ ?_;clear c K;refine GO 10 rfl fun K c=> ?_;go_simp;refine c _ _ ?_;clear c K;refine wpAny_done (by kernel_rfl) ?_ _;go_wp2;go_roundw
     case rel=>exact ⟨rs++[x],by rw [aH,aP];go_num,by rw [aH,aP];omega,C⟩
     case measure=>simp [intOf];omega
    ·go_simp;refine q.out.mono ?_;rintro e w2 ⟨x,rfl,d,l⟩;have D:=r.out rs _ E d;obtain ⟨I,L⟩:=H.out rs _ a z.out d;have C:=ae (O.out rs x w2 m d l);have M:max (x:Int) 0=(x:Int):=by omega
     clear d l q;refine c _ _ ?_;clear c K;refine wpAny_ready (rs:=[3,8]) (by kernel_rfl) (by simp) ?_;refine AllReady.cons rfl (fun K c=> ?_) (AllReady.cons rfl (fun K c=> ?_) AllReady.nil)
     ·go_simp;refine c _ _ ?_;clear c K;refine GO 8 rfl fun K c=> ?_;go_simp;refine c _ _ ?_;clear c K;refine GO 9 rfl fun K c=> ?_;go_simp;refine c _ _ ?_;clear c K;refine GO 10 rfl fun K c=> ?_;go_simp;refine c _ _ ?_;clear c K;refine wpAny_done (by kernel_rfl) ?_ _;go_wp2;go_roundw
      case rel=>exact ⟨rs++[x],by rw [aH,aP];go_num,by rw [aH,aP];omega,C⟩
      case measure=>simp [intOf];omega
     ·go_simp;refine c _ _ ?_;clear c K;refine GO 3 rfl fun K c=> ?_;go_simp;refine c _ _ ?_;clear c K;refine GO 9 rfl fun K c=> ?_;go_simp;refine c _ _ ?_;clear c K;refine GO 10 rfl fun K c=> ?_;go_simp;refine c _ _ ?_;clear c K;refine wpAny_done (by kernel_rfl) ?_ _;go_wp2;go_roundw
      case rel=>exact ⟨rs++[x],by rw [aH,aP];go_num,by rw [aH,aP];omega,C⟩
      case measure=>simp [intOf];omega
  ·have ad:¬(rs.length:Int)<(ls.length:Int):=by omega
   have Z:=ae (X.out rs wr (by omega) f.out);clear f E m;go_wp2;go_end0;exact Z.out
theorem vQ{w:World}{m b g Pg W Fs Us Hg:Nat}{S:Nat->Prop}{mp:Nat->Bool}{M:Nat->Nat}{ls:List Nat}(h:ed w m S Pg W Fs Us Hg mp M)(i:dt w b g ls)(a top Rm:Nat)(t:1<=a)(u:a<=top)(v:top<=W)(x:1<=Rm)(y:Rm<=4096):
  Calls prog 150 #[m,b,(a:Int),(top:Int),(Rm:Int)] w fun e w'=>e= .returned (0:Int)/\w=w':=by
 have c:=ae (gS h);have j:=ae (qk i);obtain ⟨k,l,n,o,p,q,r,s,d⟩:=h.at;have f:=i.one;have A:((W:Int)==0)=false:=by rw [aT];omega
 have z:((ls.length:Int)==0)=false:=by rw [aT];omega
 have B:¬(a:Int)<1:=by omega
 have C:decide ((top:Int)<(a:Int))=false:=by rw [az];omega
 have D:decide ((W:Int)<(top:Int))=false:=by rw [az];omega
 have E:¬(Rm:Int)<1:=by omega
 have F:¬(4096:Int)<(Rm:Int):=by omega
 have G:¬top<a:=by omega
 have H:¬W<top:=by omega
 clear h i t u v x y d f k l n o p q r s
 go_enter func150,ntmps150
 go_wp2_with fail
 refine c.out.mono ?_;rintro e w1 ⟨rfl,rfl⟩;go_wp2_with fail
 refine j.out.mono ?_;rintro e w1 ⟨rfl,rfl⟩;go_wp2_with fail
 refine c.out.mono ?_;rintro e w1 ⟨rfl,rfl⟩;clear c j;go_wp2;go_ret;exact ⟨rfl,rfl⟩
section
variable{t:TypeId}{v:Value}{fl fs:Nat}{r:Value}{I:jF}{dom:Nat->Prop}{L L' L'':Nat->Nat}{S:Nat->Prop}{w w1 w2:World}
theorem Bs(o:dy t v fl r I dom)(l:I L S w)(a i p f g x:Nat)(j:1<=a)(d:a<4611686018427387904)(h:i<256)(k:dom a)(n:jb L a p f g)(m:fg p f g i=3)(c:dom (a+1+i))(q:L (a+1+i)=x):Calls prog 86 #[.iface t v,(a:Int),(i:Int)] w (eB I L S w (.tuple #[.int .u64 x,(0:Int)])):=by
 have b:=ae (sZ o l a i p f g 3 x j d h k n m c q);rw [show ((3:Nat):Int)=3 from rfl] at b;unfold eB at*;clear o l k n m c q j d h
 go_enter func86,ntmps86
 go_wp2_with fail
 refine b.out.mono ?_;rintro e W1 ⟨rfl,hp⟩;clear b;go_wp2;go_ret2;exact ⟨rfl,hp⟩
theorem lp(q:dy t v fl r I dom)(m:I L S w)(a i p f g x:Nat)(k:1<=a)(d:a<4611686018427387904)(j:i<256)(l:dom a)(o:jb L a p f g)(n:fg p f g i=1)(c:dom (a+1+i))(s:L (a+1+i)=x)(z:x<2147483648):Calls prog 87 #[.iface t v,(a:Int),(i:Int)] w (eB I L S w (.tuple #[(x:Int),(0:Int)])):=by
 have b:=ae (sZ q m a i p f g 1 x k d j l o n c s);rw [show ((1:Nat):Int)=1 from rfl] at b;unfold eB at*;obtain ⟨B,h⟩:∃B:Int,B=2147483647:=⟨_,rfl⟩;have u:(x:Int)<=B:=by omega
 have y:decide (B<(x:Int))=false:=by rw [az];omega
 have A:IntKind.i64.wrap (x:Int)=x:=by rw [IntKind.wrap_i64];omega
 rw [h] at y;clear h u;clear q m l o n c s k d j z;generalize (x:Int)=X at*
 go_enter func87,ntmps87
 go_wp2_with fail
 refine b.out.mono ?_;rintro e W1 ⟨rfl,hp⟩;clear b;go_wp2;go_ret2;exact ⟨rfl,hp⟩
theorem un(s:dy t v fl r I dom)(u:ph t v fs r I dom)(n:I L S w)(a i p f g x:Nat)(l:1<=a)(j:a<4611686018427387904)(k:i<256)(m:dom a)(q:jb L a p f g)(o:fg p f g i=3)(h:dom (a+1+i))(y:x<18446744073709551616):Calls prog 85 #[.iface t v,(a:Int),(i:Int),.int .u64 x] w (eB I (ej L (a+1+i) x) S w (.int .i64 0)):=by
 have c:=ae (xO s u n a i p f g 3 x l j k m q o h y);rw [show ((3:Nat):Int)=3 from rfl] at c;obtain ⟨d,b⟩:∃d,d=ej L (a+1+i) x:=⟨_,rfl⟩;rw [<-b] at c ⊢;unfold eB at*;clear s u n m q o h y l j k b
 go_enter func85,ntmps85
 go_wp2_with fail
 refine c.out.mono ?_;rintro e W1 ⟨rfl,hp⟩;clear c;go_wp2;go_ret;exact ⟨rfl,hp⟩
theorem qw(E:dy t v fl r I dom)(k:ph t v fs r I dom)(A:I L S w)(a i p f g x:Nat)(u:1<=a)(o:a<4611686018427387904)(s:i<256)(y:dom a)(D:jb L a p f g)(C:fg p f g i=1)(n:dom (a+1+i))(F:x<2147483648):Calls prog 61 #[.iface t v,(a:Int),(i:Int),(x:Int)] w (eB I (ej L (a+1+i) x) S w (.int .i64 0)):=by
 have j:=ae (oJ E A a i p f g 1 u o s y D C);rw [show ((1:Nat):Int)=1 from rfl] at j;have K:=k.Xv;have J:=k.Xw;have d:=ae (fun w1 (h:iY I L S w w1)=>iY.store k n (Nat.lt_trans F (by omega)) h);obtain ⟨z,G⟩:∃z:Int,z=((a+1+i:Nat):Int):=⟨_,rfl⟩;obtain ⟨m,c⟩:∃m,m=ej L (a+1+i) x:=⟨_,rfl⟩;rw [<-G] at j d;rw [<-c] at d ⊢;obtain ⟨B,q⟩:∃B:Int,B=2147483647:=⟨_,rfl⟩;have N:decide ((x:Int)<0)=false:=by rw [az];omega
 have H:decide (B<(x:Int))=false:=by rw [az];omega
 have O:IntKind.u64.wrap (x:Int)=x:=by rw [IntKind.wrap_u64];omega
 rw [q] at H;clear q;generalize (x:Int)=X at*;clear E A y D C n F G u o s k c;unfold eB at*
 go_enter func61,ntmps61
 go_wp2_with fail
 refine j.out.mono ?_;rintro e W1 ⟨rfl,hp⟩;have b:=ae (d.out _ hp);clear hp d j;go_wp2_with fail
 refine b.out.mono ?_;rintro e M ⟨rfl,l⟩;clear b;go_wp2;go_ret;exact ⟨rfl,l⟩
end
structure je where
 E:Nat->Nat
 xs:List Nat
 lost:Bool
 no:Nat
 nw:Nat
def cO:Nat:=1
structure AB(EL:cF)(kb sb n0:Nat)(S0:Nat->Prop):Prop where
 s:∀k,S0 k->¬EL.has k/\k≠kb/\k≠sb/\k≠cO/\k<n0
 e:∀k,EL.has k->k≠kb/\k≠sb/\k≠cO/\k<n0
 k1:kb<n0
 s1:sb<n0
 t1:cO<n0
 d1:kb≠sb
 d2:kb≠cO
 d3:sb≠cO
def GG(EL:cF)(kb sb n0:Nat)(S0:Nat->Prop)(k:Nat):Prop:=S0 k\/EL.has k\/k=kb\/k=sb\/n0<=k
structure kR(I:jF)(t:TypeId)(v wk:Value)(L:Nat->Nat)(EL:cF)(W kb sb Rm:Nat)(S0:Nat->Prop)(w0:World)(PB:Nat->Prop)(wp:World)(S:Nat->Prop)(sv:Value)(Hg nr nv:Int)(st:je)(w:World):Prop where
 sp:I L S w
 Qd:aJ w kb [.iface t v,EL.m,sb,wk,((st.no:Int):Int),((st.nw:Int):Int),(nr:Int),(nv:Int)] 225
 ext:eJ w EL W st.E
 stk:tF w 291 sb sv (st.xs.map Int.ofNat) Rm Hg st.lost
 Qp:et w
 s0:∀k,S k->S0 k\/w0.heap.size<=k
 Za:∀k,sv.ownBlock=some k->w0.heap.size<=k/\¬S k
 fr:Fr (GG EL kb sb w0.heap.size S0) w0 w
 prot:∀k,PB k->w0.heap.size<=k/\k<w.heap.size/\¬S k/\sv.ownBlock≠some k/\w.heap[k]? =wp.heap[k]?
def iZ(I:jF)(t:TypeId)(v wk:Value)(L:Nat->Nat)(EL:cF)(W kb sb Rm:Nat)(S0:Nat->Prop)(w0:World)(PB:Nat->Prop)(wp:World)(st:je)(w:World):Prop:=
 ∃S sv Hg nr nv,kR I t v wk L EL W kb sb Rm S0 w0 PB wp S sv Hg nr nv st w
section
variable{I:jF}{t:TypeId}{v wk:Value}{L:Nat->Nat}{EL:cF}{W kb sb Rm:Nat}{S0:Nat->Prop}{w0:World}{PB:Nat->Prop}{wp:World}{S S1:Nat->Prop}{sv sv1:Value}{Hg Qj nr nv:Int}{st:je}{w w1:World}{fl:Nat}{r:Value}{dom:Nat->Prop}
theorem kR.size(h:kR I t v wk L EL W kb sb Rm S0 w0 PB wp S sv Hg nr nv st w):w0.heap.size<=w.heap.size:=h.fr.size
theorem kR.svlt(h:kR I t v wk L EL W kb sb Rm S0 w0 PB wp S sv Hg nr nv st w):∀k,sv.ownBlock=some k->k<w.heap.size:=fun k a=>(h.stk.2.1.lt k a).2
theorem tF.Qa{T:Nat->Prop}{a:TypeId}{b:Nat}{xs:List Int}{Rm Hg:Int}{lost:Bool}(h:tF w a b sv xs Rm Hg lost)(hf:Fr T w w1)(c:¬T b)(d:∀k,sv.ownBlock=some k->¬T k):tF w1 a b sv xs Rm Hg lost:=
 ⟨h.1.frame hf c,cD h.2.1 hf d,h.2.2⟩
theorem kR.sp_(c:AB EL kb sb w0.heap.size S0)(h:kR I t v wk L EL W kb sb Rm S0 w0 PB wp S sv Hg nr nv st w)(hp:iY I L S w w1):iZ I t v wk L EL W kb sb Rm S0 w0 PB wp st w1:=by
 obtain ⟨S1,n,d,i⟩:=hp;have l:=h.size;have g:∀k,k<w0.heap.size->¬S0 k->¬S k:=fun k a j f=>by
  rcases h.s0 k f with h|h
  ·exact j h
  ·omega
 refine ⟨S1,sv,Hg,nr,nv,n,h.Qd.frame d (g _ c.k1 (fun e=>(c.s _ e).2.1 rfl)),h.ext.frame d (fun k a=>g k (c.e k a).2.2.2 (fun e=>(c.s _ e).1 a)),h.stk.Qa d (g _ c.s1 (fun e=>(c.s _ e).2.2.1 rfl)) (fun k a=>(h.Za k a).2),aS h.Qp d (g _ c.t1 (fun e=>(c.s _ e).2.2.2.1 rfl)),fun k a=> ?_,fun k a=>⟨(h.Za k a).1,fun f=> ?_⟩,h.fr.trans d (fun k a=> .inl ?_),fun k a=> ?_⟩
 ·rcases i k a with b|b
  ·exact h.s0 k b
  ·exact .inr (by omega)
 ·rcases i k f with b|b
  ·exact (h.Za k a).2 b
  ·have:=h.svlt k a;omega
 ·rcases h.s0 k a with b|b
  ·exact .inl b
  ·exact .inr (.inr (.inr (.inr b)))
 ·obtain ⟨p1,p2,p3,p4,m⟩:=h.prot k a;have:=d.size;exact ⟨p1,by omega,fun f=>by rcases i k f with b|b;exact p3 b;omega,p4,(d.block k p2 p3).trans m⟩
theorem iZ.Fh(b:dy t v fl r I dom)(a:AB EL kb sb w0.heap.size S0)(h:iZ I t v wk L EL W kb sb Rm S0 w0 PB wp st w)(hf:GM w w1):iZ I t v wk L EL W kb sb Rm S0 w0 PB wp st w1:=by
 obtain ⟨S,sv,Hg,nr,nv,h⟩:=h;exact h.sp_ a (b.Fh h.sp hf)
theorem kR.ext_(i:dy t v fl r I dom)(a:AB EL kb sb w0.heap.size S0)(h:kR I t v wk L EL W kb sb Rm S0 w0 PB wp S sv Hg nr nv st w){c:Nat->Nat}(g:eJ w1 EL W c)(hf:Fr EL.turns w w1):iZ I t v wk L EL W kb sb Rm S0 w0 PB wp {st with E:=c} w1:=by
 have j:=h.size;refine ⟨S,sv,Hg,nr,nv,i.stays _ _ _ _ _ h.sp hf (fun k b e=> ?_) (fun e=>(a.e _ (cF.Qh e)).2.2.1 rfl),h.Qd.frame hf (fun e=>(a.e _ (cF.Qh e)).1 rfl),g,h.stk.Qa hf (fun e=>(a.e _ (cF.Qh e)).2.1 rfl) (fun k b e=> ?_),aS h.Qp hf (fun e=>(a.e _ (cF.Qh e)).2.2.1 rfl),h.s0,h.Za,h.fr.trans hf (fun k b=> .inl (.inr (.inl (cF.Qh b)))),fun k b=> ?_⟩
 ·have f:=a.e k (cF.Qh e);rcases h.s0 k b with d|d
  ·exact (a.s k d).1 (cF.Qh e)
  ·omega
 ·have f:=a.e k (cF.Qh e);have:=(h.Za k b).1;omega
 ·obtain ⟨p1,p2,p3,p4,l⟩:=h.prot k b;have:=hf.size;exact ⟨p1,by omega,p3,p4,(hf.block k p2 (fun e=>by have:=(a.e k (cF.Qh e)).2.2.2;omega)).trans l⟩
theorem kR.stk_(i:dy t v fl r I dom)(b:AB EL kb sb w0.heap.size S0)(h:kR I t v wk L EL W kb sb Rm S0 w0 PB wp S sv Hg nr nv st w){xs:List Nat}{lost:Bool}(l:tF w1 291 sb sv1 (xs.map Int.ofNat) Rm Qj lost)(hf:Fr (fun k=>k=sb\/sv.ownBlock=some k) w w1)(j:∀k,sv1.ownBlock=some k->sv.ownBlock=some k\/w.heap.size<=k):iZ I t v wk L EL W kb sb Rm S0 w0 PB wp {st with xs:=xs,lost:=lost} w1:=by
 have m:=h.size;have d:∀k,k<w0.heap.size->k≠sb->¬(k=sb\/sv.ownBlock=some k):=fun k a f e=>by
  rcases e with e|e
  ·exact f e
  ·have:=(h.Za k e).1;omega
 refine ⟨S,sv1,Qj,nr,nv,i.stays _ _ _ _ _ h.sp hf (fun k a e=> ?_) (d _ b.t1 (Ne.symm b.d3)),h.Qd.frame hf (d _ b.k1 b.d1),h.ext.frame hf (fun k a=>d k (b.e k a).2.2.2 (b.e k a).2.1),l,aS h.Qp hf (d _ b.t1 (Ne.symm b.d3)),h.s0,fun k a=> ?_,h.fr.trans hf (fun k a=> .inl ?_),fun k a=> ?_⟩
 ·rcases e with rfl|e
  ·rcases h.s0 _ a with c|c
   ·exact (b.s _ c).2.2.1 rfl
   ·have:=b.s1;omega
  ·exact (h.Za k e).2 a
 ·rcases j k a with e|e
  ·exact h.Za k e
  ·exact ⟨by omega,fun c=>by have:=i.lt _ _ _ h.sp k c;omega⟩
 ·rcases a with e|e
  ·exact .inr (.inr (.inr (.inl e)))
  ·exact .inr (.inr (.inr (.inr (h.Za k e).1)))
 ·obtain ⟨p1,p2,p3,p4,n⟩:=h.prot k a;have:=hf.size;exact ⟨p1,by omega,p3,fun e=>by rcases j k e with g|g;exact p4 g;omega,(hf.block k p2 (fun e=>by rcases e with e|e;have:=b.s1;omega;exact p4 e)).trans n⟩
theorem kR.Yv(f:dy t v fl r I dom)(b:AB EL kb sb w0.heap.size S0)(h:kR I t v wk L EL W kb sb Rm S0 w0 PB wp S sv Hg nr nv st w){no nw:Nat}{nr1 nv1:Int}(d:aJ w1 kb [.iface t v,EL.m,sb,wk,(no:Int),(nw:Int),(nr1:Int),(nv1:Int)] 225)(hf:Fr (fun k=>k=kb) w w1):kR I t v wk L EL W kb sb Rm S0 w0 PB wp S sv Hg nr1 nv1 {st with no:=no,nw:=nw} w1:=by
 have g:=h.size;refine ⟨f.stays _ _ _ _ _ h.sp hf (fun k a e=> ?_) (fun e=>b.d2 e.symm),d,h.ext.frame hf (fun k a e=>(b.e k a).1 e),h.stk.Qa hf (fun e=>b.d1 e.symm) (fun k a e=> ?_),aS h.Qp hf (fun e=>b.d2 e.symm),h.s0,h.Za,h.fr.trans hf (fun k a=> .inl (.inr (.inr (.inl a)))),fun k a=> ?_⟩
 ·subst e;rcases h.s0 _ a with c|c
  ·exact (b.s _ c).2.1 rfl
  ·have:=b.k1;omega
 ·have:=(h.Za k a).1;have:=b.k1;omega
 ·obtain ⟨p1,p2,p3,p4,i⟩:=h.prot k a;have:=hf.size;exact ⟨p1,by omega,p3,p4,(hf.block k p2 (fun e=>by have:=b.k1;omega)).trans i⟩
end
theorem qD(k:Value)(w:World):Calls prog 248 #[k,.bool true] w fun e w'=>e= .returned (.tuple #[])/\w=w':=by
 go_enter func248,ntmps248
 go_wp2;go_end0;exact ⟨rfl,rfl⟩
def eQ(G:Gr)(Rm:Nat)(st:je)(a:Nat):je:=
 if a=0\/st.E a≠0 then st else
  {E:=ec st.E a (G.size a),xs:=if st.xs.length<Rm then st.xs++[a] else st.xs,lost:=if st.xs.length<Rm then st.lost else true,no:=st.no+1,nw:=st.nw+G.size a}
def jy(L:Nat->Nat)(dom:Nat->Prop)(G:Gr)(a:Nat):Prop:=
 ∃p f g,jb L a p f g/\G.size a=1+(p+f+g)/\G.Qr a=(List.range p).map (fun i=>L (a+1+i))/\(∀k,a<=k->k<a+G.size a->dom k)/\∀i,i<p->L (a+1+i)<2147483648
def pj(I:jF)(t:TypeId)(v wk:Value)(L:Nat->Nat)(EL:cF)(W kb sb Rm:Nat)(S0:Nat->Prop)(w0:World)(PB:Nat->Prop)(wp:World)(st:je)(e:Ending)(w':World):Prop:=e= .returned (.tuple #[])/\iZ I t v wk L EL W kb sb Rm S0 w0 PB wp st w'
section
variable{I:jF}{t:TypeId}{v wk:Value}{L:Nat->Nat}{EL:cF}{W kb sb Rm:Nat}{S0:Nat->Prop}{w0:World}{PB:Nat->Prop}{wp:World}{S S1:Nat->Prop}{sv sv1:Value}{Hg Qj nr nv:Int}{st:je}{w w1:World}{fl:Nat}{r:Value}{dom:Nat->Prop}{G:Gr}{rs:List Nat}{N:Nat}
theorem vZ(R:dy t v fl r I dom)(J:AB EL kb sb w0.heap.size S0)(hG:gw G rs N)(hW:N<=W)(hO:∀a,G.size a≠0->jy L dom G a)(h:iZ I t v wk L EL W kb sb Rm S0 w0 PB wp st w)(hm:fQ G rs st.E)(a:Nat)(ha:a≠0)(hr:Reach G rs a)(U:st.E a=0)(ay:st.no<=1048576)(az:st.nw<=1048576)(P:Rm<=4096):
  Calls prog 203 #[kb,(a:Int)] w (pj I t v wk L EL W kb sb Rm S0 w0 PB wp (eQ G Rm st a)):=by
 have u:=hG.reach hr;obtain ⟨p,f,g,o1,o2,o3,o4,o5⟩:=hO a u;have ap:=hG.top a u;have b:=hm.Rm hG u U;obtain ⟨S,sv,Hg,nr,nv,z⟩:=h;have av:=z.ext.small.2;have HF:=ae (j6 z.ext z.Qp a (by omega));have m:∀e w',gx st.E a w e w'->e= .returned (.tuple #[(0:Int),(0:Int),.bool false])/\w=w':=by
  rintro e w' ⟨⟨s,n,h1,h2,h3,_⟩|⟨_,h1⟩,h2⟩
  ·have:=b.1 s h1;omega
  ·exact ⟨h1,h2⟩
 have ad:=ae m;have k0:=z.Qd.cell 0 rfl;have k1:=z.Qd.cell 1 rfl;have H:=ae (jX R z.sp a p f g (by omega) (o4 a (ak _) (by omega)) o1);have ai:=ae (fun w1 (hp:iY I L S w w1)=>z.sp_ J hp);have D:=ae (fun w1 w2 (c:iZ I t v wk L EL W kb sb Rm S0 w0 PB wp st w1) (hf:GM w1 w2)=>c.Fh R J hf);have F:=ae (fun w1=>qD (.pointer (some ⟨kb,0,none⟩)) w1);have i:=ae (fun w1=>iF p f g w1);have A:gg p f g=((1+(p+f+g):Nat):Int):=by rw [gg,aG o1.2];push_cast;omega
 rw [A] at i;obtain ⟨n,hn⟩:∃n,1+(p+f+g)=n:=⟨_,rfl⟩;rw [hn] at i o2;have X:=ae (fun w1 S sv Hg nr nv (c:kR I t v wk L EL W kb sb Rm S0 w0 PB wp S sv Hg nr nv st w1)=>(yg c.ext c.Qp a n (by omega) (by omega) b.1 (fun s h1 h2=>by have:=b.2 s h1 h2;omega)).mono (fun e w2 ⟨q1,q2,q3⟩=>(⟨q1,c.ext_ R J q2 q3⟩:e=Ending.returned (0:Int)/\iZ I t v wk L EL W kb sb Rm S0 w0 PB wp {st with E:=ec st.E a n} w2)));have C:=ae (fun w1 w2 S sv Hg nr nv d no nw (c:kR I t v wk L EL W kb sb Rm S0 w0 PB wp S sv Hg nr nv d w1) U hf=>c.Yv (w1:=w2) (no:=no) (nw:=nw) (nr1:=nr) (nv1:=nv) R J U hf);have af:=ae (fun w1 S sv Hg nr nv d (hx:d.xs=st.xs/\d.lost=st.lost) (c:kR I t v wk L EL W kb sb Rm S0 w0 PB wp S sv Hg nr nv d w1)=>by
  by_cases hl:st.xs.length<Rm
  ·exact (zg sb sv _ Rm Hg (a:Int) _ w1 c.stk (by rw [hx.1,bL];omega) (by omega)).mono (fun e w2 ⟨q1,aB,q2,q3,q4⟩=>(⟨.inl q1,by
    rw [aG hl,aG hl,<-hx.1,<-hx.2];refine c.stk_ R J (sv1:=aB) (Qj:=(max Hg (((d.xs.map Int.ofNat).length:Int)+1))) ?_ q3 q4;rw [bD];exact q2⟩:(e=Ending.returned (.bool true)\/e=Ending.returned (.bool false))/\iZ I t v wk L EL W kb sb Rm S0 w0 PB wp {d with xs:=if st.xs.length<Rm then st.xs++[a] else st.xs,lost:=if st.xs.length<Rm then st.lost else true} w2))
  ·exact (zh sb sv _ Rm Hg (a:Int) _ w1 c.stk (by rw [hx.1,bL];omega)).mono (fun e w2 ⟨q1,q2,q3⟩=>(⟨.inr q1,by
    rw [aE hl,aE hl,<-hx.1];exact c.stk_ R J q2 (q3.mono (fun k hk=> .inl (.inl hk))) (fun k hk=> .inl hk)⟩:(e=Ending.returned (.bool true)\/e=Ending.returned (.bool false))/\iZ I t v wk L EL W kb sb Rm S0 w0 PB wp {d with xs:=if st.xs.length<Rm then st.xs++[a] else st.xs,lost:=if st.xs.length<Rm then st.lost else true} w2)))
 have y:∀w',iZ I t v wk L EL W kb sb Rm S0 w0 PB wp {E:=ec st.E a n,xs:=if st.xs.length<Rm then st.xs++[a] else st.xs,lost:=if st.xs.length<Rm then st.lost else true,no:=st.no+1,nw:=st.nw+n} w'->pj I t v wk L EL W kb sb Rm S0 w0 PB wp (eQ G Rm st a) (.returned (.tuple #[])) w':=by
  intro w' c;refine ⟨rfl,?_⟩;unfold eQ;rw [aE (by omega),o2];exact c
 have x:=ae y;generalize (pj I t v wk L EL W kb sb Rm S0 w0 PB wp (eQ G Rm st a))=Q at*;have aD:n<=1048576:=by omega
 have aL:IntKind.i64.wrap ((st.no:Int)+1)=(st.no:Int)+1:=by rw [IntKind.wrap_i64];omega
 have aN:IntKind.i64.wrap ((st.nw:Int)+(n:Int))=(st.nw:Int)+(n:Int):=by rw [IntKind.wrap_i64];omega
 have aC:¬(a:Int)=0:=by omega
 unfold jO at i;unfold tG at H;unfold gD at*;clear R J hG hW hO hm hr U o1 o2 o3 o4 o5 ap b z av m A u y ay az P hn
 go_enter func203,ntmps203
 go_wp2_with fail
 refine HF.out.mono ?_;intro e w1 hp;obtain ⟨rfl,rfl⟩:=ad.out _ _ hp;clear hp HF ad;go_wp2_with fail
 refine H.out.mono ?_;rintro e T ⟨rfl,hp⟩;have am:=ai.out _ hp;obtain ⟨W3,K⟩:∃W3,T.alloc (.cells #[(p:Int),(f:Int),(g:Int)] 31)=W3:=⟨_,rfl⟩;have al:GM T W3:=by rw [<-K];exact (GQ _ _).alloc _
 have aj:=ae (show aJ W3 T.heap.size [(p:Int),(f:Int),(g:Int)] 31 from by rw [<-K];exact aJ.new T _ _);have Y:=ae (D.out _ _ am al);clear hp am al ai H k0 k1
 go_upto_region 4 with fail
 clear K;generalize T.heap.size=q at*;clear T;go_wp2_with fail
 refine (F.out _).mono ?_;rintro e w4 ⟨rfl,rfl⟩;have ah:Hid ((prog.info? 31).map (·.size)=some 3):=by show _=_;kernel_rfl
 go_wp2_with (refine wpList_load_row rfl 31 _ rfl q rfl 31 #[(p:Int),(f:Int),(g:Int)] _ _ aj.out underlying31 rfl ah.out ?_)
 refine (i.out _).mono ?_;rintro e w5 ⟨rfl,ao⟩;have aw:=D.out _ _ Y.out ao;clear ao Y aj i D ah;obtain ⟨S5,aK,ax,aF,aH,M⟩:=aw;have V:=ae (X.out _ _ _ _ _ _ M);have k1:=M.Qd.cell 1 rfl;clear M X;go_wp2_with fail
 refine V.out.mono ?_;rintro e w6 ⟨rfl,an⟩;have Z:=ae an;clear an V k1;go_wp2_with fail
 refine (F.out _).mono ?_;rintro e w7 ⟨rfl,rfl⟩;obtain ⟨S6,au,o,aq,ar,j⟩:=Z.out;clear Z F;have k4:=j.Qd.cell 4 rfl;have f4:=j.Qd.free 4;have hX:∀B,B=w6.setCell ⟨kb,4,none⟩ (.int .i64 ((st.no:Int)+1))->kR I t v wk L EL W kb sb Rm S0 w0 PB wp S6 au o aq ar {E:=ec st.E a n,xs:=st.xs,lost:=st.lost,no:=st.no+1,nw:=st.nw} B:=by
  rintro B rfl;exact C.out _ _ _ _ _ _ _ _ (st.no+1) st.nw j (j.Qd.set 4 (.int .i64 ((st.no:Int)+1))) ((GQ (fun k=>k=kb) w6).setCell ⟨kb,4,none⟩ (.inl rfl) _)
 have HX:=ae hX;clear hX j
 go_upto_region 8 with fail
 have l:=HX.out _ rfl;generalize w6.setCell ⟨kb,4,none⟩ (.int .i64 ((st.no:Int)+1))=B at*;clear HX k4 f4 w6;have k5:=l.Qd.cell 5 rfl;have f5:=l.Qd.free 5;have hX:∀w9,w9=B.setCell ⟨kb,5,none⟩ (.int .i64 ((st.nw:Int)+(n:Int)))->kR I t v wk L EL W kb sb Rm S0 w0 PB wp S6 au o aq ar {E:=ec st.E a n,xs:=st.xs,lost:=st.lost,no:=st.no+1,nw:=st.nw+n} w9:=by
  rintro w9 rfl;exact C.out _ _ _ _ _ _ _ _ (st.no+1) (st.nw+n) l (by have:=l.Qd.set 5 (.int .i64 ((st.nw:Int)+(n:Int)));exact this) ((GQ (fun k=>k=kb) B).setCell ⟨kb,5,none⟩ (.inl rfl) _)
 have HX:=ae hX;clear hX l C
 go_upto_region 9 with fail
 have O:=HX.out _ rfl;generalize B.setCell ⟨kb,5,none⟩ (.int .i64 ((st.nw:Int)+(n:Int)))=w9 at*;clear HX k5 f5 B;have k2:=O.Qd.cell 2 rfl;have HP:=ae (af.out _ _ _ _ _ _ _ (by exact ⟨rfl,rfl⟩) O);clear O af;go_wp2_with fail
 refine HP.out.mono ?_;rintro e aM ⟨U,c⟩;have HQ:=ae (x.out _ c);clear c HP x k2;rcases U with rfl|rfl
 ·go_wp2;go_end0;exact HQ.out
 ·go_wp2;go_end0;exact HQ.out
end
section
variable{I:jF}{t:TypeId}{v wk:Value}{L:Nat->Nat}{EL:cF}{W kb sb Rm:Nat}{S0:Nat->Prop}{w0:World}{PB:Nat->Prop}{wp:World}{S S1:Nat->Prop}{sv sv1:Value}{Hg Qj nr nv:Int}{st:je}{w w1:World}{fl:Nat}{r:Value}{dom:Nat->Prop}{G:Gr}{rs:List Nat}{N:Nat}
theorem ut(h:iZ I t v wk L EL W kb sb Rm S0 w0 PB wp st w):
  Calls prog 203 #[kb,(0:Int)] w (pj I t v wk L EL W kb sb Rm S0 w0 PB wp st):=by
 have H:=ae h;clear h;generalize a:(pj I t v wk L EL W kb sb Rm S0 w0 PB wp st)=Q;have b:Hid (∀w',iZ I t v wk L EL W kb sb Rm S0 w0 PB wp st w'->Q (.returned (.tuple #[])) w'):=by show∀w',_;intro w' h;rw [<-a];exact ⟨rfl,h⟩
 clear a
 go_enter func203,ntmps203
 go_wp2;refine bodyPost_ret (results_none rfl _ _ _) rfl ?_;exact b.out _ H.out
theorem vY(h:iZ I t v wk L EL W kb sb Rm S0 w0 PB wp st w)(a:Nat)(y:a≠0)(i:st.E a≠0):
  Calls prog 203 #[kb,(a:Int)] w (pj I t v wk L EL W kb sb Rm S0 w0 PB wp st):=by
 have H:=ae h;obtain ⟨S,sv,Hg,nr,nv,c⟩:=h;have f:=c.ext.top a i;have g:=c.ext.small.2;have j:=ae (j6 c.ext c.Qp a (by omega));have b:∀e w',gx st.E a w e w'->(∃n:Nat,e= .returned (.tuple #[(a:Int),(n:Int),.bool true]))/\w=w':=by
  rintro e w' ⟨⟨s,n,k,u,x,p⟩|⟨k,_⟩,o⟩
  ·refine ⟨⟨n,?_⟩,o⟩;have:s=a:=by
    rcases aY s a with h|h
    ·have:=c.ext.apart s a h (by omega) i;omega
    ·omega
   rw [p,this]
  ·have:=k a (ak a);omega
 have d:=ae b;have z:=c.Qd.cell 1 rfl;generalize l:(pj I t v wk L EL W kb sb Rm S0 w0 PB wp st)=Q;have m:Hid (∀w',iZ I t v wk L EL W kb sb Rm S0 w0 PB wp st w'->Q (.returned (.tuple #[])) w'):=by show∀w',_;intro w' h;rw [<-l];exact ⟨rfl,h⟩
 have q:¬(a:Int)=0:=by omega
 clear l c f g b i
 go_enter func203,ntmps203
 go_wp2_with fail
 refine j.out.mono ?_;intro e w1 hp;obtain ⟨⟨n,rfl⟩,rfl⟩:=d.out _ _ hp;clear hp j d;go_wp2;refine bodyPost_ret (results_none rfl _ _ _) rfl ?_;exact m.out _ H.out
theorem sa(n:dy t v fl r I dom)(j:AB EL kb sb w0.heap.size S0)(g:gw G rs N)(k:N<=W)(i:∀a,G.size a≠0->jy L dom G a)(h:iZ I t v wk L EL W kb sb Rm S0 w0 PB wp st w)(m:fQ G rs st.E)(a:Nat)(l:a≠0->Reach G rs a)(e:st.no<=1048576)(f:st.nw<=1048576)(b:Rm<=4096):
  Calls prog 203 #[kb,(a:Int)] w (pj I t v wk L EL W kb sb Rm S0 w0 PB wp (eQ G Rm st a)):=by
 by_cases c:a=0
 ·subst c;have:eQ G Rm st 0=st:=aG (.inl rfl);rw [this];exact ut h
 ·by_cases d:st.E a=0
  ·exact vZ n j g k i h m a c (l c) d e f b
  ·have:eQ G Rm st a=st:=aG (.inr d);rw [this];exact vY h a c d
end
theorem uz{E:Nat->Nat}{a n N:Nat}(t:n≠0)(m:∀s,s<=a->s+E s<=a)(p:∀s,a<=s->E s≠0->a+n<=s)(o:a+n<=N):Qb (aI (ec E a n)) 0 N=Qb (aI E) 0 N+n:=by
 have r:E a=0:=by have:=m a (ak a);omega
 have l:∀i,i<a->aI (ec E a n) i=aI E i:=fun i q=>by
  rw [bS,cX,cX];constructor
  ·rintro ⟨s,d,c⟩;exact ⟨s,d,by unfold ec at c;rw [aE (by omega)] at c;exact c⟩
  ·rintro ⟨s,d,c⟩;exact ⟨s,d,by unfold ec;rw [aE (by omega)];exact c⟩
 have j:∀i,a<=i->i<a+n->aI (ec E a n) i=true:=fun i d c=>cX.2 ⟨a,d,by unfold ec;rw [aG rfl];exact c⟩
 have e:∀i,a<=i->i<a+n->aI E i=false:=fun i d c=>by
  rw [be];intro h;obtain ⟨s,u,v⟩:=cX.1 h;rcases aY a s with h|h
  ·have:=p s (by omega) (by omega);omega
  ·have:=m s h;omega
 have Hg:∀i,a+n<=i->aI (ec E a n) i=aI E i:=fun i q=>by
  rw [bS,cX,cX];constructor
  ·rintro ⟨s,d,c⟩;unfold ec at c;split at c
   ·omega
   ·exact ⟨s,d,c⟩
  ·rintro ⟨s,d,c⟩;refine ⟨s,d,?_⟩;unfold ec;rw [aE (by rintro rfl;omega)];exact c
 rw [bJ (aI (ec E a n)) (aF a) (show a<=N by omega),bJ (aI E) (aF a) (show a<=N by omega),bJ (aI (ec E a n)) (show a<=a+n by omega) o,bJ (aI E) (show a<=a+n by omega) o,
  cI (f:=aI (ec E a n)) (g:=aI E) (a:=0) (b:=a) (fun i _ h=>l i h),oX (f:=aI (ec E a n)) (fun i h k=>j i h k),cu (f:=aI E) (a:=a) (b:=a+n) (fun i h k=>e i h k),cI (f:=aI (ec E a n)) (g:=aI E) (a:=a+n) (b:=N) (fun i h _=>Hg i h)]
 omega
structure jR(G:Gr)(rs:List Nat)(N Rm:Nat)(st:je):Prop where
 marked:fQ G rs st.E
 no:st.no=Qb (dj st.E) 0 N
 nw:st.nw=Qb (aI st.E) 0 N
 xs:∀x∈st.xs,st.E x≠0
 rm:st.xs.length<=Rm
structure kM(st st':je):Prop where
 mono:∀b,st.E b≠0->st'.E b≠0
 xs:∀x∈st.xs,x∈st'.xs
 new:∀b,st'.E b≠0->st.E b≠0\/b∈st'.xs\/st'.lost=true
 lost:st.lost=true->st'.lost=true
 Xr:st'.lost=true->st.lost=true\/st.no<st'.no
 no:st.no<=st'.no
 len:st'.xs.length+st.no<=st.xs.length+st'.no
theorem kM.refl(a:je):kM a a:=⟨fun _ h=>h,fun _ h=>h,fun _ h=> .inl h,id,.inl,ak _,ak _⟩
theorem kM.trans{a b c:je}(h:kM a b)(k:kM b c):kM a c:=
 ⟨fun x g=>k.mono x (h.mono x g),fun x g=>k.xs x (h.xs x g),fun x g=>by
  rcases k.new x g with d|d|d
  ·rcases h.new x d with f|f|f
   ·exact .inl f
   ·exact .inr (.inl (k.xs x f))
   ·exact .inr (.inr (k.lost f))
  ·exact .inr (.inl d)
  ·exact .inr (.inr d),fun e=>k.lost (h.lost e),fun e=>by
  have:=h.no;have:=k.no;rcases k.Xr e with d|d
  ·rcases h.Xr d with f|f
   ·exact .inl f
   ·exact .inr (by omega)
  ·exact .inr (by omega),aZ h.no k.no,by have:=h.len;have:=k.len;omega⟩
section
variable{G:Gr}{rs:List Nat}{N Rm:Nat}{st:je}
theorem jR.small(h:jR G rs N Rm st):st.no<=N/\st.nw<=N:=by
 have a:=dR (dj st.E) 0 N;have b:=dR (aI st.E) 0 N;rw [h.no,h.nw];omega
theorem qC(f:gw G rs N)(h:jR G rs N Rm st){a:Nat}(j:a≠0->Reach G rs a):jR G rs N Rm (eQ G Rm st a):=by
 unfold eQ;split
 ·exact h
 ·rename_i l;have i:a≠0:=fun e=>l (.inl e)
  have k:st.E a=0:=by
   rcases jA (st.E a) with e|e
   ·exact e
   ·exact absurd (.inr (by omega)) l
  have b:=f.reach (j i);have m:=h.marked.Rm f b k;have n:=f.top a b;refine ⟨h.marked.put (j i),?_,?_,?_,?_⟩
  ·show st.no+1=_
   rw [mQ b k (by omega),h.no]
  ·show st.nw+G.size a=_
   rw [uz b m.1 m.2 n,h.nw]
  ·intro x c;show ec st.E a (G.size a) x≠0
   unfold ec;split
   ·exact b
   ·rename_i g;refine h.xs x ?_;simp only at c;split at c
    ·rcases bB.1 c with d|d
     ·exact d
     ·exact absurd (bP.1 d) g
    ·exact c
  ·show (if st.xs.length<Rm then st.xs++[a] else st.xs).length<=Rm
   have:=h.rm;split
   ·rw [aH,aP];omega
   ·exact this
theorem pz(st:je)(a:Nat)(l:a≠0->G.size a≠0):kM st (eQ G Rm st a)/\(a≠0->(eQ G Rm st a).E a≠0):=by
 unfold eQ;split
 ·rename_i h;exact ⟨kM.refl st,fun d=>by rcases h with h|h;exact absurd h d;exact h⟩
 ·rename_i k;have d:a≠0:=fun e=>k (.inl e)
  have j:=l d;refine ⟨⟨?_,?_,?_,?_,?_,?_,?_⟩,fun _=> ?_⟩
  ·intro b f;show ec st.E a (G.size a) b≠0;unfold ec;split;exact j;exact f
  ·intro x i;show x∈(if st.xs.length<Rm then st.xs++[a] else st.xs);split;exact dg _ i;exact i
  ·intro b f;show st.E b≠0\/b∈(if st.xs.length<Rm then st.xs++[a] else st.xs)\/(if st.xs.length<Rm then st.lost else true)=true
   have c:ec st.E a (G.size a) b≠0:=f;unfold ec at c;split at c
   ·rename_i e;subst e;by_cases g:st.xs.length<Rm
    ·exact .inr (.inl (by rw [aG g];simp))
    ·exact .inr (.inr (by rw [aE g]))
   ·exact .inl c
  ·intro h;show (if st.xs.length<Rm then st.lost else true)=true;split;exact h;rfl
  ·intro _;exact .inr (bI _)
  ·exact fm _
  ·show (if st.xs.length<Rm then st.xs++[a] else st.xs).length+st.no<=st.xs.length+(st.no+1)
   split
   ·rw [aH,aP];omega
   ·omega
  ·show ec st.E a (G.size a) a≠0;unfold ec;rw [aG rfl];exact j
def gp(G:Gr)(Rm:Nat)(st:je)(a:Nat):je:=(G.Qr a).foldl (eQ G Rm) st
theorem qE(d:gw G rs N):∀(l:List Nat) (st:je),jR G rs N Rm st->(∀p∈l,p≠0->Reach G rs p)->jR G rs N Rm (l.foldl (eQ G Rm) st)/\kM st (l.foldl (eQ G Rm) st)/\∀p∈l,p≠0->(l.foldl (eQ G Rm) st).E p≠0
 |[],st,h,_=>⟨h,kM.refl st,fun p hp=>absurd hp (bq)⟩
 |a::l,st,h,hr=>by
  have b:=hr a (cq ..);have g:=qC d h b;have e:=pz (G:=G) (Rm:=Rm) st a (fun c=>d.reach (b c));obtain ⟨i,f,j⟩:=qE d l _ g (fun p hp=>hr p (bx _ hp));refine ⟨i,e.1.trans f,fun p hp c=> ?_⟩;rcases bM.1 hp with rfl|hp
  ·exact f.mono _ (e.2 c)
  ·exact j p hp c
theorem oK(c:gw G rs N)(h:jR G rs N Rm st){a:Nat}(d:Reach G rs a):jR G rs N Rm (gp G Rm st a)/\kM st (gp G Rm st a)/\Ay G (gp G Rm st a).E a:=
 qE c _ st h (fun p hp b=> .step d hp b)
end
section
variable{I:jF}{t:TypeId}{v wk:Value}{L:Nat->Nat}{EL:cF}{W kb sb Rm:Nat}{S0:Nat->Prop}{w0:World}{PB:Nat->Prop}{wp:World}{S S1:Nat->Prop}{sv sv1:Value}{Hg Qj nr nv:Int}{st:je}{w w1:World}{fl:Nat}{r:Value}{dom:Nat->Prop}{G:Gr}{rs:List Nat}{N:Nat}
theorem qB(F:dy t v fl r I dom)(D:AB EL kb sb w0.heap.size S0)(X:gw G rs N)(hW:N<=W)(hO:∀a,G.size a≠0->jy L dom G a)(h:iZ I t v wk L EL W kb sb Rm S0 w0 PB wp st w)(hI:jR G rs N Rm st)(a:Nat)(Y:Reach G rs a)(n:Rm<=4096):
  Calls prog 208 #[kb,(a:Int)] w (pj I t v wk L EL W kb sb Rm S0 w0 PB wp (gp G Rm st a)):=by
 have A:=X.reach Y;have aq:=Y.pos;obtain ⟨p,f,g,H,o2,o3,o4,o5⟩:=hO a A;have al:=X.top a A;have hN:N<=1048576:=by obtain ⟨_,_,_,_,_,hd⟩:=h;have:=hd.ext.small.2;omega
 have T:=ae (fun w1 S sv Hg nr nv b (m:kR I t v wk L EL W kb sb Rm S0 w0 PB wp S sv Hg nr nv b w1)=>(jX F m.sp a p f g (by omega) (o4 a (ak _) (by omega)) H).mono (fun e w2 ⟨he,hp⟩=>(⟨he,m.sp_ D hp⟩:e=Ending.returned (.tuple #[gD p f g,(0:Int)])/\iZ I t v wk L EL W kb sb Rm S0 w0 PB wp b w2)));have ai:∀i:Nat,i<p->fg p f g i=(1:Nat):=fun i E=>by
  have hh:=H.2;unfold fg;rw [gg,aG hh,aE (by omega),aG (by omega)];rfl
 have ap:=ae (fun i (E:i<p) w1 S sv Hg nr nv b (m:kR I t v wk L EL W kb sb Rm S0 w0 PB wp S sv Hg nr nv b w1)=>(lp F m.sp a i p f g (L (a+1+i)) (by omega) (by omega) (by have:=H.2;unfold eO at this;omega) (o4 a (ak _) (by omega)) H (ai i E) (o4 _ (by omega) (by omega)) rfl (o5 i E)).mono (fun e w2 ⟨he,hp⟩=>(⟨he,m.sp_ D hp⟩:e=Ending.returned (.tuple #[(((L (a+1+i):Nat):Int):Int),(0:Int)])/\iZ I t v wk L EL W kb sb Rm S0 w0 PB wp b w2)));have ao:=ae (fun w1 w2 b (m:iZ I t v wk L EL W kb sb Rm S0 w0 PB wp b w1) (hf:GM w1 w2)=>m.Fh F D hf);have M:=ae (fun w1=>qD (.pointer (some ⟨kb,0,none⟩)) w1);have aj:∀i,i<=p->((List.range i).map (fun i=>L (a+1+i))).foldl (eQ G Rm) st=((List.range i).map (fun i=>L (a+1+i))).foldl (eQ G Rm) st/\jR G rs N Rm (((List.range i).map (fun i=>L (a+1+i))).foldl (eQ G Rm) st):=fun i E=>⟨rfl,(qE X _ st hI (fun q hq C=> .step Y (by rw [o3];obtain ⟨j,hj,rfl⟩:=bu.1 hq;exact bu.2 ⟨j,bv.2 (by have:=bv.1 hj;omega),rfl⟩) C)).1⟩
 obtain ⟨c,l⟩:∃c:Nat->je,c=fun i=>((List.range i).map (fun i=>L (a+1+i))).foldl (eQ G Rm) st:=⟨_,rfl⟩
 have o:∀i,eQ G Rm (c i) (L (a+1+i))=c (i+1):=fun i=>by
  rw [l];show eQ G Rm _ _=((List.range (i+1)).map _).foldl _ _;rw [List.range_succ,bD,List.foldl_append];rfl
 have R:=ae (fun i (E:i<p) w1 (m:iZ I t v wk L EL W kb sb Rm S0 w0 PB wp (c i) w1)=>by
  have af:jR G rs N Rm (c i):=by rw [l];exact (aj i (by omega)).2
  have ax:=af.small;have:=sa F D X hW hO m af.marked (L (a+1+i)) (fun C=> .step Y (by rw [o3];exact bu.2 ⟨i,bv.2 E,rfl⟩) C) (by omega) (by omega) n;rw [o] at this;exact this)
 have an:=ae (fun w1 w2 S sv Hg nr nv b nv1 (m:kR I t v wk L EL W kb sb Rm S0 w0 PB wp S sv Hg nr nv b w1) he hf=>m.Yv (w1:=w2) (no:=b.no) (nw:=b.nw) (nr1:=nr) (nv1:=nv1) F D he hf);have C:iZ I t v wk L EL W kb sb Rm S0 w0 PB wp (c 0) w:=by rw [l];exact h
 have u:∀w',iZ I t v wk L EL W kb sb Rm S0 w0 PB wp (c p) w'->pj I t v wk L EL W kb sb Rm S0 w0 PB wp (gp G Rm st a) (.returned (.tuple #[])) w':=by
  intro w' m;refine ⟨rfl,?_⟩;unfold gp;rw [o3];rw [l] at m;exact m
 have K:=ae u;generalize (pj I t v wk L EL W kb sb Rm S0 w0 PB wp (gp G Rm st a))=Q at*;have H0:=ae C;have au:p<256:=by have:=H.2;unfold eO at this;omega
 obtain ⟨S,sv,Hg,nr,nv,hd⟩:=C;have k0:=hd.Qd.cell 0 rfl;have s:=ae (T.out _ _ _ _ _ _ _ hd);unfold gD at*;unfold pj at R;clear F D X hW hO h hI Y n A aq H o2 o3 o4 o5 al hN ai aj l o u hd T
 go_enter func208,ntmps208
 go_wp2_with fail
 refine s.out.mono ?_;rintro e B ⟨rfl,hp⟩;obtain ⟨W3,y⟩:∃W3,B.alloc (.cells #[(p:Int),(f:Int),(g:Int)] 31)=W3:=⟨_,rfl⟩;have V:GM B W3:=by rw [<-y];exact (GQ _ _).alloc _
 have U:=ae (show aJ W3 B.heap.size [(p:Int),(f:Int),(g:Int)] 31 from by rw [<-y];exact aJ.new B _ _);have J:=ae (ao.out _ _ _ hp V);clear hp V s k0 H0
 go_upto_region 1 with fail
 clear y;generalize B.heap.size=q at*;clear B;go_wp2_with fail
 refine (M.out _).mono ?_;rintro e w4 ⟨rfl,rfl⟩;have kq:=U.out.cell 0 rfl;go_wp2
 go_loopw [24] (fun x wr=>∃(i:Nat),x= .int .i64 i/\i<=p/\Hid (iZ I t v wk L EL W kb sb Rm S0 w0 PB wp (c i) wr)) (fun x _=>(p-intOf x).toNat)
 case atStart=>exact ⟨0,rfl,by omega,J⟩
 case round=>
  clear J U kq;obtain ⟨i,rfl,h1,hr⟩:=hrel;obtain ⟨S5,aB,ar,ay,az,d⟩:=hr.out;have k0:=d.Qd.cell 0 rfl;by_cases z:i<p
  ·have av:(i:Int)<(p:Int):=by omega
   have O:=ae (ap.out i z _ _ _ _ _ _ _ d);clear hr d;go_wp2_with fail
   refine O.out.mono ?_;rintro e w5 ⟨rfl,Z⟩;have P:=ae (R.out i z _ Z);clear Z O k0;go_wp2_with fail
   refine (M.out _).mono ?_;rintro e w6 ⟨rfl,rfl⟩;go_wp2_with fail
   refine P.out.mono ?_;rintro e w7 ⟨rfl,ad⟩;have am:=ae ad;clear ad P;go_wp2;go_roundw
   case rel=>exact ⟨i+1,by go_num,by omega,am⟩
   case measure=>simp [intOf];omega
  ·have ah:i=p:=by omega
   have aw:¬(i:Int)<(p:Int):=by omega
   have kv:=d.Qd.cell 7 rfl;have fv:=d.Qd.free 7;have HX:=ae (fun x w8 (e:w8=wr.setCell ⟨kb,7,none⟩ (.int .i64 x))=>K.out w8 (by rw [<-ah];exact ⟨_,_,_,_,_,an.out _ _ _ _ _ _ _ _ x d (by rw [e];exact d.Qd.set 7 (.int .i64 x)) (by rw [e];exact (GQ (fun k=>k=kb) wr).setCell ⟨kb,7,none⟩ (.inl rfl) _)⟩));clear hr d h1 z ah k0;go_wp2;go_end0;exact HX.out _ _ rfl
end
structure sL(G:Gr)(rs:List Nat)(N Rm:Nat)(st cur:je)(pend:List Nat):Prop where
 inv:jR G rs N Rm cur
 mono:∀b,st.E b≠0->cur.E b≠0
 all:∀b,cur.E b≠0->Ay G cur.E b\/b∈cur.xs\/b∈pend\/cur.lost=true\/(st.E b≠0/\b∉st.xs)
 lost:st.lost=true->cur.lost=true
 Xr:cur.lost=true->st.lost=true\/st.no<cur.no
 no:st.no<=cur.no
 pd:∀b∈pend,Reach G rs b
section
variable{G:Gr}{rs:List Nat}{N Rm:Nat}{st cur:je}{pend:List Nat}
theorem sL.start(h:jR G rs N Rm st):sL G rs N Rm st st []:=
 ⟨h,fun _ h=>h,fun b a=>by
  by_cases c:b∈st.xs
  ·exact .inr (.inl c)
  ·exact .inr (.inr (.inr (.inr ⟨a,c⟩))),id,.inl,ak _,fun b a=>absurd a (bq)⟩
theorem sL.pop(h:sL G rs N Rm st cur []){ys:List Nat}{x:Nat}(c:cur.xs=ys++[x]):sL G rs N Rm st {cur with xs:=ys} [x]:=
 ⟨⟨h.inv.marked,h.inv.no,h.inv.nw,fun y f=>h.inv.xs y (by rw [c];exact dg _ f),by have:=h.inv.rm;rw [c,aH] at this;show ys.length<=Rm;omega⟩,h.mono,fun b e=>by
  rcases h.all b e with a|a|a|a|a
  ·exact .inl a
  ·rw [c] at a;rcases bB.1 a with d|d
   ·exact .inr (.inl d)
   ·exact .inr (.inr (.inl d))
  ·exact absurd a (bq)
  ·exact .inr (.inr (.inr (.inl a)))
  ·exact .inr (.inr (.inr (.inr a))),h.lost,h.Xr,h.no,fun b e=>by
  rw [bP.1 e];exact (h.inv.marked x (h.inv.xs x (by rw [c];simp))).1⟩
theorem sL.visit(j:gw G rs N){x:Nat}(h:sL G rs N Rm st cur [x]):sL G rs N Rm st (gp G Rm cur x) []/\(gp G Rm cur x).xs.length+cur.no<=cur.xs.length+(gp G Rm cur x).no/\cur.no<=(gp G Rm cur x).no:=by
 obtain ⟨k,c,l⟩:=oK (Rm:=Rm) j h.inv (h.pd x (by simp));refine ⟨⟨k,fun b f=>c.mono b (h.mono b f),fun b f=> ?_,fun e=>c.lost (h.lost e),fun e=> ?_,aZ h.no c.no,fun b f=>absurd f (bq)⟩,c.len,c.no⟩
 ·rcases c.new b f with d|d|d
  ·rcases h.all b d with a|a|a|a|a
   ·exact .inl (fun p hp g=>c.mono p (a p hp g))
   ·exact .inr (.inl (c.xs b a))
   ·rw [bP.1 a];exact .inl l
   ·exact .inr (.inr (.inr (.inl (c.lost a))))
   ·exact .inr (.inr (.inr (.inr a)))
  ·exact .inr (.inl d)
  ·exact .inr (.inr (.inr (.inl d)))
 ·have:=h.no;have:=c.no;rcases c.Xr e with a|a
  ·rcases h.Xr a with i|i
   ·exact .inl i
   ·exact .inr (by omega)
  ·exact .inr (by omega)
end
section
variable{I:jF}{t:TypeId}{v wk:Value}{L:Nat->Nat}{EL:cF}{W kb sb Rm:Nat}{S0:Nat->Prop}{w0:World}{PB:Nat->Prop}{wp:World}{S S1:Nat->Prop}{sv sv1:Value}{Hg Qj nr nv:Int}{st:je}{w w1:World}{fl:Nat}{r:Value}{dom:Nat->Prop}{G:Gr}{rs:List Nat}{N:Nat}
def Er(I:jF)(t:TypeId)(v wk:Value)(L:Nat->Nat)(EL:cF)(W kb sb Rm:Nat)(S0:Nat->Prop)(w0:World)(PB:Nat->Prop)(wp:World)(G:Gr)(rs:List Nat)(N:Nat)(st:je)(m:Nat)(e:Ending)(w':World):Prop:=
 ∃(x:Nat) (is:Bool) (cur:je),e= .returned (.tuple #[(x:Int),.bool is])/\Hid (iZ I t v wk L EL W kb sb Rm S0 w0 PB wp cur w'/\sL G rs N Rm st cur (if is then [x] else [])/\(is=false->cur.xs=[])/\2*(N-cur.no)+cur.xs.length+(if is then 1 else 0)<=m)
theorem DC(j:dy t v fl r I dom)(g:AB EL kb sb w0.heap.size S0){cur:je}(h:kR I t v wk L EL W kb sb Rm S0 w0 PB wp S sv Hg nr nv cur w)(b:sL G rs N Rm st cur [])(c:Rm<=4096)(m:Nat)(d:2*(N-cur.no)+cur.xs.length<=m):
  Calls prog 250 #[sb] w (Er I t v wk L EL W kb sb Rm S0 w0 PB wp G rs N st m):=by
 rcases List.eq_nil_or_concat cur.xs with e|⟨ys,x,e⟩
 ·have a:=h.stk;rw [e] at a;refine (Bj sb sv Rm Hg cur.lost w a).mono ?_;rintro f w' ⟨rfl,rfl⟩;exact ⟨0,false,cur,rfl,⟨_,_,_,_,_,h⟩,b,fun _=>e,by rw [aE (by decide)];omega⟩
 ·rw [List.concat_eq_append] at e;have a:=h.stk;rw [e,bD] at a;have i:=b.inv.rm;rw [e,aH,aP] at i;refine (Bi sb sv (ys.map Int.ofNat) (x:Int) Rm Hg cur.lost w a (by rw [bL];omega)).mono ?_;rintro f w' ⟨rfl,p,l,n,o⟩;refine ⟨x,true,{cur with xs:=ys},rfl,h.stk_ j g l (n.mono (fun k a=> .inl (.inl a))) (fun k a=> .inl (by rw [<-o];exact a)),b.pop e,(fun h=>by cases h),?_⟩;rw [e,aH,aP] at d;rw [aG rfl];exact aZ (by show 2*(N-cur.no)+ys.length+1<=_;omega) d
theorem uC(P:Nat->Prop):∀m,P m->∃m,P m/\∀k,P k->m<=k:=by
 intro m
 induction m using Nat.strongRecOn with
 |ind m ih=>
  intro h;by_cases b:∃k,k<m/\P k
  ·obtain ⟨k,a,c⟩:=b;exact ih k a c
  ·exact ⟨m,h,fun k d=>by
    rcases aY k m with a|a
    ·exact absurd ⟨k,a,d⟩ b
    ·exact a⟩
open Classical in
noncomputable def gu(P:Nat->Prop):Nat:=if h:∃m,P m then Classical.choose (uC P _ (iA h)) else 0
theorem dG{P:Nat->Prop}{m:Nat}(h:P m):P (gu P)/\gu P<=m:=by
 have a:∃m,P m:=⟨m,h⟩;unfold gu;rw [mn a];have:=iA (uC P _ (iA a));exact ⟨this.1,this.2 m h⟩
def F9(I:jF)(t:TypeId)(v wk:Value)(L:Nat->Nat)(EL:cF)(W kb sb Rm:Nat)(S0:Nat->Prop)(w0:World)(PB:Nat->Prop)(wp:World)(G:Gr)(rs:List Nat)(N:Nat)(st:je)(p q:Value)(w':World)(m:Nat):Prop:=
 ∃(x:Nat) (is:Bool) (cur:je),p= .int .i64 x/\q= .bool is/\(iZ I t v wk L EL W kb sb Rm S0 w0 PB wp cur w'/\sL G rs N Rm st cur (if is then [x] else [])/\(is=false->cur.xs=[])/\2*(N-cur.no)+cur.xs.length+(if is then 1 else 0)<=m)
def Ek(I:jF)(t:TypeId)(v wk:Value)(L:Nat->Nat)(EL:cF)(W kb sb Rm:Nat)(S0:Nat->Prop)(w0:World)(PB:Nat->Prop)(wp:World)(G:Gr)(rs:List Nat)(N:Nat)(st:je)(e:Ending)(w':World):Prop:=
 e= .returned (.tuple #[])/\∃cur:je,iZ I t v wk L EL W kb sb Rm S0 w0 PB wp cur w'/\sL G rs N Rm st cur []/\cur.xs=[]
theorem wi(hs:dy t v fl r I dom)(U:AB EL kb sb w0.heap.size S0)(H:gw G rs N)(hW:N<=W)(hO:∀a,G.size a≠0->jy L dom G a)(h:iZ I t v wk L EL W kb sb Rm S0 w0 PB wp st w)(hI:jR G rs N Rm st)(b:Rm<=4096):
  Calls prog 204 #[kb] w (Ek I t v wk L EL W kb sb Rm S0 w0 PB wp G rs N st):=by
 have n:=ae (fun w1 S sv Hg nr nv cur m (d:kR I t v wk L EL W kb sb Rm S0 w0 PB wp S sv Hg nr nv cur w1) (c:sL G rs N Rm st cur []) (J:2*(N-cur.no)+cur.xs.length<=m)=>DC hs U d c b m J);have O:=ae (fun w1 cur x (d:iZ I t v wk L EL W kb sb Rm S0 w0 PB wp cur w1) (c:sL G rs N Rm st cur [x])=>(qB hs U H hW hO d c.inv x (c.pd x (by simp)) b).mono (fun e w2 ⟨R,T⟩=>(⟨R,T,(c.visit H).1,(c.visit H).2⟩:e=Ending.returned (.tuple #[])/\iZ I t v wk L EL W kb sb Rm S0 w0 PB wp (gp G Rm cur x) w2/\sL G rs N Rm st (gp G Rm cur x) []/\(gp G Rm cur x).xs.length+cur.no<=cur.xs.length+(gp G Rm cur x).no/\cur.no<=(gp G Rm cur x).no)));have f:∀w' cur,iZ I t v wk L EL W kb sb Rm S0 w0 PB wp cur w'->sL G rs N Rm st cur []->cur.xs=[]->Ek I t v wk L EL W kb sb Rm S0 w0 PB wp G rs N st (.returned (.tuple #[])) w':=fun w' cur R T h3=>⟨rfl,cur,R,T,h3⟩
 have j:=ae f;generalize (Ek I t v wk L EL W kb sb Rm S0 w0 PB wp G rs N st)=Q at*;obtain ⟨S,sv,Hg,nr,nv,X⟩:=h;have k2:=X.Qd.cell 2 rfl;obtain ⟨M,hM⟩:∃M,2*(N-st.no)+st.xs.length=M:=⟨_,rfl⟩;have k:=ae (n.out _ _ _ _ _ _ _ M X (sL.start hI) (by omega));unfold Er at*;clear hs U H hW hO hI b X f hM
 go_enter func204,ntmps204
 go_wp2_with fail
 refine k.out.mono ?_;rintro e w1 ⟨x0,E,u,rfl,z⟩;have D:F9 I t v wk L EL W kb sb Rm S0 w0 PB wp G rs N st (.int .i64 x0) (.bool E) w1 M:=⟨x0,E,u,rfl,rfl,z.out⟩;have o:=ae D;clear k k2 z D;go_wp2
 go_loopw [2,3] (fun p q wr=>∃m,Hid (F9 I t v wk L EL W kb sb Rm S0 w0 PB wp G rs N st p q wr m)) (fun p q wr=>gu (F9 I t v wk L EL W kb sb Rm S0 w0 PB wp G rs N st p q wr))
 case atStart=>exact ⟨M,o⟩
 case round=>
  clear o;obtain ⟨m,J⟩:=hrel;obtain ⟨hr,_⟩:=dG J.out;clear J;generalize C:gu (F9 I t v wk L EL W kb sb Rm S0 w0 PB wp G rs N st _ _ _)=m0 at hr;obtain ⟨x,is,cur,rfl,rfl,d,c,hx,i⟩:=hr;have K:=ae C;clear C
  cases is with
  |false=>
   have HQ:=ae (j.out _ _ d c (hx rfl));clear d c hx i;go_wp2;go_end0;exact HQ.out
  |true=>
   rw [aG rfl] at c i;have HV:=ae (O.out _ _ _ d c);clear d c hx;go_wp2_with fail
   refine HV.out.mono ?_;rintro e w2 ⟨rfl,V,g,Y,ad⟩;have B:=g.inv.small;obtain ⟨S2,ai,high2,af,ah,P⟩:=V;have k2:=P.Qd.cell 2 rfl;have l:=ae (n.out _ _ _ _ _ _ _ (m0-1) P g (by omega));have Z:m0-1<m0:=by omega
   clear P g Y ad B HV i;go_wp2_with fail
   refine l.out.mono ?_;rintro e w3 ⟨x3,F,y,rfl,A⟩;have s:=ae (show F9 I t v wk L EL W kb sb Rm S0 w0 PB wp G rs N st (.int .i64 x3) (.bool F) w3 (m0-1) from ⟨x3,F,y,rfl,rfl,A.out⟩);clear l k2 A;go_wp2;go_roundw
   case rel=>exact ⟨m0-1,s⟩
   case measure=>exact bU (dG s.out).2 (by rw [K.out];exact Z)
end
def jK(l:List (Nat×Nat)):List Value:=l.map fun x=> .int .i64 (x.1:Int)
theorem qx(E:Nat->Nat)(W:Nat):(cS E W).length<=W:=by
 unfold cS dQ;rw [bL];have a:=List.length_filter_le (dj E) (List.range' 0 (W-0));rw [List.length_range'] at a;omega
def CQ(E:Nat->Nat)(W:Nat)(w:World)(e:Ending)(w':World):Prop:=
 ∃v,e= .returned v/\w'.ownsRow (w.heap.size+2) 3 1 v (cS E W).length (jK (cS E W))/\GM w w'
def Ff(L:cF)(W:Nat)(E:Nat->Nat)(tb c:Nat)(pre:List (Nat×Nat))(S:Nat->Prop)(W':World):Prop:=
 ∃sl,S=(fun k=>k=c\/sl.ownBlock=some k)/\rK L tb W E W'/\aJ W' c [sl] 123/\W'.ownsRow (tb+1) 3 1 sl pre.length (jK pre)
theorem Ff.stays{L:cF}{W:Nat}{E:Nat->Nat}{tb c B:Nat}(g:∀k,L.has k->k<B)(e:tb<B)(f:cO<B):gE B (Ff L W E tb c):=by
 rintro j S W1 q T ⟨sl,rfl,⟨l,m,n⟩,o,p⟩ hf b;have a:∀i,i<B->¬T i:=fun i r h=>by have:=(b i h).1;omega
 exact ⟨sl,rfl,⟨l.frame hf (fun k d=>a k (g k d)),aS m hf (a _ f),n.frame hf (a _ e)⟩,o.frame hf (fun h=>(b _ h).2 (.inl rfl)),cD p hf (fun k d h=>(b _ h).2 (.inr d))⟩
section
attribute [local go_sem] Oper.semAt_some
theorem vX(d:Nat){w:World}{kb:Nat}{L:cF}{W:Nat}{E:Nat->Nat}(a:w.cell? ⟨kb,1,none⟩=some L.m)(h:eJ w L W E)(hT:et w):CallsIn Fence.wide d prog 207 #[kb] w (CQ E W w):=by
 refine callsIn_of_wp_marks func207 rfl trivial ?_ rfl;simp only [ntmps207,cU,bn,ch,Nat.reduceAdd,Nat.reduceSub,cH,cG,de,cQ,bZ,dd];obtain ⟨aw,am⟩:=h.small;have HX:=ae h;have HT:=ae hT;obtain ⟨i0,hi,aq,ar,au⟩:=info_parts iP;have Z:∀o,(w.alloc o).cell? ⟨kb,1,none⟩=some L.m:=fun o=>by
  have hf:GM w (w.alloc o):=(GQ _ w).alloc o;exact (World.cell?_of_block (w:=w) (hf.block _ (cl a) id)).trans a
 have ax:=cl a;clear h hT;obtain ⟨f,p⟩:∃f,w.alloc (.cells #[.slice none 0 0] 123)=f:=⟨_,rfl⟩;have A:GM w f:=by rw [<-p];exact (GQ _ w).alloc _
 have z:aJ f w.heap.size [.slice none 0 0] 123:=by rw [<-p];exact aJ.new w _ _
 have r:f.heap.size=w.heap.size+1:=by rw [<-p];exact bC _
 have HA:=ae (jv L.m f);have an:f.cell? ⟨kb,1,none⟩=some L.m:=by rw [<-p];exact Z _
 have V:=ae (ag A (ag z r));clear A z r a Z;gi_wp2;clear p an;refine ep (HA.out.mono ?_);rintro e U ⟨rfl,C⟩;have u:GM f U:=by rw [C];exact (GQ _ f).alloc _
 have ai:aJ U f.heap.size [L.m] 132:=by rw [C];exact aJ.new f _ _
 have ak:U.heap.size=f.heap.size+1:=by rw [C];exact bC _
 obtain ⟨A,z,r⟩:=V.out;have y:GM w U:=A.trans u GN;have aj:cO<w.heap.size:=cl (HT.out 0 0 rfl);have O:Ff L W E f.heap.size w.heap.size [] (fun k=>k=w.heap.size\/(Value.slice none 0 0).ownBlock=some k) U:=⟨_,rfl,⟨HX.out.frame y (fun _ _ h=>h),aS HT.out y id,ai⟩,z.frame u id,World.ownsRow_nil _ _ _ _⟩;have v:gE U.heap.size (Ff L W E f.heap.size w.heap.size):=Ff.stays (fun k a=>by have:=HX.out.lt k a;omega) (by omega) (by omega);have B:=ae (ag y (ag ak (ag r aj)));clear C u ai z A V HA ak r aj y;gi_wp2;refine iO (gf:=220) (lb:= #[f.heap.size]) rfl (enters_of func220 (by kernel_rfl) rfl) (encs:=mC) (fun _=>rfl) (jw (L:=L) (tb:=f.heap.size) (E:=E) am) (Ff L W E f.heap.size w.heap.size) _ v (fun _ _ _ h=>h.choose_spec.2.1) (fun k a=>by have:=B.out.2.1;have:=B.out.2.2.1;rcases a with h|h;omega;simp [Value.ownBlock] at h) O
  ?a1 ?assign ?body ?done
 case assign=>
  intro k x W K hK;unfold mC;gi_wp2;exact hK
 case body=>
  intro l b S x c hI J hf hs;obtain ⟨sl,rfl,T,I,N⟩:=hI;obtain ⟨s,n⟩:=x;have c0:=I.cell 0 rfl;have R:=B.out;have ao:b.length<1048576:=by
   have h1:=(al.1 J).1;have h2:=qx E W;omega
  have HB:=ae (ag T (ag I N));have Q:=hf.size;clear hf hs J O v T I N;gi_wp2_with (gi_at_builtin;refine Hid.out ?_)
  unfold Hid;have P:GM c (c.alloc (.cells #[(s:Int)] 3)):=(GQ _ c).alloc _;have M:aJ (c.alloc (.cells #[(s:Int)] 3)) c.heap.size [(s:Int)] 3:=aJ.new c _ _;have av:(c.alloc (.cells #[(s:Int)] 3)).heap.size=c.heap.size+1:=bC _;have ah:=cD HB.out.2.2 P (fun _ _ h=>h);refine wpListIn_append_own_at _ rfl _ _ 123 rfl (f.heap.size+1) 3 i0 _ 1 8 underlying123 hi aq ar au rfl (by decide) sl b.length (jK b) rfl ah ⟨c.heap.size,0,none⟩ 1 1 [(s:Int)] rfl rfl ?_ ?_ (by unfold maxLen;omega) (by omega) (by omega) ?_
  ·intro j u' hj;have:=M.cell j hj;rwa [show ((⟨c.heap.size,0,none⟩:Addr).add j)=⟨c.heap.size,j,none⟩ by unfold Addr.add;split<;>simp_all]
  ·intro u' ap;rw [bP.1 ap];rfl
  ·intro v' w3 H hg _ hv;obtain ⟨g,cap,rfl⟩:∃g cap,v'= .slice (some ⟨g,0,none⟩) (b.length+1) cap:=by
    rcases H.2 with ⟨_,h⟩|⟨g,cap,_,h,_⟩
    ·omega
    ·exact ⟨g,cap,h⟩
   obtain ⟨⟨T,q2,q3⟩,I,N⟩:=HB.out;have q:=fun k (a:sl.ownBlock=some k)=>N.lt k a
   have u:Fr (fun k=>sl.ownBlock=some k) c w3:=(P.mono (S':=fun k=>sl.ownBlock=some k) GN).trans (Fr.Qm hg) (fun i hi=> .inl hi);have F:=I.frame u (fun h=>by have:=(q _ h).1;omega);have c3:=F.cell 0 rfl;have f3:=F.free 0;have HE:Hid (∀w4,w4=w3.setCell w.heap.size (.slice (some g) (b.length+1) cap)->CT (Ff L W E f.heap.size w.heap.size) (b++[(s,n)]) (fun k=>k=w.heap.size\/sl.ownBlock=some k) c w4):=by
    show∀w4,_
    rintro w4 rfl;have G:Fr (fun k=>k=w.heap.size\/sl.ownBlock=some k) c (w3.setCell w.heap.size (.slice (some g) (b.length+1) cap)):=(u.mono (fun k a=> .inl (.inr a))).setCell w.heap.size (.inl (.inl rfl)) _;have ay:∀k,k<w.heap.size+2->k≠w.heap.size->(∀j,sl.ownBlock=some j->j≠k)->¬(k=w.heap.size\/sl.ownBlock=some k):=fun k _ h1 h2 h=>by
     rcases h with h|h
     ·exact h1 h
     ·exact h2 k h rfl
    refine ⟨_,⟨.slice (some g) (b.length+1) cap,rfl,⟨T.frame G ?_,aS q2 G ?_,q3.frame G ?_⟩,F.set 0 _,?_⟩,G,?_⟩
    ·rintro k a (h|h)
     ·have:=HX.out.lt k a;omega
     ·have:=HX.out.lt k a;have:=(q k h).1;omega
    ·rintro (h|h)
     ·have:=R.2.2.2;unfold cO at this;omega
     ·have:=R.2.2.2;have:=(q _ h).1;unfold cO at*;omega
    ·rintro (h|h)
     ·omega
     ·have:=(q _ h).1;omega
    ·rw [aH,show jK (b++[(s,n)])=jK b++[.int .i64 s] by simp [jK]];exact cD H ((GQ (fun k=>k=w.heap.size) w3).setCell w.heap.size (.inl rfl) _) (fun k a e=>by have:=(H.lt k a).1;omega)
    ·rintro k (h|h)
     ·exact .inl (.inl h)
     ·rcases hv with e|e
      ·exact .inl (.inr (by rw [<-e];exact h))
      ·rw [e] at h;simp only [aL] at h;exact .inr (by omega)
   clear P M av ah H hg hv T q2 q3 I N q u F HB c0 Q R ao;gi_wp2;exact HE.out _ rfl
 case done=>
  intro D S c hI hD ad af hf hs;obtain ⟨sl,rfl,T,I,N⟩:=hI;have c0:=I.cell 0 rfl;have R:=B.out;have Q:=R.1.size;have Y:GM w c:=R.1.trans hf (fun k a=> .inr (by
   rcases a with h|h
   ·omega
   ·simp [Value.ownBlock] at h))
  have HD:=ae hD;have hQ:CQ E W w (.returned sl) (c.putObj D (.deferred none)):=by
   have X:Fr (fun k=>k=D) c (c.putObj D (.deferred none)):=(GQ _ c).putObj _ _ (.inl rfl);refine ⟨sl,rfl,?_,Y.trans X (fun k a=> .inr (by omega))⟩;rw [<-show f.heap.size+1=w.heap.size+2 by omega];exact cD N X (fun k a e=>af (.inr (by rw [<-e];exact a)))
  have HQ:=ae hQ;clear hf hs T I N R Q Y hQ O v hD af ad;gi_wp2;refine ⟨by simp,.inl ⟨_,_,rfl,run_takeDeferred HD.out,?_⟩⟩;exact ⟨_,results_tmp (t:=2) rfl _ _ _,HQ.out⟩
end
structure sJ(G:Gr)(rs:List Nat)(N Rm no0:Nat)(pend:Nat->Prop)(st:je):Prop where
 inv:jR G rs N Rm st
 xs:st.xs=[]
 all:∀b,st.E b≠0->Ay G st.E b\/st.lost=true\/pend b
 lost:st.lost=true->no0<st.no
 le:no0<=st.no
section
variable{G:Gr}{rs:List Nat}{N Rm no0:Nat}{pend pend':Nat->Prop}{st st1 cur:je}
theorem sJ.go(h:sJ G rs N Rm no0 pend st)(d:kM st st1)(hp:∀b,pend b->st1.E b≠0->pend' b\/Ay G st1.E b)(c:sL G rs N Rm st1 cur [])(l:cur.xs=[]):
  sJ G rs N Rm no0 pend' cur/\∀b,st1.E b≠0->cur.E b≠0:=by
 refine ⟨⟨c.inv,l,fun b m=> ?_,fun e=> ?_,aZ h.le (aZ d.no c.no)⟩,c.mono⟩
 ·rcases c.all b m with a|a|a|a|⟨a,i⟩
  ·exact .inl a
  ·rw [l] at a;exact absurd a (bq)
  ·exact absurd a (bq)
  ·exact .inr (.inl a)
  ·rcases d.new b a with f|f|f
   ·rcases h.all b f with g|g|g
    ·exact .inl (fun p hp j=>c.mono p (d.mono p (g p hp j)))
    ·exact .inr (.inl (c.lost (d.lost g)))
    ·rcases hp b g a with k|k
     ·exact .inr (.inr k)
     ·exact .inl (fun p hp j=>c.mono p (k p hp j))
   ·exact absurd f i
   ·exact .inr (.inl (c.lost f))
 ·have:=d.no;have:=c.no;have:=h.le;rcases c.Xr e with a|a
  ·rcases d.Xr a with i|i
   ·have:=h.lost i;omega
   ·omega
  ·omega
theorem sJ.again(h:sJ G rs N Rm no0 (fun _=>False) st){W:Nat}(g:N<=W)(e:gw G rs N):sJ G rs N Rm st.no (fun b=>b∈(cS st.E W).map (·.1)) {st with lost:=false}:=
 ⟨⟨h.inv.marked,h.inv.no,h.inv.nw,h.inv.xs,h.inv.rm⟩,h.xs,fun b a=> .inr (.inr (bu.2 ⟨(b,st.E b),dW.2 ⟨by
  have c:=(h.inv.marked b a);have d:=e.top b (by rw [<-c.2];exact a);have f:st.E b≠0:=a;rw [<-c.2] at d;show b<W
  omega,a,rfl⟩,rfl⟩)),(fun h=>by cases h),ak _⟩
theorem sJ.done(h:sJ G rs N Rm no0 (fun _=>False) st)(e:st.lost=false)(f:∀a∈rs,a≠0->st.E a≠0)(a:Nat):st.E a≠0↔Reach G rs a:=
 wj h.inv.marked f (fun b d=>by
  rcases h.all b d with c|c|c
  ·exact c
  ·rw [e] at c;cases c
  ·exact c.elim) a
end
section
variable{I:jF}{t:TypeId}{v wk:Value}{L:Nat->Nat}{EL:cF}{W kb sb Rm:Nat}{S0:Nat->Prop}{w0:World}{PB:Nat->Prop}{wp:World}{S S1:Nat->Prop}{sv sv1:Value}{Hg Qj nr nv:Int}{st:je}{w w1:World}{fl:Nat}{r:Value}{dom:Nat->Prop}{G:Gr}{rs:List Nat}{N:Nat}
theorem kR.fresh_(b:dy t v fl r I dom)(h:kR I t v wk L EL W kb sb Rm S0 w0 PB wp S sv Hg nr nv st w)(hf:GM w w1):kR I t v wk L EL W kb sb Rm S0 w0 PB wp S sv Hg nr nv st w1:=
 ⟨b.Qa h.sp hf,h.Qd.frame hf id,h.ext.frame hf (fun _ _ h=>h),h.stk.Qa hf id (fun _ _ h=>h),aS h.Qp hf id,h.s0,h.Za,h.fr.trans hf GN,fun k a=>by
  obtain ⟨p1,p2,p3,p4,c⟩:=h.prot k a;have:=hf.size;exact ⟨p1,by omega,p3,p4,(hf.block k p2 id).trans c⟩⟩
theorem kR.protect(c:dy t v fl r I dom)(h:kR I t v wk L EL W kb sb Rm S0 w0 PB wp S sv Hg nr nv st w)(hf:GM w w1){P:Nat->Prop}(e:∀g,P g->w.heap.size<=g/\g<w1.heap.size):kR I t v wk L EL W kb sb Rm S0 w0 P w1 S sv Hg nr nv st w1:=by
 have a:=h.fresh_ c hf;have f:=h.size;refine ⟨a.sp,a.Qd,a.ext,a.stk,a.Qp,a.s0,a.Za,a.fr,fun k b=> ?_⟩;obtain ⟨i,d⟩:=e k b;exact ⟨by omega,d,fun b=>by have:=c.lt _ _ _ h.sp k b;omega,fun b=>by have:=h.svlt k b;omega,rfl⟩
theorem iZ.unprotect(h:iZ I t v wk L EL W kb sb Rm S0 w0 PB wp st w)(a:World):iZ I t v wk L EL W kb sb Rm S0 w0 (fun _=>False) a st w:=by
 obtain ⟨S,sv,Hg,nr,nv,h⟩:=h;exact ⟨S,sv,Hg,nr,nv,h.sp,h.Qd,h.ext,h.stk,h.Qp,h.s0,h.Za,h.fr,fun _ h=>h.elim⟩
end
def AV:je:={E:=fun _=>0,xs:=[],lost:=false,no:=0,nw:=0}
section
variable{I:jF}{t:TypeId}{v wk:Value}{L:Nat->Nat}{EL:cF}{W kb sb Rm:Nat}{S0:Nat->Prop}{w0:World}{PB:Nat->Prop}{wp:World}{S S1:Nat->Prop}{sv sv1:Value}{Hg Qj nr nv:Int}{st:je}{w w1:World}{fl:Nat}{r:Value}{dom:Nat->Prop}{G:Gr}{rs:List Nat}{N:Nat}
def yz(I:jF)(t:TypeId)(v wk:Value)(L:Nat->Nat)(EL:cF)(W kb sb Rm:Nat)(S0:Nat->Prop)(w0:World)(G:Gr)(rs:List Nat)(N:Nat)(e:Ending)(w':World):Prop:=
 e= .returned (.tuple #[])/\∃st:je,iZ I t v wk L EL W kb sb Rm S0 w0 (fun _=>False) w0 st w'/\jR G rs N Rm st/\∀a,st.E a≠0↔Reach G rs a
def Gw(I:jF)(t:TypeId)(v wk:Value)(L:Nat->Nat)(EL:cF)(W kb sb Rm:Nat)(S0:Nat->Prop)(w0:World)(G:Gr)(rs:List Nat)(N i:Nat)(w':World):Prop:=
 ∃st:je,iZ I t v wk L EL W kb sb Rm S0 w0 (fun _=>False) w0 st w'/\sJ G rs N Rm 0 (fun _=>False) st/\∀(j a:Nat),j<i->rs[j]? =some a->a≠0->st.E a≠0
def FW(I:jF)(t:TypeId)(v wk:Value)(L:Nat->Nat)(EL:cF)(W kb sb Rm:Nat)(S0:Nat->Prop)(w0:World)(G:Gr)(rs:List Nat)(N:Nat)(w':World)(m:Nat):Prop:=
 ∃(st:je) (n0:Nat),iZ I t v wk L EL W kb sb Rm S0 w0 (fun _=>False) w0 st w'/\sJ G rs N Rm n0 (fun _=>False) st/\(∀a∈rs,a≠0->st.E a≠0)/\2*(N-st.no)+(if st.lost then 1 else 0)<=m
def Fy(I:jF)(t:TypeId)(v wk:Value)(L:Nat->Nat)(EL:cF)(W kb sb Rm:Nat)(S0:Nat->Prop)(w0:World)(PB:Nat->Prop)(wp:World)(G:Gr)(rs:List Nat)(N n0:Nat)(l:List (Nat×Nat))(i:Nat)(w':World):Prop:=
 ∃st:je,iZ I t v wk L EL W kb sb Rm S0 w0 PB wp st w'/\sJ G rs N Rm n0 (fun b=>b∈(l.drop i).map (·.1)) st/\(∀a∈rs,a≠0->st.E a≠0)/\(∀x∈l,st.E x.1≠0)
theorem Fy.close{PB:Nat->Prop}{n0 c:Nat}{l:List (Nat×Nat)}{i:Nat}(h:Fy I t v wk L EL W kb sb Rm S0 w0 PB wp G rs N n0 l i w)(j:i=l.length)(o:2*(N-n0)+1<=c):∃m,m<c/\FW I t v wk L EL W kb sb Rm S0 w0 G rs N w m:=by
 obtain ⟨st,d,a,e,_⟩:=h;have f:sJ G rs N Rm n0 (fun _=>False) st:=⟨a.inv,a.xs,fun b g=>by
  rcases a.all b g with h|h|h
  ·exact .inl h
  ·exact .inr (.inl h)
  ·rw [j,iL] at h;exact absurd h (bq),a.lost,a.le⟩
 have k:=a.inv.small;have n:=a.le;refine ⟨2*(N-st.no)+(if st.lost then 1 else 0),?_,st,n0,d.unprotect w0,f,e,ak _⟩
 cases hl:st.lost with
 |false=>rw [aE (by decide)];omega
 |true=>have:=a.lost hl;rw [aG rfl];omega
theorem BH(hs:dy t v fl r I dom)(hS:AB EL kb sb w0.heap.size S0)(hG:gw G rs N)(hW:N<=W)(hO:∀a,G.size a≠0->jy L dom G a)(h:iZ I t v wk L EL W kb sb Rm S0 w0 (fun _=>False) w0 AV w)(y:Rm<=4096)
  (Z rc:Nat) (A:Z<w0.heap.size/\¬S0 Z/\¬EL.has Z/\Z≠kb/\Z≠sb) (bj:∀(i a:Nat),rs[i]? =some a->w0.cell? ⟨Z,i,none⟩=some (a:Int)) (bI:rs.length<=1048576):
  Calls prog 140 #[kb,.slice (some Z) rs.length rc] w (yz I t v wk L EL W kb sb Rm S0 w0 G rs N):=by
 have z:∀a,a∈rs->a≠0->Reach G rs a:=fun a n Y=> .root n Y
 have aZ:=ae (fun (i:Nat) w1 (a:Nat) c (o:rs[i]? =some a) (d:iZ I t v wk L EL W kb sb Rm S0 w0 (fun _=>False) w0 c w1) (f:sJ G rs N Rm 0 (fun _=>False) c)=>by
  have bK:=f.inv.small;have bD:N<=1048576:=by obtain ⟨_,_,_,_,_,H⟩:=d;have:=H.ext.small.2;omega
  exact sa hs hS hG hW hO d f.inv.marked a (fun K=>z a (aD o) K) (by omega) (by omega) y)
 have aw:=ae (fun PB wp w1 c (d:iZ I t v wk L EL W kb sb Rm S0 w0 PB wp c w1) (o:jR G rs N Rm c)=>wi hs hS hG hW hO d o y);have bo:=ae (fun PB wp w1 c a (d:iZ I t v wk L EL W kb sb Rm S0 w0 PB wp c w1) (o:jR G rs N Rm c) (T:Reach G rs a)=>qB hs hS hG hW hO d o a T y);have aE:=ae (fun (i a:Nat) c (o:rs[i]? =some a) (f:sJ G rs N Rm 0 (fun _=>False) c)=>qC (Rm:=Rm) hG f.inv (fun K=>z a (aD o) K));have aH:=ae (fun (l:List (Nat×Nat)) (i:Nat) x n0 c (o:l[i]? =some x) (f:sJ G rs N Rm n0 (fun b=>b∈(l.drop i).map (·.1)) c) (U:∀x∈l,c.E x.1≠0)=>ag (f.inv.marked _ (U x (aD o))).1 (oK (Rm:=Rm) hG f.inv (f.inv.marked _ (U x (aD o))).1).1);have aM:=ae (fun (i a:Nat) w2 c (o:rs[i]? =some a) (f:sJ G rs N Rm 0 (fun _=>False) c) (hj:∀(j a:Nat),j<i->rs[j]? =some a->a≠0->c.E a≠0) cur (d:iZ I t v wk L EL W kb sb Rm S0 w0 (fun _=>False) w0 cur w2) (H:sL G rs N Rm (eQ G Rm c a) cur []) (B:cur.xs=[])=>by
  have n:=pz (G:=G) (Rm:=Rm) c a (fun K=>hG.reach (z a (aD o) K));obtain ⟨u,q⟩:=f.go n.1 (fun b d _=>d.elim) H B;exact (show Gw I t v wk L EL W kb sb Rm S0 w0 G rs N (i+1) w2 from ⟨cur,d,u,fun j b bF F K=>by
   rcases aY j i with h|h
   ·exact q _ (n.1.mono _ (hj j b h F K))
   ·have:j=i:=by omega
    subst this;rw [o] at F;simp only [aL] at F;subst F;exact q _ (n.2 K)⟩))
 have aN:=ae (fun (PB:Nat->Prop) (wp:World) n0 (l:List (Nat×Nat)) (i:Nat) x w2 c (o:l[i]? =some x) (f:sJ G rs N Rm n0 (fun b=>b∈(l.drop i).map (·.1)) c) (bw:∀a∈rs,a≠0->c.E a≠0) (U:∀x∈l,c.E x.1≠0) cur (d:iZ I t v wk L EL W kb sb Rm S0 w0 PB wp cur w2) (H:sL G rs N Rm (gp G Rm c x.1) cur []) (B:cur.xs=[])=>by
  have bx:=U x (aD o);have n:=oK (Rm:=Rm) hG f.inv (f.inv.marked _ bx).1;have br:l.drop i=x::l.drop (i+1):=(al.1 o).2▸(ei (al.1 o).1);obtain ⟨u,q⟩:=f.go (pend':=fun b=>b∈(l.drop (i+1)).map (·.1)) n.2.1 (fun b d _=>by
   rw [br,cW] at d;rcases bM.1 d with e|e
   ·rw [e];exact .inr n.2.2
   ·exact .inl e) H B
  exact (show Fy I t v wk L EL W kb sb Rm S0 w0 PB wp G rs N n0 l (i+1) w2 from ⟨cur,d,u,fun a T K=>q _ (n.2.1.mono _ (bw a T K)),fun x B=>q _ (n.2.1.mono _ (U x B))⟩))
 have a3:∀wr c,iZ I t v wk L EL W kb sb Rm S0 w0 (fun _=>False) w0 c wr->∀(i a:Nat),rs[i]? =some a->wr.cell? ⟨Z,i,none⟩=some (a:Int):=by
  intro wr c d i a o;obtain ⟨_,_,_,_,_,H⟩:=d;exact (World.cell?_of_block (w:=w0) (w':=wr) (a:=⟨Z,i,none⟩) (H.fr.block Z A.1 (fun h=>by
   rcases h with h|h|h|h|h
   ·exact A.2.1 h
   ·exact A.2.2.1 h
   ·exact A.2.2.2.1 h
   ·exact A.2.2.2.2 h
   ·have:=A.1;omega))).trans (bj i a o)
 have aX:=ae a3;clear a3;have am:=ae (fun PB wp w1 w2 S sv Hg nr nv c nr1 (d:kR I t v wk L EL W kb sb Rm S0 w0 PB wp S sv Hg nr nv c w1) he hf=>d.Yv (w1:=w2) (no:=c.no) (nw:=c.nw) (nr1:=nr1) (nv1:=nv) hs hS he hf);have aB:=ae (fun w1 S sv Hg nr nv c (d:kR I t v wk L EL W kb sb Rm S0 w0 (fun _=>False) w0 S sv Hg nr nv c w1)=>zI sb sv _ Rm Hg c.lost w1 d.stk);have az:=ae (fun w1 S sv Hg nr nv c (d:kR I t v wk L EL W kb sb Rm S0 w0 (fun _=>False) w0 S sv Hg nr nv c w1)=>(wN sb sv _ Rm Hg c.lost w1 d.stk).mono (fun e w2 ⟨u,q,C⟩=>(⟨u,d.stk_ hs hS (xs:=c.xs) q (C.mono (fun k hk=> .inl (.inl hk))) (fun k hk=> .inl hk)⟩:e=Ending.returned (.tuple #[])/\iZ I t v wk L EL W kb sb Rm S0 w0 (fun _=>False) w0 {c with lost:=false} w2)));have ah:=ae (fun w1 S sv Hg nr nv c (d:kR I t v wk L EL W kb sb Rm S0 w0 (fun _=>False) w0 S sv Hg nr nv c w1)=>callsIn_wide.1 (vX 0 (d.Qd.cell 1 rfl) d.ext d.Qp));have aP:=ae (fun w1 w2 S sv Hg nr nv c (P:Nat->Prop) (d:kR I t v wk L EL W kb sb Rm S0 w0 (fun _=>False) w0 S sv Hg nr nv c w1) (hf:GM w1 w2) (hP:∀g,P g->w1.heap.size<=g/\g<w2.heap.size)=>d.protect hs hf hP);have aq:=ae (fun n0 c (f:sJ G rs N Rm n0 (fun _=>False) c)=>f.again hW hG);have ai:∀w' st n0,iZ I t v wk L EL W kb sb Rm S0 w0 (fun _=>False) w0 st w'->sJ G rs N Rm n0 (fun _=>False) st->(∀a∈rs,a≠0->st.E a≠0)->st.lost=false->yz I t v wk L EL W kb sb Rm S0 w0 G rs N (.returned (.tuple #[])) w':=fun w' st n0 n Y h3 h4=>⟨rfl,st,n,Y.inv,fun a=>Y.done h4 h3 a⟩
 have ax:=ae ai;generalize (yz I t v wk L EL W kb sb Rm S0 w0 G rs N)=Q at*;have bg:sJ G rs N Rm 0 (fun _=>False) AV:=⟨⟨fQ.none G rs,by
  show 0=Qb _ 0 N
  exact (cu (fun i _ _=>rfl)).symm,by
  show 0=Qb _ 0 N
  exact (cu (fun i _ _=>by rw [be];intro hh;obtain ⟨s,n,Y⟩:=cX.1 hh;simp only [AV] at Y;omega)).symm,fun x B=>absurd B (bq),aF _⟩,rfl,fun b d=>absurd rfl d,(fun h=>by cases h),ak _⟩
 obtain ⟨S,sv,Hg,nr,nv,H⟩:=h;have k6:=H.Qd.cell 6 rfl;have f6:=H.Qd.free 6;have HX:Hid (∀w8,w8=w.setCell ⟨kb,6,none⟩ (.int .i64 1)->Gw I t v wk L EL W kb sb Rm S0 w0 G rs N 0 w8):=by
  show∀w8,_
  rintro w8 rfl;exact ⟨AV,⟨_,_,_,_,_,am.out _ _ _ _ _ _ _ _ _ _ 1 H (H.Qd.set 6 (.int .i64 1)) ((GQ (fun k=>k=kb) w).setCell ⟨kb,6,none⟩ (.inl rfl) _)⟩,bg,fun j a hj=>by omega⟩
 clear hs hS hG hW hO y A bj z ai bg H;unfold pj Ek at*
 go_enter func140,ntmps140
 go_upto_region 1 with fail
 have a2:=ae (HX.out _ rfl);generalize w.setCell ⟨kb,6,none⟩ (.int .i64 1)=w1 at*;clear HX k6 f6;go_wp2
 go_loopw [14] (fun x wr=>∃(i:Nat),x= .int .i64 i/\i<=rs.length/\Hid (Gw I t v wk L EL W kb sb Rm S0 w0 G rs N i wr)) (fun x _=>(rs.length-intOf x).toNat)
 case atStart=>exact ⟨0,rfl,by omega,a2⟩
 case round=>
  clear a2;obtain ⟨i,rfl,n,f⟩:=hrel;by_cases V:i<rs.length
  ·have a9:(i:Int)<(rs.length:Int):=by omega
   obtain ⟨a,T⟩:∃a,rs[i]? =some a:=⟨_,aK V⟩;obtain ⟨c,u,q,C⟩:=f.out;have ck:=aX.out wr c u i a T;have aQ:=ae (aZ.out i wr a c T u q);have HN:=ae (fun w4 cur=>aM.out i a w4 c T q C cur);have O:=ae (aE.out i a c T q);clear f u q C T;go_wp2_with fail
   refine aQ.out.mono ?_;rintro e w3 ⟨rfl,a4⟩;have D:=ae (aw.out _ _ _ _ a4 O.out);clear a4 aQ ck O;go_wp2_with fail
   refine D.out.mono ?_;rintro e w4 ⟨rfl,cur,b1,b2,b3⟩;have bl:=ae (HN.out w4 cur b1 b2 b3);clear b1 b2 b3 D HN;go_wp2;go_roundw
   case rel=>exact ⟨i+1,by go_num,by omega,bl⟩
   case measure=>simp [intOf];omega
  ·have bf:¬(i:Int)<(rs.length:Int):=by omega
   have bu:i=rs.length:=by omega
   obtain ⟨M,hM⟩:∃M,Hid (FW I t v wk L EL W kb sb Rm S0 w0 G rs N wr M):=by
    obtain ⟨c,u,q,C⟩:=f.out;exact ⟨_,⟨c,0,u,q,fun a T K=>by
     obtain ⟨j,hj,e⟩:=List.getElem_of_mem T;exact C j a (by omega) (by rw [<-e];exact aK hj) K,ak _⟩⟩
   clear f n V bu aM aZ aX;go_wp2
   go_loopw [] (fun wr=>∃m,Hid (FW I t v wk L EL W kb sb Rm S0 w0 G rs N wr m)) (fun wr=>gu (FW I t v wk L EL W kb sb Rm S0 w0 G rs N wr))
   case atStart=>exact ⟨M,hM⟩
   case round=>
    clear hM bf;obtain ⟨m,hm⟩:=hrel;obtain ⟨f,_⟩:=dG hm.out;clear hm;generalize bb:gu (FW I t v wk L EL W kb sb Rm S0 w0 G rs N _)=m0 at f;have aC:=ae bb;clear bb;obtain ⟨c,n0,u,q,C,q4⟩:=f;obtain ⟨S1,sv1,Qj,nr1,nv1,Xk⟩:=id u;have k2:=Xk.Qd.cell 2 rfl;have R:=ae (aB.out _ _ _ _ _ _ _ Xk)
    cases hls:c.lost with
    |false=>
     have HQ:=ae (ax.out _ _ _ u q C hls);rw [hls] at R;clear u q C q4 Xk hls aC;go_wp2_with fail
     refine R.out.mono ?_;rintro e w2 ⟨rfl,rfl⟩;go_wp2;go_end0;exact HQ.out
    |true=>
     have ay:=ae (az.out _ _ _ _ _ _ _ Xk);have aj:=ae (ag (aq.out _ _ q) C);have bc:2*(N-c.no)+1<=m0:=by rw [hls,aG rfl] at q4;exact q4
     rw [hls] at R;clear u q C q4 Xk hls;go_wp2_with fail
     refine R.out.mono ?_;rintro e w2 ⟨rfl,rfl⟩;go_wp2_with fail
     refine ay.out.mono ?_;rintro e w2 ⟨rfl,F⟩;obtain ⟨S2,bB,high2,ao,bz,Qz⟩:=F;have k6:=Qz.Qd.cell 6 rfl;have f6:=Qz.Qd.free 6;have HX:Hid (∀x w8,w8=w2.setCell ⟨kb,6,none⟩ (.int .i64 x)->kR I t v wk L EL W kb sb Rm S0 w0 (fun _=>False) w0 S2 bB high2 x bz {c with lost:=false} w8):=by
      show∀x w8,_
      rintro x w8 rfl;exact am.out _ _ _ _ _ _ _ _ _ _ x Qz (Qz.Qd.set 6 (.int .i64 x)) ((GQ (fun k=>k=kb) w2).setCell ⟨kb,6,none⟩ (.inl rfl) _)
     clear Qz ay R k2
     go_upto_region 10 with fail
     have vA:=HX.out (wrap64 (ao+1)) _ rfl;generalize w2.setCell ⟨kb,6,none⟩ (.int .i64 (wrap64 (ao+1)))=w3 at*;generalize wrap64 (ao+1)=nr3 at*;clear HX k6 f6;have a0:=ae (ah.out _ _ _ _ _ _ _ vA);have D:=ae vA;clear vA;go_wp2_with fail
     refine a0.out.mono ?_;rintro e w4 ⟨sl,rfl,ho,hf⟩;obtain ⟨l,U⟩:∃l,l=cS c.E W:=⟨_,rfl⟩;have bH:l.length<=1048576:=by
      have n:=qx c.E W;obtain ⟨_,Y⟩:=D.out.ext.small;rw [U];omega
     have a8:∀x∈l,c.E x.1≠0:=fun x B=>by rw [U] at B;exact (dW.1 B).2.1
     have X:w4.ownsRow (w3.heap.size+2) 3 1 sl l.length (jK l):=by rw [U];exact ho
     have hA:=aj.out.1;rw [<-U] at hA;clear ho U;obtain ⟨p,cap,an⟩:∃p cap,sl= .slice p l.length cap:=by
      rcases X.2 with ⟨n,Y⟩|⟨g,cap,cur,n,_⟩
      ·exact ⟨none,0,by rw [n,Y]⟩
      ·exact ⟨_,cap,n⟩
     have a6:=aP.out _ _ _ _ _ _ _ _ (fun k=>sl.ownBlock=some k) D.out hf (fun g hg=>by have:=X.lt g hg;omega);have ar:Hid (∀wr J,iZ I t v wk L EL W kb sb Rm S0 w0 (fun k=>sl.ownBlock=some k) w4 J wr->∀(i:Nat) x,l[i]? =some x->∃g,p=some ⟨g,0,none⟩/\wr.cell? ⟨g,i,none⟩=some (.int .i64 (x.1:Int))):=by
      show∀wr J,_
      rintro wr J ⟨_,_,_,_,_,bs⟩ i x o;have bE:=(al.1 o).1;rcases X.2 with ⟨n,Y⟩|⟨g,bC,cur,n,_⟩
      ·omega
      ·have hp:p=some ⟨g,0,none⟩:=by rw [n] at an;cases an;rfl
       refine ⟨g,hp,?_⟩;have bv:=(bs.prot g (by rw [n];rfl)).2.2.2.2;have hc:=X;rw [n] at hc;have bp:=hc.cellAt i (by omega);rw [(World.cell?_of_block (w:=w4) (w':=wr) (a:=⟨g,i,none⟩) bv),bp];unfold jK;rw [aR,o];rfl
     have ap:Hid (Fy I t v wk L EL W kb sb Rm S0 w0 (fun k=>sl.ownBlock=some k) w4 G rs N c.no l 0 w4):=⟨{c with lost:=false},⟨_,_,_,_,_,a6⟩,hA,aj.out.2,a8⟩;have au:=ae (fun i wr (h:Fy I t v wk L EL W kb sb Rm S0 w0 (fun k=>sl.ownBlock=some k) w4 G rs N c.no l i wr) o=>h.close o bc);have ad:=ae (aN.out (fun k=>sl.ownBlock=some k) w4 c.no l);have af:=ae (aH.out l);generalize (fun k=>sl.ownBlock=some k)=PB at*;generalize c.no=n1 at*;clear a6 hA a8 X hf D aj a0 bc aN aH aq aP ah az aB am aE;subst an;go_wp2
     go_loopw [46] (fun x wr=>∃(i:Nat),x= .int .i64 i/\i<=l.length/\Hid (Fy I t v wk L EL W kb sb Rm S0 w0 PB w4 G rs N n1 l i wr)) (fun x _=>(l.length-intOf x).toNat)
     case atStart=>exact ⟨0,rfl,by omega,ap⟩
     case round=>
      clear ap;obtain ⟨j,rfl,n,f⟩:=hrel;by_cases V:j<l.length
      ·have a9:(j:Int)<(l.length:Int):=by omega
       obtain ⟨x,B⟩:∃x,l[j]? =some x:=⟨_,aK V⟩;obtain ⟨J,u,q,C,q5⟩:=f.out;obtain ⟨g,hp,ck⟩:=ar.out _ _ u j x B;obtain ⟨bk,a7⟩:=af.out j x _ J B q q5;have a1:=ae (bo.out _ _ _ _ _ u q.inv bk);have O:=ae a7;have HN:=ae (fun w6 cur=>ad.out j x w6 J B q C q5 cur);clear f u q C q5 bk a7 B;subst hp;go_wp2_with fail
       refine a1.out.mono ?_;rintro e w5 ⟨rfl,a5⟩;have av:=ae (aw.out _ _ _ _ a5 O.out);clear a5 a1 ck O;go_wp2_with fail
       refine av.out.mono ?_;rintro e w6 ⟨rfl,cur,b1,b2,b3⟩;have bn:=ae (HN.out w6 cur b1 b2 b3);clear b1 b2 b3 av HN;go_wp2;go_roundw
       case rel=>exact ⟨j+1,by go_num,by omega,bn⟩
       case measure=>simp [intOf];omega
      ·have bf:¬(j:Int)<(l.length:Int):=by omega
       obtain ⟨m2,bd,bi⟩:=au.out j _ f.out (by omega);have aT:=ae bi;clear f bi n V au ar ad af;go_wp2;go_roundw
       case rel=>exact ⟨m2,aT⟩
       case measure=>exact bU (dG aT.out).2 (by first|exact bd|(rw [aC.out];exact bd))
end
end Go.Proofs.YthahbijbpinneaaGreatDoor
