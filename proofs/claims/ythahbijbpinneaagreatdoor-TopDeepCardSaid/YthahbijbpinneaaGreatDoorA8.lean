import Derived.Test.YthahbijbpinneaaGreatDoorA1
import Derived.Test.YthahbijbpinneaaGreatDoorA3
import Derived.Test.YthahbijbpinneaaGreatDoorA4
import Derived.Test.YthahbijbpinneaaGreatDoorA7
import Derived.Test.YthahbijbpinneaaGreatDoorShelf
import Derived.Shelf.Abstract
set_option maxRecDepth 100000
set_option maxHeartbeats 8000000
set_option linter.all false
namespace Go.Proofs.YthahbijbpinneaaGreatDoor
open Go.RowKit
def ii (L:Nat->Nat) (a W n:Nat):Nat->Nat:=fun k=>if k=a then W else if a<k∧k<a+1+n then 0 else L k
theorem vh (L:Nat->Nat) (a W:Nat):ii L a W 0=bw L a W:=by
 funext k;unfold ii bw;by_cases h:k=a
 ·rw [if_pos h,if_pos h]
 ·rw [if_neg h,if_neg h,if_neg (by omega)]
theorem vg (L:Nat->Nat) (a W n:Nat):bw (ii L a W n) (a+1+n) 0=ii L a W (n+1):=by
 funext k;show (if k=a+1+n then 0 else if k=a then W else if a<k∧k<a+1+n then 0 else L k)=if k=a then W else if a<k∧k<a+1+(n+1) then 0 else L k
 by_cases h:k=a+1+n
 ·subst h;rw [if_pos rfl,if_neg (by omega),if_pos (by omega)]
 ·rw [if_neg h];by_cases b:k=a
  ·rw [if_pos b,if_pos b]
  ·rw [if_neg b,if_neg b];by_cases c:a<k∧k<a+1+n
   ·rw [if_pos c,if_pos (by omega)]
   ·rw [if_neg c,if_neg (by omega)]
def mV (w:World) (c1 c2 c3 a W p f g:Nat):Prop:=aj w c1 [.int .i64 a] 3∧aj w c2 [.int .u64 W] 46∧aj w c3 [.int .i64 p,.int .i64 f,.int .i64 g] 31
theorem mV.keep {w w':World} {c1 c2 b a W p f g:Nat} {T:Nat->Prop} (h:mV w c1 c2 b a W p f g) (hf:Fr T w w') (c:¬T c1) (d:¬T c2) (e:¬T b):mV w' c1 c2 b a W p f g:=⟨h.1.frame hf c,h.2.1.frame hf d,h.2.2.frame hf e⟩
section
variable {t:TypeId} {v:Value} {fl fs:Nat} {r:Value} {I:dZ} {dom:Nat->Prop} {L L' L'':Nat->Nat} {S:Nat->Prop} {w w1 w2:World} {b lo n:Nat}
theorem yX (q:cW I) (K:aX t v fl r I dom) (Z:iA t v fs r I dom) (h:ni I t v b lo L S 0 w) (c1 c2 C a p f g:Nat) (H:mV w c1 c2 C a (eW p f g) p f g) (J:bl p f g)
  (c:∀k,k=c1∨k=c2∨k=C->¬S k∧k≠b∧k<lo) (hA:a<4611686018427387904) (j:∀k,a<=k->k<a+1+(p+f+g)->dom k):
  Calls Tryz.prog 127 #[b,.pointer (some ⟨c1,0,none⟩),.pointer (some ⟨c2,0,none⟩),.pointer (some ⟨C,0,none⟩)] w (nj I t v b lo (ii L a (eW p f g) (p+f+g)) S (p+f+g+1) w (.tuple #[])):=by
 have hW:eW p f g<18446744073709551616:=by obtain ⟨_,G,_,T,_,U,_⟩:=J;exact uS (by omega) (by omega) (by omega)
 have hN:p+f+g<256:=by obtain ⟨_,G,_,T,_,U,h4⟩:=J;omega
 have B:=ae (fun w1=>dj p f g w1);have F:co p f g=((1+(p+f+g):Nat):Int):=by rw [co,if_pos J];push_cast;omega
 rw [F] at B;unfold bN at B;have d:=ae (gE q K Z h a (eW p f g) (j a (by omega) (by omega)) hW (by omega));rw [<-vh] at d;have R:=ae (fun i (hi:i<p+f+g) w' (hp:tW I t v b lo (ii L a (eW p f g) i) S (i+1) w w')=>by
  obtain ⟨S',G,T,U⟩:=hp;have hq:=gE q K Z G (a+1+i) 0 (j _ (by omega) (by omega)) (by omega) (by omega);rw [vg] at hq;exact hq.mono (fun e w2 ⟨he,s⟩=>(⟨he,gj h.2.2.1 T U s⟩:nj I t v b lo (ii L a (eW p f g) (i+1)) S (i+1+1) w (.tuple #[]) e w2)))
 have y:=ae (fun w' M i (hp:tW I t v b lo (ii L a (eW p f g) i) S M w w')=>H.keep hp.choose_spec.2.1 (fun h=>by have:=c c1 (.inl rfl);rcases h with h|h|h;exact this.1 h;exact this.2.1 h;omega) (fun h=>by have:=c c2 (.inr (.inl rfl));rcases h with h|h|h;exact this.1 h;exact this.2.1 h;omega) (fun h=>by have:=c C (.inr (.inr rfl));rcases h with h|h|h;exact this.1 h;exact this.2.1 h;omega));have O:=ae (fun w' w2 M i (hp:tW I t v b lo (ii L a (eW p f g) i) S M w w') (hf:Fr (fun _=>False) w' w2)=>(gj h.2.2.1 hp.choose_spec.2.1 hp.choose_spec.2.2 (hp.choose_spec.1.Fh K hf):tW I t v b lo (ii L a (eW p f g) i) S M w w2));have Q:Hid ((Tryz.prog.info? 31).map (·.size)=some 3):=by show _=_;kernel_rfl
 have k1:=H.1.cell 0 rfl;have k2:=H.2.1.cell 0 rfl;unfold d8 at B;unfold nj at*;generalize eW p f g=W at*;generalize V:p+f+g=N at*;have ah:IntKind.i64.wrap (1+(N:Int)-1)=(N:Int):=by rw [IntKind.wrap_i64];omega
 clear q K Z h H J c j hW F V
 go_enter Tryz.func127,Tryz.ntmps127
 go_wp2_with fail
 refine (d.out).mono ?_;rintro e w1 ⟨rfl,o⟩;have u:=ae (y.out _ _ _ o);have z:=ae o;clear o d k1 k2;go_wp2_with (refine wpList_load_row rfl 31 _ rfl C rfl 31 #[.int .i64 p,.int .i64 f,.int .i64 g] _ _ u.out.2.2 Tryz.underlying31 rfl Q.out ?_)
 refine (B.out _).mono ?_;rintro e w2 ⟨rfl,D⟩;have A:=ae (O.out _ _ _ _ z.out D);clear D z u B;have am:IntKind.i64.wrap ((a:Int)+1)=(a:Int)+1:=by rw [IntKind.wrap_i64];omega
 rw [show ((1+N:Nat):Int)=1+(N:Int) by push_cast;rfl];go_wp2
 go_loopw [13] (fun x wr=>∃(i:Nat),x= .int .i64 i∧i<=N∧Hid (tW I t v b lo (ii L a W i) S (i+1) w wr)) (fun x _=>(N-intOf x).toNat)
 case atStart=>exact ⟨0,rfl,by omega,A.out⟩
 case round=>
  clear A;obtain ⟨i,rfl,G,s⟩:=hrel;have HC:=ae (y.out _ _ _ s.out);have k1:=HC.out.1.cell 0 rfl;by_cases Y:i<N
  ·have ad:(i:Int)<(N:Int):=by omega
   have ap:IntKind.i64.wrap ((a:Int)+1+(i:Int))=(a:Int)+1+(i:Int):=by rw [IntKind.wrap_i64];omega
   have m:=R.out i Y _ s.out;rw [show ((a+1+i:Nat):Int)=(a:Int)+1+(i:Int) by push_cast;rfl,show ((0:Nat):Int)=0 from rfl] at m;have l:=ae m;clear m s HC;go_wp2_with fail
   refine (l.out).mono ?_;rintro e w3 ⟨rfl,E⟩;have P:=ae E;clear E l;go_wp2;go_roundw
   case rel=>exact ⟨i+1,by go_num,by omega,P⟩
   case measure=>simp [intOf];omega
  ·have X:i=N:=by omega
   subst X;go_wp2;go_end0;exact ⟨rfl,s.out⟩
end
section
variable {t:TypeId} {v:Value} {fl fs:Nat} {r:Value} {I:dZ} {dom:Nat->Prop} {L L' L'':Nat->Nat} {S:Nat->Prop} {w w1 w2:World} {b lo n:Nat}
theorem yd (p:aX t v fl r I dom) (o:I L S w) (F:Nat) (cap:Array Value) (s:∀args w,(callFunc F args).run Tryz.prog w= .ok (.enter F args) w)
  (u:∀b w1,Fr (fun _=>False) w w1->w.heap.size<=b->ni I t v b w1.heap.size L S 0 w1->Calls Tryz.prog F (#[.pointer (some ⟨b,0,none⟩)]++cap) w1 (nj I t v b w1.heap.size L' S n w1 (.tuple #[]))):
  Calls Tryz.prog 126 #[.iface t v,.func (.func F) #[] cap] w (bz I L' S w (.agg #[.int .i64 0,.int .i64 0])):=by
 have a:=p.lt _ _ _ o;refine (mM t v F cap s w (fun w1 w2=>∃S':Nat->Prop,I L' S' w2∧Fr (fun k=>S k∨w.heap.size<=k) w1 w2∧∀k,S' k->S k∨w1.heap.size<=k) (fun b w1 hf x m l=> ?_)).mono ?_
 ·refine (u b w1 hf x ⟨p.keep o hf,m,Nat.le_refl _,fun h=>by have:=a b h;omega,_,[],l,World.ownsRow_nil _ _ _ _,fun k f=>by simp [Value.ownBlock] at f⟩).mono ?_;rintro e w2 ⟨rfl,S',j,g,i⟩;refine ⟨rfl,⟨S',j.1,g.mono (fun k h=> ?_),i⟩,_,fun k h=> ?_,g⟩
  ·have:=hf.size;rcases h with h|h|h
   ·exact .inl (.inl h)
   ·exact .inl (.inr (by omega))
   ·exact .inl (.inr (by omega))
  ·rcases h with h|h|h
   ·exact .inr (.inl (a k h))
   ·exact .inl h
   ·exact .inr (.inr h)
 ·rintro e w' ⟨rfl,w1,w2,c,⟨S',j,g,i⟩,d⟩;have y:=c.size;refine ⟨rfl,S',p.stays_new o j d (fun k f q=> ?_) (fun k q=>q.1),?_,fun k f=> ?_⟩
  ·rcases i k f with h|h
   ·have:=a k h;omega
   ·omega
  ·exact ((c.mono (S':=S) (fun _ h=>h.elim)).trans g (fun k h=>h)).trans d (fun k h=> .inr h.1)
  ·rcases i k f with h|h
   ·exact .inl h
   ·exact .inr (by omega)
theorem oq (D:cW I) (u:aX t v fl r I dom) (T:iA t v fs r I dom) (H:I L S w) (a p f g:Nat) (U:1<=a) (Q:a<4611686018427387904) (M:bl p f g) (q:∀k,a<=k->k<a+1+(p+f+g)->dom k):
  Calls Tryz.prog 55 #[.iface t v,.int .i64 a,bN p f g] w (bz I (ii L a (eW p f g) (p+f+g)) S w (.int .i64 0)):=by
 have Z:∀(fn:Fn) (first cap:Array Value) (w:World),(Instr.makeFunc fn first cap).run Tryz.prog w= .ok (.func fn first cap) w:=fun _ _ _ _=>rfl
 have c:=ae (fun w1=>uW p f g M w1);have l:=u.lt _ _ _ H;have o:=ae (fun W (hf:Fr (fun _=>False) w W) c1 c2 F (G:mV W c1 c2 F a (eW p f g) p f g) (h1:w.heap.size<=c1∧w.heap.size<=c2∧w.heap.size<=F)=>yd (L':=ii L a (eW p f g) (p+f+g)) (n:=p+f+g+1) u (u.keep H hf) 127 #[.pointer (some ⟨c1,0,none⟩),.pointer (some ⟨c2,0,none⟩),.pointer (some ⟨F,0,none⟩)] (enters_of Tryz.func127 (by kernel_rfl) rfl) (fun b w1 C hb hw=>yX D u T hw c1 c2 F a p f g (G.keep C (fun h=>h) (fun h=>h) (fun h=>h)) M (fun k Y=>by
  have l1:=G.1.lt;have l2:=G.2.1.lt;have l3:=G.2.2.lt;have:=C.size;rcases Y with rfl|rfl|rfl
  ·exact ⟨fun h=>by have:=l _ h;omega,by omega,by omega⟩
  ·exact ⟨fun h=>by have:=l _ h;omega,by omega,by omega⟩
  ·exact ⟨fun h=>by have:=l _ h;omega,by omega,by omega⟩) Q q))
 have m:=ae (fun W w' (hf:Fr (fun _=>False) w W) (hp:dz I (ii L a (eW p f g) (p+f+g)) S W w')=>u.Ah hf H hp);unfold yr at c;generalize ii L a (eW p f g) (p+f+g)=L2 at*;have J:Hid ((Tryz.prog.info? 31).map (·.size)=some 3):=by show _=_;kernel_rfl
 generalize eW p f g=X at*;unfold bz at*;have V:(1:Int)<=(a:Int):=by omega
 clear D u T H M q l Q U;unfold bN at*
 go_enter Tryz.func55,Tryz.ntmps55
 go_upto_region 1 with fail
 obtain ⟨W1,d⟩:∃W1,(w.alloc (.cells #[.int .i64 a] 3)).alloc (.cells #[.int .i64 p,.int .i64 f,.int .i64 g] 31)=W1:=⟨_,rfl⟩;have E:(w.alloc (.cells #[.int .i64 a] 3)).heap.size=w.heap.size+1:=Array.size_push _;have z:Fr (fun _=>False) w W1:=by rw [<-d];exact ((Fr.refl _ w).alloc _).alloc _
 have s:aj W1 w.heap.size [.int .i64 a] 3:=by rw [<-d];exact (aj.new w [.int .i64 a] 3).alloc _
 have A:aj W1 (w.heap.size+1) [.int .i64 p,.int .i64 f,.int .i64 g] 31:=by
  have h:=aj.new (w.alloc (.cells #[.int .i64 a] 3)) [.int .i64 p,.int .i64 f,.int .i64 g] 31;rw [E] at h;rw [<-d];exact h
 rw [d];clear d E;have k1:=s.cell 0 rfl;have x:=ae (af z (af s A));clear z s A;go_wp2_with (refine wpList_load_row rfl 31 _ rfl (w.heap.size+1) rfl 31 #[.int .i64 p,.int .i64 f,.int .i64 g] _ _ x.out.2.2 Tryz.underlying31 rfl J.out ?_)
 refine (c.out _).mono ?_;rintro e K ⟨rfl,j⟩;have i:=x.out.1.trans j (fun _ h=>h.elim);have y:=x.out.2.1.frame j (fun h=>h);have B:=x.out.2.2.frame j (fun h=>h);have O:=ae (o.out (K.alloc (.cells #[.int .u64 X] 46)) (i.alloc _) w.heap.size K.heap.size (w.heap.size+1) ⟨y.alloc _,aj.new K _ _,B.alloc _⟩ ⟨Nat.le_refl _,i.size,by omega⟩);have N:=ae (m.out _ · (i.alloc (.cells #[.int .u64 X] 46)));clear o m c j i y B x k1;go_wp2_with fail
 refine (O.out).mono ?_;rintro e P ⟨rfl,hp⟩;have hq:=N.out _ hp;clear O N hp;have R:(Instr.field 197 (.agg #[.int .i64 0,.int .i64 0]) 0).run Tryz.prog P= .ok (.int .i64 0) P:=by kernel_rfl
 go_wp2;go_ret;exact ⟨rfl,hq⟩
end
def iu (L:Nat->Nat) (fr z n:Nat):Nat->Nat:=fun k=>if z<=k∧k<z+n then L (fr+(k-z)) else L k
theorem uv (L:Nat->Nat) (fr z:Nat):iu L fr z 0=L:=by
 funext k;unfold iu;rw [if_neg (by omega)]
theorem ut (L:Nat->Nat) (fr z n:Nat):bw (iu L fr z n) (z+n) (L (fr+n))=iu L fr z (n+1):=by
 funext k;show (if k=z+n then L (fr+n) else if z<=k∧k<z+n then L (fr+(k-z)) else L k)=if z<=k∧k<z+(n+1) then L (fr+(k-z)) else L k
 by_cases h:k=z+n
 ·subst h;rw [if_pos rfl,if_pos (by omega),show z+n-z=n by omega]
 ·rw [if_neg h];by_cases a:z<=k∧k<z+n
  ·rw [if_pos a,if_pos (by omega)]
  ·rw [if_neg a,if_neg (by omega)]
def da (L:Nat->Nat) (fr n i:Nat):List Nat:=(List.range n).map (fun j=>if j<i then L (fr+j) else 0)
theorem pu (L:Nat->Nat) (fr n:Nat):da L fr n 0=List.replicate n 0:=by
 unfold da;apply List.ext_getElem?;intro j;rw [List.getElem?_map,List.getElem?_replicate];by_cases h:j<n
 ·rw [List.getElem?_range h,if_pos h];rfl
 ·rw [List.getElem?_eq_none (by simpa using h),if_neg h];rfl
theorem fU (L:Nat->Nat) (fr n i j:Nat) (h:j<n):(da L fr n i)[j]? =some (if j<i then L (fr+j) else 0):=by
 unfold da;rw [List.getElem?_map,List.getElem?_range h];rfl
theorem se (L:Nat->Nat) (fr n i:Nat) (h:i<n):(da L fr n i).set i (L (fr+i))=da L fr n (i+1):=by
 apply List.ext_getElem?;intro j;by_cases a:j<n
 ·rw [fU _ _ _ _ _ a,List.getElem?_set];by_cases e:i=j
  ·subst e;rw [if_pos rfl,if_pos (by simpa [da] using h),if_pos (by omega)]
  ·rw [if_neg e,fU _ _ _ _ _ a];by_cases b:j<i
   ·rw [if_pos b,if_pos (by omega)]
   ·rw [if_neg b,if_neg (by omega)]
 ·rw [List.getElem?_eq_none (by simpa [da] using a),List.getElem?_eq_none (by simpa [da] using a)]
def lT (I:dZ) (t:TypeId) (v:Value) (b lo q:Nat) (L:Nat->Nat) (S:Nat->Prop) (m:Nat) (xs:List Nat) (w w':World):Prop:=
 ∃S':Nat->Prop,ni I t v b lo L S' m w'∧Fr (fun k=>S k∨k=b∨q<=k) w w'∧(∀k,S' k->S k∨w.heap.size<=k)∧aj w' q (bB xs) 46∧w.heap.size<=w'.heap.size
section
variable {t:TypeId} {v:Value} {fl fs:Nat} {r:Value} {I:dZ} {dom:Nat->Prop} {L L' L'':Nat->Nat} {S S1:Nat->Prop} {w w1 w2:World} {b lo q m m' n:Nat} {xs:List Nat}
theorem lT.op (p:q<lo) (o:b<q) (g:lo=w.heap.size) (f:¬S q) (d:Fr (fun k=>S k∨k=b∨q<=k) w w1) (a:∀k,S1 k->S k∨w.heap.size<=k) (e:aj w1 q (bB xs) 46) (hp:tW I t v b lo L' S1 m' w1 w2):lT I t v b lo q L' S m' xs w w2:=by
 obtain ⟨S2,j,c,l⟩:=hp;have s:=d.size;have i:=c.size;refine ⟨S2,j,d.trans c (fun k h=> ?_),fun k h=> ?_,e.frame c (fun h=> ?_),by omega⟩
 ·rcases h with h|h|h
  ·exact (a k h).imp .inl id
  ·exact .inl (.inr (.inl h))
  ·exact .inl (.inr (.inr (by omega)))
 ·rcases l k h with h|h
  ·exact a k h
  ·exact .inr (by omega)
 ·rcases h with h|h|h
  ·rcases a _ h with h|h
   ·exact f h
   ·omega
  ·omega
  ·omega
theorem lT.set (c:cW I) (E:q<lo) (D:b<q) (z:lo=w.heap.size) (x:¬S q) (h:lT I t v b lo q L S m xs w w1) (i y:Nat):lT I t v b lo q L S m (xs.set i y) w (w1.setCell ⟨q,i,none⟩ (.int .u64 y)):=by
 obtain ⟨S1,⟨g,j,B,l,sl,ys,o,d,p⟩,s,f,u,C⟩:=h;have A:¬S1 q:=fun h=>by rcases f _ h with h|h;exact x h;omega
 have hf:Fr (fun k=>k=q) w1 (w1.setCell ⟨q,i,none⟩ (.int .u64 y)):=(Fr.refl (fun k=>k=q) w1).setCell ⟨q,i,none⟩ (.inl rfl) _;have F:=hf.size;refine ⟨S1,⟨c _ _ _ _ _ g hf (fun k a e=>A (e▸a)),j,by omega,l,sl,ys,o.frame hf (fun e=>by omega),bp d hf (fun k a e=>by have:=(d.lt k a).1;omega),p⟩,s.trans hf (fun k e=> .inl (.inr (.inr (by omega)))),f,?_,by omega⟩;have:=u.set i (.int .u64 y);unfold bB at*;rw [List.map_set];exact this
def mP (w:World) (c1 c2 c3 fr z p f g:Nat):Prop:=aj w c1 [.int .i64 p,.int .i64 f,.int .i64 g] 31∧aj w c2 [.int .i64 fr] 3∧aj w c3 [.int .i64 z] 3
theorem mP.keep {w w':World} {c1 c2 a fr z p f g:Nat} {T:Nat->Prop} (h:mP w c1 c2 a fr z p f g) (hf:Fr T w w') (c:¬T c1) (d:¬T c2) (e:¬T a):mP w' c1 c2 a fr z p f g:=⟨h.1.frame hf c,h.2.1.frame hf d,h.2.2.frame hf e⟩
def wY (I:dZ) (b:Nat) (L:Nat->Nat) (S:Nat->Prop) (w:World) (e:Ending) (w':World):Prop:=e= .returned (.tuple #[])∧∃S':Nat->Prop,I L S' w'∧Fr (fun k=>S k∨k=b∨w.heap.size<=k) w w'∧∀k,S' k->S k∨w.heap.size<=k
theorem y5 (X:cW I) (hs:aX t v fl r I dom) (ht:iA t v fs r I dom) (hi:I L S w) (hb:aj w b [.iface t v,.slice none 0 0] 270) (c1 c2 c3 fr z p f g:Nat) (hc:mP w c1 c2 c3 fr z p f g) (ho:bl p f g)
  (d:∀k,k=c1∨k=c2∨k=c3∨k=b->¬S k) (F:c1≠b∧c2≠b∧c3≠b) (hA:fr<4611686018427387904) (hZ:z<4611686018427387904) (G:∀k,fr<=k->k<fr+(1+(p+f+g))->dom k∧L k<18446744073709551616) (T:∀k,z<=k->k<z+(1+(p+f+g))->dom k):
  Calls Tryz.prog 254 #[b,.pointer (some ⟨c1,0,none⟩),.pointer (some ⟨c2,0,none⟩),.pointer (some ⟨c3,0,none⟩)] w (wY I b (iu L fr z (1+(p+f+g))) S w):=by
 have hN:p+f+g<256:=by obtain ⟨_,E,_,Z,_,h3,h4⟩:=ho;omega
 have Y:=ae (fun w1=>dj p f g w1);have a2:co p f g=((1+(p+f+g):Nat):Int):=by rw [co,if_pos ho];push_cast;omega
 rw [a2] at Y;unfold bN at Y;have am:Hid ((Tryz.prog.info? 31).map (·.size)=some 3):=by show _=_;kernel_rfl
 obtain ⟨n,hn⟩:∃n,1+(p+f+g)=n:=⟨_,rfl⟩;rw [hn] at Y G T ⊢;have a9:n<=256:=by omega
 have a7:=og n (by omega) (n:Int) rfl;have a:=hs.lt _ _ _ hi;have a6:=hb.lt;unfold d8 at Y;have HH:=ae hc.1;have ah:=ae (fun w1 (hf:Fr (fun _=>False) w w1)=>by
  have hz:=hf.size;have U:Fr (fun _=>False) w (w1.alloc (.cells (bB (List.replicate n 0)).toArray 46)):=hf.alloc _;have a3:(w1.alloc (.cells (bB (List.replicate n 0)).toArray 46)).heap.size=w1.heap.size+1:=Array.size_push _;have h0:lT I t v b (w1.heap.size+1) w1.heap.size L S 0 (da L fr n 0) (w1.alloc (.cells (bB (List.replicate n 0)).toArray 46)) (w1.alloc (.cells (bB (List.replicate n 0)).toArray 46)):=
   ⟨S,⟨hs.keep hi U,by omega,by omega,d b (by simp),_,[],hb.frame U (fun h=>h),World.ownsRow_nil _ _ _ _,fun k hk=>by simp [Value.ownBlock] at hk⟩,Fr.refl _ _,fun _ h=> .inl h,by rw [pu];exact aj.new w1 _ _,Nat.le_refl _⟩
  exact (⟨U,a3,hz,h0⟩:Fr (fun _=>False) w (w1.alloc (.cells (bB (List.replicate n 0)).toArray 46))∧(w1.alloc (.cells (bB (List.replicate n 0)).toArray 46)).heap.size=w1.heap.size+1∧w.heap.size<=w1.heap.size∧lT I t v b (w1.heap.size+1) w1.heap.size L S 0 (da L fr n 0) (w1.alloc (.cells (bB (List.replicate n 0)).toArray 46)) (w1.alloc (.cells (bB (List.replicate n 0)).toArray 46))))
 have ad:=ae (fun (W:World) q (s:w.heap.size<=q∧W.heap.size=q+1) w1 i (V:i<n) (h:lT I t v b (q+1) q L S 0 (da L fr n i) W w1)=>by
  obtain ⟨S1,E,Z,h3,h4,h5⟩:=h;have D:¬S q:=fun h=>by have:=a _ h;omega
  exact (lR hs E (fr+i) (G _ (by omega) (by omega)).1).mono (fun e w2 ⟨he,hp⟩=>(⟨he,lT.op (by omega) (by omega) s.2.symm D Z h3 h4 hp⟩:e=Ending.returned (.int .u64 ((L (fr+i):Nat):Int))∧lT I t v b (q+1) q L S 0 (da L fr n i) W w2)))
 have M:=ae (fun (W:World) q (s:w.heap.size<=q∧W.heap.size=q+1) w1 i (V:i<n) (h:lT I t v b (q+1) q L S 0 (da L fr n i) W w1)=>by
  have D:¬S q:=fun h=>by have:=a _ h;omega
  have:=lT.set X (by omega) (by omega) s.2.symm D h i (L (fr+i));rw [se _ _ _ _ V] at this;exact this)
 have ap:=ae (fun (W:World) q (s:w.heap.size<=q∧W.heap.size=q+1) w1 i (V:i<n) (h:lT I t v b (q+1) q (iu L fr z i) S i (da L fr n n) W w1)=>by
  obtain ⟨S1,E,Z,h3,h4,h5⟩:=h;have D:¬S q:=fun h=>by have:=a _ h;omega
  have hk:=gE X hs ht E (z+i) (L (fr+i)) (T _ (by omega) (by omega)) (G _ (by omega) (by omega)).2 (by omega);rw [ut] at hk;exact hk.mono (fun e w2 ⟨he,hp⟩=>(⟨he,lT.op (by omega) (by omega) s.2.symm D Z h3 h4 hp⟩:e=Ending.returned (.tuple #[])∧lT I t v b (q+1) q (iu L fr z (i+1)) S (i+1) (da L fr n n) W w2)))
 have J:=ae (fun (W:World) q (s:w.heap.size<=q∧W.heap.size=q+1) (o:Fr (fun _=>False) w W) w1 (hf:Fr (fun k=>S k∨k=b∨q<=k) W w1)=>(hc.keep o (fun h=>h) (fun h=>h) (fun h=>h)).keep hf
  (fun h=>by have l1:=hc.1.lt;rcases h with h|h|h;exact d c1 (by simp) h;exact F.1 h;omega)
  (fun h=>by have l1:=hc.2.1.lt;rcases h with h|h|h;exact d c2 (by simp) h;exact F.2.1 h;omega)
  (fun h=>by have l1:=hc.2.2.lt;rcases h with h|h|h;exact d c3 (by simp) h;exact F.2.2 h;omega))
 have B:=ae (fun (W:World) q (s:w.heap.size<=q∧W.heap.size=q+1) (o:Fr (fun _=>False) w W) w1 m xs (h:lT I t v b (q+1) q (iu L fr z n) S m xs W w1)=>by
  obtain ⟨S1,E,Z,h3,h4,h5⟩:=h;exact (show wY I b (iu L fr z n) S w (Ending.returned (.tuple #[])) w1 from ⟨rfl,S1,E.1,(o.mono (S':=fun k=>S k∨k=b∨w.heap.size<=k) (fun _ h=>h.elim)).trans Z (fun k h=>by
   rcases h with h|h|h
   ·exact .inl (.inl h)
   ·exact .inl (.inr (.inl h))
   ·exact .inl (.inr (.inr (by omega)))),fun k h=>by
   rcases h3 k h with h|h
   ·exact .inl h
   ·exact .inr (by omega)⟩))
 obtain ⟨Q,hQ⟩:∃Q,Q=wY I b (iu L fr z n) S w:=⟨_,rfl⟩;rw [<-hQ] at B ⊢;clear hQ X hs ht hi hb hc ho d F G T a2 hN a a6
 go_enter Tryz.func254,Tryz.ntmps254
 go_wp2_with (refine wpList_load_row rfl 31 _ rfl c1 rfl 31 #[.int .i64 p,.int .i64 f,.int .i64 g] _ _ HH.out Tryz.underlying31 rfl am.out ?_)
 refine (Y.out _).mono ?_;rintro e w1 ⟨rfl,av⟩;have P:=ae (ah.out _ av);clear ah Y av
 go_upto_region 1 with fail
 obtain ⟨W,hW⟩:∃W,w1.alloc (.cells (bB (List.replicate n 0)).toArray 46)=W:=⟨_,rfl⟩;rw [hW] at P ⊢;clear hW a7 am HH;obtain ⟨o,a4,a5,h0⟩:=P.out;generalize w1.heap.size=q at*;have s:w.heap.size<=q∧W.heap.size=q+1:=⟨a5,a4⟩;have K:=ae (ad.out W q s);have C:=ae (M.out W q s);have aq:=ae (ap.out W q s);have A:=ae (J.out W q s o);have N:=ae (B.out W q s o);have H0:=ae h0;clear ad M ap J B P o a4 a5 s h0 w1;go_wp2
 go_loopw [14] (fun x wr=>∃(i:Nat),x= .int .i64 i∧i<=n∧Hid (lT I t v b (q+1) q L S 0 (da L fr n i) W wr)) (fun x _=>(n-intOf x).toNat)
 case atStart=>exact ⟨0,rfl,by omega,H0⟩
 case round=>
  clear H0;obtain ⟨i,rfl,E,u⟩:=hrel;by_cases a:i<n
  ·have a0:(i:Int)<(n:Int):=by omega
   have k2:=(A.out _ u.out.choose_spec.2.1).2.1.cell 0 rfl;have a8:IntKind.i64.wrap ((fr:Int)+(i:Int))=(fr:Int)+(i:Int):=by rw [IntKind.wrap_i64];omega
   have l:=K.out _ i a u.out;rw [show ((fr+i:Nat):Int)=(fr:Int)+(i:Int) by push_cast;rfl] at l;have c:=ae l;clear l u;go_wp2_with fail
   refine (c.out).mono ?_;rintro e w3 ⟨rfl,y⟩;have O:=ae (C.out _ i a y);have R:=y.choose_spec.2.2.2.1;have ck:=R.cell i (v:= .int .u64 ((if i<i then L (fr+i) else 0:Nat):Int)) (by unfold bB;rw [List.getElem?_map,fU _ _ _ _ _ a];rfl);have fk:=R.free i;clear y R c;go_wp2;go_roundw
   case rel=>exact ⟨i+1,by go_num,by omega,O⟩
   case measure=>simp [intOf];omega
  ·have ax:i=n:=by omega
   have H1:=ae (show lT I t v b (q+1) q (iu L fr z 0) S 0 (da L fr n n) W wr from by rw [uv];rw [ax] at u;exact u.out);have a1:¬(i:Int)<(n:Int):=by omega
   clear u E a ax K C;go_wp2
   go_loopw [28] (fun x wr=>∃(i:Nat),x= .int .i64 i∧i<=n∧Hid (lT I t v b (q+1) q (iu L fr z i) S i (da L fr n n) W wr)) (fun x _=>(n-intOf x).toNat)
   case atStart=>exact ⟨0,rfl,by omega,H1⟩
   case round=>
    clear H1 a1;obtain ⟨j,rfl,E,u⟩:=hrel;by_cases a:j<n
    ·have a0:(j:Int)<(n:Int):=by omega
     have k3:=(A.out _ u.out.choose_spec.2.1).2.2.cell 0 rfl;have ck:=u.out.choose_spec.2.2.2.1.cell j (v:= .int .u64 ((L (fr+j):Nat):Int)) (by unfold bB;rw [List.getElem?_map,fU _ _ _ _ _ a,if_pos a];rfl);have a8:IntKind.i64.wrap ((z:Int)+(j:Int))=(z:Int)+(j:Int):=by rw [IntKind.wrap_i64];omega
     have l:=aq.out _ j a u.out;rw [show ((z+j:Nat):Int)=(z:Int)+(j:Int) by push_cast;rfl] at l;have c:=ae l;clear l u;go_wp2_with fail
     refine (c.out).mono ?_;rintro e w3 ⟨rfl,y⟩;have O:=ae y;clear y c;go_wp2;go_roundw
     case rel=>exact ⟨j+1,by go_num,by omega,O⟩
     case measure=>simp [intOf];omega
    ·have H:j=n:=by omega
     have a1:¬(j:Int)<(n:Int):=by omega
     have H2:=ae (N.out wr j _ (by rw [<-H] at*;rw [H];rw [H] at u;exact u.out));clear u E a H;go_wp2;go_end0;exact H2.out
end
section
variable {t:TypeId} {v:Value} {fl fs:Nat} {r:Value} {I:dZ} {dom:Nat->Prop} {L L' L'':Nat->Nat} {S:Nat->Prop} {w w1 w2:World} {b lo n:Nat}
theorem wu (o:aX t v fl r I dom) (l:I L S w) (F:Nat) (cap:Array Value) (q:∀args w,(callFunc F args).run Tryz.prog w= .ok (.enter F args) w)
  (s:∀b w1,Fr (fun _=>False) w w1->w.heap.size<=b->I L S w1->aj w1 b [.iface t v,.slice none 0 0] 270->Calls Tryz.prog F (#[.pointer (some ⟨b,0,none⟩)]++cap) w1 (wY I b L' S w1)):
  Calls Tryz.prog 126 #[.iface t v,.func (.func F) #[] cap] w (bz I L' S w (.agg #[.int .i64 0,.int .i64 0])):=by
 have d:=o.lt _ _ _ l;refine (mM t v F cap q w (fun w1 w2=>∃S':Nat->Prop,I L' S' w2∧Fr (fun k=>S k∨w.heap.size<=k) w1 w2∧∀k,S' k->S k∨w1.heap.size<=k) (fun b w1 hf u x j=> ?_)).mono ?_
 ·refine (s b w1 hf u (o.keep l hf) j).mono ?_;rintro e w2 ⟨rfl,S',i,f,g⟩;refine ⟨rfl,⟨S',i,f.mono (fun k h=> ?_),g⟩,_,fun k h=> ?_,f⟩
  ·have:=hf.size;rcases h with h|h|h
   ·exact .inl (.inl h)
   ·exact .inl (.inr (by omega))
   ·exact .inl (.inr (by omega))
  ·rcases h with h|h|h
   ·exact .inr (.inl (d k h))
   ·exact .inl h
   ·exact .inr (.inr h)
 ·rintro e w' ⟨rfl,w1,w2,a,⟨S',i,f,g⟩,c⟩;have y:=a.size;refine ⟨rfl,S',o.stays_new l i c (fun k m p=> ?_) (fun k p=>p.1),?_,fun k m=> ?_⟩
  ·rcases g k m with h|h
   ·have:=d k h;omega
   ·omega
  ·exact ((a.mono (S':=S) (fun _ h=>h.elim)).trans f (fun k h=>h)).trans c (fun k h=> .inr h.1)
  ·rcases g k m with h|h
   ·exact .inl h
   ·exact .inr (by omega)
theorem vq (R:cW I) (l:aX t v fl r I dom) (ht:iA t v fs r I dom) (Z:I L S w) (a z p f g:Nat) (ha:1<=a) (hz:1<=z) (hA:a<4611686018427387904) (hZ:z<4611686018427387904) (ho:dw L a p f g) (F:∀k,a<=k->k<a+(1+(p+f+g))->dom k∧L k<18446744073709551616) (Q:∀k,z<=k->k<z+(1+(p+f+g))->dom k):
  Calls Tryz.prog 212 #[.iface t v,.int .i64 a,.int .i64 z] w (bz I (iu L a z (1+(p+f+g))) S w (.int .i64 0)):=by
 have ax:∀(fn:Fn) (first cap:Array Value) (w:World),(Instr.makeFunc fn first cap).run Tryz.prog w= .ok (.func fn first cap) w:=fun _ _ _ _=>rfl
 have H:=l.lt _ _ _ Z;have y:=ae (fun W (hf:Fr (fun _=>False) w W)=>eB l (l.keep Z hf) a p f g ha (F a (Nat.le_refl _) (by omega)).1 ho);have q:=ae (fun W V (h1:I L V W) c1 c2 X (Y:mP W c1 c2 X a z p f g) (hS:¬V c1∧¬V c2∧¬V X)=>wu (L':=iu L a z (1+(p+f+g))) l h1 254 #[.pointer (some ⟨c1,0,none⟩),.pointer (some ⟨c2,0,none⟩),.pointer (some ⟨X,0,none⟩)] (enters_of Tryz.func254 (by kernel_rfl) rfl) (fun b w1 G hb hw ad=>y5 R l ht hw ad c1 c2 X a z p f g (Y.keep G (fun h=>h) (fun h=>h) (fun h=>h)) ho.2 (fun k hk=>by
   have hl:=l.lt _ _ _ h1;rcases hk with rfl|rfl|rfl|rfl
   ·exact hS.1
   ·exact hS.2.1
   ·exact hS.2.2
   ·exact fun h=>by have:=hl _ h;omega) (by
   have l1:=Y.1.lt;have l2:=Y.2.1.lt;have l3:=Y.2.2.lt;exact ⟨by omega,by omega,by omega⟩) hA hZ F Q))
 have HK:=ae (fun (W1 c i A:World) (G:Fr (fun _=>False) w W1) (hp:dz I L S W1 c) S2 (m:I L S2 i∧Fr S W1 c∧Fr (fun _=>False) c i∧(∀k,S2 k->S k∨W1.heap.size<=k)) (J:dz I (iu L a z (1+(p+f+g))) S2 i A)=>by
  have K:=m.2.1.size;exact (show dz I (iu L a z (1+(p+f+g))) S w A from l.Ah G Z (iX (m.2.1.trans m.2.2.1 (fun _ h=>h.elim)) m.2.2.2 J)))
 have x:=ae (fun (c i:World) S2 (h:I L S2 c) (hf:Fr (fun _=>False) c i)=>l.keep h hf);have M:=ae (fun (c:World) S2 (h:I L S2 c)=>l.lt _ _ _ h);unfold lY at y;generalize iu L a z (1+(p+f+g))=L2 at*;unfold bz at*;have av:(1:Int)<=(a:Int):=by omega
 have a0:(1:Int)<=(z:Int):=by omega
 clear R l ht Z ho F Q hA ha hZ hz;unfold bN at*
 go_enter Tryz.func212,Tryz.ntmps212
 go_upto_region 1 with fail
 obtain ⟨W1,j⟩:∃W1,(w.alloc (.cells #[.int .i64 a] 3)).alloc (.cells #[.int .i64 z] 3)=W1:=⟨_,rfl⟩;have K:(w.alloc (.cells #[.int .i64 a] 3)).heap.size=w.heap.size+1:=Array.size_push _;have C:Fr (fun _=>False) w W1:=by rw [<-j];exact ((Fr.refl _ w).alloc _).alloc _
 have B:aj W1 w.heap.size [.int .i64 a] 3:=by rw [<-j];exact (aj.new w [.int .i64 a] 3).alloc _
 have P:aj W1 (w.heap.size+1) [.int .i64 z] 3:=by
  have h:=aj.new (w.alloc (.cells #[.int .i64 a] 3)) [.int .i64 z] 3;rw [K] at h;rw [<-j];exact h
 rw [j];clear j K;have k1:=B.cell 0 rfl;have u:=ae (af C (af B P));have o:=ae (y.out _ C);clear C B P y;go_wp2_with fail
 refine (o.out).mono ?_;rintro e c ⟨rfl,hp⟩;obtain ⟨S2,q1,U,q3⟩:=id hp;have ap:=u.out.1.size;have ah:=u.out.2.1.lt;have am:=u.out.2.2.lt;have n1:¬S w.heap.size:=fun h=>by have:=H _ h;omega
 have n2:¬S (w.heap.size+1):=fun h=>by have:=H _ h;omega
 have N:=u.out.2.1.frame U n1;have D:=u.out.2.2.frame U n2;have T:=U.size;obtain ⟨i,E⟩:∃i,c.alloc (.cells #[.int .i64 p,.int .i64 f,.int .i64 g] 31)=i:=⟨_,rfl⟩;have d:Fr (fun _=>False) c i:=by rw [<-E];exact (Fr.refl _ _).alloc _
 have O:aj i c.heap.size [.int .i64 p,.int .i64 f,.int .i64 g] 31:=by rw [<-E];exact aj.new c _ _
 have k3:=(D.frame d (fun h=>h)).cell 0 rfl;have s:∀k,S2 k->k<c.heap.size:=M.out _ _ q1;have HR:=ae (q.out i S2 (x.out _ _ _ q1 d) c.heap.size w.heap.size (w.heap.size+1) ⟨O,N.frame d (fun h=>h),D.frame d (fun h=>h)⟩ ⟨fun h=>by have:=s _ h;omega,fun h=>by rcases q3 _ h with h|h;exact n1 h;omega,fun h=>by rcases q3 _ h with h|h;exact n2 h;omega⟩);have HE:=ae (fun A J=>HK.out W1 c i A u.out.1 hp S2 ⟨x.out _ _ _ q1 d,U,d,q3⟩ J);clear q HK x u q1 U q3 hp N D d O n1 n2 ap T ah am s o H k1 M
 go_upto_region 2 with fail
 clear E;go_wp2_with fail
 refine (HR.out).mono ?_;rintro e A ⟨rfl,hp⟩;have hq:=HE.out _ hp;have aq:(Instr.field 197 (.agg #[.int .i64 0,.int .i64 0]) 0).run Tryz.prog A= .ok (.int .i64 0) A:=by kernel_rfl
 clear HR HE hp;go_wp2;go_ret;exact ⟨rfl,hq⟩
end
def aY (W Pg:Nat) (mp:Nat->Bool) (a:Nat):Prop:=a<W∧mp (a/Pg)=true
def bm (m Pg W Rm Us Hg:Nat) (mp:Nat->Bool):dZ:=fun L S w=>∃M,bn w m S Pg W Rm Us Hg mp M∧∀a,aY W Pg mp a->M a=L a
theorem bn.lt {S:Nat->Prop} {w:World} {m Pg W Rm Us Hg:Nat} {mp:Nat->Bool} {M:Nat->Nat} (h:bn w m S Pg W Rm Us Hg mp M):∀k,S k->k<w.heap.size:=by
 obtain ⟨p,B,A,z,ws,x,l,j,g,o,y,fr,n,f,a,c,q,r,s,t,u,v,b⟩:=h;intro k e;rcases (b k).1 e with h|(h|h|h|h)|(h|h|h)
 ·rw [h];exact f.lt
 ·rw [h];exact a.blk.lt
 ·exact (a.rw.lt k h).2
 ·exact (a.rt.lt k h).2
 ·exact (a.rb.lt k h).2
 ·rw [h];exact c.blk.lt
 ·rw [h];exact c.row.lt
 ·obtain ⟨i,d⟩:=List.mem_iff_getElem?.1 h;exact (c.tab i k d).lt
theorem aR (m Pg W Rm Us Hg:Nat) (mp:Nat->Bool):cW (bm m Pg W Rm Us Hg mp):=fun L S w1 w2 T ⟨M,a,b⟩ hf c=>⟨M,a.frame hf c,b⟩
theorem aF (m Pg W Rm Us Hg:Nat) (mp:Nat->Bool):aX 112 (.pointer (some ⟨m,0,none⟩)) 223 (.pointer (some ⟨m,0,none⟩)) (bm m Pg W Rm Us Hg mp) (aY W Pg mp) where
 mload:=fun w=>by kernel_rfl
 eload:=enters_of Tryz.func223 (by kernel_rfl) rfl
 stays:=fun L S w1 w2 T ⟨M,b,c⟩ hf j _=>⟨M,b.frame hf j,c⟩
 tabl:= .inl (aR m Pg W Rm Us Hg mp)
 lt:=fun L S w ⟨M,b,_⟩=>b.lt
 load:=fun L S w a ⟨M,b,c⟩ d=>(dS b a d.1 d.2).mono (fun e w' ⟨g,f⟩=>⟨by rw [g,c a d],S,⟨M,b.keep f,c⟩,f.mono (fun _ h=>h.elim),fun k i=> .inl i⟩)
theorem j4 (m Pg W Rm Us Hg:Nat) (mp:Nat->Bool):iA 112 (.pointer (some ⟨m,0,none⟩)) 224 (.pointer (some ⟨m,0,none⟩)) (bm m Pg W Rm Us Hg mp) (aY W Pg mp) where
 mstore:=fun w=>by kernel_rfl
 estore:=enters_of Tryz.func224 (by kernel_rfl) rfl
 store:=fun L S w a x ⟨M,d,f⟩ c n=>(iQ d a x c.1 c.2 n).mono (fun e w' ⟨g,h,i⟩=>⟨g,S,⟨bw M a x,h,fun b j=>by
  unfold bw;split
  ·rfl
  ·exact f b j⟩,i,fun k l=> .inl l⟩)
def fC (l:List Nat):List Value:=l.map fun x:Nat=>Value.int .i64 x
structure aV (w:World) (b g:Nat) (ls:List Nat):Prop where
 blk:aj w b [.slice (some ⟨g,0,none⟩) ls.length ls.length] 193
 row:aj w g (fC ls) 3
 ne:b≠g
 one:1<=ls.length
 small:ls.length<=64
theorem aV.frame {T:Nat->Prop} {w w':World} {b g:Nat} {ls:List Nat} (h:aV w b g ls) (hf:Fr T w w') (a:¬T b) (c:¬T g):aV w' b g ls:=⟨h.blk.frame hf a,h.row.frame hf c,h.ne,h.one,h.small⟩
theorem aV.get {w:World} {b g:Nat} {ls:List Nat} (h:aV w b g ls) {i a:Nat} (c:ls[i]? =some a):w.cell? ⟨g,i,none⟩=some (.int .i64 a):=h.row.cell i (by unfold fC;rw [List.getElem?_map,c];rfl)
theorem iU {w:World} {b g:Nat} {ls:List Nat} (h:aV w b g ls) (x k c:Nat) (f:∀j,j<k->∃i:Nat,i<ls.length∧w.cell? ⟨x,j,none⟩=some (.int .i64 i)) (u:k<=64):
  Calls Tryz.prog 122 #[b,.slice (some ⟨x,0,none⟩) k c] w fun e w'=>e= .returned (.int .i64 0)∧w=w':=by
 have o:=h.blk.cell 0 rfl;have l:=ae f;have v:=h.small;clear h f
 go_enter Tryz.func122,Tryz.ntmps122
 go_wp2
 go_loopw [11] (fun p wr=>∃(i:Nat),p= .int .i64 i∧i<=k∧wr=w) (fun p _=>(k-intOf p).toNat)
 case atStart=>exact ⟨0,rfl,by omega,by first|trivial|rfl⟩
 case round=>
  obtain ⟨i,rfl,m,rfl⟩:=hrel;by_cases a:i<k
  ·have d:(i:Int)<(k:Int):=by omega
   obtain ⟨j,t,q⟩:=l.out i a;have r:¬(j:Int)<0:=by omega
   have s:decide ((ls.length:Int)<=(j:Int))=false:=by rw [decide_eq_false_iff_not];omega
   go_wp2;go_roundw
   case rel=>exact ⟨i+1,by go_num,by omega,by first|trivial|rfl⟩
   case measure=>simp [intOf];omega
  ·have n:¬(i:Int)<(k:Int):=by omega
   clear m a;go_wp2;go_ret;exact ⟨rfl,rfl⟩
theorem sP (k:Nat) (i:k<=16777216) (X:Int) (b:X=(k:Int)) (w:World):(Instr.makeSlice 123 (.int .i64 X) (.int .i64 X)).run Tryz.prog w= .ok (.slice (some ⟨w.heap.size,0,none⟩) k k) (w.alloc (.cells (fC (List.replicate k 0)).toArray 3)):=by
 obtain ⟨g,d,f,a,c⟩:=info_parts dQ;subst b;have h:=run_makeSlice (P:=Tryz.prog) w 123 3 g (.int .i64 0) Tryz.underlying123 d f .i64 .i64 (k:Int) (k:Int) (by omega) (Int.le_refl _) (by rw [a,Int.toNat_natCast];omega) (by rw [c];omega) (by omega);rw [a,Int.toNat_natCast,Nat.mul_one,show (Value.int .i64 0).cells= #[.int .i64 0] from rfl,ie] at h;rw [h];have e:(fC (List.replicate k 0)).toArray=Array.replicate k (.int .i64 0):=by unfold fC;rw [List.map_replicate];simp
 rw [e]
theorem oC (n:Nat) (f:1<=n) (h:n<=64) (w:World):Calls Tryz.prog 120 #[.int .i64 n] w fun e w'=>∃b g,e= .returned (.tuple #[.pointer (some ⟨b,0,none⟩),.int .i64 0])∧aV w' b g (List.replicate n 0)∧w.heap.size<=b∧w.heap.size<=g∧Fr (fun _=>False) w w':=by
 have i:=sP n (by omega) (n:Int) rfl w;have k:¬(n:Int)<1:=by omega
 have l:¬(64:Int)<(n:Int):=by omega
 have d:Hid (∀W1 a,W1=w.alloc (.cells (fC (List.replicate n 0)).toArray 3)->a=W1.alloc (.cells #[.slice (some ⟨w.heap.size,0,none⟩) n n] 193)->aV a (w.heap.size+1) w.heap.size (List.replicate n 0)∧w.heap.size<=w.heap.size+1∧w.heap.size<=w.heap.size∧Fr (fun _=>False) w a):=by
  show∀W1 a,_
  rintro W1 a rfl rfl;have j:(w.alloc (.cells (fC (List.replicate n 0)).toArray 3)).heap.size=w.heap.size+1:=Array.size_push _;have c:=aj.new (w.alloc (.cells (fC (List.replicate n 0)).toArray 3)) [.slice (some ⟨w.heap.size,0,none⟩) n n] 193;rw [j] at c;refine ⟨⟨by rw [List.length_replicate];exact c,(aj.new w _ _).alloc _,by omega,by rw [List.length_replicate];exact f,by rw [List.length_replicate];exact h⟩,by omega,Nat.le_refl _,((Fr.refl _ w).alloc _).alloc _⟩
 go_enter Tryz.func120,Tryz.ntmps120
 go_wp2;refine bodyPost_ret (results_tmp2 rfl _ _ _) rfl ?_;exact ⟨_,rfl,_,d.out _ _ rfl rfl⟩
theorem ks {w:World} {b g:Nat} {ls:List Nat} (h:aV w b g ls):Calls Tryz.prog 187 #[b] w fun e w'=>e= .returned (.int .i64 (ls.length:Int))∧w=w':=by
 have a:=h.blk.cell 0 rfl;clear h
 go_enter Tryz.func187,Tryz.ntmps187
 go_wp2;go_ret;exact ⟨rfl,rfl⟩
theorem kr {w:World} {b g:Nat} {ls:List Nat} (h:aV w b g ls) (i a:Nat) (k:ls[i]? =some a):Calls Tryz.prog 51 #[b,.int .i64 i] w fun e w'=>e= .returned (.tuple #[.int .i64 a,.int .i64 0])∧Fr (fun _=>False) w w':=by
 have l:=(List.getElem?_eq_some_iff.1 k).1;have m:Hid (∀W1,W1=w.alloc (.cells #[.int .i64 i] 3)->Fr (fun _=>False) w W1∧W1.cell? ⟨b,0,none⟩=some (.slice (some ⟨g,0,none⟩) ls.length ls.length)∧W1.cell? ⟨g,i,none⟩=some (.int .i64 a)∧Calls Tryz.prog 122 #[b,.slice (some ⟨w.heap.size,0,none⟩) 1 1] W1 fun e w'=>e= .returned (.int .i64 0)∧W1=w'):=by
  show∀W1,_
  rintro W1 rfl;have hf:Fr (fun _=>False) w (w.alloc (.cells #[.int .i64 i] 3)):=(Fr.refl _ w).alloc _;have f:=h.frame hf (fun h=>h) (fun h=>h);refine ⟨hf,f.blk.cell 0 rfl,f.get k,iU f w.heap.size 1 1 (fun j r=>⟨i,l,?_⟩) (by omega)⟩;have:j=0:=by omega
  subst this;exact (aj.new w [.int .i64 i] 3).cell 0 rfl
 have n:(i:Int)<(ls.length:Int):=by omega
 clear h k
 go_enter Tryz.func51,Tryz.ntmps51
 go_wp2_with fail
 obtain ⟨hf,p,q,d⟩:=m.out _ rfl;generalize w.alloc (.cells #[.int .i64 i] 3)=W1 at*;have c:=ae d;have o:=ae hf;clear d hf m;refine (c.out).mono ?_;rintro e w' ⟨rfl,rfl⟩;clear c;go_wp2;go_ret2;exact ⟨rfl,o.out⟩
theorem kt {w:World} {b g:Nat} {ls:List Nat} (h:aV w b g ls) (i a:Nat) (d:i<ls.length):Calls Tryz.prog 56 #[b,.int .i64 i,.int .i64 a] w fun e w'=>e= .returned (.int .i64 0)∧aV w' b g (ls.set i a)∧Fr (fun k=>k=g) w w':=by
 have n:Hid (∀W1,W1=w.alloc (.cells #[.int .i64 i] 3)->W1.cell? ⟨b,0,none⟩=some (.slice (some ⟨g,0,none⟩) ls.length ls.length)∧W1.cell? ⟨g,i,none⟩=some (.int .i64 ((ls.getD i 0:Nat):Int))∧W1.frozen? ⟨g,i,none⟩=false∧(∀m,m=W1.setCell ⟨g,i,none⟩ (.int .i64 a)->aV m b g (ls.set i a)∧Fr (fun k=>k=g) w m)∧Calls Tryz.prog 122 #[b,.slice (some ⟨w.heap.size,0,none⟩) 1 1] W1 fun e w'=>e= .returned (.int .i64 0)∧W1=w'):=by
  show∀W1,_
  rintro W1 rfl;have hf:Fr (fun _=>False) w (w.alloc (.cells #[.int .i64 i] 3)):=(Fr.refl _ w).alloc _;have c:=h.frame hf (fun h=>h) (fun h=>h);refine ⟨c.blk.cell 0 rfl,c.get (by rw [List.getElem?_eq_getElem d,List.getD_eq_getElem?_getD,List.getElem?_eq_getElem d];rfl),c.row.free i,?_,iU c w.heap.size 1 1 (fun j v=>⟨i,d,?_⟩) (by omega)⟩
  ·rintro m rfl;refine ⟨⟨by rw [List.length_set];exact c.blk.setOther _ _ c.ne,?_,c.ne,by rw [List.length_set];exact c.one,by rw [List.length_set];exact c.small⟩,(hf.mono (S':=fun k=>k=g) (fun _ h=>h.elim)).setCell ⟨g,i,none⟩ (.inl rfl) _⟩;have:=c.row.set i (.int .i64 a);unfold fC at*;rw [List.map_set];exact this
  ·have:j=0:=by omega
   subst this;exact (aj.new w [.int .i64 i] 3).cell 0 rfl
 have p:(i:Int)<(ls.length:Int):=by omega
 have u:¬(a:Int)<0:=by omega
 clear h
 go_enter Tryz.func56,Tryz.ntmps56
 go_wp2_with fail
 obtain ⟨r,s,t,o,l⟩:=n.out _ rfl;generalize w.alloc (.cells #[.int .i64 i] 3)=W1 at*;have f:=ae l;have q:=ae o;clear l o n;refine (f.out).mono ?_;rintro e w' ⟨rfl,rfl⟩;clear f;go_wp2;go_ret;exact ⟨rfl,q.out _ rfl⟩
def ui (ls:List Nat) (w:World) (e:Ending) (w':World):Prop:=∃g cap,e= .returned (.slice (some ⟨g,0,none⟩) ls.length cap)∧w.heap.size<=g∧g<w'.heap.size∧(∀(i a:Nat),ls[i]? =some a->w'.cell? ⟨g,i,none⟩=some (.int .i64 a))∧Fr (fun _=>False) w w'
theorem io {w:World} {b g:Nat} {ls:List Nat} (h:aV w b g ls):Calls Tryz.prog 69 #[b] w (ui ls w):=by
 have q:=h.blk.cell 0 rfl;have u:=h.small;have m:=ae (Tryz.slices_Clone_int g 0 ls.length ls.length (ls.map Int.ofNat) w (by simp) (by omega) (fun j l=>by
  rw [List.length_map] at l;rw [Nat.zero_add];have:=h.get (List.getElem?_eq_getElem l);rw [this,List.getD_eq_getElem?_getD,List.getElem?_map,List.getElem?_eq_getElem l];rfl))
 have r:=h.one;have n:Hid (∀c w',w'.ownsRow w.heap.size 3 1 c ls.length (((ls.map Int.ofNat).take ls.length).map (Value.int .i64))->Below w.heap.size w w'->ui ls w (.returned c) w'):=by
  show∀c w',_
  intro c w' d f;rcases d.2 with ⟨_,v⟩|⟨g',cap,cur,rfl,s,t,_⟩
  ·omega
  ·refine ⟨g',cap,rfl,s,(Array.getElem?_eq_some_iff.1 t).1,fun i a o=> ?_,Fr.of_below f⟩;have k:=(List.getElem?_eq_some_iff.1 o).1;rw [d.cellAt i (by omega),List.getElem?_map,List.getElem?_take,if_pos k,List.getElem?_map,o];rfl
 generalize (ui ls w)=Q at*;clear h r u
 go_enter Tryz.func69,Tryz.ntmps69
 go_wp2_with fail
 refine (m.out).mono ?_;rintro e w' ⟨c,rfl,d,_,f⟩;have p:=ae (n.out c w' d f);clear d f n m q;go_wp2;exact p.out
theorem tC {w:World} {b g:Nat} {ls:List Nat} (h:aV w b g ls) (i f a:Nat) (l:i<ls.length) (hf:ls[f]? =some a):Calls Tryz.prog 64 #[b,.int .i64 i,.int .i64 f] w fun e w'=>e= .returned (.int .i64 0)∧aV w' b g (ls.set i a)∧Fr (fun k=>k=g) w w':=by
 have r:=(List.getElem?_eq_some_iff.1 hf).1;have t:Hid (∀W1,W1=w.alloc (.cells #[.int .i64 i,.int .i64 f] 3)->W1.cell? ⟨b,0,none⟩=some (.slice (some ⟨g,0,none⟩) ls.length ls.length)∧W1.cell? ⟨g,f,none⟩=some (.int .i64 a)∧W1.cell? ⟨g,i,none⟩=some (.int .i64 ((ls.getD i 0:Nat):Int))∧W1.frozen? ⟨g,i,none⟩=false∧(∀q,q=W1.drew.setCell ⟨g,i,none⟩ (.int .i64 a)->aV q b g (ls.set i a)∧Fr (fun k=>k=g) w q)∧Calls Tryz.prog 122 #[b,.slice (some ⟨w.heap.size,0,none⟩) 2 2] W1 fun e w'=>e= .returned (.int .i64 0)∧W1=w'):=by
  show∀W1,_
  rintro W1 rfl;have p:Fr (fun _=>False) w (w.alloc (.cells #[.int .i64 i,.int .i64 f] 3)):=(Fr.refl _ w).alloc _;have d:=h.frame p (fun h=>h) (fun h=>h);have x:Fr (fun _=>False) (w.alloc (.cells #[.int .i64 i,.int .i64 f] 3)) (w.alloc (.cells #[.int .i64 i,.int .i64 f] 3)).drew:=(Fr.refl _ _).drew;have u:=d.frame x (fun h=>h) (fun h=>h);refine ⟨d.blk.cell 0 rfl,d.get hf,d.get (by rw [List.getElem?_eq_getElem l,List.getD_eq_getElem?_getD,List.getElem?_eq_getElem l];rfl),d.row.free i,?_,iU d w.heap.size 2 2 (fun j A=> ?_) (by omega)⟩
  ·rintro q rfl;refine ⟨⟨by rw [List.length_set];exact u.blk.setOther _ _ d.ne,?_,d.ne,by rw [List.length_set];exact d.one,by rw [List.length_set];exact d.small⟩,((p.trans x (fun _ h=>h.elim)).mono (S':=fun k=>k=g) (fun _ h=>h.elim)).setCell ⟨g,i,none⟩ (.inl rfl) _⟩;have:=u.row.set i (.int .i64 a);unfold fC at*;rw [List.map_set];exact this
  ·match j,A with
   |0,_=>exact ⟨i,l,(aj.new w [.int .i64 i,.int .i64 f] 3).cell 0 rfl⟩
   |1,_=>exact ⟨f,r,(aj.new w [.int .i64 i,.int .i64 f] 3).cell 1 rfl⟩
 have y:(i:Int)<(ls.length:Int):=by omega
 have s:(f:Int)<(ls.length:Int):=by omega
 clear h hf
 go_enter Tryz.func64,Tryz.ntmps64
 go_wp2_with fail
 obtain ⟨B,C,D,E,v,o⟩:=t.out _ rfl;generalize w.alloc (.cells #[.int .i64 i,.int .i64 f] 3)=W1 at*;have m:=ae o;have z:=ae v;clear o v t;refine (m.out).mono ?_;rintro e w' ⟨rfl,rfl⟩;clear m;generalize ls.length=n at*;go_wp2;refine aA (fun w'=>w'=W1.drew) 12 (by kernel_rfl) (by kernel_rfl) rfl ?_;simp only [List.take_succ_cons,List.take_zero,List.drop_succ_cons,List.drop_zero];refine ag (.pointer (some ⟨b,0,none⟩)) rfl (fun w c=>by go_simp) ?_;simp only [Act.put,aa,ab,ac];refine ag (.pointer (some ⟨b,0,none⟩)) rfl (fun w c=>by go_simp) ?_;simp only [Act.put,aa,ab,ac];refine ag (.pointer (some ⟨b,0,none⟩)) rfl (fun w c=>by go_simp) ?_;simp only [Act.put,aa,ab,ac];refine ag (.slice (some ⟨g,0,none⟩) n n) rfl (fun w c=>by subst c;go_simp) ?_;simp only [Act.put,aa,ab,ac];refine ag (.int .i64 i) rfl (fun w c=>by go_simp) ?_;simp only [Act.put,aa,ab,ac];refine ag (.pointer (some ⟨b,0,none⟩)) rfl (fun w c=>by go_simp) ?_;simp only [Act.put,aa,ab,ac];refine ag (.pointer (some ⟨b,0,none⟩)) rfl (fun w c=>by go_simp) ?_;simp only [Act.put,aa,ab,ac];refine ag (.pointer (some ⟨b,0,none⟩)) rfl (fun w c=>by go_simp) ?_;simp only [Act.put,aa,ab,ac];refine ag (.slice (some ⟨g,0,none⟩) n n) rfl (fun w c=>by subst c;go_simp) ?_;simp only [Act.put,aa,ab,ac];refine ag (.int .i64 f) rfl (fun w c=>by go_simp) ?_;simp only [Act.put,aa,ab,ac];refine ag (.pointer (some ⟨g,f,none⟩)) rfl (fun w c=>by go_simp) ?_;simp only [Act.put,aa,ab,ac];refine ag (.int .i64 a) rfl (fun w c=>by subst c;go_simp) ?_;simp only [Act.put,aa,ab,ac];refine wpQuiet_nil ?_;rintro w6 rfl;go_wp2;go_ret;exact ⟨rfl,z.out _ rfl⟩
def zr (J:List Nat->World->Prop) (b g:Nat) (ls rs:List Nat) (w:World):Prop:=aV w b g (rs++ls.drop rs.length)∧J rs w
def wX (J:List Nat->World->Prop) (b g:Nat) (ls:List Nat) (e:Ending) (w':World):Prop:=e= .returned (.tuple #[])∧∃rs,rs.length=ls.length∧aV w' b g rs∧J rs w'
theorem ze {J:List Nat->World->Prop} {b g x:Nat} {ls rs:List Nat} {w:World} (a:∀rs w1 w2,J rs w1->Fr (fun k=>k=g) w1 w2->J rs w2) (f:rs.length<ls.length) (h:aV w b g (rs++ls.drop rs.length)) (d:J (rs++[x]) w):
  zr J b g ls (rs++[x]) (w.setCell ⟨g,rs.length,none⟩ (.int .i64 x)):=by
 have c:ls.drop rs.length=ls[rs.length]::ls.drop (rs.length+1):=List.drop_eq_getElem_cons f;have e:(rs++ls.drop rs.length).set rs.length x=(rs++[x])++ls.drop (rs++[x]).length:=by
  rw [c,List.length_append,List.length_singleton,List.append_assoc];rw [List.set_append_right _ _ (Nat.le_refl _),Nat.sub_self];rfl
 have hf:Fr (fun k=>k=g) w (w.setCell ⟨g,rs.length,none⟩ (.int .i64 x)):=(Fr.refl (fun k=>k=g) w).setCell ⟨g,rs.length,none⟩ (.inl rfl) _;refine ⟨?_,a _ _ _ d hf⟩;rw [<-e];refine ⟨by rw [List.length_set];exact h.blk.setOther _ _ h.ne,?_,h.ne,by rw [List.length_set];exact h.one,by rw [List.length_set];exact h.small⟩;have:=h.row.set rs.length (.int .i64 x);unfold fC at*;rw [List.map_set];exact this
theorem iV (F:Nat) (first cap:Array Value) (eg:∀args w,(callFunc F args).run Tryz.prog w= .ok (.enter F args) w) (J:List Nat->World->Prop) {w:World} {b g:Nat} {ls:List Nat} (h:aV w b g ls) (P:J [] w)
  (n:∀rs w1 w2,J rs w1->Fr (fun k=>k=g) w1 w2->J rs w2)
  (o:∀rs w1,J rs w1->ls[rs.length]? =some 0->J (rs++[0]) w1)
  (j:∀rs a w1,aV w1 b g (rs++ls.drop rs.length)->J rs w1->ls[rs.length]? =some a->a≠0->Calls Tryz.prog F (first++ #[.int .i64 a]++cap) w1 fun e w2=>∃x:Nat,e= .returned (.int .i64 x)∧aV w2 b g (rs++ls.drop rs.length)∧J (rs++[x]) w2):
  Calls Tryz.prog 145 #[b,.func (.func F) first cap] w (wX J b g ls):=by
 have T:=h.small;have O:=ae (fun rs x w1 (B:rs.length<ls.length) h hj=>ze (J:=J) (b:=b) (g:=g) (x:=x) (ls:=ls) (rs:=rs) (w:=w1) n B h hj);have G:=ae (fun rs w1 (u:zr J b g ls rs w1)=>(⟨u.1.frame ((Fr.refl (fun _=>False) w1).drew) (fun h=>h) (fun h=>h),n _ _ _ u.2 ((Fr.refl _ w1).drew)⟩:aV w1.drew b g (rs++ls.drop rs.length)∧J rs w1.drew));have W:=ae j;have HZ:=ae o;have N:=ae (show zr J b g ls [] w from ⟨h,P⟩);have r:Hid (∀rs w1,rs.length<=ls.length->aV w1 b g (rs++ls.drop rs.length)->w1.cell? ⟨b,0,none⟩=some (.slice (some ⟨g,0,none⟩) ls.length ls.length)):=by
  show∀rs w1,_
  intro rs w1 B f;have:=f.blk.cell 0 rfl;rw [List.length_append,List.length_drop,show rs.length+(ls.length-rs.length)=ls.length by omega] at this;exact this
 have H:Hid (∀rs w1 (a:Nat),ls[rs.length]? =some a->aV w1 b g (rs++ls.drop rs.length)->w1.cell? ⟨g,rs.length,none⟩=some (.int .i64 a)∧w1.frozen? ⟨g,rs.length,none⟩=false):=by
  show∀rs w1 a,_
  intro rs w1 a s f;refine ⟨f.get ?_,f.row.free _⟩;rw [List.getElem?_append_right (Nat.le_refl _),Nat.sub_self,List.getElem?_drop,Nat.add_zero];exact s
 have X:Hid (∀rs w',rs.length=ls.length->zr J b g ls rs w'->wX J b g ls (.returned (.tuple #[])) w'):=by
  show∀rs w',_
  intro rs w' B u;refine ⟨rfl,rs,B,?_,u.2⟩;have:=u.1;rw [B,List.drop_length,List.append_nil] at this;exact this
 have V:Hid (∀i,i<ls.length->∃a,ls[i]? =some a):=by
  show∀i,_
  exact fun i u=>⟨_,List.getElem?_eq_getElem u⟩
 have D:=r.out [] w (Nat.zero_le _) h;generalize (wX J b g ls)=Q at*;clear h P n o j
 go_enter Tryz.func145,Tryz.ntmps145
 go_wp2
 go_loopw [13] (fun p wr=>∃rs:List Nat,p= .int .i64 (rs.length:Int)∧rs.length<=ls.length∧Hid (zr J b g ls rs wr)) (fun p _=>(ls.length-intOf p).toNat)
 case atStart=>exact ⟨[],rfl,Nat.zero_le _,N⟩
 case round=>
  clear N D;obtain ⟨rs,rfl,E,f⟩:=hrel;by_cases m:rs.length<ls.length
  ·have U:(rs.length:Int)<(ls.length:Int):=by omega
   obtain ⟨a,s⟩:=V.out _ m;have ck:=(H.out rs wr a s f.out.1).1;by_cases t:a=0
   ·subst t;have Y:=ae (show zr J b g ls (rs++[0]) wr from ⟨by
     have R:=f.out.1;have hd:ls.drop rs.length=ls[rs.length]::ls.drop (rs.length+1):=List.drop_eq_getElem_cons m;have h3:ls[rs.length]=0:=(List.getElem?_eq_some_iff.1 s).2;rw [hd,h3] at R;rw [List.length_append,List.length_singleton,List.append_assoc];exact R,HZ.out rs wr f.out.2 s⟩)
    rw [show ((0:Nat):Int)=0 from rfl] at ck;clear f s;go_wp2;go_roundw
    case rel=>exact ⟨rs++[0],by rw [List.length_append,List.length_singleton];go_num,by rw [List.length_append,List.length_singleton];omega,Y⟩
    case measure=>simp [intOf];omega
   ·have S:¬(a:Int)=0:=by omega
    obtain ⟨y,A⟩:=G.out rs wr f.out;have D:=r.out rs _ E y;have q:=ae (W.out rs a _ y A s t);have z:=ae s;clear f s y A t;go_wp2;refine wp_region_any (by kernel_rfl) ?_;change wpAny _ _ _ _ _ _ _ (World.drew _);generalize ah:wr.drew=wd at*;refine wpAny_take (i:=0) (v:= .pointer (some ⟨b,0,none⟩)) rfl (by kernel_rfl) (by kernel_rfl) (by kernel_rfl) (fun _ _ _ h=>h) (Or.inl ⟨by rfl,fun w=>by go_simp⟩) ?_;refine wpAny_take (i:=1) (v:= .pointer (some ⟨b,0,none⟩)) rfl (by kernel_rfl) (by kernel_rfl) (by kernel_rfl) (fun _ _ _ h=>h) (Or.inl ⟨by rfl,fun w=>by go_simp⟩) ?_;refine wpAny_take (i:=2) (v:= .pointer (some ⟨b,0,none⟩)) rfl (by kernel_rfl) (by kernel_rfl) (by kernel_rfl) (fun _ _ _ h=>h) (Or.inl ⟨by rfl,fun w=>by go_simp⟩) ?_;refine wpAny_take (i:=4) (v:= .int .i64 (rs.length:Int)) rfl (by kernel_rfl) (by kernel_rfl) (by kernel_rfl) (fun _ _ _ h=>h) (Or.inl ⟨by rfl,fun w=>by go_simp⟩) ?_;refine wpAny_take (i:=5) (v:= .func (.func F) first cap) rfl (by kernel_rfl) (by kernel_rfl) (by kernel_rfl) (fun _ _ _ h=>h) (Or.inl ⟨by rfl,fun w=>by go_simp⟩) ?_;refine wpAny_take (i:=6) (v:= .int .i64 a) rfl (by kernel_rfl) (by kernel_rfl) (by kernel_rfl) (fun _ _ _ h=>h) (Or.inl ⟨by rfl,fun w=>by go_simp⟩) ?_;simp only [Act.put];refine wpAny_ready (rs:=[3,7]) (by kernel_rfl) (by simp) ?_;refine AllReady.cons rfl (fun K c=> ?_) (AllReady.cons rfl (fun K c=> ?_) AllReady.nil)
    ·go_simp;refine c _ _ ?_;clear c K;refine wpAny_ready (rs:=[7]) (by kernel_rfl) (by simp) ?_;refine AllReady.cons rfl (fun K c=> ?_) AllReady.nil;go_simp;refine (q.out).mono ?_;rintro e w2 ⟨x,rfl,d,l⟩;have D:=r.out rs _ E d;obtain ⟨I,L⟩:=H.out rs _ a z.out d;have C:=ae (O.out rs x w2 m d l);have M:max (x:Int) 0=(x:Int):=by omega
     clear d l q;refine c _ _ ?_;clear c K;refine wpAny_ready (rs:=[8]) (by kernel_rfl) (by simp) ?_;refine AllReady.cons rfl (fun K c=> ?_) AllReady.nil;go_simp;refine c _ _ ?_;clear c K;refine wpAny_ready (rs:=[9]) (by kernel_rfl) (by simp) ?_;refine AllReady.cons rfl (fun K c=> ?_) AllReady.nil;go_simp;refine c _ _ ?_;clear c K;refine wpAny_ready (rs:=[10]) (by kernel_rfl) (by simp) ?_;refine AllReady.cons rfl (fun K c=> ?_) AllReady.nil;go_simp;refine c _ _ ?_;clear c K;refine wpAny_done (by kernel_rfl) ?_ _;go_wp2;go_roundw
     case rel=>exact ⟨rs++[x],by rw [List.length_append,List.length_singleton];go_num,by rw [List.length_append,List.length_singleton];omega,C⟩
     case measure=>simp [intOf];omega
    ·go_simp;refine (q.out).mono ?_;rintro e w2 ⟨x,rfl,d,l⟩;have D:=r.out rs _ E d;obtain ⟨I,L⟩:=H.out rs _ a z.out d;have C:=ae (O.out rs x w2 m d l);have M:max (x:Int) 0=(x:Int):=by omega
     clear d l q;refine c _ _ ?_;clear c K;refine wpAny_ready (rs:=[3,8]) (by kernel_rfl) (by simp) ?_;refine AllReady.cons rfl (fun K c=> ?_) (AllReady.cons rfl (fun K c=> ?_) AllReady.nil)
     ·go_simp;refine c _ _ ?_;clear c K;refine wpAny_ready (rs:=[8]) (by kernel_rfl) (by simp) ?_;refine AllReady.cons rfl (fun K c=> ?_) AllReady.nil;go_simp;refine c _ _ ?_;clear c K;refine wpAny_ready (rs:=[9]) (by kernel_rfl) (by simp) ?_;refine AllReady.cons rfl (fun K c=> ?_) AllReady.nil;go_simp;refine c _ _ ?_;clear c K;refine wpAny_ready (rs:=[10]) (by kernel_rfl) (by simp) ?_;refine AllReady.cons rfl (fun K c=> ?_) AllReady.nil;go_simp;refine c _ _ ?_;clear c K;refine wpAny_done (by kernel_rfl) ?_ _;go_wp2;go_roundw
      case rel=>exact ⟨rs++[x],by rw [List.length_append,List.length_singleton];go_num,by rw [List.length_append,List.length_singleton];omega,C⟩
      case measure=>simp [intOf];omega
     ·go_simp;refine c _ _ ?_;clear c K;refine wpAny_ready (rs:=[3]) (by kernel_rfl) (by simp) ?_;refine AllReady.cons rfl (fun K c=> ?_) AllReady.nil;go_simp;refine c _ _ ?_;clear c K;refine wpAny_ready (rs:=[9]) (by kernel_rfl) (by simp) ?_;refine AllReady.cons rfl (fun K c=> ?_) AllReady.nil;go_simp;refine c _ _ ?_;clear c K;refine wpAny_ready (rs:=[10]) (by kernel_rfl) (by simp) ?_;refine AllReady.cons rfl (fun K c=> ?_) AllReady.nil;go_simp;refine c _ _ ?_;clear c K;refine wpAny_done (by kernel_rfl) ?_ _;go_wp2;go_roundw
      case rel=>exact ⟨rs++[x],by rw [List.length_append,List.length_singleton];go_num,by rw [List.length_append,List.length_singleton];omega,C⟩
      case measure=>simp [intOf];omega
  ·have ad:¬(rs.length:Int)<(ls.length:Int):=by omega
   have Z:=ae (X.out rs wr (by omega) f.out);clear f E m;go_wp2;go_end0;exact Z.out
theorem qp {w:World} {m b g Pg W Fs Us Hg:Nat} {S:Nat->Prop} {mp:Nat->Bool} {M:Nat->Nat} {ls:List Nat} (h:bn w m S Pg W Fs Us Hg mp M) (i:aV w b g ls) (a top Rm:Nat) (t:1<=a) (u:a<=top) (v:top<=W) (x:1<=Rm) (y:Rm<=4096):
  Calls Tryz.prog 150 #[m,.pointer (some ⟨b,0,none⟩),.int .i64 a,.int .i64 top,.int .i64 Rm] w fun e w'=>e= .returned (.int .i64 0)∧w=w':=by
 have c:=ae (cL h);have j:=ae (ks i);obtain ⟨k,l,n,o,p,q,r,s,d⟩:=h.at;have f:=i.one;have A:((W:Int)==0)=false:=by rw [beq_eq_false_iff_ne];omega
 have z:((ls.length:Int)==0)=false:=by rw [beq_eq_false_iff_ne];omega
 have B:¬(a:Int)<1:=by omega
 have C:decide ((top:Int)<(a:Int))=false:=by rw [decide_eq_false_iff_not];omega
 have D:decide ((W:Int)<(top:Int))=false:=by rw [decide_eq_false_iff_not];omega
 have E:¬(Rm:Int)<1:=by omega
 have F:¬(4096:Int)<(Rm:Int):=by omega
 have G:¬top<a:=by omega
 have H:¬W<top:=by omega
 clear h i t u v x y d f k l n o p q r s
 go_enter Tryz.func150,Tryz.ntmps150
 go_wp2_with fail
 refine (c.out).mono ?_;rintro e w1 ⟨rfl,rfl⟩;go_wp2_with fail
 refine (j.out).mono ?_;rintro e w1 ⟨rfl,rfl⟩;go_wp2_with fail
 refine (c.out).mono ?_;rintro e w1 ⟨rfl,rfl⟩;clear c j;go_wp2;go_ret;exact ⟨rfl,rfl⟩
section
variable {t:TypeId} {v:Value} {fl fs:Nat} {r:Value} {I:dZ} {dom:Nat->Prop} {L L' L'':Nat->Nat} {S:Nat->Prop} {w w1 w2:World}
theorem vC (o:aX t v fl r I dom) (l:I L S w) (a i p f g x:Nat) (j:1<=a) (d:a<4611686018427387904) (h:i<256) (k:dom a) (n:dw L a p f g) (m:bK p f g i=3) (b:dom (a+1+i)) (q:L (a+1+i)=x):Calls Tryz.prog 86 #[.iface t v,.int .i64 a,.int .i64 i] w (bz I L S w (.tuple #[.int .u64 x,.int .i64 0])):=by
 have c:=ae (mB o l a i p f g 3 x j d h k n m b q);rw [show ((3:Nat):Int)=3 from rfl] at c;unfold bz at*;clear o l k n m b q j d h
 go_enter Tryz.func86,Tryz.ntmps86
 go_wp2_with fail
 refine (c.out).mono ?_;rintro e W1 ⟨rfl,hp⟩;clear c;go_wp2;go_ret2;exact ⟨rfl,hp⟩
theorem fF (q:aX t v fl r I dom) (m:I L S w) (a i p f g x:Nat) (k:1<=a) (d:a<4611686018427387904) (j:i<256) (l:dom a) (o:dw L a p f g) (n:bK p f g i=1) (b:dom (a+1+i)) (s:L (a+1+i)=x) (z:x<2147483648):Calls Tryz.prog 87 #[.iface t v,.int .i64 a,.int .i64 i] w (bz I L S w (.tuple #[.int .i64 x,.int .i64 0])):=by
 have c:=ae (mB q m a i p f g 1 x k d j l o n b s);rw [show ((1:Nat):Int)=1 from rfl] at c;unfold bz at*;obtain ⟨B,h⟩:∃B:Int,B=2147483647:=⟨_,rfl⟩;have u:(x:Int)<=B:=by omega
 have y:decide (B<(x:Int))=false:=by rw [decide_eq_false_iff_not];omega
 have A:IntKind.i64.wrap (x:Int)=x:=by rw [IntKind.wrap_i64];omega
 rw [h] at y;clear h u;clear q m l o n b s k d j z;generalize (x:Int)=X at*
 go_enter Tryz.func87,Tryz.ntmps87
 go_wp2_with fail
 refine (c.out).mono ?_;rintro e W1 ⟨rfl,hp⟩;clear c;go_wp2;go_ret2;exact ⟨rfl,hp⟩
theorem ot (s:aX t v fl r I dom) (u:iA t v fs r I dom) (n:I L S w) (a i p f g x:Nat) (l:1<=a) (j:a<4611686018427387904) (k:i<256) (m:dom a) (q:dw L a p f g) (o:bK p f g i=3) (c:dom (a+1+i)) (y:x<18446744073709551616):Calls Tryz.prog 85 #[.iface t v,.int .i64 a,.int .i64 i,.int .u64 x] w (bz I (bw L (a+1+i) x) S w (.int .i64 0)):=by
 have d:=ae (rB s u n a i p f g 3 x l j k m q o c y);rw [show ((3:Nat):Int)=3 from rfl] at d;obtain ⟨h,b⟩:∃h,h=bw L (a+1+i) x:=⟨_,rfl⟩;rw [<-b] at d ⊢;unfold bz at*;clear s u n m q o c y l j k b
 go_enter Tryz.func85,Tryz.ntmps85
 go_wp2_with fail
 refine (d.out).mono ?_;rintro e W1 ⟨rfl,hp⟩;clear d;go_wp2;go_ret;exact ⟨rfl,hp⟩
theorem kg (E:aX t v fl r I dom) (l:iA t v fs r I dom) (A:I L S w) (a i p f g x:Nat) (u:1<=a) (o:a<4611686018427387904) (s:i<256) (y:dom a) (D:dw L a p f g) (C:bK p f g i=1) (d:dom (a+1+i)) (F:x<2147483648):Calls Tryz.prog 61 #[.iface t v,.int .i64 a,.int .i64 i,.int .i64 x] w (bz I (bw L (a+1+i) x) S w (.int .i64 0)):=by
 have k:=ae (iS E A a i p f g 1 u o s y D C);rw [show ((1:Nat):Int)=1 from rfl] at k;have K:=l.mstore;have J:=l.estore;have j:=ae (fun w1 (h:dz I L S w w1)=>dz.store l d (Nat.lt_trans F (by omega)) h);obtain ⟨z,G⟩:∃z:Int,z=((a+1+i:Nat):Int):=⟨_,rfl⟩;obtain ⟨n,c⟩:∃n,n=bw L (a+1+i) x:=⟨_,rfl⟩;rw [<-G] at k j;rw [<-c] at j ⊢;obtain ⟨B,q⟩:∃B:Int,B=2147483647:=⟨_,rfl⟩;have N:decide ((x:Int)<0)=false:=by rw [decide_eq_false_iff_not];omega
 have H:decide (B<(x:Int))=false:=by rw [decide_eq_false_iff_not];omega
 have O:IntKind.u64.wrap (x:Int)=x:=by rw [IntKind.wrap_u64];omega
 rw [q] at H;clear q;generalize (x:Int)=X at*;clear E A y D C d F G u o s l c;unfold bz at*
 go_enter Tryz.func61,Tryz.ntmps61
 go_wp2_with fail
 refine (k.out).mono ?_;rintro e W1 ⟨rfl,hp⟩;have b:=ae (j.out _ hp);clear hp j k;go_wp2_with fail
 refine (b.out).mono ?_;rintro e M ⟨rfl,m⟩;clear b;go_wp2;go_ret;exact ⟨rfl,m⟩
end
end Go.Proofs.YthahbijbpinneaaGreatDoor
