import Derived.Test.YtgnoapadkncphaaGreatDoorA0
import Derived.RangeFuncBox
import Derived.RangeFuncLeaves
import Derived.OwnWalkIn
import Derived.TacticsInMore
import Derived.LoopNIn
import Derived.LoopIn
import Derived.Test.YtgnoapadkncphaaGreatDoorShelf
import Derived.Lib.Hide
set_option maxRecDepth 100000
set_option maxHeartbeats 8000000
set_option linter.all false
namespace Go.Proofs.YtgnoapadkncphaaGreatDoor
open Go.RowKit Go.Proofs.Tryz
theorem xE{E:Nat->Nat}{s n:Nat}(a:n≠0)(j:Nat):cV (dR E s n) j=(cV E j||j==s):=by
 grind [cV,dR]
theorem EH{E:Nat->Nat}{s n:Nat}(d:n≠0)(c:E s=0)(j:Nat):sG (dR E s n) j=(sG E j||j==s+n-1):=by
 rw [bM,bL,oK,oK,beq_iff_eq];constructor
 ·rintro ⟨t,a,b⟩;unfold dR at a b
  grind
 ·rintro (⟨t,a,b⟩|h)
  ·refine ⟨t,?_⟩;unfold dR
   grind
  ·refine ⟨s,?_⟩;unfold dR
   grind
theorem lH(j:Nat):cV (fun _=>0) j=false:=rfl
theorem tF(j:Nat):sG (fun _=>0) j=false:=by
 rw [bt,ne_eq,oK];omega
theorem oJ(W:Nat)(C:1<=W)(D:W<=1048576)(w:World):Calls prog 123 #[(W:Int)] w fun e w'=>∃L:bT,e= .returned (.tuple #[L.m,(0:Int)])/\eo w' L W (fun _=>0)/\(∀k,L.has k->w.heap.size<=k)/\J7 w w':=by
 have B:=ae (fun w=>zo W C D w);clear C D
 go_enter func123,ntmps123
 go_wp2_with fail
 refine (B.out _).mono ?_;rintro e w1 ⟨v,g1,rfl,t,n,r,p⟩;have d:=ae t;have l:=ae p;have z:=ae (af n r);clear t p n r;go_wp2_with fail
 refine (B.out _).mono ?_;rintro e w2 ⟨x,y,rfl,u,o,s,q⟩;have f:=ae u;have c:=ae q;have A:=ae (af o s);clear u q o s;go_wp2;go_ret2;have G:=d.out.blt;have H:=d.out.Ze;have I:=f.out.blt;have J:=f.out.Ze;have K:=l.out.size;have M:=c.out.size;have E:=z.out;have F:=A.out;have g:J7 w2 (w2.alloc (.cells #[v,x,(0:Int)] 238)):=(Kb _ w2).alloc _;refine ⟨⟨w2.heap.size,v,g1,x,y⟩,rfl,⟨?_,⟨_,(d.out.frame c.out id id).frame g id id,fun j=>by rw [oL];rfl⟩,⟨_,f.out.frame g id id,fun j=>by rw [oL,tF]⟩,
  fun a b _ h=>absurd rfl h,fun a h=>absurd rfl h,by show w2.heap.size≠g1;omega,by show w2.heap.size≠y;omega,by show v≠y;omega,by show x≠g1;omega,by show g1≠y;omega,by show v≠w2.heap.size;omega,by show x≠w2.heap.size;omega⟩,?_,(l.out.trans c.out (fun _ h=> .inl h)).trans g (fun _ h=> .inl h)⟩
 ·rw [bP (fun i _ _=>lH i)];exact ay.new w2 _ _
 ·rintro k (h|h|h|h|h)<;>(rw [h];dsimp only;omega)
theorem GX{w w1 w2 w3:World}{L:bT}{W a n:Nat}{E:Nat->Nat}(h:eo w L W E)(q:n≠0)(v:E a=0)(l:iG (dR E a n))(r:a+n<=W)
  (t:∃ws,cP w1 L.s L.gs W ws/\∀j,aZ ws j=(cV E j||j==a)) (f:Fr (fun k=>k=L.gs) w w1)
  (u:∃ws,cP w2 L.e L.ge W ws/\∀j,aZ ws j=(sG E j||j==a+n-1)) (c:Fr (fun k=>k=L.ge) w1 w2)
  (x:w3=w2.setCell ⟨L.m,2,none⟩ (.int .i64 ((Qc (cV E) 0 W:Nat)+1))):eo w3 L W (dR E a n)/\Fr L.turns w w3:=by
 have d:Fr (fun k=>k=L.m) w2 w3:=by rw [x];exact (Kb (fun k=>k=L.m) w2).setCell ⟨L.m,2,none⟩ (.inl rfl) _
 refine ⟨⟨?_,?_,?_,l,?_,h.d1,h.d2,h.d3,h.d4,h.d5,h.d6,h.d7⟩,?_⟩
 ·have i:=((h.Qd.frame f h.d1).frame c h.d2).set 2 (.int .i64 ((Qc (cV E) 0 W:Nat)+1))
  grind [nC]
 ·obtain ⟨ws,o,p⟩:=t;exact ⟨ws,(o.frame c h.d3 h.d5).frame d h.d6 (fun e=>h.d1 e.symm),fun j=>by rw [p,xE q]⟩
 ·obtain ⟨ws,o,p⟩:=u;exact ⟨ws,o.frame d h.d7 (fun e=>h.d2 e.symm),fun j=>by rw [p,EH q v]⟩
 ·intro b i;unfold dR at i ⊢;by_cases e:b=a
  ·grind
  ·rw [if_neg e] at i ⊢;exact h.top b i
 ·exact ((f.mono (S':=L.turns) (fun k g=> .inl (.inr (.inl g)))).trans c (fun k g=> .inl (.inr (.inr g)))).trans d (fun k g=> .inl (.inl g))
theorem Ab{w:World}{L:bT}{W:Nat}{E:Nat->Nat}(h:eo w L W E)(H:ee w)(a n:Nat)(hn:1<=n)(l:a+n<=W)(y:∀s,s<=a->s+E s<=a)(I:∀s,a<=s->E s≠0->a+n<=s):
  Calls prog 186 #[L.m,(a:Int),(n:Int)] w fun e w'=>e= .returned (0:Int)/\eo w' L W (dR E a n)/\Fr L.turns w w':=by
 have HN:=ae (ib h.Qd);have Q:=ae (gU h);have O:=h.small;have Z:=ae (ky h H a (by omega));have HX:=ae (pL h H a (by omega));have S:E a=0:=by have:=y a (ag a);omega
 have v:iG (dR E a n):=xK h.apart (by omega) (fun s hs _=>y s (by omega)) I;have d:∀e w',gg E a w e w'->e= .returned (.tuple #[(0:Int),(0:Int),.bool false])/\w=w':=by
  rintro e w' ⟨⟨s,k,o,z,r,_⟩|⟨_,q⟩,p⟩
  ·have:=y s o;omega
  ·exact ⟨q,p⟩
 have f:∀e w',ie E W a w e w'->((∃s k:Nat,a+n<=s/\s<=1048576/\e= .returned (.tuple #[(s:Int),(k:Int),.bool true]))\/e= .returned (.tuple #[(0:Int),(0:Int),.bool false]))/\w=w':=by
  rintro e w' ⟨⟨s,k,o,z,r⟩|⟨_,q⟩,p⟩
  ·exact ⟨.inl ⟨s,k,I s o.1 (eG.1 o.2.2.1),by have:=o.2.1;omega,r⟩,p⟩
  ·exact ⟨.inr q,p⟩
 have c0:=h.Qd.cell 0 rfl;obtain ⟨ws,v1,v2⟩:=h.sv;obtain ⟨we,X,Y⟩:=h.ev;have D:=ae (zn v1 (show a<W by omega));have u:=ae (fun w1 (hf:Fr (fun k=>k=L.gs) w w1)=>(⟨(h.Qd.frame hf h.d1).cell 1 rfl,zn (X.frame hf h.d4 (fun e=>h.d5 e.symm)) (show a+n-1<W by omega)⟩:_/\_));have F:=ae (fun w1 w2 (hf:Fr (fun k=>k=L.gs) w w1) (g:Fr (fun k=>k=L.ge) w1 w2)=>(⟨((h.Qd.frame hf h.d1).frame g h.d2).cell 2 rfl,((h.Qd.frame hf h.d1).frame g h.d2).free 2⟩:_/\_));have i:∀w1 w2 w3 b c,cP w1 L.s L.gs W b->(∀j,aZ b j=(aZ ws j||j==a))->Fr (fun k=>k=L.gs) w w1->cP w2 L.e L.ge W c->(∀j,aZ c j=(aZ we j||j==a+n-1))->Fr (fun k=>k=L.ge) w1 w2->
   w3=w2.setCell ⟨L.m,2,none⟩ (.int .i64 ((Qc (cV E) 0 W:Nat)+1))->eo w3 L W (dR E a n)/\Fr L.turns w w3:=fun w1 w2 w3 b c h1 h2 K h3 h4 g p=>
  GX h (by omega) S v l ⟨b,h1,fun j=>by rw [h2 j,v2]⟩ K ⟨c,h3,fun j=>by rw [h4 j,Y]⟩ g p
 have t:=ae i;have A:=ae d;have B:=ae f;have J:=dA (cV E) 0 W;generalize Qc (cV E) 0 W=N at*;have b1:(a:Int)<(W:Int):=by omega
 have b2:(n:Int)<=(W:Int)-(a:Int):=by omega
 have b3:(W:Int)<=1048576:=by omega
 have b4:(N:Int)<=1048576:=by omega
 have b5:(1:Int)<=(n:Int):=by omega
 have T:((a+n-1:Nat):Int)=(a:Int)+(n:Int)-1:=by omega
 rw [T] at u;clear h H y I v d f i v1 v2 X Y T O l J S hn
 go_enter func186,ntmps186
 go_wp2_with fail
 refine HN.out.mono ?_;rintro e w' ⟨rfl,rfl⟩;go_wp2_with fail
 refine Q.out.mono ?_;rintro e w' ⟨rfl,rfl⟩;go_wp2_with fail
 refine Q.out.mono ?_;rintro e w' ⟨rfl,rfl⟩;go_wp2_with fail
 refine Z.out.mono ?_;rintro e w' hp;obtain ⟨rfl,rfl⟩:=A.out _ _ hp;clear hp;go_wp2_with fail
 refine HX.out.mono ?_;rintro e w' hp;obtain ⟨M,rfl⟩:=B.out _ _ hp;clear hp;rcases M with ⟨s,k,hs,ad,rfl⟩|rfl
 all_goals
  first
   |have ah:(a:Int)+(n:Int)<=(s:Int):=by omega
    have aj:(s:Int)<=1048576:=by omega
   |skip
  go_wp2_with fail
  refine D.out.mono ?_;rintro e w1 ⟨rfl,b,o,z,r⟩;obtain ⟨c1,R⟩:=u.out w1 r;have x:=ae (af o (af z r));have G:=ae R;clear o z r R;go_wp2_with fail
  refine G.out.mono ?_;rintro e w2 ⟨rfl,c,U,V,P⟩;obtain ⟨c2,c3⟩:=F.out w1 w2 x.out.2.2 P;have C:=ae (af U (af V P));clear U V P;go_wp2;go_ret;exact ⟨rfl,t.out w1 w2 _ b c x.out.1 x.out.2.1 x.out.2.2 C.out.1 C.out.2.1 C.out.2.2 rfl⟩
theorem eo.drew{w:World}{L:bT}{W:Nat}{E:Nat->Nat}(h:eo w L W E):eo w.drew L W E:=h.frame (S:=fun _=>False) ((Kb _ w).drew) (fun _ _ h=>h)
theorem AH{w w1 w2 w3:World}{L:bT}{W:Nat}{E:Nat->Nat}(h:eo w L W E)
  (n:∃ws,cP w1 L.s L.gs W ws/\∀j,aZ ws j=false) (f:Fr (fun k=>k=L.gs) w w1)
  (o:∃ws,cP w2 L.e L.ge W ws/\∀j,aZ ws j=false) (c:Fr (fun k=>k=L.ge) w1 w2)
  (p:w3=w2.setCell ⟨L.m,2,none⟩ (.int .i64 0)):eo w3 L W (fun _=>0)/\Fr L.turns w w3:=by
 have d:Fr (fun k=>k=L.m) w2 w3:=by rw [p];exact (Kb (fun k=>k=L.m) w2).setCell ⟨L.m,2,none⟩ (.inl rfl) _
 refine ⟨⟨?_,?_,?_,fun a b _ h=>absurd rfl h,fun a h=>absurd rfl h,h.d1,h.d2,h.d3,h.d4,h.d5,h.d6,h.d7⟩,?_⟩
 ·have q:=((h.Qd.frame f h.d1).frame c h.d2).set 2 (.int .i64 0)
  grind [bP,lH]
 ·obtain ⟨ws,i,l⟩:=n;exact ⟨ws,(i.frame c h.d3 h.d5).frame d h.d6 (fun e=>h.d1 e.symm),fun j=>by rw [l,lH]⟩
 ·obtain ⟨ws,i,l⟩:=o;exact ⟨ws,i.frame d h.d7 (fun e=>h.d2 e.symm),fun j=>by rw [l,tF]⟩
 ·exact ((f.mono (S':=L.turns) (fun k g=> .inl (.inr (.inl g)))).trans c (fun k g=> .inl (.inr (.inr g)))).trans d (fun k g=> .inl (.inl g))
theorem yQ{w:World}{L:bT}{W:Nat}{v:Value}(h:ay w L.m [L.s,L.e,v] 238){ws:List Nat}(a:cP w L.s L.gs W ws):Calls prog 170 #[L.m] w fun e w'=>e= .returned (W:Int)/\w=w':=by
 have c:=ae (ib h);have d:=h.cell 0 rfl;have b:=ae (lF a);clear h a
 go_enter func170,ntmps170
 go_wp2_with fail
 refine c.out.mono ?_;rintro e w' ⟨rfl,rfl⟩;go_wp2_with fail
 refine b.out.mono ?_;rintro e w' ⟨rfl,rfl⟩;go_wp2;go_ret;simp_all
theorem tO{f:Nat->Bool}{W:Nat}(h:∀j,W<=j->f j=false)(j:Nat):(f j&& !(decide (0<=j)&&decide (j<W)))=false:=by
 grind
theorem B8{w:World}{L:bT}{W:Nat}{E:Nat->Nat}(h:eo w L W E):Calls prog 172 #[L.m] w fun e w'=>e= .returned (.tuple #[])/\eo w' L W (fun _=>0)/\Fr L.turns w w':=by
 have N:=ae (ib h.Qd);obtain ⟨ws,v1,v2⟩:=h.sv;obtain ⟨we,M,S⟩:=h.ev;have v:=ae (gU h.drew);have i:∀x,x=w.drew->Calls prog 198 #[L.s,(0:Int),(W:Int)] x fun e w'=>(∃V,e= .returned (V:Int))/\(∃a,cP w' L.s L.gs W a/\∀j,aZ a j=false)/\Fr (fun k=>k=L.gs) w w':=by
  rintro x rfl;refine (sR v1.drew (F:=0) (T:=W) (ao _) (ag _)).mono ?_;rintro e w' ⟨A,a,B,C,D⟩;exact ⟨A,⟨a,B,fun j=>by rw [C];exact tO v1.off j⟩,((Kb (fun k=>k=L.gs) w).drew).trans D (fun _ h=> .inl h)⟩
 have q:=ae i;have l:∀w1,Fr (fun k=>k=L.gs) w w1->(∃a,cP w1 L.s L.gs W a/\∀j,aZ a j=false)->(w1.drew.cell? ⟨L.m,1,none⟩=some L.e)/\Calls prog 170 #[L.m] w1.drew (fun e w'=>e= .returned (W:Int)/\w1.drew=w')/\
   ∀x,x=w1.drew->Calls prog 198 #[L.e,(0:Int),(W:Int)] x fun e w'=>(∃V,e= .returned (V:Int))/\(∃a,cP w' L.e L.ge W a/\∀j,aZ a j=false)/\Fr (fun k=>k=L.ge) w1 w':=by
  rintro w1 hf ⟨X,R,_⟩;have J:=(h.Qd.frame hf h.d1);refine ⟨J.drew.cell 1 rfl,yQ J.drew R.drew,?_⟩;rintro x rfl;have K:=(M.frame hf h.d4 (fun e=>h.d5 e.symm));refine (sR K.drew (F:=0) (T:=W) (ao _) (ag _)).mono ?_;rintro e w' ⟨A,a,B,C,D⟩;exact ⟨A,⟨a,B,fun j=>by rw [C];exact tO K.off j⟩,((Kb (fun k=>k=L.ge) w1).drew).trans D (fun _ h=> .inl h)⟩
 have r:=ae l;have n:∀w1 w2,Fr (fun k=>k=L.gs) w w1->Fr (fun k=>k=L.ge) w1 w2->w2.frozen? ⟨L.m,2,none⟩=false/\∃z,w2.cell? ⟨L.m,2,none⟩=some (z:Int):=fun w1 w2 hf b=>⟨((h.Qd.frame hf h.d1).frame b h.d2).free 2,_,((h.Qd.frame hf h.d1).frame b h.d2).cell 2 rfl⟩
 have t:=ae n;have f:=ae (fun w1 w2 w3 g c o b d=>AH (w1:=w1) (w2:=w2) (w3:=w3) h g c o b d);have O:w.drew.cell? L.m=some L.s:=h.Qd.drew.cell 0 rfl;clear h v1 v2 M S i l n
 go_enter func172,ntmps172
 go_wp2_with fail
 refine N.out.mono ?_;rintro e w' ⟨rfl,rfl⟩;go_wp2;refine bz (fun w'=>w'=w.drew) 6 (by kernel_rfl) rfl ?_;simp only [Kc];refine aL [L.m,L.m,L.m] ?_
 iterate 3 (refine aM rfl (fun U Q=>by go_simp) ?_;simp only [aa])
 refine aK ?_;refine ai L.s rfl (fun w d=>by subst d;go_simp) ?_;simp only [aa];refine ai L.m rfl (fun w d=>by go_simp) ?_;simp only [aa];refine bf (.int .i64 W) 170 #[L.m] rfl (fun w=>by go_simp) (fun w d=>by subst d;exact v.out.mono fun e w' h=>⟨h.1,h.2.symm⟩) ?_;simp only [aa];refine wpQuiet_nil ?_;rintro w2 rfl;go_wp2_with fail
 refine (q.out _ rfl).mono ?_;rintro e w1 ⟨⟨V,rfl⟩,g,c⟩;obtain ⟨P,I,H⟩:=r.out w1 c g;have p:=ae (af g c);have y:=ae I;have u:=ae H;clear g c I H O;go_wp2;refine bz (fun w'=>w'=w1.drew) 6 (by kernel_rfl) rfl ?_;simp only [Kc];refine aL [L.m,L.m,.pointer (some ⟨L.m,1,none⟩)] ?_
 iterate 3 (refine aM rfl (fun U Q=>by go_simp) ?_;simp only [aa])
 refine aK ?_;refine ai L.e rfl (fun w d=>by subst d;go_simp) ?_;simp only [aa];refine ai L.m rfl (fun w d=>by go_simp) ?_;simp only [aa];refine bf (.int .i64 W) 170 #[L.m] rfl (fun w=>by go_simp) (fun w d=>by subst d;exact y.out.mono fun e w' h=>⟨h.1,h.2.symm⟩) ?_;simp only [aa];refine wpQuiet_nil ?_;rintro w4 rfl;go_wp2_with fail
 refine (u.out _ rfl).mono ?_;rintro e w5 ⟨⟨Y,rfl⟩,o,b⟩;obtain ⟨Z,z,c4⟩:=t.out w1 w5 p.out.2 b;have G:=ae (af o b);clear o b P;go_wp2;go_end0;exact ⟨rfl,f.out w1 w5 _ p.out.1 p.out.2 G.out.1 G.out.2 rfl⟩
section
open Go.RowKit Go.Shelf
theorem Fr.putObj{S:Nat->Prop}{a w:World}(h:Fr S a w)(l:Nat)(o:Obj)(d:S l\/a.heap.size<=l):Fr S a (w.putObj l o):=
 ⟨h.os,h.tape,h.output,by show a.heap.size<=(w.putObj l o).heap.size;rw [World.putObj];simp;exact h.size,fun k b c=>(World.putObj_heap_other (fun e=>by grind)).trans (h.block k b c)⟩
theorem dZ{d:Nat}{P:Program}{f:FuncId}{args:Array Value}{w:World}{R:Ending->World->Prop}(h:Calls P f args w R):Fence.wide.fn f/\(Fence.wide.depth.isSome=true->1<=d)/\CallsIn Fence.wide (d-1) P f args w R:=
 ⟨trivial,(fun h=>by cases h),callsIn_wide.2 h⟩
theorem wM{d k:Nat}{P:Program}{f:FuncId}{args:Array Value}{w:World}{R:Ending->World->Prop}(h:Calls P f args w R):(Fence.wide.inRound k).fn f/\((Fence.wide.inRound k).depth.isSome=true->1<=d)/\CallsIn (Fence.wide.inRound k) (d-1) P f args w R:=
 ⟨trivial,(fun h=>by cases h),(callsIn_wide (n:=d-1)).2 h⟩
theorem Jp{d a k l:Nat}{P:Program}{f:FuncId}{tmps:Array Value}{assign body:Code}{w:World}{R:Ending->World->Prop}(h:RoundIn Fence.wide d P l f tmps assign body w R):((Fence.wide.inRound k).depth.isSome=true->1<=a)/\RoundIn (Fence.wide.inRound k) (a-1) P l f tmps assign body w R:=
 ⟨(fun h=>by cases h),h.1,fun c cs _=>h.2 c cs (room_wide _)⟩
def E9{α:Type}(J:List α->(Nat->Prop)->World->Prop)(pre:List α)(S:Nat->Prop)(W W':World):Prop:=
 ∃S':Nat->Prop,J pre S' W'/\Fr S W W'/\∀k,S' k->S k\/W.heap.size<=k
def gm{α:Type}(B:Nat)(J:List α->(Nat->Prop)->World->Prop):Prop:=
 ∀pre S W1 W2 (T:Nat->Prop),J pre S W1->Fr T W1 W2->(∀k,T k->B<=k/\¬S k)->J pre S W2
theorem gm.mono{α:Type}{B b:Nat}{J:List α->(Nat->Prop)->World->Prop}(h:gm B J)(f:B<=b):gm b J:=
 fun a S W1 e T g hf d=>h a S W1 e T g hf (fun k c=>⟨aH f (d k c).1,(d k c).2⟩)
theorem gm.Fh{α:Type}{B:Nat}{J:List α->(Nat->Prop)->World->Prop}(h:gm B J){a:List α}{S:Nat->Prop}{W1 b:World}(c:J a S W1)(hf:J7 W1 b):J a S b:=
 h a S W1 b _ c hf J8
def uR{α:Type}(gf:Nat)(lb:Array Value)(encs:α->Array Value)(xs:List α)(R:World->Prop):Prop:=
 ∀(d l:Nat) (J:List α->(Nat->Prop)->World->Prop) (S₀:Nat->Prop) (W:World),gm W.heap.size J->(∀pre S W1,J pre S W1->R W1)->
  (∀pre S x W1,J pre S W1->xs[pre.length]? =some x->YieldAt Fence.wide (d-1) prog l (encs x) W1 fun e W'=>e= .returned (.bool true)/\E9 J (pre++[x]) S W1 W')->
  (∀k,S₀ k->k<W.heap.size)->J [] S₀ W->
  CallsIn Fence.wide d prog gf (#[.func (.yield l) #[] #[]]++lb) W fun e W'=>(∃v,e= .returned v)/\∃S,J xs S W'
theorem iU{α:Type}{g:Operand}{ps:Array Tmp}{assign body:Code}{Q:Exit->Act->World->Prop}{a:Act}{w:World}{d:Nat}{gf:Nat}{lb:Array Value}
  (hg:a.eval g= .func (.func gf) #[] lb) (eg:∀args w,(callFunc gf args).run prog w= .ok (.enter gf args) w) {encs:α->Array Value} (aG:∀x,(encs x).size=ps.size)
  {xs:List α} {R:World->Prop} (Y:uR gf lb encs xs R) (I:List α->(Nat->Prop)->World->Prop) (m:Nat->Prop) (L:gm w.heap.size I) (hR:∀b S W,I b S W->R W) (az:∀k,m k->k<w.heap.size) (h0:I [] m w)
  (a₁:α->Act)
  (q:∀(l:Nat) (x:α) (W:World) (K:Act->World->Prop),K (a₁ x) W->
   assign.wpIn (Fence.wide.inRound l) (d-1-1) prog (Exit.then K (fun _ _ _=>False)) {tmps:=(ps.zip (encs x)).foldl (fun t (p,v)=>t.setIfInBounds p v) a.tmps,defers:=[]} W)
  (E:∀(l:Nat) (b:List α) (S:Nat->Prop) (x:α) (W:World),I b S W->xs[b.length]? =some x->Fr m w W->(∀k,S k->m k\/w.heap.size<=k)->body.wpIn (Fence.wide.inRound l) (d-1-1) prog
   (fun e _ W'=>e= .normal/\E9 I (b++[x]) S W W') (a₁ x) W)
  (F:∀(D:Nat) (S:Nat->Prop) (W:World),I xs S W->W.heap[D]? =some (.deferred (some []))->w.heap.size<=D->¬S D->Fr m w W->(∀k,S k->m k\/w.heap.size<=k)->Q .normal {a with defers:={target:= .collected D,args:= #[]}::a.defers} W):
  (Code.rangeFunc g ps assign body).wpIn Fence.wide d prog Q a w:=by
 refine wpIn_rangeFunc ?_;intro fn aj;obtain ⟨f,j⟩:∃f:LoopState->Option Code->Loop,f=fun st pe=>{state:=st,pending:=pe,fn,tmps:=a.tmps,params:=ps,assign,body,defers:=w.heap.size}:=⟨_,rfl⟩
 obtain ⟨W1,M⟩:∃W1,(w.alloc (.deferred (some []))).alloc (.loop (f .ready none))=W1:=⟨_,rfl⟩;have ah:W1.heap[w.heap.size+1]? =some (.loop (f .ready none)):=by
  grind [World.alloc_heap_new,World.size_alloc]
 have ad:W1.heap[w.heap.size]? =some (.deferred (some [])):=by
  grind [Below.heap_alloc,World.alloc_heap_new]
 have O:J7 w W1:=by rw [<-M];exact ((Kb _ w).alloc _).alloc _
 have av:W1.heap.size=w.heap.size+2:=by rw [<-M];simp
 have Z:I [] m W1:=L.Fh h0 O;refine ⟨w.heap.size+1,[{target:= .collected w.heap.size,args:= #[]}],W1,{target:= .fn (.func gf) lb,args:= #[.func (.yield (w.heap.size+1)) #[] #[]]},W1,gf,
  #[.func (.yield (w.heap.size+1)) #[] #[]]++lb,W1,?_,?_,fun _ _=>trivial,?_,(fun h=>by cases h),?_⟩
 ·simp_all [run_enterLoop_outer]
 ·simp only [resolve,hg];simp [go_sem]
 ·simp [invoke,go_sem,eg]
 ·refine (Y (d-1) (w.heap.size+1)
   (fun b S W=>I b S W/\(W.heap[w.heap.size+1]? =some (.loop (f .ready none))/\W.heap[w.heap.size]? =some (.deferred (some [])))/\(¬S (w.heap.size+1)/\¬S w.heap.size)/\Fr m w W/\∀k,S k->m k\/w.heap.size<=k) m
   W1 ?_ (fun b S W h=>hR b S W h.1) ?_ (fun k c=>by grind) ⟨Z,⟨ah,ad⟩,⟨fun h=>by grind,fun h=>by grind⟩,O.mono J8,fun k c=> .inl c⟩).mono ?_
  ·rintro b S A B T ⟨V,⟨G,c⟩,J,hf,H⟩ y hT;exact ⟨L b S A B T V y (fun k c=>⟨by grind,(hT k c).2⟩),⟨y.heap G (fun h=>by grind),y.heap c (fun h=>by grind)⟩,J,
    hf.trans y (fun k c=> .inr (by grind)),H⟩
  ·rintro b S x W ⟨V,⟨G,c⟩,J,hf,H⟩ X;have aC:w.heap.size+1<W.heap.size:=(bE.1 G).1;have hy:=run_yield (P:=prog) (args:=encs x) G (by grind);rw [j] at hy;refine ⟨fn,_,assign,body,hy,roundIn_of_wpIn aj (q _ x W _ ⟨_,run_beginRound G (by rw [j]),?_⟩)⟩;obtain ⟨n,N⟩:∃n,W.putObj (w.heap.size+1) (.loop {f .ready none with state:= .busy})=n:=⟨_,rfl⟩;have r:Fr (fun k=>k=w.heap.size+1) W n:=by rw [<-N];exact (Kb _ W).putObj _ _ (.inl rfl)
   have ao:n.heap[w.heap.size+1]? =some (.loop {f .ready none with state:= .busy}):=by grind [World.putObj_heap_same]
   have am:n.heap[w.heap.size]? =some (.deferred (some [])):=r.heap c (by omega);have ak:I b S n:=L b S W n _ V r (fun k c=>by grind);have C:Fr m w n:=hf.trans r (fun k c=> .inr (by omega));rw [N];refine wpIn_mono (E _ b S x _ ak X C H) ?_;rintro e a3 z ⟨rfl,S',al,u,aH⟩;have ap:=u.heap ao J.1;have an:=u.heap am J.2;have hr:=run_endRound (P:=prog) none ap;rw [j] at hr;have ax:=r.size;have aq:¬S' (w.heap.size+1)/\¬S' w.heap.size:=⟨fun h=>by grind,fun h=>by grind⟩;have ar:∀k,S' k->m k\/w.heap.size<=k:=fun k c=>by
    grind
   have i:Fr (fun k=>k=w.heap.size+1) z (z.putObj (w.heap.size+1) (.loop {f .ready none with state:= .ready})):=(Kb _ z).putObj _ _ (.inl rfl);have U:Fr m w z:=C.trans u H;have aB:(z.putObj (w.heap.size+1) (.loop {f .ready none with state:= .ready})).heap[w.heap.size+1]? =some (.loop (f .ready none)):=by
    grind [World.putObj_heap_same]
   refine ⟨_,_,hr,rfl,S',⟨?_,⟨?_,?_⟩,aq,?_,ar⟩,?_,?_⟩
   ·have:=L (b++[x]) S' z _ _ al i (fun k c=>by grind)
    grind
   ·grind
   ·have:=i.heap an (by omega)
    grind
   ·have:=U.trans i (fun k c=> .inr (by omega))
    grind
   ·have s:Fr (fun k=>S k\/k=w.heap.size+1) W (z.putObj (w.heap.size+1) (.loop {f .ready none with state:= .ready})):=((r.mono (S':=fun k=>S k\/k=w.heap.size+1) (fun k c=> .inl (.inr c))).trans u (fun k c=> .inl (.inl c))).trans i (fun k c=> .inl (.inr c));have aA:Fr S W (z.putObj (w.heap.size+1) (.loop {f .ready none with state:= .ready})):=⟨s.os,s.tape,s.output,s.size,fun k c H=>by
     by_cases e:k=w.heap.size+1
     ·grind
     ·exact s.block k c (fun h=>by grind)⟩
    grind
   grind
  ·rintro e n ⟨⟨v,rfl⟩,S,V,⟨G,c⟩,J,hf,H⟩;have i:∀o,Fr (fun k=>k=w.heap.size+1) n (n.putObj (w.heap.size+1) o):=fun o=>(Kb _ n).putObj _ _ (.inl rfl)
   exact ⟨none,_,by have:=run_endLoop (P:=prog) G (by grind);rwa [j] at this,F _ S _ (L xs S n _ _ V (i _) (fun k c=>by grind)) ((i _).heap c (by omega)) (ag _) J.2 (hf.trans (i _) (fun k c=> .inr (by omega))) H⟩
end
section
open Go.RowKit Go.Shelf
def dy(f:Nat->Bool)(a n:Nat):List Nat:=(List.range' a (n-a)).filter f
theorem vu{a j n:Nat}(c:a<=j)(d:j<n):List.range' a (n-a)=List.range' a (j-a)++j::List.range' (j+1) (n-(j+1)):=by
 have b:n-a=(j-a)+(n-j):=by omega
 rw [b,<-List.range'_append_1,show a+(j-a)=j by omega,show n-j=(n-(j+1))+1 by omega,List.range'_succ]
theorem ta{f:Nat->Bool}{a n j:Nat}(h:lT f a n j):dy f a n=j::dy f (j+1) n:=by
 unfold dy;rw [vu h.1 h.2.1,List.filter_append,List.filter_cons_of_pos h.2.2.1];have:(List.range' a (j-a)).filter f=[]:=lf.2 (fun x b=>by
  rw [List.mem_range'_1] at b;rw [h.2.2.2 x b.1 (by omega)]
  grind)
 grind
theorem s9{f:Nat->Bool}{a n:Nat}(h:∀j,a<=j->j<n->f j=false):dy f a n=[]:=lf.2 (fun x b=>by
 grind)
theorem rC{f:Nat->Bool}{a n x:Nat}:x∈dy f a n↔a<=x/\x<n/\f x=true:=by
 grind [dy]
def GG(i:Nat):Array Value:= #[(i:Int)]
def Hz(b g n tb:Nat)(f:Nat->Bool)(W:World):Prop:=(∃ws,cP W b g n ws/\∀j,aZ ws j=f j)/\ee W/\ay W tb [b] 236
theorem Bk{b g n tb:Nat}{f:Nat->Bool}(Y:n<=1048576):uR 193 #[tb] GG (dy f 0 n) (Hz b g n tb f):=by
 intro d l J O W K v L E D;refine callsIn_of_wp func193 rfl trivial ?_ rfl;simp only [ntmps193,du,bG,cB,Nat.reduceAdd,Nat.reduceSub,cK,cJ,dv,cU,dz,dH];obtain ⟨⟨ws,z,a⟩,y,o⟩:=v _ _ _ D;have V:=o.cell 0 rfl;have s:=ae (ko z y 0 (by omega));rw [show ((0:Nat):Int)=0 from rfl,funext a] at s;have T:=ae K;have M:=ae v;have N:=ae L;have I:=ae D;clear K v L D z a y o E;gi_wp2;refine dZ (s.out.mono ?_);rintro e w' ⟨hp,rfl⟩;have w:Hid (∃(i:Nat) (is:Bool),e= .returned (.tuple #[(i:Int),.bool is])/\i<=1048576/\(is=true->dy f 0 n=i::dy f (i+1) n/\i<n)/\(is=false->dy f 0 n=[])):=by
  rcases hp with ⟨j,m,rfl⟩|⟨m,rfl⟩
  ·exact ⟨j,true,rfl,by have:=m.2.1;omega,fun _=>⟨ta m,m.2.1⟩,(fun h=>by cases h)⟩
  ·exact ⟨0,false,rfl,by omega,(fun h=>by cases h),fun _=>s9 m⟩
 clear hp s;obtain ⟨i,is,rfl,G,hp⟩:=w.out;have t:=ae hp;clear hp w;gi_wp2
 gi_loopw [3,4] (fun p q wr=>∃(i:Nat) (is:Bool),p= .int .i64 i/\q= .bool is/\i<=1048576/\Hid (∃c S,J c S wr/\(is=true->dy f 0 n=c++i::dy f (i+1) n/\i<n)/\(is=false->dy f 0 n=c)))
  (fun p q _=>match q with| .bool true=>n+1-(intOf p).toNat|_=>0)
 case atStart=>exact ⟨i,is,rfl,rfl,G,⟨[],O,I.out,t.out.1,t.out.2⟩⟩
 case round=>
  clear t I G;obtain ⟨i,is,rfl,rfl,G,B⟩:=hrel
  cases is with
  |false=>
   obtain ⟨c,S,m,_,r⟩:=B.out;have A:Hid (∃S,J (dy f 0 n) S wr):=⟨S,by rw [r rfl];exact m⟩;clear B m r;gi_wp2;refine ⟨fun f h=>(by cases h),?_⟩;gi_wp2;go_end0;exact ⟨⟨_,rfl⟩,A.out⟩
  |true=>
   obtain ⟨c,S,m,r,_⟩:=B.out;obtain ⟨r,P⟩:=r rfl;obtain ⟨fn,tmps,assign,body,R,v⟩:=N.out c S i wr m (by rw [r];simp);unfold GG at R;have x:=ae v;have A:=ae r;clear B m r v;gi_wp2;refine ⟨(fun h=>by cases h),x.out.mono ?_⟩;rintro e U ⟨rfl,S',u,F,H⟩;obtain ⟨⟨ws,z,a⟩,y,o⟩:=M.out _ _ _ u;have X:=o.cell 0 rfl;have s:=ae (ko z y (i+1) (by omega));rw [show ((i+1:Nat):Int)=(i:Int)+1 by omega,funext a] at s;have C:=ae u;clear z a y o u F H x;gi_wp2;refine dZ (s.out.mono ?_);rintro e w' ⟨hp,rfl⟩;have w:Hid (∃(k:Nat) (is:Bool),e= .returned (.tuple #[(k:Int),.bool is])/\k<=1048576/\(is=true->(dy f 0 n=(c++[i])++k::dy f (k+1) n/\k<n)/\i<k)/\(is=false->dy f 0 n=c++[i])):=by
    rcases hp with ⟨j,m,rfl⟩|⟨m,rfl⟩
    ·exact ⟨j,true,rfl,by have:=m.2.1;omega,fun _=>⟨⟨by rw [A.out,ta m];simp,m.2.1⟩,by have:=m.1;omega⟩,(fun h=>by cases h)⟩
    ·exact ⟨0,false,rfl,by omega,(fun h=>by cases h),fun _=>by rw [A.out,s9 m]⟩
   clear hp s;obtain ⟨k,is,rfl,Q,hp⟩:=w.out;have t:=ae hp;clear hp w;gi_wp2;refine ⟨⟨k,is,rfl,rfl,Q,⟨c++[i],S',C.out,fun h=>(t.out.1 h).1,t.out.2⟩⟩,?_⟩
   cases is with
   |false=>simp [intOf];omega
   |true=>have:=(t.out.1 rfl).2;simp [intOf];omega
end
section
open Go.RowKit Go.Shelf
theorem AL(b:Nat)(w:World):Calls prog 163 #[b] w fun e w'=>e= .returned (.func (.func 193) #[] #[w.heap.size])/\w'=w.alloc (.cells #[b] 236):=by
 go_enter func163,ntmps163
 go_wp2;go_ret;exact ⟨rfl,rfl⟩
theorem jH(b:Nat)(w:World):Calls prog 113 #[b] w fun e w'=>e= .returned (.func (.func 161) #[] #[w.heap.size])/\w'=w.alloc (.cells #[b] 165):=by
 go_enter func113,ntmps113
 go_wp2;go_ret;exact ⟨rfl,rfl⟩
def cj(E:Nat->Nat)(W:Nat):List (Nat×Nat):=(dy (cV E) 0 W).map fun s=>(s,E s)
def mX(x:Nat×Nat):Array Value:= #[((x.1:Int):Int),((x.2:Int):Int)]
def sN(L:bT)(tb W:Nat)(E:Nat->Nat)(w:World):Prop:=eo w L W E/\ee w/\ay w tb [L.m] 165
theorem IF{f:Nat->Nat×Nat}{xs a:List Nat}{x:Nat}(h:xs[a.length]? =some x):(xs.map f)[(a.map f).length]? =some (f x):=by
 grind
def sw(J:List (Nat×Nat)->(Nat->Prop)->World->Prop)(E:Nat->Nat)(l yb ob s:Nat)(pre:List Nat)(S:Nat->Prop)(W:World):Prop:=
 J (pre.map fun s=>(s,E s)) S W/\ay W yb [.func (.yield l) #[] #[]] 233/\ay W ob [.pointer (some ⟨s,0,none⟩)] 236/\¬S yb/\¬S ob
theorem sw.stays{J:List (Nat×Nat)->(Nat->Prop)->World->Prop}{E:Nat->Nat}{l b a s B:Nat}(c:gm B J)(n:b<B)(o:a<B):gm B (sw J E l b a s):=by
 rintro e S W1 m T ⟨f,g,i,j,k⟩ hf d;exact ⟨c _ _ _ _ _ f hf d,g.frame hf (fun h=>by grind),i.frame hf (fun h=>by grind),j,k⟩
theorem sw.Xk{J:List (Nat×Nat)->(Nat->Prop)->World->Prop}{E:Nat->Nat}{l g d s x:Nat}{a:List Nat}{S:Nat->Prop}{W c:World}(h:sw J E l g d s a S W)(i:E9 J ((a.map fun s=>(s,E s))++[(x,E x)]) S W c):E9 (sw J E l g d s) (a++[x]) S W c:=by
 obtain ⟨p,e,f,j,k⟩:=h;obtain ⟨S',q,b,m⟩:=i;have o:=e.lt;have n:=f.lt;exact ⟨S',⟨by grind,e.frame b j,f.frame b k,fun h=>by grind,fun h=>by grind⟩,b,m⟩
section
attribute [local go_sem] Oper.semAt_some
theorem jI{L:bT}{tb W:Nat}{E:Nat->Nat}(hn:W<=1048576):uR 161 #[tb] mX (cj E W) (sN L tb W E):=by
 intro d l J U c V F hY G h0;refine callsIn_of_wp_marks func161 rfl trivial ?_ rfl;simp only [ntmps161,du,bG,cB,Nat.reduceAdd,Nat.reduceSub,cK,cJ,dv,cU,dz,dH];obtain ⟨W1,g⟩:∃W1,c.alloc (.cells #[.func (.yield l) #[] #[]] 233)=W1:=⟨_,rfl⟩;have X:J7 c W1:=by rw [<-g];exact (Kb _ c).alloc _
 have I:ay W1 c.heap.size [.func (.yield l) #[] #[]] 233:=by rw [<-g];exact ay.new c _ _
 have o:W1.heap.size=c.heap.size+1:=by rw [<-g];simp
 have u:=V.Fh h0 X;obtain ⟨y,O,j⟩:=F _ _ _ u;have c0:=j.cell 0 rfl;have c1:=y.Qd.cell 0 rfl;have HN:=ae (ib y.Qd);have HO:=ae (AL L.s W1);have HX:=ae y;have N:=ae V;have HR:=ae F;have HY:=ae hY;have HJ:=ae u;have HW:=ae g;have z:=ae (af I (af o G));clear V F hY h0 O j y u I o G;gi_wp2;clear g;refine dZ (HN.out.mono ?_);rintro e w' ⟨rfl,rfl⟩;gi_wp2;refine dZ (HO.out.mono ?_);rintro e A ⟨rfl,p⟩;have t:J7 W1 A:=by rw [p];exact (Kb _ W1).alloc _
 have ad:ay A W1.heap.size [L.s] 236:=by rw [p];exact ay.new W1 _ _
 have aj:A.heap.size=W1.heap.size+1:=by rw [p];simp
 have o:=z.out.2.1;have r:sw J E l c.heap.size W1.heap.size L.s [] U A:=⟨N.out.Fh HJ.out t,z.out.1.frame t id,ad,fun h=>by have:=z.out.2.2 _ h;omega,fun h=>by have:=z.out.2.2 _ h;omega⟩;have b:gm A.heap.size (sw J E l c.heap.size W1.heap.size L.s):=sw.stays (N.out.mono (by omega)) (by omega) (by omega);have v:∀k,U k->k<A.heap.size:=fun k Y=>by have:=z.out.2.2 _ Y;omega
 have a:∀q S w,sw J E l c.heap.size W1.heap.size L.s q S w->Hz L.s L.gs W W1.heap.size (cV E) w:=fun q S w h=>by
  obtain ⟨h1,h2,_⟩:=HR.out _ _ _ h.1;exact ⟨h1.sv,h2,h.2.2.1⟩
 have ak:=ae o;clear p c0 c1 o aj;gi_wp2;refine iU (gf:=193) (lb:= #[W1.heap.size]) rfl (enters_of func193 (by kernel_rfl) rfl) (encs:=GG) (fun _=>rfl) (Bk (f:=cV E) hn) (sw J E l c.heap.size W1.heap.size L.s) U b a v r
  (fun s=>{tmps:= #[.func (.yield l) #[] #[],tb,c.heap.size,(s:Int),L.m,.bool false,L.m,L.m,L.m,L.s,.func (.func 193) #[] #[W1.heap.size],(s:Int),undef,undef,undef,undef,undef,undef,undef],defers:=[]}) ?assign ?body ?done
 case assign=>
  intro k x W K C;unfold GG;gi_wp2;exact C
 case body=>
  clear r b v a;intro k q S x W B i hf hs;obtain ⟨H,M,ag,am,an⟩:=id B;obtain ⟨y,O,j⟩:=HR.out _ _ _ H;have ah:E x≠0:=eG.1 (rC.1 (ar i)).2.2;obtain ⟨fn,tmps,assign,body,hy,F⟩:=HY.out _ S (x,E x) W.drew (N.out.Fh H ((Kb _ W).drew)) (IF i);have T:=ae (rT y.drew O x ah);have R:=ae F;have c0:W.drew.cell? c.heap.size=some (.func (.yield l) #[] #[]):=M.drew.cell 0 rfl;have c1:W.drew.cell? tb=some L.m:=j.drew.cell 0 rfl;have HE:=ae (fun W' (P:E9 J ((q.map fun s=>(s,E s))++[(x,E x)]) S W.drew W')=>(sw.Xk B (let ⟨S',r1,r2,r3⟩:=P;⟨S',r1,((Kb S W).drew).trans r2 (fun _ h=> .inl h),r3⟩)));unfold mX at hy;clear B H M ag y O j i hf hs F;generalize E x=n at*;gi_wp2;refine wpIn_region_any (by kernel_rfl) ?_;change wpAnyIn _ _ _ _ _ _ _ _ _ (World.drew _);generalize W.drew=W at*
  iterate 7 (all_goals (
   first|refine wpAnyIn_ready (rs:=[0,1,2,3]) (by decide+kernel) (by simp) ?_|refine wpAnyIn_ready (rs:=[0,1,2]) (by decide+kernel) (by simp) ?_|refine wpAnyIn_ready (rs:=[0,1,3]) (by decide+kernel) (by simp) ?_|refine wpAnyIn_ready (rs:=[0,2,3]) (by decide+kernel) (by simp) ?_|refine wpAnyIn_ready (rs:=[1,2,3]) (by decide+kernel) (by simp) ?_|refine wpAnyIn_ready (rs:=[0,1,4]) (by decide+kernel) (by simp) ?_|refine wpAnyIn_ready (rs:=[0,1]) (by decide+kernel) (by simp) ?_|refine wpAnyIn_ready (rs:=[0,2]) (by decide+kernel) (by simp) ?_|refine wpAnyIn_ready (rs:=[0,3]) (by decide+kernel) (by simp) ?_|refine wpAnyIn_ready (rs:=[1,2]) (by decide+kernel) (by simp) ?_|refine wpAnyIn_ready (rs:=[1,3]) (by decide+kernel) (by simp) ?_|refine wpAnyIn_ready (rs:=[2,3]) (by decide+kernel) (by simp) ?_|refine wpAnyIn_ready (rs:=[0,4]) (by decide+kernel) (by simp) ?_|refine wpAnyIn_ready (rs:=[0]) (by decide+kernel) (by simp) ?_|refine wpAnyIn_ready (rs:=[1,4]) (by decide+kernel) (by simp) ?_|refine wpAnyIn_ready (rs:=[1]) (by decide+kernel) (by simp) ?_|refine wpAnyIn_ready (rs:=[2]) (by decide+kernel) (by simp) ?_|refine wpAnyIn_ready (rs:=[3]) (by decide+kernel) (by simp) ?_|refine wpAnyIn_ready (rs:=[4]) (by decide+kernel) (by simp) ?_|refine wpAnyIn_ready (rs:=[5]) (by decide+kernel) (by simp) ?_|refine wpAnyIn_ready (rs:=[6]) (by decide+kernel) (by simp) ?_
   repeat' (first|exact AllReadyIn.nil|refine AllReadyIn.cons rfl (fun K C=> ?_) ?_)
   all_goals (
    go_simp
    first|refine C _ _ ?_|(refine wM (T.out.mono ?_);rintro e w' ⟨rfl,rfl⟩;refine C _ _ ?_)|(refine Jp (R.out.mono ?_);rintro e W3 ⟨rfl,P⟩;have Q:=ae (HE.out _ P);clear P;refine C _ _ ?_)
    clear C K)))
  all_goals (
   refine wpAnyIn_done (by kernel_rfl) ?_ _;gi_wp2;exact Q.out)
 case done=>
  intro D S W B hD al Z hf hs;have H:=B.1;clear B r b v a;gi_wp2;refine ⟨by simp,.inl ⟨_,_,rfl,run_takeDeferred hD,?_⟩⟩;refine ⟨_,results_none rfl _ _ _,⟨_,rfl⟩,S,?_⟩;exact N.out _ _ _ _ (fun k=>k=D) H ((Kb _ W).putObj _ _ (.inl rfl)) (fun k Y=>by subst Y;exact ⟨by have:=z.out.2.1;have:=t.size;omega,Z⟩)
end
end
section
open Go.RowKit Go.Shelf
theorem C0:∀w,(Go.sizeOf 34).run prog w= .ok 1 w:=fun w=>Tryz.sizeOf34 w
theorem wK{w:World}{b g n:Nat}{ws:List Nat}(h:cP w b g n ws)(c:Nat):Calls prog 246 #[.slice (some g) ws.length c] w fun e w'=>∃g' c' rest,e= .returned (.slice (some ⟨g',0,none⟩) ws.length c')/\ws.length<=c'/\ay w' g' (eK ws++rest) 34/\w.heap.size<=g'/\J7 w w':=by
 obtain ⟨y,r,f,i,k⟩:=info_parts oD;have C:=h.len;have D:=h.small;have A:=h.one;refine (Tryz.slices_Clone_f246 y (.int .u64 0) 1 8 r f i k rfl (by decide) C0 g 0 ws.length c (eK ws) w (by unfold eK;simp) (by unfold maxLen;omega) (by omega) ?_ ?_).mono ?_
 ·intro j u d;unfold eK at d;rw [aR] at d
  cases hx:ws[j]? with
  |none=>grind
  |some x=>
   rw [hx] at d
   cases d
   have:=h.at hx
   grind
 ·intro u o;unfold eK at o;obtain ⟨x,_,rfl⟩:=bw.1 o;rfl
 ·rintro e w' ⟨E,rfl,⟨m,v⟩,t,p⟩;rcases v with ⟨_,z⟩|⟨g',cap,cur,rfl,hg,B,s,l,q,a⟩
  ·omega
  ·refine ⟨g',cap,cur.toList.drop ws.length,rfl,s,?_,hg,Fr.Yr p⟩;unfold ay;rw [fu] at a;have:cur=(eK ws++cur.toList.drop ws.length).toArray:=by
    grind
   grind
theorem EX{w w1 W:World}{b g g' n c':Nat}{ws:List Nat}{rest:List Value}(h:cP w b g n ws)(d:ws.length<=c')(a:ay w1 g' (eK ws++rest) 34)(hg:w.heap.size<=g')(hf:J7 w w1)
  (c:W=w1.alloc (.cells #[.slice (some g') ws.length c',(n:Int)] 264)):cP W w1.heap.size g' n ws/\w.heap.size<=w1.heap.size/\w.heap.size<=g'/\J7 w W:=by
 subst c;have:=a.lt;exact ⟨⟨⟨c',d,ay.new w1 _ _⟩,⟨rest,a.alloc _⟩,by omega,h.len,h.lt,h.one,h.small,h.off⟩,hf.size,hg,hf.alloc _⟩
theorem AO{w:World}{b g n:Nat}{ws:List Nat}(h:cP w b g n ws):Calls prog 235 #[b] w fun e w'=>∃s g',e= .returned (.pointer (some ⟨s,0,none⟩))/\cP w' s g' n ws/\w.heap.size<=s/\w.heap.size<=g'/\J7 w w':=by
 obtain ⟨C,x,A⟩:=h.drew.c0;have c1:=h.drew.c1;have m:=ae (wK h.drew C);have f:=ae (fun w1 W g' c' rest l j hg hf y=>EX (w1:=w1) (W:=W) (g':=g') (c':=c') (rest:=rest) h.drew l j hg hf y);have o:=ae (fun w' (hf:J7 w.drew w')=>(h.drew.frame hf id id).c1);have c:=ae (((Kb (fun _=>False) w).drew));generalize ws.length=k at*;clear h x
 go_enter func235,ntmps235
 go_wp2;refine wp_region_any (by kernel_rfl) ?_;change wpAny _ _ _ _ _ _ _ (World.drew _);generalize z:w.drew=wd at*;refine Ka 0 b rfl (by kernel_rfl) (fun _ _ _ h=>h) (ej ⟨by rfl,fun w=>by go_simp⟩) ?_;refine Ka 1 b rfl (by kernel_rfl) (fun _ _ _ h=>h) (ej ⟨by rfl,fun w=>by go_simp⟩) ?_;refine Ka 2 b rfl (by kernel_rfl) (fun _ _ _ h=>h) (ej ⟨by rfl,fun w=>by go_simp⟩) ?_;refine Ka 5 b rfl (by kernel_rfl) (fun _ _ _ h=>h) (ej ⟨by rfl,fun w=>by go_simp⟩) ?_;refine Ka 6 b rfl (by kernel_rfl) (fun _ _ _ h=>h) (ej ⟨by rfl,fun w=>by go_simp⟩) ?_;refine Ka 7 (.pointer (some ⟨b,1,none⟩)) rfl (by kernel_rfl) (fun _ _ _ h=>h) (ej ⟨by rfl,fun w=>by go_simp⟩) ?_;simp only [Act.put];refine wpAny_ready (rs:=[3,8]) (by kernel_rfl) (by simp) ?_;refine AllReady.cons rfl (fun K a=> ?_) (AllReady.cons rfl (fun K a=> ?_) AllReady.nil)
 ·go_simp;refine a _ _ ?_;clear a K;refine wpAny_ready (rs:=[4,8]) (by kernel_rfl) (by simp) ?_;refine AllReady.cons rfl (fun K a=> ?_) (AllReady.cons rfl (fun K a=> ?_) AllReady.nil)
  ·go_simp;refine m.out.mono ?_;rintro e w1 ⟨g',c',rest,rfl,l,j,hg,hf⟩;have p:=o.out _ hf;have d:=ae (af l (af j (af hg hf)));clear l j hg hf m o;refine a _ _ ?_;clear a K;refine J9 8 (by kernel_rfl) rfl fun K a=> ?_;go_simp;refine a _ _ ?_;clear a K;refine J9 9 (by kernel_rfl) rfl fun K a=> ?_;go_simp;refine a _ _ ?_;clear a K;refine J9 10 (by kernel_rfl) rfl fun K a=> ?_;go_simp;refine a _ _ ?_;clear a K;refine J9 11 (by kernel_rfl) rfl fun K a=> ?_;go_simp;refine a _ _ ?_;clear a K;refine wpAny_done (by kernel_rfl) ?_ _;go_wp2;go_ret;obtain ⟨q,t,u,r⟩:=f.out _ _ _ _ _ d.out.1 d.out.2.1 d.out.2.2.1 d.out.2.2.2 rfl;exact ⟨_,_,rfl,q,by have:=c.out.size;omega,by have:=c.out.size;omega,c.out.trans r (fun _ h=> .inl h)⟩
  ·go_simp;refine a _ _ ?_;clear a K;refine J9 4 (by kernel_rfl) rfl fun K a=> ?_;go_simp;refine m.out.mono ?_;rintro e w1 ⟨g',c',rest,rfl,l,j,hg,hf⟩;have p:=o.out _ hf;have d:=ae (af l (af j (af hg hf)));clear l j hg hf m o;refine a _ _ ?_;clear a K;refine J9 9 (by kernel_rfl) rfl fun K a=> ?_;go_simp;refine a _ _ ?_;clear a K;refine J9 10 (by kernel_rfl) rfl fun K a=> ?_;go_simp;refine a _ _ ?_;clear a K;refine J9 11 (by kernel_rfl) rfl fun K a=> ?_;go_simp;refine a _ _ ?_;clear a K;refine wpAny_done (by kernel_rfl) ?_ _;go_wp2;go_ret;obtain ⟨q,t,u,r⟩:=f.out _ _ _ _ _ d.out.1 d.out.2.1 d.out.2.2.1 d.out.2.2.2 rfl;exact ⟨_,_,rfl,q,by have:=c.out.size;omega,by have:=c.out.size;omega,c.out.trans r (fun _ h=> .inl h)⟩
 ·go_simp;refine a _ _ ?_;clear a K;refine J9 3 (by kernel_rfl) rfl fun K a=> ?_;go_simp;refine a _ _ ?_;clear a K;refine J9 4 (by kernel_rfl) rfl fun K a=> ?_;go_simp;refine m.out.mono ?_;rintro e w1 ⟨g',c',rest,rfl,l,j,hg,hf⟩;have p:=o.out _ hf;have d:=ae (af l (af j (af hg hf)));clear l j hg hf m o;refine a _ _ ?_;clear a K;refine J9 9 (by kernel_rfl) rfl fun K a=> ?_;go_simp;refine a _ _ ?_;clear a K;refine J9 10 (by kernel_rfl) rfl fun K a=> ?_;go_simp;refine a _ _ ?_;clear a K;refine J9 11 (by kernel_rfl) rfl fun K a=> ?_;go_simp;refine a _ _ ?_;clear a K;refine wpAny_done (by kernel_rfl) ?_ _;go_wp2;go_ret;obtain ⟨q,t,u,r⟩:=f.out _ _ _ _ _ d.out.1 d.out.2.1 d.out.2.2.1 d.out.2.2.2 rfl;exact ⟨_,_,rfl,q,by have:=c.out.size;omega,by have:=c.out.size;omega,c.out.trans r (fun _ h=> .inl h)⟩
end
theorem jE:(prog.info? 3).map (fun i=>(i.zero,i.size,i.bytes))=some (some (.int .i64 0),1,8):=by kernel_rfl
def uP(w:World)(T:TypeId)(b:Nat)(v:Value)(xs:List Int)(Rm Hg:Int)(lost:Bool):Prop:=
 ay w b [v,(Rm:Int),(Hg:Int),.bool lost] T/\w.ownsRow 0 3 1 v xs.length (xs.map (.int .i64))/\v.ownBlock≠some b
theorem fJ{w:World}{e:TypeId}{v:Value}{n:Nat}{xs:List Value}(h:w.ownsRow 0 e 1 v n xs):∃p cap,v= .slice p n cap:=by
 rcases h.2 with ⟨rfl,rfl⟩|⟨g,cap,cur,rfl,_⟩
 ·grind
 grind
theorem Is(Rm:Int)(w:World)(a:1<=Rm)(b:Rm<=4096):
  Calls prog 171 #[(Rm:Int)] w fun e w'=>e= .returned (.tuple #[w.heap.size,(0:Int)])/\w'=w.alloc (.cells #[.slice none 0 0,(Rm:Int),(0:Int),.bool false] 266):=by
 go_enter func171,ntmps171
 go_wp2;go_ret2;exact ⟨rfl,rfl⟩
theorem A6(b:Nat)(v:Value)(xs:List Int)(Rm Hg a:Int)(lost:Bool)(w:World)(h:uP w 266 b v xs Rm Hg lost)(m:Rm<=xs.length):
  Calls prog 228 #[b,(a:Int)] w fun e w'=>e= .returned (.bool false)/\uP w' 266 b v xs Rm Hg true/\Fr (fun k=>k=b) w w':=by
 obtain ⟨c,f,d⟩:=h;obtain ⟨p,cap,rfl⟩:=fJ f;obtain ⟨i,c1,_,j,_⟩:=Kd c;have l:=c.free 3
 go_enter func228,ntmps228
 go_wp2
 go_quiet (fail)
 go_wp2;go_ret;have hf:Fr (fun k=>k=b) w ((w.drewN nq).setCell ⟨b,3,none⟩ (.bool true)):=((Kb (fun k=>k=b) w).drewN _).setCell _ (.inl rfl) _;exact ⟨rfl,⟨(c.drewN nq).set 3 _,aF f hf (fun k g e=>d (by rw [g,e])),d⟩,hf⟩
theorem A5(b:Nat)(v:Value)(xs:List Int)(Rm Hg a:Int)(lost:Bool)(w:World)(h:uP w 266 b v xs Rm Hg lost)(L:xs.length<Rm)(K:Rm<=4096):
  Calls prog 228 #[b,(a:Int)] w fun e w'=>e= .returned (.bool true)/\∃C,uP w' 266 b C (xs++[a]) Rm (max Hg (xs.length+1)) lost/\
   Fr (fun k=>k=b\/v.ownBlock=some k) w w'/\(∀k,C.ownBlock=some k->v.ownBlock=some k\/w.heap.size<=k):=by
 obtain ⟨o,B,n⟩:=h;obtain ⟨p,cap,rfl⟩:=fJ B;obtain ⟨E,s,y,z,A⟩:=info_parts jE;obtain ⟨F,c1,_⟩:=Ke o;have D:=o.lt
 go_enter func228,ntmps228
 go_wp2
 go_quiet (fail)
 go_wp2_with (at_builtin;refine Hid.out ?_)
 unfold Hid;have f:J7 w (((w.alloc (.cells #[(a:Int)] 3))).drewN nq):=((Kb (fun _=>False) w).alloc _).drewN nq;refine eJ rfl _ _ 65 rfl 3 E (.int .i64 0) 8 underlying65 s y z A rfl (.slice p xs.length cap) xs.length (xs.map (.int .i64)) rfl (aF B f (fun _ _ h=>h)) ⟨w.heap.size,0,none⟩ _ (.int .i64 a) rfl (((ay.new w [(a:Int)] 3).drewN nq).cell 0 rfl) rfl (by unfold maxLen;omega) (by omega) ?_;intro g c w1 t j l;have d:=(o.frame f id).frame j n;obtain ⟨G,_,H,_⟩:=Kf d;have I:=d.free 0;have J:=d.free 2;go_wp2;refine qh 13 (by kernel_rfl) (by kernel_rfl) ?_;simp only [Kc]
 repeat still_step
 refine wpStill_nil ?_;go_wp2
 all_goals
  go_ret;have r:∀x,Fr (fun k=>k=b\/(Value.slice p xs.length cap).ownBlock=some k) w (((w1.setCell b (.slice (some g) (xs.length+1) c)).setCell ⟨b,2,none⟩ (.int .i64 x)).drew):=fun x=>
   ((((f.mono J8).trans j (fun i s=> .inl (.inr s))).setCell b (.inl (.inl rfl)) _).setCell ⟨b,2,none⟩ (.inl (.inl rfl)) _).drew
  have m:g≠b:=by
   rcases l with h|h
   ·intro e;exact n (by rw [h,e])
   ·intro e;simp at h;omega
  have u:∀x,(((w1.setCell b (.slice (some g) (xs.length+1) c)).setCell ⟨b,2,none⟩ (.int .i64 x)).drew).ownsRow 0 3 1 (.slice (some g) (xs.length+1) c) (xs++[a]).length ((xs++[a]).map (.int .i64)):=fun x=>by
   have hf:Fr (fun k=>k=b) w1 (((w1.setCell b (.slice (some g) (xs.length+1) c)).setCell ⟨b,2,none⟩ (.int .i64 x)).drew):=
    (((Kb (fun k=>k=b) w1).setCell b (.inl rfl) _).setCell ⟨b,2,none⟩ (.inl rfl) _).drew
   have:=aF t hf (fun k q e=>m (by simp [Value.ownBlock] at q;omega))
   simpa using this
  refine ⟨rfl,.slice (some g) (xs.length+1) c,⟨?_,u _,by simp [Value.ownBlock,m]⟩,r _,?_⟩
  ·have:=((d.set 0 (.slice (some g) (xs.length+1) c)).set 2 (.int .i64 (max Hg (xs.length+1)))).drew
   first
    |exact this
    |(rw [show max Hg ((xs.length:Int)+1)=(xs.length:Int)+1 by omega] at this ⊢;exact this)
    |(rw [show max Hg ((xs.length:Int)+1)=Hg by omega] at this ⊢;exact this)
  ·intro k q;simp only [Value.ownBlock,aT] at q;subst q;rcases l with h|h
   ·exact .inl h
   ·exact .inr (by simp at h;omega)
theorem vT(b:Nat)(v:Value)(xs:List Int)(Rm Hg:Int)(lost:Bool)(w:World)(h:uP w 266 b v xs Rm Hg lost):
  Calls prog 242 #[b] w fun e w'=>e= .returned (xs.length:Int)/\w=w':=by
 obtain ⟨a,d,c⟩:=h;obtain ⟨p,cap,rfl⟩:=fJ d;have f:=a.cell 0 rfl
 go_enter func242,ntmps242
 go_wp2;go_ret;exact ⟨rfl,rfl⟩
theorem Ji(b:Nat)(v:Value)(xs:List Int)(Rm Hg:Int)(lost:Bool)(w:World)(h:uP w 266 b v xs Rm Hg lost)(m:Int)(a:(xs.length:Int)=m):
  Calls prog 242 #[b] w fun e w'=>e= .returned (m:Int)/\w=w':=by
 grind [vT]
theorem Bx(b:Nat)(v:Value)(xs:List Int)(Rm Hg:Int)(lost:Bool)(w:World)(h:uP w 266 b v xs Rm Hg lost):
  Calls prog 201 #[b] w fun e w'=>e= .returned (.bool lost)/\w=w':=by
 obtain ⟨a,f,c⟩:=h;have d:=a.cell 3 rfl
 go_enter func201,ntmps201
 go_wp2;go_ret;exact ⟨rfl,rfl⟩
theorem yG(b:Nat)(v:Value)(xs:List Int)(Rm Hg:Int)(lost:Bool)(w:World)(h:uP w 266 b v xs Rm Hg lost):
  Calls prog 202 #[b] w fun e w'=>e= .returned (.tuple #[])/\uP w' 266 b v xs Rm Hg false/\Fr (fun k=>k=b) w w':=by
 obtain ⟨c,f,a⟩:=h;have g:=c.cell 3 rfl;have i:=c.free 3
 go_enter func202,ntmps202
 go_wp2;go_end0;have hf:Fr (fun k=>k=b) w (w.setCell ⟨b,3,none⟩ (.bool false)):=(Kb (fun k=>k=b) w).setCell _ (.inl rfl) _;exact ⟨rfl,⟨c.set 3 _,aF f hf (fun k d e=>a (by rw [d,e])),a⟩,hf⟩
theorem Dn(b:Nat)(v:Value)(Rm Hg:Int)(lost:Bool)(w:World)(h:uP w 266 b v [] Rm Hg lost):
  Calls prog 229 #[b] w fun e w'=>e= .returned (.tuple #[(0:Int),.bool false])/\w=w':=by
 go_enter func229,ntmps229
 go_wp2_with (go_at_call 242;refine (vT b v [] Rm Hg lost _ h).mono ?_;rintro e w' ⟨rfl,rfl⟩)
 go_ret2;exact ⟨rfl,rfl⟩
theorem kL{w:World}{e:TypeId}{g n cap:Nat}{xs:List Value}{x:Value}(h:w.ownsRow 0 e 1 (.slice (some g) (n+1) cap) (n+1) (xs++[x])):
  w.ownsRow 0 e 1 (.slice (some g) n cap) n xs/\w.cell? ⟨g,n,none⟩=some x:=by
 have m:=h.1;have i:xs.length=n:=by grind
 rcases h.2 with ⟨h,_⟩|⟨g',d,cur,k,f,hg,j,b,c,a⟩
 ·cases h
 ·cases k
  simp only [fu] at a c;refine ⟨⟨by omega,.inr ⟨g,cap,cur,rfl,f,hg,by omega,b,by omega,?_⟩⟩,?_⟩
  ·have:=congrArg (List.take n) a
   grind
  ·rw [cell_of_row w g n cur e (0,0) hg];have:=congrArg (fun l=>l[n]?) a
   grind
theorem Dm(b:Nat)(v:Value)(xs:List Int)(x Rm Hg:Int)(lost:Bool)(w:World)(h:uP w 266 b v (xs++[x]) Rm Hg lost)(z:xs.length<4096):
  Calls prog 229 #[b] w fun e w'=>e= .returned (.tuple #[(x:Int),.bool true])/\∃m,uP w' 266 b m xs Rm Hg lost/\
   Fr (fun k=>k=b) w w'/\m.ownBlock=v.ownBlock:=by
 have n:=h;obtain ⟨d,c,a⟩:=h;simp only [aU,bG,cB,dd,gD,kY,bq] at c;obtain ⟨g,cap,rfl⟩:∃g cap,v= .slice (some ⟨g,0,none⟩) (xs.length+1) cap:=by
  rcases c.2 with ⟨_,h⟩|⟨g,cap,cur,rfl,_⟩
  ·omega
  ·exact ⟨_,_,rfl⟩
 have i:xs.length+1<=cap/\cap<=maxLen:=by
  rcases c.2 with ⟨h,_⟩|⟨g',l,cur,s,_,_,o,p,_⟩
  ·cases h
  ·cases s;exact ⟨o,p⟩
 obtain ⟨q,f⟩:=i;unfold maxLen at f;obtain ⟨j,u⟩:=kL c;have t:=d.cell 0 rfl;have y:=d.free 0;have hp:0<=(xs.length:Int):=by omega
 have A:((((xs.length:Int)+1)==0)=false):=by rw [beq_eq_false_iff_ne];omega
 go_enter func229,ntmps229
 go_wp2_with (go_at_call 242;refine (Ji b _ _ Rm Hg lost _ n ((xs.length:Int)+1) (by simp)).mono ?_;rintro e w' ⟨rfl,rfl⟩)
 go_ret2;refine ⟨rfl,.slice (some g) xs.length cap,⟨d.set 0 _,?_,a⟩,(Kb (fun k=>k=b) w).setCell b (.inl rfl) _,rfl⟩;exact aF j ((Kb (fun k=>k=b) w).setCell b (.inl rfl) _) (fun k r e=>a (by subst e;exact r))
section
open Go.RowKit Go.Shelf
structure eU(w:World)(x b gb:Nat)(v:Value)(n k i:Nat)(f:Nat->Bool):Prop where
 Qd:ay w x [b,v,(k:Int),(((Qc f 0 (min (i*k) n):Nat):Int):Int)] 280
 vec:∃ws,cP w b gb n ws/\∀j,aZ ws j=f j
 row:w.ownsRow 0 3 1 v i ((List.range i).map fun j=> .int .i64 ((Qc f 0 (j*k):Nat):Int))
 d1:v.ownBlock≠some x
 d2:v.ownBlock≠some b
 d3:v.ownBlock≠some gb
 d4:x≠b
 d5:x≠gb
def eU.from(lo x b gb:Nat)(v:Value):Prop:=lo<=x/\lo<=b/\lo<=gb/\∀g,v.ownBlock=some g->lo<=g
theorem eU.frame{S:Nat->Prop}{w w':World}{x b gb n k i:Nat}{v:Value}{f:Nat->Bool}(h:eU w x b gb v n k i f)(hf:Fr S w w')(a:¬S x)(c:¬S b)(d:¬S gb)(e:∀g,v.ownBlock=some g->¬S g):eU w' x b gb v n k i f:=
 ⟨h.Qd.frame hf a,let ⟨ws,j,l⟩:=h.vec;⟨ws,j.frame hf c d,l⟩,aF h.row hf e,h.d1,h.d2,h.d3,h.d4,h.d5⟩
theorem De{w w1 w2:World}{x b gb g cap n k i lo:Nat}{v:Value}{f:Nat->Bool}(h:eU w x b gb v n k i f)(m:eU.from lo x b gb v)(D:lo<=w.heap.size)(C:i*k<=n)
  (a:J7 w w1) (J:w2.ownsRow 0 3 1 (.slice (some g) (i+1) cap) (i+1) (((List.range i).map fun j=>Value.int .i64 ((Qc f 0 (j*k):Nat):Int))++[.int .i64 ((Qc f 0 (min (i*k) n):Nat):Int)]))
  (l:Fr (fun k=>v.ownBlock=some k) w1 w2) (hg:v.ownBlock=some g\/w1.heap.size<=g):
  (∃u,w2.cell? ⟨x,1,none⟩=some u)/\w2.frozen? ⟨x,1,none⟩=false/\∀W,W=w2.setCell ⟨x,1,none⟩ (.slice (some g) (i+1) cap)->
   eU.from lo x b gb (.slice (some g) (i+1) cap)/\Fr (fun k=>lo<=k) w W/\
   ay W x [b,.slice (some g) (i+1) cap,(k:Int),(((Qc f 0 (min (i*k) n):Nat):Int):Int)] 280/\
   (∃ws,cP W b gb n ws/\∀j,aZ ws j=f j)/\W.ownsRow 0 3 1 (.slice (some g) (i+1) cap) (i+1) ((List.range (i+1)).map fun j=> .int .i64 ((Qc f 0 (j*k):Nat):Int))/\g≠x/\g≠b/\g≠gb:=by
 obtain ⟨F,G,H,I⟩:=m;have p:=h.Qd.frame a id;have c:=p.frame l h.d1;obtain ⟨ws,r,d⟩:=h.vec;have s:=(r.frame a id id).frame l h.d2 h.d3;have E:=a.size;have K:=h.Qd.lt;have y:=r.blt;have A:=r.Ze;have B:lo<=g:=by
  grind
 have q:g≠x/\g≠b/\g≠gb:=by
  rcases hg with hg|hg
  ·exact ⟨fun e=>h.d1 (by grind),fun e=>h.d2 (by grind),fun e=>h.d3 (by grind)⟩
  omega
 refine ⟨⟨_,c.cell 1 rfl⟩,c.free 1,?_⟩;rintro W rfl;have o:Fr (fun k=>k=x) w2 (w2.setCell ⟨x,1,none⟩ (.slice (some g) (i+1) cap)):=(Kb (fun k=>k=x) w2).setCell ⟨x,1,none⟩ (.inl rfl) _;refine ⟨⟨F,G,H,fun g' z=>by grind [Value.ownBlock]⟩,?_,c.set 1 _,⟨ws,s.frame o (fun e=>h.d4 e.symm) (fun e=>h.d5 e.symm),d⟩,?_,q⟩
 ·exact ((a.mono (S':=fun k=>lo<=k) J8).trans l (fun k t=> .inl (I k t))).trans o (fun k t=> .inl (by omega))
 grind [aF,Value.ownBlock,List.range_succ]
theorem xI{w w1 W:World}{b gb n k:Nat}{f:Nat->Bool}{ws:List Nat}(hf:J7 w w1)(c:cP w1 b gb n ws)(a:∀j,aZ ws j=f j)(d:w.heap.size<=b)(e:w.heap.size<=gb)(i:W=w1.alloc (.cells #[b,.slice none 0 0,(k:Int),(0:Int)] 280)):
  eU W w1.heap.size b gb (.slice none 0 0) n k 0 f/\eU.from w.heap.size w1.heap.size b gb (.slice none 0 0)/\Fr (fun j=>w.heap.size<=j) w W:=by
 subst i;have:=c.blt;have:=c.Ze;refine ⟨⟨?_,⟨ws,c.frame (S:=fun _=>False) ((Kb _ w1).alloc _) id id,a⟩,World.ownsRow_nil _ _ _ _,by simp [Value.ownBlock],by simp [Value.ownBlock],by simp [Value.ownBlock],by omega,by omega⟩,⟨hf.size,d,e,fun g h=>by grind [Value.ownBlock]⟩,(hf.alloc _).mono J8⟩;simp_all [eL,ay.new]
theorem py{w w1 W:World}{x b gb g n k i lo F N C:Nat}{cap:Nat}{f:Nat->Bool}(o:F=i*k)(p:F<=n)(q:N=Qc f 0 F)(m:C=Qc f F (min (F+k) n))(s:ay w x [b,.slice (some g) (i+1) cap,(k:Int),(N:Int)] 280)
  (v:∃ws,cP w b gb n ws/\∀j,aZ ws j=f j) (u:w.ownsRow 0 3 1 (.slice (some g) (i+1) cap) (i+1) ((List.range (i+1)).map fun j=> .int .i64 ((Qc f 0 (j*k):Nat):Int))) (hg:g≠x/\g≠b/\g≠gb) (c:x≠b) (d:x≠gb) (t:lo<=x) (D:lo<=w.heap.size)
  (hf:J7 w w1) (r:W=w1.setCell ⟨x,3,none⟩ (.int .i64 ((N:Int)+(C:Int)))):eU W x b gb (.slice (some g) (i+1) cap) n k (i+1) f/\Fr (fun j=>lo<=j) w W:=by
 subst r;have l:=s.frame hf id;obtain ⟨ws,y,z⟩:=v;have a:Fr (fun k=>k=x) w1 (w1.setCell ⟨x,3,none⟩ (.int .i64 ((N:Int)+(C:Int)))):=(Kb (fun k=>k=x) w1).setCell ⟨x,3,none⟩ (.inl rfl) _;refine ⟨⟨?_,⟨ws,(y.frame hf id id).frame a (fun e=>c e.symm) (fun e=>d e.symm),z⟩,aF (aF u hf (fun _ _ h=>h)) a (fun k B e=>by grind [Value.ownBlock]),
  by simp_all [Value.ownBlock],by simp_all [Value.ownBlock],by simp_all [Value.ownBlock],c,d⟩,(hf.mono (S':=fun j=>lo<=j) J8).trans a (fun i A=> .inl (by omega))⟩
 have:=l.set 3 (.int .i64 ((N:Int)+(C:Int)));have e:Qc f 0 (min ((i+1)*k) n)=N+C:=by
  rw [q,m,dh,<-o,bp f (ao F) (show F<=min (F+k) n by omega)]
 grind
theorem fM(f:Nat->Bool)(a:Nat):Qc f 0 a<=a:=by grind [dA]
theorem FG{w:World}{b0 g0 n k:Nat}{ws:List Nat}(h:cP w b0 g0 n ws)(hk:bV (k:Int)=true)(bd:1<=k)(be:k<=1024):Calls prog 216 #[b0,(k:Int)] w fun e w'=>∃x b gb v nb,e= .returned (.tuple #[.pointer (some ⟨x,0,none⟩),(0:Int)])/\eU w' x b gb v n k nb (aZ ws)/\n<=nb*k/\(nb-1)*k<n/\1<=nb/\eU.from w.heap.size x b gb v/\J7 w w':=by
 obtain ⟨i0,hi,ap,aq,ar⟩:=info_parts jE;have az:=ae (fun w' (hf:Fr (fun j=>w.heap.size<=j) w w')=>(lF (h.frame hf (by have:=h.blt;omega) (by have:=h.Ze;omega))));have av:=ae (lF h);have HP:=ae (jU (k:Int) (by omega) true hk);have HC:=ae (AO h);have bk:=h.small;have h1:=h.one;have aY:((n:Int)==0)=false:=by rw [beq_eq_false_iff_ne];omega
 have bj:(n:Int)<=1048576:=by omega
 have bg:(k:Int)<=1024:=by omega
 have bc:(1:Int)<=(k:Int):=by omega
 have aT:=ae (fun w' (hf:Fr (fun j=>w.heap.size<=j) w w') (F:Nat) (hF:F<=n)=>(qR (h.frame hf (by have:=h.blt;omega) (by have:=h.Ze;omega)) (F:=F) (T:=min (F+k) n) (by omega) (by omega) ((F:Int)+(k:Int)) (by omega)));have aC:=ae (fun w1 W b gb a0 hf hv aj h1 h2 M=>xI (w:=w) (w1:=w1) (W:=W) (b:=b) (gb:=gb) (n:=n) (k:=k) (f:=aZ ws) (ws:=a0) hf hv aj h1 h2 M);have a7:=ae hk;generalize aP:aZ ws=f at*;have HB:=ae (congrFun aP);have aX:decide ((1024:Int)<(k:Int))=false:=decide_eq_false (by omega);clear h hk aP
 go_enter func216,ntmps216
 go_wp2_with fail
 refine av.out.mono ?_;rintro e w' ⟨rfl,rfl⟩;go_wp2_with fail
 refine (HP.out _).mono ?_;rintro e w' ⟨rfl,rfl⟩;go_wp2_with fail
 refine HC.out.mono ?_;rintro e w1 ⟨b,gb,rfl,hv,aN,aR,aO⟩;have ag:=ae (fun W M=>aC.out w1 W b gb ws aO hv HB.out aN aR M);clear hv aN aR aO aC HC HP av aY aX;go_wp2
 go_loopw [7] (fun p wr=>∃(F i:Nat) (v:Value),p= .int .i64 F/\F<n+k/\Hid (F=i*k/\(F-k<n)/\(1<=n->(i=0\/(i-1)*k<n))/\eU wr w1.heap.size b gb v n k i f/\eU.from w.heap.size w1.heap.size b gb v/\Fr (fun j=>w.heap.size<=j) w wr)) (fun p _=>(2*1048576-intOf p).toNat)
 case atStart=>exact ⟨0,0,_,rfl,by omega,by rw [d8],by omega,fun _=> .inl rfl,ag.out _ rfl⟩
 case round=>
  clear ag;obtain ⟨F,i,v,rfl,a8,hr⟩:=hrel;have ax:=ae (az.out wr hr.out.2.2.2.2.2);by_cases ao:F<n
  ·have aS:(F:Int)<(n:Int):=by omega
   have ah:=ae (fun w' hf=>aT.out w' hf F (by omega));generalize w1.heap.size=x at*;go_wp2_with fail
   refine ax.out.mono ?_;rintro e w' ⟨rfl,rfl⟩;obtain ⟨aI,_,_,hR,O,am⟩:=hr.out;obtain ⟨p,cap,rfl⟩:=fJ hR.row;have aW:i*k<=n:=by omega
   have bb:i<=i*k:=cF i (by omega);have bi:=am.size;have U:=hR.frame (S:=fun _=>False) ((Kb _ wr).drew) id id id (fun _ _ h=>h);have X:Fr (fun j=>w.heap.size<=j) w wr.drew:=am.drew;obtain ⟨N,hN⟩:∃N,Qc f 0 (min (i*k) n)=N:=⟨_,rfl⟩;have ba:N<=1048576:=by have:=fM f (min (i*k) n);omega
   have a9:(N:Int)<=1048576:=by omega
   have c1:wr.drew.cell? ⟨x,1,none⟩=some (.slice p i cap):=U.Qd.cell 1 rfl;have c3:wr.drew.cell? ⟨x,3,none⟩=some (N:Int):=by rw [<-hN];exact U.Qd.cell 3 rfl
   have e1:∀o,(wr.alloc o).drew.cell? ⟨x,1,none⟩=some (.slice p i cap):=fun o=>(hR.Qd.alloc o).drew.cell 1 rfl
   have e3:∀o,(wr.alloc o).drew.cell? ⟨x,3,none⟩=some (N:Int):=fun o=>by rw [<-hN];exact (hR.Qd.alloc o).drew.cell 3 rfl
   have ak:J7 wr.drew (wr.drew.alloc (.cells #[(N:Int)] 3)):=(Kb _ _).alloc _;have D:=aF U.row ak (fun _ _ h=>h);have B:(wr.drew.alloc (.cells #[(N:Int)] 3)).cell? wr.heap.size=some (N:Int):=(ay.new wr.drew [(N:Int)] 3).cell 0 rfl;have r:=ae (fun w2 g c ho A hg=>De (w2:=w2) (g:=g) (cap:=c) U O X.size aW ak ho A hg);have G:=ae X;have E:=ae (af O (af hR.d4 hR.d5));have q:=ae aI;rw [hN] at r;have HN:=ae hN;have ad:i+1<=maxLen:=by unfold maxLen;omega
   have V:(i+1)*8<=140737488355328:=by omega
   clear hr hR O am U X ak hN aI;go_wp2;refine wp_region_any (by kernel_rfl) ?_;change wpAny _ _ _ _ _ _ _ (World.drew _);refine Ka 0 x rfl (by kernel_rfl) (fun _ _ _ h=>h) (ej ⟨by rfl,fun w=>by go_simp⟩) ?_;refine Ka 1 x rfl (by kernel_rfl) (fun _ _ _ h=>h) (ej ⟨by rfl,fun w=>by go_simp⟩) ?_;refine Ka 2 x rfl (by kernel_rfl) (fun _ _ _ h=>h) (ej ⟨by rfl,fun w=>by go_simp⟩) ?_;refine Ka 3 (.pointer (some ⟨x,1,none⟩)) rfl (by kernel_rfl) (fun _ _ _ h=>h) (ej ⟨by rfl,fun w=>by go_simp⟩) ?_;refine Ka 5 x rfl (by kernel_rfl) (fun _ _ _ h=>h) (ej ⟨by rfl,fun w=>by go_simp⟩) ?_;refine Ka 6 x rfl (by kernel_rfl) (fun _ _ _ h=>h) (ej ⟨by rfl,fun w=>by go_simp⟩) ?_;refine Ka 7 (.pointer (some ⟨x,3,none⟩)) rfl (by kernel_rfl) (fun _ _ _ h=>h) (ej ⟨by rfl,fun w=>by go_simp⟩) ?_;simp only [Act.put];refine wpAny_ready (rs:=[4,8]) (by kernel_rfl) (by simp) ?_;refine AllReady.cons rfl (fun K a=> ?_) (AllReady.cons rfl (fun K a=> ?_) AllReady.nil)
   ·go_simp;refine a _ _ ?_;clear a K;refine J9 8 (by kernel_rfl) rfl fun K a=> ?_;go_simp;refine a _ _ ?_;clear a K;refine J9 9 (by kernel_rfl) rfl fun K a=> ?_;go_simp;refine a _ _ ?_;clear a K;refine J9 10 (by kernel_rfl) rfl fun K a=> ?_;refine jg rfl _ _ 65 rfl 3 i0 (.int .i64 0) 8 underlying65 hi ap aq ar rfl (.slice p i cap) i _ rfl D ⟨wr.heap.size,0,none⟩ _ (.int .i64 N) rfl B rfl ad V ?_;intro g c w2 L A J;obtain ⟨⟨u,hu⟩,Y,hA⟩:=r.out w2 g c L A J;have HA:=ae hA;clear L A J hA r e1 e3 c1 c3 D B;refine a _ _ ?_;clear a K;refine J9 11 (by kernel_rfl) rfl fun K a=> ?_;go_simp;refine a _ _ ?_;clear a K;refine J9 12 (by kernel_rfl) rfl fun K a=> ?_;go_simp;refine a _ _ ?_;clear a K;refine J9 13 (by kernel_rfl) rfl fun K a=> ?_;go_simp;refine a _ _ ?_;clear a K;refine wpAny_done (by kernel_rfl) ?_ _;go_wp2;obtain ⟨m,y⟩:∃m,w2.setCell ⟨x,1,none⟩ (.slice (some g) (i+1) c)=m:=⟨_,rfl⟩;rw [y];obtain ⟨a1,P,Q,a4,a5,a6⟩:=HA.out m y.symm;clear hu Y y HA;have Z:=(G.out.trans P (fun _ h=> .inl h)).size;have t:=ae (fun w' (hf:J7 m.drew w')=>(af ((Q.drew.frame hf id).cell 3 rfl) ((Q.drew.frame hf id).free 3)));have s:=ae (fun w' (hf:J7 m.drew w')=>ah.out w' ((G.out.trans (P.drew) (fun _ h=> .inl h)).trans hf J8));obtain ⟨C,R⟩:∃C,Qc f F (min (F+k) n)=C:=⟨_,rfl⟩;have aH:C<=1048576:=by have:=dA f F (min (F+k) n);omega
    have aG:(C:Int)<=1048576:=by omega
    have H:=ae (fun w4 W hf M=>py (w:=m) (w1:=w4) (W:=W) (lo:=w.heap.size) (N:=N) (C:=C) (F:=F) (n:=n) (f:=f) q.out (by omega) (by rw [<-HN.out,<-q.out];congr 1;omega) R.symm Q a4 a5 a6 E.out.2.1 E.out.2.2 E.out.1.1 Z (((Kb (fun _=>False) m).drew).trans hf (fun _ h=> .inl h)) M);have I:=ae (af (G.out.trans P (fun _ h=> .inl h)) a1);rw [R] at s;clear a1 P Q a4 a5 a6 R;refine bz (fun w'=>J7 m.drew w') 10 (by kernel_rfl) (Kb _ _) ?_;simp only [Kc];refine aL [x,x,.pointer (some ⟨x,3,none⟩),(N:Int),b0,(F:Int),(F:Int),(k:Int)] ?_
    iterate 8 (refine aM rfl (fun w9 h9=>by first|(go_simp;done)|(have d:=(t.out _ h9).1;go_simp)) ?_;simp only [aa])
    refine aK ?_;refine ai (.int .i64 ((F:Int)+(k:Int))) rfl (fun w hw=>by go_simp;rw [IntKind.wrap_i64];omega) ?_;simp only [aa];refine bf (.int .i64 C) 236 #[b0,(F:Int),(((F:Int)+(k:Int)):Int)] rfl (fun w=>by go_simp) (fun w hw=>(s.out w hw).mono fun e w' h=>⟨h.1,hw.trans h.2 J8⟩) ?_;simp only [aa];refine wpQuiet_nil ?_;intro w4 z;obtain ⟨d1,d2⟩:=t.out w4 z;have l:=ae (fun W M=>H.out w4 W z M);clear z t s H;go_wp2;go_roundw
    case rel=>exact ⟨F+k,i+1,_,by go_num,by omega,⟨by rw [q.out,dh],by omega,fun _=> .inr (by rw [gV,<-q.out];exact ao),(l.out _ rfl).1,I.out.2,I.out.1.trans (l.out _ rfl).2 (fun _ h=> .inl h)⟩⟩
    case measure=>simp [intOf];omega
   ·go_simp;refine a _ _ ?_;clear a K;refine wpAny_ready (rs:=[4,9]) (by kernel_rfl) (by simp) ?_;refine AllReady.cons rfl (fun K a=> ?_) (AllReady.cons rfl (fun K a=> ?_) AllReady.nil)
    ·go_simp;refine a _ _ ?_;clear a K;refine J9 9 (by kernel_rfl) rfl fun K a=> ?_;go_simp;refine a _ _ ?_;clear a K;refine J9 10 (by kernel_rfl) rfl fun K a=> ?_;refine jg rfl _ _ 65 rfl 3 i0 (.int .i64 0) 8 underlying65 hi ap aq ar rfl (.slice p i cap) i _ rfl D ⟨wr.heap.size,0,none⟩ _ (.int .i64 N) rfl B rfl ad V ?_;intro g c w2 L A J;obtain ⟨⟨u,hu⟩,Y,hA⟩:=r.out w2 g c L A J;have HA:=ae hA;clear L A J hA r e1 e3 c1 c3 D B;refine a _ _ ?_;clear a K;refine J9 11 (by kernel_rfl) rfl fun K a=> ?_;go_simp;refine a _ _ ?_;clear a K;refine J9 12 (by kernel_rfl) rfl fun K a=> ?_;go_simp;refine a _ _ ?_;clear a K;refine J9 13 (by kernel_rfl) rfl fun K a=> ?_;go_simp;refine a _ _ ?_;clear a K;refine wpAny_done (by kernel_rfl) ?_ _;go_wp2;obtain ⟨m,y⟩:∃m,w2.setCell ⟨x,1,none⟩ (.slice (some g) (i+1) c)=m:=⟨_,rfl⟩;rw [y];obtain ⟨a1,P,Q,a4,a5,a6⟩:=HA.out m y.symm;clear hu Y y HA;have Z:=(G.out.trans P (fun _ h=> .inl h)).size;have t:=ae (fun w' (hf:J7 m.drew w')=>(af ((Q.drew.frame hf id).cell 3 rfl) ((Q.drew.frame hf id).free 3)));have s:=ae (fun w' (hf:J7 m.drew w')=>ah.out w' ((G.out.trans (P.drew) (fun _ h=> .inl h)).trans hf J8));obtain ⟨C,R⟩:∃C,Qc f F (min (F+k) n)=C:=⟨_,rfl⟩;have aH:C<=1048576:=by have:=dA f F (min (F+k) n);omega
     have aG:(C:Int)<=1048576:=by omega
     have H:=ae (fun w4 W hf M=>py (w:=m) (w1:=w4) (W:=W) (lo:=w.heap.size) (N:=N) (C:=C) (F:=F) (n:=n) (f:=f) q.out (by omega) (by rw [<-HN.out,<-q.out];congr 1;omega) R.symm Q a4 a5 a6 E.out.2.1 E.out.2.2 E.out.1.1 Z (((Kb (fun _=>False) m).drew).trans hf (fun _ h=> .inl h)) M);have I:=ae (af (G.out.trans P (fun _ h=> .inl h)) a1);rw [R] at s;clear a1 P Q a4 a5 a6 R;refine bz (fun w'=>J7 m.drew w') 10 (by kernel_rfl) (Kb _ _) ?_;simp only [Kc];refine aL [x,x,.pointer (some ⟨x,3,none⟩),(N:Int),b0,(F:Int),(F:Int),(k:Int)] ?_
     iterate 8 (refine aM rfl (fun w9 h9=>by first|(go_simp;done)|(have d:=(t.out _ h9).1;go_simp)) ?_;simp only [aa])
     refine aK ?_;refine ai (.int .i64 ((F:Int)+(k:Int))) rfl (fun w hw=>by go_simp;rw [IntKind.wrap_i64];omega) ?_;simp only [aa];refine bf (.int .i64 C) 236 #[b0,(F:Int),(((F:Int)+(k:Int)):Int)] rfl (fun w=>by go_simp) (fun w hw=>(s.out w hw).mono fun e w' h=>⟨h.1,hw.trans h.2 J8⟩) ?_;simp only [aa];refine wpQuiet_nil ?_;intro w4 z;obtain ⟨d1,d2⟩:=t.out w4 z;have l:=ae (fun W M=>H.out w4 W z M);clear z t s H;go_wp2;go_roundw
     case rel=>exact ⟨F+k,i+1,_,by go_num,by omega,⟨by rw [q.out,dh],by omega,fun _=> .inr (by rw [gV,<-q.out];exact ao),(l.out _ rfl).1,I.out.2,I.out.1.trans (l.out _ rfl).2 (fun _ h=> .inl h)⟩⟩
     case measure=>simp [intOf];omega
    ·go_simp;refine a _ _ ?_;clear a K;refine J9 4 (by kernel_rfl) rfl fun K a=> ?_;go_simp;refine a _ _ ?_;clear a K;refine J9 10 (by kernel_rfl) rfl fun K a=> ?_;refine jg rfl _ _ 65 rfl 3 i0 (.int .i64 0) 8 underlying65 hi ap aq ar rfl (.slice p i cap) i _ rfl D ⟨wr.heap.size,0,none⟩ _ (.int .i64 N) rfl B rfl ad V ?_;intro g c w2 L A J;obtain ⟨⟨u,hu⟩,Y,hA⟩:=r.out w2 g c L A J;have HA:=ae hA;clear L A J hA r e1 e3 c1 c3 D B;refine a _ _ ?_;clear a K;refine J9 11 (by kernel_rfl) rfl fun K a=> ?_;go_simp;refine a _ _ ?_;clear a K;refine J9 12 (by kernel_rfl) rfl fun K a=> ?_;go_simp;refine a _ _ ?_;clear a K;refine J9 13 (by kernel_rfl) rfl fun K a=> ?_;go_simp;refine a _ _ ?_;clear a K;refine wpAny_done (by kernel_rfl) ?_ _;go_wp2;obtain ⟨m,y⟩:∃m,w2.setCell ⟨x,1,none⟩ (.slice (some g) (i+1) c)=m:=⟨_,rfl⟩;rw [y];obtain ⟨a1,P,Q,a4,a5,a6⟩:=HA.out m y.symm;clear hu Y y HA;have Z:=(G.out.trans P (fun _ h=> .inl h)).size;have t:=ae (fun w' (hf:J7 m.drew w')=>(af ((Q.drew.frame hf id).cell 3 rfl) ((Q.drew.frame hf id).free 3)));have s:=ae (fun w' (hf:J7 m.drew w')=>ah.out w' ((G.out.trans (P.drew) (fun _ h=> .inl h)).trans hf J8));obtain ⟨C,R⟩:∃C,Qc f F (min (F+k) n)=C:=⟨_,rfl⟩;have aH:C<=1048576:=by have:=dA f F (min (F+k) n);omega
     have aG:(C:Int)<=1048576:=by omega
     have H:=ae (fun w4 W hf M=>py (w:=m) (w1:=w4) (W:=W) (lo:=w.heap.size) (N:=N) (C:=C) (F:=F) (n:=n) (f:=f) q.out (by omega) (by rw [<-HN.out,<-q.out];congr 1;omega) R.symm Q a4 a5 a6 E.out.2.1 E.out.2.2 E.out.1.1 Z (((Kb (fun _=>False) m).drew).trans hf (fun _ h=> .inl h)) M);have I:=ae (af (G.out.trans P (fun _ h=> .inl h)) a1);rw [R] at s;clear a1 P Q a4 a5 a6 R;refine bz (fun w'=>J7 m.drew w') 10 (by kernel_rfl) (Kb _ _) ?_;simp only [Kc];refine aL [x,x,.pointer (some ⟨x,3,none⟩),(N:Int),b0,(F:Int),(F:Int),(k:Int)] ?_
     iterate 8 (refine aM rfl (fun w9 h9=>by first|(go_simp;done)|(have d:=(t.out _ h9).1;go_simp)) ?_;simp only [aa])
     refine aK ?_;refine ai (.int .i64 ((F:Int)+(k:Int))) rfl (fun w hw=>by go_simp;rw [IntKind.wrap_i64];omega) ?_;simp only [aa];refine bf (.int .i64 C) 236 #[b0,(F:Int),(((F:Int)+(k:Int)):Int)] rfl (fun w=>by go_simp) (fun w hw=>(s.out w hw).mono fun e w' h=>⟨h.1,hw.trans h.2 J8⟩) ?_;simp only [aa];refine wpQuiet_nil ?_;intro w4 z;obtain ⟨d1,d2⟩:=t.out w4 z;have l:=ae (fun W M=>H.out w4 W z M);clear z t s H;go_wp2;go_roundw
     case rel=>exact ⟨F+k,i+1,_,by go_num,by omega,⟨by rw [q.out,dh],by omega,fun _=> .inr (by rw [gV,<-q.out];exact ao),(l.out _ rfl).1,I.out.2,I.out.1.trans (l.out _ rfl).2 (fun _ h=> .inl h)⟩⟩
     case measure=>simp [intOf];omega
  ·have aS:¬(F:Int)<(n:Int):=by omega
   have HR:=ae hr.out;generalize w1.heap.size=x at*;clear hr;go_wp2_with fail
   refine ax.out.mono ?_;rintro e w' ⟨rfl,rfl⟩;go_wp2;go_ret2;obtain ⟨q1,q2,q3,q4,q5,q6⟩:=HR.out;have aU:i≠0:=fun e=>by rw [e,d8] at q1;omega
   exact ⟨x,b,gb,v,i,rfl,q4,by omega,by rcases q3 h1 with h|h;exact absurd h aU;exact h,by omega,q5,q6.mono (fun _ h=> .inr h)⟩
end
section
open Go.RowKit Go.Shelf
theorem eU.at{w:World}{x b gb n k i:Nat}{v:Value}{f:Nat->Bool}(h:eU w x b gb v n k i f){j:Nat}(d:j<i):∃g cap,v= .slice (some ⟨g,0,none⟩) i cap/\w.cell? ⟨g,j,none⟩=some (.int .i64 ((Qc f 0 (j*k):Nat):Int)):=by
 rcases h.row.2 with ⟨_,c⟩|⟨g,cap,cur,a,_⟩
 ·omega
 ·refine ⟨g,cap,a,?_⟩;subst a;have:=h.row.cells (g:=g) rfl j (.int .i64 ((Qc f 0 (j*k):Nat):Int)) (by grind)
  grind [Addr.add]
theorem A4{w:World}{x b gb n k i:Nat}{v:Value}{f:Nat->Bool}(h:eU w x b gb v n k i f)(c:n<=i*k):Calls prog 192 #[x] w fun e w'=>e= .returned (.int .i64 ((Qc f 0 n:Nat):Int))/\w=w':=by
 have a:=h.Qd.cell 3 rfl;rw [iP c] at a;generalize Qc f 0 n=N at*;clear h
 go_enter func192,ntmps192
 go_wp2;go_ret;exact ⟨rfl,rfl⟩
theorem fF(i k:Nat):(i:Int).tdiv (k:Int)=((i/k:Nat):Int):=rfl
theorem vr{w:World}{x b gb n k z:Nat}{v:Value}{f:Nat->Bool}(h:eU w x b gb v n k z f)(R:n<=z*k)(hk:1<=k)(Y:k<=1024)(i:Nat)(hi:i<=1048576):Calls prog 222 #[x,(i:Int)] w fun e w'=>e= .returned (.int .i64 ((Qc f 0 (min i n):Nat):Int))/\J7 w w':=by
 obtain ⟨ws,r,a⟩:=h.vec;have m:aZ ws=f:=funext a;have Z:=r.small;have S:=h.Qd.cell 0 rfl;have c2:=h.Qd.cell 2 rfl;have H:=h.Qd.cell 3 rfl;rw [iP R] at H;have O:=ae (lF r);have o:=ae (Kb (fun _=>False) w);have X:(i:Int)<=1048576:=by omega
 by_cases U:i=0
 ·subst U;rw [gN (ao n),eL f (ag 0)];clear h r a m S c2 H
  go_enter func222,ntmps222
  go_wp2;go_ret;exact ⟨rfl,o.out⟩
 ·have Q:(1:Int)<=(i:Int):=by omega
  by_cases J:n<=i
  ·have u:(n:Int)<=(i:Int):=by omega
   rw [iP J];generalize Qc f 0 n=N at*;clear h r a m c2
   go_enter func222,ntmps222
   go_wp2_with fail
   refine O.out.mono ?_;rintro e w' ⟨rfl,rfl⟩;go_wp2;go_ret;exact ⟨rfl,o.out⟩
  ·have u:(i:Int)<(n:Int):=by omega
   rw [gN (by omega)];obtain ⟨B,D⟩:∃B,i/k=B:=⟨_,rfl⟩;have p:B*k<=i:=by rw [<-D];exact ba i k
   have q:B<z:=by
    rw [<-D];exact (aO (by omega)).2 (by omega)
   have I:B<=B*k:=cF B (by omega);obtain ⟨g,cap,rfl,W⟩:=h.at q;have c1:=h.Qd.cell 1 rfl;have c:J7 w w.drew:=(Kb _ w).drew;have l:=ae (fun w' (hf:J7 w.drew w')=>(af (((h.Qd.frame c id).frame hf id).cell 0 rfl) (af (((h.Qd.frame c id).frame hf id).cell 1 rfl) (af (((h.Qd.frame c id).frame hf id).cell 2 rfl)
    (((h.frame c id id id (fun _ _ h=>h)).frame hf id id id (fun _ _ h=>h)).at q)))))
   have t:=ae (fun w' (hf:J7 w.drew w')=>qR ((r.frame c id id).frame hf id id) (F:=B*k) (T:=i) p (by omega) (i:Int) (by omega));have j:∀w',J7 w.drew w'->w'.cell? ⟨g,B,none⟩=some (.int .i64 ((Qc f 0 (B*k):Nat):Int)):=fun w' hf=>by
    obtain ⟨g',P,Q,V⟩:=(l.out w' hf).2.2.2
    cases Q;exact V
   have E:=ae j;rw [m] at t;rw [bp f (ao (B*k)) p];have K:=fM f (B*k);have L:=dA f (B*k) i;generalize Qc f 0 (B*k)=N at*;generalize Qc f (B*k) i=C at*;have q1:(i:Int).tdiv (k:Int)=(B:Int):=by rw [fF,D]
   have q2:((k:Int)==0)=false:=by rw [beq_eq_false_iff_ne];omega
   have q3:(B:Int)*(k:Int)=((B*k:Nat):Int):=by simp
   generalize B*k=M at*;have b1:(B:Int)<(z:Int):=by omega
   have b2:(N:Int)<=1048576:=by omega
   have b3:(C:Int)<=1048576:=by omega
   have b4:(M:Int)<=1048576:=by omega
   have b5:(k:Int)<=1024:=by omega
   have b6:(B:Int)<=1048576:=by omega
   have b7:(1:Int)<=(k:Int):=by omega
   clear h r a m H c1 c W D p q j K L R I
   go_enter func222,ntmps222
   go_wp2_with fail
   refine O.out.mono ?_;rintro e w' ⟨rfl,rfl⟩;go_wp2;refine aV (fun w'=>J7 w.drew w') (by kernel_rfl) (Kb _ _) ?_;refine aL [x,x,.pointer (some ⟨x,1,none⟩),.slice (some g) z cap,(B:Int),.pointer (some ⟨g,B,none⟩),(N:Int),x,x,x,b,(B:Int),x,x,.pointer (some ⟨x,2,none⟩),(k:Int)] ?_
   iterate 16 (refine aM rfl (fun w9 A=>by first|(go_simp;done)|(have d:=(l.out _ A).2.1;go_simp;done)|(have d:=E.out _ A;go_simp;done)|(have d:=(l.out _ A).1;go_simp;done)|(have d:=(l.out _ A).2.2.1;go_simp;done)) ?_;simp only [aa])
   refine aK ?_;refine ai (M:Int) rfl (fun w s=>by go_simp;rw [IntKind.wrap_i64];omega) ?_;simp only [aa];refine ai (i:Int) rfl (fun w s=>by go_simp) ?_;simp only [aa];refine bf (.int .i64 C) 236 #[b,(M:Int),(i:Int)] rfl (fun w=>by go_simp) (fun w s=>(t.out w s).mono fun e w' h=>⟨h.1,s.trans h.2 J8⟩) ?_;simp only [aa];refine ai (.int .i64 ((N:Int)+(C:Int))) rfl (fun w s=>by go_simp;rw [IntKind.wrap_i64];omega) ?_;simp only [aa];refine ai (.int .i64 ((N:Int)+(C:Int))) rfl (fun w s=>by go_simp) ?_;simp only [aa];refine wpQuiet_nil ?_;intro w4 y;have G:=ae y;clear y;go_wp2;go_ret;exact ⟨by simp,(o.out.drew).trans G.out J8⟩
end
def E7(w:World)(n:Nat)(p:Nat->Bool)(e:Ending)(w':World):Prop:=∃k:Nat,e= .returned (k:Int)/\k<=n/\(∀a,a<k->p a=false)/\(∀a,k<=a->a<n->p a=true)/\J7 w w'
theorem xF(f:Nat)(lb:Array Value)(H:∀args w,(callFunc f args).run prog w= .ok (.enter f args) w)(n:Nat)(I:n<=1048576)(p:Nat->Bool)(t:∀i j,i<=j->j<n->p i=true->p j=true)(w:World)(d:∀i,i<n->∀w',J7 w w'->Calls prog f (#[.int .i64 i]++lb) w' (fun e w2=>e= .returned (.bool (p i))/\J7 w' w2)):
  Calls prog 251 #[(n:Int),.func (.func f) #[] lb] w (E7 w n p):=by
 have y:=ae t;have z:=ae d;have G:(n:Int)<=1048576:=by omega
 clear t d
 go_enter func251,ntmps251
 go_wp2
 go_loopw [5,6] (fun a b wr=>∃i j:Nat,i<=j/\j<=n/\a= .int .i64 i/\b= .int .i64 j/\Hid (J7 w wr/\(∀a,a<i->p a=false)/\∀a,j<=a->a<n->p a=true)) (fun a b _=>(intOf b-intOf a).toNat)
 case atStart=>exact ⟨0,n,by omega,by omega,rfl,rfl,⟨Kb _ w,fun a h=>absurd h (by omega),fun a u v=>absurd v (by omega)⟩⟩
 case round=>
  obtain ⟨i,j,C,s,rfl,rfl,k⟩:=hrel;by_cases E:i<j
  ·obtain ⟨m,t⟩:∃m,m=(i+j)/2:=⟨_,rfl⟩;have x:i<=m:=by omega
   have F:m<j:=by omega
   have A:((i:Int)+(j:Int))/2=(m:Int):=by omega
   have B:(i:Int)<=1048576:=by omega
   have D:(j:Int)<=1048576:=by omega
   have q:=z.out m (by omega) _ k.out.1;clear t
   cases hp:p m with
   |true=>
    rw [hp] at q;have l:=ae q;have c:Hid (∀w',J7 wr w'->J7 w w'/\(∀a,a<i->p a=false)/\∀a,m<=a->a<n->p a=true):=fun w' hf=>⟨k.out.1.trans hf J8,k.out.2.1,fun a u v=>y.out m a u v hp⟩
    clear q k hp;go_wp2_with fail
    refine l.out.mono ?_;rintro e w2 ⟨rfl,g⟩;have o:=ae (c.out w2 g);clear g c;go_wp2;go_roundw
    case rel=>exact ⟨i,m,x,by omega,rfl,rfl,o⟩
    case measure=>simp [intOf];omega
   |false=>
    rw [hp] at q;have l:=ae q;have c:Hid (∀w',J7 wr w'->J7 w w'/\(∀a,a<m+1->p a=false)/\∀a,j<=a->a<n->p a=true):=fun w' hf=>⟨k.out.1.trans hf J8,(fun a u=>by
     cases ha:p a with
     |false=>rfl
     |true=>(rw [y.out a m (by omega) (by omega) ha] at hp;cases hp)),k.out.2.2⟩
    clear q k hp;go_wp2_with fail
    refine l.out.mono ?_;rintro e w2 ⟨rfl,g⟩;have o:=ae (c.out w2 g);clear g c;go_wp2;go_roundw
    case rel=>exact ⟨m+1,j,by omega,s,by go_num,rfl,o⟩
    case measure=>simp [intOf];omega
  ·obtain rfl:i=j:=by omega
   have r:Hid (E7 w n p (.returned (i:Int)) wr):=⟨i,rfl,s,k.out.2.1,k.out.2.2,k.out.1⟩;clear k;go_wp2;go_ret;exact r.out
section
open Go.RowKit Go.Shelf
theorem wH{f:Nat->Bool}{a i:Nat}(h:Qc f a i=0):∀j,a<=j->j<i->f j=false:=fun j b c=>by
 cases hj:f j with
 |false=>rfl
 |true=>have:=pP b c hj;omega
theorem zK{f:Nat->Bool}{A n K:Nat}(d:A<=n)(h:Qc f 0 A<=K)(c:K<Qc f 0 n):∃j,lT f A n j/\Qc f 0 j=Qc f 0 A:=by
 rw [bp f (ao A) d] at c;obtain ⟨i,a,e,g,b⟩:=uq f A n 0 (by omega);exact ⟨i,⟨a,e,g,wH b⟩,by rw [bp f (ao A) a,b];rfl⟩
theorem CM{w:World}{b g n i j:Nat}{ws:List Nat}(h:cP w b g n ws)(l:ee w)(a:lT (aZ ws) i n j):Calls prog 194 #[b,(i:Int)] w fun e w'=>e= .returned (.tuple #[(j:Int),.bool true])/\w=w':=by
 have:=h.small;have:=a.1;have:=a.2.1;refine (ko h l i (by omega)).mono ?_;rintro e w' ⟨⟨k,c,rfl⟩|⟨c,rfl⟩,o⟩
 ·have:k=j:=by
   rcases cW k j with f|m|d
   ·have:=a.2.2.2 k c.1 f;rw [c.2.2.1] at this;grind
   ·omega
   ·have:=c.2.2.2 j a.1 d;rw [a.2.2.1] at this;grind
  grind
 ·have:=c j a.1 a.2.1;rw [a.2.2.1] at this;grind
theorem eU.Qb{w w':World}{x b gb n k i:Nat}{v:Value}{f:Nat->Bool}(h:eU w x b gb v n k i f)(hf:J7 w w'):eU w' x b gb v n k i f:=h.frame hf id id id (fun _ _ h=>h)
theorem aE{S:Nat->Prop}{w w':World}(h:ee w)(hf:Fr S w w')(c:¬S 1):ee w':=fun i k b=>by
 have a:=h i k b;exact (World.cell?_of_block (w:=w) (hf.block _ (bu a) c)).trans a
theorem xO{w:World}{x b gb n k d:Nat}{v:Value}{f:Nat->Bool}(h:eU w x b gb v n k d f)(xb kb K:Nat)(o:ay w xb [x] 258)(m:ay w kb [(K:Int)] 3)(B:K<=1048576)(C:n<=1048576)(i:Nat)(r:i<d)(s:d<=1048576):
  Calls prog 252 #[(i:Int),xb,kb] w fun e w'=>e= .returned (.bool (decide (K<Qc f 0 (i*k))))/\J7 w w':=by
 obtain ⟨g,cap,rfl,l⟩:=h.at r;have u:w.drew.cell? xb=_:=o.drew.cell 0 rfl;have y:w.drew.cell? kb=_:=m.drew.cell 0 rfl;have z:w.drew.cell? ⟨x,1,none⟩=_:=h.Qd.drew.cell 1 rfl;have A:w.drew.cell? ⟨g,i,none⟩=_:=l;have q:=ae ((Kb (fun _=>False) w).drew);have a:decide (K<Qc f 0 (i*k))=decide ((K:Int)<((Qc f 0 (i*k):Nat):Int)):=by rw [decide_eq_decide];omega
 rw [a];generalize Qc f 0 (i*k)=N at*;have t:(i:Int)<(d:Int):=by omega
 clear h o m l a
 go_enter func252,ntmps252
 go_wp2;refine aV (fun w'=>w'=w.drew) (by kernel_rfl) rfl ?_;refine ai x rfl (fun w c=>by subst c;go_simp) ?_;simp only [aa];refine aL [x,.pointer (some ⟨x,1,none⟩)] ?_
 iterate 2 (refine aM rfl (fun p j=>by go_simp) ?_;simp only [aa])
 refine aK ?_;refine ai (.slice (some g) d cap) rfl (fun w c=>by subst c;go_simp) ?_;simp only [aa];refine aL [(i:Int),.pointer (some ⟨g,i,none⟩)] ?_
 iterate 2 (refine aM rfl (fun p j=>by go_simp) ?_;simp only [aa])
 refine aK ?_;refine ai (N:Int) rfl (fun w c=>by subst c;go_simp) ?_;simp only [aa];refine ai (K:Int) rfl (fun w c=>by subst c;go_simp) ?_;simp only [aa];refine aL [.bool (decide ((K:Int)<(N:Int))),.bool (decide ((K:Int)<(N:Int)))] ?_
 iterate 2 (refine aM rfl (fun p j=>by go_simp) ?_;simp only [aa])
 refine aK ?_;refine wpQuiet_nil ?_;rintro w2 rfl;go_wp2;go_ret;exact ⟨rfl,q.out⟩
def wY(f:Nat->Bool)(n K:Nat)(w:World)(e:Ending)(w':World):Prop:=∃a:Nat,e= .returned (.tuple #[(a:Int),.bool true])/\a<n/\f a=true/\Qc f 0 a=K/\J7 w w'
theorem A1{w:World}{x b gb n k t:Nat}{v:Value}{f:Nat->Bool}(h:eU w x b gb v n k t f)(hT:ee w)(hn:n<=t*k)(X:(t-1)*k<n)(aB:1<=t)(hk:1<=k)(aW:k<=1024)(K:Nat)(hK:K<Qc f 0 n):Calls prog 250 #[x,(K:Int)] w (wY f n K w):=by
 obtain ⟨ws,hv,u⟩:=h.vec;have T:aZ ws=f:=funext u;have ax:=hv.small;have ap:K<=1048576:=by have:=fM f n;omega
 have D:t<=1048576:=by
  have:t-1<=(t-1)*k:=cF _ (by omega);omega
 obtain ⟨g,cap,rfl,_⟩:=h.at (show 0<t by omega);obtain ⟨W,S⟩:∃W,(w.alloc (.cells #[x] 258)).alloc (.cells #[(K:Int)] 3)=W:=⟨_,rfl⟩;have hf:J7 w W:=by rw [<-S];exact ((Kb _ w).alloc _).alloc _
 have O:ay W w.heap.size [x] 258:=by rw [<-S];exact (ay.new w _ _).alloc _
 have L:ay W (w.heap.size+1) [(K:Int)] 3:=by
  rw [<-S];have:=ay.new (w.alloc (.cells #[x] 258)) [(K:Int)] 3;rwa [World.size_alloc] at this
 obtain ⟨N,hN⟩:∃N,Qc f 0 n=N:=⟨_,rfl⟩;have d:=ae (fun w' (c:J7 W w')=>(af ((O.frame c id).cell 0 rfl) (af ((L.frame c id).cell 0 rfl) (af (((h.Qb hf).Qb c).Qd.cell 0 rfl) (af (((h.Qb hf).Qb c).Qd.cell 1 rfl) (af (((h.Qb hf).Qb c).Qd.cell 2 rfl) (((h.Qb hf).Qb c).Qd.cell 3 rfl)))))));have ah:=ae (fun w' (c:J7 W w') j (I:j<t)=>((h.Qb hf).Qb c).at I);have E:=ae (fun w' (c:J7 W w') i j (I:lT (aZ ws) i n j)=>CM ((hv.frame hf id id).frame c id id) (aE (aE hT hf id) c id) I);have H:∀w',J7 W.drew w'->J7 W w':=fun w' c=>((Kb (fun _=>False) W).drew).trans c J8
 have r:=xF 252 #[w.heap.size,.pointer (some ⟨w.heap.size+1,0,none⟩)] (enters_of func252 (by kernel_rfl) rfl) t D (fun i=>decide (K<Qc f 0 (i*k)))
  (fun i j ar _ h=>by rw [decide_eq_true_eq] at h ⊢;have:=it f (a:=0) (aG k ar);omega) W.drew
  (fun i hi w' c=>xO ((h.Qb hf).Qb (H w' c)) w.heap.size (w.heap.size+1) K (O.frame (H w' c) id) (L.frame (H w' c) id) ap ax i hi D)
 have HS:=ae r;rw [T] at E;rw [iP hn,hN] at d;have an:(K:Int)<(N:Int):=by omega
 have aI:(0:Int)<=(K:Int):=by omega
 have HK:=ae hK;have aj:=ae hf;have al:=ae (af hn X);have aC:(t:Int)<=1048576:=by omega
 have aX:(k:Int)<=1024:=by omega
 have aH:=ae S;have dk:W.drew.cell? ⟨w.heap.size+1,0,none⟩=_:=(d.out W.drew ((Kb _ W).drew)).2.1;have dx:W.drew.cell? w.heap.size=_:=(d.out W.drew ((Kb _ W).drew)).1;have d1:W.drew.cell? ⟨x,1,none⟩=_:=(d.out W.drew ((Kb _ W).drew)).2.2.2.1;have d3:W.drew.cell? ⟨x,3,none⟩=_:=(d.out W.drew ((Kb _ W).drew)).2.2.2.2.2;clear h hT hv u T O L r hf hK hN hn X
 go_enter func250,ntmps250
 go_wp2;clear S;refine aV (fun w'=>w'=W.drew) (by kernel_rfl) rfl ?_;refine ai x rfl (fun w l=>by subst l;go_simp) ?_;simp only [aa];refine aL [.bool false,.bool false] ?_
 iterate 2 (refine aM rfl (fun w9 R=>by go_simp) ?_;simp only [aa])
 refine aK ?_;refine aQ (K:Int) rfl (fun w l=>by subst l;go_simp) ?_;simp only [aa];refine aL [.bool false,.bool false,.bool false] ?_
 iterate 3 (refine aM rfl (fun w9 R=>by go_simp) ?_;simp only [aa])
 refine aK ?_;refine aQ (K:Int) rfl (fun w l=>by subst l;go_simp) ?_;simp only [aa];refine aQ x rfl (fun w l=>by subst l;go_simp) ?_;simp only [aa];refine aL [x,.pointer (some ⟨x,3,none⟩)] ?_
 iterate 2 (refine aM rfl (fun w9 R=>by go_simp) ?_;simp only [aa])
 refine aK ?_;refine aQ (N:Int) rfl (fun w l=>by subst l;go_simp) ?_;simp only [aa];refine aQ (.bool false) rfl (fun w l=>by go_simp;omega) ?_;simp only [aa];refine ai (.bool false) rfl (fun w l=>by go_simp) ?_;simp only [aa];refine wpQuiet_nil ?_;rintro w2 rfl;go_wp2_with fail
 refine HS.out.mono ?_;rintro e w2 ⟨s,rfl,av,Z,ad,V⟩;have y:J7 W w2:=((Kb (fun _=>False) W).drew).trans V J8;have a2:1<=s:=by
  by_cases h0:s=0
  ·subst h0;have:=ad 0 (ag 0) (by omega);rw [decide_eq_true_eq,d8,eL f (ag 0)] at this;omega
  ·omega
 obtain ⟨B,rfl⟩:∃B,s=B+1:=⟨s-1,by omega⟩;have F:Qc f 0 (B*k)<=K:=by
  have:=Z B (by omega);rw [decide_eq_false_iff_not] at this;omega
 have G:B*k<=n:=by
  have:=aG k (show B<=t-1 by omega);have:=al.out.2;omega
 have am:B<=B*k:=cF B (by omega);obtain ⟨j,I,J⟩:=zK G F HK.out;obtain ⟨g',aA,az,aq⟩:=ah.out w2.drew y.drew B (by omega)
 cases az
 have P:=ae (E.out w2.drew y.drew (B*k) j I);obtain ⟨e0,e1,e2,e3,e4,_⟩:=d.out w2.drew y.drew;have o:=I.2;obtain ⟨M,hM⟩:∃M,B*k=M:=⟨_,rfl⟩;have aN:(B:Int)*(k:Int)=(M:Int):=by rw [<-hM];simp
 rw [hM] at J P aq F G am;have aP:(B:Int)<=1048576:=by omega
 have aR:(M:Int)<=1048576:=by omega
 have aS:(B:Int)<(t:Int):=by omega
 have HJ:=ae (af o.1 (af o.2.1 J));have z:=ae y;clear av Z ad V y I o J hM G HS dk dx d1 d3 an;go_wp2;refine aV (fun w'=>w'=w2.drew) (by kernel_rfl) rfl ?_;refine ai x rfl (fun w l=>by subst l;go_simp) ?_;simp only [aa];refine aL [x,x] ?_
 iterate 2 (refine aM rfl (fun w9 R=>by go_simp) ?_;simp only [aa])
 refine aK ?_;refine ai b rfl (fun w l=>by subst l;go_simp) ?_;simp only [aa];refine ai (B:Int) rfl (fun w l=>by go_simp) ?_;simp only [aa];refine ai x rfl (fun w l=>by subst l;go_simp) ?_;simp only [aa];refine aL [x,.pointer (some ⟨x,2,none⟩)] ?_
 iterate 2 (refine aM rfl (fun w9 R=>by go_simp) ?_;simp only [aa])
 refine aK ?_;refine ai (k:Int) rfl (fun w l=>by subst l;go_simp) ?_;simp only [aa];refine ai (M:Int) rfl (fun w l=>by go_simp;rw [IntKind.wrap_i64];omega) ?_;simp only [aa];refine bf (.tuple #[(j:Int),.bool true]) 194 #[b,(M:Int)] rfl (fun w=>by go_simp) (fun w l=>by subst l;exact P.out.mono fun e w' h=>⟨h.1,h.2.symm⟩) ?_;simp only [aa];refine aL [.tuple #[(j:Int),.bool true],(j:Int),.bool true,(j:Int),.bool true] ?_
 iterate 5 (refine aM rfl (fun w9 R=>by go_simp) ?_;simp only [aa])
 refine aK ?_;refine wpQuiet_nil ?_;rintro w3 rfl;generalize Qc f 0 M=N0 at*;have aT:(N0:Int)<=(K:Int):=by omega
 have aU:(K:Int)<=1048576:=by omega
 clear e2 e4;go_wp2
 go_loopw [7,9] (fun p q wr=>∃a m:Nat,p= .int .i64 a/\q= .int .i64 m/\m<=K/\wr=w2.drew/\Hid (a<n/\f a=true/\Qc f 0 a=m)) (fun _ q _=>(K-intOf q).toNat)
 case atStart=>exact ⟨j,N0,rfl,rfl,F,rfl,HJ.out⟩
 case round=>
  obtain ⟨a,m,rfl,rfl,a0,rfl,Y⟩:=hrel;by_cases aY:m<K
  ·obtain ⟨h1,h2,h3⟩:=Y.out;have U:Qc f 0 (a+1)=m+1:=by rw [bJ f (ao a),h3,if_pos h2]
   obtain ⟨j2,o,C⟩:=zK (A:=a+1) (by omega) (by omega) HK.out;have Q:=ae (E.out w2.drew z.out.drew (a+1) j2 o);rw [show ((a+1:Nat):Int)=(a:Int)+1 by omega] at Q;have ak:=ae (af o.2.1 (af o.2.2.1 (C.trans U)));have aO:(a:Int)<=1048576:=by omega
   have a1:(m:Int)<(K:Int):=by omega
   obtain ⟨e0,e1,e2,_⟩:=d.out w2.drew z.out.drew;clear Y h1 h2 h3 U o C;go_wp2_with fail
   refine Q.out.mono ?_;rintro e w' ⟨rfl,rfl⟩;go_wp2;go_roundw
   case rel=>exact ⟨j2,m+1,rfl,by go_num,by omega,trivial,ak.out⟩
   case measure=>simp [intOf];omega
  ·obtain rfl:m=K:=by omega
   obtain ⟨e0,e1,_⟩:=d.out w2.drew z.out.drew;go_wp2;go_ret2;exact ⟨a,rfl,Y.out.1,Y.out.2.1,Y.out.2.2,aj.out.trans z.out.drew J8⟩
end
section
open Go.RowKit Go.Shelf
theorem pk{α:Type}{xs a:List α}{x:α}(h:a=xs.take a.length)(b:xs[a.length]? =some x):a++[x]=xs.take (a++[x]).length:=by
 grind [List.take_add_one]
def pM(pre:List (Nat×Nat))(j:Nat):Bool:=pre.any fun x=>decide (x.1<=j)&&decide (j<x.1+x.2)
theorem yW(a:List (Nat×Nat))(x:Nat×Nat)(j:Nat):pM (a++[x]) j=(pM a j||(decide (x.1<=j)&&decide (j<x.1+x.2))):=by
 grind [pM]
theorem dG{E:Nat->Nat}{W:Nat}{x:Nat×Nat}:x∈cj E W↔x.1<W/\E x.1≠0/\x.2=E x.1:=by
 unfold cj;rw [bw];constructor
 ·rintro ⟨s,c,rfl⟩;have:=rC.1 c;exact ⟨this.2.1,eG.1 this.2.2,rfl⟩
 ·rintro ⟨a,b,d⟩;exact ⟨x.1,rC.2 ⟨ao _,a,eG.2 b⟩,by grind⟩
theorem yX{E:Nat->Nat}{W:Nat}(b:∀a,E a≠0->a+E a<=W)(j:Nat):pM (cj E W) j=aw E j:=by
 rw [bM,cE];unfold pM;rw [kE];constructor
 ·rintro ⟨x,f,h⟩;rw [ak,decide_eq_true_eq,decide_eq_true_eq] at h
  grind [dG]
 ·rintro ⟨s,d,e⟩;have c:E s≠0:=by omega
  have:=b s c;exact ⟨(s,E s),dG.2 ⟨by omega,c,rfl⟩,by grind⟩
def mZ(lo hi:Nat)(w:World)(t W k:Nat)(f:Nat->Bool):Prop:=
 ∃b1 g1 x b gb v nb,(∀i,i=t\/i=b1\/i=g1\/i=x\/i=b\/i=gb\/v.ownBlock=some i->lo<=i/\i<hi)/\ay w t [.pointer (some ⟨b1,0,none⟩),.pointer (some ⟨x,0,none⟩)] 260/\(∃ws,cP w b1 g1 W ws/\∀j,aZ ws j=f j)/\
  eU w x b gb v W k nb f/\W<=nb*k/\(nb-1)*k<W/\1<=nb/\1<=k/\k<=1024
theorem mZ.frame{lo c:Nat}{S:Nat->Prop}{w w':World}{t W k:Nat}{f:Nat->Bool}(h:mZ lo c w t W k f)(hf:Fr S w w')(q:∀i,S i->i<lo\/c<=i):mZ lo c w' t W k f:=by
 obtain ⟨e,g1,x,b,gb,v,j,d,l,⟨ws,m,n⟩,o,p⟩:=h;have a:∀i,(i=t\/i=e\/i=g1\/i=x\/i=b\/i=gb\/v.ownBlock=some i)->¬S i:=fun i c r=>by
  grind
 refine ⟨e,g1,x,b,gb,v,j,d,l.frame hf (a _ (by simp)),⟨ws,m.frame hf (a _ (by simp)) (a _ (by simp)),n⟩,o.frame hf (a _ (by simp)) (a _ (by simp)) (a _ (by simp)) (fun g hg=>a g (by grind)),p⟩
def zi(L:bT)(W:Nat)(E:Nat->Nat)(tb lb b1 g1:Nat)(pre:List (Nat×Nat))(S:Nat->Prop)(w:World):Prop:=
 (S=fun k=>k=g1)/\sN L tb W E w/\ay w lb [b1] 236/\∃ws,cP w b1 g1 W ws/\∀j,aZ ws j=pM pre j
theorem zi.stays{L:bT}{W:Nat}{E:Nat->Nat}{tb lb b g1 B:Nat}(g:∀k,L.has k->k<B)(c:tb<B)(d:lb<B)(e:b<B)(f:1<B):gm B (zi L W E tb lb b g1):=by
 rintro m S W1 t T ⟨rfl,⟨n,o,p⟩,q,ws,r,s⟩ hf j;have a:∀i,i<B->¬T i:=fun i u h=>by grind
 exact ⟨rfl,⟨n.frame hf (fun k l=>a k (g k l)),aE o hf (a _ f),p.frame hf (a _ c)⟩,q.frame hf (a _ d),ws,r.frame hf (a _ e) (fun h=>(j _ h).2 rfl),s⟩
end
section
open Go.RowKit Go.Shelf
def G6(W k:Nat)(E:Nat->Nat)(w:World)(e:Ending)(w':World):Prop:=
 ∃t,e= .returned (.tuple #[.pointer (some ⟨t,0,none⟩),(0:Int)])/\mZ w.heap.size w'.heap.size w' t W k (aw E)/\J7 w w'
theorem FZ{w w1 w2 E:World}{m g1 x b gb:Nat}{v:Value}{C W k:Nat}{f:Nat->Bool}{ws:List Nat}(M:J7 w w1)(hf:J7 w1 w2)
  (Q:cP w1 m g1 W ws) (r:∀j,aZ ws j=f j) (h1:w.heap.size<=m) (h2:w.heap.size<=g1) (z:eU w2 x b gb v W k C f) (H:W<=C*k) (I:(C-1)*k<W) (J:1<=C) (F:1<=k) (G:k<=1024) (t:eU.from w1.heap.size x b gb v)
  (O:E=w2.alloc (.cells #[m,x] 260)) {D:Nat} (hD:w.heap.size<=D) (u:w2.heap[D]? =some (.deferred (some []))):
  mZ w.heap.size (E.putObj D (.deferred none)).heap.size (E.putObj D (.deferred none)) w2.heap.size W k f/\J7 w (E.putObj D (.deferred none)):=by
 subst O;have S:=M.size;have T:=hf.size;have l:=Q.frame hf id id;have s:J7 w2 (w2.alloc (.cells #[m,x] 260)):=(Kb _ w2).alloc _;have a:Fr (fun k=>k=D) (w2.alloc (.cells #[m,x] 260)) ((w2.alloc (.cells #[m,x] 260)).putObj D (.deferred none)):=(Kb _ _).putObj _ _ (.inl rfl);have K:=a.size;rw [World.size_alloc] at K;have N:=(bE.1 u).1;obtain ⟨wr,p,_⟩:=z.vec;have n:∀i o,w2.heap[i]? =some o->o.isCells=true->i≠D:=fun i o L P e=>by subst e;rw [u] at L;cases L;cases P
 have d:∀{c:List Value} {U:TypeId} {i:Nat},ay w2 i c U->i≠D:=fun h=>n _ _ h rfl
 have y:∀g,v.ownBlock=some g->g≠D/\g<w2.heap.size:=fun g hg=>by
  rcases z.row.2 with ⟨rfl,_⟩|⟨g',cap,cur,rfl,_,hh,_⟩
  ·cases hg
  ·simp only [Value.ownBlock,aT] at hg
   grind
 have B:m≠D/\g1≠D:=⟨let ⟨_,_,q⟩:=l.Qd;d q,let ⟨_,q⟩:=l.row;d q⟩;have A:b≠D/\gb≠D:=⟨let ⟨_,_,q⟩:=p.Qd;d q,let ⟨_,q⟩:=p.row;d q⟩;have R:=d z.Qd;have l1:=l.blt;have l2:=l.Ze;have l3:=p.blt;have l4:=p.Ze;have l5:=z.Qd.lt;obtain ⟨V,X,Y,Z⟩:=t;refine ⟨⟨m,g1,x,b,gb,v,C,?_,?_,⟨ws,(l.frame s id id).frame a B.1 B.2,r⟩,(z.Qb s).frame a R A.1 A.2 (fun g hg=>(y g hg).1),H,I,J,F,G⟩,((M.trans hf J8).trans s J8).trans a (fun i hi=> .inr (by omega))⟩
 ·grind
 ·have:ay (w2.alloc (.cells #[m,x] 260)) w2.heap.size [m,x] 260:=ay.new w2 _ _;exact this.frame a (by omega)
section
attribute [local go_sem] Oper.semAt_some
theorem FW(d:Nat){w:World}{L:bT}{W k:Nat}{E:Nat->Nat}(h:eo w L W E)(hT:ee w)(N:bV (k:Int)=true)(an:1<=k)(ao:k<=1024):CallsIn Fence.wide d prog 185 #[L.m,(k:Int)] w (G6 W k E w):=by
 refine callsIn_of_wp_marks func185 rfl trivial ?_ rfl;simp only [ntmps185,du,bG,cB,Nat.reduceAdd,Nat.reduceSub,cK,cJ,dv,cU,dz,dH];obtain ⟨aG,al⟩:=h.small;have U:=ae (gU h);have HV:=ae (fun w=>zo W aG al w);have HX:=ae h;have HT:=ae hT;have aC:((W:Int)==0)=false:=by rw [beq_eq_false_iff_ne];omega
 clear h hT;gi_wp2;refine dZ (U.out.mono ?_);rintro e w' ⟨rfl,rfl⟩;gi_wp2;refine dZ (U.out.mono ?_);rintro e w' ⟨rfl,rfl⟩;gi_wp2;refine dZ ((HV.out _).mono ?_);rintro e w1 ⟨M,g1,rfl,hv,y,c,t⟩;obtain ⟨f,q⟩:∃f,w1.alloc (.cells #[M] 236)=f:=⟨_,rfl⟩;have a:J7 w1 f:=by rw [<-q];exact (Kb _ w1).alloc _
 have A:ay f w1.heap.size [M] 236:=by rw [<-q];exact ay.new w1 _ _
 have HA:=ae (jH L.m f);have G:=ae (af hv (af y (af c (af t (af a A)))));have g:f.heap.size=w1.heap.size+1:=by rw [<-q];simp
 have H:=ae g;clear hv y c t a A HV U aC g;gi_wp2;clear q;refine dZ (HA.out.mono ?_);rintro e Y ⟨rfl,I⟩;have J:J7 f Y:=by rw [I];exact (Kb _ f).alloc _
 have ap:ay Y f.heap.size [L.m] 165:=by rw [I];exact ay.new f _ _
 have az:Y.heap.size=f.heap.size+1:=by rw [I];simp
 obtain ⟨hv,y,c,t,a,A⟩:=G.out;have z:J7 w1 Y:=a.trans J J8;have r:J7 w Y:=t.trans z J8;have g:=H.out;have aP:=t.size;have av:=hv.blt;have ax:=hv.Ze;have Z:zi L W E f.heap.size w1.heap.size M g1 [] (fun k=>k=g1) Y:=⟨rfl,⟨HX.out.frame r (fun _ _ h=>h),aE HT.out r id,ap⟩,A.frame J id,_,hv.frame z id id,fun j=>by rw [oL];rfl⟩;have aq:1<w.heap.size:=bu (HT.out 0 0 rfl);have p:gm Y.heap.size (zi L W E f.heap.size w1.heap.size M g1):=zi.stays (fun k N=>by have:=HX.out.lt k N;omega) (by omega) (by omega) (by omega) (by omega);have Q:=ae (af J (af r (af az aq)));clear I J ap az hv y c a A g r z aP aq HA t;gi_wp2;refine iU (gf:=161) (lb:= #[f.heap.size]) rfl (enters_of func161 (by kernel_rfl) rfl) (encs:=mX) (fun _=>rfl) (jI (L:=L) (tb:=f.heap.size) (E:=E) al) (zi L W E f.heap.size w1.heap.size M g1) (fun k=>k=g1) p (fun _ _ _ h=>h.2.1) (fun k N=>by have:=H.out;have:=Q.out.2.2.1;omega) Z
  ?a1 ?assign ?body ?done
 case assign=>
  intro k x W K hK;unfold mX;gi_wp2;exact hK
 case body=>
  intro l aR S x X hI O hf hs;obtain ⟨rfl,⟨q1,q2,q3⟩,q4,ws,q5,q6⟩:=hI;obtain ⟨s,n⟩:=x;obtain ⟨m1,m2,m3⟩:=dG.1 (ar O);dsimp only at m1 m2 m3;have P:=HX.out.top s m2;rw [<-m3] at P;have hz:=Q.out;have g:=H.out;have c:=G.out.2.2.1;have ak:∀k,L.has k->¬k=g1:=fun k N=>by have:=HX.out.lt k N;omega
  have R:=ae (AN q5 (F:=s) (T:=s+n) (by omega) (by omega));rw [show ((s+n:Nat):Int)=(s:Int)+(n:Int) by omega] at R;have c0:=q4.cell 0 rfl;have HE:=ae (fun u C (r1:cP u M g1 W C) (r2:∀j,aZ C j=(aZ ws j||(decide (s<=j)&&decide (j<s+n)))) (B:Fr (fun k=>k=g1) X u)=>
   (show E9 (zi L W E f.heap.size w1.heap.size M g1) (aR++[(s,n)]) (fun k=>k=g1) X u from
    ⟨fun k=>k=g1,⟨rfl,⟨q1.frame B ak,aE q2 B (by omega),q3.frame B (by omega)⟩,q4.frame B (by omega),C,r1,fun j=>by rw [r2,yW,q6]⟩,B,fun k h=> .inl h⟩))
  have y:(s:Int)<=1048576:=by omega
  have aS:(n:Int)<=1048576:=by omega
  clear hf hs q1 q2 q3 q4 q5 q6 O hz g c ak P m1 m2 m3 Z p av ax;gi_wp2;refine wM (R.out.mono ?_);rintro e u ⟨⟨V,rfl⟩,C,r1,r2,B⟩;have aB:=ae (HE.out u C r1 r2 B);clear r1 r2 B HE R;gi_wp2;exact aB.out
 case done=>
  intro D S X hI hD aT aU hf hs;obtain ⟨rfl,⟨q1,q2,q3⟩,q4,ws,q5,q6⟩:=hI;have c0:=q4.cell 0 rfl;have o:∀j,aZ ws j=aw E j:=fun j=>by rw [q6,yX HX.out.top]
  have HR:=ae (FG q5 N an ao);rw [funext o] at HR;have hz:=Q.out;have g:=H.out;have c:=G.out.2.2.1;have am:J7 w X:=hz.2.1.trans hf (fun k N=> .inr (by omega));have aH:w.heap.size<=D:=by have:=hz.2.1.size;omega
  have hq:∀w2 i x b gb v nb,J7 X w2->eU w2 x b gb v W k nb (aw E)->W<=nb*k->(nb-1)*k<W->1<=nb->eU.from X.heap.size x b gb v->i=w2.alloc (.cells #[M,.pointer (some ⟨x,0,none⟩)] 260)->
    mZ w.heap.size (i.putObj D (.deferred none)).heap.size (i.putObj D (.deferred none)) w2.heap.size W k (aw E)/\J7 w (i.putObj D (.deferred none)):=fun w2 i x b gb v nb a hr aI aN aO ad hW=>
   FZ am a q5 o G.out.2.1 c hr aI aN aO an ao ad hW aH (a.heap hD id)
  have HQ:=ae hq;have ag:=ae (fun w2 (a:J7 X w2)=>(af ((q4.frame a id).cell 0 rfl) (a.heap hD id)));clear hf hs q1 q2 q3 q4 q5 q6 hz g c Z p av ax am o N hq;gi_wp2;refine dZ (HR.out.mono ?_);rintro e w2 ⟨x,b,gb,v,nb,rfl,r1,r2,B,r4,r5,r6⟩;obtain ⟨d0,aj⟩:=ag.out w2 r6;have ah:=ae (fun i hW=>HQ.out w2 i x b gb v nb r6 r1 r2 B r4 r5 hW);have aA:=ae aj;clear r1 r2 B r4 r5 r6 HQ HR ag c0 aj hD;gi_wp2;refine ⟨by simp,.inl ⟨_,_,rfl,run_takeDeferred (((Kb (fun _=>False) w2).alloc _).heap aA.out id),?_⟩⟩;exact ⟨_,results_tmp2 rfl _ _ _,w2.heap.size,rfl,(ah.out _ rfl).1,(ah.out _ rfl).2⟩
end
end
section
open Go.RowKit Go.Shelf
theorem FY{lo m:Nat}{w:World}{t W k:Nat}{f:Nat->Bool}(h:mZ lo m w t W k f)(a:Nat)(l:a<W):Calls prog 189 #[t,(a:Int)] w fun e w'=>e= .returned (.bool (f a))/\w=w':=by
 obtain ⟨o,g1,x,b,gb,v,q,c,g,⟨ws,i,j⟩,n⟩:=h;have p:=g.cell 0 rfl;have d:=ae (CL i l);rw [j] at d;generalize f a=fa at*;clear c g i j n
 go_enter func189,ntmps189
 go_wp2_with fail
 refine d.out.mono ?_;rintro e w' ⟨rfl,rfl⟩;go_wp2;go_ret;exact ⟨rfl,rfl⟩
theorem vG{lo p:Nat}{w:World}{t W k:Nat}{f:Nat->Bool}(h:mZ lo p w t W k f)(a:Nat)(o:a<=1048576):Calls prog 190 #[t,(a:Int)] w fun e w'=>e= .returned (.int .i64 ((Qc f 0 (min a W):Nat):Int))/\J7 w w':=by
 obtain ⟨y,g1,x,b,gb,v,z,c,d,⟨ws,q,r⟩,g,i,s,u,j,l⟩:=h;have c1:=d.cell 1 rfl;have n:=ae (vr g i j l a o);generalize Qc f 0 (min a W)=N at*;clear c d q r g i s u j l
 go_enter func190,ntmps190
 go_wp2_with fail
 refine n.out.mono ?_;rintro e w' ⟨rfl,hf⟩;have m:=ae hf;clear hf;go_wp2;go_ret;exact ⟨rfl,m.out⟩
theorem td{lo j:Nat}{w:World}{t W k:Nat}{f:Nat->Bool}(h:mZ lo j w t W k f):Calls prog 160 #[t] w fun e w'=>e= .returned (.int .i64 ((Qc f 0 W:Nat):Int))/\w=w':=by
 obtain ⟨r,g1,x,b,gb,v,s,a,c,⟨ws,l,m⟩,d,g,n,o,p,q⟩:=h;have c1:=c.cell 1 rfl;have i:=ae (A4 d g);generalize Qc f 0 W=N at*;clear a c l m d g n o p q
 go_enter func160,ntmps160
 go_wp2_with fail
 refine i.out.mono ?_;rintro e w' ⟨rfl,rfl⟩;go_wp2;go_ret;exact ⟨rfl,rfl⟩
theorem Bg{lo A:Nat}{w:World}{t W k:Nat}{f:Nat->Bool}(h:mZ lo A w t W k f)(n:ee w)(K:Nat)(m:K<Qc f 0 W):Calls prog 249 #[t,(K:Int)] w (wY f W K w):=by
 obtain ⟨D,g1,x,b,gb,v,E,d,o,⟨ws,B,C⟩,p,q,r,s,u,y⟩:=h;have c1:=o.cell 1 rfl;have z:=ae (A1 p n q r s u y K m);clear d o B C p q r s u y n m
 go_enter func249,ntmps249
 go_wp2_with fail
 refine z.out.mono ?_;rintro e w' ⟨a,rfl,g,i,j,l⟩;have c:=ae (af g (af i (af j l)));clear g i j l;go_wp2;go_ret2;exact ⟨a,rfl,c.out.1,c.out.2.1,c.out.2.2.1,c.out.2.2.2⟩
end
section
open Go.RowKit Go.Shelf
theorem qm(f:Nat->Bool)(a n:Nat):(dy f a n).Pairwise (· < ·):=by
 grind [dy,List.pairwise_lt_range']
theorem kM{E:Nat->Nat}{W i:Nat}{x y:Nat×Nat}(d:(cj E W)[i]? =some x)(c:y∈(cj E W).take i):y.1<x.1:=by
 have hp:(cj E W).Pairwise (fun a b=>a.1<b.1):=by
  grind [cj,qm]
 rw [<-dU i (cj E W),List.pairwise_append] at hp;refine hp.2.2 y c x ?_;rw [bc];exact ⟨0,by grind⟩
def gX(lo hi:Nat)(w:World)(p W k:Nat)(E:Nat->Nat)(Ba:Nat):Prop:=
 ∃t o,lo<=p/\p<hi/\ay w p [.pointer (some ⟨t,0,none⟩),.pointer (some ⟨o,0,none⟩),(Ba:Int)] 232/\mZ lo hi w t W k (aw E)
theorem gX.frame{lo a:Nat}{S:Nat->Prop}{w w':World}{p W k Ba:Nat}{E:Nat->Nat}(h:gX lo a w p W k E Ba)(hf:Fr S w w')(b:∀i,S i->i<lo\/a<=i):gX lo a w' p W k E Ba:=by
 obtain ⟨t,o,c,d,e,f⟩:=h;exact ⟨t,o,c,d,e.frame hf (fun h=>by grind),f.frame hf b⟩
theorem mZ.wide{lo c a hi':Nat}{w:World}{t W k:Nat}{f:Nat->Bool}(h:mZ lo c w t W k f)(j:a<=lo)(l:c<=hi'):mZ a hi' w t W k f:=by
 obtain ⟨d,g1,x,b,gb,v,g,e,q⟩:=h;exact ⟨d,g1,x,b,gb,v,g,fun i c=>by grind,q⟩
def uT(L L':bT)(W k:Nat)(E:Nat->Nat)(tb ob t lo hi:Nat)(pre:List (Nat×Nat))(S:Nat->Prop)(w:World):Prop:=
 (S=L'.turns)/\sN L tb W E w/\ay w ob [L'.m] 165/\mZ lo hi w t W k (aw E)/\pre=(cj E W).take pre.length/\∃E',eo w L' W E'/\∀a,E' a≠0->(a,E' a)∈pre
theorem uT.stays{L L':bT}{W k:Nat}{E:Nat->Nat}{tb e t lo b B:Nat}(m:∀k,L.has k->k<B)(c:∀k,L'.has k->k<B)(g:tb<B)(j:e<B)(y:b<=B)(l:1<B):gm B (uT L L' W k E tb e t lo b):=by
 rintro n S W1 x T ⟨rfl,⟨o,p,q⟩,r,s,u,f,v,w⟩ hf z;have a:∀i,i<B->¬T i:=fun i b h=>by grind
 exact ⟨rfl,⟨o.frame hf (fun k d=>a k (m k d)),aE p hf (a _ l),q.frame hf (a _ g)⟩,r.frame hf (a _ j),s.frame hf (fun i b=> .inr (by grind)),u,f,v.frame hf (fun k d=>a k (c k d)),w⟩
theorem uT.step{L L':bT}{W k:Nat}{E:Nat->Nat}{tb g t lo e s n:Nat}{b:List (Nat×Nat)}{w w':World}{c:Nat->Nat}(d:sN L tb W E w)(f:ay w g [L'.m] 165)(q:mZ lo e w t W k (aw E))(hp:b=(cj E W).take b.length)
  (x:∀a,c a≠0->(a,c a)∈b) (v:(cj E W)[b.length]? =some (s,n)) (r:eo w' L' W (dR c s n)) (hf:Fr L'.turns w w') (i:∀k,L.has k->¬L'.turns k) (j:¬L'.turns tb) (l:¬L'.turns g) (o:∀k,L'.turns k->k<lo\/e<=k) (p:¬L'.turns 1):
  E9 (uT L L' W k E tb g t lo e) (b++[(s,n)]) L'.turns w w':=
 ⟨L'.turns,⟨rfl,⟨d.1.frame hf i,aE d.2.1 hf p,d.2.2.frame hf j⟩,f.frame hf l,q.frame hf o,pk hp v,dR c s n,r,fun a u=>by
  unfold dR at u ⊢
  grind⟩,hf,fun k h=> .inl h⟩
def Hb(W k:Nat)(E:Nat->Nat)(Ba:Nat)(w:World)(e:Ending)(w':World):Prop:=
 ∃p,e= .returned (.tuple #[.pointer (some ⟨p,0,none⟩),(0:Int)])/\gX w.heap.size w'.heap.size w' p W k E Ba/\J7 w w'
section
attribute [local go_sem] Oper.semAt_some
theorem Aa(d:Nat){w:World}{L:bT}{W k:Nat}{E:Nat->Nat}(h:eo w L W E)(hT:ee w)(y:bV (k:Int)=true)(az:1<=k)(aA:k<=1024)(Ba:Nat)(hb:Ba<2147483648):CallsIn Fence.wide d prog 152 #[L.m,(k:Int),(Ba:Int)] w (Hb W k E Ba w):=by
 refine callsIn_of_wp_marks func152 rfl trivial ?_ rfl;simp only [ntmps152,du,bG,cB,Nat.reduceAdd,Nat.reduceSub,cK,cJ,dv,cU,dz,dH];obtain ⟨ax,ak⟩:=h.small;have HO:=ae (callsIn_wide.1 (FW 0 h hT y az aA));have X:=ae h;have HT:=ae hT;have HV:=ae (fun w=>oJ W ax ak w);obtain ⟨B,hB⟩:∃B:Int,(Ba:Int)=B:=⟨_,rfl⟩;have aI:B<2147483648:=by omega
 have aN:0<=B:=by omega
 rw [hB];have HB:=ae hB;clear h hT y hb hB;gi_wp2;refine dZ (HO.out.mono ?_);rintro e w1 ⟨t,rfl,hO,j⟩;have ah:=ae (gU (X.out.frame j (fun _ _ h=>h)));have H1:=ae (af hO j);clear hO j HO;gi_wp2;refine dZ (ah.out.mono ?_);rintro e w' ⟨rfl,rfl⟩;gi_wp2;refine dZ ((HV.out _).mono ?_);rintro e w2 ⟨L',rfl,u,b,v⟩;obtain ⟨f,J⟩:∃f,w2.alloc (.cells #[L'.m] 165)=f:=⟨_,rfl⟩;have C:J7 w2 f:=by rw [<-J];exact (Kb _ w2).alloc _
 have F:ay f w2.heap.size [L'.m] 165:=by rw [<-J];exact ay.new w2 _ _
 have R:=ae (show f.heap.size=w2.heap.size+1 by rw [<-J];simp);have HA:=ae (jH L.m f);have H2:=ae (af u (af b (af v (af C F))));clear u b v C F HV ah;gi_wp2;clear J;refine dZ (HA.out.mono ?_);rintro e I ⟨rfl,M⟩;have V:J7 f I:=by rw [M];exact (Kb _ f).alloc _
 have an:ay I f.heap.size [L.m] 165:=by rw [M];exact ay.new f _ _
 have aj:=ae (show I.heap.size=f.heap.size+1 by rw [M];simp);obtain ⟨hO,j⟩:=H1.out;obtain ⟨u,b,v,C,F⟩:=H2.out;have A:J7 w2 I:=C.trans V J8;have z:J7 w1 I:=v.trans A J8;have q:J7 w I:=j.trans z J8;have ao:1<w.heap.size:=bu (HT.out 0 0 rfl);have ap:=j.size;have aq:=v.size;have aB:=R.out;have aC:=aj.out;have g:=u.lt;have T:uT L L' W k E f.heap.size w2.heap.size t w.heap.size w1.heap.size [] L'.turns I:=⟨rfl,⟨X.out.frame q (fun _ _ h=>h),aE HT.out q id,an⟩,F.frame V id,hO.frame z J8,rfl,fun _=>0,u.frame A (fun _ _ h=>h),fun a ha=>absurd rfl ha⟩;have o:gm I.heap.size (uT L L' W k E f.heap.size w2.heap.size t w.heap.size w1.heap.size):=uT.stays (fun k y=>by have:=X.out.lt k y;omega) (fun k y=>by have:=g k y;omega) (by omega) (by omega) (by omega) (by omega);have U:∀k,L'.turns k->k<I.heap.size:=fun k y=>by have:=g k (bT.Qh y);omega
 have H3:=ae (af q (af ap (af aq ao)));clear M V an hO j u b v C F A z q ao ap aq aB aC g HA;gi_wp2;refine iU (gf:=161) (lb:= #[f.heap.size]) rfl (enters_of func161 (by kernel_rfl) rfl) (encs:=mX) (fun _=>rfl) (jI (L:=L) (tb:=f.heap.size) (E:=E) ak) (uT L L' W k E f.heap.size w2.heap.size t w.heap.size w1.heap.size) L'.turns o (fun _ _ _ h=>h.2.1) U T
  ?a1 ?assign ?body ?done
 case assign=>
  intro k x W K hK;unfold mX;gi_wp2;exact hK
 case body=>
  intro l aS S x p hI r hf hs;obtain ⟨rfl,q1,Y,q5,Z,E',q7,q8⟩:=hI;obtain ⟨s,n⟩:=x;obtain ⟨m1,m2,m3⟩:=dG.1 (ar r);dsimp only at m1 m2 m3;have G:=X.out.top s m2;rw [<-m3] at G;have c:∀a,E' a≠0->a<s/\E' a=E a/\E a≠0:=fun a ha=>by
   have h1:=q8 a ha;have h2:=dG.1 (eN (by rw [<-Z];exact h1));exact ⟨kM r (by rw [<-Z];exact h1),h2.2.2,h2.2.1⟩
  obtain ⟨g1,g2,g3,g4⟩:=H3.out;obtain ⟨_,b,_⟩:=H2.out;have g:=H2.out.1.lt;have z3:=R.out;have ad:=ae (Ab q7 q1.2.1 s n (by omega) G (fun a ha=>by
   by_cases he:E' a=0
   ·omega
   ·obtain ⟨h1,h2,h3⟩:=c a he;rw [h2];exact X.out.apart a s h1 h3 m2) (fun a ha he=>by have:=(c a he).1;omega))
  have HE:=ae (fun H (r1:eo H L' W (dR E' s n)) (r2:Fr L'.turns p H)=>uT.step (tb:=f.heap.size) q1 Y q5 Z q8 r r1 r2 (fun k y O=>by have:=X.out.lt k y;have:=b k (bT.Qh O);omega) (fun O=>by have:=g _ (bT.Qh O);omega) (fun O=>by have:=g _ (bT.Qh O);omega) (fun k O=> .inr (by have:=b k (bT.Qh O);omega)) (fun O=>by have:=b _ (bT.Qh O);omega));have c0:=Y.cell 0 rfl;clear hf hs q1 Y q5 Z q7 q8 r G m1 m2 m3 T o c g1 g2 g3 g4 b g z3 U;gi_wp2;refine wM (ad.out.mono ?_);rintro e H ⟨rfl,r1,r2⟩;have av:=ae (HE.out H r1 r2);clear r1 r2 HE ad;gi_wp2;exact av.out
 case done=>
  intro D S p hI hD aP aR hf hs;obtain ⟨rfl,q1,Y,q5,Z,E',q7,q8⟩:=hI;have c0:=Y.cell 0 rfl;have Q:∀W2,W2=p.alloc (.cells #[t,L'.m,(B:Int)] 232)->gX w.heap.size (W2.putObj D (.deferred none)).heap.size (W2.putObj D (.deferred none)) p.heap.size W k E Ba/\J7 w (W2.putObj D (.deferred none)):=by
   rintro W2 rfl;obtain ⟨g1,g2,g3,g4⟩:=H3.out;obtain ⟨_,b,_⟩:=H2.out;have z3:=R.out;have z4:=aj.out;have aO:=hf.size;have aH:=(bE.1 hD).1;have al:J7 p (p.alloc (.cells #[t,L'.m,(B:Int)] 232)):=(Kb _ p).alloc _;have N:Fr (fun k=>k=D) (p.alloc (.cells #[t,L'.m,(B:Int)] 232)) ((p.alloc (.cells #[t,L'.m,(B:Int)] 232)).putObj D (.deferred none)):=(Kb _ _).putObj _ _ (.inl rfl);have aG:=N.size;rw [World.size_alloc] at aG;have am:ay (p.alloc (.cells #[t,L'.m,(B:Int)] 232)) p.heap.size [t,L'.m,(B:Int)] 232:=ay.new p _ _;refine ⟨⟨t,L'.m,by omega,by omega,by rw [HB.out];exact am.frame N (by omega),((q5.frame al J8).frame N (fun i hi=> .inr (by omega))).wide (ag _) (by omega)⟩,((g1.trans hf (fun k y=> .inr (by have:=b k (bT.Qh y);omega))).trans al J8).trans N (fun i hi=> .inr (by omega))⟩
  have P:=ae Q;have HD:=ae hD;clear hf hs q1 Y q5 Z q7 q8 T o U Q hD;gi_wp2;refine ⟨by simp,.inl ⟨_,_,rfl,run_takeDeferred (((Kb (fun _=>False) p).alloc _).heap HD.out id),?_⟩⟩;exact ⟨_,results_tmp2 rfl _ _ _,p.heap.size,rfl,(P.out _ rfl).1,(P.out _ rfl).2⟩
end
end
section
open Go.RowKit Go.Shelf
theorem ed{E:Nat->Nat}{W:Nat}(a:W<=1048576):Qc (aw E) 0 W<=1048576:=by grind [fM]
theorem tE{lo b:Nat}{w:World}{p W k Ba:Nat}{E:Nat->Nat}(h:gX lo b w p W k E Ba):Calls prog 230 #[p] w fun e w'=>e= .returned (Ba:Int)/\w=w':=by
 obtain ⟨t,o,c,d,a,f⟩:=h;have c2:=a.cell 2 rfl;clear c d a f
 go_enter func230,ntmps230
 go_wp2;go_ret;exact ⟨rfl,rfl⟩
theorem rQ{lo d:Nat}{w:World}{p W k Ba:Nat}{E:Nat->Nat}(h:gX lo d w p W k E Ba):Calls prog 111 #[p] w fun e w'=>e= .returned (.int .i64 ((Qc (aw E) 0 W:Nat):Int))/\w=w':=by
 obtain ⟨t,o,f,g,a,b⟩:=h;have i:=a.cell 0 rfl;have c:=ae (td b);clear f g a b
 go_enter func111,ntmps111
 go_wp2_with fail
 refine c.out.mono ?_;rintro e w' ⟨rfl,rfl⟩;go_wp2;go_ret;exact ⟨rfl,rfl⟩
theorem gX.off{lo a:Nat}{w:World}{p W k Ba:Nat}{E:Nat->Nat}(h:gX lo a w p W k E Ba):W<=1048576:=by
 obtain ⟨t,o,g,i,j,e,g1,x,b,gb,v,f,c,l,⟨ws,d,m⟩,_⟩:=h;exact d.small
theorem kw{lo i:Nat}{w:World}{p W k Ba:Nat}{E:Nat->Nat}(h:gX lo i w p W k E Ba)(u:Ba<=1048576):Calls prog 118 #[p] w fun e w'=>e= .returned (.int .i64 ((Ba+Qc (aw E) 0 W:Nat):Int))/\J7 w w':=by
 have s:=ed (E:=E) h.off;obtain ⟨t,o,j,l,b,c⟩:=h;have r:=b.drew.cell 0 rfl;have c2:=b.drew.cell 2 rfl;have f:=ae (td (c.frame ((Kb (fun _=>False) w).drew) J8));have d:=ae ((Kb (fun _=>False) w).drew);rw [show ((Ba+Qc (aw E) 0 W:Nat):Int)=(Ba:Int)+((Qc (aw E) 0 W:Nat):Int) by omega];generalize Qc (aw E) 0 W=N at*;have n:(Ba:Int)<=1048576:=by omega
 have q:(N:Int)<=1048576:=by omega
 clear j l b c
 go_enter func118,ntmps118
 go_wp2;refine aV (fun w'=>w'=w.drew) (by kernel_rfl) rfl ?_;refine aL [p,p,.pointer (some ⟨p,2,none⟩)] ?_
 iterate 3 (refine aM rfl (fun m g=>by go_simp) ?_;simp only [aa])
 refine aK ?_;refine ai (Ba:Int) rfl (fun w a=>by subst a;go_simp) ?_;simp only [aa];refine aL [p,p,p] ?_
 iterate 3 (refine aM rfl (fun m g=>by go_simp) ?_;simp only [aa])
 refine aK ?_;refine ai t rfl (fun w a=>by subst a;go_simp) ?_;simp only [aa];refine bf (.int .i64 N) 160 #[t] rfl (fun w=>by go_simp) (fun w a=>by subst a;exact f.out.mono fun e w' h=>⟨h.1,h.2.symm⟩) ?_;simp only [aa];refine ai (.int .i64 ((Ba:Int)+(N:Int))) rfl (fun w a=>by go_simp;rw [IntKind.wrap_i64];omega) ?_;simp only [aa];refine ai (.int .i64 ((Ba:Int)+(N:Int))) rfl (fun w a=>by go_simp) ?_;simp only [aa];refine wpQuiet_nil ?_;rintro w2 rfl;go_wp2;go_ret;exact ⟨rfl,d.out⟩
theorem uA{lo v:Nat}{w:World}{p W k Ba:Nat}{E:Nat->Nat}(h:gX lo v w p W k E Ba)(F:Ba<=1048576)(a:Nat)(q:aw E a=true)(b:a<W):Calls prog 155 #[p,(a:Int)] w fun e w'=>e= .returned (.tuple #[(((goes E Ba a:Nat):Int):Int),(0:Int)])/\J7 w w':=by
 have D:=h.off;have u:=fM (aw E) a;obtain ⟨t,o,x,y,f,j⟩:=h;have C:=f.cell 0 rfl;have n:=ae (FY j a b);rw [q] at n;have l:=ae (fun w' (hf:J7 w.drew w')=>vG ((j.frame ((Kb (fun _=>False) w).drew) J8).frame hf J8) a (by omega));rw [gN (ea b)] at l;have m:=ae (fun w' (hf:J7 w.drew w')=>(af ((f.drew.frame hf id).cell 0 rfl) ((f.drew.frame hf id).cell 2 rfl)));have r:=ae ((Kb (fun _=>False) w).drew);unfold goes;rw [show ((Ba+Qc (aw E) 0 a:Nat):Int)=(Ba:Int)+((Qc (aw E) 0 a:Nat):Int) by omega];generalize Qc (aw E) 0 a=N at*;have A:(Ba:Int)<=1048576:=by omega
 have B:(N:Int)<=1048576:=by omega
 clear x y f j q
 go_enter func155,ntmps155
 go_wp2_with fail
 refine n.out.mono ?_;rintro e w' ⟨rfl,rfl⟩;go_wp2;refine aV (fun w'=>J7 w.drew w') (by kernel_rfl) (Kb _ _) ?_;refine aL [p,p,.pointer (some ⟨p,2,none⟩),(Ba:Int),p,p,p,t,(a:Int)] ?_
 iterate 9 (refine aM rfl (fun z g=>by first|(go_simp;done)|(have d:=(m.out _ g).2;go_simp;done)|(have d:=(m.out _ g).1;go_simp;done)) ?_;simp only [aa])
 refine aK ?_;refine bf (.int .i64 N) 190 #[t,(a:Int)] rfl (fun w=>by go_simp) (fun w i=>(l.out w i).mono fun e w' h=>⟨h.1,i.trans h.2 J8⟩) ?_;simp only [aa];refine ai (.int .i64 ((Ba:Int)+(N:Int))) rfl (fun w i=>by go_simp;rw [IntKind.wrap_i64];omega) ?_;simp only [aa];refine aL [(((Ba:Int)+(N:Int)):Int),(0:Int)] ?_
 iterate 2 (refine aM rfl (fun z g=>by go_simp) ?_;simp only [aa])
 refine aK ?_;refine wpQuiet_nil ?_;intro w2 c;have s:=ae (r.out.trans c J8);clear c;go_wp2;go_ret2;exact ⟨rfl,s.out⟩
def Ai(E:Nat->Nat)(Ba W b a:Nat):Prop:=a<W/\aw E a=true/\goes E Ba a=b
theorem rW{E:Nat->Nat}{Ba W b:Nat}(e:Ba<=b)(f:b<Ba+Qc (aw E) 0 W):∃a,Ai E Ba W b a:=by
 obtain ⟨a,_,c,d,g⟩:=uq (aw E) 0 W (b-Ba) (by omega);exact ⟨a,c,d,by unfold goes;omega⟩
theorem pK{lo P:Nat}{w:World}{p W k Ba:Nat}{E:Nat->Nat}(h:gX lo P w p W k E Ba)(G:ee w)(O:Ba<=1048576)(b a:Nat)(j:Ai E Ba W b a):Calls prog 243 #[p,(b:Int)] w fun e w'=>e= .returned (.tuple #[(a:Int),(0:Int)])/\J7 w w':=by
 have L:=h.off;have C:=ae (kw h O);obtain ⟨D,s,F⟩:=id j;have v:=fM (aw E) a;have y:=pP (ao a) D s;unfold goes at F;have x:=ed (E:=E) L;have i:=ae (fun w1 (hf:J7 w w1) w' (f:J7 w1.drew w')=>(show Calls prog 249 #[.pointer (some ⟨(h.choose),0,none⟩),(((b:Int)-(Ba:Int)):Int)] w' fun e w2=>e= .returned (.tuple #[(a:Int),.bool true])/\J7 w' w2 from by
  obtain ⟨o,H,I,n,A⟩:=h.choose_spec;have l:J7 w w':=(hf.drew).trans f J8;rw [show (b:Int)-(Ba:Int)=((b-Ba:Nat):Int) by omega];refine (Bg (A.frame l J8) (aE G l id) (b-Ba) (by omega)).mono ?_;rintro e w2 ⟨K,rfl,X,Q,Y,R⟩;have:K=a:=rp (a:=0) (ao _) (ao _) Q s (by omega);rw [this];exact ⟨rfl,R⟩))
 obtain ⟨o,H,I,n,A⟩:=h.choose_spec;generalize h.choose=t at*;have c2:=n.cell 2 rfl;have B:=ae (fun w1 (hf:J7 w w1) w' (f:J7 w1.drew w')=>(af (((n.frame hf id).drew.frame f id).cell 0 rfl) (((n.frame hf id).drew.frame f id).cell 2 rfl)));rw [show ((Ba+Qc (aw E) 0 W:Nat):Int)=(Ba:Int)+((Qc (aw E) 0 W:Nat):Int) by omega] at C;generalize Qc (aw E) 0 W=N at*;generalize Qc (aw E) 0 a=M at*;have T:(Ba:Int)<=(b:Int):=by omega
 have U:(b:Int)<(Ba:Int)+(N:Int):=by omega
 have V:(b:Int)<=2097152:=by omega
 clear H I n A G j D s F v y x
 go_enter func243,ntmps243
 go_wp2_with fail
 refine C.out.mono ?_;rintro e w1 ⟨rfl,c⟩;have g:=ae (B.out w1 c);have r:=ae (i.out w1 c);have q:=ae c;clear c B i c2;go_wp2;refine aV (fun w'=>J7 w1.drew w') (by kernel_rfl) (Kb _ _) ?_;refine aL [p,p,p,t,(b:Int),p,p,.pointer (some ⟨p,2,none⟩),(Ba:Int)] ?_
 iterate 9 (refine aM rfl (fun S u=>by first|(go_simp;done)|(have d:=(g.out _ u).1;go_simp;done)|(have d:=(g.out _ u).2;go_simp;done)) ?_;simp only [aa])
 refine aK ?_;refine ai (.int .i64 ((b:Int)-(Ba:Int))) rfl (fun w z=>by go_simp;rw [IntKind.wrap_i64];omega) ?_;simp only [aa];refine bf (.tuple #[(a:Int),.bool true]) 249 #[t,(((b:Int)-(Ba:Int)):Int)] rfl (fun w=>by go_simp) (fun w z=>(r.out w z).mono fun e w' h=>⟨h.1,z.trans h.2 J8⟩) ?_;simp only [aa];refine aL [.tuple #[(a:Int),.bool true],(a:Int),.bool true,(a:Int),.bool true] ?_
 iterate 5 (refine aM rfl (fun S u=>by go_simp) ?_;simp only [aa])
 refine aK ?_;refine wpQuiet_nil ?_;intro w2 m;have J:=ae ((q.out.drew).trans m J8);clear m;go_wp2;go_ret2;exact ⟨rfl,J.out⟩
end
end Go.Proofs.YtgnoapadkncphaaGreatDoor
