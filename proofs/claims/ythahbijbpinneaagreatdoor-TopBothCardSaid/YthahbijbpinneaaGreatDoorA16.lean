import Derived.Test.YthahbijbpinneaaGreatDoorA10
import Derived.Test.YthahbijbpinneaaGreatDoorA13
import Derived.Test.YthahbijbpinneaaGreatDoorA14
import Derived.Test.YthahbijbpinneaaGreatDoorA15
set_option maxRecDepth 100000
set_option maxHeartbeats 8000000
set_option linter.all false
namespace Go.Proofs.YthahbijbpinneaaGreatDoor
open Go.RowKit Go.Proofs.Tryz
section
variable{b:Nat}{c:Cf}{A A':AG}{rs rs' l:List Nat}{T:Nat->Prop}{w0 w w':World}{u n:Nat}
theorem DO{w1:World}{Ba:Nat}{v:Value}(h:w1.ownsRow Ba 3 1 v 5 [(3:Int),(4:Int),(5:Int),(6:Int),(7:Int)]):∃g cap,v= .slice (some ⟨g,0,none⟩) 5 cap/\Ba<=g/\5<=cap/\cap<=maxLen/\∀w2,GM w1 w2->∀j:Nat,j<5->w2.cell? ⟨g,j,none⟩=some (.int .i64 ((3+j:Nat):Int)):=by
 obtain ⟨_,⟨_,a⟩|⟨g,cap,cur,rfl,d,i,e,f,k,m⟩⟩:=id h
 ·cases a
 ·refine ⟨g,cap,rfl,d,e,f,fun w2 hf j o=> ?_⟩;rw [World.cell?_of_block (w:=w1) (hf.block g (World.block_lt_of_cell? _ ⟨g,0,none⟩ (h.cellAt 0 (by omega))) id),h.cellAt j (by omega)];rcases (show j=0\/j=1\/j=2\/j=3\/j=4 by omega) with rfl|rfl|rfl|rfl|rfl<;>rfl
theorem De(hi:eX b c A [0,0,0,0,0,0,0,0] u n T w)(hc:c.Sl=8):Calls prog 30 #[b,(3:Int),.agg #[(4:Int),(5:Int),(6:Int),(7:Int)]] w fun e w'=>At b c A T (ot b) 158 w e w':=by
 have HS:=ae hc;have HI:=ae hi;obtain ⟨i0,ai,an,ao,ap⟩:=info_parts iP;obtain ⟨y,_⟩:=hi.cf;have aj:¬(c.kind:Int)=0:=by have:=y.Yj;omega
 have ax:((c.kind:Int)==0)=false:=by simpa using aj
 have Z:(c.Sl:Int)=8:=by omega
 obtain ⟨r,C⟩:∃r,w.alloc (.cells #[(4:Int),(5:Int),(6:Int),(7:Int)] 68)=r:=⟨_,rfl⟩;have F:GM w r:=by rw [<-C];exact (GQ _ w).alloc _
 have Q:aJ r w.heap.size [(4:Int),(5:Int),(6:Int),(7:Int)] 68:=by rw [<-C];exact aJ.new w _ _
 have m:=ae (fun wr (hf:GM w wr)=>uN (hi.Qa hf));have HB:=ae (fun wr (hf:GM r wr)=>(show wr.cell? w.heap.size=some (4:Int)/\wr.cell? ⟨w.heap.size,1,none⟩=some (5:Int)/\wr.cell? ⟨w.heap.size,2,none⟩=some (6:Int)/\wr.cell? ⟨w.heap.size,3,none⟩=some (7:Int) from have g:aJ wr _ _ _:=Q.frame hf id;⟨g.cell 0 rfl,g.cell 1 rfl,g.cell 2 rfl,g.cell 3 rfl⟩));have d:=ae F;unfold pE at m;rw [Z] at m;have I:=ae (m.out r F);clear hi hc y F Q Z
 go_enter func30,ntmps30
 go_wp2_with fail
 refine I.out.mono ?_;rintro e w1 ⟨rfl,S⟩;have V:(Instr.field 24 (.agg #[((c.kind:Int):Int),((c.Pg:Int):Int),((c.block:Int):Int),((c.Wd:Int):Int),(8:Int),((c.stack:Int):Int),((c.Ah:Int):Int),.float .f64 c.Qu]) 0).run prog w1= .ok (.int .i64 (c.kind:Int)) w1:=by kernel_rfl
 clear I C;have o:=ae S;clear S;go_wp2_with (at_builtin;refine Hid.out ?_)
 unfold Hid;have W:(w1.alloc (.cells #[(3:Int)] 3)).ownsRow w.heap.size 3 1 (.slice (some w1.heap.size) 1 1) 1 [(3:Int)]:=⟨rfl,.inr ⟨w1.heap.size,1,_,rfl,(d.out.trans o.out GN).size,heap_alloc_new w1 _,ak _,by unfold maxLen;omega,rfl,rfl⟩⟩;have t:GM r (w1.alloc (.cells #[(3:Int)] 3)):=o.out.alloc _;obtain ⟨z0,z1,z2,z3⟩:=HB.out _ t;have az:w.heap.size<=w1.heap.size:=(d.out.trans o.out GN).size;have Y:r.heap.size<=w1.heap.size:=o.out.size;refine wpList_append_own _ rfl _ _ 123 rfl w.heap.size 3 i0 (.int .i64 0) 1 8 underlying123 ai an ao ap rfl (by decide) _ 1 [(3:Int)] rfl W ⟨w.heap.size,0,none⟩ 4 4 [(4:Int),(5:Int),(6:Int),(7:Int)] rfl rfl ?_ ?_ (by unfold maxLen;omega) (by omega) (by have:=(d.out.trans t GN).size;omega) ?_
 ·intro j v hj;have aw:j<4:=(al.1 hj).1;rcases (show j=0\/j=1\/j=2\/j=3 by omega) with rfl|rfl|rfl|rfl<;>(obtain rfl:=bf hj;assumption)
 ·intro v hv;simp only [bM,bq,fD] at hv;rcases hv with rfl|rfl|rfl|rfl<;>rfl
 intro v' w2 ho X am;clear am;have U:GM r w2:=t.trans (Fr.Qm X) (fun k hk=>by
  right;have e:w1.heap.size=k:=bf hk;omega)
 obtain ⟨g,cap,rfl,av,ar,au,R⟩:=DO ho;have q:=ae R;have N:=ae U;clear W t z0 z1 z2 z3 Y ho X R U V o;go_wp2
 go_loopw [26] (fun z wr=>∃j:Nat,z= .int .i64 j/\j<=5/\Hid (GM w2 wr)) (fun z _=>(5-intOf z).toNat)
 case atStart=>exact ⟨0,rfl,by omega,ae (GQ _ _)⟩
 case round=>
  obtain ⟨j,rfl,hj,a⟩:=hrel;by_cases p:j<5
  ·have c1:(j:Int)<5:=by omega
   have c2:¬((3+j:Nat):Int)<0:=by omega
   have c3:¬(8:Int)<=((3+j:Nat):Int):=by omega
   have cj:=q.out _ a.out j p;have K:=ae (fun w3 (hf:GM wr w3)=>m.out w3 (d.out.trans ((N.out.trans a.out GN).trans hf GN) GN));have L:=ae (K.out wr (GQ _ _));clear K;generalize aq:((3+j:Nat):Int)=J at*;go_wp2_with fail
   refine L.out.mono ?_;rintro e w3 ⟨rfl,f⟩;have af:(Instr.field 24 (.agg #[((c.kind:Int):Int),((c.Pg:Int):Int),((c.block:Int):Int),((c.Wd:Int):Int),(8:Int),((c.stack:Int):Int),((c.Ah:Int):Int),.float .f64 c.Qu]) 4).run prog w3= .ok (.int .i64 8) w3:=by kernel_rfl
   have O:=ae (a.out.trans f GN);clear L f a cj;go_wp2;go_roundw
   case rel=>exact ⟨j+1,by go_num,by omega,O⟩
   case measure=>simp [intOf];omega
  ·have c1:¬(j:Int)<5:=by omega
   obtain rfl:j=5:=by omega
   have HR:=ae a.out;clear a p hj m;go_wp2
   go_loopw [42] (fun z wr=>∃i:Nat,z= .int .i64 i/\i<=5/\Hid (GM w2 wr)) (fun z _=>(5-intOf z).toNat)
   case atStart=>exact ⟨0,rfl,by omega,HR⟩
   case round=>
    clear HR;obtain ⟨i,rfl,ah,a⟩:=hrel;by_cases p:i<5
    ·have c1:(i:Int)<5:=by omega
     have ci:=q.out _ a.out i p;have P:=ae a.out;clear a;go_wp2
     go_loopw [51] (fun z wr=>∃k:Nat,z= .int .i64 k/\k<=i/\Hid (GM w2 wr)) (fun z _=>(i-intOf z).toNat)
     case atStart=>exact ⟨0,rfl,by omega,P⟩
     case round=>
      clear P ci;obtain ⟨k,rfl,hk,a⟩:=hrel;by_cases ay:k<i
      ·have c2:(k:Int)<(i:Int):=by omega
       have ck:=q.out _ a.out k (by omega);have c3:¬((3+i:Nat):Int)=((3+k:Nat):Int):=by omega
       have c4:(((3+i:Nat):Int)==((3+k:Nat):Int))=false:=by simpa using c3
       have O:=ae a.out;clear a;go_wp2;go_roundw
       case rel=>exact ⟨k+1,by go_num,by omega,O⟩
       case measure=>simp [intOf];omega
      ·have c2:¬(k:Int)<(i:Int):=by omega
       have O:=ae a.out;clear a;go_wp2;go_roundw
       case rel=>exact ⟨i+1,by go_num,by omega,O⟩
       case measure=>simp [intOf];omega
    ·have c1:¬(i:Int)<5:=by omega
     obtain rfl:i=5:=by omega
     have x:=N.out.trans a.out GN;obtain ⟨z0,z1,z2,z3⟩:=HB.out _ x;obtain ⟨W3,D⟩:∃W3,wr.alloc (.cells #[b,(3:Int),(4:Int),(5:Int),(6:Int),(7:Int)] 158)=W3:=⟨_,rfl⟩;have f:GM w W3:=by rw [<-D];exact (d.out.trans x GN).alloc _
     have E:aJ W3 wr.heap.size (ot b) 158:=by rw [<-D];exact aJ.new wr _ _
     have B:w.heap.size<=wr.heap.size:=(d.out.trans x GN).size;have G:¬T wr.heap.size:=fun h=>by have:=HI.out.lt _ h;omega
     have M:=ae (ag f (ag E (ag B G)));have hp:=(HI.out.Qa f).Xm;have H:=ae (hp.clear (s:=3) (by rw [HS.out];omega));obtain ⟨k0,k1,k2,k3,k4,k5⟩:=bN E G hp;clear f E B G hp a x p ah q;go_wp2_with fail
     refine H.out.mono ?_;rintro e w4 ⟨rfl,h⟩;have H4:=ae (AO M.out.2.1 M.out.2.2.2 HS.out h);clear H h D k0 k1 k2 k3 k4 k5 z0 z1 z2 z3;go_wp2_with fail
     refine H4.out.mono ?_;rintro e w5 ⟨rfl,h⟩;have ad:=ae (At.of HI.out M.out.1 M.out.2.1 M.out.2.2.1 h);clear H4 h;go_wp2;refine bodyPost_ret (results_tmp2 rfl _ _ _) rfl ?_;exact ad.out
end
def ll(l:List (Nat×Nat)):List Value:=l.flatMap (fun p=>[.int .u64 (p.1:Int),.int .u64 (p.2:Int)])
theorem ie:∀l:List (Nat×Nat),(ll l).length=l.length*2
 |[]=>rfl
 |p::l=>by unfold ll;rw [List.flatMap_cons,aH];have:=ie l;unfold ll at this;rw [this];simp only [bn,ch];omega
theorem me(l m:List (Nat×Nat)):ll (l++m)=ll l++ll m:=by unfold ll;rw [List.flatMap_append]
theorem xK(a f:Nat):ll [(a,f)]=[.int .u64 a,.int .u64 f]:=rfl
theorem oI:∀{l:List (Nat×Nat)} {i:Nat} (h:i<l.length),(ll l)[i*2]? =some (.int .u64 (l[i].1:Int))/\(ll l)[i*2+1]? =some (.int .u64 (l[i].2:Int))
 |p::l,0,_=>⟨rfl,rfl⟩
 |p::l,i+1,h=>by
  have:=oI (l:=l) (i:=i) (by simpa using h);rw [show (i+1)*2=i*2+2 by omega];exact this
def jx(ty e:TypeId)(mb:Nat)(l:List (Nat×Nat))(Rm:Nat)(S:Nat->Prop)(w:World):Prop:=
 ∃p cap,aJ w mb [.slice p l.length cap,(Rm:Int)] ty/\w.ownsRow 0 e 2 (.slice p l.length cap) l.length (ll l)/\(∀k,(Value.slice p l.length cap).ownBlock=some k->k≠mb)/\∀k,S k↔k=mb\/(Value.slice p l.length cap).ownBlock=some k
def pI(ty e:TypeId)(mb:Nat)(l:List (Nat×Nat))(Rm:Nat)(S:Nat->Prop)(w w':World):Prop:=∃S',jx ty e mb l Rm S' w'/\Fr S w w'/\∀k,S' k->S k\/w.heap.size<=k
section
variable{ty e:TypeId}{mb Rm a f:Nat}{l l':List (Nat×Nat)}{S T:Nat->Prop}{w w' w'':World}
theorem jx.stays(h:jx ty e mb l Rm S w)(hf:Fr T w w')(c:∀k,S k->¬T k):jx ty e mb l Rm S w':=by
 obtain ⟨p,cap,d,g,i,b⟩:=h;exact ⟨p,cap,d.frame hf (c _ ((b _).2 (.inl rfl))),aO g hf (fun k j=>c _ ((b _).2 (.inr j))),i,b⟩
theorem jx.Qa(h:jx ty e mb l Rm S w)(hf:GM w w'):jx ty e mb l Rm S w':=h.stays hf (fun _ _ h=>h)
theorem jx.lt(h:jx ty e mb l Rm S w):∀k,S k->k<w.heap.size:=by
 obtain ⟨p,cap,c,d,i,g⟩:=h;intro k b;rcases (g k).1 b with rfl|b
 ·exact c.lt
 ·exact (d.lt k b).2
theorem jx.self(h:jx ty e mb l Rm S w)(hf:GM w w'):pI ty e mb l Rm S w w':=⟨S,h.Qa hf,hf.mono GN,fun _ h=> .inl h⟩
theorem jx.putI{d:Option Addr}{n' b:Nat}{c:List Value}(h:jx ty e mb l Rm S w)(hf:Fr S w w')(s:l'.length=n')(t:w'.ownsRow 0 e 2 (.slice d n' b) n' (ll l'))(q:aJ w' mb c ty)(r:c.set 0 (.slice d n' b)=[.slice d n' b,.int .i64 Rm])(n:∀k,(Value.slice d n' b).ownBlock=some k->(S k/\k≠mb)\/w.heap.size<=k):jx ty e mb l' Rm (fun k=>k=mb\/(Value.slice d n' b).ownBlock=some k) (w'.setCell mb (.slice d n' b))/\Fr S w (w'.setCell mb (.slice d n' b))/\∀k,(k=mb\/(Value.slice d n' b).ownBlock=some k)->S k\/w.heap.size<=k:=by
 subst s;obtain ⟨_,_,o,u,v,p⟩:=h;have x:=o.lt;have i:S mb:=(p _).2 (.inl rfl);have m:∀k,(Value.slice d l'.length b).ownBlock=some k->k≠mb:=fun k g e=>by
  rcases n k g with ⟨_,h⟩|h
  ·exact h e
  ·omega
 have j:Fr (fun k=>k=mb) w' (w'.setCell mb (.slice d l'.length b)):=(GQ (fun k=>k=mb) w').setCell _ (.inl rfl) _;refine ⟨⟨d,b,by rw [<-r];exact q.set 0 _,aO t j (fun k g e=>m k g e),m,fun k=>dX⟩,hf.trans j (fun k g=> .inl (g▸i)),fun k g=> ?_⟩;rcases g with rfl|g
 ·exact .inl i
 ·exact (n k g).imp (fun h=>h.1) id
theorem jx.put{d:Option Addr}{n' b:Nat}{c:List Value}(h:jx ty e mb l Rm S w)(hf:Fr S w w')(j:l'.length=n')(m:w'.ownsRow 0 e 2 (.slice d n' b) n' (ll l'))(g:aJ w' mb c ty)(i:c.set 0 (.slice d n' b)=[.slice d n' b,.int .i64 Rm])(n:∀k,(Value.slice d n' b).ownBlock=some k->(S k/\k≠mb)\/w.heap.size<=k):pI ty e mb l' Rm S w (w'.setCell mb (.slice d n' b)):=⟨_,h.putI hf j m g i n⟩
theorem oH:∀{l:List (Nat×Nat)},∀u∈ll l,u.oneCell'=true:=by
 intro l u b;unfold ll at b;obtain ⟨p,_,hp⟩:=List.mem_flatMap.1 b;simp only [bM,bq,fD] at hp;rcases hp with rfl|rfl<;>rfl
end
theorem qM:(prog.info? 84).map (fun i=>(i.zero,i.size,i.bytes))=some (some (.agg #[.int .u64 0,.int .u64 0]),2,16):=by kernel_rfl
theorem qL:(prog.info? 93).map (fun i=>(i.zero,i.size,i.bytes))=some (some (.agg #[.int .u64 0,.int .u64 0]),2,16):=by kernel_rfl
section
variable{mb Rm a f:Nat}{l l':List (Nat×Nat)}{S T:Nat->Prop}{w w' w'':World}
theorem A5(h:jx 72 84 mb l Rm S w)(X:l.length<=1000):Calls prog 32 #[mb,.int .u64 a,.int .u64 f] w fun e w'=>(Rm<=l.length/\e= .returned (21:Int)/\pI 72 84 mb l Rm S w w')\/(l.length<Rm/\e= .returned (0:Int)/\pI 72 84 mb (l++[(a,f)]) Rm S w w'):=by
 have I:=ae h;obtain ⟨p,cap,u,F,r,D⟩:=h;obtain ⟨P,K,A,B,C⟩:=info_parts qM;obtain ⟨H,Q,_⟩:=GS u;by_cases E:Rm<=l.length
 ·have c1:(Rm:Int)<=(l.length:Int):=by omega
  clear u F r D K A B C
  go_enter func32,ntmps32
  go_wp2;refine bG 9 ?_;simp only [ai,an,aj,ao]
  repeat (go_big_quiet_step (fail))
  refine wpQuiet_nil ?_;rintro V ⟨q0,rfl⟩;go_wp2;go_ret;exact .inl ⟨E,rfl,I.out.self ((GQ _ w).drewN q0)⟩
 ·have c1:¬(Rm:Int)<=(l.length:Int):=by omega
  have n:=ae (ag u (ag F (ag r D)));clear u F r D
  go_enter func32,ntmps32
  go_wp2;refine bG 9 ?_;simp only [ai,an,aj,ao]
  repeat (go_big_quiet_step (fail))
  refine wpQuiet_nil ?_;rintro V ⟨q0,rfl⟩;clear H Q;obtain ⟨w2,m⟩:∃w2,w2=w.drewN q0:=⟨_,rfl⟩;have d:GM w w2:=by rw [m];exact (GQ _ w).drewN q0
  have v:aJ w2 mb _ _:=n.out.1.frame d id;have H:=v.cell 0 rfl;rw [<-m];have M:=ae (show w2.heap.size=w.heap.size by rw [m];rfl);clear m;go_wp2_with (at_builtin;refine Hid.out ?_)
  unfold Hid;have b:GM w2 (w2.alloc (.cells #[.int .u64 a,.int .u64 f] 84)):=(GQ _ w2).alloc _;have o:aJ (w2.alloc (.cells #[.int .u64 a,.int .u64 f] 84)) w2.heap.size [.int .u64 a,.int .u64 f] 84:=aJ.new w2 _ _;have y:=cD (cD n.out.2.1 d (fun _ _ h=>h)) b (fun _ _ h=>h);refine wpList_append_own_at _ rfl _ _ 70 rfl 0 84 P _ 2 16 underlying70 K A B C rfl (by decide) _ l.length (ll l) rfl y ⟨w2.heap.size,0,none⟩ 1 1 [.int .u64 a,.int .u64 f] rfl rfl ?_ ?_ (by unfold maxLen;omega) (by omega) (aF _) ?_
  ·intro j R N;have:=o.cell j N;rwa [show ((⟨w2.heap.size,0,none⟩:Addr).add j)=⟨w2.heap.size,j,none⟩ by unfold Addr.add;split<;>simp_all]
  ·intro R z;simp only [bM,bq,fD] at z;rcases z with rfl|rfl<;>rfl
  ·intro U w3 s hg _ t;obtain ⟨g,J,rfl⟩:∃g cap,U= .slice (some ⟨g,0,none⟩) (l.length+1) cap:=by
    rcases s.2 with ⟨_,h⟩|⟨g,cap,_,h,_⟩
    ·omega
    ·exact ⟨g,cap,h⟩
   have q:Fr (fun k=>(Value.slice p l.length cap).ownBlock=some k) w w3:=((d.trans b GN).mono GN).trans (Fr.Qm hg) (fun k i=> .inl i);have x:Fr S w w3:=q.mono (fun k i=> .inl ((n.out.2.2.2 k).2 (.inr i)));have c:aJ w3 mb _ _:=n.out.1.frame q (fun h=>n.out.2.2.1 _ h rfl);have G:=b.size;have L:=ae (I.out.put (l':=l++[(a,f)]) (n':=l.length+1) x (by simp) (by rw [me,xK];exact s) c rfl (fun k i=>by
    rcases t with t|t
    ·rw [t] at i;exact .inl ⟨(n.out.2.2.2 k).2 (.inr i),n.out.2.2.1 k i⟩
    ·rw [t] at i;have e:=bf i;right;have O:=(d.trans b GN).size;omega))
   have Y:=c.cell 0 rfl;have W:=c.free 0;clear b o y s hg t q x c G H v n;go_wp2;go_ret;exact .inr ⟨by omega,rfl,L.out⟩
end
section
variable{mb Rm a f:Nat}{l l':List (Nat×Nat)}{S T:Nat->Prop}{w w' w'':World}
theorem Fr.new2{w W:World}{q:Nat}{v0 v1:Value}(h:Fr S w W)(b:w.heap.size<=q):Fr S w ((W.setCell q v0).setCell ⟨q,1,none⟩ v1):=(h.setCell _ (.inr b) _).setCell _ (.inr b) _
theorem lF{W:World}{q:Nat}{v0 v1 b c:Value}{t:TypeId}(h:aJ W q [b,c] t):aJ ((W.setCell q v0).setCell ⟨q,1,none⟩ v1) q [v0,v1] t:=(h.set 0 v0).set 1 v1
theorem A6(h:jx 72 84 mb [] Rm S w):Calls prog 34 #[mb] w fun e w'=>(∃v,e= .returned (.tuple #[v,(6:Int)]))/\pI 72 84 mb [] Rm S w w':=by
 have m:=ae h;obtain ⟨p,cap,k,_,_,_⟩:=h;obtain ⟨g,d⟩:∃g,w.alloc (.cells #[.int .u64 0,.int .u64 0] 84)=g:=⟨_,rfl⟩;have c:GM w g:=by rw [<-d];exact (GQ _ w).alloc _
 have b:aJ g w.heap.size [.int .u64 0,.int .u64 0] 84:=by rw [<-d];exact aJ.new w _ _
 have j:Hid ((prog.info? 84).map (·.size)=some 2):=by show _=_;kernel_rfl
 have y:=(aJ.frame k c id).cell 0 rfl;obtain ⟨u,x,_⟩:=GS b;have s:=b.free 0;have t:=b.free 1;have i:=ae (ag b c);obtain ⟨q,r⟩:∃q,w.heap.size=q:=⟨_,rfl⟩;rw [r] at i u x s t;have n:=ae (show w.heap.size<=q by omega);have o:mb≠q:=by have:=k.lt;omega
 clear k c b
 go_enter func34,ntmps34
 go_wp2;refine bodyPost_ret (ee rfl _ _ _ _ _ _ _ rfl (lF i.out.1) underlying84 rfl j.out) rfl ?_;exact ⟨⟨_,rfl⟩,m.out.self (i.out.2.new2 n.out)⟩
theorem Dl{x:Nat×Nat}(h:jx 72 84 mb (l++[x]) Rm S w)(hl:l.length<=1000):Calls prog 34 #[mb] w fun e w'=>(∃v,e= .returned (.tuple #[v,(0:Int)]))/\pI 72 84 mb l Rm S w w':=by
 have HI:=ae h;obtain ⟨p,cap,hb,ho,V,hS⟩:=h;obtain ⟨i0,hi,aj,am,an⟩:=info_parts qM;have F:(l++[x]).length=l.length+1:=by simp
 rw [F] at hb ho V hS;obtain ⟨g,rfl,af⟩:∃g,p=some ⟨g,0,none⟩/\l.length+1<=cap:=by
  rcases ho.2 with ⟨_,h⟩|⟨g,cap,_,h,_,_,hc,_⟩
  ·omega
  ·injection h with h1 _ h2;exact ⟨g,h1,by omega⟩
 obtain ⟨o,O⟩:∃o,w.alloc (.cells #[.int .u64 0,.int .u64 0] 84)=o:=⟨_,rfl⟩;have m:GM w o:=by rw [<-O];exact (GQ _ w).alloc _
 have q:aJ o w.heap.size [.int .u64 0,.int .u64 0] 84:=by rw [<-O];exact aJ.new w _ _
 have ad:Hid ((prog.info? 84).map (·.size)=some 2):=by show _=_;kernel_rfl
 have K:=aJ.frame hb m id;have D:=cD ho m (fun _ _ h=>h);have k0:=K.cell 0 rfl;have M:=oI (l:=l++[x]) (i:=l.length) (by simp);have d0:o.cell? ⟨g,l.length*2,none⟩=some (.int .u64 (x.1:Int)):=by
  rw [D.cellAt (l.length*2) (by omega),M.1];simp
 have d1:o.cell? ⟨g,l.length*2+1,none⟩=some (.int .u64 (x.2:Int)):=by
  rw [D.cellAt (l.length*2+1) (by omega),M.2];simp
 obtain ⟨W1,P⟩:∃W1,o.alloc (.cells #[.int .u64 (x.1:Int),.int .u64 (x.2:Int)] 84)=W1:=⟨_,rfl⟩;have n:GM o W1:=by rw [<-P];exact (GQ _ o).alloc _
 have r:aJ W1 o.heap.size [.int .u64 (x.1:Int),.int .u64 (x.2:Int)] 84:=by rw [<-P];exact aJ.new o _ _
 obtain ⟨E,Q⟩:∃E,W1.alloc (.cells #[] 84)=E:=⟨_,rfl⟩;have d:GM W1 E:=by rw [<-Q];exact (GQ _ W1).alloc _
 have J:aJ E W1.heap.size [] 84:=by rw [<-Q];exact aJ.new W1 _ _
 have t:GM o E:=n.trans d GN;have c:=K.frame t id;have H:=cD D t (fun _ _ h=>h);have j0:=c.cell 0 rfl;have s0:=m.size;have s1:=n.size;have s2:=d.size;have s3:=q.lt;have s4:=r.lt;have s5:=J.lt;have ao:=hb.lt;have HG:=ae (ag r (ag q (ag (ag m (ag n d)) (ag H (ag J c)))));clear M F m n d r q K D J t c H hb ho
 go_enter func34,ntmps34
 go_wp2_with (at_builtin;refine Hid.out ?_)
 unfold Hid;have W:E.ownsRow 0 84 2 (.slice (some W1.heap.size) 0 0) 0 []:=⟨rfl,.inr ⟨W1.heap.size,0,#[],rfl,aF _,HG.out.2.2.2.2.1,ak _,aF _,rfl,rfl⟩⟩;refine wpList_append_own_at _ rfl _ _ 70 rfl 0 84 i0 _ 2 16 underlying70 hi aj am an rfl (by decide) _ 0 [] rfl W ⟨g,0,none⟩ l.length cap (ll l) rfl (ie l) ?_ oH (by unfold maxLen;omega) (by omega) (aF _) ?_
 ·intro j u hj;have ah:j<l.length*2:=by rw [<-ie];exact (al.1 hj).1
  have:=HG.out.2.2.2.1.cellAt j (by omega);rw [me,bX (by rw [ie];exact ah),hj] at this;rwa [show ((⟨g,0,none⟩:Addr).add j)=⟨g,j,none⟩ by unfold Addr.add;split<;>simp_all]
 intro v' w3 C hg G hv;have U:E.grownBy w3 (some W1.heap.size):=hg;have Y:v'.ownBlock=some W1.heap.size\/v'.ownBlock=some E.heap.size:=hv;obtain ⟨g',b,rfl⟩:∃g' b,v'= .slice (some ⟨g',0,none⟩) l.length b:=by
  rcases C.2 with ⟨h0,_⟩|⟨g',b,_,h,_⟩
  ·have h:(Value.slice (some W1.heap.size) 0 0)= .slice none 0 0:=(G.1 h0).1;injection h with h
   cases h
  ·exact ⟨g',b,by rw [h,br]⟩
 rw [br,bZ] at C;obtain ⟨r,q,⟨m,n,d⟩,_,_,c⟩:=HG.out;have y:=Fr.Qm U;have R:GM w w3:=((m.trans n GN).trans d GN).trans y (fun k A=> .inr (by have:=bf A;omega));have B:aJ w3 mb _ _:=c.frame y (fun h=>by have:=bf h;omega);have Z:aJ w3 o.heap.size _ _:=(r.frame d id).frame y (fun h=>by have:=bf h;omega);have X:aJ w3 w.heap.size _ _:=((q.frame n id).frame d id).frame y (fun h=>by have:=bf h;omega);have z:∀k,(Value.slice (some g') l.length b).ownBlock=some k->w.heap.size<k:=fun k A=>by
  rcases Y with h|h<;>(rw [h] at A;have:=bf A;omega)
 have HX:=ae (HI.out.putI (l':=l) (n':=l.length) (R.mono GN) rfl C B rfl (fun k A=> .inr (d9 (z k A))));have k3:=B.cell 0 rfl;have f3:=B.free 0;obtain ⟨N,I⟩:∃N,w3.setCell mb (.slice (some g') l.length b)=N:=⟨_,rfl⟩;rw [I] at HX;have L:aJ N o.heap.size [.int .u64 (x.1:Int),.int .u64 (x.2:Int)] 84:=by rw [<-I];exact Z.Qg _ _ (by show o.heap.size≠mb;omega)
 have s:aJ N w.heap.size [.int .u64 0,.int .u64 0] 84:=by rw [<-I];exact X.Qg _ _ (by show w.heap.size≠mb;omega)
 obtain ⟨x0,x1,_⟩:=GS L;obtain ⟨r0,r1,_⟩:=GS s;have e0:=s.free 0;have e1:=s.free 1;have HR:=ae (ag s z);have ai:w.heap.size≠mb:=by omega
 clear U Y hg G hv C r q m n d c y R B Z X z L s W k0 j0 d0 d1 V hS af;go_wp2;refine bodyPost_ret (ee rfl _ _ _ _ _ _ _ rfl (lF HR.out.1) underlying84 rfl ad.out) rfl ?_;refine ⟨⟨_,rfl⟩,_,HX.out.1.stays (T:=fun k=>k=w.heap.size) (((GQ (fun k=>k=w.heap.size) N).setCell w.heap.size (.inl rfl) _).setCell ⟨w.heap.size,1,none⟩ (.inl rfl) _) (fun k A e=> ?_),HX.out.2.1.new2 (ak _),HX.out.2.2⟩;rcases A with rfl|A
 ·exact ai e.symm
 ·have:=HR.out.2 k A;omega
end
section
variable{mb Rm a f:Nat}{l l':List (Nat×Nat)}{S T:Nat->Prop}{w w' w'':World}
theorem EK{i j:Nat}(h:jx 72 84 mb l Rm S w)(B:l.length<=1000)(v:i+j+1=l.length):Calls prog 40 #[mb,(i:Int)] w fun e w'=>e= .returned (.tuple #[.agg #[.int .u64 ((l[j]'(by omega)).1:Int),.int .u64 ((l[j]'(by omega)).2:Int)],(0:Int)])/\GM w w':=by
 obtain ⟨p,cap,t,r,_,_⟩:=h;have q:j<l.length:=by omega
 obtain ⟨g,rfl,u⟩:∃g,p=some ⟨g,0,none⟩/\l.length<=cap:=by
  rcases r.2 with ⟨_,h⟩|⟨g,cap,_,h,_,_,A,_⟩
  ·omega
  ·injection h with h1 _ h2;exact ⟨g,h1,by omega⟩
 obtain ⟨m,n⟩:∃m,w.alloc (.cells #[.int .u64 0,.int .u64 0] 84)=m:=⟨_,rfl⟩;have c:GM w m:=by rw [<-n];exact (GQ _ w).alloc _
 have b:aJ m w.heap.size [.int .u64 0,.int .u64 0] 84:=by rw [<-n];exact aJ.new w _ _
 have o:Hid ((prog.info? 84).map (·.size)=some 2):=by show _=_;kernel_rfl
 have d:=cD r c (fun _ _ h=>h);have C:=(aJ.frame t c id).cell 0 rfl;have k:=oI (l:=l) (i:=j) q;have y:m.cell? ⟨g,j*2,none⟩=some (.int .u64 (l[j].1:Int)):=by
  rw [d.cellAt (j*2) (by omega),k.1]
 have z:m.cell? ⟨g,j*2+1,none⟩=some (.int .u64 (l[j].2:Int)):=by
  rw [d.cellAt (j*2+1) (by omega),k.2]
 generalize l[j].1=xa at*;generalize l[j].2=xf at*;obtain ⟨G,H,_⟩:=GS b;have E:=b.free 0;have F:=b.free 1;have x:¬(i:Int)<0:=by omega
 have c1:¬(l.length:Int)<=(i:Int):=by omega
 have c2:(l.length:Int)-1-(i:Int)=(j:Int):=by omega
 have s:=ae (ag b c);clear k t r d c b
 go_enter func40,ntmps40
 go_wp2;refine bG 14 ?_;simp only [ai,an,aj,ao]
 repeat (go_big_quiet_step (fail))
 refine wpQuiet_nil ?_;rintro D ⟨q0,rfl⟩;go_wp2;refine bodyPost_ret (ee rfl _ _ _ _ _ _ _ rfl (lF (s.out.1.drewN q0)) underlying84 rfl o.out) rfl ?_;exact ⟨rfl,(s.out.2.drewN q0).new2 (ak _)⟩
end
section
variable{mb Rm key f:Nat}{l l':List (Nat×Nat)}{S T:Nat->Prop}{w w' w'':World}
def GB(l:List (Nat×Nat))(key:Nat)(w:World)(e:Ending)(w':World):Prop:=w=w'/\((∃(i:Nat) (v:Nat),e= .returned (.int .i64 ((i:Nat):Int))/\l[i]? =some (key,v))\/(e= .returned (.int .i64 (-1))/\∀p∈l,p.1≠key))
theorem xI(h:jx 76 93 mb l Rm S w)(A:l.length<=1000):Calls prog 99 #[mb,.int .u64 key] w fun e w'=>GB l key w e w':=by
 obtain ⟨p,cap,m,o,_,_⟩:=h;have B:=m.cell 0 rfl;have k:=ae o;clear m o
 go_enter func99,ntmps99
 go_wp2
 go_loopw [5] (fun z wr=>∃i:Nat,z= .int .i64 i/\i<=l.length/\w=wr/\Hid (∀j (h:j<l.length),j<i->l[j].1≠key)) (fun z _=>(l.length-intOf z).toNat)
 case atStart=>exact ⟨0,rfl,aF _,rfl,ae (fun _ _ h=>absurd h (fb _))⟩
 case round=>
  obtain ⟨i,rfl,y,rfl,c⟩:=hrel;by_cases b:i<l.length
  ·obtain ⟨g,rfl,t⟩:∃g,p=some ⟨g,0,none⟩/\l.length<=cap:=by
    rcases k.out.2 with ⟨_,h⟩|⟨g,cap,_,h,_,_,v,_⟩
    ·omega
    ·injection h with h1 _ h2;exact ⟨g,h1,by omega⟩
   have c1:(i:Int)<(l.length:Int):=by omega
   have s:w.cell? ⟨g,i*2,none⟩=some (.int .u64 (l[i].1:Int)):=by
    rw [k.out.cellAt (i*2) (by omega),(oI b).1]
   by_cases a:l[i].1=key
   ·have d:=ae (show l[i]? =some (key,l[i].2) by rw [aK b,<-a]);rw [a] at s;clear a c;go_wp2;go_ret;exact ⟨rfl,.inl ⟨i,_,rfl,d.out⟩⟩
   ·have r:=ae (show∀j (h:j<l.length),j<i+1->l[j].1≠key from fun j h n=>by
     by_cases e:j=i
     ·subst e;exact a
     ·exact c.out j h (by omega))
    generalize l[i].1=x at*;have c2:¬(x:Int)=(key:Int):=by omega
    clear a c;go_wp2;go_roundw
    case rel=>exact ⟨i+1,by go_num,by omega,by trivial,r⟩
    case measure=>simp [intOf];omega
  ·have c1:¬(i:Int)<(l.length:Int):=by omega
   have d:=ae (show∀p∈l,p.1≠key from fun q u=>by
    obtain ⟨j,n,rfl⟩:=List.mem_iff_getElem.1 u;exact c.out j n (by omega))
   clear c;go_wp2;go_ret;exact ⟨rfl,.inr ⟨rfl,d.out⟩⟩
theorem ul{Ba:Nat}{e:TypeId}{a g n cap k:Nat}{xs:List Value}{u:Value}(h:w.ownsRow Ba e a (.slice (some g) n cap) n xs):(w.setCell ⟨g,k,none⟩ u).ownsRow Ba e a (.slice (some g) n cap) n (xs.set k u):=by
 obtain ⟨i,⟨b,_⟩|⟨g',c,cur,b,j,m,o,p,q,r⟩⟩:=h
 ·cases b
 ·injection b with q1 q2 q3
  have d:g=g':=by injection q1 with q1;injection q1
  subst d q3;have s:aJ w g cur.toList e:=by unfold aJ;rw [m]
  exact ⟨by rw [bc];exact i,.inr ⟨g,cap,(cur.toList.set k u).toArray,rfl,j,s.set k u,o,p,by simp [q],by rw [<-r];exact List.take_set⟩⟩
theorem xJ:∀{l:List (Nat×Nat)} {i key v f:Nat},l[i]? =some (key,v)->ll (l.set i (key,f))=(ll l).set (i*2+1) (.int .u64 f)
 |p::l,0,key,v,f,h=>by cases h;rfl
 |p::l,i+1,key,v,f,h=>by
  have:=xJ (l:=l) (i:=i) (f:=f) (by simpa using h);rw [List.set_cons_succ,show (i+1)*2+1=(i*2+1)+1+1 by omega];show _::_::ll (l.set i (key,f))=_::_::(ll l).set (i*2+1) _
  rw [this]
theorem A4(h:jx 76 93 mb l Rm S w)(hl:l.length<=1000):Calls prog 36 #[mb,.int .u64 key,.int .u64 f] w fun e w'=>(∃(i:Nat) (v:Nat),l[i]? =some (key,v)/\e= .returned (0:Int)/\pI 76 93 mb (l.set i (key,f)) Rm S w w')\/((∀p∈l,p.1≠key)/\Rm<=l.length/\e= .returned (21:Int)/\pI 76 93 mb l Rm S w w')\/((∀p∈l,p.1≠key)/\l.length<Rm/\e= .returned (0:Int)/\pI 76 93 mb (l++[(key,f)]) Rm S w w'):=by
 have HI:=ae h;have m:=ae (xI (key:=key) h hl);obtain ⟨p,cap,u,L,r,I⟩:=h;have k0:=u.cell 0 rfl;by_cases d:∃(i:Nat) (v:Nat),l[i]? =some (key,v)
 ·have b:=ae (ag u (ag L (ag r I)));have A:=ae d;clear u L r I d
  go_enter func36,ntmps36
  go_wp2_with fail
  refine m.out.mono ?_;rintro e w1 ⟨rfl,⟨i,v,rfl,a⟩|⟨rfl,s⟩⟩
  rotate_left
  ·obtain ⟨i,v,a⟩:=A.out;exact absurd rfl (s _ (aD a))
  have E:i<l.length:=(al.1 a).1;obtain ⟨g,rfl,af⟩:∃g,p=some ⟨g,0,none⟩/\l.length<=cap:=by
   rcases b.out.2.1.2 with ⟨_,h⟩|⟨g,cap,_,h,_,_,hc,_⟩
   ·omega
   ·injection h with V _ h2;exact ⟨g,V,by omega⟩
  have d1:w.cell? ⟨g,i*2+1,none⟩=some (.int .u64 (l[i].2:Int)):=by
   rw [b.out.2.1.cellAt (i*2+1) (by omega),(oI E).2]
  have f1:w.frozen? ⟨g,i*2+1,none⟩=false:=by
   obtain ⟨_,⟨h,_⟩|⟨g',H,cur,V,h2,h3,_⟩⟩:=b.out.2.1
   ·cases h
   ·injection V with q1
    have e1:g=g':=by injection q1 with q1;injection q1
    subst e1;have u:aJ w g cur.toList 93:=by unfold aJ;rw [h3]
    exact u.free _
  have c1:(i:Int)<(l.length:Int):=by omega
  have c2:¬(i:Int)<0:=by omega
  have c:(l.set i (key,f)).length=l.length:=bc;have W:g≠mb:=b.out.2.2.1 g rfl;have C:Fr (fun k=>k=g) w (w.setCell ⟨g,i*2+1,none⟩ (.int .u64 f)):=(GQ (fun k=>k=g) w).setCell ⟨g,i*2+1,none⟩ (.inl rfl) _;have R:=ae (show pI 76 93 mb (l.set i (key,f)) Rm S w (w.setCell ⟨g,i*2+1,none⟩ (.int .u64 f)) from by
   refine ⟨S,⟨some ⟨g,0,none⟩,cap,?_,?_,?_,?_⟩,C.mono (fun k o=> .inl ((b.out.2.2.2 k).2 (.inr (by rw [o];rfl)))),fun _ h=> .inl h⟩
   ·rw [c];exact b.out.1.frame C (fun e=>W e.symm)
   ·rw [c,xJ a];exact ul b.out.2.1
   ·rw [c];exact b.out.2.2.1
   ·rw [c];exact b.out.2.2.2)
  have U:=ae a;clear b m a c C A;go_wp2;go_ret;exact .inl ⟨i,v,U.out,rfl,R.out⟩
 have t:Hid (∀p∈l,p.1≠key):=ae (fun q hq e=>by
  obtain ⟨j,X,rfl⟩:=List.mem_iff_getElem.1 hq;exact d ⟨j,l[j].2,by rw [aK X,<-e]⟩)
 clear d;obtain ⟨i0,hi,O,P,Q⟩:=info_parts qL;have k1:=u.cell 1 rfl;by_cases Y:Rm<=l.length
 ·have c1:(Rm:Int)<=(l.length:Int):=by omega
  clear u L r I hi O P Q
  go_enter func36,ntmps36
  go_wp2_with fail
  refine m.out.mono ?_;rintro e w1 ⟨rfl,⟨i,v,rfl,a⟩|⟨rfl,s⟩⟩
  ·have E:=(al.1 a).1;exact absurd rfl (t.out _ (aD a))
  clear m s;go_wp2;refine bG 9 ?_;simp only [ai,an,aj,ao]
  repeat (go_big_quiet_step (fail))
  refine wpQuiet_nil ?_;rintro w9 ⟨q0,rfl⟩;go_wp2;go_ret;exact .inr (.inl ⟨t.out,Y,rfl,HI.out.self ((GQ _ w).drewN q0)⟩)
 ·have c1:¬(Rm:Int)<=(l.length:Int):=by omega
  have b:=ae (ag u (ag L (ag r I)));clear u L r I
  go_enter func36,ntmps36
  go_wp2_with fail
  refine m.out.mono ?_;rintro e w1 ⟨rfl,⟨i,v,rfl,a⟩|⟨rfl,s⟩⟩
  ·have E:=(al.1 a).1;exact absurd rfl (t.out _ (aD a))
  clear m s;go_wp2;refine bG 9 ?_;simp only [ai,an,aj,ao]
  repeat (go_big_quiet_step (fail))
  refine wpQuiet_nil ?_;rintro w9 ⟨q0,rfl⟩;clear k0 k1;obtain ⟨w2,z⟩:∃w2,w2=w.drewN q0:=⟨_,rfl⟩;have y:GM w w2:=by rw [z];exact (GQ _ w).drewN q0
  have J:aJ w2 mb _ _:=b.out.1.frame y id;have k0:=J.cell 0 rfl;rw [<-z];have ad:=ae (show w2.heap.size=w.heap.size by rw [z];rfl);clear z;go_wp2_with (at_builtin;refine Hid.out ?_)
  unfold Hid;have n:GM w2 (w2.alloc (.cells #[.int .u64 key,.int .u64 f] 93)):=(GQ _ w2).alloc _;have B:aJ (w2.alloc (.cells #[.int .u64 key,.int .u64 f] 93)) w2.heap.size [.int .u64 key,.int .u64 f] 93:=aJ.new w2 _ _;have M:=cD (cD b.out.2.1 y (fun _ _ h=>h)) n (fun _ _ h=>h);refine wpList_append_own_at _ rfl _ _ 74 rfl 0 93 i0 _ 2 16 underlying74 hi O P Q rfl (by decide) _ l.length (ll l) rfl M ⟨w2.heap.size,0,none⟩ 1 1 [.int .u64 key,.int .u64 f] rfl rfl ?_ ?_ (by unfold maxLen;omega) (by omega) (aF _) ?_
  ·intro j u' X;have:=B.cell j X;rwa [show ((⟨w2.heap.size,0,none⟩:Addr).add j)=⟨w2.heap.size,j,none⟩ by unfold Addr.add;split<;>simp_all]
  ·intro u' N;simp only [bM,bq,fD] at N;rcases N with rfl|rfl<;>rfl
  ·intro v' w3 F hg _ G;obtain ⟨g,H,rfl⟩:∃g cap,v'= .slice (some ⟨g,0,none⟩) (l.length+1) cap:=by
    rcases F.2 with ⟨_,h⟩|⟨g,cap,_,h,_⟩
    ·omega
    ·exact ⟨g,cap,h⟩
   have D:Fr (fun k=>(Value.slice p l.length cap).ownBlock=some k) w w3:=((y.trans n GN).mono GN).trans (Fr.Qm hg) (fun k o=> .inl o);have K:Fr S w w3:=D.mono (fun k o=> .inl ((b.out.2.2.2 k).2 (.inr o)));have x:aJ w3 mb _ _:=b.out.1.frame D (fun h=>b.out.2.2.1 _ h rfl);have Z:=n.size;have R:=ae (HI.out.put (l':=l++[(key,f)]) (n':=l.length+1) K (by simp) (by rw [me,xK];exact F) x rfl (fun k o=>by
    rcases G with G|G
    ·rw [G] at o;exact .inl ⟨(b.out.2.2.2 k).2 (.inr o),b.out.2.2.1 k o⟩
    ·rw [G] at o;have e:=bf o;right;have ah:=(y.trans n GN).size;omega))
   have k3:=x.cell 0 rfl;have f3:=x.free 0;clear n B M F hg G D K x Z k0 J b;go_wp2;go_ret;exact .inr (.inr ⟨t.out,by omega,rfl,R.out⟩)
end
section
variable{mb Rm key f:Nat}{l l':List (Nat×Nat)}{S T:Nat->Prop}{w w' w'':World}
theorem y8(h:jx 76 93 mb l Rm S w)(hl:l.length<=1000):Calls prog 38 #[mb,.int .u64 key] w fun e w'=>(∃(i:Nat) (v:Nat),l[i]? =some (key,v)/\e= .returned (0:Int)/\pI 76 93 mb (l.eraseIdx i) Rm S w w')\/((∀p∈l,p.1≠key)/\e= .returned (6:Int)/\pI 76 93 mb l Rm S w w'):=by
 have R:=ae h;have D:=ae (xI (key:=key) h hl);obtain ⟨p,cap,X,ho,O,hS⟩:=h;obtain ⟨i0,Z,G,x,H⟩:=info_parts qL;have k0:=X.cell 0 rfl;have z:=ae (ag X (ag ho (ag O hS)));clear X ho O hS
 go_enter func38,ntmps38
 go_wp2_with fail
 refine D.out.mono ?_;rintro e w1 ⟨rfl,⟨i,v,rfl,E⟩|⟨rfl,P⟩⟩
 rotate_left
 ·have V:=ae P;clear P D Z G x H;go_wp2;go_ret;exact .inr ⟨V.out,rfl,R.out.self (GQ _ w)⟩
 have ad:i<l.length:=(al.1 E).1;obtain ⟨g,rfl,ai⟩:∃g,p=some ⟨g,0,none⟩/\l.length<=cap:=by
  rcases z.out.2.1.2 with ⟨_,h⟩|⟨g,cap,_,h,_,_,hc,_⟩
  ·omega
  ·injection h with W _ J;exact ⟨g,W,by omega⟩
 have Y:cap<=maxLen:=by
  obtain ⟨_,⟨h,_⟩|⟨g',b,cur,W,J,h3,h4,h5,_⟩⟩:=z.out.2.1
  ·cases h
  ·injection W with _ _ q3;omega
 unfold maxLen at Y;have c1:(i:Int)<(l.length:Int):=by omega
 have c2:¬(i:Int)<0:=by omega
 clear D;go_wp2_with (at_builtin;refine Hid.out ?_)
 unfold Hid;refine wpList_append_own_at _ rfl _ _ 74 rfl 0 93 i0 _ 2 16 underlying74 Z G x H rfl (by decide) _ 0 [] rfl (World.ownsRow_nil _ _ _ _) ⟨g,0,none⟩ i cap (ll (l.take i)) rfl (by rw [ie,cg];omega) ?_ oH (by unfold maxLen;omega) (by omega) (aF _) ?_
 ·intro j u q;have af:j<i*2:=by have:=(al.1 q).1;rw [ie,cg] at this;omega
  have:=z.out.2.1.cellAt j (by omega);rw [<-dB i l,me,bX (by rw [ie,cg];omega),q] at this;rwa [show ((⟨g,0,none⟩:Addr).add j)=⟨g,j,none⟩ by unfold Addr.add;split<;>simp_all]
 intro v1 w1 s N F Q;have A:w.grownBy w1 none:=N;have C:v1.ownBlock=none\/v1.ownBlock=some w.heap.size:=Q;rw [br,bZ] at s;obtain ⟨p1,cap1,rfl⟩:∃p1 cap1,v1= .slice p1 i cap1:=by
  rcases s.2 with ⟨h,J⟩|⟨g',b,_,h,_⟩
  ·exact ⟨none,0,by rw [h,J]⟩
  ·exact ⟨_,b,h⟩
 have d:GM w w1:=(Fr.Qm A).mono (fun _ h=>nomatch h);have L:aJ w1 mb _ _:=z.out.1.frame d id;have n:=cD z.out.2.1 d (fun _ _ h=>h);have k1:=L.cell 0 rfl;have aj:=z.out.1.lt;have K:(l.eraseIdx i).length=i+(l.length-(i+1)):=by rw [List.length_eraseIdx,aG ad];omega
 have y:=ae (show∀v2 w3,w3.ownsRow 0 93 2 v2 (i+(l.length-(i+1))) (ll (l.take i)++ll (l.drop (i+1)))->w1.grownBy w3 (Value.slice p1 i cap1).ownBlock->(v2.ownBlock=(Value.slice p1 i cap1).ownBlock\/v2.ownBlock=some w1.heap.size)->∃p2 a,v2= .slice p2 (i+(l.length-(i+1))) a/\aJ w3 mb [.slice (some g) l.length cap,(Rm:Int)] 76/\pI 76 93 mb (l.eraseIdx i) Rm S w (w3.setCell mb v2) from fun v2 w3 m o t=>by
  obtain ⟨p2,a,rfl⟩:∃p2 a,v2= .slice p2 (i+(l.length-(i+1))) a:=by
   rcases m.2 with ⟨h,J⟩|⟨g',b,_,h,_⟩
   ·exact ⟨none,0,by rw [h,J]⟩
   ·exact ⟨_,b,h⟩
  have x:=d.size;have B:∀k,(Value.slice p1 i cap1).ownBlock=some k->w.heap.size<=k:=fun k r=>by
   rcases C with h|h<;>rw [h] at r
   ·cases r
   ·exact gB (bf r)
  have M:GM w w3:=d.trans (Fr.Qm o) (fun k r=> .inr (B k r));have c:aJ w3 mb _ _:=z.out.1.frame M id;refine ⟨p2,a,rfl,c,R.out.put (l':=l.eraseIdx i) (M.mono GN) K ?_ c rfl (fun k r=> .inr ?_)⟩
  ·rw [List.eraseIdx_eq_take_drop_succ,me];exact m
  ·rcases t with h|h<;>rw [h] at r
   ·exact B k r
   ·have:=bf r;omega)
 have U:=ae E;have I:=ae (ag s n);have hd:∀j u,(ll (l.drop (i+1)))[j]? =some u->w1.cell? ⟨g,(i+1)*2+j,none⟩=some u:=fun j u q=>by
  have af:j<(l.length-(i+1))*2:=by have:=(al.1 q).1;rw [ie,en] at this;exact this
  have:=n.cellAt ((i+1)*2+j) (by omega);rw [<-dB (i+1) l,me,dJ (by rw [ie,cg];omega),ie,cg,fc (by omega),cM,q] at this;exact this
 have HD:=ae hd;have ah:(ll (l.drop (i+1))).length=(l.length-(i+1))*2:=by rw [ie,en]
 clear N A F Q C d L n k0 s K hd E z R;go_wp2_with (at_builtin;refine Hid.out ?_)
 all_goals try unfold Hid
 all_goals refine wpList_append_own_at _ rfl _ _ 74 rfl 0 93 i0 _ 2 16 underlying74 Z G x H rfl (by decide) _ i (ll (l.take i)) rfl I.out.1 ⟨g,_,none⟩ (l.length-(i+1)) _ (ll (l.drop (i+1))) rfl ah ?_ oH (by unfold maxLen;omega) (by omega) (aF _) ?_
 ·intro j u q;have:=(al.1 q).1;omega
 rotate_left
 ·intro j u q;rw [show ((⟨g,(i+1)*2,none⟩:Addr).add j)=⟨g,(i+1)*2+j,none⟩ by unfold Addr.add;split<;>simp_all];exact HD.out j u q
 all_goals
  intro v2 w3 m o _ t;obtain ⟨p2,a,rfl,c,hE⟩:=y.out _ _ m o t;have HE:=ae hE;have k3:=c.cell 0 rfl;have f3:=c.free 0;clear m o t c hE y HD I k1;go_wp2;go_ret;exact .inl ⟨i,v,U.out,rfl,HE.out⟩
end
def Cx.cat:Cx->Cx->Cx
 | .top,c=>c
 | .Xi z x k f r,c=> .Xi (z.cat c) x k f r
 | .Xn l x k f z,c=> .Xn l x k f (z.cat c)
theorem nU:∀(z c:Cx) (t:Tr),(z.cat c).Qf t=c.Qf (z.Qf t)
 | .top,_,_=>rfl
 | .Xi z x k f r,c,t=>nU z c (.node t x k f r)
 | .Xn l x k f z,c,t=>nU z c (.node l x k f t)
structure kj(W:Nat)(A:AG)(ls:List (Nat×Nat×Nat))(tr:Tr)(mL nL:List (Nat×Nat)):Prop where
 g:kl A ls tr
 o:pX tr.all
 m:mL=(rR ls).reverse
 n:nL.Perm (rR tr.all)
 s:4*ls.length+5*tr.all.length<=W
section
variable{W:Nat}{A A':AG}{ls:List (Nat×Nat×Nat)}{tr l r t:Tr}{mL nL:List (Nat×Nat)}{y z:Cx}{x k f g n key q v i:Nat}
theorem kj.lens(h:kj W A ls tr mL nL):mL.length=ls.length/\nL.length=tr.all.length:=by
 refine ⟨by rw [h.m];simp [rR],by rw [h.n.length_eq];simp [rR]⟩
theorem kj.push(h:kj W A ls tr mL nL)(a:k≠0)(b:k∉co (ls++tr.all))(c:A.Wd (co (ls++tr.all))+4<=W):kj W (A.push k v f (cR ls)) ((k,v,f)::ls) tr (mL++[(v,f)]) nL:=by
 refine ⟨h.g.push a b,h.o,by rw [h.m];simp [rR],h.n,?_⟩;rw [h.g.Wd] at c;rw [bn];omega
theorem kj.pop{a:Nat×Nat×Nat}(h:kj W A (a::ls) tr mL nL):mL=(rR ls).reverse++[a.2]/\kj W A ls tr (rR ls).reverse nL:=by
 have b:=h.s;rw [bn] at b;exact ⟨by rw [h.m];simp [rR],h.g.pop,h.o,rfl,h.n,by omega⟩
theorem eP:(y.Qf (.node l x k f r)).all=(y.pre++l.all)++(x,k,f)::(r.all++y.post):=by rw [du,Tr.all];simp
theorem kj.has(h:kj W A ls (y.Qf (.node l x key g r)) mL nL):∃i:Nat,nL[i]? =some (key,g):=by
 have b:(key,g)∈nL:=h.n.mem_iff.2 (bu.2 ⟨(x,key,g),by rw [eP];simp,rfl⟩);obtain ⟨i,a,e⟩:=List.mem_iff_getElem.1 b;exact ⟨i,by rw [aK a,e]⟩
theorem kj.Zd(h:kj W A ls (y.Qf .nil) mL nL)(c:yC key y):∀p∈nL,p.1≠key:=by
 intro p hp e;have b:=mm y .nil h.o c;obtain ⟨z,a,rfl⟩:=bu.1 (h.n.mem_iff.1 hp);rw [du] at a;rcases bB.1 a with a|a
 ·rcases bB.1 a with a|a
  ·have:=b.1 z a;omega
  ·cases a
 ·have:=b.2 z a;omega
theorem kj.puts(h:kj W A ls (y.Qf (.node l x key g r)) mL nL)(c:nL[i]? =some (key,v)):kj W (A.put x 2 f) ls (y.Qf (.node l x key f r)) mL (nL.set i (key,f)):=by
 have e:=h.n;have j:=h.o;rw [eP] at e j;have w:=tA e j c rfl;have d:=(al.1 c).1;refine ⟨h.g.field (fun a b u=>u.flt),?_,h.m,?_,?_⟩
 ·rw [eP];unfold pX lr at*
  simpa using j
 ·rw [eP];refine (uk d (key,f)).trans (List.Perm.trans (List.Perm.cons _ ?_) (pR (y:=(x,key,f))).symm);exact qq (e.trans pR) (w▸c)
 ·have p:=h.s;rw [eP] at p ⊢
  simpa using p
theorem kj.putn(h:kj W A ls (y.Qf .nil) mL nL)(e:yC key y)(a:n≠0)(j:n∉co (ls++(y.Qf .nil).all))(b:A.Wd (co (ls++(y.Qf .nil).all))+5<=W):kj W (y.Qy (A.node n key f) n) ls (y.Qf (.node .nil n key f .nil)) mL (nL++[(key,f)]):=by
 have c:=mm y .nil h.o e;have d:=h.o;have hp:=h.n;rw [h.g.Wd] at b;rw [du,Tr.all,List.append_nil] at d hp b;refine ⟨h.g.grow a j,?_,h.m,?_,?_⟩
 ·rw [eP];simp only [Tr.all,List.append_nil,bZ];exact pX.put d c.1 c.2
 ·rw [eP];simp only [Tr.all,List.append_nil,bZ];refine List.Perm.trans ?_ (pR (y:=(n,key,f))).symm;exact (List.perm_append_comm).trans (List.Perm.cons _ hp)
 ·rw [eP];simp only [Tr.all,List.append_nil,bZ,aH,bn] at b ⊢;omega
theorem kj.less{s:Tr}(h:kj W A ls (y.Qf (.node l x key g r)) mL nL)(c:nL[i]? =some (key,v))(e:kl A' ls s)(j:lr s.all=lr ((y.pre++l.all)++(r.all++y.post)))(hp:rR s.all=rR ((y.pre++l.all)++(r.all++y.post))):kj W A' ls s mL (nL.eraseIdx i):=by
 have a:=h.n;have b:=h.o;rw [eP] at a b;have u:=tA a b c rfl;refine ⟨e,?_,h.m,?_,?_⟩
 ·have:=b.parts.2.2;unfold pX at*;rw [j];exact this
 ·rw [hp];exact qq (a.trans pR) (u▸c)
 ·have d:=h.s;have p:s.all.length=((y.pre++l.all)++(r.all++y.post)).length:=by
   have:=congrArg List.length hp
   simpa [rR] using this
  rw [eP] at d;rw [p];simp only [aH,bn] at d ⊢;omega
theorem kj.dropl(h:kj W A ls (y.Qf (.node .nil x key g r)) mL nL)(a:nL[i]? =some (key,v)):kj W (y.Qy A r.root) ls (y.Qf r) mL (nL.eraseIdx i):=by
 refine h.less a (h.g.Qy h.g.at.2.2.1.2.2 ?_) ?_ ?_
 ·simp only [Tr.all,bZ];exact List.sublist_cons_self _ _
 ·rw [du];simp [Tr.all]
 ·rw [du];simp [Tr.all]
theorem kj.dropr(h:kj W A ls (y.Qf (.node l x key g .nil)) mL nL)(a:nL[i]? =some (key,v)):kj W (y.Qy A l.root) ls (y.Qf l) mL (nL.eraseIdx i):=by
 refine h.less a (h.g.Qy h.g.at.2.2.1.2.1 ?_) ?_ ?_
 ·simp only [Tr.all];exact List.sublist_append_left _ _
 ·rw [du];simp [Tr.all]
 ·rw [du];simp [Tr.all]
theorem CI{h:Nat}:((z.cat (.Xn l x key g y)).Qy A h)=A.put (um x z).1 (um x z).2 h:=by
 cases z<;>rfl
theorem kj.drops{t:Tr}(h:kj W A ls (y.Qf (.node l x key g (z.Qf (.node .nil q k f t)))) mL nL)(j:z.pre=[])(p:nL[i]? =some (key,v)):kj W (((A.put (um x z).1 (um x z).2 t.root).put x 3 k).put x 2 f) ls (y.Qf (.node l x k f (z.Qf t))) mL (nL.eraseIdx i):=by
 have hg:kl A ls ((z.cat (.Xn l x key g y)).Qf (.node .nil q k f t)):=by rw [nU];exact h.g
 have e:=hg.Qy hg.at.2.2.1.2.2 (by simp only [Tr.all,bZ];exact List.sublist_cons_self _ _);rw [CI,nU] at e;have m:=kl.field (l:=l) (r:=z.Qf t) (k':=k) (f':=g) (i:=3) (v:=k) (c:=y) e (fun a b d=>d.key);have o:=kl.field (l:=l) (r:=z.Qf t) (k':=k) (f':=f) (i:=2) (v:=f) (c:=y) m (fun a b d=>d.flt);refine h.less p o ?_ ?_
 ·rw [eP,du,du,j];simp [Tr.all,lr]
 ·rw [eP,du,du,j];simp [Tr.all,rR]
end
section
variable{P:Program}{Inv:World->Prop}{Pre:Nat->World->Prop}{St:Nat->World->World->Prop}{nw:Nat->Bool}{ps:List PK}
def nX(P:Program)(F:(Nat->Value)->Act)(Inv:World->Prop)(Pre:Nat->World->Prop)(St:Nat->World->World->Prop)(ps:List PK)(nw:Nat->Bool):Nat->List Oper->Prop
 |_,[]=>True
 |k,o::l=>(∀vs w,Inv w->Pre k w->(∀j,eF o j=true->(ij ps j).post (vs j) w)->(∀i j,nw i=true->nw j=true->eF o i=true->eF o j=true->i≠j->gd (vs i)≠gd (vs j))->dU P (F vs).eval o w (fun v w'=>(ij ps k).post v w'/\St k w w'/\(nw k=true->jY w w' v)))/\nX P F Inv Pre St ps nw (k+1) l
theorem rl{a:Act}{l:List Oper}{n:Nat}(b:oa l):∀(m:List Oper) (k:Nat),(∀j,m[j]? =(l.take n)[k+j]?)->nX P (fun vs=>{a with tmps:=df (j5 ps vs) 0 (l.take n) a.tmps}) Inv Pre St ps nw k m->kB P (fun vs=>{a with tmps:=df vs 0 (l.take n) a.tmps}) Inv Pre St (fun j=>(ij ps j).post) nw k m
 |[],_,_,_=>trivial
 |o::m,k,hm,h=>by
  refine ⟨fun vs w y f s z=> ?_,rl b m (k+1) (fun j=>by have:=hm (j+1);rw [show k+(j+1)=k+1+j by omega] at this;exact this) h.2⟩;have hp:=h.1 vs w y f s z;have r:=(hm 0).symm;have c:∀(j:Nat) (o:Oper),(l.take n)[j]? =some o->l[j]? =some o:=fun j o h=>by
   rw [eo] at h;split at h
   ·exact h
   ·cases h
  have f:l[k]? =some o:=c _ _ r;have q:execOp (({a with tmps:=df vs 0 (l.take n) a.tmps}:Act)).eval o=execOp (({a with tmps:=df (j5 ps vs) 0 (l.take n) a.tmps}:Act)).eval o:=by
   refine execOp_congr o (b.sel k o f) (fun x C=> ?_)
   cases x with
   |tmp t=>
    have e:(df vs 0 (l.take n) a.tmps)[t]? =(df (j5 ps vs) 0 (l.take n) a.tmps)[t]? :=by
     by_cases d:∃(j:Nat) (p:Oper),(l.take n)[j]? =some p/\p.dst=some t
     ·obtain ⟨j,p,hp,g⟩:=d;have u:∀i o',(l.take n)[i]? =some o'->o'.dst=some t->i=j:=fun i o' A e=>b.once i o' j p t (c _ _ A) (c _ _ hp) g e
      rw [jn (l.take n) 0 j _ p hp g u,jn (l.take n) 0 j _ p hp g u,br,show j5 ps vs j=vs j from PK.Xg (s j (b.reads k o j p t f (c _ _ hp) g C))]
     ·have v:∀o∈l.take n,o.dst≠some t:=fun o r e=>d (let ⟨j,B⟩:=bw.1 r;⟨j,o,B,e⟩)
      rw [fO _ _ _ v,fO _ _ _ v]
    simp only [Act.eval,cE,e]
   |_=>rfl
  unfold dU at*;rw [q];exact hp
theorem ql{D:Nat}{Q:Exit->Act->World->Prop}{a:Act}{w:World}{l:List Oper}(n:Nat)(Inv:World->Prop)(Pre:Nat->World->Prop)(St:Nat->World->World->Prop)(ps:List PK)(nw:Nat->Bool)(A:P.follows .mixedOrders=true)(p:iX l=true)(q:gN l=true)
  (e:(decide (n<=l.length)&&tZ l n&&Region.seqB .any l.toArray (l.length-n) n (jd l.length n))=true) (z:ps.length=n)
  (C:∀k w w',St k w w'->w.heap.size<=w'.heap.size) (b:∀k w w',Inv w->Pre k w->St k w w'->Inv w') (d:∀j k w w',j≠k->dF l k j=false->Inv w->Pre j w->Pre k w->St k w w'->Pre j w') (o:∀j k v w w',j≠k->Pre k w->(ij ps j).post v w->St k w w'->(ij ps j).post v w') (t:Inv w.drew) (f:∀k,Pre k w.drew)
  (h:∀F:(Nat->Value)->Act,(F=fun vs=>{a with tmps:=fp vs 0 ps (l.take n) a.tmps})->nX P F Inv Pre St ps nw 0 (l.take n)/\∀vs w',Inv w'->rG vs w' 0 ps->(∀i j,nw i=true->nw j=true->i<n->j<n->i≠j->gd (vs i)≠gd (vs j))->wpList P l.toArray Q (l.drop n) (F vs) w'):
  (Code.region D l.toArray true).wp P Q a w:=by
 rw [au,au,aC] at e;have c:ps.length=(l.take n).length:=by rw [z,cg];omega
 have m:∀vs,fp vs 0 ps (l.take n) a.tmps=df (j5 ps vs) 0 (l.take n) a.tmps:=fun vs=>qn ps (l.take n) 0 _ c (fun j=>by rw [br])
 obtain ⟨r,s⟩:=h _ rfl;simp only [m] at r s;refine mJ n Inv Pre St (fun j=>(ij ps j).post) nw A p q e.1.1 (pq e.1.2) e.2 C b d o t f (fun F u=> ?_);subst u;refine ⟨rl (jr p q) _ 0 (fun j=>by rw [br]) r,fun vs w' B hp _ x=> ?_⟩;have y:j5 ps vs=vs:=funext fun j=>by
  rcases aY j n with g|g
  ·exact PK.Xg (hp j g)
  ·unfold j5 ij;rw [aQ,cL (by omega)];rfl
 have:=s vs w' B (pW ps 0 (fun j g=>by rw [br];exact hp j (by omega))) x;rwa [y] at this
end
theorem xL:∀{l l':List (Nat×Nat)},ll l=ll l'->l=l'
 |[],[],_=>rfl
 |[],_::_,h=>by cases h
 |_::_,[],h=>by cases h
 |p::l,q::l',h=>by
  have a:(.int .u64 (p.1:Int):: .int .u64 (p.2:Int)::ll l:List Value)= .int .u64 (q.1:Int):: .int .u64 (q.2:Int)::ll l':=h;injection a with a1 a
  injection a with a2 a
  injection a1 with _ a1
  injection a2 with _ a2
  rw [xL a,show p=q from Prod.ext (by omega) (by omega)]
section
variable{ty e:TypeId}{mb Rm room':Nat}{l l':List (Nat×Nat)}{S S':Nat->Prop}{w:World}
theorem jx.uniq(h:jx ty e mb l Rm S w)(n:jx ty e mb l' room' S' w):l=l':=by
 obtain ⟨p,cap,o,m,_⟩:=h;obtain ⟨x,j,g1,f,_⟩:=n;have d:=(o.cell 0 rfl).symm.trans (g1.cell 0 rfl);injection d with d
 injection d with e2 e3 e4
 subst e2 e4;refine xL ?_;rw [<-e3] at f;rcases m.2 with ⟨c,s⟩|⟨g,c1,cur,c,_,t,_,_,_,u⟩
 ·have q:=m.1;have r:=f.1;rw [s] at q r;rw [bV (by omega:(ll l).length=0),bV (by omega:(ll l').length=0)]
 ·rcases f.2 with ⟨i,_⟩|⟨g',c2,k,i,_,b,_,_,_,v⟩
  ·rw [i] at c;cases c
  ·have a:=c.symm.trans i;injection a with a
   injection a with a
   injection a with a
   subst a;rw [t] at b;injection b with b
   injection b with b
   rw [<-u,<-v,b]
end
def qa(b:Nat)(c:Cf)(mb nb:Nat)(K:Nat->Prop)(w0:World)(A:AG)(r0 r3:Nat)(mL:List (Nat×Nat))(rm:Nat)(nL:List (Nat×Nat))(rn:Nat)(w:World):Prop:=
 ∃u n T Sm Sn,eX b c A [r0,0,0,r3,0,0,0,0] u n T w/\jx 72 84 mb mL rm Sm w/\jx 76 93 nb nL rn Sn w/\((∀k,T k->¬Sm k/\¬Sn k/\¬K k)/\(∀k,Sm k->¬Sn k/\¬K k)/\∀k,Sn k->¬K k)/\Fr (fun k=>¬K k) w0 w/\(∀k,K k->k<w0.heap.size)/\K cO
section
variable{b mb nb r0 r3 rm rn:Nat}{c:Cf}{A:AG}{K:Nat->Prop}{mL nL:List (Nat×Nat)}{w0 w w':World}
theorem qa.kept(h:qa b c mb nb K w0 A r0 r3 mL rm nL rn w){x:Nat}{cs:List Value}{t:TypeId}(e:K x)(d:aJ w0 x cs t):aJ w x cs t:=by
 obtain ⟨_,_,_,_,_,_,_,_,_,a,_⟩:=h;exact d.frame a (fun h=>h e)
theorem qa.heap(h:qa b c mb nb K w0 A r0 r3 mL rm nL rn w):∃u n T,eX b c A [r0,0,0,r3,0,0,0,0] u n T w/\(∀k,K k->¬T k)/\∀A' d e w',bh b c A' [d,0,0,e,0,0,0,0] T w w'->qa b c mb nb K w0 A' d e mL rm nL rn w':=by
 obtain ⟨u,n,T,p,r,y,j,l,⟨f,t,v⟩,m,o,z⟩:=h;refine ⟨u,n,T,y,fun k a g=>(f k g).2.2 a,fun A' d e w' hp=> ?_⟩;obtain ⟨B,n',s,g1,i,x⟩:=hp;have C:=m.size;exact ⟨B,n',s,p,r,g1,j.stays i (fun k a g=>(f k g).1 a),l.stays i (fun k a g=>(f k g).2.1 a),⟨fun k a=>(x k a).elim (f k) (fun h=>⟨fun q=>by have:=j.lt k q;omega,fun q=>by have:=l.lt k q;omega,fun q=>by have:=o k q;omega⟩),t,v⟩,m.trans i (fun k a=> .inl (f k a).2.2),o,z⟩
theorem qa.Xz(h:qa b c mb nb K w0 A r0 r3 mL rm nL rn w):∃S,jx 72 84 mb mL rm S w/\∀d e w',pI 72 84 mb d e S w w'->qa b c mb nb K w0 A r0 r3 d e nL rn w':=by
 obtain ⟨u,n,T,t,v,m,y,o,⟨g,f,x⟩,p,r,s⟩:=h;refine ⟨t,y,fun d e w' hp=> ?_⟩;obtain ⟨S',g1,i,l⟩:=hp;have z:=p.size;exact ⟨u,n,T,S',v,m.stays i (fun k a j=>(g k a).1 j) (fun h=>(f _ h).2 s),g1,o.stays i (fun k a j=>(f k j).1 a),⟨fun k a=>⟨fun q=>(l k q).elim (fun q=>(g k a).1 q) (fun q=>by have:=m.lt k a;omega),(g k a).2⟩,fun k a=>(l k a).elim (f k) (fun h=>⟨fun q=>by have:=o.lt k q;omega,fun q=>by have:=r k q;omega⟩),x⟩,p.trans i (fun k a=> .inl (f k a).2),r,s⟩
theorem qa.Ya(h:qa b c mb nb K w0 A r0 r3 mL rm nL rn w):∃S,jx 76 93 nb nL rn S w/\∀d e w',pI 76 93 nb d e S w w'->qa b c mb nb K w0 A r0 r3 mL rm d e w':=by
 obtain ⟨u,n,T,v,x,o,p,y,⟨f,g,i⟩,r,s,t⟩:=h;refine ⟨x,y,fun d e w' hp=> ?_⟩;obtain ⟨S',g1,j,l⟩:=hp;have z:=r.size;exact ⟨u,n,T,v,S',o.stays j (fun k a m=>(f k a).2.1 m) (fun h=>i _ h t),p.stays j (fun k a m=>(g k a).1 m),g1,⟨fun k a=>⟨(f k a).1,fun q=>(l k q).elim (fun q=>(f k a).2.1 q) (fun q=>by have:=o.lt k a;omega),(f k a).2.2⟩,fun k a=>⟨fun q=>(l k q).elim (fun q=>(g k a).1 q) (fun q=>by have:=p.lt k a;omega),(g k a).2⟩,fun k a=>(l k a).elim (i k) (fun h q=>by have:=s k q;omega)⟩,r.trans j (fun k a=> .inl (i k a)),s,t⟩
theorem qa.Qa(h:qa b c mb nb K w0 A r0 r3 mL rm nL rn w)(hf:GM w w'):qa b c mb nb K w0 A r0 r3 mL rm nL rn w':=by
 obtain ⟨_,_,T,a,_,d⟩:=h.heap;exact d _ _ _ _ ⟨_,_,T,a.Qa hf,hf.mono GN,fun _ h=> .inl h⟩
theorem qa.uniqm{A':AG}{e f i j:Nat}{a d:List (Nat×Nat)}(h:qa b c mb nb K w0 A r0 r3 mL rm nL rn w)(k:qa b c mb nb K w0 A' e f a i d j w):mL=a:=let ⟨_,g,_⟩:=h.Xz;let ⟨_,g',_⟩:=k.Xz;g.uniq g'
theorem qa.uniqn{A':AG}{e f i j:Nat}{d a:List (Nat×Nat)}(h:qa b c mb nb K w0 A r0 r3 mL rm nL rn w)(k:qa b c mb nb K w0 A' e f d i a j w):nL=a:=let ⟨_,g,_⟩:=h.Ya;let ⟨_,g',_⟩:=k.Ya;g.uniq g'
end
section
variable{b u n:Nat}{c:Cf}{A:AG}{rs:List Nat}{T:Nat->Prop}{w:World}
theorem zN(f:eX b c A rs u n T w):Calls prog 16 #[b] w fun e w'=>e= .returned (.tuple #[])/\bh b c A rs T w w':=by
 have g:=ae (qR f);have H:=ae (show bh b c A rs T w w from ⟨u,n,T,f,GQ _ _,fun _ h=> .inl h⟩);obtain ⟨d,z⟩:(∃i:Option Nat,(i=none->n=0)/\w.cell? ⟨b,11,none⟩=some (lE i))/\w.cell? b=some (.int .i64 (c.kind:Int)):=by
  obtain ⟨h,φ,L,Ba,F,i,E,C,S,rfl,v,D,x⟩:=f;exact ⟨⟨i,fun e=>by subst e;exact v.mem.1,aJ.cell v.Qd 11 rfl⟩,aJ.cell v.Qd 0 rfl⟩
 obtain ⟨i,r,d⟩:=d
 cases i with
 |some y=>
  rw [show lE (some y)= .pointer (some ⟨y,0,none⟩) from rfl] at d;clear f r
  go_enter func16,ntmps16
  go_wp2_with fail
  refine g.out.mono ?_;rintro e w1 ⟨rfl,rfl⟩;clear g;go_wp2;go_end0;exact ⟨rfl,H.out⟩
 |none=>
  obtain rfl:=r rfl;rw [show lE none= .pointer none from rfl] at d;by_cases p:c.kind=1
  ·have j:=ae (qQ f p);have q:((c.kind:Int)==1)=true:=by rw [p];rfl
   have a:(c.kind:Int)=1:=by rw [p];rfl
   rw [a] at z;clear f r p q a H
   go_enter func16,ntmps16
   go_wp2_with fail
   refine g.out.mono ?_;rintro e w1 ⟨rfl,rfl⟩;clear g;go_wp2_with fail
   refine j.out.mono ?_;rintro e w3 ⟨rfl,l,B,s,t,k,m,o⟩;have H:=ae (show bh b c A rs T w w3 from ⟨_,B,s,k,m,o⟩);clear j t k m o;go_wp2;go_end0;exact ⟨rfl,H.out⟩
  ·have j:=ae (pB f);have a:¬(c.kind:Int)=1:=by omega
   have q:decide ((c.kind:Int)=1)=false:=ar a;clear f r p H
   go_enter func16,ntmps16
   go_wp2_with fail
   refine g.out.mono ?_;rintro e w1 ⟨rfl,rfl⟩;clear g;go_wp2_with fail
   refine j.out.mono ?_;rintro e w3 ⟨rfl,l,s,t,k,m,o⟩;have H:=ae (show bh b c A rs T w w3 from ⟨_,0,s,k,m,o⟩);clear j t k m o;go_wp2;go_end0;exact ⟨rfl,H.out⟩
end
def fI(b:Nat)(c:Cf)(mb nb:Nat)(K:Nat->Prop)(w0:World)(rm rn:Nat)(mL nL m1 n1:List (Nat×Nat))(w:World):Prop:=∃A ls tr,kj c.Wd A ls tr m1 n1/\qa b c mb nb K w0 A (cR ls) tr.root mL rm nL rn w
section
variable{b lb tb mb nb rm rn v f key i:Nat}{c:Cf}{K:Nat->Prop}{mL nL m1 n1 m':List (Nat×Nat)}{w0 w w':World}
theorem kj.Xh{W:Nat}{A:AG}{ls:List (Nat×Nat×Nat)}{tr:Tr}(h:kj W A ls tr mL nL):dE A [cR ls,0,0,tr.root,0,0,0,0] (co (ls++tr.all)):=by
 refine h.g.Xh (by simp) (by simp) (fun z a=> ?_);have d:cR ls=0\/cR ls∈co ls:=by
  cases ls with
  |nil=>exact .inl rfl
  |cons q l=>exact .inr (by simp [co,cR])
 have e:= @jI tr;rw [mj,bB];simp only [bM,bq,fD] at a;rcases a with rfl|rfl|rfl|rfl|rfl|rfl|rfl|rfl
 ·exact d.imp id .inl
 ·exact .inl rfl
 ·exact .inl rfl
 ·exact e.imp id .inr
 ·exact .inl rfl
 ·exact .inl rfl
 ·exact .inl rfl
 ·exact .inl rfl
theorem CK(m:aJ w0 lb (rB b) 156)(o:K lb)(r:c.Sl=8)(x:v<18446744073709551616)(hf:f<18446744073709551616)(h:fI b c mb nb K w0 rm rn mL nL m1 n1 w):Calls prog 31 #[lb,.int .u64 v,.float .f64 f] w fun e w'=>((4*m1.length+5*n1.length+4<=c.Wd/\e= .returned (0:Int)/\fI b c mb nb K w0 rm rn mL nL (m1++[(v,f)]) n1 w')\/(c.Wd<4*m1.length+5*n1.length+4/\e= .returned (21:Int)/\fI b c mb nb K w0 rm rn mL nL m1 n1 w'))/\w.heap.size<=w'.heap.size:=by
 obtain ⟨A,ls,tr,d,p⟩:=h;obtain ⟨u,n,T,s,l,hg⟩:=p.heap;obtain ⟨k,y⟩:∃k,k=(co (ls++tr.all)).sum+1:=⟨_,rfl⟩;have j:k∉co (ls++tr.all):=fun t=>by have:=nE t;omega
 have B:=d.g.Wd;have z:=d.lens;refine (BN (w0:=w) (p.kept o m) (l _ o) r d.Xh (show k≠0 by omega) j x hf s.Xm).mono ?_;rintro e w' (⟨q,rfl,a⟩|⟨q,rfl,a⟩)
 ·exact ⟨.inl ⟨by omega,rfl,_,_,tr,d.push (v:=v) (f:=f) (show k≠0 by omega) j (by omega),hg _ _ _ _ a⟩,a.fr.size⟩
 ·exact ⟨.inr ⟨by omega,rfl,A,ls,tr,d,hg _ _ _ _ a⟩,a.fr.size⟩
theorem D4{x:Nat×Nat}(k:aJ w0 lb (rB b) 156)(q:K lb)(B:c.Sl=8)(h:fI b c mb nb K w0 rm rn mL nL (m'++[x]) n1 w):Calls prog 33 #[lb] w fun e w'=>e= .returned (.tuple #[.int .u64 (x.1:Int),.float .f64 x.2,(0:Int)])/\fI b c mb nb K w0 rm rn mL nL m' n1 w':=by
 obtain ⟨A,ls,tr,j,r⟩:=h;obtain ⟨u,n,T,C,d,hg⟩:=r.heap
 cases ls with
 |nil=>exact absurd j.m (by simp [rR])
 |cons a ls=>
  obtain ⟨p1,p2⟩:=j.pop;obtain ⟨D,l⟩:=List.append_inj' p1 rfl;injection l with l
  subst D l;obtain ⟨o,F,E⟩:=a;obtain ⟨g1,s,t,y,z,G⟩:=j.g.hl;refine (DI (w0:=w) (r.kept q k) (d _ q) B g1 s C.Xm).mono ?_;rintro e w' ⟨rfl,p⟩;rw [t] at p;exact ⟨by show Ending.returned (.tuple #[.int .u64 ((A.Qk o 2:Nat):Int),.float .f64 (A.Qk o 1),(0:Int)])=_;rw [y,z],A,ls,tr,p2,hg _ _ _ _ p⟩
theorem CL(d:aJ w0 lb (rB b) 156)(g:K lb)(m:c.Sl=8)(h:fI b c mb nb K w0 rm rn mL nL [] n1 w):Calls prog 33 #[lb] w fun e w'=>e= .returned (.tuple #[.int .u64 0,.float .f64 0,(6:Int)])/\fI b c mb nb K w0 rm rn mL nL [] n1 w':=by
 obtain ⟨A,ls,tr,j,k⟩:=h;obtain ⟨u,n,T,o,a,hg⟩:=k.heap;have p:=j.lens.1;obtain rfl:ls=[]:=bV (by simpa using p.symm);refine (BO (w0:=w) (k.kept g d) (a _ g) m rfl o.Xm).mono ?_;rintro e w' ⟨rfl,l⟩;exact ⟨rfl,A,[],tr,j,hg _ _ _ _ l⟩
theorem D3(B:aJ w0 tb (ot b) 158)(C:K tb)(F:c.Sl=8)(o:key<18446744073709551616)(hf:f<18446744073709551616)(h:fI b c mb nb K w0 rm rn mL nL m1 n1 w):Calls prog 35 #[tb,.int .u64 key,.float .f64 f] w fun e w'=>w.heap.size<=w'.heap.size/\(∀(i v:Nat),n1[i]? =some (key,v)->e= .returned (0:Int)/\fI b c mb nb K w0 rm rn mL nL m1 (n1.set i (key,f)) w')/\((∀p∈n1,p.1≠key)->(4*m1.length+5*n1.length+5<=c.Wd/\e= .returned (0:Int)/\fI b c mb nb K w0 rm rn mL nL m1 (n1++[(key,f)]) w')\/(c.Wd<4*m1.length+5*n1.length+5/\e= .returned (21:Int)/\fI b c mb nb K w0 rm rn mL nL m1 n1 w')):=by
 obtain ⟨A,ls,tr,m,D⟩:=h;obtain ⟨u,n,T,j,s,hg⟩:=D.heap;have J:=m.g.Wd;have I:=m.lens;have t:(co (ls++tr.all)).sum+1∉co (ls++tr.all):=fun G=>by have:=nE G;omega
 refine (Dd (w0:=w) (D.kept C B) (s _ C) m.g F j.Xm o hf).mono ?_;rintro e w' ⟨y,⟨l,x,g,r,k,rfl,d⟩|⟨k,q,E,rfl,d⟩|⟨k,q,E,rfl,d⟩⟩
 ·have H:tr.root=(y.Qf (.node l x key f r)).root:=by rw [k,fC,fC];rfl
  rw [H] at d;have a:kj c.Wd A ls (y.Qf (.node l x key g r)) m1 n1:=k▸m;refine ⟨d.fr.size,fun i v j=>⟨rfl,_,_,_,a.puts j,hg _ _ _ _ d⟩,fun z=> ?_⟩;obtain ⟨i,j⟩:=a.has;exact absurd rfl (z _ (aD j))
 ·have a:kj c.Wd A ls (y.Qf .nil) m1 n1:=k▸m;refine ⟨d.fr.size,fun i v j=>absurd rfl (a.Zd q _ (aD j)),fun _=> .inl ⟨by omega,rfl,_,_,_,a.putn q (by omega) (k▸t) (by rw [<-k];omega),hg _ _ _ _ d⟩⟩
 ·have a:kj c.Wd A ls (y.Qf .nil) m1 n1:=k▸m;exact ⟨d.fr.size,fun i v j=>absurd rfl (a.Zd q _ (aD j)),fun _=> .inr ⟨by omega,rfl,_,_,_,m,hg _ _ _ _ d⟩⟩
theorem CN(C:aJ w0 tb (ot b) 158)(D:K tb)(F:c.Sl=8)(h:fI b c mb nb K w0 rm rn mL nL m1 n1 w):Calls prog 37 #[tb,.int .u64 key] w fun e w'=>w.heap.size<=w'.heap.size/\(∀(i v:Nat),n1[i]? =some (key,v)->e= .returned (0:Int)/\fI b c mb nb K w0 rm rn mL nL m1 (n1.eraseIdx i) w')/\((∀p∈n1,p.1≠key)->e= .returned (6:Int)/\fI b c mb nb K w0 rm rn mL nL m1 n1 w'):=by
 obtain ⟨A,ls,tr,o,E⟩:=h;obtain ⟨u,n,T,j,s,hg⟩:=E.heap;refine (AN (w0:=w) (E.kept D C) (s _ D) o.g F j.Xm).mono ?_;rintro e w' ⟨y,⟨m,G,rfl,a⟩|⟨l,x,g,r,m,rfl,a⟩⟩
 ·have d:kj c.Wd A ls (y.Qf .nil) m1 n1:=m▸o;exact ⟨a.fr.size,fun i v j=>absurd rfl (d.Zd G _ (aD j)),fun _=>⟨rfl,_,_,_,o,hg _ _ _ _ a⟩⟩
 ·have d:kj c.Wd A ls (y.Qf (.node l x key g r)) m1 n1:=m▸o;refine ⟨?_,fun i v j=>⟨rfl,?_⟩,fun B=> ?_⟩
  ·rcases a with ⟨_,a⟩|⟨_,a⟩|⟨_,_,_,_,_,_,_,a⟩<;>exact a.fr.size
  rotate_left
  ·obtain ⟨i,j⟩:=d.has;exact absurd rfl (B _ (aD j))
  rcases a with ⟨rfl,a⟩|⟨rfl,a⟩|⟨z,q,k,f',t,rfl,I,a⟩
  ·rw [<-fC] at a;exact ⟨_,_,_,d.dropl j,hg _ _ _ _ a⟩
  ·rw [<-fC] at a;exact ⟨_,_,_,d.dropr j,hg _ _ _ _ a⟩
  ·have H:tr.root=(y.Qf (.node l x k f' (z.Qf t))).root:=by rw [m,fC,fC];rfl
   rw [H] at a;exact ⟨_,_,_,d.drops I j,hg _ _ _ _ a⟩
theorem BM{A:AG}:∀{ls:List (Nat×Nat×Nat)} {d:Nat},kE A ls->(h:d<ls.length)->A.Qk (cR (ls.drop d)) 2=(ls[d]).2.1/\A.Qk (cR (ls.drop d)) 1=(ls[d]).2.2
 |(x,y,f)::ls,0,h,_=>⟨h.2.2.2.2.1,h.2.2.2.1⟩
 |(x,y,f)::ls,d+1,h,hd=>BM (ls:=ls) (d:=d) h.2.2.2.2.2 (by simpa using hd)
theorem An(h:fI b c mb nb K w0 rm rn mL nL m1 n1 w):Calls prog 16 #[b] w fun e w'=>e= .returned (.tuple #[])/\fI b c mb nb K w0 rm rn mL nL m1 n1 w':=by
 obtain ⟨A,ls,tr,g,j⟩:=h;obtain ⟨u,n,T,k,d,hg⟩:=j.heap;refine (zN k).mono ?_;rintro e w' ⟨rfl,a⟩;exact ⟨rfl,A,ls,tr,g,hg _ _ _ _ a⟩
theorem CJ(h:fI b c mb nb K w0 rm rn mL nL m1 n1 w):Calls prog 17 #[b] w fun e w'=>(∃B,e= .returned (.bool B))/\fI b c mb nb K w0 rm rn mL nL m1 n1 w':=by
 obtain ⟨A,ls,tr,l,m⟩:=h;obtain ⟨u,n,T,o,k,hg⟩:=m.heap;refine (qO o).mono ?_;rintro e w' ⟨rfl,a,d,g,j⟩;exact ⟨⟨_,rfl⟩,A,ls,tr,l,hg _ _ _ _ ⟨_,_,a,d,g,j⟩⟩
theorem fI.Xz(h:fI b c mb nb K w0 rm rn mL nL m1 n1 w):∃S,jx 72 84 mb mL rm S w/\∀a d w',pI 72 84 mb a d S w w'->fI b c mb nb K w0 d rn a nL m1 n1 w':=by
 obtain ⟨A,ls,tr,j,k⟩:=h;obtain ⟨S,e,g⟩:=k.Xz;exact ⟨S,e,fun a d w' hp=>⟨A,ls,tr,j,g _ _ _ hp⟩⟩
theorem fI.Ya(h:fI b c mb nb K w0 rm rn mL nL m1 n1 w):∃S,jx 76 93 nb nL rn S w/\∀a d w',pI 76 93 nb a d S w w'->fI b c mb nb K w0 rm d mL a m1 n1 w':=by
 obtain ⟨A,ls,tr,j,k⟩:=h;obtain ⟨S,e,g⟩:=k.Ya;exact ⟨S,e,fun a d w' hp=>⟨A,ls,tr,j,g _ _ _ hp⟩⟩
theorem fI.Qa(h:fI b c mb nb K w0 rm rn mL nL m1 n1 w)(hf:GM w w'):fI b c mb nb K w0 rm rn mL nL m1 n1 w':=let ⟨A,ls,tr,a,d⟩:=h;⟨A,ls,tr,a,d.Qa hf⟩
theorem fI.uniq{g j:Nat}{d e m n:List (Nat×Nat)}(h:fI b c mb nb K w0 rm rn mL nL m1 n1 w)(l:fI b c mb nb K w0 g j d e m n w):mL=d/\nL=e:=let ⟨_,_,_,_,k⟩:=h;let ⟨_,_,_,_,a⟩:=l;⟨k.uniqm a,k.uniqn a⟩
theorem fI.kept(h:fI b c mb nb K w0 rm rn mL nL m1 n1 w){x:Nat}{cs:List Value}{t:TypeId}(e:K x)(d:aJ w0 x cs t):aJ w x cs t:=let ⟨_,_,_,_,a⟩:=h;a.kept e d
def gQ(b:Nat)(c:Cf)(mb nb:Nat)(K:Nat->Prop)(w0:World)(rm rn:Nat)(mL nL m1 n1:List (Nat×Nat)):Bool->Bool->World->Prop
 |false,false=>fI b c mb nb K w0 rm rn mL nL mL nL
 |true,false=>fI b c mb nb K w0 rm rn mL nL m1 n1
 |false,true=>fI b c mb nb K w0 rm rn m1 n1 mL nL
 |true,true=>fI b c mb nb K w0 rm rn m1 n1 m1 n1
end
def tm(d e:Nat):Nat->List PK->Prop
 |_,[]=>True
 |k,.c _::l=>tm d e (k+1) l
 |k,_::l=>(k=d\/k=e)/\tm d e (k+1) l
theorem mq{d e:Nat}:∀{ps:List PK} (k j:Nat),tm d e k ps->k+j≠d->k+j≠e->∀v w w',(ij ps j).post v w->(ij ps j).post v w'
 |[],_,_,_,_,_,_,_,_,_=>trivial
 | .c _::_,_,0,_,_,_,_,_,_,hp=>hp
 | .p _::_,_,0,h,h1,h2,_,_,_,_=>(h.1.elim h1 h2).elim
 | .w _ _::_,_,0,h,h1,h2,_,_,_,_=>(h.1.elim h1 h2).elim
 | .c _::l,k,j+1,h,h1,h2,v,w,w',hp=>mq (ps:=l) (k+1) j h (by omega) (by omega) v w w' hp
 | .p _::l,k,j+1,h,h1,h2,v,w,w',hp=>mq (ps:=l) (k+1) j h.2 (by omega) (by omega) v w w' hp
 | .w _ _::l,k,j+1,h,h1,h2,v,w,w',hp=>mq (ps:=l) (k+1) j h.2 (by omega) (by omega) v w w' hp
theorem rp{vs:Nat->Value}{w:World}{V:Value}{f:World->Prop}:∀(ps:List PK) (k j:Nat),j<ps.length->ij ps j= .w V f->rG vs w k ps->f w
 |[],_,_,h,_,_=>absurd h (fb _)
 |p::l,k,0,_,h,ha=>by
  obtain rfl:p= .w V f:=h;exact ha.1
 | .c _::l,k,j+1,h,hj,ha=>rp l (k+1) j (Nat.lt_of_succ_lt_succ h) hj ha
 | .p _::l,k,j+1,h,hj,ha=>rp l (k+1) j (Nat.lt_of_succ_lt_succ h) hj ha.2
 | .w _ _::l,k,j+1,h,hj,ha=>rp l (k+1) j (Nat.lt_of_succ_lt_succ h) hj ha.2
section
variable{P:Program}{BR:Bool->Bool->World->Prop}{d e:Nat}
def oG(BR:Bool->Bool->World->Prop)(d e k:Nat)(w:World):Prop:=bif k==d then BR false false w\/BR false true w else bif k==e then BR false false w\/BR true false w else True
def rP(BR:Bool->Bool->World->Prop)(d e k:Nat)(w w':World):Prop:=w.heap.size<=w'.heap.size/\bif k==d then∃B,BR false B w/\BR true B w' else bif k==e then∀B,BR B false w->BR B true w' else GM w w'
theorem kr{U:Nat}{Q:Exit->Act->World->Prop}{a:Act}{w:World}{l:List Oper}(n d e:Nat)(BR:Bool->Bool->World->Prop)(I J:Value)(ps:List PK)
 (G:(d==e)=false) (O:d<n) (R:e<n)
  (C:ij ps d= .w I (fun w=>BR true false w\/BR true true w)) (D:ij ps e= .w J (fun w=>BR false true w\/BR true true w)) (N:tm d e 0 ps)
  (r:∀x y w w',BR x y w->GM w w'->BR x y w') (s:∀x V w,BR x false w->BR V true w->∀z w',BR z true w'↔BR z false w') (E:BR false false w.drew)
  (h:∀F:(Nat->Value)->Act,(F=fun vs=>{a with tmps:=fp vs 0 ps (l.take n) a.tmps})->nX P F (fun w=>∃x y,BR x y w) (oG BR d e) (rP BR d e) ps (fun _=>false) 0 (l.take n)/\∀vs w',BR true true w'->rG vs w' 0 ps->wpList P l.toArray Q (l.drop n) (F vs) w') (T:P.follows .mixedOrders=true:=by kernel_rfl) (K:iX l=true:=by kernel_rfl) (L:gN l=true:=by kernel_rfl) (M:(decide (n<=l.length)&&tZ l n&&Region.seqB .any l.toArray (l.length-n) n (jd l.length n))=true:=by kernel_rfl) (S:ps.length=n:=by rfl):
  (Code.region U l.toArray true).wp P Q a w:=by
 have u:(e==d)=false:=by rw [Bool.beq_comm];exact G
 have A:∀w,oG BR d e d w->oG BR d e e w->BR false false w:=fun w g c=>by
  unfold oG at g c;rw [cT] at g;rw [u,cT] at c;rcases g with g|g
  ·exact g
  ·rcases c with c|c
   ·exact c
   ·exact (s _ _ _ c g _ _).1 g
 refine ql n (fun w=>∃x y,BR x y w) (oG BR d e) (rP BR d e) ps (fun _=>false) T K L M S (fun _ _ _ q=>q.1) (fun k w w' g c b=> ?_) (fun j k w w' o _ q0 g c b=> ?_) (fun j k v w w' o g c b=> ?_) ⟨_,_,E⟩ (fun k=> ?_) (fun F H=>⟨(h F H).1,fun vs w' _ c _=> ?_⟩)
 ·unfold rP at b
  cases f:k==d with
  |true=>rw [f] at b;obtain ⟨_,B,_,q⟩:=b;exact ⟨_,_,q⟩
  |false=>
   cases hke:k==e with
   |true=>
    unfold oG at c;rw [f,hke] at c b;rcases c with c|c
    ·exact ⟨_,_,b.2 _ c⟩
    ·exact ⟨_,_,b.2 _ c⟩
   |false=>rw [f,hke] at b;obtain ⟨x,y,q⟩:=g;exact ⟨x,y,r _ _ _ _ q b.2⟩
 ·cases f:k==d with
  |true=>
   obtain rfl:=dz.1 f;unfold rP at b;rw [f] at b;obtain ⟨_,B,p1,p2⟩:=b
   cases m:j==e with
   |false=>unfold oG;rw [show (j==k)=false from aT.2 o,m];trivial
   |true=>
    obtain rfl:=dz.1 m;have hf:=A w c g;unfold oG;rw [u,cT]
    cases B with
    |false=>exact .inr p2
    |true=>exact .inr ((s _ _ _ hf p1 _ _).1 p2)
  |false=>
   cases hke:k==e with
   |true=>
    obtain rfl:=dz.1 hke;unfold rP at b;rw [f,hke] at b
    cases i:j==d with
    |false=>unfold oG;rw [i,show (j==k)=false from aT.2 o];trivial
    |true=>
     obtain rfl:=dz.1 i;have hf:=A w g c;unfold oG;rw [cT];exact .inr (b.2 _ hf)
   |false=>
    unfold rP at b;rw [f,hke] at b;unfold oG at g ⊢
    cases i:j==d with
    |true=>rw [i] at g;exact g.imp (fun q=>r _ _ _ _ q b.2) (fun q=>r _ _ _ _ q b.2)
    |false=>
     cases m:j==e with
     |true=>rw [i,m] at g;exact g.imp (fun q=>r _ _ _ _ q b.2) (fun q=>r _ _ _ _ q b.2)
     |false=>trivial
 ·by_cases i:j=d
  ·subst i;rw [C] at c ⊢;have f:(k==j)=false:=aT.2 (fun e=>o e.symm);refine ⟨c.1,?_⟩;unfold rP at b;unfold oG at g;rw [f] at g b
   cases hke:k==e with
   |true=>
    rw [hke] at g b;right;rcases c.2 with q|q
    ·exact b.2 _ q
    ·rcases g with p|p
     ·exact b.2 _ ((s _ _ _ p q _ _).1 q)
     ·exact b.2 _ p
   |false=>rw [hke] at b;exact c.2.imp (fun q=>r _ _ _ _ q b.2) (fun q=>r _ _ _ _ q b.2)
  ·by_cases m:j=e
   ·subst m;rw [D] at c ⊢;refine ⟨c.1,?_⟩;unfold rP at b
    cases f:k==d with
    |true=>
     rw [f] at b;obtain ⟨_,B,p1,p2⟩:=b;right
     cases B with
     |true=>exact p2
     |false=>
      rcases c.2 with q|q
      ·exact (s _ _ _ p1 q _ _).2 p2
      ·exact (s _ _ _ p1 q _ _).2 p2
    |false=>
     rw [f,show (k==j)=false from aT.2 (fun e=>o e.symm)] at b;exact c.2.imp (fun q=>r _ _ _ _ q b.2) (fun q=>r _ _ _ _ q b.2)
   ·exact mq 0 j N (by omega) (by omega) v w w' c
 ·unfold oG
  cases k==d with
  |true=>exact .inl E
  |false=>
   cases k==e with
   |true=>exact .inl E
   |false=>trivial
 ·have g1:=rp ps 0 d (by omega) C c;have t:=rp ps 0 e (by omega) D c;refine (h F H).2 vs w' ?_ c;rcases g1 with g1|g1
  ·rcases t with t|t
   ·exact (s _ _ _ g1 t _ _).2 g1
   ·exact t
  ·exact g1
end
section
variable{ty e:TypeId}{mb Rm room':Nat}{l l' l'':List (Nat×Nat)}{S S':Nat->Prop}{w w':World}
theorem jx.sets(h:jx ty e mb l Rm S w)(d:jx ty e mb l' room' S' w):∀k,S k↔S' k:=by
 obtain ⟨p,cap,f,_,_,g⟩:=h;obtain ⟨i,b,g1,_,_,c⟩:=d;have a:=(f.cell 0 rfl).symm.trans (g1.cell 0 rfl);injection a with a
 intro k;rw [g,c,a]
theorem pI.Yu(h:pI ty e mb l Rm S w w')(b:∀k,S k↔S' k):pI ty e mb l Rm S' w w':=by
 obtain ⟨c,d,f,g⟩:=h;exact ⟨c,d,f.mono (fun k a=> .inl ((b k).1 a)),fun k a=>(g k a).imp (b k).1 id⟩
theorem jx.roomy(h:jx ty e mb l Rm S w):pI ty e mb l room' S w (w.setCell ⟨mb,1,none⟩ (.int .i64 (room':Int))):=by
 obtain ⟨p,cap,d,f,b,c⟩:=h;have hf:Fr (fun k=>k=mb) w (w.setCell ⟨mb,1,none⟩ (.int .i64 (room':Int))):=(GQ (fun k=>k=mb) w).setCell _ (.inl rfl) _;exact ⟨S,⟨p,cap,d.set 1 _,aO f hf (fun k a e=>b k a e),b,c⟩,hf.mono (fun k a=> .inl ((c k).2 (.inl a))),fun _ h=> .inl h⟩
end
section
variable{b mb nb rm rn v f key i:Nat}{c:Cf}{K:Nat->Prop}{mL nL m1 n1 m':List (Nat×Nat)}{w0 w w':World}
theorem fI.putm{S:Nat->Prop}{a:List (Nat×Nat)}{d:Nat}(h:fI b c mb nb K w0 rm rn mL nL m1 n1 w)(g:jx 72 84 mb mL rm S w)(hp:pI 72 84 mb a d S w w'):fI b c mb nb K w0 d rn a nL m1 n1 w':=by
 obtain ⟨S',g1,e⟩:=h.Xz;exact e _ _ _ (hp.Yu (g.sets g1))
theorem fI.putn{S:Nat->Prop}{a:List (Nat×Nat)}{d:Nat}(h:fI b c mb nb K w0 rm rn mL nL m1 n1 w)(g:jx 76 93 nb nL rn S w)(hp:pI 76 93 nb a d S w w'):fI b c mb nb K w0 rm d mL a m1 n1 w':=by
 obtain ⟨S',g1,e⟩:=h.Ya;exact e _ _ _ (hp.Yu (g.sets g1))
theorem kj.keys{W:Nat}{A:AG}{ls:List (Nat×Nat×Nat)}{tr:Tr}(h:kj W A ls tr m1 n1):(n1.map (·.1)).Nodup:=by
 have a:(n1.map (·.1)).Perm (lr tr.all):=by
  have:=h.n.map (·.1);unfold rR at this;rw [jl] at this;exact this
 refine (a.nodup_iff).2 ?_;exact h.o.imp (fun h=>gA h)
theorem fI.key1{j q:Nat}(h:fI b c mb nb K w0 rm rn mL nL m1 n1 w)(k:n1[i]? =some (key,v))(l:n1[j]? =some (key,q)):i=j:=by
 obtain ⟨A,ls,tr,m,_⟩:=h;have n:=m.keys;obtain ⟨a,o⟩:=al.1 k;obtain ⟨d,p⟩:=al.1 l;have e:(n1.map (·.1))[i]'(by simpa using a)=key:=by rw [List.getElem_map,o]
 have g:(n1.map (·.1))[j]'(by simpa using d)=key:=by rw [List.getElem_map,p]
 have hp:=List.pairwise_iff_getElem.1 n;rcases dC i j with h|h|h
 ·exact absurd (e.trans g.symm) (hp i j (by simpa using a) (by simpa using d) h)
 ·exact h
 ·exact absurd (g.trans e.symm) (hp j i (by simpa using d) (by simpa using a) h)
theorem gQ.Qa{x y:Bool}(h:gQ b c mb nb K w0 rm rn mL nL m1 n1 x y w)(hf:GM w w'):gQ b c mb nb K w0 rm rn mL nL m1 n1 x y w':=by
 cases x<;>cases y<;>exact fI.Qa h hf
theorem gQ.same{x a:Bool}(h:gQ b c mb nb K w0 rm rn mL nL m1 n1 x false w)(d:gQ b c mb nb K w0 rm rn mL nL m1 n1 a true w):∀z w',gQ b c mb nb K w0 rm rn mL nL m1 n1 z true w'↔gQ b c mb nb K w0 rm rn mL nL m1 n1 z false w':=by
 have e:mL=m1/\nL=n1:=by
  cases x<;>cases a<;>exact fI.uniq h d
 obtain ⟨rfl,rfl⟩:=e;intro z w'
 cases z<;>exact dX
end
section
variable{b lb tb mb nb rm rn v f key i cd:Nat}{c:Cf}{K:Nat->Prop}{mL nL m1 n1 m':List (Nat×Nat)}{w0 w w':World}
def FX(c:Cf)(mL nL:List (Nat×Nat))(v f:Nat)(m1:List (Nat×Nat))(cd:Nat):Prop:=(4*mL.length+5*nL.length+4<=c.Wd/\m1=mL++[(v,f)]/\cd=0)\/(c.Wd<4*mL.length+5*nL.length+4/\m1=mL/\cd=21)
theorem EP(d:aJ w0 lb (rB b) 156)(o:K lb)(p:c.Sl=8)(r:v<18446744073709551616)(hf:f<18446744073709551616)(q:FX c mL nL v f m1 cd)(h:gQ b c mb nb K w0 rm rn mL nL m1 nL false false w\/gQ b c mb nb K w0 rm rn mL nL m1 nL false true w):Calls prog 31 #[lb,.int .u64 v,.float .f64 f] w fun e w'=>e= .returned (cd:Int)/\w.heap.size<=w'.heap.size/\∃B,gQ b c mb nb K w0 rm rn mL nL m1 nL false B w/\gQ b c mb nb K w0 rm rn mL nL m1 nL true B w':=by
 have l:∀{μ ν:List (Nat×Nat)},fI b c mb nb K w0 rm rn μ ν mL nL w->Calls prog 31 #[lb,.int .u64 v,.float .f64 f] w fun e w'=>e= .returned (cd:Int)/\w.heap.size<=w'.heap.size/\fI b c mb nb K w0 rm rn μ ν m1 nL w':=fun h=>by
  refine (CK d o p r hf h).mono ?_;rintro e w' ⟨⟨n,rfl,a⟩|⟨n,rfl,a⟩,m⟩<;>rcases q with ⟨g1,rfl,rfl⟩|⟨g1,rfl,rfl⟩
  ·exact ⟨rfl,m,a⟩
  ·omega
  ·omega
  ·exact ⟨rfl,m,a⟩
 rcases h with h|h
 ·exact (l h).mono (fun e w' ⟨g,j,k⟩=>⟨g,j,false,h,k⟩)
 ·exact (l h).mono (fun e w' ⟨g,j,k⟩=>⟨g,j,true,h,k⟩)
theorem EO(n:mL.length<=1000)(o:(mL.length<rm/\m1=mL++[(v,f)]/\cd=0)\/(rm<=mL.length/\m1=mL/\cd=21))(h:gQ b c mb nb K w0 rm rn mL nL m1 nL false false w\/gQ b c mb nb K w0 rm rn mL nL m1 nL true false w):Calls prog 32 #[mb,.int .u64 v,.int .u64 f] w fun e w'=>e= .returned (cd:Int)/\w.heap.size<=w'.heap.size/\∀B,gQ b c mb nb K w0 rm rn mL nL m1 nL B false w->gQ b c mb nb K w0 rm rn mL nL m1 nL B true w':=by
 obtain ⟨S,k⟩:∃S,jx 72 84 mb mL rm S w:=by
  rcases h with h|h
  ·obtain ⟨S,g,_⟩:=fI.Xz h;exact ⟨S,g⟩
  ·obtain ⟨S,g,_⟩:=fI.Xz h;exact ⟨S,g⟩
 have d:∀{w'},pI 72 84 mb m1 rm S w w'->w.heap.size<=w'.heap.size/\∀B,gQ b c mb nb K w0 rm rn mL nL m1 nL B false w->gQ b c mb nb K w0 rm rn mL nL m1 nL B true w':=fun hp=>by
  obtain ⟨S',p1,p2,p3⟩:=id hp;refine ⟨p2.size,fun B l=> ?_⟩
  cases B
  ·exact fI.putm l k hp
  ·exact fI.putm l k hp
 refine (A5 (a:=v) (f:=f) k n).mono ?_;rintro e w' (⟨m,rfl,j⟩|⟨m,rfl,j⟩)<;>rcases o with ⟨g1,rfl,rfl⟩|⟨g1,rfl,rfl⟩
 ·omega
 ·exact ⟨rfl,d j⟩
 ·exact ⟨rfl,d j⟩
 ·omega
theorem FG(k:aJ w0 tb (ot b) 158)(t:K tb)(u:c.Sl=8)(j:key<18446744073709551616)(hf:f<18446744073709551616)(y:(∃i v:Nat,nL[i]? =some (key,v)/\n1=nL.set i (key,f)/\cd=0)\/((∀p∈nL,p.1≠key)/\4*mL.length+5*nL.length+5<=c.Wd/\n1=nL++[(key,f)]/\cd=0)\/((∀p∈nL,p.1≠key)/\c.Wd<4*mL.length+5*nL.length+5/\n1=nL/\cd=21))(h:gQ b c mb nb K w0 rm rn mL nL mL n1 false false w\/gQ b c mb nb K w0 rm rn mL nL mL n1 false true w):Calls prog 35 #[tb,.int .u64 key,.float .f64 f] w fun e w'=>e= .returned (cd:Int)/\w.heap.size<=w'.heap.size/\∃B,gQ b c mb nb K w0 rm rn mL nL mL n1 false B w/\gQ b c mb nb K w0 rm rn mL nL mL n1 true B w':=by
 have r:∀{μ ν:List (Nat×Nat)},fI b c mb nb K w0 rm rn μ ν mL nL w->Calls prog 35 #[tb,.int .u64 key,.float .f64 f] w fun e w'=>e= .returned (cd:Int)/\w.heap.size<=w'.heap.size/\fI b c mb nb K w0 rm rn μ ν mL n1 w':=fun h=>by
  refine (D3 k t u j hf h).mono ?_;rintro e w' ⟨l,p,q⟩;rcases y with ⟨i,v,x,rfl,rfl⟩|⟨a,g,rfl,rfl⟩|⟨a,g,rfl,rfl⟩
  ·obtain ⟨rfl,d⟩:=p i v x;exact ⟨rfl,l,d⟩
  ·rcases q a with ⟨_,rfl,d⟩|⟨s,_,_⟩
   ·exact ⟨rfl,l,d⟩
   ·omega
  ·rcases q a with ⟨s,_,_⟩|⟨_,rfl,d⟩
   ·omega
   ·exact ⟨rfl,l,d⟩
 rcases h with h|h
 ·exact (r h).mono (fun e w' ⟨m,n,o⟩=>⟨m,n,false,h,o⟩)
 ·exact (r h).mono (fun e w' ⟨m,n,o⟩=>⟨m,n,true,h,o⟩)
theorem FF(r:nL.length<=1000)(t:∀(i j v m:Nat),nL[i]? =some (key,v)->nL[j]? =some (key,m)->i=j)(s:(∃i v:Nat,nL[i]? =some (key,v)/\n1=nL.set i (key,f)/\cd=0)\/((∀p∈nL,p.1≠key)/\nL.length<rn/\n1=nL++[(key,f)]/\cd=0)\/((∀p∈nL,p.1≠key)/\rn<=nL.length/\n1=nL/\cd=21))(h:gQ b c mb nb K w0 rm rn mL nL mL n1 false false w\/gQ b c mb nb K w0 rm rn mL nL mL n1 true false w):Calls prog 36 #[nb,.int .u64 key,.int .u64 f] w fun e w'=>e= .returned (cd:Int)/\w.heap.size<=w'.heap.size/\∀B,gQ b c mb nb K w0 rm rn mL nL mL n1 B false w->gQ b c mb nb K w0 rm rn mL nL mL n1 B true w':=by
 obtain ⟨S,l⟩:∃S,jx 76 93 nb nL rn S w:=by
  rcases h with h|h
  ·obtain ⟨S,g,_⟩:=fI.Ya h;exact ⟨S,g⟩
  ·obtain ⟨S,g,_⟩:=fI.Ya h;exact ⟨S,g⟩
 have a:∀{w'},pI 76 93 nb n1 rn S w w'->w.heap.size<=w'.heap.size/\∀B,gQ b c mb nb K w0 rm rn mL nL mL n1 B false w->gQ b c mb nb K w0 rm rn mL nL mL n1 B true w':=fun hp=>by
  obtain ⟨S',p1,p2,p3⟩:=id hp;refine ⟨p2.size,fun B n=> ?_⟩
  cases B
  ·exact fI.putn n l hp
  ·exact fI.putn n l hp
 refine (A4 (key:=key) (f:=f) l r).mono ?_;rintro e w' (⟨i,v,d,rfl,k⟩|⟨d,q,rfl,k⟩|⟨d,q,rfl,k⟩)<;>rcases s with ⟨j,m,g1,rfl,rfl⟩|⟨g1,o,rfl,rfl⟩|⟨g1,o,rfl,rfl⟩
 ·obtain rfl:=t i j v m d g1;exact ⟨rfl,a k⟩
 ·exact absurd rfl (g1 _ (aD d))
 ·exact absurd rfl (g1 _ (aD d))
 ·exact absurd rfl (d _ (aD g1))
 ·omega
 ·exact ⟨rfl,a k⟩
 ·exact absurd rfl (d _ (aD g1))
 ·exact ⟨rfl,a k⟩
 ·omega
theorem Fb(g:aJ w0 tb (ot b) 158)(o:K tb)(r:c.Sl=8)(t:(∃i v:Nat,nL[i]? =some (key,v)/\n1=nL.eraseIdx i/\cd=0)\/((∀p∈nL,p.1≠key)/\n1=nL/\cd=6))(h:gQ b c mb nb K w0 rm rn mL nL mL n1 false false w\/gQ b c mb nb K w0 rm rn mL nL mL n1 false true w):Calls prog 37 #[tb,.int .u64 key] w fun e w'=>e= .returned (cd:Int)/\w.heap.size<=w'.heap.size/\∃B,gQ b c mb nb K w0 rm rn mL nL mL n1 false B w/\gQ b c mb nb K w0 rm rn mL nL mL n1 true B w':=by
 have m:∀{μ ν:List (Nat×Nat)},fI b c mb nb K w0 rm rn μ ν mL nL w->Calls prog 37 #[tb,.int .u64 key] w fun e w'=>e= .returned (cd:Int)/\w.heap.size<=w'.heap.size/\fI b c mb nb K w0 rm rn μ ν mL n1 w':=fun h=>by
  refine (CN g o r h).mono ?_;rintro e w' ⟨n,p,q⟩;rcases t with ⟨i,v,s,rfl,rfl⟩|⟨d,rfl,rfl⟩
  ·obtain ⟨rfl,a⟩:=p i v s;exact ⟨rfl,n,a⟩
  ·obtain ⟨rfl,a⟩:=q d;exact ⟨rfl,n,a⟩
 rcases h with h|h
 ·exact (m h).mono (fun e w' ⟨j,k,l⟩=>⟨j,k,false,h,l⟩)
 ·exact (m h).mono (fun e w' ⟨j,k,l⟩=>⟨j,k,true,h,l⟩)
theorem E9(o:nL.length<=1000)(r:∀(i j v m:Nat),nL[i]? =some (key,v)->nL[j]? =some (key,m)->i=j)(q:(∃i v:Nat,nL[i]? =some (key,v)/\n1=nL.eraseIdx i/\cd=0)\/((∀p∈nL,p.1≠key)/\n1=nL/\cd=6))(h:gQ b c mb nb K w0 rm rn mL nL mL n1 false false w\/gQ b c mb nb K w0 rm rn mL nL mL n1 true false w):Calls prog 38 #[nb,.int .u64 key] w fun e w'=>e= .returned (cd:Int)/\w.heap.size<=w'.heap.size/\∀B,gQ b c mb nb K w0 rm rn mL nL mL n1 B false w->gQ b c mb nb K w0 rm rn mL nL mL n1 B true w':=by
 obtain ⟨S,l⟩:∃S,jx 76 93 nb nL rn S w:=by
  rcases h with h|h
  ·obtain ⟨S,g,_⟩:=fI.Ya h;exact ⟨S,g⟩
  ·obtain ⟨S,g,_⟩:=fI.Ya h;exact ⟨S,g⟩
 have a:∀{w'},pI 76 93 nb n1 rn S w w'->w.heap.size<=w'.heap.size/\∀B,gQ b c mb nb K w0 rm rn mL nL mL n1 B false w->gQ b c mb nb K w0 rm rn mL nL mL n1 B true w':=fun hp=>by
  obtain ⟨S',p1,p2,p3⟩:=id hp;refine ⟨p2.size,fun B n=> ?_⟩
  cases B
  ·exact fI.putn n l hp
  ·exact fI.putn n l hp
 refine (y8 (key:=key) l o).mono ?_;rintro e w' (⟨i,v,d,rfl,k⟩|⟨d,rfl,k⟩)<;>rcases q with ⟨j,m,g1,rfl,rfl⟩|⟨g1,rfl,rfl⟩
 ·obtain rfl:=r i j v m d g1;exact ⟨rfl,a k⟩
 ·exact absurd rfl (g1 _ (aD d))
 ·exact absurd rfl (d _ (aD g1))
 ·exact ⟨rfl,a k⟩
end
def Gi(b:Nat)(c:Cf)(lb tb:Nat)(W1:World)(K:Nat->Prop)(w0:World):Prop:=(∀k,k<W1.heap.size->K k)/\K lb/\K tb/\aJ w0 lb (rB b) 156/\aJ w0 tb (ot b) 158/\GM W1 w0/\c.Sl=8/\c.Wd<=2048
def tL(b:Nat)(c:Cf)(lb tb mb nb:Nat)(W1:World)(rm rn:Nat)(mL nL m1 n1:List (Nat×Nat))(w:World):Prop:=∃K w0,Gi b c lb tb W1 K w0/\fI b c mb nb K w0 rm rn mL nL m1 n1 w
section
variable{b lb tb mb nb r0 r3 rm rn:Nat}{c:Cf}{A:AG}{K:Nat->Prop}{mL nL m1 n1:List (Nat×Nat)}{w0 w w' W W1:World}{cs:List Value}{t:TypeId}
theorem qa.Ba(h:qa b c mb nb K w0 A r0 r3 mL rm nL rn w)(hf:GM w W)(v:aJ W w.heap.size cs t):qa b c mb nb (fun k=>K k\/k=w.heap.size) W A r0 r3 mL rm nL rn W:=by
 obtain ⟨u,n,T,l,m,g,i,j,⟨d,f,o⟩,p,r,s⟩:=h;have y:=p.size;have x:=v.lt;exact ⟨u,n,T,l,m,g.Qa hf,i.Qa hf,j.Qa hf,⟨fun k a=>⟨(d k a).1,(d k a).2.1,fun q=>q.elim (d k a).2.2 (fun e=>by have:=g.lt k a;omega)⟩,fun k a=>⟨(f k a).1,fun q=>q.elim (f k a).2 (fun e=>by have:=i.lt k a;omega)⟩,fun k a q=>q.elim (o k a) (fun e=>by have:=j.lt k a;omega)⟩,GQ _ _,fun k a=>a.elim (fun q=>by have:=r k q;omega) (fun e=>by omega),.inl s⟩
theorem fI.fr(h:fI b c mb nb K w0 rm rn mL nL m1 n1 w):Fr (fun k=>¬K k) w0 w:=let ⟨_,_,_,_,_,_,_,_,_,_,_,_,_,a,_⟩:=h;a
theorem fI.Ba(h:fI b c mb nb K w0 rm rn mL nL m1 n1 w)(d:Gi b c lb tb W1 K w0)(hf:GM w W)(l:aJ W w.heap.size cs t):Gi b c lb tb W1 (fun k=>K k\/k=w.heap.size) W/\fI b c mb nb (fun k=>K k\/k=w.heap.size) W rm rn mL nL m1 n1 W:=by
 obtain ⟨e,f,g,n,o,p,r⟩:=d;have i:=h.fr;obtain ⟨A,ls,tr,j,a⟩:=h;refine ⟨⟨fun k q=> .inl (e k q),.inl f,.inl g,(a.kept f n).frame hf id,(a.kept g o).frame hf id,(p.trans i (fun k d=> ?_)).trans hf GN,r⟩,A,ls,tr,j,a.Ba hf l⟩;by_cases m:k<W1.heap.size
 ·exact absurd (e k m) d
 ·exact .inr (by omega)
theorem tL.fr(h:tL b c lb tb mb nb W1 rm rn mL nL m1 n1 w):GM W1 w:=by
 obtain ⟨K,w0,⟨e,_,_,_,_,f,_⟩,h⟩:=h;refine f.trans h.fr (fun k a=> ?_);by_cases d:k<W1.heap.size
 ·exact absurd (e k d) a
 ·exact .inr (by omega)
theorem tL.Ba(h:tL b c lb tb mb nb W1 rm rn mL nL m1 n1 w)(hf:GM w W)(d:aJ W w.heap.size cs t):∃K,Gi b c lb tb W1 K W/\K w.heap.size/\fI b c mb nb K W rm rn mL nL m1 n1 W:=by
 obtain ⟨K,w0,e,h⟩:=h;obtain ⟨g1,a⟩:=h.Ba e hf d;exact ⟨_,g1,.inr rfl,a⟩
theorem tL.sum(h:tL b c lb tb mb nb W1 rm rn mL nL m1 n1 w):4*m1.length+5*n1.length<=c.Wd/\c.Wd<=2048:=by
 obtain ⟨K,w0,d,A,ls,tr,a,_⟩:=h;have:=a.s;rw [a.lens.1,a.lens.2];exact ⟨this,d.2.2.2.2.2.2.2⟩
theorem jx.new{a e:TypeId}{p:Nat}(d:aJ w p [.slice none 0 0,(0:Int)] a):jx a e p [] 0 (fun k=>k=p) w:=
 ⟨none,0,d,⟨rfl,.inl ⟨rfl,rfl⟩⟩,fun _ h=>(by cases h),fun k=>⟨.inl,fun h=>h.elim id (fun h=>by cases h)⟩⟩
theorem tL.start{w2 w3 w4 W5 W6:World}{u n:Nat}{T v x:Nat->Prop}(I:c.Sl=8)(L:c.Wd<=2048)(s:cO<W1.heap.size)(e:∀k,T k->W1.heap.size<=k)(m:GM W1 w2)(B:aJ w3 lb (rB b) 156)(q:¬v lb)(F:w2.heap.size<=lb)(o:Fr T w2 w3)(j:∀k,v k->T k\/w2.heap.size<=k)(z:eX b c A [0,0,0,0,0,0,0,0] u n x w4)(E:aJ w4 tb (ot b) 158)(y:¬x tb)(J:w3.heap.size<=tb)(f:Fr v w3 w4)(l:∀k,x k->v k\/w3.heap.size<=k)(p:GM w4 W5)(C:aJ W5 mb [.slice none 0 0,(0:Int)] 72)(G:w4.heap.size<=mb)(i:GM W5 W6)(D:aJ W6 nb [.slice none 0 0,(0:Int)] 76)(H:W5.heap.size<=nb):tL b c lb tb mb nb W1 0 0 [] [] [] [] W6:=by
 have Q:=m.size;have R:=o.size;have S:=f.size;have U:=p.size;have V:=i.size;have M:=B.lt;have N:=E.lt;have O:=C.lt;have P:=D.lt;have a:GM w4 W6:=p.trans i GN;have r:aJ w4 lb (rB b) 156:=B.frame f q;refine ⟨fun k=>k<W1.heap.size\/k=lb\/k=tb,W6,⟨fun k h=> .inl h,.inr (.inl rfl),.inr (.inr rfl),r.frame a id,E.frame a id,(m.trans o (fun k d=> .inr (e k d))).trans (f.trans a GN) (fun k d=> ?_),I,L⟩,A,[],.nil,⟨⟨trivial,trivial,List.nodup_nil⟩,List.Pairwise.nil,rfl,List.Perm.refl _,by simp [Tr.all]⟩,?_⟩
 ·rcases j k d with h|h
  ·exact .inr (e k h)
  ·exact .inr (by omega)
 ·refine ⟨u,n,x,fun k=>k=mb,fun k=>k=nb,z.Qa a,(jx.new C).Qa i,jx.new D,⟨fun k d=> ?_,fun k d=> ?_,fun k d=> ?_⟩,GQ _ _,fun k d=> ?_,.inl s⟩
  ·have:=z.lt k d;refine ⟨by omega,by omega,fun h=> ?_⟩;rcases h with h|rfl|rfl
   ·rcases l k d with g|g
    ·rcases j k g with g|g
     ·have:=e k g;omega
     ·omega
    ·omega
   ·rcases l k d with g|g
    ·exact q g
    ·omega
   ·exact y d
  ·exact ⟨by omega,by omega⟩
  ·omega
  ·omega
end
end Go.Proofs.YthahbijbpinneaaGreatDoor
