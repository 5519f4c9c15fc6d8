import Derived.Test.YtgnoapadkncphaaGreatDoorA0
import Derived.Test.YtgnoapadkncphaaGreatDoorA10
import Derived.Test.YtgnoapadkncphaaGreatDoorA11
set_option maxRecDepth 100000
set_option maxHeartbeats 8000000
set_option linter.all false
namespace Go.Proofs.YtgnoapadkncphaaGreatDoor
open Go.RowKit Go.Proofs.Tryz
section
variable{P:Program}{ops:Array Oper}{md:Region.Mode}{C:Nat->World->Prop}
def qX(P:Program)(D:World->Prop)(w:World)(v:Value):Result Next->Prop
 | .ok (.value u) w'=>D w'/\u=v
 | .ok .skip w'=>D w'/\v=undef
 | .ok (.enter f args) w'=>w'=w/\Calls P f args w (fun e w''=>e= .returned v/\D w'')
 |_=>False
def gO(P:Program)(o:Oper)(a:Act)(D:World->Prop)(w:World)(v:Value):Prop:=qX P D w v ((execOp a.eval o).run P w)
def Ee(P:Program)(o:Oper)(a:Act)(C:Nat->World->Prop)(next:Act->Prop):Prop:=∃v,(∀s w,C s w->gO P o a (C s) w v)/\next (a.put o.dst v)
def CR(P:Program)(o:Oper)(a:Act)(C:Nat->World->Prop)(s:Nat)(next:Act->Prop):Prop:=∃v,(∀w,C s w->gO P o a (C (s+1)) w v)/\next (a.put o.dst v)
def lD(P:Program)(ops:Array Oper)(C:Nat->World->Prop)(Q:Act->Prop):List Oper->Nat->Act->Prop
 |[],_,a=>Q a
 |o::rest,s,a=>Region.wanted o (yielded ops a.tmps)=true/\CR P o a C s (lD P ops C Q rest (s+1))
def gq(P:Program)(ops:Array Oper)(C:Nat->World->Prop)(Q:Act->Prop):List Oper->Act->Prop
 |[],a=>Q a
 |o::rest,a=>if Region.wanted o (yielded ops a.tmps) then Ee P o a C (gq P ops C Q rest) else gq P ops C Q rest (a.put o.dst undef)
def Zc(P:Program)(ops:Array Oper)(C:Nat->World->Prop)(n i s:Nat)(K:Nat->Act->Prop)(a:Act):Prop:=
 match ops[i]? with
 |none=>False
 |some o=>if i<n then (if Region.wanted o (yielded ops a.tmps) then Ee P o a C (K s) else K s (a.put o.dst undef))
  else Region.wanted o (yielded ops a.tmps)=true/\CR P o a C s (K (s+1))
theorem C6{n i s:Nat}{a:Act}{K f:Nat->Act->Prop}(h:∀s a,K s a->f s a)(c:Zc P ops C n i s K a):Zc P ops C n i s f a:=by
 unfold Zc at*;split
 ·grind
 ·rename_i o j;simp only [j] at c;split
  ·rename_i b;rw [if_pos b] at c;split
   ·rename_i k;simp only [k,if_true] at c;obtain ⟨v,d,e⟩:=c;exact ⟨v,d,h _ _ e⟩
   grind
  ·rename_i b;rw [if_neg b] at c;obtain ⟨g,v,d,e⟩:=c;exact ⟨g,v,d,h _ _ e⟩
theorem qP{o:Oper}{a:Act}{D:World->Prop}{b:Act->World->Prop}{Q':Exit->Act->World->Prop}{w:World}{v:Value}(h:gO P o a D w v)(k:∀w',D w'->b (a.put o.dst v) w'):o.wp P a w b Q':=by
 unfold gO at h;unfold Oper.wp;generalize (execOp a.eval o).run P w=r at*
 cases r with
 |ok n w'=>
  cases n<;>simp only [qX] at h<;>simp only [Oper.upon]
  case value u=>
   grind
  case skip=>
   grind
  case enter f args=>
   obtain ⟨d,g⟩:=h;rw [d];exact g.mono fun e i ⟨j,c⟩=>by grind
 |halt x w'=>grind [qX]
theorem uX{n i s:Nat}{a:Act}{K:Nat->Act->Prop}{d:Act->World->Prop}{Q':Exit->Act->World->Prop}{w:World}(l:C s w)(j:i<n->∀a w',C s w'->K s a->d a w')(k:¬i<n->∀a w',C (s+1) w'->K (s+1) a->d a w')
  (b:Zc P ops C n i s K a):wpOp P ops Q' i d a w:=by
 unfold Zc at b;unfold wpOp;split
 ·grind
 ·rename_i o g;simp only [g] at b;by_cases c:i<n
  ·rw [if_pos c] at b;split
   ·rename_i h;simp only [h,if_true] at b;obtain ⟨v,g1,f⟩:=b
    grind [qP]
   grind
  ·rw [if_neg c] at b;obtain ⟨e,v,g1,f⟩:=b;rw [if_pos e]
   grind [qP]
def Co(P:Program)(md:Region.Mode)(ops:Array Oper)(C:Nat->World->Prop)(n:Nat)(L:Nat->Act->Prop):Nat->Nat->Array Bool->Act->Prop
 |0,s,listed,a=>Region.ready md ops listed=[]/\L s a
 |f+1,s,listed,a=>Region.ready md ops listed≠[]/\∀i∈Region.ready md ops listed,Zc P ops C n i s (fun s' a'=>Co P md ops C n L f s' (listed.setIfInBounds i true) a') a
set_option linter.unusedVariables false in
theorem j8{n:Nat}{L:Nat->Act->Prop}{Q':Exit->Act->World->Prop}(hL:∀s a w,C s w->L s a->Q' .normal a w):
  ∀(f s:Nat) (listed:Array Bool) (a:Act) (w:World),C s w->Co P md ops C n L f s listed a->wpAny P md ops Q' f listed a w
 |0,s,listed,a,w,hw,h=>⟨h.1,hL s a w hw h.2⟩
 |f+1,s,listed,a,w,hw,h=>
  ⟨fun h0=>absurd h0 h.1,fun i hi=>uX hw (fun _ a' w' hw' h'=>j8 hL f _ _ a' w' hw' h') (fun _ a' w' hw' h'=>j8 hL f _ _ a' w' hw' h') (h.2 i hi)⟩
def gH(P:Program)(ops:Array Oper)(C:Nat->World->Prop)(o:Oper)(v:Value)(a:Act):Prop:=
 (Region.wanted o (yielded ops a.tmps)=true/\∀s w,C s w->gO P o a (C s) w v)\/(Region.wanted o (yielded ops a.tmps)=false/\v=undef)
theorem gH.Zc{n i s:Nat}{o:Oper}{v:Value}{a:Act}(b:i<n)(d:ops[i]? =some o)(f:gH P ops C o v a){K:Nat->Act->Prop}(h:K s (a.put o.dst v)):Zc P ops C n i s K a:=by
 unfold Go.Proofs.YtgnoapadkncphaaGreatDoor.Zc;simp only [d];rw [if_pos b];rcases f with ⟨c,e⟩|⟨c,rfl⟩
 ·simp only [c,if_true];exact ⟨v,e,h⟩
 grind
theorem gH.of_same{o:Oper}{v:Value}{a b:Act}(e:gH P ops C o v a)(c:execOp b.eval o=execOp a.eval o)
  (d:Region.wanted o (yielded ops b.tmps)=Region.wanted o (yielded ops a.tmps)):gH P ops C o v b:=by
 grind [gH,gO]
theorem FE{n j s:Nat}{c d:Oper}{v:Value}(x:ops[j]? =some d)(l:c.apart ops d=true)
  (m:∀cs b,c.op≠ .select cs b) (g:∀cs b,d.op≠ .select cs b) {K:Nat->Act->Prop} {a:Act}
  (i:gH P ops C c v a) (h:Zc P ops C n j s K (a.put c.dst v)):
  Zc P ops C n j s (fun s' q=>gH P ops C c v q/\K s' (q.put c.dst v)) a:=by
 obtain ⟨k,A,r⟩:=Oper.apart_spec l;have p:∀(a:Act),gH P ops C c v a->∀u,gH P ops C c v (a.put d.dst u):=fun a i u=>
  i.of_same (execOp_put c m a d.dst u r) (wanted_put c a d.dst u r)
 unfold Zc at*;simp only [x] at*;rw [wanted_put d a c.dst v k] at h;by_cases f:j<n
 ·rw [if_pos f] at h ⊢;split
  ·rename_i z;simp only [z,if_true] at h;obtain ⟨u,o,y⟩:=h;refine ⟨u,fun s w e=> ?_,p a i u,by grind [Act.put_comm]⟩;have:=o s w e;unfold gO at*;rwa [execOp_put d g a c.dst v k] at this
  grind [Act.put_comm]
 ·rw [if_neg f] at h ⊢;obtain ⟨t,u,o,y⟩:=h;refine ⟨t,u,fun w e=> ?_,p a i u,by grind [Act.put_comm]⟩;have:=o w e;unfold gO at*;rwa [execOp_put d g a c.dst v k] at this
theorem za{n i:Nat}{r:Oper}{v:Value}{L:Nat->Act->Prop}(t:i<n)(z:ops[i]? =some r)(m:∀(j:Nat) (o:Oper) cs b,ops[j]? =some o->o.op≠ .select cs b):
  ∀(f s:Nat) (c:Array Bool) (a:Act),
   (∀j q,ops[j]? =some q->j≠i->c.getD j true=false->(∀e∈q.after,Region.binds md e=true->e.on≠i)->r.apart ops q=true)->
   i∈Region.ready md ops c->gH P ops C r v a->
   Co P md ops C n L f s (c.setIfInBounds i true) (a.put r.dst v)->Co P md ops C n L (f+1) s c a:=by
 intro f
 induction f with
 |zero=>
  intro s c a _ D y H;refine ⟨fun h=>(by grind),fun j x=> ?_⟩;by_cases d:j=i
  ·subst d;exact y.Zc t z H
  ·have:=ready_mono x d;rw [H.1] at this
   grind
 |succ f ih=>
  intro s c a g D y H;refine ⟨fun h=>(by grind),fun j x=> ?_⟩;by_cases d:j=i
  ·subst d;exact y.Zc t z H
  ·have I:=H.2 j (ready_mono x d);obtain ⟨u,q,p,F⟩:=mem_ready.1 x;have E:=(mem_ready.1 D).1;have w:∀e∈q.after,Region.binds md e=true->e.on≠i:=fun e R Q M=>by
    grind
   have J:=FE p (g j q p d u w) (fun cs b=>m i r cs b z) (fun cs b=>m j q cs b p) y I;have l:∀k ok,ops[k]? =some ok->k≠i->(c.setIfInBounds j true).getD k true=false->
     (∀e∈ok.after,Region.binds md e=true->e.on≠i)->r.apart ops ok=true:=fun k ok O A E B=>by
    refine g k ok O A ?_ B;by_cases N:j=k
    ·grind
    simp_all
   refine C6 (fun s' G K=>ih s' (c.setIfInBounds j true) G l (ready_mono D (Ne.symm d)) K.1 ?_) J
   grind [Array.setIfInBounds_comm]
theorem tN{n:Nat}{L:Nat->Act->Prop}:∀(l:List Oper) (k s:Nat) (b:Array Bool) (a:Act),n<=k->(∀j,l[j]? =ops[k+j]?)->
  Region.seqB md ops l.length k b=true->lD P ops C (L (s+l.length)) l s a->Co P md ops C n L l.length s b a
 |[],k,s,b,a,_,_,hB,h=>⟨by grind [Region.seqB],h⟩
 |o::l,k,s,b,a,hk,hl,hB,h=>by
  have e:ops[k]? =some o:=by simpa using (hl 0).symm
  simp only [bG,Region.seqB,ak,decide_eq_true_eq] at hB;refine ⟨fun m=>(by grind),fun i f=> ?_⟩;rw [hB.1] at f;have c:i=k:=by grind
  subst c;unfold Zc;simp only [e];rw [if_neg (by omega)];obtain ⟨d,v,g1,g⟩:=h;refine ⟨d,v,g1,?_⟩;refine tN l (i+1) (s+1) _ _ (by omega) (fun j=>by have:=hl (j+1);grind) hB.2 ?_
  grind
theorem wQ{n g:Nat}{L:Nat->Act->Prop}{Lt:List Oper}(c:Region.noSelect ops=true)(d:∀j,Lt[j]? =ops[n+j]?)(hg:Lt.length=g):
  ∀(l:List Oper) (k:Nat) (b:Array Bool) (a:Act),(∀j,j<l.length->l[j]? =ops[k+j]?)->k+l.length=n->
  Region.lexHead md ops g l.length k b=true->gq P ops C (fun e=>lD P ops C (L g) Lt 0 e) l a->
  Co P md ops C n L (l.length+g) 0 b a
 |[],k,b,a,_,hk,hB,h=>by
  have:k=n:=by omega
  subst this;have s:=tN (md:=md) (C:=C) (P:=P) (L:=L) Lt k 0 b a (ag _) d (by grind [Region.lexHead]) (by rw [hg,bq];exact h)
  grind
 |o::l,k,b,a,hl,hk,hB,h=>by
  have r:ops[k]? =some o:=by simpa using (hl 0 (by simp)).symm
  rw [bG,Region.lexHead] at hB;simp only [ak] at hB;obtain ⟨⟨y,hf⟩,f⟩:=hB;have i:k<n:=by grind
  have m:k∈Region.ready md ops b:=by grind
  have p:∃v,gH P ops C o v a/\gq P ops C (fun e=>lD P ops C (L g) Lt 0 e) l (a.put o.dst v):=by
   unfold gq at h;by_cases q:Region.wanted o (yielded ops a.tmps)=true
   ·simp only [q,if_true] at h;obtain ⟨v,s,t⟩:=h;exact ⟨v,.inl ⟨q,s⟩,t⟩
   ·simp only [q] at h;exact ⟨undef,.inr ⟨by grind,rfl⟩,h⟩
  obtain ⟨v,w,u⟩:=p;have:=za i r (Region.noSelect_spec c) (l.length+g) 0 b a (Region.free_spec r hf) m w
   (wQ c d hg l (k+1) _ _ (fun j x=>by have:=hl (j+1) (by grind);grind) (by grind) f u)
  grind
def tm(ops:Array Oper)(n:Nat):Bool:=Region.noSelect ops&&decide (n<=ops.size)&&Region.lexHead .any ops (ops.size-n) n 0 (Array.replicate ops.size false)
theorem uc{u:Nat}{Q:Exit->Act->World->Prop}{a:Act}{w:World}{l:List Oper}(C:Nat->World->Prop)(n:Nat)(p:P.follows .mixedOrders=true)(k:tm l.toArray n=true)(m:C 0 w.drew)
  (h:gq P l.toArray C (fun i=>lD P l.toArray C (fun b=>∀w',C (l.length-n) w'->Q .normal b w') (l.drop n) 0 i) (l.take n) a):(Code.region u l.toArray true).wp P Q a w:=by
 simp only [tm,ak,decide_eq_true_eq] at k;obtain ⟨⟨d,y⟩,c⟩:=k;have q:n<=l.length:=by omega
 have r:(l.take n).length=n:=by grind
 have e:l.toArray.size=l.length:=by simp
 have f:(l.drop n).length=l.length-n:=by simp
 rw [e] at c;have H:=wQ (md:= .any) (P:=P) (C:=C) (g:=l.length-n) (L:=fun s b=>∀w',C s w'->Q .normal b w') (Lt:=l.drop n) (n:=n) d (fun j=>by grind) f (l.take n) 0 (Array.replicate l.length false) a (fun j x=>by
  grind) (by omega) (by grind) h
 refine wp_region_any p ?_;rw [e];have v:=j8 (Q':=Q) (md:= .any) (L:=fun s b=>∀w',C s w'->Q .normal b w') (fun s i w' t o=>o w' t) _ 0 _ a w.drew m H;simp_all
variable{Q:Act->Prop}{a:Act}{o:Oper}{rest:List Oper}{s:Nat}
theorem gY{e:TypeId}{x y:Operand}(i:o.op= .store e x y)(g:Nat)(b:Array Value)(j:a.eval x= .pointer (some ⟨g,0,none⟩))(k:a.eval y= .agg b)
  (t:TypeId) (c:Array Value) {w:World} (hg:w.heap[g]? =some (.cells c t (0,0))) (h:(P.info? e).map (·.size)=some b.size) (d:c.size=b.size) (f:b.all (·.oneCell')=true):
  (execOp a.eval o).run P w= .ok .skip (w.setRow g b):=by
 grind [execOp,Instr.storeAt,Instr.sureAddr,Sem.run_bind,Sem.run_pure,Result.andThen_ok,run_storeVar_row]
theorem gP{fn:Func}{p q:Tmp}{b:TypeId}{i j k l:Tmp}(h:fn.results= #[.cell p b,.cell q b,.tmp i,.tmp j,.tmp k,.tmp l])(tmps:Array Value)(w:World)(g1 c:Nat)(D E:TypeId)(c1 c2:Array Value)(y z:Nat×Nat)(d:TypeDesc)(v1 v2 v3 v4:Value)
  (hp:tmps.getD p undef= .pointer (some ⟨g1,0,none⟩)) (J:tmps.getD q undef= .pointer (some ⟨c,0,none⟩)) (F:tmps.getD i undef=v1) (G:tmps.getD j undef=v2) (H:tmps.getD k undef=v3) (I:tmps.getD l undef=v4)
  (n:w.heap[g1]? =some (.cells c1 D y)) (r:w.heap[c]? =some (.cells c2 E z))
  (B:P.underlying b=some d) (A:(match d with| .struct _| .array _ _=>true|_=>false)=true) (t:(P.info? b).map (·.size)=some c1.size) (u:(P.info? b).map (·.size)=some c2.size):
  (results fn tmps).run P w= .ok (.tuple #[.agg c1,.agg c2,v1,v2,v3,v4]) w:=by
 have v:tmps[p]?.getD undef= .pointer (some ⟨g1,0,none⟩):=by simp_all
 have x:tmps[q]?.getD undef= .pointer (some ⟨c,0,none⟩):=by simp_all
 have e:tmps[i]?.getD undef=v1:=by simp_all
 have f:tmps[j]?.getD undef=v2:=by simp_all
 have g:tmps[k]?.getD undef=v3:=by simp_all
 have m:tmps[l]?.getD undef=v4:=by simp_all
 simp [results,h,v,x,e,f,g,m,asAddr,run_loadVar_row w g1 D b c1 y d n B A t,run_loadVar_row w c E b c2 z d r B A u]
theorem br{D:World->Prop}{w:World}(v:Value)(c:(execOp a.eval o).run P w= .ok (.value v) w)(b:D w):gO P o a D w v:=by
 unfold gO;rw [c];exact ⟨b,rfl⟩
theorem jx{D:World->Prop}{w:World}(w':World)(c:(execOp a.eval o).run P w= .ok .skip w')(b:D w'):gO P o a D w undef:=by
 unfold gO;rw [c];exact ⟨b,rfl⟩
theorem rN(h:Q a):gq P ops C Q [] a:=h
theorem qW(h:Q a):lD P ops C Q [] s a:=h
theorem en(v:Value)(hg:o.guard=none)(b:∀s w,C s w->gO P o a (C s) w v)(h:gq P ops C Q rest (a.put o.dst v)):gq P ops C Q (o::rest) a:=by
 unfold gq;rw [if_pos (by grind [Region.wanted])];exact ⟨v,b,h⟩
theorem iL(v:Value)(hg:Region.wanted o (yielded ops a.tmps)=true)(b:∀s w,C s w->gO P o a (C s) w v)(h:gq P ops C Q rest (a.put o.dst v)):gq P ops C Q (o::rest) a:=by
 unfold gq;rw [if_pos hg];exact ⟨v,b,h⟩
theorem jF(hg:Region.wanted o (yielded ops a.tmps)=false)(h:gq P ops C Q rest (a.put o.dst undef)):gq P ops C Q (o::rest) a:=by
 simp_all [gq]
theorem dT(v:Value)(hg:o.guard=none)(b:∀w,C s w->gO P o a (C (s+1)) w v)(h:lD P ops C Q rest (s+1) (a.put o.dst v)):lD P ops C Q (o::rest) s a:=
 ⟨by grind [Region.wanted],v,b,h⟩
end
theorem vV(b:Nat)(_hb:b<18446744073709551616):de b=if 9218868437227405312<b% 9223372036854775808 then 4 else if b% 9223372036854775808=9218868437227405312 then 3 else if 4503599627370496<=b% 9223372036854775808 then 2 else if 0<b% 9223372036854775808 then 1 else 0:=by
 unfold de gu gl;have a:b/4503599627370496% 2048=b% 9223372036854775808/4503599627370496:=by omega
 grind
theorem BC(b:Nat)(i:b<18446744073709551616)(w:World):
  Calls prog 87 #[.int .u64 b] w fun e w'=>e= .returned (.int .i64 (de b:Int))/\w=w':=by
 have a:=vV b i;have n:(b:Int)% 9223372036854775808=((b% 9223372036854775808:Nat):Int):=by omega
 have j:b% 9223372036854775808<9223372036854775808:=aI _ (by decide);generalize b% 9223372036854775808=x at*;by_cases d:9218868437227405312<x
 ·rw [a,if_pos d];clear a
  go_enter func87,ntmps87
  go_wp2;go_ret;exact ⟨rfl,rfl⟩
 ·by_cases c:x=9218868437227405312
  ·rw [a,if_neg d,if_pos c];subst c;clear a
   go_enter func87,ntmps87
   go_wp2;go_ret;exact ⟨rfl,rfl⟩
  ·have m:((x:Int)==9218868437227405312)=false:=by rw [beq_eq_false_iff_ne];omega
   have o:(x:Int)<=9218868437227405312:=by omega
   by_cases f:4503599627370496<=x
   ·rw [a,if_neg d,if_neg c,if_pos f];have h:(4503599627370496:Int)<=x:=by omega
    clear a c f d
    go_enter func87,ntmps87
    go_wp2;go_ret;exact ⟨rfl,rfl⟩
   ·have h:(x:Int)<4503599627370496:=by omega
    by_cases g:0<x
    ·rw [a,if_neg d,if_neg c,if_neg f,if_pos g];have l:decide ((4503599627370496:Int)<=x)=false:=by simpa using h
     have k:decide (0<x)=true:=by simpa using g
     clear a c f d h g
     go_enter func87,ntmps87
     go_wp2;go_ret;exact ⟨rfl,rfl⟩
    ·rw [a,if_neg d,if_neg c,if_neg f,if_neg g];obtain rfl:x=0:=by omega
     clear a c
     go_enter func87,ntmps87
     go_wp2;go_ret;exact ⟨rfl,rfl⟩
structure Pt where
 a:Nat
 b:Nat
 nan:Bool
 up:Bool
 down:Bool
 all:Bool
def Pt.add(p:Pt)(f:Nat):Pt:=
 ⟨p.a+(if de f<3/\f<9223372036854775808 then cI f else 0),p.b+(if de f<3/\9223372036854775808<=f then cI (f-9223372036854775808) else 0),
  p.nan||de f==4,p.up||f==9218868437227405312,p.down||f==18442240474082181120,p.all&&f==9223372036854775808⟩
def Pt.of(l:List Nat):Pt:=l.foldl Pt.add ⟨0,0,false,false,false,decide (0<l.length)⟩
def Pt.Qn(l:List Nat)(k:Nat):Pt:=(l.take k).foldl Pt.add ⟨0,0,false,false,false,decide (0<l.length)⟩
theorem Pt.Yk{l:List Nat}{k f:Nat}(h:l[k]? =some f):Pt.Qn l (k+1)=(Pt.Qn l k).add f:=by
 grind [Pt.Qn,List.take_add_one]
theorem Pt.Yx{l:List Nat}:Pt.Qn l l.length=Pt.of l:=by grind [Pt.Qn,Pt.of]
theorem Pt.upto_le(l:List Nat):∀k,(Pt.Qn l k).a<=k*gT/\(Pt.Qn l k).b<=k*gT:=by
 intro k
 induction k with
 |zero=>unfold Pt.Qn;simp
 |succ k ih=>
  cases h:l[k]? with
  |none=>
   grind [Pt.Qn,List.take_add_one]
  |some f=>
   rw [Pt.Yk h,dh];have c:=lS f;have d:=lS (f-9223372036854775808)
   grind [Pt.add]
theorem Je:4611686018427387904*gT<fo:=by
 obtain ⟨k,a⟩:∃k:Nat,k=2046:=⟨_,rfl⟩;obtain ⟨m,b⟩:∃k:Nat,k=140:=⟨_,rfl⟩;rw [mO k a,zm m b]
 grind
theorem qA(l:List Nat)(k:Nat)(c:k<=4611686018427387904):(Pt.Qn l k).a<fo/\(Pt.Qn l k).b<fo:=by
 have h:=Pt.upto_le l k;have i:=Nat.mul_le_mul_right gT c;have j:=Je;omega
def mc(w:World)(p:Option Addr)(len:Nat)(fs:List Nat):Prop:=xa .u64 w p len (fs.map Int.ofNat)/\∀f∈fs,f<18446744073709551616
theorem mc.len{w:World}{p:Option Addr}{a:Nat}{b:List Nat}(h:mc w p a b):b.length=a:=by have:=h.1.1;grind
theorem mc.at{w:World}{p:Option Addr}{c:Nat}{d:List Nat}(h:mc w p c d){k:Nat}(g:k<c):∃b off f,p=some ⟨b,off,none⟩/\d[k]? =some f/\f<18446744073709551616/\w.cell? ⟨b,off+k,none⟩=some (.int .u64 f):=by
 obtain ⟨b,off,x,hp,i,e⟩:=h.1.2 k g;obtain ⟨f,a,rfl⟩:∃f:Nat,d[k]? =some f/\x=(f:Int):=by
  grind
 exact ⟨b,off,f,hp,a,h.2 f (ar a),e⟩
theorem mc.frame{w w':World}{p:Option Addr}{a:Nat}{b:List Nat}(h:mc w p a b)(hf:J7 w w'):mc w' p a b:=⟨h.1.frame hf,h.2⟩
def dg(w:World)(B a b:Nat)(wr:World):Prop:=WB wr B bI/\WB wr (B+1) bI/\WB wr (B+1+1) (dj 140 a)/\WB wr (B+1+1+1) (dj 140 b)/\J7 w wr/\w.heap.size<=B
theorem Et(w:World):∀w1,(((w.alloc (.cells Tryz.zeroCells84 84)).alloc (.cells Tryz.zeroCells84 84)).alloc (.cells Tryz.zeroCells84 84)).alloc (.cells Tryz.zeroCells84 84)=w1->
  dg w w.heap.size 0 0 w1:=by
 intro w1 h;rw [show Tryz.zeroCells84=(au bI).toArray from iH] at h;have a:(((w.alloc (.cells (au bI).toArray 84)).alloc (.cells (au bI).toArray 84)).alloc (.cells Tryz.zeroCells84 84)).alloc (.cells Tryz.zeroCells84 84)=w1:=by rw [iH];exact h
 obtain ⟨b,c,f,g,d⟩:=nL w bI bI w1 a;have e:dj 140 0=bI:=(Ac dV (gh.zero _) (qV _)).symm;exact ⟨b,c,by grind,by grind,d,ag _⟩
theorem dg.frame{w:World}{B a b:Nat}{w1 w2:World}(h:dg w B a b w1)(hf:J7 w1 w2):dg w B a b w2:=
 ⟨h.1.frame hf id,h.2.1.frame hf id,h.2.2.1.frame hf id,h.2.2.2.1.frame hf id,h.2.2.2.2.1.then hf,h.2.2.2.2.2⟩
theorem dg.setA{w:World}{B a b:Nat}{w1:World}(h:dg w B a b w1)(d:Nat):dg w B d b (w1.setRow (B+1+1) (au (dj 140 d)).toArray):=
 ⟨h.1.Qf (B+1+1) _ (by omega),h.2.1.Qf (B+1+1) _ (by omega),ay.setRow (c:=au (dj 140 a)) h.2.2.1 _,h.2.2.2.1.Qf (B+1+1) _ (by omega),h.2.2.2.2.1.setRow (B+1+1) (.inr (by have:=h.2.2.2.2.2;omega)) _,h.2.2.2.2.2⟩
theorem dg.setB{w:World}{B a b:Nat}{w1:World}(h:dg w B a b w1)(d:Nat):dg w B a d (w1.setRow (B+1+1+1) (au (dj 140 d)).toArray):=
 ⟨h.1.Qf (B+1+1+1) _ (by omega),h.2.1.Qf (B+1+1+1) _ (by omega),h.2.2.1.Qf (B+1+1+1) _ (by omega),ay.setRow (c:=au (dj 140 b)) h.2.2.2.1 _,h.2.2.2.2.1.setRow (B+1+1+1) (.inr (by have:=h.2.2.2.2.2;omega)) _,h.2.2.2.2.2⟩
theorem dg.drew{w:World}{B a b:Nat}{w1:World}(h:dg w B a b w1):dg w B a b w1.drew:=h.frame (Kb _ w1).drew
theorem vd(a d:Nat)(g:a+d<fo):∃(f c:Array Value) (z:Value),z=et d/\(∀w b,WB w b (dj 140 a)->w.heap[b]? =some (.cells f 84 (0,0)))/\
  (prog.info? 84).map (·.size)=some f.size/\(prog.info? 84).map (·.size)=some c.size/\f.size=c.size/\c.all (·.oneCell')=true/\c=(au (dj 140 (a+d))).toArray/\
  (∀w,Calls prog 88 #[.agg f,z] w fun e w'=>e= .returned (.agg c)/\J7 w w'):=by
 refine ⟨(au (dj 140 a)).toArray,(au (dj 140 (a+d))).toArray,et d,rfl,fun _ _ h=>h,dW _ (da _ _),dW _ (da _ _),?_,fb _,rfl,Do a d (by omega) (by omega) g⟩
 grind [cL,da]
def ss(w:World)(B:Nat)(la lb:List Value)(s:Nat)(w':World):Prop:=
 J7 w w'/\ay w' (B+1+1) la 84/\ay w' (B+1+1+1) lb 84/\(s=0->WB w' B bI)/\(s<=1->WB w' (B+1) bI)/\(1<=s->ay w' B la 84)/\(2<=s->ay w' (B+1) lb 84)
theorem ss.put0{w:World}{B:Nat}{a lb:List Value}{w':World}(i:w.heap.size<=B)(h:ss w B a lb 0 w'):ss w B a lb 1 (w'.setRow B a.toArray):=by
 obtain ⟨b,d,e,f,g,j,k⟩:=h;exact ⟨b.setRow B (.inr i) _,d.Qf B _ (by omega),e.Qf B _ (by omega),fun h=>by omega,fun _=>(g (by omega)).Qf B _ (by omega),fun _=>ay.setRow (c:=au bI) (f rfl) a,fun h=>by omega⟩
theorem ss.put1{w:World}{B:Nat}{a lb:List Value}{w':World}(k:w.heap.size<=B)(h:ss w B a lb 1 w'):ss w B a lb 2 (w'.setRow (B+1) lb.toArray):=by
 obtain ⟨b,d,e,i,f,g,j⟩:=h;exact ⟨b.setRow (B+1) (.inr (by omega)) _,d.Qf (B+1) _ (by omega),e.Qf (B+1) _ (by omega),fun h=>by omega,fun h=>by omega,fun _=>(g (by omega)).Qf (B+1) _ (by omega),fun _=>ay.setRow (c:=au bI) (f (by omega)) lb⟩
theorem ss.next{w:World}{B:Nat}{a lb:List Value}{s:Nat}{w':World}(g:2<=s)(h:ss w B a lb s w'):ss w B a lb (s+1) w':=by
 obtain ⟨b,c,d,i,j,e,f⟩:=h;exact ⟨b,c,d,fun h=>by omega,fun h=>by omega,fun _=>e (by omega),fun _=>f g⟩
def pV(w:World)(p:Pt)(e:Ending)(w':World):Prop:=
 e= .returned (.tuple #[et p.a,et p.b,.bool (p.nan||(p.up&&p.down)),.bool p.up,.bool p.down,.bool p.all])/\J7 w w'
theorem Bf(q:Option Addr)(F cap:Nat)(o:List Nat)(w:World)(h:mc w q F o)(bc:F<=1000000):
  Calls prog 41 #[.slice q F cap] w (pV w (Pt.of o)):=by
 have aX:=h.len;have HN:=ae (Et w);have HW:=ae h;clear h
 go_enter func41,ntmps41
 go_upto_region 2 with fail
 generalize hW:(((w.alloc _).alloc _).alloc _).alloc _=w1;have hp:=HN.out w1 hW;generalize bn:w.heap.size=B at*;have HP:=ae hp;clear hW hp HN bn;go_wp2
 go_loopw [10,11,12,13,14] (fun a b c d i wr=>∃k:Nat,k<=F/\i= .int .i64 k/\a= .bool (Pt.Qn o k).nan/\b= .bool (Pt.Qn o k).up/\c= .bool (Pt.Qn o k).down/\d= .bool (Pt.Qn o k).all/\Hid (dg w B (Pt.Qn o k).a (Pt.Qn o k).b wr)) (fun _ _ _ _ i _=>F-(intOf i).toNat)
 case atStart=>exact ⟨0,by omega,rfl,rfl,rfl,rfl,by unfold Pt.Qn;simp [aX],HP.out⟩
 case round=>
  clear HP;obtain ⟨k,hk,rfl,rfl,rfl,rfl,rfl,U⟩:=hrel;by_cases aY:k<F
  ·obtain ⟨pb,off,f,rfl,a9,a7,M⟩:=HW.out.at aY;have hc:=((HW.out.frame U.out.2.2.2.2.1).at aY);obtain ⟨bB,bv,f',e1,e2,_,hc⟩:=hc
   cases e1
   rw [a9] at e2
   cases e2
   have T:=Pt.Yk a9;have ba:=BC f a7 wr;have bw:(k:Int)<F:=by omega
   have a5:=fun m=>qA o m
   have ap:(Pt.Qn o (k+1)).a<fo/\(Pt.Qn o (k+1)).b<fo:=qA o (k+1) (by omega);have aN:(Pt.Qn o k).a<fo/\(Pt.Qn o k).b<fo:=qA o k (by omega);rw [T] at ap;have aG:Hid (∀l,Hid (dg w B ((Pt.Qn o k).add f).a ((Pt.Qn o k).add f).b l)->Hid (dg w B (Pt.Qn o (k+1)).a (Pt.Qn o (k+1)).b l)):=fun l h=>by rw [T];exact h
   have V:Hid (((Pt.Qn o k).add f).nan=(Pt.Qn o (k+1)).nan/\((Pt.Qn o k).add f).up=(Pt.Qn o (k+1)).up/\((Pt.Qn o k).add f).down=(Pt.Qn o (k+1)).down/\((Pt.Qn o k).add f).all=(Pt.Qn o (k+1)).all):=by rw [T];exact ⟨rfl,rfl,rfl,rfl⟩
   clear T a5;generalize aO:Pt.Qn o (k+1)=p1 at*;have E:=ae aO;clear aO;generalize Pt.Qn o k=p at*;obtain ⟨G,j,pn,pu,O,pl⟩:=p;have bb:=zR f;obtain ⟨b4,h4⟩:∃b4,(((de f:Nat):Int)==4)=b4:=⟨_,rfl⟩;obtain ⟨bi,hi⟩:∃b,((f:Int)==9218868437227405312)=b:=⟨_,rfl⟩;obtain ⟨bj,hj⟩:∃b,((f:Int)==18442240474082181120)=b:=⟨_,rfl⟩;obtain ⟨bs,hs⟩:∃b,((f:Int)==9223372036854775808)=b:=⟨_,rfl⟩;have HB:Hid (b4=(de f==4)/\bi=(f==9218868437227405312)/\bj=(f==18442240474082181120)/\bs=(f==9223372036854775808)):=by
    refine ⟨?_,?_,?_,?_⟩
    ·rw [<-h4,bM,beq_iff_eq,beq_iff_eq];omega
    ·rw [<-hi,bM,beq_iff_eq,beq_iff_eq];omega
    ·rw [<-hj,bM,beq_iff_eq,beq_iff_eq];omega
    ·rw [<-hs,bM,beq_iff_eq,beq_iff_eq];omega
   have X:Hid (p1.nan=(pn||b4)/\p1.up=(pu||bi)/\p1.down=(O||bj)/\p1.all=(pl&&bs)):=by
    obtain ⟨g1,g2,g3,g4⟩:=V.out;obtain ⟨j1,j2,j3,j4⟩:=HB.out;refine ⟨?_,?_,?_,?_⟩
    ·rw [<-g1,j1];rfl
    ·rw [<-g2,j2];rfl
    ·rw [<-g3,j3];rfl
    ·rw [<-g4,j4];rfl
   clear V HB;have a0:=ae ba;have u:Hid (∀l,Hid (dg w B (G+(if de f<3/\f<9223372036854775808 then cI f else 0)) (j+(if de f<3/\9223372036854775808<=f then cI (f-9223372036854775808) else 0)) l)->Hid (dg w B p1.a p1.b l)):=aG.out;have ah:Hid ((G+(if de f<3/\f<9223372036854775808 then cI f else 0)<fo)/\(j+(if de f<3/\9223372036854775808<=f then cI (f-9223372036854775808) else 0))<fo):=ap;have aH:Hid (G<fo/\j<fo):=aN;obtain ⟨n1,u1,d1,l1,ad⟩:∃n1 u1 d1 l1,(p1.nan=n1/\p1.up=u1/\p1.down=d1/\p1.all=l1):=⟨_,_,_,_,rfl,rfl,rfl,rfl⟩;rw [ad.1,ad.2.1,ad.2.2.1,ad.2.2.2] at X;have H:=ae ad;clear ba aG ap aN ad;dsimp only at U;generalize de f=K at*
   go_upto_region 10 with (go_at_call 87;refine a0.out.mono ?_;rintro e w' ⟨rfl,rfl⟩)
   go_cut [10] (fun v l=>v= .bool n1/\l=wr)
   case first=>
    have R:=X.out.1
    cases pn
    all_goals
     go_wp2;go_meet;exact ⟨by rw [R];simp,rfl⟩
   case rest=>
    obtain ⟨rfl,rfl⟩:=hcut
    go_upto_region 11 with fail
    go_cut [11] (fun v l=>v= .bool u1/\l=wc)
    case first=>
     have R:=X.out.2.1
     cases pu
     all_goals
      go_wp2;go_meet;exact ⟨by rw [R];simp,rfl⟩
    case rest=>
    obtain ⟨rfl,hw⟩:=hcut;subst hw
    go_upto_region 12 with fail
    go_cut [12] (fun v l=>v= .bool d1/\l=wc)
    case first=>
     have R:=X.out.2.2.1
     cases O
     all_goals
      go_wp2;go_meet;exact ⟨by rw [R];simp,rfl⟩
    case rest=>
    obtain ⟨rfl,hw⟩:=hcut;subst hw
    go_upto_region 13 with fail
    go_cut [13] (fun v l=>v= .bool l1/\l=wc)
    case first=>
     have R:=X.out.2.2.2
     cases pl
     all_goals
      go_wp2;go_meet;exact ⟨by rw [R];simp,rfl⟩
    case rest=>
    obtain ⟨rfl,hw⟩:=hcut;subst hw;clear hi hj hs h4 bb X a0;obtain ⟨t1,bd⟩:∃t,decide (K<3/\f<9223372036854775808)=t:=⟨_,rfl⟩;obtain ⟨t2,be⟩:∃t,decide (K<3/\9223372036854775808<=f)=t:=⟨_,rfl⟩;have ak:=ae bd;have am:=ae be;clear bd be
    go_upto_region 14 with fail
    go_cut [67] (fun v l=>v= .bool t1/\l=wc)
    case first=>
     by_cases hK:K<3
     ·have hd:decide (K<3)=true:=by simpa using hK
      have R:t1=decide ((f:Int)<9223372036854775808):=by rw [<-ak.out];simp [hK];omega
      go_wp2;go_meet;exact ⟨by rw [R],rfl⟩
     ·have hd:decide (K<3)=false:=by simpa using hK
      have R:t1=false:=by rw [<-ak.out];simp [hK]
      go_wp2;go_meet;exact ⟨by rw [R],rfl⟩
    case rest=>
    obtain ⟨rfl,hw⟩:=hcut;subst hw;obtain ⟨Y,az⟩:∃x,x=G+(if K<3/\f<9223372036854775808 then cI f else 0):=⟨_,rfl⟩;obtain ⟨b1,aC⟩:∃x,x=j+(if K<3/\9223372036854775808<=f then cI (f-9223372036854775808) else 0):=⟨_,rfl⟩;rw [<-az,<-aC] at u ah;have V:Hid ((t1=true->f<9223372036854775808/\Y=G+cI f)/\(t1=false->Y=G)):=by
     refine ⟨fun h=> ?_,fun h=> ?_⟩
     ·have Z:=ak.out;rw [h,decide_eq_true_eq] at Z;exact ⟨Z.2,by rw [az,if_pos Z]⟩
     ·have Z:=ak.out;rw [h,decide_eq_false_iff_not] at Z;rw [az,if_neg Z,aP]
    have ax:Hid ((t2=true->9223372036854775808<=f/\b1=j+cI (f-9223372036854775808))/\(t2=false->b1=j)):=by
     refine ⟨fun h=> ?_,fun h=> ?_⟩
     ·have Z:=am.out;rw [h,decide_eq_true_eq] at Z;exact ⟨Z.2,by rw [aC,if_pos Z]⟩
     ·have Z:=am.out;rw [h,decide_eq_false_iff_not] at Z;rw [aC,if_neg Z,aP]
    clear az aC ak
    go_upto_if 67 with fail
    go_cut [] (fun l=>Hid (dg w B Y j l))
    case first=>
     cases t1 with
     |false=>
      obtain rfl:=V.out.2 rfl;go_wp2;go_meet;exact U
     |true=>
      obtain ⟨ao,N⟩:=V.out.1 rfl;have r:=ph f ao;obtain ⟨ca,cr,z,hz,hR,J,L,hS,hO,Q,aq⟩:=vd G (cI f) (by rw [<-N];exact ah.out.1);rw [<-N] at Q;unfold nl at r;rw [<-hz] at r;have HV:=ae r;have aj:=ae aq;have A:=ae J;have C:=ae L;have HS:=ae hS;have HO:=ae hO;have I:Hid (∀l,dg w B G j l->dg w B Y j (l.setRow (B+1+1) cr)):=fun l h=>by rw [Q];exact h.setA Y
      have HR:Hid (∀l,dg w B G j l->l.heap[B+1+1]? =some (.cells ca 84 (0,0))):=fun l h=>hR l _ h.2.2.1
      have y:Hid (∀l,dg w B G j l->l.cell? ⟨pb,off+k,none⟩=some (.int .u64 f)):=fun l h=>(World.cell?_of_block (w:=w) (h.2.2.2.2.1.block pb (bu M) id)).trans M
      clear r aq J L hS hO hR Q hz N
      go_upto_region 15 with fail
      refine bz (dg w B G j) 7 (by kernel_rfl) U.out.drew ?_;simp only [Kc];refine ai (.agg ca) rfl (fun w' g=>eX rfl (B+1+1) rfl 84 ca (0,0) _ (HR.out w' g) underlying84 rfl A.out) ?_;refine ai (.slice (some ⟨pb,off,none⟩) F cap) rfl (fun w' _=>BigFrame.run_move (.tmp 0) rfl w') ?_;refine ai (k:Int) rfl (fun w' _=>BigFrame.run_move (.tmp 14) rfl w') ?_;simp only [aa];refine ai (.pointer (some ⟨pb,off+k,none⟩)) rfl (fun w' _=>by go_simp) ?_;refine ai (.int .u64 f) rfl (fun w' g=>by have bo:=y.out w' g;go_simp) ?_;refine bf z 89 #[.int .u64 f] rfl (fun w'=>by go_simp) (fun w' g=>(HV.out w').mono fun _ _ h=>⟨h.1,g.frame h.2⟩) ?_;refine bf (.agg cr) 88 #[.agg ca,z] rfl (fun w'=>by go_simp) (fun w' g=>(aj.out w').mono fun _ _ h=>⟨h.1,g.frame h.2⟩) ?_;refine wpQuiet_nil ?_;intro w2 n;simp only [aa];have S:Hid (dg w B Y j (w2.setRow (B+1+1) cr)):=I.out _ n;have aT:=ae (HR.out w2 n);clear n HR I y HV aj;go_wp2_with (refine wpList_store_row rfl 84 _ _ rfl (B+1+1) cr rfl rfl 84 ca aT.out C.out HS.out HO.out ?_)
      go_meet;exact S
    case rest=>
    rename_i wo;obtain ⟨bC,bq⟩:∃x,x=wc:=⟨_,rfl⟩;have av:Hid (dg w B Y j wc):=hcut;have a4:wc.cell? ⟨pb,off+k,none⟩=some (.int .u64 f):=(World.cell?_of_block (w:=w) (av.out.2.2.2.2.1.block pb (bu M) id)).trans M;clear bq hcut U hc V
    go_upto_region 16 with fail
    go_cut [83] (fun v l=>v= .bool t2/\l=wc)
    case first=>
     by_cases hK:K<3
     ·have hd:decide (K<3)=true:=by simpa using hK
      have R:t2=decide ((9223372036854775808:Int)<=(f:Int)):=by rw [<-am.out];simp [hK];omega
      go_wp2;go_meet;exact ⟨by rw [R],rfl⟩
     ·have hd:decide (K<3)=false:=by simpa using hK
      have R:t2=false:=by rw [<-am.out];simp [hK]
      go_wp2;go_meet;exact ⟨by rw [R],rfl⟩
    case rest=>
    obtain ⟨rfl,hw⟩:=hcut;subst hw;clear am
    go_upto_if 83 with fail
    cases t2 with
    |false=>
      obtain rfl:=ax.out.2 rfl;have ag:Hid (dg w B p1.a p1.b wc):=u.out _ av;clear av a4 u ax ah aH M;go_wp2;go_roundw
      case rel=>exact ⟨k+1,by omega,by go_num,by rw [E.out,H.out.1],by rw [E.out,H.out.2.1],by rw [E.out,H.out.2.2.1],by rw [E.out,H.out.2.2.2],by rw [E.out];exact ag⟩
      case measure=>simp [intOf];omega
    |true=>
      obtain ⟨ao,N⟩:=ax.out.1 rfl;obtain ⟨f2,a6⟩:∃f2,f-9223372036854775808=f2:=⟨_,rfl⟩;rw [a6] at N;have bt:(f:Int)-9223372036854775808=(f2:Int):=by omega
      have a8:f2<9223372036854775808:=by omega
      have bx:IntKind.u64.wrap (f2:Int)=(f2:Int):=by rw [IntKind.wrap_u64];omega
      clear a6 ao;have r:=ph f2 a8;obtain ⟨ca,cr,z,hz,hR,J,L,hS,hO,Q,aq⟩:=vd j (cI f2) (by rw [<-N];exact ah.out.2);rw [<-N] at Q;unfold nl at r;rw [<-hz] at r;have HV:=ae r;have aj:=ae aq;have A:=ae J;have C:=ae L;have HS:=ae hS;have HO:=ae hO;have I:Hid (∀l,dg w B Y j l->dg w B Y b1 (l.setRow (B+1+1+1) cr)):=fun l h=>by rw [Q];exact h.setB b1
      have HR:Hid (∀l,dg w B Y j l->l.heap[B+1+1+1]? =some (.cells ca 84 (0,0))):=fun l h=>hR l _ h.2.2.2.1
      have y:Hid (∀l,dg w B Y j l->l.cell? ⟨pb,off+k,none⟩=some (.int .u64 f)):=fun l h=>(World.cell?_of_block (w:=w) (h.2.2.2.2.1.block pb (bu M) id)).trans M
      clear r aq J L hS hO hR Q hz N
      go_upto_region 17 with fail
      refine bz (dg w B Y j) 8 (by kernel_rfl) av.out.drew ?_;simp only [Kc];refine ai (.agg ca) rfl (fun w' g=>eX rfl (B+1+1+1) rfl 84 ca (0,0) _ (HR.out w' g) underlying84 rfl A.out) ?_;refine ai (.slice (some ⟨pb,off,none⟩) F cap) rfl (fun w' _=>BigFrame.run_move (.tmp 0) rfl w') ?_;refine ai (k:Int) rfl (fun w' _=>BigFrame.run_move (.tmp 14) rfl w') ?_;simp only [aa];refine ai (.pointer (some ⟨pb,off+k,none⟩)) rfl (fun w' _=>by go_simp) ?_;refine ai (.int .u64 f) rfl (fun w' g=>by have bo:=y.out w' g;go_simp) ?_;refine ai (.int .u64 f2) rfl (fun w' _=>by go_simp) ?_;refine bf z 89 #[.int .u64 f2] rfl (fun w'=>by go_simp) (fun w' g=>(HV.out w').mono fun _ _ h=>⟨h.1,g.frame h.2⟩) ?_;refine bf (.agg cr) 88 #[.agg ca,z] rfl (fun w'=>by go_simp) (fun w' g=>(aj.out w').mono fun _ _ h=>⟨h.1,g.frame h.2⟩) ?_;refine wpQuiet_nil ?_;intro w2 n;simp only [aa];have S:Hid (dg w B Y b1 (w2.setRow (B+1+1+1) cr)):=I.out _ n;have aT:=ae (HR.out w2 n);have ag:Hid (dg w B p1.a p1.b (w2.setRow (B+1+1+1) cr)):=u.out _ S;clear n HR I y HV aj S av a4 u ax ah aH M;go_wp2_with (refine wpList_store_row rfl 84 _ _ rfl (B+1+1+1) cr rfl rfl 84 ca aT.out C.out HS.out HO.out ?_)
      go_roundw
      case rel=>exact ⟨k+1,by omega,by go_num,by rw [E.out,H.out.1],by rw [E.out,H.out.2.1],by rw [E.out,H.out.2.2.1],by rw [E.out,H.out.2.2.2],by rw [E.out];exact ag⟩
      case measure=>simp [intOf];omega
  ·obtain rfl:k=F:=by omega
   have aI:Pt.Qn o k=Pt.of o:=by rw [<-aX];exact Pt.Yx
   rw [aI] at U ⊢;generalize Pt.of o=p at*;obtain ⟨G,j,pn,pu,O,pl⟩:=p;dsimp only at U ⊢;have W:Hid (w.heap.size<=B):=U.out.2.2.2.2.2;have J:=dW (dj 140 G) (da _ _);have L:=dW (dj 140 j) (da _ _);have a2:=fb (dj 140 G);have a3:=fb (dj 140 j);have bl:(au bI).toArray.size=(au (dj 140 G)).toArray.size:=by rw [cL _ (da _ _),cL bI dV]
   have bm:(au bI).toArray.size=(au (dj 140 j)).toArray.size:=by rw [cL _ (da _ _),cL bI dV]
   have hE:ss w B (au (dj 140 G)) (au (dj 140 j)) 0 wr.drew:=⟨U.out.2.2.2.2.1.drew,U.out.2.2.1,U.out.2.2.2.1,fun _=>U.out.1,fun _=>U.out.2.1,fun h=>by omega,fun h=>by omega⟩;have bg:et G= .agg (au (dj 140 G)).toArray:=rfl;have bk:et j= .agg (au (dj 140 j)).toArray:=rfl;have ar:∀w',J7 w w'->pV w ⟨G,j,pn,pu,O,pl⟩ (.returned (.tuple #[.agg (au (dj 140 G)).toArray,.agg (au (dj 140 j)).toArray,.bool (pn||(pu&&O)),.bool pu,.bool O,.bool pl])) w':=fun w' hf=>⟨by rw [<-bg,<-bk],hf⟩
   clear bg bk aI HW U bc aX hk aY;generalize au (dj 140 G)=la at*;generalize au (dj 140 j)=lb at*;have A:=ae J;have C:=ae L;have aR:=ae a2;have aS:=ae a3;have aU:=ae bl;have aW:=ae bm;have HE:=ae hE;have P:=ae ar;clear J L a2 a3 bl bm hE ar
   go_upto_region 18 with fail
   refine uc (ss w B la lb) 12 (by kernel_rfl) (by kernel_rfl) HE.out ?_;simp only [Kc];refine en (.agg la.toArray) rfl (fun s w' g=>br _ (eX rfl (B+1+1) rfl 84 la.toArray (0,0) _ g.2.1 underlying84 rfl A.out) g) ?_;refine en (.agg lb.toArray) rfl (fun s w' g=>br _ (eX rfl (B+1+1+1) rfl 84 lb.toArray (0,0) _ g.2.2.1 underlying84 rfl C.out) g) ?_;refine en (.bool pn) rfl (fun s w' g=>br _ (BigFrame.run_move (.tmp 10) rfl w') g) ?_;simp only [aa];refine en (.bool pn) rfl (fun s w' g=>br _ (BigFrame.run_move (.tmp 94) rfl w') g) ?_;simp only [aa]
   cases pn with
   |true=>
    refine jF (by rfl) ?_;simp only [aa];refine jF (by rfl) ?_;simp only [aa];refine jF (by rfl) ?_;simp only [aa];refine jF (by rfl) ?_;simp only [aa];refine en (.bool true) rfl (fun s w' g=>br _ (by go_simp) g) ?_;simp only [aa];refine en (.bool pu) rfl (fun s w' g=>br _ (BigFrame.run_move (.tmp 11) rfl w') g) ?_;simp only [aa];refine en (.bool O) rfl (fun s w' g=>br _ (BigFrame.run_move (.tmp 12) rfl w') g) ?_;simp only [aa];refine en (.bool pl) rfl (fun s w' g=>br _ (BigFrame.run_move (.tmp 13) rfl w') g) ?_;simp only [aa];refine rN ?_;refine dT undef rfl (fun w' g=>jx _ (gY rfl B la.toArray rfl rfl 84 (au bI).toArray (g.2.2.2.1 rfl) A.out aU.out aR.out) (g.put0 W.out)) ?_;simp only [Act.put];refine dT undef rfl (fun w' g=>jx _ (gY rfl (B+1) lb.toArray rfl rfl 84 (au bI).toArray (g.2.2.2.2.1 (by omega)) C.out aW.out aS.out) (g.put1 W.out)) ?_;simp only [Act.put];refine dT (.bool true) rfl (fun w' g=>br _ (BigFrame.run_assign (.tmp 100) rfl w') (g.next (by omega))) ?_;simp only [aa];refine dT (.bool pu) rfl (fun w' g=>br _ (BigFrame.run_assign (.tmp 101) rfl w') (g.next (by omega))) ?_;simp only [aa];refine dT (.bool O) rfl (fun w' g=>br _ (BigFrame.run_assign (.tmp 102) rfl w') (g.next (by omega))) ?_;simp only [aa];refine dT (.bool pl) rfl (fun w' g=>br _ (BigFrame.run_assign (.tmp 103) rfl w') (g.next (by omega))) ?_;simp only [aa];refine qW ?_;intro w2 n;have D:=ae n;clear n;go_wp2;refine bodyPost_ret (gP (by rfl) _ _ B (B+1) 84 84 la.toArray lb.toArray (0,0) (0,0) _ _ _ _ _ rfl rfl rfl rfl rfl rfl (D.out.2.2.2.2.2.1 (by decide)) (D.out.2.2.2.2.2.2 (by decide)) underlying84 rfl A.out C.out) rfl ?_;exact P.out _ D.out.1
   |false=>
    cases pu with
    |true=>
     refine iL (.bool true) (by rfl) (fun s w' g=>br _ (BigFrame.run_move (.tmp 11) rfl w') g) ?_;simp only [aa];refine iL (.bool true) (by rfl) (fun s w' g=>br _ (BigFrame.run_move (.tmp 96) rfl w') g) ?_;simp only [aa];refine iL (.bool O) (by rfl) (fun s w' g=>br _ (BigFrame.run_move (.tmp 12) rfl w') g) ?_;simp only [aa];refine iL (.bool O) (by rfl) (fun s w' g=>br _ (by go_simp) g) ?_;simp only [aa];refine en (.bool O) rfl (fun s w' g=>br _ (by go_simp) g) ?_;simp only [aa];refine en (.bool true) rfl (fun s w' g=>br _ (BigFrame.run_move (.tmp 11) rfl w') g) ?_;simp only [aa];refine en (.bool O) rfl (fun s w' g=>br _ (BigFrame.run_move (.tmp 12) rfl w') g) ?_;simp only [aa];refine en (.bool pl) rfl (fun s w' g=>br _ (BigFrame.run_move (.tmp 13) rfl w') g) ?_;simp only [aa];refine rN ?_;refine dT undef rfl (fun w' g=>jx _ (gY rfl B la.toArray rfl rfl 84 (au bI).toArray (g.2.2.2.1 rfl) A.out aU.out aR.out) (g.put0 W.out)) ?_;simp only [Act.put];refine dT undef rfl (fun w' g=>jx _ (gY rfl (B+1) lb.toArray rfl rfl 84 (au bI).toArray (g.2.2.2.2.1 (by omega)) C.out aW.out aS.out) (g.put1 W.out)) ?_;simp only [Act.put];refine dT (.bool O) rfl (fun w' g=>br _ (BigFrame.run_assign (.tmp 100) rfl w') (g.next (by omega))) ?_;simp only [aa];refine dT (.bool true) rfl (fun w' g=>br _ (BigFrame.run_assign (.tmp 101) rfl w') (g.next (by omega))) ?_;simp only [aa];refine dT (.bool O) rfl (fun w' g=>br _ (BigFrame.run_assign (.tmp 102) rfl w') (g.next (by omega))) ?_;simp only [aa];refine dT (.bool pl) rfl (fun w' g=>br _ (BigFrame.run_assign (.tmp 103) rfl w') (g.next (by omega))) ?_;simp only [aa];refine qW ?_;intro w2 n;have D:=ae n;clear n;go_wp2;refine bodyPost_ret (gP (by rfl) _ _ B (B+1) 84 84 la.toArray lb.toArray (0,0) (0,0) _ _ _ _ _ rfl rfl rfl rfl rfl rfl (D.out.2.2.2.2.2.1 (by decide)) (D.out.2.2.2.2.2.2 (by decide)) underlying84 rfl A.out C.out) rfl ?_;exact P.out _ D.out.1
    |false=>
     refine iL (.bool false) (by rfl) (fun s w' g=>br _ (BigFrame.run_move (.tmp 11) rfl w') g) ?_;simp only [aa];refine iL (.bool false) (by rfl) (fun s w' g=>br _ (BigFrame.run_move (.tmp 96) rfl w') g) ?_;simp only [aa];refine jF (by rfl) ?_;simp only [aa];refine iL (.bool false) (by rfl) (fun s w' g=>br _ (by go_simp) g) ?_;simp only [aa];refine en (.bool false) rfl (fun s w' g=>br _ (by go_simp) g) ?_;simp only [aa];refine en (.bool false) rfl (fun s w' g=>br _ (BigFrame.run_move (.tmp 11) rfl w') g) ?_;simp only [aa];refine en (.bool O) rfl (fun s w' g=>br _ (BigFrame.run_move (.tmp 12) rfl w') g) ?_;simp only [aa];refine en (.bool pl) rfl (fun s w' g=>br _ (BigFrame.run_move (.tmp 13) rfl w') g) ?_;simp only [aa];refine rN ?_;refine dT undef rfl (fun w' g=>jx _ (gY rfl B la.toArray rfl rfl 84 (au bI).toArray (g.2.2.2.1 rfl) A.out aU.out aR.out) (g.put0 W.out)) ?_;simp only [Act.put];refine dT undef rfl (fun w' g=>jx _ (gY rfl (B+1) lb.toArray rfl rfl 84 (au bI).toArray (g.2.2.2.2.1 (by omega)) C.out aW.out aS.out) (g.put1 W.out)) ?_;simp only [Act.put];refine dT (.bool false) rfl (fun w' g=>br _ (BigFrame.run_assign (.tmp 100) rfl w') (g.next (by omega))) ?_;simp only [aa];refine dT (.bool false) rfl (fun w' g=>br _ (BigFrame.run_assign (.tmp 101) rfl w') (g.next (by omega))) ?_;simp only [aa];refine dT (.bool O) rfl (fun w' g=>br _ (BigFrame.run_assign (.tmp 102) rfl w') (g.next (by omega))) ?_;simp only [aa];refine dT (.bool pl) rfl (fun w' g=>br _ (BigFrame.run_assign (.tmp 103) rfl w') (g.next (by omega))) ?_;simp only [aa];refine qW ?_;intro w2 n;have D:=ae n;clear n;go_wp2;refine bodyPost_ret (gP (by rfl) _ _ B (B+1) 84 84 la.toArray lb.toArray (0,0) (0,0) _ _ _ _ _ rfl rfl rfl rfl rfl rfl (D.out.2.2.2.2.2.1 (by decide)) (D.out.2.2.2.2.2.2 (by decide)) underlying84 rfl A.out C.out) rfl ?_;exact P.out _ D.out.1
noncomputable def Pt.whole(p:Pt):Nat:=
 if (p.nan||(p.up&&p.down))=true then 9221120237041090560 else if p.up=true then 9218868437227405312 else if p.down=true then 18442240474082181120 else if p.all=true then 9223372036854775808
 else if p.a<p.b then Xk (p.b-p.a)+9223372036854775808 else Xk (p.a-p.b)
theorem xA(a b:Nat):∃(d e:Array Value),et a= .agg d/\et b= .agg e/\(∀w f,WB w f (dj 140 a)->w.heap[f]? =some (.cells d 84 (0,0)))/\(∀w f,WB w f (dj 140 b)->w.heap[f]? =some (.cells e 84 (0,0)))/\
  (prog.info? 84).map (·.size)=some d.size/\(prog.info? 84).map (·.size)=some e.size/\(au bI).toArray.size=d.size/\(au bI).toArray.size=e.size/\d.all (·.oneCell')=true/\e.all (·.oneCell')=true/\
  (∀w w1,(w.alloc (.cells Tryz.zeroCells84 84)).alloc (.cells Tryz.zeroCells84 84)=w1->w1.heap[w.heap.size]? =some (.cells (au bI).toArray 84 (0,0))/\(w1.setRow w.heap.size d).heap[w.heap.size+1]? =some (.cells (au bI).toArray 84 (0,0))/\
   WB ((w1.setRow w.heap.size d).setRow (w.heap.size+1) e) w.heap.size (dj 140 a)/\WB ((w1.setRow w.heap.size d).setRow (w.heap.size+1) e) (w.heap.size+1) (dj 140 b)/\J7 w ((w1.setRow w.heap.size d).setRow (w.heap.size+1) e)):=by
 refine ⟨(au (dj 140 a)).toArray,(au (dj 140 b)).toArray,rfl,rfl,fun _ _ h=>h,fun _ _ h=>h,dW _ (da _ _),dW _ (da _ _),?_,?_,fb _,fb _,?_⟩
 ·grind [cL,da,dV]
 ·grind [cL,da,dV]
 ·intro w w1 h;obtain ⟨g,i,j⟩:=zq w w1 h;refine ⟨g,i.Qf w.heap.size _ (by omega),?_,?_,?_⟩
  ·exact (ay.setRow (c:=au bI) g (au (dj 140 a))).Qf (w.heap.size+1) _ (by omega)
  ·exact ay.setRow (c:=au bI) (i.Qf w.heap.size _ (by omega)) (au (dj 140 b))
  ·exact (j.setRow w.heap.size (.inr (ag _)) _).setRow (w.heap.size+1) (.inr (by omega)) _
theorem xG(q:Option Addr)(t cap:Nat)(E:List Nat)(w:World)(h:mc w q t E)(v:t<=1000000):
  Calls prog 13 #[.slice q t cap] w (eM w (Pt.of E).whole):=by
 have hp:=Bf q t cap E w h v;have c:(Pt.of E).a<fo/\(Pt.of E).b<fo:=by rw [<-Pt.Yx];exact qA E _ (by have:=h.len;omega)
 clear h;generalize Pt.of E=p at*;obtain ⟨d,f,pn,pu,pd,pl⟩:=p;obtain ⟨J,K,e1,e2,aj,ak,Z,ad,al,am,ag,ah,hN⟩:=xA d f;unfold pV at hp;dsimp only at hp c;rw [e1,e2] at hp;have F:=oB d f c.1 c.2;have r:d<f->∀w,Calls prog 44 #[et f,et d] w (nl w (f-d)):=fun h=>mL f d c.2 c.1 (by omega)
 have s:¬d<f->∀w,Calls prog 44 #[et d,et f] w (nl w (d-f)):=fun h=>mL d f c.1 c.2 (by omega)
 have ao:=vL (f-d) (by omega);have ap:=vL (d-f) (by omega);have aq:=Db (f-d);unfold nl at r s;rw [e1,e2] at F r s;generalize et (f-d)=z1 at*;generalize et (d-f)=z2 at*;obtain ⟨pq,G⟩:∃pq,pq=(pn||(pu&&pd)):=⟨_,rfl⟩;rw [<-G] at hp;have ar:(Pt.mk d f pn pu pd pl).whole=if pq=true then 9221120237041090560 else if pu=true then 9218868437227405312 else if pd=true then 18442240474082181120 else if pl=true then 9223372036854775808
  else if d<f then Xk (f-d)+9223372036854775808 else Xk (d-f):=by unfold Pt.whole;rw [G]
 generalize (Pt.mk d f pn pu pd pl).whole=V at*;generalize Xk (f-d)=R1 at*;generalize Xk (d-f)=R2 at*;have HP:=ae hp;have k:=ae ar;have HL:=ae F;have B:=ae r;have C:=ae s;have av:=ae ao;have ax:=ae ap;have l:=ae Z;have m:=ae ad;have X:=ae al;have Y:=ae am;have S:=ae ag;have T:=ae ah;have R:=ae hN;have U:=ae aj;have W:=ae ak;have D:=ae aq;clear hp ar F r s ao ap Z ad al am ag ah hN aj ak G e1 e2 c v aq
 go_enter func13,ntmps13
 go_wp2_with fail
 refine HP.out.mono ?_;rintro e w1 ⟨rfl,an⟩;obtain ⟨k1,k2,k3,k4,k5⟩:=R.out w1 _ rfl;have I:=ae (an.then k5);have N:=ae k1;have O:=ae k2;have z:=ae (U.out _ _ k3);have A:=ae (W.out _ _ k4);clear k1 k2 k3 k4 k5 U W R an;generalize hg:w1.heap.size=g at*;generalize az:(w1.alloc _).alloc _=w2 at*
 go_upto_region 2 with (first|refine wpList_store_row rfl 84 _ _ rfl g J rfl rfl 84 (au bI).toArray N.out l.out X.out S.out ?_|refine wpList_store_row rfl 84 _ _ rfl (g+1) K rfl rfl 84 (au bI).toArray O.out m.out Y.out T.out ?_)
 clear hg az;generalize (w2.setRow g J).setRow (g+1) K=w3 at*;clear N O X Y S T HP
 cases pq with
 |true=>
  obtain rfl:V=9221120237041090560:=by rw [k.out,if_pos rfl]
  clear k;go_wp2_with fail
  go_ret;exact ⟨rfl,I.out⟩
 |false=>
 cases pu with
 |true=>
  obtain rfl:V=9218868437227405312:=by rw [k.out,if_neg bD,if_pos rfl]
  clear k;go_wp2_with fail
  go_ret;exact ⟨rfl,I.out⟩
 |false=>
 cases pd with
 |true=>
  obtain rfl:V=18442240474082181120:=by rw [k.out,if_neg bD,if_neg bD,if_pos rfl]
  clear k;go_wp2_with fail
  go_ret;exact ⟨rfl,I.out⟩
 |false=>
 cases pl with
 |true=>
  obtain rfl:V=9223372036854775808:=by rw [k.out,if_neg bD,if_neg bD,if_neg bD,if_pos rfl]
  clear k;go_wp2_with fail
  go_ret;exact ⟨rfl,I.out⟩
 |false=>
 have H:=k.out;rw [if_neg bD,if_neg bD,if_neg bD,if_neg bD] at H;have n:=ae H;clear H k;go_wp2_with (first|refine wpList_load_row rfl 84 _ rfl g rfl 84 J (0,0) _ z.out underlying84 rfl l.out ?_|refine wpList_load_row rfl 84 _ rfl (g+1) rfl 84 K (0,0) _ A.out underlying84 rfl m.out ?_)
 refine (HL.out w3).mono ?_;rintro e w4 ⟨rfl,o⟩;have P:Hid (w4.heap[g]? =some (.cells J 84 (0,0))):=o.heap z.out id;have Q:Hid (w4.heap[g+1]? =some (.cells K 84 (0,0))):=o.heap A.out id;have L:=ae (I.out.then o);clear o I z A HL;by_cases c:d<f
 ·have hd:decide (d<f)=true:=by simpa using c
  rw [hd];have hm:=B.out c;obtain rfl:V=R1+9223372036854775808:=by rw [n.out,if_pos c]
  have aA:IntKind.u64.wrap ((R1:Int)+9223372036854775808)=(R1:Int)+9223372036854775808:=by have:=D.out;rw [IntKind.wrap_u64];omega
  have HM:=ae hm;have u:∀w5,J7 w w5->eM w (R1+9223372036854775808) (.returned (.int .u64 ((R1:Int)+9223372036854775808))) w5:=fun w5 h=>⟨by rw [Int.natCast_add];rfl,h⟩
  have M:=ae u;clear hm c hd n B C D u;go_wp2_with (first|refine wpList_load_row rfl 84 _ rfl g rfl 84 J (0,0) _ P.out underlying84 rfl l.out ?_|refine wpList_load_row rfl 84 _ rfl (g+1) rfl 84 K (0,0) _ Q.out underlying84 rfl m.out ?_)
  refine (HM.out w4).mono ?_;rintro e w5 ⟨rfl,i⟩;have x:=ae (L.out.then i);clear i;go_wp2_with fail
  refine (av.out w5).mono ?_;rintro e w6 ⟨rfl,j⟩;have y:=ae (x.out.then j);clear j;go_wp2_with fail
  go_ret;exact M.out _ y.out
 ·have hd:decide (d<f)=false:=by simpa using c
  rw [hd];have hm:=C.out c;obtain rfl:V=R2:=by rw [n.out,if_neg c]
  have HM:=ae hm;clear hm c hd n B C D;go_wp2_with (first|refine wpList_load_row rfl 84 _ rfl g rfl 84 J (0,0) _ P.out underlying84 rfl l.out ?_|refine wpList_load_row rfl 84 _ rfl (g+1) rfl 84 K (0,0) _ Q.out underlying84 rfl m.out ?_)
  refine (HM.out w4).mono ?_;rintro e w5 ⟨rfl,i⟩;have x:=ae (L.out.then i);clear i;go_wp2_with fail
  refine (ax.out w5).mono ?_;rintro e w6 ⟨rfl,j⟩;have y:=ae (x.out.then j);clear j;go_wp2_with fail
  go_ret;exact ⟨rfl,y.out⟩
theorem Em{a:List Nat}{k f:Nat}(h:a[k]? =some f):fE.of (a.take (k+1))=(fE.of (a.take k)).add f:=by
 grind [List.take_add_one,fE.of]
theorem C9:Xk 0=0:=by
 have h:jZ 0 0:=⟨by decide,fun h=>absurd h (by decide)⟩;rw [<-Da h];decide+kernel
theorem Gm{f:Nat}(hf:f<18446744073709551616):(de f==3&& !gz f)=(f==9218868437227405312)/\(de f==3&&gz f)=(f==18442240474082181120):=by
 by_cases h:de f=3
 ·rcases vY hf h with ⟨rfl,a⟩|⟨rfl,a⟩
  ·grind
  grind
 ·have e:(de f==3)=false:=by grind
  rw [e,Bool.false_and,Bool.false_and];refine ⟨?_,?_⟩
  ·symm;rw [beq_eq_false_iff_ne];rintro rfl;exact h (by decide)
  ·symm;rw [beq_eq_false_iff_ne];rintro rfl;exact h (by decide)
theorem CH{f:Nat}(hf:f<18446744073709551616):(de f==0&&gz f)=(f==9223372036854775808):=by
 rw [bM,ak,beq_iff_eq,beq_iff_eq];unfold gz;rw [decide_eq_true_eq];have a:=vV f hf
 grind
theorem sI{f:Nat}(hf:f<18446744073709551616):fR f=((if de f<3/\f<9223372036854775808 then cI f else 0:Nat):Int)-((if de f<3/\9223372036854775808<=f then cI (f-9223372036854775808) else 0:Nat):Int):=by
 unfold fR qg;by_cases a:de f<3
 ·rw [if_pos a];by_cases d:9223372036854775808<=f
  ·have b:gz f=true:=by grind [gz]
   have c:cI (f-9223372036854775808)=cI f:=by
    unfold cI gu gl;rw [show (f-9223372036854775808)/4503599627370496% 2048=f/4503599627370496% 2048 by omega,show (f-9223372036854775808)% 4503599627370496=f% 4503599627370496 by omega]
   grind
  simp_all [gz,if_neg]
 grind
def AC(g:fE)(p:Pt)(n:Nat):Prop:=g.total=(p.a:Int)-(p.b:Int)/\g.nan=p.nan/\g.plus=p.up/\g.minus=p.down/\g.count=n/\g.Qa<=n/\(g.Qa=n->g.total=0)
theorem E4(l:List Nat)(b:∀f∈l,f<18446744073709551616):AC (fE.of l) (Pt.of l) l.length/\(Pt.of l).all=decide (0<l.length/\(fE.of l).Qa=l.length):=by
 have d:∀(l:List Nat) (g:fE) (p:Pt) (n:Nat) (a:Bool),(∀f∈l,f<18446744073709551616)->AC g p n->p.all=(a&&decide (g.Qa=n))->
   AC (l.foldl fE.add g) (l.foldl Pt.add p) (n+l.length)/\(l.foldl Pt.add p).all=(a&&decide ((l.foldl fE.add g).Qa=n+l.length)):=by
  intro l
  induction l with
  |nil=>grind
  |cons f l ih=>
   intro g p n a b e j;have hf:=b f cw;obtain ⟨s,t⟩:=Gm hf;have i:=CH hf;have u:=sI hf;have:=ih (g.add f) (p.add f) (n+1) a (fun x k=>b x (bm _ k)) ?_ ?_
   ·rw [List.foldl_cons,List.foldl_cons,bG,show n+(l.length+1)=n+1+l.length by omega];omega
   ·obtain ⟨v,m,w,y,o,q,r⟩:=e;unfold AC fE.add Pt.add;dsimp only;refine ⟨by omega,by rw [m],by grind,by grind,by rw [o],by grind,fun h=> ?_⟩;rw [i] at h;have c:(f==9223372036854775808)=true:=by
     grind
    rw [if_pos c] at h;rw [r (by omega)];rw [beq_iff_eq] at c;subst c;decide+kernel
   ·unfold fE.add Pt.add;dsimp only;rw [j,i];have q:=e.2.2.2.2.2.1
    grind
 have h:=d l fE.none ⟨0,0,false,false,false,decide (0<l.length)⟩ 0 (decide (0<l.length)) b ⟨by unfold fE.none;simp,rfl,rfl,rfl,rfl,ag _,fun _=>rfl⟩ (by unfold fE.none;simp);rw [bq] at h;refine ⟨h.1,h.2.trans ?_⟩;rw [<-Bool.decide_and];rfl
theorem xu(l:List Nat)(j:∀f∈l,f<18446744073709551616):(fE.of l).whole=(Pt.of l).whole:=by
 obtain ⟨⟨b,c,d,e,h,m,n⟩,i⟩:=E4 l j;generalize fE.of l=g at*;generalize Pt.of l=p at*;unfold fE.whole Pt.whole;rw [c,d,e,i,h,b];by_cases c1:(p.nan||(p.up&&p.down))=true
 ·grind
 ·rw [if_neg c1,if_neg c1];by_cases c2:p.up=true
  ·grind
  ·rw [if_neg c2,if_neg c2];by_cases a:p.down=true
   ·grind
   ·rw [if_neg a,if_neg a];by_cases k:0<l.length/\g.Qa=l.length
    ·simp_all [C9]
    grind
theorem yo(p f g:Int)(h:dD p f g)(w:World):Calls prog 38 #[ft p f g,(2:Int)] w (jn w p):=by
 have b:=ae (iM p f g);unfold ft at*;unfold nu at b;rw [if_pos h] at b;obtain ⟨l,m,n,o,q,r,s⟩:=h
 go_enter func38,ntmps38
 go_upto_region 1 with fail
 have c:=ay.new w [(p:Int),(f:Int),(g:Int)] 32;have i:=(Kb (fun _=>False) w).alloc (.cells #[(p:Int),(f:Int),(g:Int)] 32);generalize w.alloc (.cells #[(p:Int),(f:Int),(g:Int)] 32)=W at*;obtain ⟨k,p1,p2⟩:=eB c;have j:=ae c;clear c;go_wp2_with fail
 refine (b.out _).mono ?_;rintro e w1 ⟨rfl,a⟩;obtain ⟨q0,t,u⟩:=eB (j.out.frame a id);have d:=i.trans a J8;clear k p1 p2 i a;go_wp2;go_ret;exact ⟨rfl,d⟩
section
variable{b u n:Nat}{c:Cf}{A:AG}{rs:List Nat}{T:Nat->Prop}{w w':World}
theorem dC.bind{w0:World}{f:FuncId}{i:Array Value}{E:Ending->World->Prop}{R:AG->List Nat->Prop}(h:dC b c A rs T w0 w)(g:∀u n j,eF b c A rs u n j w->Calls prog f i w fun e w'=>E e w'/\∃d a,R d a/\dC b c d a j w w'):Calls prog f i w fun e w'=>E e w'/\∃d a,R d a/\dC b c d a T w0 w':=by
 obtain ⟨u,n,j,r,m,o⟩:=h;refine (g u n j r).mono ?_;rintro e w' ⟨s,d,a,v,y,x,l,g1,p,q⟩;have z:=m.size;exact ⟨s,d,a,v,y,x,l,g1,m.trans p o,fun k t=>(q k t).elim (o k) (fun h=> .inr (by omega))⟩
theorem dC.bind0{w0:World}{f:FuncId}{a:Array Value}{E:Ending->Prop}(h:dC b c A rs T w0 w)(g:∀u n i,eF b c A rs u n i w->Calls prog f a w fun e w'=>E e/\dC b c A rs i w w'):Calls prog f a w fun e w'=>E e/\dC b c A rs T w0 w':=by
 refine (h.bind (E:=fun e _=>E e) (R:=fun j d=>j=A/\d=rs) (fun u n i m=>(g u n i m).mono (fun e w' h=>⟨h.1,A,rs,⟨rfl,rfl⟩,h.2⟩))).mono ?_;rintro e w' ⟨l,j,d,⟨rfl,rfl⟩,k⟩;exact ⟨l,k⟩
theorem D9(v:eF b c A rs u n T w)(z i y k:Int):Calls prog 70 #[b,(z:Int),(i:Int),(y:Int),(k:Int)] w fun e w'=>(∃q m:Int,e= .returned (.tuple #[(q:Int),(m:Int)]))/\dC b c A rs T w w':=by
 have d:=ae (kt v z i);have j:=ae (fun w1 (h:dC b c A rs T w w1)=>h.bind0 (fun u n C h=>kt h y k));have o:=ae (fun f g w x B=>y9 f g x B w);clear v;generalize dC b c A rs T w=Q at*
 go_enter func70,ntmps70
 go_wp2_with fail
 refine d.out.mono ?_;rintro e w1 ⟨⟨f,m,rfl,hf,_⟩,a⟩;by_cases l:m=0
 ·subst l;have t:=ae (j.out w1 a);have p:=ae hf;clear d j a hf;go_wp2_with fail
  refine t.out.mono ?_;rintro e w2 ⟨⟨g,m,rfl,hg,_⟩,a⟩;have H:=ae a;by_cases l:m=0
  ·subst l;have r:=ae (fun w=>o.out f g w p.out hg);have s:=ae (fun w=>o.out g f w hg p.out);clear t a hg o p;generalize sh f g=B1 at*;generalize sh g f=B2 at*;go_wp2_with fail
   refine (r.out _).mono ?_;rintro e w3 ⟨rfl,rfl⟩
   cases B1
   ·go_wp2_with fail
    refine (s.out _).mono ?_;rintro e w3 ⟨rfl,rfl⟩
    cases B2
    ·go_wp2;go_ret2;exact ⟨⟨_,_,rfl⟩,H.out⟩
    ·go_wp2;go_ret2;exact ⟨⟨_,_,rfl⟩,H.out⟩
   ·go_wp2;go_ret2;exact ⟨⟨_,_,rfl⟩,H.out⟩
  ·have l:(m==0)=false:=by rw [beq_eq_false_iff_ne];exact l
   clear t a hg o p;go_wp2;go_ret2;exact ⟨⟨_,_,rfl⟩,H.out⟩
 ·have l:(m==0)=false:=by rw [beq_eq_false_iff_ne];exact l
  have H:=ae a;clear d j a hf o;go_wp2;go_ret2;exact ⟨⟨_,_,rfl⟩,H.out⟩
def AG.Qt(A:AG)(x:Nat):List Nat:=(List.range (A.nf x)).map (fun i=>A.Qv x (A.np x+i))
theorem uB{x i:Nat}(d:x≠0)(a:dD (A.np x) (A.nf x) (A.ng x))(e:i<A.nf x):fC A x ((A.np x:Int)+i) 2=0/\fV A x ((A.np x:Int)+i) 2=A.Qv x (A.np x+i):=by
 have h:fC A x ((A.np x:Int)+i) 2=0:=by
  unfold fC nX fP fO;rw [if_neg d,if_pos a];unfold dD at a
  grind
 refine ⟨h,?_⟩;unfold fV;rw [if_pos h,show ((A.np x:Int)+i).toNat=A.np x+i by omega]
theorem Gt{x i:Nat}(a:i<A.nf x):(A.Qt x)[i]? =some (A.Qv x (A.np x+i)):=by
 unfold AG.Qt;rw [aR,jm a];rfl
def qJ(b:Nat)(c:Cf)(A:AG)(rs:List Nat)(T:Nat->Prop)(w:World)(p f g:Int)(l:List Nat)(xb sb i:Nat)(wr:World):Prop:=sn wr sb (fE.of (l.take i))/\ay wr xb [(p:Int),(f:Int),(g:Int)] 32/\xb≠sb/\(w.heap.size<=sb/\ch≠sb)/\∃u n T',eF b c A rs u n T' wr/\Fr T w wr/\(∀k,T' k->T k\/w.heap.size<=k)/\¬T' xb/\¬T' sb
section
variable{p f g:Int}{l:List Nat}{xb sb i:Nat}{wr w1:World}
theorem qJ.Qb(h:qJ b c A rs T w p f g l xb sb i wr)(hf:J7 wr w1):qJ b c A rs T w p f g l xb sb i w1:=by
 obtain ⟨m,o,q,r,u,n,a,g1,d,e,j,k⟩:=h;exact ⟨m.frame hf id,o.frame hf id,q,r,u,n,a,g1.Qb hf,d.trans hf J8,e,j,k⟩
theorem qJ.Xf(h:qJ b c A rs T w p f g l xb sb i wr):dC b c A rs T w wr:=let ⟨_,_,_,_,u,n,a,g1,d,e,_⟩:=h;⟨u,n,a,g1,d,e⟩
theorem qJ.get(h:qJ b c A rs T w p f g l xb sb i wr){s x:Nat}(D:rs[s]? =some x)(k:Int):Calls prog 10 #[b,(s:Int),(k:Int)] wr fun e w'=>e= .returned (.tuple #[.float .f64 (fV A x k 2),((fC A x k 2):Int)])/\qJ b c A rs T w p f g l xb sb i w'/\wr.heap.size<=w'.heap.size:=by
 obtain ⟨v,z,B,C,u,n,I,g1,o,q,r,t⟩:=h;refine (kt g1 s k).mono ?_;rintro e w' ⟨⟨y,J,rfl,_,E⟩,H,F,j,G,d,m⟩;obtain ⟨rfl,rfl⟩:=E s x rfl D;have K:=o.size;have L:=v.lt;have M:=z.lt;exact ⟨rfl,⟨v.frame d t,z.frame d r,B,C,H,F,j,G,o.trans d q,fun k a=>(m k a).elim (q k) (fun h=> .inr (by omega)),fun a=>(m _ a).elim r (fun h=>by omega),fun a=>(m _ a).elim t (fun h=>by omega)⟩,d.size⟩
theorem qJ.add(h:qJ b c A rs T w p f g l xb sb i wr){y:Nat}(F:l[i]? =some y)(j:y<18446744073709551616)(G:i<4611686018427387904):Calls prog 39 #[sb,.float .f64 y] wr fun e w'=>e= .returned (.tuple #[])/\qJ b c A rs T w p f g l xb sb (i+1) w':=by
 obtain ⟨q,C,r,a,u,n,v,g1,x,z,B,o⟩:=h;have s:=sO (l.take i);refine (GW sb (fE.of (l.take i)) y j wr q (by rw [s.2,dY];omega) s.1).mono ?_;rintro e w' ⟨rfl,t,m⟩;rw [<-Em F] at t;have E:=g1.Qo;have D:=q.lt;exact ⟨rfl,t,C.frame m r,r,a,u,n,v,g1.stays m (fun k d e=>o (by rw [<-e];exact d)) (fun e=>a.2 e),x.trans m (fun k d=> .inr (by rw [d];exact a.1)),z,B,o⟩
end
theorem v9(hi:eF b c A rs u n T w)(z:Int):Calls prog 12 #[b,(z:Int)] w fun e w'=>(∃(y:Nat) (t:Int),e= .returned (.tuple #[.float .f64 y,(t:Int)])/\∀s x:Nat,z=s->rs[s]? =some x->x≠0->t=0/\y=(fE.of (A.Qt x)).whole)/\dC b c A rs T w w':=by
 have X:=ae (rL hi z);have l:=ae (fun p f g h w=>yo p f g h w);have q:=ae hi.Qo;have r:Hid (∀x,x∈rs->∀k,fV A x k 2<18446744073709551616):=by
  show∀x,_
  obtain ⟨sv,φ,J,K,J2,h⟩:=iq hi;exact fun x hx k=>h.val x k 2 hx (by decide)
 have aj:Hid ((prog.info? 32).map (·.size)=some 3):=by show _=_;kernel_rfl
 clear hi
 go_enter func12,ntmps12
 go_wp2_with fail
 refine X.out.mono ?_;rintro e w1 ⟨⟨p,f,g,t,rfl,hc,hn⟩,D⟩;clear X;unfold ft;by_cases c0:t=0
 ·subst c0;obtain ⟨L,s,x,rfl,hs,hx,rfl,rfl,rfl⟩:=hc rfl;have m:(A.Qt x).length=A.nf x:=by unfold AG.Qt;rw [cQ,jY]
  have hb:=r.out x (ar hs);have ak:A.nf x<256:=by unfold dD at L;omega
  have S:Hid (∀xb sb i wr,i<A.nf x->qJ b c A rs T w (A.np x) (A.nf x) (A.ng x) (A.Qt x) xb sb i wr->Calls prog 10 #[b,(s:Int),(((A.np x:Int)+(i:Int)):Int)] wr fun e w'=>e= .returned (.tuple #[.float .f64 (A.Qv x (A.np x+i)),(0:Int)])/\qJ b c A rs T w (A.np x) (A.nf x) (A.ng x) (A.Qt x) xb sb i w'/\wr.heap.size<=w'.heap.size):=by
   show∀xb sb i wr,_
   intro xb sb i wr a d;have:=d.get hs ((A.np x:Int)+i);obtain ⟨e1,e2⟩:=uB hx L a;rwa [e1,e2] at this
  have O:Hid (∀xb sb i wr,i<A.nf x->qJ b c A rs T w (A.np x) (A.nf x) (A.ng x) (A.Qt x) xb sb i wr->Calls prog 39 #[.pointer (some ⟨sb,0,none⟩),.float .f64 (A.Qv x (A.np x+i))] wr fun e w'=>e= .returned (.tuple #[])/\qJ b c A rs T w (A.np x) (A.nf x) (A.ng x) (A.Qt x) xb sb (i+1) w'):=ae (fun xb sb i wr a d=>d.add (Gt a) (by have:=hb ((A.np x:Int)+i);rwa [(uB hx L a).2] at this) (by omega));have HW:Hid (∀xb sb wr,qJ b c A rs T w (A.np x) (A.nf x) (A.ng x) (A.Qt x) xb sb (A.nf x) wr->Calls prog 40 #[.pointer (some ⟨sb,0,none⟩)] wr fun e w'=>e= .returned (.float .f64 (fE.of (A.Qt x)).whole)/\dC b c A rs T w w'):=by
   show∀xb sb wr,_
   intro xb sb wr h;have a:=h.1;rw [bN (by omega)] at a;refine (AJ sb _ wr a (fE.ok_of _) (by rw [(sO _).2,m];omega)).mono ?_;rintro e w' ⟨he,hf⟩;exact ⟨he,h.Xf.Qb hf⟩
  have HI:Hid (∀w2,sn w2 (w1.heap.size+1) fE.none->J7 (w1.alloc (.cells #[((A.np x:Int):Int),((A.nf x:Int):Int),((A.ng x:Int):Int)] 32)) w2->qJ b c A rs T w (A.np x) (A.nf x) (A.ng x) (A.Qt x) w1.heap.size (w1.heap.size+1) 0 w2):=by
   show∀w2,_
   intro w2 a d;obtain ⟨u,n,T',g1,g2,g3⟩:=D;have hz:=g2.size;have hl:=g1.lt;have al:=q.out.2.1;have hf:J7 w1 w2:=((Kb _ w1).alloc _).trans d J8;refine ⟨by rw [aA];exact a,(ay.new w1 _ _).frame d id,by omega,⟨by omega,by omega⟩,u,n,T',g1.Qb hf,g2.trans hf J8,g3,fun h=> ?_,fun h=> ?_⟩
   ·have:=hl _ h;omega
   ·have:=hl _ h;omega
  have HK:=ae (fun xb sb i wr w' (h:qJ b c A rs T w (A.np x) (A.nf x) (A.ng x) (A.Qt x) xb sb i wr) hf=>h.Qb (w1:=w') hf);have j:=ae (fun xb sb i wr (h:qJ b c A rs T w (A.np x) (A.nf x) (A.ng x) (A.Qt x) xb sb i wr)=>h.2.1);have l:=ae (fun w=>l.out _ _ _ L w);unfold jn ft at l;have HX:Hid (∀s' M:Nat,(s:Int)=s'->rs[s']? =some M->M≠0->(fE.of (A.Qt x)).whole=(fE.of (A.Qt M)).whole):=ae (fun s' M a d _=>by
   obtain rfl:s=s':=by omega
   rw [hs] at d
   cases d
   rfl)
  have hP:(A.np x:Int)<256/\(0:Int)<=A.np x:=by unfold dD at L;omega
  clear hn hc D hs hx L hb m q r;generalize (fE.of (A.Qt x)).whole=V at*;obtain ⟨Y,hY⟩:∃Y:Nat->Nat,Y=fun i=>A.Qv x (A.np x+i):=⟨_,rfl⟩
  have HG:Hid (∀xb sb i wr,i<A.nf x->qJ b c A rs T w (A.np x) (A.nf x) (A.ng x) (A.Qt x) xb sb i wr->Calls prog 10 #[b,(s:Int),(((A.np x:Int)+(i:Int)):Int)] wr fun e w'=>e= .returned (.tuple #[.float .f64 (Y i),(0:Int)])/\qJ b c A rs T w (A.np x) (A.nf x) (A.ng x) (A.Qt x) xb sb i w'/\wr.heap.size<=w'.heap.size):=by rw [hY];exact S
  have HA:Hid (∀xb sb i wr,i<A.nf x->qJ b c A rs T w (A.np x) (A.nf x) (A.ng x) (A.Qt x) xb sb i wr->Calls prog 39 #[.pointer (some ⟨sb,0,none⟩),.float .f64 (Y i)] wr fun e w'=>e= .returned (.tuple #[])/\qJ b c A rs T w (A.np x) (A.nf x) (A.ng x) (A.Qt x) xb sb (i+1) w'):=by rw [hY];exact O
  clear hY S O;obtain ⟨I,hI⟩:∃I,qJ b c A rs T w (A.np x) (A.nf x) (A.ng x) (A.Qt x)=I:=⟨_,rfl⟩;rw [hI] at HG HA HW HI HK j;clear hI;generalize A.np x=P at*;generalize A.nf x=N at*;generalize A.ng x=G at*;go_wp2_with fail
  refine (F9 _).mono ?_;rintro e w2 ⟨rfl,C,ag,_⟩;rw [World.size_alloc] at C ⊢;have H0:=ae (HI.out w2 C ag);clear C ag HI;obtain ⟨xb,F⟩:∃xb,xb=w1.heap.size:=⟨_,rfl⟩;obtain ⟨sb,E⟩:∃sb,sb=w1.heap.size+1:=⟨_,rfl⟩;rw [<-E,<-F] at H0;rw [<-E,<-F];clear E F;have c1:=(j.out xb sb 0 w2 H0.out).cell 1 rfl;go_wp2;clear c1
  go_loopw [24] (fun v wr=>∃i:Nat,v= .int .i64 i/\i<=N/\Hid (I xb sb i wr)) (fun v _=>(N-intOf v).toNat)
  case atStart=>exact ⟨0,rfl,ao _,H0⟩
  case round=>
   clear H0;obtain ⟨i,rfl,ah,hr⟩:=hrel;by_cases B:i<N
   ·have c1:(i:Int)<(N:Int):=by omega
    have U:=ae (fun w' (hf:J7 wr w')=>HG.out xb sb i w' B (HK.out xb sb i wr w' hr.out hf));have HB:=ae (j.out xb sb i wr hr.out);have Q:=ae (fun w' h=>HA.out xb sb i w' B h);have hw:IntKind.i64.wrap ((P:Int)+(i:Int))=(P:Int)+(i:Int):=by rw [IntKind.wrap_i64];omega
    clear hr HG HA j HK;generalize Y i=y at*;obtain ⟨k0,k1,k2⟩:=eB HB.out;clear HB;go_wp2_with fail
    refine (l.out wr).mono ?_;rintro e w3 ⟨rfl,hf⟩;have W:=ae (U.out w3 hf);clear U hf k0 k1 k2;go_wp2_with fail
    refine W.out.mono ?_;rintro e w4 ⟨rfl,hj,_⟩;have R:=ae (Q.out w4 hj);clear W hj Q;go_wp2_with fail
    refine R.out.mono ?_;rintro e w5 ⟨rfl,ad⟩;have H4:=ae ad;clear R ad;go_wp2;go_roundw
    case rel=>exact ⟨i+1,by go_num,by omega,H4⟩
    case measure=>simp [intOf];omega
   ·obtain rfl:i=N:=by omega
    have Z:=ae (HW.out xb sb wr hr.out);have c1:¬(i:Int)<(i:Int):=by omega
    clear hr HG HA j HK HW B ah;go_wp2_with fail
    refine Z.out.mono ?_;rintro e w4 ⟨rfl,D⟩;have H:=ae D;clear Z D;go_wp2;go_ret2;exact ⟨⟨V,0,rfl,fun s' M a d h3=>⟨rfl,HX.out s' M a d h3⟩⟩,H.out⟩
 ·have c0:(t==0)=false:=by rw [beq_eq_false_iff_ne];exact c0
  have H:=ae (fun o=>D.Qb ((Kb (fun _=>False) w1).alloc o));have HN:Hid (∀s x:Nat,z=s->rs[s]? =some x->x≠0->t=0/\(0:Nat)=(fE.of (A.Qt x)).whole):=ae (fun s x a d h3=>by rw [hn s x a d h3] at c0;cases c0);clear hn hc D l q r;go_wp2;go_ret2;exact ⟨⟨0,t,rfl,HN.out⟩,H.out _⟩
end
theorem bA(n lo b:Int)(c:n<=9223372036854775807)(hp:bV n=true)(d:lo<=n)(f:n<=b)(w:World):Calls prog 90 #[(n:Int),(lo:Int),(b:Int)] w fun e w'=>e= .returned (.bool true)/\w=w':=by
 have a:=ae (jU n c true hp w)
 go_enter func90,ntmps90
 go_wp2_with fail
 refine a.out.mono ?_;rintro e w' ⟨rfl,rfl⟩;clear a c;go_wp2;go_ret;exact ⟨rfl,rfl⟩
theorem pF(n lo c:Int)(b:n<=9223372036854775807)(h:¬(bV n=true/\lo<=n/\n<=c))(w:World):Calls prog 90 #[(n:Int),(lo:Int),(c:Int)] w fun e w'=>e= .returned (.bool false)/\w=w':=by
 cases hb:bV n with
 |false=>
  have a:=ae (jU n b false hb w);clear hb h
  go_enter func90,ntmps90
  go_wp2_with fail
  refine a.out.mono ?_;rintro e w' ⟨rfl,rfl⟩;clear a b;go_wp2;go_ret;exact ⟨rfl,rfl⟩
 |true=>
  have a:=ae (jU n b true hb w);by_cases f:lo<=n
  ·have d:¬n<=c:=fun d=>h ⟨hb,f,d⟩
   clear hb h
   go_enter func90,ntmps90
   go_wp2_with fail
   refine a.out.mono ?_;rintro e w' ⟨rfl,rfl⟩;clear a b;go_wp2;go_ret;exact ⟨congrArg (fun x=>Ending.returned (.bool x)) (decide_eq_false (by omega)),rfl⟩
  ·clear hb h
   go_enter func90,ntmps90
   go_wp2_with fail
   refine a.out.mono ?_;rintro e w' ⟨rfl,rfl⟩;clear a b;go_wp2;go_ret;exact ⟨rfl,rfl⟩
def Fo(c:Cf):List Value:=[((c.kind:Int):Int),((c.Pg:Int):Int),((c.block:Int):Int),((c.Wd:Int):Int),((c.Sl:Int):Int),((c.stack:Int):Int),((c.Ah:Int):Int),.float .f64 c.Xb]
theorem rZ{c:Cf}{w:World}{b:Nat}{t:TypeId}(h:ay w b (Fo c) t):w.cell? b=some (.int .i64 (c.kind:Int))/\w.cell? ⟨b,1,none⟩=some (.int .i64 (c.Pg:Int))/\w.cell? ⟨b,2,none⟩=some (.int .i64 (c.block:Int))/\w.cell? ⟨b,3,none⟩=some (.int .i64 (c.Wd:Int))/\w.cell? ⟨b,4,none⟩=some (.int .i64 (c.Sl:Int))/\w.cell? ⟨b,5,none⟩=some (.int .i64 (c.stack:Int))/\w.cell? ⟨b,6,none⟩=some (.int .i64 (c.Ah:Int))/\w.cell? ⟨b,7,none⟩=some (.float .f64 c.Xb):=
 ⟨h.cell 0 rfl,h.cell 1 rfl,h.cell 2 rfl,h.cell 3 rfl,h.cell 4 rfl,h.cell 5 rfl,h.cell 6 rfl,h.cell 7 rfl⟩
theorem lV{c:Cf}(w:World)(f:c.kind=1\/c.kind=2\/c.kind=3)(q:1<=c.Pg)(r:c.block<=1024)(s:c.Ah<=16)(y:c.Wd<=131072):Calls prog 47 #[sy c] w fun e w'=>e= .returned (.int .i64 (c.Fs:Int))/\J7 w w':=by
 obtain ⟨W1,b⟩:∃W1,w.alloc (.cells #[((c.kind:Int):Int),((c.Pg:Int):Int),((c.block:Int):Int),((c.Wd:Int):Int),((c.Sl:Int):Int),((c.stack:Int):Int),((c.Ah:Int):Int),.float .f64 c.Xb] 24)=W1:=⟨_,rfl⟩;have m:J7 w W1:=by rw [<-b];exact (Kb _ w).alloc _
 have l:ay W1 w.heap.size (Fo c) 24:=by rw [<-b];exact ay.new w _ _
 obtain ⟨k,z,A,B,C,D,E,F⟩:=rZ l;have i:=ae m;have d:=ae (fun w'=>rK (c:=c) w' q r s);have x:¬c.Pg=0:=by omega
 have j:=aX c.Wd c.Pg;have v:IntKind.i64.wrap ((c.Wd:Int)/(c.Pg:Int))=((c.Wd/c.Pg:Nat):Int):=by
  rw [show (c.Wd:Int)/(c.Pg:Int)=((c.Wd/c.Pg:Nat):Int) from rfl];generalize c.Wd/c.Pg=X at*;rw [IntKind.wrap_i64];omega
 have g:c.spare<=20000:=by
  unfold Cf.spare;have u:max (c.block/c.Pg) 1+3<=1027:=by have:=aX c.block c.Pg;generalize c.block/c.Pg=X at*;omega
  have:=mi (show c.Ah+2<=18 by omega) u;omega
 have a:c.Fs=c.Wd/c.Pg+if c.kind=1 then c.spare else if c.kind=2 then c.Wd/c.Pg else 0:=rfl
 clear m l q r s;obtain ⟨X,t⟩:∃X,X=c.Wd/c.Pg:=⟨_,rfl⟩;rw [<-t] at v a j;generalize c.Fs=FR at*;clear t;unfold sy at d ⊢;rcases f with f|f|f
 ·rw [if_pos f] at a;rw [f] at d k b ⊢;rw [show ((1:Nat):Int)=1 from rfl] at d k b ⊢;generalize c.spare=SPA at*;have p:IntKind.i64.wrap ((X:Int)+(SPA:Int))=(FR:Int):=by rw [IntKind.wrap_i64,a];push_cast;omega
  clear a g f j
  go_enter func47,ntmps47
  go_wp2_with fail
  refine (d.out W1).mono ?_;rintro e w2 ⟨rfl,n⟩;have o:=ae (i.out.trans n J8);clear d n i;go_wp2;go_ret;exact ⟨rfl,o.out⟩
 ·rw [if_neg (by omega),if_pos f] at a;rw [f] at k b ⊢;rw [show ((2:Nat):Int)=2 from rfl] at k b ⊢;have p:IntKind.i64.wrap (2*(X:Int))=(FR:Int):=by rw [IntKind.wrap_i64,a];push_cast;omega
  clear a g f j d
  go_enter func47,ntmps47
  go_wp2;go_ret;exact ⟨rfl,i.out⟩
 ·rw [if_neg (by omega),if_neg (by omega),aP] at a;rw [f] at k b ⊢;rw [show ((3:Nat):Int)=3 from rfl] at k b ⊢;subst a;clear g f j d
  go_enter func47,ntmps47
  go_wp2;go_ret;exact ⟨rfl,i.out⟩
theorem yr{c:Cf}(d:iC c)(w:World):Calls prog 45 #[sy c] w fun e w'=>e= .returned (0:Int)/\J7 w w':=by
 obtain ⟨W1,b⟩:∃W1,w.alloc (.cells #[((c.kind:Int):Int),((c.Pg:Int):Int),((c.block:Int):Int),((c.Wd:Int):Int),((c.Sl:Int):Int),((c.stack:Int):Int),((c.Ah:Int):Int),.float .f64 c.Xb] 24)=W1:=⟨_,rfl⟩;have l:J7 w W1:=by rw [<-b];exact (Kb _ w).alloc _
 have k:ay W1 w.heap.size (Fo c) 24:=by rw [<-b];exact ay.new w _ _
 obtain ⟨y,z,A,B,C,D,E,F⟩:=rZ k;have f:=ae l;have a:=ae (lV (c:=c) W1 d.Zh d.Qp d.Yn d.Yo d.Xr);obtain ⟨kd,p1,p2,p3,o,q,r,w1,w2,w3,w4,t,u,v,x,p,s⟩:=d;have q0:(1:Int)<=(c.kind:Int):=by omega
 have G:(c.kind:Int)<=3:=by omega
 have H:(c.Pg:Int)<=(c.Wd:Int):=by omega
 have I:(1:Int)<=(c.Sl:Int):=by omega
 have J:(c.Sl:Int)<=64:=by omega
 have K:(1:Int)<=(c.stack:Int):=by omega
 have L:(c.stack:Int)<=4096:=by omega
 have M:(0:Int)<=(c.Ah:Int):=by omega
 have N:(c.Ah:Int)<=16:=by omega
 have O:¬(4096:Int)<(c.Fs:Int):=by omega
 have g:=ae (bA (c.Pg:Int) 1 256 (by omega) p1 (by omega) (by omega) W1);have i:=ae (bA (c.block:Int) 1 1024 (by omega) o (by omega) (by omega) W1);have j:=ae (bA (c.Wd:Int) 16 131072 (by omega) w1 (by omega) (by omega) W1);unfold sy at a ⊢;clear kd p1 p2 p3 o q r w1 w2 w3 w4 t u v x p s l k;generalize (c.kind:Int)=v0 at*;generalize (c.Pg:Int)=v1 at*;generalize (c.block:Int)=v2 at*;generalize (c.Wd:Int)=v3 at*;generalize (c.Sl:Int)=v4 at*;generalize (c.stack:Int)=v5 at*;generalize (c.Ah:Int)=v6 at*;generalize (c.Fs:Int)=v7 at*
 go_enter func45,ntmps45
 go_wp2_with fail
 refine g.out.mono ?_;rintro e w' ⟨rfl,rfl⟩;clear g b;go_wp2_with fail
 refine i.out.mono ?_;rintro e w' ⟨rfl,rfl⟩;clear i;go_wp2_with fail
 refine j.out.mono ?_;rintro e w' ⟨rfl,rfl⟩;clear j;go_wp2_with fail
 refine a.out.mono ?_;rintro e w2 ⟨rfl,m⟩;have n:=ae (f.out.trans m J8);clear a m f;go_wp2;go_ret;exact ⟨rfl,n.out⟩
def kF(v0 v1 v2 v3 v4 v5 v6:Int)(tr:Nat):Value:= .agg #[(v0:Int),(v1:Int),(v2:Int),(v3:Int),(v4:Int),(v5:Int),(v6:Int),.float .f64 tr]
section
variable{v0 v1 v2 v3 v4 v5 v6:Int}{tr:Nat}
theorem yC(g:v1<=9223372036854775807)(h:v2<=9223372036854775807)(i:v3<=9223372036854775807)(f:¬((1:Int)<=v0))(w:World):Calls prog 45 #[kF v0 v1 v2 v3 v4 v5 v6 tr] w fun e w'=>e= .returned (22:Int)/\J7 w w':=by
 obtain ⟨W1,b⟩:∃W1,w.alloc (.cells #[(v0:Int),(v1:Int),(v2:Int),(v3:Int),(v4:Int),(v5:Int),(v6:Int),.float .f64 tr] 24)=W1:=⟨_,rfl⟩;have c:J7 w W1:=by rw [<-b];exact (Kb _ w).alloc _
 have a:ay W1 w.heap.size [(v0:Int),(v1:Int),(v2:Int),(v3:Int),(v4:Int),(v5:Int),(v6:Int),.float .f64 tr] 24:=by rw [<-b];exact ay.new w _ _
 obtain ⟨k,l,m,n,o,p,q,r,_⟩:=Ki a;have d:=ae c;have j:decide ((1:Int)<=v0)=false:=decide_eq_false f;unfold kF;clear c a g h i f
 go_enter func45,ntmps45
 go_wp2;go_ret;exact ⟨rfl,d.out⟩
theorem yB(g:v1<=9223372036854775807)(h:v2<=9223372036854775807)(i:v3<=9223372036854775807)(j:(1:Int)<=v0)(f:¬(v0<=3))(w:World):Calls prog 45 #[kF v0 v1 v2 v3 v4 v5 v6 tr] w fun e w'=>e= .returned (22:Int)/\J7 w w':=by
 obtain ⟨W1,b⟩:∃W1,w.alloc (.cells #[(v0:Int),(v1:Int),(v2:Int),(v3:Int),(v4:Int),(v5:Int),(v6:Int),.float .f64 tr] 24)=W1:=⟨_,rfl⟩;have c:J7 w W1:=by rw [<-b];exact (Kb _ w).alloc _
 have a:ay W1 w.heap.size [(v0:Int),(v1:Int),(v2:Int),(v3:Int),(v4:Int),(v5:Int),(v6:Int),.float .f64 tr] 24:=by rw [<-b];exact ay.new w _ _
 obtain ⟨l,m,n,o,p,q,r,s,_⟩:=Ki a;have d:=ae c;have k:decide (v0<=3)=false:=decide_eq_false f;unfold kF;clear c a g h i f
 go_enter func45,ntmps45
 go_wp2;go_ret;exact ⟨rfl,d.out⟩
theorem yA(g:v1<=9223372036854775807)(i:v2<=9223372036854775807)(j:v3<=9223372036854775807)(k:(1:Int)<=v0)(c1:v0<=3)(h:¬(bV v1=true/\1<=v1/\v1<=256))(w:World):Calls prog 45 #[kF v0 v1 v2 v3 v4 v5 v6 tr] w fun e w'=>e= .returned (22:Int)/\J7 w w':=by
 obtain ⟨W1,b⟩:∃W1,w.alloc (.cells #[(v0:Int),(v1:Int),(v2:Int),(v3:Int),(v4:Int),(v5:Int),(v6:Int),.float .f64 tr] 24)=W1:=⟨_,rfl⟩;have d:J7 w W1:=by rw [<-b];exact (Kb _ w).alloc _
 have a:ay W1 w.heap.size [(v0:Int),(v1:Int),(v2:Int),(v3:Int),(v4:Int),(v5:Int),(v6:Int),.float .f64 tr] 24:=by rw [<-b];exact ay.new w _ _
 obtain ⟨l,m,n,o,p,q,r,s,_⟩:=Ki a;have f:=ae d;have c:=ae (pF v1 1 256 g h W1);unfold kF;clear d a g i j h
 go_enter func45,ntmps45
 go_wp2_with fail
 refine c.out.mono ?_;rintro e w' ⟨rfl,rfl⟩;clear c b;go_wp2;go_ret;exact ⟨rfl,f.out⟩
theorem yz(h:v1<=9223372036854775807)(i:v2<=9223372036854775807)(k:v3<=9223372036854775807)(l:(1:Int)<=v0)(c1:v0<=3)(c2:bV v1=true/\1<=v1/\v1<=256)(j:¬(bV v2=true/\1<=v2/\v2<=1024))(w:World):Calls prog 45 #[kF v0 v1 v2 v3 v4 v5 v6 tr] w fun e w'=>e= .returned (22:Int)/\J7 w w':=by
 obtain ⟨W1,b⟩:∃W1,w.alloc (.cells #[(v0:Int),(v1:Int),(v2:Int),(v3:Int),(v4:Int),(v5:Int),(v6:Int),.float .f64 tr] 24)=W1:=⟨_,rfl⟩;have f:J7 w W1:=by rw [<-b];exact (Kb _ w).alloc _
 have a:ay W1 w.heap.size [(v0:Int),(v1:Int),(v2:Int),(v3:Int),(v4:Int),(v5:Int),(v6:Int),.float .f64 tr] 24:=by rw [<-b];exact ay.new w _ _
 obtain ⟨m,n,o,p,q,r,s,t,_⟩:=Ki a;have g:=ae f;have c:=ae (bA v1 1 256 h c2.1 c2.2.1 c2.2.2 W1);have d:=ae (pF v2 1 1024 i j W1);unfold kF;clear f a h i k j c2
 go_enter func45,ntmps45
 go_wp2_with fail
 refine c.out.mono ?_;rintro e w' ⟨rfl,rfl⟩;clear c b;go_wp2_with fail
 refine d.out.mono ?_;rintro e w' ⟨rfl,rfl⟩;clear d;go_wp2;go_ret;exact ⟨rfl,g.out⟩
theorem yy(j:v1<=9223372036854775807)(k:v2<=9223372036854775807)(l:v3<=9223372036854775807)(n:(1:Int)<=v0)(c1:v0<=3)(c2:bV v1=true/\1<=v1/\v1<=256)(h:bV v2=true/\1<=v2/\v2<=1024)(m:¬(bV v3=true/\16<=v3/\v3<=131072))(w:World):Calls prog 45 #[kF v0 v1 v2 v3 v4 v5 v6 tr] w fun e w'=>e= .returned (22:Int)/\J7 w w':=by
 obtain ⟨W1,b⟩:∃W1,w.alloc (.cells #[(v0:Int),(v1:Int),(v2:Int),(v3:Int),(v4:Int),(v5:Int),(v6:Int),.float .f64 tr] 24)=W1:=⟨_,rfl⟩;have g:J7 w W1:=by rw [<-b];exact (Kb _ w).alloc _
 have a:ay W1 w.heap.size [(v0:Int),(v1:Int),(v2:Int),(v3:Int),(v4:Int),(v5:Int),(v6:Int),.float .f64 tr] 24:=by rw [<-b];exact ay.new w _ _
 obtain ⟨o,p,q,r,s,t,u,v,_⟩:=Ki a;have i:=ae g;have c:=ae (bA v1 1 256 j c2.1 c2.2.1 c2.2.2 W1);have d:=ae (bA v2 1 1024 k h.1 h.2.1 h.2.2 W1);have f:=ae (pF v3 16 131072 l m W1);unfold kF;clear g a j k l m c2 h
 go_enter func45,ntmps45
 go_wp2_with fail
 refine c.out.mono ?_;rintro e w' ⟨rfl,rfl⟩;clear c b;go_wp2_with fail
 refine d.out.mono ?_;rintro e w' ⟨rfl,rfl⟩;clear d;go_wp2_with fail
 refine f.out.mono ?_;rintro e w' ⟨rfl,rfl⟩;clear f;go_wp2;go_ret;exact ⟨rfl,i.out⟩
theorem yx(k:v1<=9223372036854775807)(l:v2<=9223372036854775807)(m:v3<=9223372036854775807)(o:(1:Int)<=v0)(c1:v0<=3)(c2:bV v1=true/\1<=v1/\v1<=256)(h:bV v2=true/\1<=v2/\v2<=1024)(i:bV v3=true/\16<=v3/\v3<=131072)(n:¬(v1<=v3))(w:World):Calls prog 45 #[kF v0 v1 v2 v3 v4 v5 v6 tr] w fun e w'=>e= .returned (22:Int)/\J7 w w':=by
 obtain ⟨W1,b⟩:∃W1,w.alloc (.cells #[(v0:Int),(v1:Int),(v2:Int),(v3:Int),(v4:Int),(v5:Int),(v6:Int),.float .f64 tr] 24)=W1:=⟨_,rfl⟩;have g:J7 w W1:=by rw [<-b];exact (Kb _ w).alloc _
 have a:ay W1 w.heap.size [(v0:Int),(v1:Int),(v2:Int),(v3:Int),(v4:Int),(v5:Int),(v6:Int),.float .f64 tr] 24:=by rw [<-b];exact ay.new w _ _
 obtain ⟨q,r,s,t,u,v,x,y,_⟩:=Ki a;have j:=ae g;have c:=ae (bA v1 1 256 k c2.1 c2.2.1 c2.2.2 W1);have d:=ae (bA v2 1 1024 l h.1 h.2.1 h.2.2 W1);have f:=ae (bA v3 16 131072 m i.1 i.2.1 i.2.2 W1);have p:decide (v1<=v3)=false:=decide_eq_false n;unfold kF;clear g a k l m n c2 h i
 go_enter func45,ntmps45
 go_wp2_with fail
 refine c.out.mono ?_;rintro e w' ⟨rfl,rfl⟩;clear c b;go_wp2_with fail
 refine d.out.mono ?_;rintro e w' ⟨rfl,rfl⟩;clear d;go_wp2_with fail
 refine f.out.mono ?_;rintro e w' ⟨rfl,rfl⟩;clear f;go_wp2;go_ret;exact ⟨rfl,j.out⟩
theorem yw(k:v1<=9223372036854775807)(l:v2<=9223372036854775807)(m:v3<=9223372036854775807)(o:(1:Int)<=v0)(c1:v0<=3)(c2:bV v1=true/\1<=v1/\v1<=256)(h:bV v2=true/\1<=v2/\v2<=1024)(i:bV v3=true/\16<=v3/\v3<=131072)(p:v1<=v3)(n:¬((1:Int)<=v4))(w:World):Calls prog 45 #[kF v0 v1 v2 v3 v4 v5 v6 tr] w fun e w'=>e= .returned (22:Int)/\J7 w w':=by
 obtain ⟨W1,b⟩:∃W1,w.alloc (.cells #[(v0:Int),(v1:Int),(v2:Int),(v3:Int),(v4:Int),(v5:Int),(v6:Int),.float .f64 tr] 24)=W1:=⟨_,rfl⟩;have g:J7 w W1:=by rw [<-b];exact (Kb _ w).alloc _
 have a:ay W1 w.heap.size [(v0:Int),(v1:Int),(v2:Int),(v3:Int),(v4:Int),(v5:Int),(v6:Int),.float .f64 tr] 24:=by rw [<-b];exact ay.new w _ _
 obtain ⟨r,s,t,u,v,x,y,z,_⟩:=Ki a;have j:=ae g;have c:=ae (bA v1 1 256 k c2.1 c2.2.1 c2.2.2 W1);have d:=ae (bA v2 1 1024 l h.1 h.2.1 h.2.2 W1);have f:=ae (bA v3 16 131072 m i.1 i.2.1 i.2.2 W1);have q:decide ((1:Int)<=v4)=false:=decide_eq_false n;unfold kF;clear g a k l m n c2 h i
 go_enter func45,ntmps45
 go_wp2_with fail
 refine c.out.mono ?_;rintro e w' ⟨rfl,rfl⟩;clear c b;go_wp2_with fail
 refine d.out.mono ?_;rintro e w' ⟨rfl,rfl⟩;clear d;go_wp2_with fail
 refine f.out.mono ?_;rintro e w' ⟨rfl,rfl⟩;clear f;go_wp2;go_ret;exact ⟨rfl,j.out⟩
theorem yv(k:v1<=9223372036854775807)(l:v2<=9223372036854775807)(m:v3<=9223372036854775807)(o:(1:Int)<=v0)(c1:v0<=3)(c2:bV v1=true/\1<=v1/\v1<=256)(h:bV v2=true/\1<=v2/\v2<=1024)(i:bV v3=true/\16<=v3/\v3<=131072)(p:v1<=v3)(q:(1:Int)<=v4)(n:¬(v4<=64))(w:World):Calls prog 45 #[kF v0 v1 v2 v3 v4 v5 v6 tr] w fun e w'=>e= .returned (22:Int)/\J7 w w':=by
 obtain ⟨W1,b⟩:∃W1,w.alloc (.cells #[(v0:Int),(v1:Int),(v2:Int),(v3:Int),(v4:Int),(v5:Int),(v6:Int),.float .f64 tr] 24)=W1:=⟨_,rfl⟩;have g:J7 w W1:=by rw [<-b];exact (Kb _ w).alloc _
 have a:ay W1 w.heap.size [(v0:Int),(v1:Int),(v2:Int),(v3:Int),(v4:Int),(v5:Int),(v6:Int),.float .f64 tr] 24:=by rw [<-b];exact ay.new w _ _
 obtain ⟨s,t,u,v,x,y,z,A,_⟩:=Ki a;have j:=ae g;have c:=ae (bA v1 1 256 k c2.1 c2.2.1 c2.2.2 W1);have d:=ae (bA v2 1 1024 l h.1 h.2.1 h.2.2 W1);have f:=ae (bA v3 16 131072 m i.1 i.2.1 i.2.2 W1);have r:decide (v4<=64)=false:=decide_eq_false n;unfold kF;clear g a k l m n c2 h i
 go_enter func45,ntmps45
 go_wp2_with fail
 refine c.out.mono ?_;rintro e w' ⟨rfl,rfl⟩;clear c b;go_wp2_with fail
 refine d.out.mono ?_;rintro e w' ⟨rfl,rfl⟩;clear d;go_wp2_with fail
 refine f.out.mono ?_;rintro e w' ⟨rfl,rfl⟩;clear f;go_wp2;go_ret;exact ⟨rfl,j.out⟩
theorem yu(k:v1<=9223372036854775807)(l:v2<=9223372036854775807)(m:v3<=9223372036854775807)(o:(1:Int)<=v0)(c1:v0<=3)(c2:bV v1=true/\1<=v1/\v1<=256)(h:bV v2=true/\1<=v2/\v2<=1024)(i:bV v3=true/\16<=v3/\v3<=131072)(p:v1<=v3)(q:(1:Int)<=v4)(r:v4<=64)(n:¬((1:Int)<=v5))(w:World):Calls prog 45 #[kF v0 v1 v2 v3 v4 v5 v6 tr] w fun e w'=>e= .returned (22:Int)/\J7 w w':=by
 obtain ⟨W1,b⟩:∃W1,w.alloc (.cells #[(v0:Int),(v1:Int),(v2:Int),(v3:Int),(v4:Int),(v5:Int),(v6:Int),.float .f64 tr] 24)=W1:=⟨_,rfl⟩;have g:J7 w W1:=by rw [<-b];exact (Kb _ w).alloc _
 have a:ay W1 w.heap.size [(v0:Int),(v1:Int),(v2:Int),(v3:Int),(v4:Int),(v5:Int),(v6:Int),.float .f64 tr] 24:=by rw [<-b];exact ay.new w _ _
 obtain ⟨t,u,v,x,y,z,A,B,_⟩:=Ki a;have j:=ae g;have c:=ae (bA v1 1 256 k c2.1 c2.2.1 c2.2.2 W1);have d:=ae (bA v2 1 1024 l h.1 h.2.1 h.2.2 W1);have f:=ae (bA v3 16 131072 m i.1 i.2.1 i.2.2 W1);have s:decide ((1:Int)<=v5)=false:=decide_eq_false n;unfold kF;clear g a k l m n c2 h i
 go_enter func45,ntmps45
 go_wp2_with fail
 refine c.out.mono ?_;rintro e w' ⟨rfl,rfl⟩;clear c b;go_wp2_with fail
 refine d.out.mono ?_;rintro e w' ⟨rfl,rfl⟩;clear d;go_wp2_with fail
 refine f.out.mono ?_;rintro e w' ⟨rfl,rfl⟩;clear f;go_wp2;go_ret;exact ⟨rfl,j.out⟩
theorem yt(k:v1<=9223372036854775807)(l:v2<=9223372036854775807)(m:v3<=9223372036854775807)(o:(1:Int)<=v0)(c1:v0<=3)(c2:bV v1=true/\1<=v1/\v1<=256)(h:bV v2=true/\1<=v2/\v2<=1024)(i:bV v3=true/\16<=v3/\v3<=131072)(p:v1<=v3)(q:(1:Int)<=v4)(r:v4<=64)(s:(1:Int)<=v5)(n:¬(v5<=4096))(w:World):Calls prog 45 #[kF v0 v1 v2 v3 v4 v5 v6 tr] w fun e w'=>e= .returned (22:Int)/\J7 w w':=by
 obtain ⟨W1,b⟩:∃W1,w.alloc (.cells #[(v0:Int),(v1:Int),(v2:Int),(v3:Int),(v4:Int),(v5:Int),(v6:Int),.float .f64 tr] 24)=W1:=⟨_,rfl⟩;have g:J7 w W1:=by rw [<-b];exact (Kb _ w).alloc _
 have a:ay W1 w.heap.size [(v0:Int),(v1:Int),(v2:Int),(v3:Int),(v4:Int),(v5:Int),(v6:Int),.float .f64 tr] 24:=by rw [<-b];exact ay.new w _ _
 obtain ⟨u,v,x,y,z,A,B,C,_⟩:=Ki a;have j:=ae g;have c:=ae (bA v1 1 256 k c2.1 c2.2.1 c2.2.2 W1);have d:=ae (bA v2 1 1024 l h.1 h.2.1 h.2.2 W1);have f:=ae (bA v3 16 131072 m i.1 i.2.1 i.2.2 W1);have t:decide (v5<=4096)=false:=decide_eq_false n;unfold kF;clear g a k l m n c2 h i
 go_enter func45,ntmps45
 go_wp2_with fail
 refine c.out.mono ?_;rintro e w' ⟨rfl,rfl⟩;clear c b;go_wp2_with fail
 refine d.out.mono ?_;rintro e w' ⟨rfl,rfl⟩;clear d;go_wp2_with fail
 refine f.out.mono ?_;rintro e w' ⟨rfl,rfl⟩;clear f;go_wp2;go_ret;exact ⟨rfl,j.out⟩
theorem wm(k:v1<=9223372036854775807)(l:v2<=9223372036854775807)(m:v3<=9223372036854775807)(o:(1:Int)<=v0)(c1:v0<=3)(c2:bV v1=true/\1<=v1/\v1<=256)(h:bV v2=true/\1<=v2/\v2<=1024)(i:bV v3=true/\16<=v3/\v3<=131072)(p:v1<=v3)(q:(1:Int)<=v4)(r:v4<=64)(s:(1:Int)<=v5)(t:v5<=4096)(n:¬((0:Int)<=v6))(w:World):Calls prog 45 #[kF v0 v1 v2 v3 v4 v5 v6 tr] w fun e w'=>e= .returned (22:Int)/\J7 w w':=by
 obtain ⟨W1,b⟩:∃W1,w.alloc (.cells #[(v0:Int),(v1:Int),(v2:Int),(v3:Int),(v4:Int),(v5:Int),(v6:Int),.float .f64 tr] 24)=W1:=⟨_,rfl⟩;have g:J7 w W1:=by rw [<-b];exact (Kb _ w).alloc _
 have a:ay W1 w.heap.size [(v0:Int),(v1:Int),(v2:Int),(v3:Int),(v4:Int),(v5:Int),(v6:Int),.float .f64 tr] 24:=by rw [<-b];exact ay.new w _ _
 obtain ⟨v,x,y,z,A,B,C,D,_⟩:=Ki a;have j:=ae g;have c:=ae (bA v1 1 256 k c2.1 c2.2.1 c2.2.2 W1);have d:=ae (bA v2 1 1024 l h.1 h.2.1 h.2.2 W1);have f:=ae (bA v3 16 131072 m i.1 i.2.1 i.2.2 W1);have u:decide ((0:Int)<=v6)=false:=decide_eq_false n;unfold kF;clear g a k l m n c2 h i
 go_enter func45,ntmps45
 go_wp2_with fail
 refine c.out.mono ?_;rintro e w' ⟨rfl,rfl⟩;clear c b;go_wp2_with fail
 refine d.out.mono ?_;rintro e w' ⟨rfl,rfl⟩;clear d;go_wp2_with fail
 refine f.out.mono ?_;rintro e w' ⟨rfl,rfl⟩;clear f;go_wp2;go_ret;exact ⟨rfl,j.out⟩
theorem wl(k:v1<=9223372036854775807)(l:v2<=9223372036854775807)(m:v3<=9223372036854775807)(p:(1:Int)<=v0)(c1:v0<=3)(c2:bV v1=true/\1<=v1/\v1<=256)(h:bV v2=true/\1<=v2/\v2<=1024)(i:bV v3=true/\16<=v3/\v3<=131072)(q:v1<=v3)(r:(1:Int)<=v4)(s:v4<=64)(t:(1:Int)<=v5)(u:v5<=4096)(o:(0:Int)<=v6)(n:¬(v6<=16))(w:World):Calls prog 45 #[kF v0 v1 v2 v3 v4 v5 v6 tr] w fun e w'=>e= .returned (22:Int)/\J7 w w':=by
 obtain ⟨W1,b⟩:∃W1,w.alloc (.cells #[(v0:Int),(v1:Int),(v2:Int),(v3:Int),(v4:Int),(v5:Int),(v6:Int),.float .f64 tr] 24)=W1:=⟨_,rfl⟩;have g:J7 w W1:=by rw [<-b];exact (Kb _ w).alloc _
 have a:ay W1 w.heap.size [(v0:Int),(v1:Int),(v2:Int),(v3:Int),(v4:Int),(v5:Int),(v6:Int),.float .f64 tr] 24:=by rw [<-b];exact ay.new w _ _
 obtain ⟨x,y,z,A,B,C,D,E,_⟩:=Ki a;have j:=ae g;have c:=ae (bA v1 1 256 k c2.1 c2.2.1 c2.2.2 W1);have d:=ae (bA v2 1 1024 l h.1 h.2.1 h.2.2 W1);have f:=ae (bA v3 16 131072 m i.1 i.2.1 i.2.2 W1);have v:decide (v6<=16)=false:=decide_eq_false n;unfold kF;clear g a k l m n c2 h i
 go_enter func45,ntmps45
 go_wp2_with fail
 refine c.out.mono ?_;rintro e w' ⟨rfl,rfl⟩;clear c b;go_wp2_with fail
 refine d.out.mono ?_;rintro e w' ⟨rfl,rfl⟩;clear d;go_wp2_with fail
 refine f.out.mono ?_;rintro e w' ⟨rfl,rfl⟩;clear f;go_wp2;go_ret;exact ⟨rfl,j.out⟩
theorem wj{c:Cf}(kd:c.kind=1\/c.kind=2\/c.kind=3)(p1:bV (c.Pg:Int)=true)(p2:1<=c.Pg)(p3:c.Pg<=256)(o:bV (c.block:Int)=true)(q:1<=c.block)(p:c.block<=1024)(w1:bV (c.Wd:Int)=true)(w2:16<=c.Wd)(w3:c.Wd<=131072)(w4:c.Pg<=c.Wd)(s:1<=c.Sl)(t:c.Sl<=64)(u:1<=c.stack)(v:c.stack<=4096)(n:c.Ah<=16)(r:¬c.Fs<=4096)(w:World):Calls prog 45 #[sy c] w fun e w'=>e= .returned (22:Int)/\J7 w w':=by
 obtain ⟨W1,b⟩:∃W1,w.alloc (.cells #[((c.kind:Int):Int),((c.Pg:Int):Int),((c.block:Int):Int),((c.Wd:Int):Int),((c.Sl:Int):Int),((c.stack:Int):Int),((c.Ah:Int):Int),.float .f64 c.Xb] 24)=W1:=⟨_,rfl⟩;have k:J7 w W1:=by rw [<-b];exact (Kb _ w).alloc _
 have j:ay W1 w.heap.size (Fo c) 24:=by rw [<-b];exact ay.new w _ _
 obtain ⟨x,y,z,A,B,C,D,E⟩:=rZ j;have d:=ae k;have a:=ae (lV (c:=c) W1 kd p2 p n w3);have q0:(1:Int)<=(c.kind:Int):=by omega
 have F:(c.kind:Int)<=3:=by omega
 have G:(c.Pg:Int)<=(c.Wd:Int):=by omega
 have H:(1:Int)<=(c.Sl:Int):=by omega
 have I:(c.Sl:Int)<=64:=by omega
 have J:(1:Int)<=(c.stack:Int):=by omega
 have K:(c.stack:Int)<=4096:=by omega
 have L:(0:Int)<=(c.Ah:Int):=by omega
 have M:(c.Ah:Int)<=16:=by omega
 have N:(4096:Int)<(c.Fs:Int):=by omega
 have f:=ae (bA (c.Pg:Int) 1 256 (by omega) p1 (by omega) (by omega) W1);have g:=ae (bA (c.block:Int) 1 1024 (by omega) o (by omega) (by omega) W1);have i:=ae (bA (c.Wd:Int) 16 131072 (by omega) w1 (by omega) (by omega) W1);unfold sy at a ⊢;clear kd p1 p2 p3 o q p w1 w2 w3 w4 s t u v n r k j;generalize (c.kind:Int)=v0 at*;generalize (c.Pg:Int)=v1 at*;generalize (c.block:Int)=v2 at*;generalize (c.Wd:Int)=v3 at*;generalize (c.Sl:Int)=v4 at*;generalize (c.stack:Int)=v5 at*;generalize (c.Ah:Int)=v6 at*;generalize (c.Fs:Int)=v7 at*
 go_enter func45,ntmps45
 go_wp2_with fail
 refine f.out.mono ?_;rintro e w' ⟨rfl,rfl⟩;clear f b;go_wp2_with fail
 refine g.out.mono ?_;rintro e w' ⟨rfl,rfl⟩;clear g;go_wp2_with fail
 refine i.out.mono ?_;rintro e w' ⟨rfl,rfl⟩;clear i;go_wp2_with fail
 refine a.out.mono ?_;rintro e w2 ⟨rfl,l⟩;have m:=ae (d.out.trans l J8);clear a l d;go_wp2;go_ret;exact ⟨rfl,m.out⟩
theorem BQ(r:v1<=9223372036854775807)(s:v2<=9223372036854775807)(t:v3<=9223372036854775807)(d:¬∃c,iC c/\kF v0 v1 v2 v3 v4 v5 v6 tr=sy c)(w:World):Calls prog 45 #[kF v0 v1 v2 v3 v4 v5 v6 tr] w fun e w'=>e= .returned (22:Int)/\J7 w w':=by
 by_cases u:(1:Int)<=v0
 case neg=>grind [yC]
 by_cases c1:v0<=3
 case neg=>grind [yB]
 by_cases c2:bV v1=true/\1<=v1/\v1<=256
 case neg=>grind [yA]
 by_cases n:bV v2=true/\1<=v2/\v2<=1024
 case neg=>grind [yz]
 by_cases o:bV v3=true/\16<=v3/\v3<=131072
 case neg=>grind [yy]
 by_cases v:v1<=v3
 case neg=>grind [yx]
 by_cases x:(1:Int)<=v4
 case neg=>grind [yw]
 by_cases y:v4<=64
 case neg=>grind [yv]
 by_cases z:(1:Int)<=v5
 case neg=>grind [yu]
 by_cases A:v5<=4096
 case neg=>grind [yt]
 by_cases l:(0:Int)<=v6
 case neg=>grind [wm]
 by_cases m:v6<=16
 case neg=>grind [wl]
 obtain ⟨n0,rfl⟩:=b8 (show 0<=v0 by omega);obtain ⟨f,rfl⟩:=b8 (show 0<=v1 by omega);obtain ⟨g,rfl⟩:=b8 (show 0<=v2 by omega);obtain ⟨h,rfl⟩:=b8 (show 0<=v3 by omega);obtain ⟨i,rfl⟩:=b8 (show 0<=v4 by omega);obtain ⟨j,rfl⟩:=b8 (show 0<=v5 by omega);obtain ⟨k,rfl⟩:=b8 (show 0<=v6 by omega);obtain ⟨c,a⟩:∃c:Cf,c=⟨n0,f,g,h,i,j,k,tr⟩:=⟨_,rfl⟩;have q:kF n0 f g h i j k tr=sy c:=by rw [a];rfl
 have p:c.kind=n0/\c.Pg=f/\c.block=g/\c.Wd=h/\c.Sl=i/\c.stack=j/\c.Ah=k:=by grind
 obtain ⟨rfl,rfl,rfl,rfl,rfl,rfl,rfl⟩:=p;have b:c.kind=1\/c.kind=2\/c.kind=3:=by omega
 by_cases hf:c.Fs<=4096
 ·exact absurd ⟨c,⟨b,c2.1,by omega,by omega,n.1,by omega,by omega,o.1,by omega,by omega,by omega,by omega,by omega,by omega,by omega,by omega,hf⟩,q⟩ d
 grind [wj]
end
end Go.Proofs.YtgnoapadkncphaaGreatDoor
