import Derived.WalkKit
import Derived.WalkSpells
import Derived.WalkLawsBesides
import Derived.WalkSmall
import Derived.Deep.QuietTactic
import Derived.BigQuiet
import Derived.StillTailTactics
import Derived.Lib.Hide
import Derived.OpenShut
import Derived.Deep.DeepCutAuto
import Derived.Deep.MidRow
import Derived.Great.Walk
import Derived.Laws.ResultCell
import Derived.Test.YthahbijbpinneaaGreatDoorRows
import Derived.Deep.Slices
import Derived.ProofKit
import Derived.Laws.Rows
import Derived.Lib.AppendZerosOnto
import Derived.Lib.SliceRun
import Derived.Laws.BitsAllLaws
import Derived.Laws.BitsLemmas
import Derived.Lib.TrailingZeros
import Derived.Lib.BitFns
import Derived.Test.YthahbijbpinneaaGreatDoorShelf
set_option maxRecDepth 100000
set_option maxHeartbeats 8000000
set_option linter.all false
namespace Go.Proofs.YthahbijbpinneaaGreatDoor
open Go.RowKit
theorem aa (l:List Value) (i:Nat) (v:Value):l.toArray.setIfInBounds i v=(l.set i v).toArray:=List.setIfInBounds_toArray _ _ _
theorem ab (x:Value) (l:List Value) (v:Value):(x::l).set 0 v=v::l:=rfl
theorem ac (x:Value) (l:List Value) (n:Nat) (v:Value):(x::l).set (n+1) v=x::l.set n v:=rfl
theorem ae {p:Prop} (h:p):Hid p:=Lib.hid h
theorem af {a b:Prop} (x:a) (y:b):a∧b:=⟨x,y⟩
instance:Coe Nat Value:=⟨fun b=>.pointer (some ⟨b,0,none⟩)⟩
structure Fr (S:Nat->Prop) (w w':World):Prop where
 os:w'.os=w.os
 tape:w'.tape=w.tape
 output:w'.output=w.output
 size:w.heap.size<=w'.heap.size
 block:∀k,k<w.heap.size->¬S k->w'.heap[k]? =w.heap[k]?
theorem Fr.refl (S:Nat->Prop) (w:World):Fr S w w:=⟨rfl,rfl,rfl,Nat.le_refl _,fun _ _ _=>rfl⟩
theorem Fr.trans {S S':Nat->Prop} {a b c:World} (h:Fr S a b) (k:Fr S' b c) (g:∀i,S' i->S i∨a.heap.size<=i):Fr S a c:=
 ⟨k.os.trans h.os,k.tape.trans h.tape,k.output.trans h.output,Nat.le_trans h.size k.size,fun i d e=>
  (k.block i (Nat.lt_of_lt_of_le d h.size) (fun f=>by rcases g i f with h|h;exact e h;omega)).trans (h.block i d e)⟩
theorem Fr.mono {S S':Nat->Prop} {a b:World} (h:Fr S a b) (f:∀i,S i->S' i∨a.heap.size<=i):Fr S' a b:=
 ⟨h.os,h.tape,h.output,h.size,fun i c e=>h.block i c (fun d=>by rcases f i d with h|h;exact e h;omega)⟩
theorem Fr.drew {S:Nat->Prop} {a w:World} (h:Fr S a w):Fr S a w.drew:=⟨h.os,h.tape,h.output,h.size,h.block⟩
theorem Fr.drewN {S:Nat->Prop} {a w:World} (h:Fr S a w) (n:Nat):Fr S a (w.drewN n):=⟨h.os,h.tape,h.output,h.size,h.block⟩
theorem Fr.alloc {S:Nat->Prop} {a w:World} (h:Fr S a w) (o:Obj):Fr S a (w.alloc o):=
 h.trans (S':=fun _=>False) ⟨rfl,rfl,rfl,by simp,fun k b _=>Below.heap_alloc _ _ _ b⟩ (fun _ h=>h.elim)
theorem Fr.setCell {S:Nat->Prop} {a w:World} (h:Fr S a w) (p:Addr) (hp:S p.block∨a.heap.size<=p.block) (u:Value):Fr S a (w.setCell p u):=
 h.trans (S':=fun k=>k=p.block) ⟨rfl,rfl,rfl,by simp [World.setCell],fun k _ c=>Below.heap_setCell _ _ _ _ c⟩ (fun i b=>by subst b;exact hp)
theorem Fr.below {w w':World} (h:Fr (fun _=>False) w w'):Below w.heap.size w w':=⟨h.os,h.tape,h.output,h.size,fun k a=>h.block k a (fun h=>h)⟩
theorem Fr.of_below {S:Nat->Prop} {w w':World} (h:Below w.heap.size w w'):Fr S w w':=⟨h.os,h.tape,h.output,h.size,fun k a _=>h.block k a⟩
theorem Fr.of_grown {w w':World} {a:Option Nat} (h:w.grownBy w' a):Fr (fun k=>a=some k) w w':=⟨h.os,h.tape,h.output,h.size,fun k b c=>h.block k b (fun e=>c e.symm)⟩
theorem Fr.heap {S:Nat->Prop} {w w':World} (h:Fr S w w') {b:Nat} {o:Obj} (a:w.heap[b]? =some o) (c:¬S b):w'.heap[b]? =some o:=
 (h.block b (Array.getElem?_eq_some_iff.1 a).1 c).trans a
theorem jl {P:Program} {e:Nat} {Q:Exit->Act->World->Prop} {a:Act} {w:World} {l:List Oper} (n:Nat) (d:P.follows .mixedOrders=true) (c:Region.lexTailB .any l.toArray n=true)
  (h:wpStill P l.toArray w.drew (fun b=>wpList P l.toArray Q (l.drop n) b w.drew) (l.take n) a):(Code.region e l.toArray true).wp P Q a w:=
 wp_region_still_tail n d c h
def aj (w:World) (b:Nat) (c:List Value) (t:TypeId):Prop:=w.heap[b]? =some (.cells c.toArray t (0,0))
theorem aj.cell {w:World} {b:Nat} {c:List Value} {t:TypeId} (h:aj w b c t) (i:Nat) {v:Value} (a:c[i]? =some v):w.cell? ⟨b,i,none⟩=some v:=by
 unfold aj at h;simp [World.cell?,h,a]
theorem aj.free {w:World} {b:Nat} {c:List Value} {t:TypeId} (h:aj w b c t) (i:Nat):w.frozen? ⟨b,i,none⟩=false:=by
 unfold aj at h;simp [World.frozen?,h]
theorem aj.lt {w:World} {b:Nat} {c:List Value} {t:TypeId} (h:aj w b c t):b<w.heap.size:=(Array.getElem?_eq_some_iff.1 h).1
theorem aj.frame {S:Nat->Prop} {w w':World} {b:Nat} {c:List Value} {t:TypeId} (h:aj w b c t) (hf:Fr S w w') (a:¬S b):aj w' b c t:=hf.heap h a
theorem aj.alloc {w:World} {b:Nat} {c:List Value} {t:TypeId} (h:aj w b c t) (o:Obj):aj (w.alloc o) b c t:=h.frame ((Fr.refl (fun _=>False) w).alloc o) (fun h=>h)
theorem aj.new (w:World) (c:List Value) (t:TypeId):aj (w.alloc (.cells c.toArray t)) w.heap.size c t:=heap_alloc_new w _
theorem aj.drew {w:World} {b:Nat} {c:List Value} {t:TypeId} (h:aj w b c t):aj w.drew b c t:=h
theorem aj.drewN {w:World} {b:Nat} {c:List Value} {t:TypeId} (h:aj w b c t) (n:Nat):aj (w.drewN n) b c t:=h
theorem aj.set {w:World} {b:Nat} {c:List Value} {t:TypeId} (h:aj w b c t) (i:Nat) (u:Value):aj (w.setCell ⟨b,i,none⟩ u) b (c.set i u) t:=by
 unfold aj at*;simp [World.setCell,Array.getElem?_modify,h]
theorem aj.setOther {w:World} {b:Nat} {c:List Value} {t:TypeId} (h:aj w b c t) (p:Addr) (u:Value) (hp:b≠p.block):aj (w.setCell p u) b c t:=by
 unfold aj at*;rw [Below.heap_setCell _ _ _ _ hp];exact h
theorem an {S:Nat->Prop} {w w':World} {Ba:Nat} {e:TypeId} {a:Nat} {v:Value} {n:Nat} {xs:List Value} (h:w.ownsRow Ba e a v n xs)
  (hf:Fr S w w') (d:∀k,v.ownBlock=some k->¬S k):w'.ownsRow Ba e a v n xs:=by
 refine ⟨h.1,?_⟩;rcases h.2 with c|⟨g,cap,cur,rfl,b,hg,r⟩
 ·exact Or.inl c
 ·exact Or.inr ⟨g,cap,cur,rfl,b,hf.heap hg (d g rfl),r⟩
theorem fL {P:Program} (w:World) (t M e:TypeId) (i:TypeInfo) (z:Value) (q:Nat) (Q:P.underlying t=some (.slice e)) (N:P.info? e=some i) (U:i.zero=some z)
  (b:i.size=1) (D:i.bytes=q) (V:z.cells.size=1)
  (v:Value) (n:Nat) (xs:List Value) (y:w.ownsRow 0 e 1 v n xs)
  (a:Addr) (c:Nat) (u:Value) (hu:w.cell? a=some u) (W:u.oneCell'=true)
  (I:n+1<=maxLen) (s:(n+1)*q<=140737488355328):
  ∃g cap w',(Builtin.append_ #[t,t] M #[v,.slice (some a) 1 c]).run P w= .ok (.slice (some ⟨g,0,none⟩) (n+1) cap) w'∧
   w'.ownsRow 0 e 1 (.slice (some ⟨g,0,none⟩) (n+1) cap) (n+1) (xs++[u])∧Fr (fun k=>v.ownBlock=some k) w w'∧(v.ownBlock=some g∨w.heap.size<=g):=by
 have J:a.add 0=a:=by cases a;simp [Addr.add]
 have l:∀j x,[u][j]? =some x->w.cell? (a.add j)=some x:=by
  intro j x O
  match j,O with
  |0,O=>simp at O;subst O;rw [J];exact hu
 by_cases B:∃g cap,v= .slice (some ⟨g,0,none⟩) n cap∧n+1<=cap
 ·obtain ⟨g,cap,rfl,G⟩:=B;obtain ⟨f,T⟩:=y;rcases T with ⟨h,_⟩|⟨g',o,cur,hv,R,hg,K,E,C,m⟩
  ·cases h
  ·cases hv
   have d:=run_append_room (P:=P) w t M e i Q N g n cap cur hg a 1 c [u] (by simp [b]) l (by intro x H;simp at H;subst H;exact W) G (by simp [b,C];omega);refine ⟨g,cap,_,d,⟨by simp [f],.inr ⟨g,cap,_,rfl,R,setRow_heap w g cur _ e _ hg,G,E,?_,?_⟩⟩,⟨rfl,rfl,rfl,by simp,fun k _ Y=>setRow_other w g k _ (fun e=>Y (by simp [Value.ownBlock,e]))⟩,.inl rfl⟩
   ·simp [b,C];omega
   ·simp only [b,Nat.mul_one] at m ⊢;rw [m];have:xs.length=n:=by simpa using f
    rw [<-this,show xs.length+1=(xs++[u]).length by simp];exact List.take_left
 ·obtain ⟨v',w',d,A,S,X⟩:=run_append_own (P:=P) w 0 t M e i z 1 q Q N U b D V (by decide) v n xs y a 1 c [u] (by simp) l (by intro x H;simp at H;subst H;exact W) I s (Nat.zero_le _);have L:∃g cap,v'= .slice (some ⟨g,0,none⟩) (n+1) cap:=by
   rcases A.2 with ⟨_,h⟩|⟨g,cap,_,h,_⟩
   ·omega
   ·exact ⟨g,cap,h⟩
  obtain ⟨g,cap,rfl⟩:=L;refine ⟨g,cap,w',d,A,Fr.of_grown S,.inr ?_⟩;obtain ⟨f,T⟩:=y;rcases T with ⟨rfl,rfl⟩|⟨g',o,cur,rfl,R,hg,K,E,C,m⟩
  ·have H:xs=[]:=List.eq_nil_of_length_eq_zero (by simpa using f);have G:=run_append_nil (P:=P) w t M e i z Q N U a 1 c [u] (by simp [b]) l (by omega) (by omega) (by rw [D];omega);rw [G] at d;have:=congrArg (fun r:Result Value=>match r with| .ok (.slice (some p) _ _) _=>p.block|_=>0) d;simp at this;omega
  ·have Z:¬n+1<=o:=fun h=>B ⟨g',o,rfl,h⟩
   have F:∀j u,xs[j]? =some u->w.cell? ((⟨g',0,none⟩:Addr).add j)=some u:=(show w.ownsRow 0 e 1 _ n xs from ⟨f,.inr ⟨g',o,cur,rfl,R,hg,K,E,C,m⟩⟩).cells (g:=g') rfl;have G:=run_append_grow (P:=P) w t M e i z Q N U ⟨g',0,none⟩ n o xs (by simp [f,b]) F a 1 c [u] (by simp [b]) l (by omega) (by simp only [maxLen] at I;omega) (growslice_fits (by omega) (by rw [D];exact s));rw [G] at d;have:=congrArg (fun r:Result Value=>match r with| .ok (.slice (some p) _ _) _=>p.block|_=>0) d;simp at this;omega
theorem bL {P:Program} {w:World} {l:Array Oper} {rest:List Oper} {o:Oper} {a:Act} {Q:Exit->Act->World->Prop} (r:o.guard=none) (s x:Operand) (t:TypeId)
  (G:o.op= .call {callee:= .builtin .append,args:= #[s,x],argTypes:= #[t,t]})
  (e:TypeId) (i:TypeInfo) (z:Value) (b:Nat) (J:P.underlying t=some (.slice e)) (F:P.info? e=some i) (N:i.zero=some z)
  (f:i.size=1) (q:i.bytes=b) (y:z.cells.size=1)
  (v:Value) (n:Nat) (xs:List Value) (I:a.eval s=v) (j:w.ownsRow 0 e 1 v n xs)
  (m:Addr) (c:Nat) (u:Value) (M:a.eval x= .slice (some m) 1 c) (L:w.cell? m=some u) (A:u.oneCell'=true)
  (p:n+1<=maxLen) (d:(n+1)*b<=140737488355328)
  (h:∀g cap w',w'.ownsRow 0 e 1 (.slice (some ⟨g,0,none⟩) (n+1) cap) (n+1) (xs++[u])->Fr (fun k=>v.ownBlock=some k) w w'->(v.ownBlock=some g∨w.heap.size<=g)->
   wpList P l Q rest (a.put o.dst (.slice (some ⟨g,0,none⟩) (n+1) cap)) w'):wpList P l Q (o::rest) a w:=by
 refine wpList_plain r fun K E=> ?_
 obtain ⟨g,cap,w',H,B,C,D⟩:=fL (P:=P) w t o.type e i z b J F N f q y v n xs j m c u L A p d;unfold Oper.wp execOp;simp only [G,resolve,invoke,builtin,Sem.run_bind,Sem.run_pure,Result.andThen_ok,List.map_toArray,List.map_cons,List.map_nil,I,M,H];exact E _ _ (h g cap w' B C D)
theorem aD {w:World} {a:Addr} {v:Value} (h:w.cell? a=some v):a.block<w.heap.size:=World.block_lt_of_cell? w a h
inductive Sc where
 |int (k:IntKind)
 |bool
 |float (k:FloatKind)
 |str
def Sc.ok:Sc->Value->Prop
 | .int k,v=>∃n,v= .int k n∧(Lit.int k n).wf=true
 | .bool,v=>∃b,v= .bool b
 | .float k,v=>∃b,v= .float k b∧(Lit.float k b).wf=true
 | .str,v=>∃s:ByteArray,v= .string s∧s.size<=maxLen
def dO (P:Program) (rec:TypeId->Option (List Sc)):Nat->List Field->Option (List Sc)
 |_,[]=>some []
 |off,f::fs=>if f.offset=off then
   match rec f.type with
   |some l=>if l.length=P.cellsOf f.type then (dO P rec (off+l.length) fs).map (l++ ·) else none
   |none=>none
  else none
def sr (P:Program):Nat->TypeId->Option (List Sc)
 |0,_=>none
 |d+1,t=>
  match P.underlying t with
  |some .bool=>some [.bool]
  |some (.int k)=>some [.int k]
  |some (.float k)=>some [.float k]
  |some .string=>some [.str]
  |some (.struct fs)=>(dO P (sr P d) 0 fs.toList).bind fun l=>if l.length=P.cellsOf t then some l else none
  |some (.array n e)=>(sr P d e).bind fun l=>if l.length=P.cellsOf e∧n*l.length=P.cellsOf t then some (List.replicate n l).flatten else none
  |_=>none
def cq:List Sc->List Value->Prop
 |[],[]=>True
 |s::L,v::cs=>s.ok v∧cq L cs
 |_,_=>False
theorem cq.append:∀{L M:List Sc} {cs a:List Value},cq L cs->cq M a->cq (L++M) (cs++a)
 |[],_,[],_,_,h2=>h2
 |_::_,_,_::_,_,h1,h2=>⟨h1.1,cq.append h1.2 h2⟩
 |[],_,_::_,_,h,_=>h.elim
 |_::_,_,[],_,h,_=>h.elim
section
variable {H:Type} {enc:TypeId×Value->H} {P:Program} {w:World} {Ba:Nat} {spare:Nat->Bool} {held:Bool}
theorem gu (b:TypeId->Option (List Sc)) (n:Nat) (a:∀t L cs x,b t=some L->DataW.trod enc P w Ba spare held n t cs=some x->cq L cs) (cs:List Value):
  ∀(c:List Field) (off:Nat) (L:List Sc),dO P b off c=some L->off+L.length=cs.length->
   (∀f∈c,∃y,DataW.trod enc P w Ba spare held n f.type ((cs.drop f.offset).take (P.cellsOf f.type))=some y)->cq L (cs.drop off)
 |[],off,L,h,hl,_=>by
  simp only [dO,Option.some.injEq] at h;subst h;have:cs.drop off=[]:=List.drop_eq_nil_of_le (by simp at hl;omega);rw [this];trivial
 |f::c,off,L,h,hl,hf=>by
  unfold dO at h;split at h
  ·rename_i m;split at h
   ·rename_i l o;split at h
    ·rename_i k;simp only [Option.map_eq_some_iff] at h;obtain ⟨M,j,rfl⟩:=h;obtain ⟨y,d⟩:=hf f (by simp);rw [m,<-k] at d;have e:=a _ _ _ _ o d;have i:=gu b n a cs c (off+l.length) M j (by simp at hl;omega) (fun g hg=>hf g (by simp [hg]));have:=e.append i;rwa [<-List.drop_drop,List.take_append_drop] at this
    ·cases h
   ·cases h
  ·cases h
theorem nJ (n:Nat) (l:List Sc) (a:0<l.length):∀(k:Nat) (cs:List Value),cs.length=k*l.length->(∀i,i<k->cq l ((cs.drop (i*l.length)).take l.length))->cq (List.replicate k l).flatten cs
 |0,cs,hl,_=>by
  have:cs=[]:=List.eq_nil_of_length_eq_zero (by simpa using hl);subst this;trivial
 |k+1,cs,hl,h=>by
  rw [List.replicate_succ,List.flatten_cons];have b:=h 0 (by omega);simp only [Nat.zero_mul,List.drop_zero] at b;have c:=nJ n l a k (cs.drop l.length) (by rw [List.length_drop,hl,Nat.succ_mul];omega) (fun i d=>by
   have:=h (i+1) (by omega);rw [List.drop_drop];rwa [show l.length+i*l.length=(i+1)*l.length by rw [Nat.succ_mul];omega])
  have:=b.append c;rwa [List.take_append_drop] at this
theorem iZ:∀(d:Nat) (t:TypeId) (L:List Sc),sr P d t=some L->∀fuel cs x,DataW.trod enc P w Ba spare held fuel t cs=some x->cq L cs
 |0,_,_,h,_,_,_,_=>by cases h
 |d+1,t,L,h,fuel,cs,x,b=>by
  unfold sr at h;split at h
  ·rename_i c;simp only [Option.some.injEq] at h;subst h
   cases fuel with
   |zero=>simp [DataW.trod] at b
   |succ n=>
    unfold DataW.trod at b;rw [c] at b;split at b<;>simp_all [cq,Sc.ok]
  ·rename_i k c;simp only [Option.some.injEq] at h;subst h;obtain ⟨n,rfl,_,A⟩:=DataW.trod_int c b;exact ⟨⟨n,rfl,A⟩,trivial⟩
  ·rename_i k c;simp only [Option.some.injEq] at h;subst h
   cases fuel with
   |zero=>simp [DataW.trod] at b
   |succ n=>
    unfold DataW.trod at b;rw [c] at b;split at b<;>simp_all [cq,Sc.ok]
  ·rename_i c;simp only [Option.some.injEq] at h;subst h;obtain ⟨s,rfl,_,A⟩:=DataW.trod_string c b;exact ⟨⟨s,rfl,A⟩,trivial⟩
  ·rename_i B c;simp only [Option.bind_eq_some_iff] at h;obtain ⟨l,r,g⟩:=h;split at g
   ·rename_i a;simp only [Option.some.injEq] at g;subst g;obtain ⟨xs,n,rfl,_,q,o,hf⟩:=DataW.trod_struct c b;have:=gu (sr P d) n (fun t L cs x h b=>iZ d t L h n cs x b) cs B.toList 0 l r (by rw [q];omega) (fun f v=>by
     obtain ⟨i,y⟩:=List.getElem?_of_mem v;have hi':B[i]? =some f:=by simpa using y
     have j:i<xs.length:=by rw [o];exact (Array.getElem?_eq_some_iff.1 hi').1
     exact ⟨xs[i],by rw [hf i f hi'];simp [j]⟩)
    simpa using this
   ·cases g
  ·rename_i n e c;simp only [Option.bind_eq_some_iff] at h;obtain ⟨l,r,g⟩:=h;split at g
   ·rename_i a;simp only [Option.some.injEq] at g;subst g;obtain ⟨xs,m,rfl,_,q,o,hf⟩:=DataW.trod_array c b;rcases Nat.eq_zero_or_pos l.length with p|p
    ·have z:l=[]:=List.eq_nil_of_length_eq_zero p;have u:cs=[]:=List.eq_nil_of_length_eq_zero (by rw [q,<-a.2,p];simp);subst z;subst u;rw [show (List.replicate n ([]:List Sc)).flatten=[] by simp];trivial
    ·refine nJ n l p n cs (by rw [q];exact a.2.symm) (fun i y=> ?_);have:=hf i y;rw [<-a.1] at this;have j:i<xs.length:=by omega
     rw [show xs[i]? =some xs[i] by simp [j]] at this;exact iZ d e l r m _ _ this
   ·cases g
  ·cases h
theorem cO {r:Reach} {g:Nat} {t:TypeId} {d:Nat} {L:List Sc} {v:Value} {x:DataW H} {ps:List MemPlace} (b:Value.okWide P w r g t v) (a:(∃c,P.underlying t=some (.struct c))∨∃n e,P.underlying t=some (.array n e))
  (hf:sr P d t=some L) (h:DataW.Trod enc P w Ba spare held t v x ps):∃cs,v= .agg cs.toArray∧cq L cs:=by
 have:∃cs,v= .agg cs:=by
  unfold Value.okWide at b;rcases a with ⟨c,f⟩|⟨n,e,f⟩<;>rw [f] at b<;>obtain ⟨cs,h,_⟩:=b<;>exact ⟨cs,h⟩
 obtain ⟨cs,rfl⟩:=this;obtain ⟨fuel,h⟩:=h;exact ⟨cs.toList,by simp,iZ d t L hf fuel _ _ h⟩
end
section
variable {P:Program} {ops:Array Oper} {md:Region.Mode} {C:World->Prop}
def gL (P:Program) (md:Region.Mode) (ops:Array Oper) (C:World->Prop) (n:Nat) (L:Array Bool->Act->Prop):Nat->Array Bool->Act->Prop
 |0,listed,a=>L listed a
 |f+1,listed,a=>Region.ready md ops listed≠[]∧∀i∈Region.ready md ops listed,i<n∧qOp P ops C i (gL P md ops C n L f (listed.setIfInBounds i true)) a
theorem eD {n g:Nat} {L:Array Bool->Act->Prop} {Q':Exit->Act->World->Prop} (d:∀b a w,C w->L b a->wpAny P md ops Q' g b a w):
  ∀(f:Nat) (b:Array Bool) (a:Act) (w:World),C w->gL P md ops C n L f b a->wpAny P md ops Q' (f+g) b a w
 |0,b,a,w,hw,h=>by rw [Nat.zero_add];exact d _ _ _ hw h
 |f+1,b,a,w,hw,h=>by
  rw [show f+1+g=(f+g)+1 by omega];exact ⟨fun k=>absurd k h.1,fun i l=>wpOp_of_qOp hw (fun e w' c j=>eD d f _ e w' c j) (h.2 i l).2⟩
theorem kM {n i:Nat} {z:Oper} {v:Value} {L:Array Bool->Act->Prop} (J:ops[i]? =some z) (t:∀(j:Nat) (o:Oper) cs b,ops[j]? =some o->o.op≠ .select cs b)
  (R:Region.sinkB md ops n=true) (O:Region.chainB md ops n=true) (Q:n<ops.size) (B:i<n)
  (u:∀c a,L c a->∀j∈Region.ready md ops c,n<=j):
  ∀(f:Nat) (c:Array Bool) (a:Act),HeadInv md ops n c->
   (∀j y,ops[j]? =some y->j≠i->c.getD j true=false->(∀e∈y.after,Region.binds md e=true->e.on≠i)->z.apart ops y=true)->
   i∈Region.ready md ops c->YieldsIn P ops C z v a->
   gL P md ops C n L f (c.setIfInBounds i true) (a.put z.dst v)->gL P md ops C n L (f+1) c a:=by
 intro f
 induction f with
 |zero=>
  intro c a q _ s G H;have g:=(mem_ready.1 s).1;refine ⟨fun h=>(by rw [h] at s;cases s),fun j w=> ?_⟩;have p:j<n:=by
   rcases Nat.lt_or_ge j n with h|h
   ·exact h
   ·exact absurd w (tail_waits R O Q q _ i rfl B g j h)
  refine ⟨p,?_⟩;by_cases d:j=i
  ·subst d;exact G.qOp J H
  ·have:=u _ _ H j (ready_mono w d);omega
 |succ f ih=>
  intro c a q l s G H;have g:=(mem_ready.1 s).1;refine ⟨fun h=>(by rw [h] at s;cases s),fun j w=> ?_⟩;have p:j<n:=by
   rcases Nat.lt_or_ge j n with h|h
   ·exact h
   ·exact absurd w (tail_waits R O Q q _ i rfl B g j h)
  refine ⟨p,?_⟩;by_cases d:j=i
  ·subst d;exact G.qOp J H
  ·have F:=(H.2 j (ready_mono w d)).2;obtain ⟨r,y,x,A⟩:=mem_ready.1 w;have E:∀e∈y.after,Region.binds md e=true->e.on≠i:=fun e V U I=>by
    have F:=A e V U;rw [I,getD_both g] at F
    cases F
   have T:=qOp_put x (l j y x d r E) (fun cs b=>t i z cs b J) (fun cs b=>t j y cs b x) G F;have m:∀k ok,ops[k]? =some ok->k≠i->(c.setIfInBounds j true).getD k true=false->
     (∀e∈ok.after,Region.binds md e=true->e.on≠i)->z.apart ops ok=true:=fun k ok W K g M=>by
    refine l k ok W K ?_ M;by_cases D:j=k
    ·subst D;exact r
    ·rw [getD_set_ne true D] at g;exact g
   refine qOp_mono (fun S N=>ih (c.setIfInBounds j true) S (q.set w p) m (ready_mono s (Ne.symm d)) N.1 ?_) T;rw [Array.setIfInBounds_comm _ _ d];exact N.2
theorem jd {n g:Nat} {m:Act->Prop} (d:Region.noSelect ops=true) (u:Region.sinkB md ops n=true) (s:Region.chainB md ops n=true) (t:n<ops.size):
  ∀(l:List Oper) (k:Nat) (b:Array Bool) (a:Act),(∀j,j<l.length->l[j]? =ops[k+j]?)->k+l.length=n->HeadInv md ops n b->
  Region.lexHead md ops g l.length k b=true->wpQuiet P ops C m l a->
  gL P md ops C n (fun c r=>Region.seqB md ops g n c=true∧m r) l.length b a
 |[],k,b,a,_,hk,_,hB,h=>by
  have:k=n:=by simpa using hk
  subst this;exact ⟨by simpa [Region.lexHead] using hB,h⟩
 |o::l,k,b,a,hl,hk,inv,hB,h=>by
  have i:ops[k]? =some o:=by simpa using (hl 0 (by simp)).symm
  simp only [List.length_cons,Region.lexHead,Bool.and_eq_true] at hB;obtain ⟨⟨y,hf⟩,p⟩:=hB;have e:k<n:=by simp only [List.length_cons] at hk;omega
  have f:k∈Region.ready md ops b:=by simpa using y
  have q:qOp P ops C k (wpQuiet P ops C m l) a:=by unfold qOp;simp only [i];exact h
  obtain ⟨v,z,w⟩:=yieldsIn_of_qOp i q;exact kM i (Region.noSelect_spec d) u s t e (fun c r x=>seqB_ready x.1) l.length b a inv (Region.free_spec i hf) f z
   (jd d u s t l (k+1) _ _ (fun j A=>by have:=hl (j+1) (by simp;omega);simpa [Nat.add_assoc,Nat.add_comm 1 j] using this) (by simp only [List.length_cons] at hk;omega) (inv.set f e) p w)
theorem aA {D:Nat} {Q:Exit->Act->World->Prop} {a:Act} {w:World} {l:List Oper} (C:World->Prop) (n:Nat) (x:P.follows .mixedOrders=true) (o:Region.lexTailB .any l.toArray n=true) (u:C w.drew)
  (h:wpQuiet P l.toArray C (fun k=>∀w',C w'->wpList P l.toArray Q (l.drop n) k w') (l.take n) a):(Code.region D l.toArray true).wp P Q a w:=by
 simp only [Region.lexTailB,Bool.and_eq_true,decide_eq_true_eq] at o;obtain ⟨⟨⟨⟨f,s⟩,z⟩,v⟩,e⟩:=o;have y:n<l.length:=by simpa using s
 have b:(l.take n).length=n:=by simp;omega
 have d:(l.drop n).length=l.toArray.size-n:=by simp
 have i:HeadInv .any l.toArray n (Array.replicate l.toArray.size false):=
  ⟨by simp,fun j E _ r=>(by rw [getD_replicate_false] at r;cases r),fun t _ A=>getD_in (by simpa using A) (getD_replicate_false _ _)⟩
 have H:=jd (md:= .any) (g:=l.toArray.size-n) f z v s (l.take n) 0 _ a (fun j q=>by
  have m:j<n:=by rw [b] at q;exact q
  simp [m]) (by simpa using b) i (by rw [b];exact e) h
 refine wp_region_any x ?_;have:=eD (Q':=Q) (g:=l.toArray.size-n) (fun c k w' B p=>by
  have:=wpAny_of_seq (md:= .any) (Q':=Q) (l.drop n) n c k w' (fun j=>by simp [List.getElem?_drop]) (by rw [d];exact p.1) (p.2 w' B);rwa [d] at this) _ _ _ _ u H
 rw [b,show n+(l.toArray.size-n)=l.toArray.size by omega] at this;exact this
theorem au {f:Nat} {Q:Exit->Act->World->Prop} {a:Act} {w:World} {l:List Oper} (C:World->Prop) (e:P.follows .mixedOrders=true) (c:Region.lexB .any l.toArray=true) (d:C w.drew)
  (h:wpQuiet P l.toArray C (fun b=>∀w',C w'->Q .normal b w') l a):(Code.region f l.toArray true).wp P Q a w:=
 wp_region_quiet (C:=C) e c d (by simpa using h)
variable {Q:Act->Prop} {a:Act} {o:Oper} {rest:List Oper}
theorem ag (v:Value) (hg:o.guard=none) (b:∀w,C w->(execOp a.eval o).run P w= .ok (.value v) w) (h:wpQuiet P ops C Q rest (a.put o.dst v)):wpQuiet P ops C Q (o::rest) a:=by
 unfold wpQuiet;rw [if_pos (by unfold Region.wanted;rw [hg])];exact ⟨v,fun w c=>by unfold Oper.quietAt;rw [b w c];exact ⟨rfl,rfl⟩,h⟩
theorem al (v:Value) (hg:Region.wanted o (yielded ops a.tmps)=true) (b:∀w,C w->(execOp a.eval o).run P w= .ok (.value v) w) (h:wpQuiet P ops C Q rest (a.put o.dst v)):wpQuiet P ops C Q (o::rest) a:=by
 unfold wpQuiet;rw [if_pos hg];exact ⟨v,fun w c=>by unfold Oper.quietAt;rw [b w c];exact ⟨rfl,rfl⟩,h⟩
theorem az (v:Value) (f:FuncId) (args:Array Value) (hg:o.guard=none) (c:∀w,(execOp a.eval o).run P w= .ok (.enter f args) w) (b:∀w,C w->Calls P f args w fun e w'=>e= .returned v∧C w')
  (h:wpQuiet P ops C Q rest (a.put o.dst v)):wpQuiet P ops C Q (o::rest) a:=by
 unfold wpQuiet;rw [if_pos (by unfold Region.wanted;rw [hg])];exact ⟨v,fun w d=>by unfold Oper.quietAt;rw [c w];exact ⟨rfl,b w d⟩,h⟩
theorem cS (v:Value) (f:FuncId) (args:Array Value) (hg:Region.wanted o (yielded ops a.tmps)=true) (c:∀w,(execOp a.eval o).run P w= .ok (.enter f args) w) (b:∀w,C w->Calls P f args w fun e w'=>e= .returned v∧C w')
  (h:wpQuiet P ops C Q rest (a.put o.dst v)):wpQuiet P ops C Q (o::rest) a:=by
 unfold wpQuiet;rw [if_pos hg];exact ⟨v,fun w d=>by unfold Oper.quietAt;rw [c w];exact ⟨rfl,b w d⟩,h⟩
theorem dI {b:TypeId} {x:Operand} (f:o.op= .load b x) (g:Nat) (i:a.eval x= .pointer (some ⟨g,0,none⟩)) (t:TypeId) (cs:Array Value) (fr:Nat×Nat) (d:TypeDesc) {w:World}
  (hg:w.heap[g]? =some (.cells cs t fr)) (h:P.underlying b=some d) (c:(match d with| .struct _| .array _ _=>true|_=>false)=true) (e:(P.info? b).map (·.size)=some cs.size):
  (execOp a.eval o).run P w= .ok (.value (.agg cs)) w:=by
 unfold execOp;simp only [f,i,Instr.loadAt,Instr.sureAddr,Sem.run_bind,Sem.run_pure,Result.andThen_ok,run_loadVar_row w g t b cs fr d hg h c e]
end
theorem dA {P:Program} {l:Array Oper} {o:Oper} {a:Act} {w:World} {K:Act->World->Prop} {Q:Exit->Act->World->Prop} {E:Prop} (q:o.guard=none) (s x:Operand) (t:TypeId)
  (F:o.op= .call {callee:= .builtin .append,args:= #[s,x],argTypes:= #[t,t]})
  (e:TypeId) (i:TypeInfo) (z:Value) (b:Nat) (I:P.underlying t=some (.slice e)) (D:P.info? e=some i) (N:i.zero=some z)
  (f:i.size=1) (p:i.bytes=b) (r:z.cells.size=1)
  (v:Value) (k:Nat) (xs:List Value) (H:a.eval s=v) (j:w.ownsRow 0 e 1 v k xs)
  (m:Addr) (c:Nat) (u:Value) (M:a.eval x= .slice (some m) 1 c) (J:w.cell? m=some u) (y:u.oneCell'=true)
  (n:k+1<=maxLen) (d:(k+1)*b<=140737488355328)
  (h:∀g cap w',w'.ownsRow 0 e 1 (.slice (some ⟨g,0,none⟩) (k+1) cap) (k+1) (xs++[u])->Fr (fun k=>v.ownBlock=some k) w w'->(v.ownBlock=some g∨w.heap.size<=g)->
   K (a.put o.dst (.slice (some ⟨g,0,none⟩) (k+1) cap)) w'):if Region.wanted o (yielded l a.tmps)=true then Oper.wp P o a w K Q else E:=by
 have L:Region.wanted o (yielded l a.tmps)=true:=by simp [Region.wanted,q]
 rw [if_pos L];obtain ⟨g,cap,w',G,A,B,C⟩:=fL (P:=P) w t o.type e i z b I D N f p r v k xs j m c u J y n d;unfold Oper.wp;simp only [execOp,F,resolve,invoke,builtin,Sem.run_bind,Sem.run_pure,Result.andThen_ok,List.map_toArray,List.map_cons,List.map_nil,H,M,G];exact h g cap w' A B C
theorem kD (z:Value) (a:z.cells= #[z]) (n:Nat):(Builtin.zeroCells z.cells n).toList=List.replicate n z:=by
 rw [a];simp [Builtin.zeroCells];apply List.ext_getElem
 ·simp
 ·intro i b c;simp [Nat.mod_one]
theorem iW {P:Program} (w:World) (t G H e:TypeId) (i:TypeInfo) (z:Value) (U:IntKind) (f:Nat) (Q:P.underlying t=some (.slice e)) (x:P.underlying G=some (.int U)) (M:P.info? e=some i) (R:i.zero=some z)
  (m:i.size=1) (J:i.bytes=f) (y:z.cells= #[z]) (T:z.oneCell'=true)
  (v:Value) (n:Nat) (xs:List Value) (a:w.ownsRow 0 e 1 v n xs) (k:Nat) (V:0<k) (B:n+k<=maxLen) (o:(n+k)*f<=140737488355328):
  ∃g cap w',(Builtin.append_ #[t,G] H #[v,.int .i64 k]).run P w= .ok (.slice (some ⟨g,0,none⟩) (n+k) cap) w'∧
   w'.ownsRow 0 e 1 (.slice (some ⟨g,0,none⟩) (n+k) cap) (n+k) (xs++List.replicate k z)∧Fr (fun k=>v.ownBlock=some k) w w'∧(v.ownBlock=some g∨w.heap.size<=g):=by
 subst J;have c:(xs++List.replicate k z).length=(n+k)*1:=by rw [List.length_append,a.1,List.length_replicate];omega
 have X:n+k<=9223372036854775807:=by simp only [maxLen] at B;omega
 have C:k*i.bytes<=281474976710656:=Nat.le_trans (Nat.mul_le_mul_right _ (Nat.le_add_left k n)) (by omega);have h:∀(b:Nat) (cs:Array Value),cs.toList=xs->∀S:Nat->Prop,
   (w.drew.alloc (.cells (cs++Builtin.zeroCells z.cells k++Builtin.zeroCells z.cells (grownCap w (n+k) b e-(n+k))) e)).ownsRow 0 e 1
    (.slice (some ⟨w.heap.size,0,none⟩) (n+k) (grownCap w (n+k) b e)) (n+k) (xs++List.replicate k z)∧
   Fr S w (w.drew.alloc (.cells (cs++Builtin.zeroCells z.cells k++Builtin.zeroCells z.cells (grownCap w (n+k) b e-(n+k))) e)):=by
  intro b cs p S;have L:=grownCap_ge w (n+k) b e;have q:grownCap w (n+k) b e<=maxLen:=grownCap_le_maxLen w (n+k) b e B;have O:cs.size=n:=by rw [<-Array.length_toList,p,a.1];omega
  refine ⟨⟨c,.inr ⟨w.heap.size,_,_,rfl,Nat.zero_le _,heap_alloc_new w.drew _,L,q,?_,?_⟩⟩,((Fr.refl S w).drew).alloc _⟩
  ·simp only [Array.size_append,size_zeroCells,O];rw [y];simp;omega
  ·simp only [Array.toList_append,kD z y,p];rw [<-c];exact List.take_left
 rcases id a.2 with ⟨rfl,rfl⟩|⟨g,cap,cur,rfl,I,hg,Y,q,p,s⟩
 ·have hx:xs=[]:=List.eq_nil_of_length_eq_zero (by simpa using a.1);subst hx;have E:=Lib.run_append_nil_zeros (P:=P) w t G H e i z .i64 U Q x M R k V (by omega) (by omega) C;have d:=h 0 #[] rfl;simp only [Nat.zero_add,Array.empty_append] at d ⊢;exact ⟨_,_,_,E,(d (fun _=>False)).1,(d _).2,.inr (Nat.le_refl _)⟩
 ·by_cases l:n+k<=cap
  ·have F:=run_storeCells_at P g n e (List.replicate k z) 0 cur w hg (by rw [List.length_replicate,p];omega) (fun u Z=>by rw [List.eq_of_mem_replicate Z];exact T);have N:k≠0:=by omega
   have hw:IntKind.i64.wrap (k:Int)=k:=by rw [IntKind.wrap_i64];omega
   have D:¬((k:Int)<0):=by omega
   have A:¬(281474976710656<(k:Int)*(i.bytes:Int)):=by rw [<-Int.natCast_mul];omega
   have E:(Builtin.append_ #[t,G] H #[.slice (some ⟨g,0,none⟩) n cap,.int .i64 k]).run P w= .ok (.slice (some ⟨g,0,none⟩) (n+k) cap) (w.setRow g (cur.toList.take n++List.replicate k z++cur.toList.drop (n+(List.replicate k z).length)).toArray):=by
    simp only [Nat.add_zero] at F;simp [Builtin.append_,run_underlying Q,run_underlying x,sizeOf,typeInfo,zeroValue,M,R,asInt,asIntOf,hw,D,A,l,N,m,Addr.add_lit,kD z y,F]
   refine ⟨g,cap,_,E,⟨c,.inr ⟨g,cap,_,rfl,I,setRow_heap w g cur _ e _ hg,l,q,?_,?_⟩⟩,⟨rfl,rfl,rfl,by simp,fun k _ W=>setRow_other w g k _ (fun e=>W (by simp [Value.ownBlock,e]))⟩,.inl rfl⟩
   ·simp only [List.size_toArray,List.length_append,List.length_take,List.length_drop,Array.length_toList,List.length_replicate];omega
   ·have:cur.toList.take n=xs:=by rw [<-s,Nat.mul_one]
    rw [this,<-c];exact List.take_left
  ·have r:∀j u,xs[j]? =some u->w.cell? ((⟨g,0,none⟩:Addr).add j)=some u:=a.cells (g:=g) rfl;have K:=run_firstCells_some (P:=P) w.drew i.size n ⟨g,0,none⟩ n cap xs (by rw [a.1,m]) r;have E:=Lib.run_append_grow_zeros (P:=P) w t G H e i z .i64 U Q x M R (some ⟨g,0,none⟩) n cap xs K k V (by omega) (by omega) (by omega) C (growslice_fits (by omega) o);have d:=h cap xs.toArray rfl;exact ⟨_,_,_,E,(d (fun _=>False)).1,(d _).2,.inr (Nat.le_refl _)⟩
theorem ee {P:Program} {j:Array Oper} {o:Oper} {a:Act} {w:World} {K:Act->World->Prop} {Q:Exit->Act->World->Prop} {E:Prop} (q:o.guard=none) (s x:Operand) (t l:TypeId)
  (H:o.op= .call {callee:= .builtin .append,args:= #[s,x],argTypes:= #[t,l]})
  (e:TypeId) (i:TypeInfo) (z:Value) (A:IntKind) (b:Nat) (L:P.underlying t=some (.slice e)) (r:P.underlying l=some (.int A)) (G:P.info? e=some i) (O:i.zero=some z)
  (d:i.size=1) (p:i.bytes=b) (y:z.cells= #[z]) (u:z.oneCell'=true)
  (v:Value) (n:Nat) (xs:List Value) (J:a.eval s=v) (f:w.ownsRow 0 e 1 v n xs) (k:Nat) (N:a.eval x= .int .i64 k) (B:0<k) (m:n+k<=maxLen) (c:(n+k)*b<=140737488355328)
  (h:∀g cap w',w'.ownsRow 0 e 1 (.slice (some ⟨g,0,none⟩) (n+k) cap) (n+k) (xs++List.replicate k z)->Fr (fun k=>v.ownBlock=some k) w w'->(v.ownBlock=some g∨w.heap.size<=g)->
   K (a.put o.dst (.slice (some ⟨g,0,none⟩) (n+k) cap)) w'):if Region.wanted o (yielded j a.tmps)=true then Oper.wp P o a w K Q else E:=by
 have M:Region.wanted o (yielded j a.tmps)=true:=by simp [Region.wanted,q]
 rw [if_pos M];obtain ⟨g,cap,w',I,C,D,F⟩:=iW (P:=P) w t l o.type e i z A b L r G O d p y u v n xs f k B m c;exact Lib.wp_append_run w s x t l H v _ J N _ _ I (h g cap w' C D F)
theorem jg (a b:Nat) (c:a<9223372036854775808) (d:b<9223372036854775808):bits .and .i64 (a:Int) (b:Int)=((a&&&b:Nat):Int):=by
 have e:a&&&b<2^63:=Nat.and_lt_two_pow _ (by omega);show IntKind.i64.wrap ((BitVec.ofInt 64 (a:Int)&&&BitVec.ofInt 64 (b:Int)).toNat:Int)=_
 rw [BitVec.toNat_and,ofInt_u64 a (by omega),ofInt_u64 b (by omega),IntKind.wrap_i64];omega
theorem jV (a b:Nat) (c:a<9223372036854775808) (d:b<9223372036854775808):bits .andNot .i64 (a:Int) (b:Int)=((a&&&(18446744073709551615-b):Nat):Int):=by
 have e:a&&&(18446744073709551615-b)<2^63:=Nat.lt_of_le_of_lt Nat.and_le_left (by omega);show IntKind.i64.wrap ((BitVec.ofInt 64 (a:Int)&&& ~~~BitVec.ofInt 64 (b:Int)).toNat:Int)=_
 rw [BitVec.toNat_and,BitVec.toNat_not,ofInt_u64 a (by omega),ofInt_u64 b (by omega),IntKind.wrap_i64];rw [show 2^64-1-b=18446744073709551615-b by omega];omega
def gF (f:Nat->Bool):Nat->Nat
 |0=>0
 |n+1=>gF f n|||(if f n then 2^n else 0)
def dh (f:Nat->Bool):Nat->Nat
 |0=>0
 |n+1=>dh f n+(if f n then 1 else 0)
def cF (f:Nat->Bool):Nat->Int
 |0=> -1
 |n+1=>if f n then (n:Int) else cF f n
def bH (f:Nat->Bool):Nat->Nat->Nat
 |a,0=>a
 |a,n+1=>if f a then a else bH f (a+1) n
theorem cz (f:Nat->Bool) (n j:Nat):(gF f n).testBit j=(decide (j<n)&&f j):=by
 induction n with
 |zero=>simp [gF]
 |succ n ih=>
  rw [gF,Nat.testBit_or,ih];by_cases b:j=n
  ·subst b;by_cases h:f j<;>simp [h,Nat.testBit_two_pow_self]
  ·by_cases h:f n
   ·simp only [h,if_true];rw [Nat.testBit_two_pow_of_ne (by omega)];by_cases a:j<n
    ·simp [a,show j<n+1 by omega]
    ·simp [a,show¬j<n+1 by omega]
   ·simp only [h];by_cases a:j<n
    ·simp [a,show j<n+1 by omega]
    ·simp [a,show¬j<n+1 by omega]
theorem yZ (f:Nat->Bool) (n:Nat):gF f n<2^n:=by
 apply Nat.lt_pow_two_of_testBit;intro i a;rw [cz];simp [show¬i<n by omega]
theorem ij (f:Nat->Bool) {n:Nat} (h:n<=64):gF f n<18446744073709551616:=
 Nat.lt_of_lt_of_le (yZ f n) (Nat.pow_le_pow_right (by decide) h)
theorem yO {x:Nat} {f:Nat->Bool} (b:x<18446744073709551616) (h:∀j,j<64->x.testBit j=f j):x=gF f 64:=by
 apply Nat.eq_of_testBit_eq;intro j;rw [cz];by_cases a:j<64
 ·simp [a,h j a]
 ·rw [Nat.testBit_lt_two_pow (Nat.lt_of_lt_of_le b (show 2^64<=2^j from Nat.pow_le_pow_right (by decide) (by omega)))];simp [a]
theorem jK {f g:Nat->Bool} {n:Nat} (h:∀j,j<n->f j=g j):dh f n=dh g n:=by
 induction n with
 |zero=>rfl
 |succ n ih=>rw [dh,dh,ih (fun j a=>h j (by omega)),h n (by omega)]
theorem sX {f g:Nat->Bool} {n:Nat} (h:∀j,j<n->f j=g j):gF f n=gF g n:=by
 induction n with
 |zero=>rfl
 |succ n ih=>rw [gF,gF,ih (fun j a=>h j (by omega)),h n (by omega)]
theorem nZ {f g:Nat->Bool} {n:Nat} (h:∀j,j<n->f j=g j):cF f n=cF g n:=by
 induction n with
 |zero=>rfl
 |succ n ih=>rw [cF,cF,ih (fun j a=>h j (by omega)),h n (by omega)]
theorem mh (f:Nat->Bool) (n:Nat):dh f n<=n:=by
 induction n with
 |zero=>exact Nat.le_refl _
 |succ n ih=>rw [dh];split<;>omega
theorem dt (k a b c d:Nat) (f:b<2^k) (g:d<2^k):(2^k*a+b)&&&(2^k*c+d)=2^k*(a&&&c)+(b&&&d):=by
 apply Nat.eq_of_testBit_eq;intro j;have e:b&&&d<2^k:=Nat.lt_of_le_of_lt Nat.and_le_left f;rw [Nat.testBit_and,Nat.testBit_two_pow_mul_add _ f,Nat.testBit_two_pow_mul_add _ g,Nat.testBit_two_pow_mul_add _ e];split<;>simp [Nat.testBit_and]
def bS (k m:Nat):Nat->Nat
 |0=>0
 |n+1=>2^k*bS k m n+m
def dW (k:Nat):Nat->Nat->Nat
 |0,_=>0
 |n+1,y=>y% 2^k+dW k n (y/2^k)
def cm (k b:Nat):Nat->Nat->Prop
 |0,y=>y=0
 |n+1,y=>y% 2^k<=b∧cm k b n (y/2^k)
theorem jM {k b:Nat}:∀{n y:Nat},cm k b n y->y<2^(k*n)
 |0,y,h=>by simp [cm] at h;simp [h]
 |n+1,y,h=>by
  have a:=jM h.2;rw [Nat.mul_succ,Nat.pow_add,Nat.mul_comm];exact Nat.lt_of_lt_of_le (Nat.lt_mul_of_div_lt a (Nat.two_pow_pos k)) (by rw [Nat.mul_comm];exact Nat.le_refl _)
theorem rW (x:Nat):∀n,dh (fun j=>x.testBit j) n=dW 1 n x:=by
 intro n
 induction n generalizing x with
 |zero=>rfl
 |succ n ih=>
  rw [dW,<-ih];have a:∀m,dh (fun j=>x.testBit j) (m+1)=x% 2+dh (fun j=>(x/2).testBit j) m:=by
   intro m
   induction m with
   |zero=>
    simp only [dh,Nat.zero_add,Nat.testBit_zero];by_cases h:x% 2=1
    ·simp [h]
    ·simp [show x% 2=0 by omega]
   |succ m ihm=>
    rw [dh,ihm,dh,Nat.testBit_succ,Nat.add_assoc]
  have:=a n
  simpa using this
theorem wj:∀(n x:Nat),x<2^(2*n)->dW 2 n ((x/2&&&bS 2 1 n)+(x&&&bS 2 1 n))=dW 1 (2*n) x∧cm 2 2 n ((x/2&&&bS 2 1 n)+(x&&&bS 2 1 n))
 |0,x,_=>by simp [bS,dW,cm]
 |n+1,x,hx=>by
  have c:x/4<2^(2*n):=by
   rw [Nat.mul_succ,Nat.pow_add] at hx;exact Nat.div_lt_of_lt_mul (by rw [Nat.mul_comm];exact hx)
  obtain ⟨a,b⟩:=wj n (x/4) c;have f:x/2&&&bS 2 1 (n+1)=4*((x/4)/2&&&bS 2 1 n)+(x/2% 2):=by
   have h:=dt 2 (x/2/4) (x/2% 4) (bS 2 1 n) 1 (Nat.mod_lt _ (by decide)) (by decide);rw [show 2^2*(x/2/4)+x/2% 4=x/2 by omega,show x/2/4=x/4/2 by omega,Nat.and_one_is_mod] at h;rw [bS,h];omega
  have g:x&&&bS 2 1 (n+1)=4*(x/4&&&bS 2 1 n)+x% 2:=by
   have h:=dt 2 (x/4) (x% 4) (bS 2 1 n) 1 (Nat.mod_lt _ (by decide)) (by decide);rw [show 2^2*(x/4)+x% 4=x by omega,Nat.and_one_is_mod] at h;rw [bS,h];omega
  rw [f,g];generalize (x/4)/2&&&bS 2 1 n=A at a b ⊢;generalize x/4&&&bS 2 1 n=B at a b ⊢;have d:(4*A+x/2% 2+(4*B+x% 2))/2^2=A+B:=by omega
  have e:(4*A+x/2% 2+(4*B+x% 2))% 2^2=x/2% 2+x% 2:=by omega
  refine ⟨?_,?_⟩
  ·rw [dW,d,e,a,show 2*(n+1)=2*n+1+1 by omega,dW,dW,Nat.div_div_eq_div_mul];simp only [Nat.pow_one,show 2*2=4 by rfl];omega
  ·rw [cm,d,e];exact ⟨by omega,b⟩
theorem wl:∀(n x:Nat),cm 2 2 (2*n) x->dW 4 n ((x/4&&&bS 4 3 n)+(x&&&bS 4 3 n))=dW 2 (2*n) x∧cm 4 4 n ((x/4&&&bS 4 3 n)+(x&&&bS 4 3 n))
 |0,x,_=>by simp [bS,dW,cm]
 |n+1,x,hx=>by
  rw [show 2*(n+1)=2*n+1+1 by omega,cm,cm,Nat.div_div_eq_div_mul] at hx;obtain ⟨g,c1,a⟩:=hx;simp only [Nat.reducePow,Nat.reduceMul] at g c1 a;obtain ⟨b,c⟩:=wl n (x/16) a;have d:∀z,z&&&3=z% 4:=fun z=>Nat.and_two_pow_sub_one_eq_mod z 2
  have i:x/4&&&bS 4 3 (n+1)=16*((x/16)/4&&&bS 4 3 n)+(x/4% 4):=by
   have h:=dt 4 (x/4/16) (x/4% 16) (bS 4 3 n) 3 (Nat.mod_lt _ (by decide)) (by decide);rw [show 2^4*(x/4/16)+x/4% 16=x/4 by omega,show x/4/16=x/16/4 by omega,d] at h;rw [bS,h];omega
  have j:x&&&bS 4 3 (n+1)=16*(x/16&&&bS 4 3 n)+x% 4:=by
   have h:=dt 4 (x/16) (x% 16) (bS 4 3 n) 3 (Nat.mod_lt _ (by decide)) (by decide);rw [show 2^4*(x/16)+x% 16=x by omega,d] at h;rw [bS,h];omega
  rw [i,j];generalize (x/16)/4&&&bS 4 3 n=A at b c ⊢;generalize x/16&&&bS 4 3 n=B at b c ⊢;have e:(16*A+x/4% 4+(16*B+x% 4))/2^4=A+B:=by omega
  have f:(16*A+x/4% 4+(16*B+x% 4))% 2^4=x/4% 4+x% 4:=by omega
  refine ⟨?_,?_⟩
  ·rw [dW,e,f,b,show 2*(n+1)=2*n+1+1 by omega,dW,dW,Nat.div_div_eq_div_mul];simp only [Nat.reducePow,Nat.reduceMul];omega
  ·rw [cm,e,f];exact ⟨by omega,c⟩
theorem wm:∀(n x:Nat),cm 4 4 (2*n) x->dW 8 n ((x/16+x)&&&bS 8 15 n)=dW 4 (2*n) x∧cm 8 8 n ((x/16+x)&&&bS 8 15 n)
 |0,x,_=>by simp [bS,dW,cm]
 |n+1,x,hx=>by
  rw [show 2*(n+1)=2*n+1+1 by omega,cm,cm,Nat.div_div_eq_div_mul] at hx;obtain ⟨g,c1,a⟩:=hx;simp only [Nat.reducePow,Nat.reduceMul] at g c1 a;obtain ⟨e,f⟩:=wm n (x/256) a;have i:x/256% 16<=4:=by
   cases n with
   |zero=>simp [cm] at a;omega
   |succ n=>
    rw [show 2*(n+1)=2*n+1+1 by omega,cm] at a
    simpa using a.1
  have b:∀z,z&&&15=z% 16:=fun z=>Nat.and_two_pow_sub_one_eq_mod z 4
  have h:(x/16+x)&&&bS 8 15 (n+1)=256*(((x/256)/16+x/256)&&&bS 8 15 n)+(x/16% 16+x% 16):=by
   have:=dt 8 ((x/256)/16+x/256) (16*(x/256% 16)+x% 256/16+x% 256) (bS 8 15 n) 15 (by omega) (by decide);rw [show x/16+x=2^8*((x/256)/16+x/256)+(16*(x/256% 16)+x% 256/16+x% 256) by omega,bS,this,b];omega
  rw [h];generalize ((x/256)/16+x/256)&&&bS 8 15 n=A at e f ⊢;have c:(256*A+(x/16% 16+x% 16))/2^8=A:=by omega
  have d:(256*A+(x/16% 16+x% 16))% 2^8=x/16% 16+x% 16:=by omega
  refine ⟨?_,?_⟩
  ·rw [dW,c,d,e,show 2*(n+1)=2*n+1+1 by omega,dW,dW,Nat.div_div_eq_div_mul];simp only [Nat.reducePow,Nat.reduceMul];omega
  ·rw [cm,c,d];exact ⟨by omega,f⟩
theorem zc (x:Nat) (h:cm 8 8 8 x):
  ((x/256+x)/65536+(x/256+x))<2^63∧x/256+x<2^63∧
  (((x/256+x)/65536+(x/256+x))/4294967296+((x/256+x)/65536+(x/256+x)))<2^63∧
  (((x/256+x)/65536+(x/256+x))/4294967296+((x/256+x)/65536+(x/256+x)))% 128=dW 8 8 x:=by
 simp only [cm,dW,Nat.reducePow] at h ⊢;obtain ⟨n,o,p,q,r,s,t,u,v⟩:=h;have e:x=256*(x/256)+x% 256:=by omega
 generalize x% 256=b0 at n e ⊢;generalize x/256=x1 at*;have f:x1=256*(x1/256)+x1% 256:=by omega
 generalize x1% 256=b1 at o f ⊢;generalize x1/256=x2 at*;have g:x2=256*(x2/256)+x2% 256:=by omega
 generalize x2% 256=b2 at p g ⊢;generalize x2/256=x3 at*;have i:x3=256*(x3/256)+x3% 256:=by omega
 generalize x3% 256=b3 at q i ⊢;generalize x3/256=x4 at*;have j:x4=256*(x4/256)+x4% 256:=by omega
 generalize x4% 256=b4 at r j ⊢;generalize x4/256=x5 at*;have k:x5=256*(x5/256)+x5% 256:=by omega
 generalize x5% 256=b5 at s k ⊢;generalize x5/256=x6 at*;have l:x6=256*(x6/256)+x6% 256:=by omega
 generalize x6% 256=b6 at t l ⊢;generalize x6/256=x7 at*;have m:x7=x7% 256:=by omega
 generalize x7% 256=b7 at u m ⊢;clear v;subst m;have a:x1=b1+256*b2+65536*b3+16777216*b4+4294967296*b5+1099511627776*b6+281474976710656*x7:=by omega
 have w:x=b0+256*b1+65536*b2+16777216*b3+4294967296*b4+1099511627776*b5+281474976710656*b6+72057594037927936*x7:=by omega
 clear e f g i j k l;have b:(x1+x)/65536=(b2+b3)+256*(b3+b4)+65536*(b4+b5)+16777216*(b5+b6)+4294967296*(b6+x7)+1099511627776*x7:=by omega
 have d:((x1+x)/65536+(x1+x))/4294967296=
   (b4+b5+b6+x7)+256*(b5+b6+x7)+65536*(b6+x7)+16777216*x7:=by rw [b];omega
 rw [d];rw [b];refine ⟨by omega,by omega,by omega,?_⟩;clear b d;obtain ⟨T,c⟩:∃T,T=(b4+b5+b6+x7)+256*(b5+b6+x7)+65536*(b6+x7)+16777216*x7+((b2+b3)+256*(b3+b4)+65536*(b4+b5)+16777216*(b5+b6)+4294967296*(b6+x7)+1099511627776*x7+(x1+x)):=⟨_,rfl⟩;obtain ⟨Q,y⟩:∃Q,T=(b0+b1+b2+b3+b4+b5+b6+x7)+256*Q:=⟨1*b1+257*b2+65793*b3+16843009*b4+4311810305*b5+1103823438081*b6+282578800148737*x7,by omega⟩;rw [<-c];clear c w a;omega
theorem vN (x:Nat) (u:x<18446744073709551616):
  let c:=(x/2&&&6148914691236517205)+(x&&&6148914691236517205)
  let a:=(c/4&&&3689348814741910323)+(c&&&3689348814741910323)
  let d:=(a/16+a)&&&1085102592571150095
  let f:=d/256+d
  let g:=f/65536+f
  let l:=g/4294967296+g
  c<18446744073709551616∧a<2^63∧d<18446744073709551616∧f<2^63∧g<2^63∧l<2^63∧l% 128=dh (fun j=>x.testBit j) 64:=by
 intro c a d f g l;obtain ⟨m,i⟩:=wj 32 x u;have A:bS 2 1 32=6148914691236517205:=by decide+kernel
 have B:bS 4 3 16=3689348814741910323:=by decide+kernel
 have C:bS 8 15 8=1085102592571150095:=by decide+kernel
 rw [A] at m i;obtain ⟨o,k⟩:=wl 16 c i;rw [B] at o k;obtain ⟨c1,c2⟩:=wm 8 a k;rw [C] at c1 c2;obtain ⟨p,q,r,s⟩:=zc d c2;have v:=jM i;have z:=jM c2;have w:a<2^63:=by
  have h:∀n y,cm 4 4 n y->15*y+4<=4*16^n:=by
   intro n
   induction n with
   |zero=>intro y b;simp [cm] at b;simp [b]
   |succ n ih=>
    intro y b;have:=ih _ b.2;have t:=b.1;rw [Nat.pow_succ];have D:1<=16^n:=Nat.one_le_pow _ _ (by decide);simp only [Nat.reducePow] at this t;omega
  have:=h 16 a k;have e:(16:Nat)^16=18446744073709551616:=by decide+kernel
  rw [e] at this;omega
 refine ⟨v,w,z,q,p,r,?_⟩;rw [rW];exact s.trans (c1.trans (o.trans m))
theorem gS {f g:Nat->Bool}:∀(n a:Nat),(∀j,a<=j->j<a+n->f j=g j)->bH f a n=bH g a n
 |0,_,_=>rfl
 |n+1,a,h=>by
  rw [bH,bH,h a (Nat.le_refl _) (by omega),gS n (a+1) (fun j b c=>h j (by omega) (by omega))]
theorem fm (a b:Nat) (x y:Int) (e:x=a) (f:y=b) (c:a<18446744073709551616) (d:b<18446744073709551616):bits .and .u64 x y=((a&&&b:Nat):Int):=by
 subst e;subst f;exact u64_and_nat a b c d
theorem vy (x:Nat) (c:x<18446744073709551616) (w:World):
  Calls Tryz.prog 275 #[.int .u64 x] w fun e w'=>e= .returned (.int .i64 (dh (fun j=>x.testBit j) 64:Nat))∧w=w':=by
 have a:=vN x c;dsimp only at a;generalize dh (fun j=>x.testBit j) 64=N at a ⊢;have d:=fm (x/2) 6148914691236517205 ((x:Int)/2) 6148914691236517205 (by omega) rfl (by omega) (by decide);have f:=fm x 6148914691236517205 (x:Int) 6148914691236517205 rfl rfl c (by decide);generalize x/2&&&6148914691236517205=A at a d;generalize x&&&6148914691236517205=B at a f;obtain ⟨q,r,s,t,u,v,b⟩:=a;have m:=fm ((A+B)/4) 3689348814741910323 (((A:Int)+B)/4) 3689348814741910323 (by omega) rfl (by omega) (by decide);have n:=fm (A+B) 3689348814741910323 ((A:Int)+B) 3689348814741910323 (by omega) rfl (by omega) (by decide);generalize (A+B)/4&&&3689348814741910323=C at*;generalize (A+B)&&&3689348814741910323=D at*;have o:=fm ((C+D)/16+(C+D)) 1085102592571150095 (((C:Int)+D)/16+(C+D)) 1085102592571150095 (by omega) rfl (by omega) (by decide);generalize ((C+D)/16+(C+D))&&&1085102592571150095=E at*;have p:bits .and .i64 ((E:Int)+E/256+((E:Int)+E/256)/65536+((E:Int)+E/256+((E:Int)+E/256)/65536)/4294967296) 127=N:=by
  have h:=jg (((E/256+E)/65536+(E/256+E))/4294967296+((E/256+E)/65536+(E/256+E))) 127 (by omega) (by decide);rw [show ((127:Nat):Int)=127 from rfl,Nat.and_two_pow_sub_one_eq_mod _ 7,show (2:Nat)^7=128 from rfl,b] at h;rw [<-h];have g:(E:Int)+E/256=((E/256+E:Nat):Int):=by omega
  rw [g];generalize E/256+E=F;have i:(F:Int)+F/65536=((F/65536+F:Nat):Int):=by omega
  rw [i];generalize F/65536+F=G;have k:(G:Int)+G/4294967296=((G/4294967296+G:Nat):Int):=by omega
  rw [k]
 have l:=ae b;clear b
 go_enter Tryz.func275,Tryz.ntmps275
 go_wp2;go_ret;exact ⟨rfl,rfl⟩
def dV (a b:Int) (j:Nat):Bool:=decide (a<=(j:Int))&&decide ((j:Int)<b)
def rq (x:Nat) (a b:Int) (j:Nat):Bool:=decide (a<=(j:Int))&&(decide ((j:Int)<b)&&x.testBit j)
def gU (x:Nat) (a:Int) (j:Nat):Bool:=decide (a<=(j:Int))&&x.testBit j
def fo (x:Nat) (b:Int) (j:Nat):Bool:=decide ((j:Int)<b)&&x.testBit j
theorem qw {x:Nat} (b:x<18446744073709551616) {j:Nat} (a:64<=j):x.testBit j=false:=
 Nat.testBit_lt_two_pow (Nat.lt_of_lt_of_le b (show 2^64<=2^j from Nat.pow_le_pow_right (by decide) a))
theorem xY (A B:Nat) (g:A<B) (i:B<=64):
  IntKind.u64.wrap (18446744073709551615/2^(64-B+A)*2^A)=((gF (fun j=>decide (A<=j)&&decide (j<B)) 64:Nat):Int):=by
 rw [show 64-B+A=64-(B-A) by omega];obtain ⟨d,h⟩:∃d,B-A=d:=⟨_,rfl⟩;rw [h];have c:(18446744073709551615:Nat)/2^(64-d)=2^d-1:=by
  have hp:2^d*2^(64-d)=18446744073709551616:=by rw [<-Nat.pow_add,show d+(64-d)=64 by omega]
  have a:0<2^d:=Nat.two_pow_pos d;have b:0<2^(64-d):=Nat.two_pow_pos _;apply Nat.div_eq_of_lt_le
  ·rw [Nat.sub_mul,hp];omega
  ·rw [Nat.sub_add_cancel a,Nat.mul_comm,Nat.mul_comm (2^(64-d)),hp];omega
 have e:(2^d-1)*2^A<18446744073709551616:=by
  have:2^d*2^A<=2^64:=by rw [<-Nat.pow_add];exact Nat.pow_le_pow_right (by decide) (by omega)
  have a:0<2^A:=Nat.two_pow_pos A;rw [Nat.sub_mul];omega
 have f:(18446744073709551615:Int)/2^(64-d)*2^A=(((2^d-1)*2^A:Nat):Int):=by
  rw [<-c];simp only [Int.natCast_mul,Int.natCast_ediv,Int.natCast_pow];rfl
 rw [f,IntKind.wrap_u64,<-yO e]
 ·omega
 ·intro j k;rw [Nat.testBit_mul_two_pow,Nat.testBit_two_pow_sub_one,Bool.eq_iff_iff];simp only [Bool.and_eq_true,decide_eq_true_eq];omega
theorem je {f:Nat->Bool}:∀{n a:Nat},(∀j,a<=j->j<a+n->f j=false)->bH f a n=a+n
 |0,_,_=>rfl
 |n+1,a,h=>by
  rw [bH,h a (Nat.le_refl _) (by omega)];simp only [Bool.false_eq_true,if_false];rw [je (fun j b c=>h j (by omega) (by omega))];omega
theorem li {f:Nat->Bool}:∀{n a p:Nat},a<=p->p<a+n->f p=true->(∀j,a<=j->j<p->f j=false)->bH f a n=p
 |0,a,p,h1,h2,_,_=>by omega
 |n+1,a,p,h1,h2,h3,h4=>by
  rw [bH];by_cases h:a=p
  ·subst h;rw [h3];rfl
  ·rw [h4 a (Nat.le_refl _) (by omega)];simp only [Bool.false_eq_true,if_false];exact li (by omega) (by omega) h3 (fun j c b=>h4 j (by omega) b)
theorem sq (x:Nat) (c:x<18446744073709551616) (d:x≠0):∃k m,k<64∧x=2^k*(2*m+1)∧bH (fun j=>x.testBit j) 0 64=k:=by
 obtain ⟨m,a,b⟩:=Lib.ctzFrom_spec 64 x (by omega) c;generalize Lib.ctzFrom 64 x=k at a b;refine ⟨k,m,b,a,li (Nat.zero_le _) (by omega) ?_ ?_⟩
 ·show x.testBit k=true
  rw [a,Nat.testBit_two_pow_mul];simp
 ·intro j _ e;show x.testBit j=false
  rw [a,Nat.testBit_two_pow_mul];simp;omega
theorem nl (x:Nat):∀n,x<2^n->cF (fun j=>x.testBit j) n=(Lib.bitLenAux n x:Int)-1:=by
 intro n
 induction n generalizing x with
 |zero=>intro h;simp [cF,Lib.bitLenAux]
 |succ n ih=>
  intro h;have a:x/2<2^n:=by rw [Nat.pow_succ] at h;omega
  have b:∀m,cF (fun j=>x.testBit j) (m+1)=if cF (fun j=>(x/2).testBit j) m= -1 then (if x% 2=1 then 0 else-1) else cF (fun j=>(x/2).testBit j) m+1:=by
   intro m
   induction m with
   |zero=>simp [cF]
   |succ m ihm=>
    have f:cF (fun j=>x.testBit j) (m+1+1)=if x.testBit (m+1) then ((m+1:Nat):Int) else cF (fun j=>x.testBit j) (m+1):=rfl
    have g:cF (fun j=>(x/2).testBit j) (m+1)=if (x/2).testBit m then (m:Int) else cF (fun j=>(x/2).testBit j) m:=rfl
    rw [f,g,Nat.testBit_succ];by_cases e:(x/2).testBit m
    ·simp only [e,if_true];rw [if_neg (by omega)];omega
    ·simp only [e,Bool.false_eq_true,if_false];exact ihm
  rw [b,ih _ a,Lib.bitLenAux];by_cases c:x=0
  ·subst c;have:Lib.bitLenAux n 0=0:=by cases n<;>simp [Lib.bitLenAux]
   simp [this]
  ·rw [if_neg c];by_cases d:x/2=0
   ·have i:x=1:=by omega
    rw [d];have:Lib.bitLenAux n 0=0:=by cases n<;>simp [Lib.bitLenAux]
    simp [this,i]
   ·have:0<Lib.bitLenAux n (x/2):=by
     cases n with
     |zero=>simp at a;omega
     |succ n=>rw [Lib.bitLenAux,if_neg d];omega
    rw [if_neg (by omega)];push_cast;omega
def aL (n:Int):Bool:=(List.range 63).any fun i=>n==2^i
theorem dn (n:Int):aL n=true↔∃i,i<63∧n=2^i:=by
 simp [aL]
theorem xU (n:Nat) (g:0<n) (l:n<9223372036854775808):(n&&&(n-1)=0)↔∃i,i<63∧n=2^i:=by
 constructor
 ·intro h;obtain ⟨m,a,b⟩:=Lib.ctzFrom_spec 63 n g l;generalize Lib.ctzFrom 63 n=k at a b;refine ⟨k,b,?_⟩;rcases Nat.eq_zero_or_pos m with d|d
  ·subst d;simpa using a
  ·exfalso;obtain ⟨p,hp⟩:∃p,m.testBit p=true:=Nat.exists_testBit_of_ne_zero (by omega);have e:n-1=2^k*(2*m)+(2^k-1):=by
    have f:0<2^k:=Nat.two_pow_pos k;rw [a,Nat.mul_add];omega
   have o:n.testBit (k+(p+1))=true:=by
    rw [a,Nat.testBit_two_pow_mul];simp only [show k<=k+(p+1) by omega,decide_true,Bool.true_and,show k+(p+1)-k=p+1 by omega];rw [Nat.testBit_succ,show (2*m+1)/2=m by omega];exact hp
   have q:(n-1).testBit (k+(p+1))=true:=by
    rw [e,Nat.testBit_two_pow_mul_add _ (by have:=Nat.two_pow_pos k;omega),if_neg (by omega),show k+(p+1)-k=p+1 by omega,Nat.testBit_succ,show 2*m/2=m by omega];exact hp
   have:=congrArg (fun z=>Nat.testBit z (k+(p+1))) h;simp [Nat.testBit_and,o,q] at this
 ·rintro ⟨i,r,rfl⟩;apply Nat.eq_of_testBit_eq;intro j;rw [Nat.testBit_and,Nat.testBit_two_pow_sub_one];by_cases c:i=j
  ·subst c;simp
  ·rw [Nat.testBit_two_pow_of_ne c];simp
theorem me (n k:Nat) (f:n<9223372036854775808) (d:k<=30):n&&&(18446744073709551615-(2^k-1))=n/2^k*2^k:=by
 apply Nat.eq_of_testBit_eq;intro j;have hp:2^k<=2^30:=Nat.pow_le_pow_right (by decide) d;have c:0<2^k:=Nat.two_pow_pos k;rw [Nat.testBit_and,Nat.testBit_mul_two_pow,Nat.testBit_div_two_pow];have e:18446744073709551615-(2^k-1)=2^64-((2^k-1)+1):=by omega
 rw [e,Nat.testBit_two_pow_sub_succ (by omega),Nat.testBit_two_pow_sub_one];by_cases b:k<=j
 ·simp only [b,decide_true,Bool.true_and,show j-k+k=j by omega,show¬j<k by omega,decide_false,Bool.not_false];by_cases a:j<64
  ·simp [a]
  ·rw [qw (show n<18446744073709551616 by omega) (by omega)];simp
 ·simp [b,show j<k by omega]
theorem mg (n:Int) (A:Nat) (c:min (max n 0) 64=(A:Int)) (w:World):
  Calls Tryz.prog 289 #[.int .i64 n] w fun e w'=>e= .returned (.int .i64 A)∧w=w':=by
 by_cases a:n<0
 ·have e:A=0:=by omega
  subst e
  go_enter Tryz.func289,Tryz.ntmps289
  go_wp2;go_ret;exact ⟨rfl,rfl⟩
 ·by_cases b:64<n
  ·have e:A=64:=by omega
   subst e
   go_enter Tryz.func289,Tryz.ntmps289
   go_wp2;go_ret;exact ⟨rfl,rfl⟩
  ·have e:n=A:=by omega
   subst e;have d:A<=64:=by omega
   clear a b c
   go_enter Tryz.func289,Tryz.ntmps289
   go_wp2;go_ret;exact ⟨congrArg (fun z=>Ending.returned (.int .i64 z)) (by omega:min (A:Int) 64=A),rfl⟩
theorem qV (n:Int):∃A:Nat,min (max n 0) 64=(A:Int)∧A<=64∧∀j:Nat,j<64->((n<=(j:Int))↔A<=j)∧(((j:Int)<n)↔j<A):=
 ⟨(min (max n 0) 64).toNat,by omega,by omega,fun j a=>⟨by omega,by omega⟩⟩
theorem ju (a b:Int) (w:World):
  Calls Tryz.prog 274 #[.int .i64 a,.int .i64 b] w fun e w'=>e= .returned (.int .u64 ((gF (dV a b) 64:Nat):Int))∧w=w':=by
 obtain ⟨A,i,r,g⟩:=qV a;obtain ⟨B,k,q,h⟩:=qV b;have d:=ae i;have f:=ae k;have hf:gF (dV a b) 64=gF (fun j=>decide (A<=j)&&decide (j<B)) 64:=sX (fun j l=>by
  unfold dV;rw [Bool.eq_iff_iff];simp only [Bool.and_eq_true,decide_eq_true_eq,(g j l).1,(h j l).2])
 rw [hf];clear i k g h hf;by_cases c:A<B
 ·have m:=xY A B c q;generalize p:gF (fun j=>decide (A<=j)&&decide (j<B)) 64=v at*;clear p;have n:=ae m;clear m
  go_enter Tryz.func274,Tryz.ntmps274
  go_wp2_with fail
  refine (mg a A d.out _).mono ?_;rintro e w' ⟨rfl,rfl⟩;go_wp2_with fail
  refine (mg b B f.out _).mono ?_;rintro e w' ⟨rfl,rfl⟩;go_wp2;go_ret;exact ⟨congrArg (fun z=>Ending.returned (.int .u64 z)) n.out,rfl⟩
 ·have o:gF (fun j=>decide (A<=j)&&decide (j<B)) 64=0:=by
   apply Nat.eq_of_testBit_eq;intro j;rw [cz,Nat.zero_testBit,Bool.eq_false_iff];simp only [ne_eq,Bool.and_eq_true,decide_eq_true_eq];omega
  rw [o]
  go_enter Tryz.func274,Tryz.ntmps274
  go_wp2_with fail
  refine (mg a A d.out _).mono ?_;rintro e w' ⟨rfl,rfl⟩;go_wp2_with fail
  refine (mg b B f.out _).mono ?_;rintro e w' ⟨rfl,rfl⟩;go_wp2;go_ret;exact ⟨rfl,rfl⟩
theorem iG (x:Nat) (h:x<18446744073709551616) (a b:Int) (w:World):
  Calls Tryz.prog 247 #[.int .u64 x,.int .i64 a,.int .i64 b] w fun e w'=>e= .returned (.int .i64 ((dh (rq x a b) 64:Nat):Int))∧w=w':=by
 have g:=ij (dV a b) (Nat.le_refl 64);have l:=u64_and_nat x (gF (dV a b) 64) h g;have c:x&&&gF (dV a b) 64<18446744073709551616:=Nat.lt_of_le_of_lt Nat.and_le_left h;have d:dh (rq x a b) 64=dh (fun j=>(x&&&gF (dV a b) 64).testBit j) 64:=jK (fun j k=>by
  rw [Nat.testBit_and,cz];unfold rq dV;simp only [k,decide_true,Bool.true_and]
  cases x.testBit j<;>simp)
 rw [d];have f:=ju a b w;generalize gF (dV a b) 64=v at*;generalize x&&&v=y at*;clear d g;have i:=ae f;clear f
 go_enter Tryz.func247,Tryz.ntmps247
 go_wp2_with fail
 refine (i.out).mono ?_;rintro e w' ⟨rfl,rfl⟩;go_wp2_with fail
 refine (vy y c _).mono ?_;rintro e w' ⟨rfl,rfl⟩;go_wp2;go_ret;exact ⟨rfl,rfl⟩
def yc:List Nat:=[0,1,56,2,57,49,28,3,61,58,42,50,38,29,17,4,62,47,59,36,45,43,51,22,53,39,33,30,24,18,12,5,63,55,48,27,60,41,37,16,46,35,44,21,52,32,23,11,54,26,40,15,34,20,31,10,25,14,19,9,13,8,7,6]
def bv (w:World):Prop:=∀(i k:Nat),yc[i]? =some k->w.cell? ⟨1,i,none⟩=some (.int .u8 k)
theorem zd:∀k,k<64->yc[2^k*285870213051353865% 18446744073709551616/288230376151711744]? =some k:=by decide+kernel
theorem zg (x k:Nat) (b:x<18446744073709551616) (m:Nat) (h:x=2^k*(2*m+1)):
  IntKind.u64.wrap (bits BinOp.and IntKind.u64 (x:Int) (IntKind.u64.wrap (-(x:Int)))*285870213051353865)/288230376151711744=((2^k*285870213051353865% 18446744073709551616/288230376151711744:Nat):Int):=by
 have a:0<x:=by rw [h];exact Nat.mul_pos (Nat.two_pow_pos k) (by omega)
 have c:IntKind.u64.wrap (-(x:Int))=((18446744073709551616-x:Nat):Int):=by rw [IntKind.wrap_u64];omega
 have d:x&&&(18446744073709551616-x)=2^k:=by
  have:=Lib.and_neg 64 k m (by rw [<-h];exact b);rw [<-h] at this;exact this
 rw [c,u64_and_nat x _ b (by omega),d,IntKind.wrap_u64];omega
theorem zR (x:Nat) (e:x<18446744073709551616) (f:x≠0):∃k bt:Nat,bH (fun j=>x.testBit j) 0 64=k∧k<64∧bt<64∧yc[bt]? =some k∧
  IntKind.u64.wrap (bits BinOp.and IntKind.u64 (x:Int) (IntKind.u64.wrap (-(x:Int)))*285870213051353865)/288230376151711744=(bt:Int):=by
 obtain ⟨k,m,d,b,hf⟩:=sq x e f;have c:=zd k d;have a:=(List.getElem?_eq_some_iff.1 c).1;exact ⟨k,_,hf,d,a,c,zg x k e m b⟩
theorem ye (x k bt:Nat) (w:World) (f:((x:Int)==0)=false) (d:k<64) (c:bt<64) (a:w.cell? ⟨1,bt,none⟩=some (.int .u8 k))
  (b:IntKind.u64.wrap (bits BinOp.and IntKind.u64 (x:Int) (IntKind.u64.wrap (-(x:Int)))*285870213051353865)/288230376151711744=(bt:Int)):
  Calls Tryz.prog 290 #[.int .u64 x] w fun e w'=>e= .returned (.int .i64 k)∧w=w':=by
 go_enter Tryz.func290,Tryz.ntmps290
 go_wp2_with (simp only [b])
 go_ret;exact ⟨rfl,rfl⟩
theorem yf (w:World):
  Calls Tryz.prog 290 #[.int .u64 0] w fun e w'=>e= .returned (.int .i64 64)∧w=w':=by
 go_enter Tryz.func290,Tryz.ntmps290
 go_wp2;go_ret;exact ⟨rfl,rfl⟩
theorem zf (x:Nat) (h:x<18446744073709551616) (w:World) (d:bv w):
  Calls Tryz.prog 290 #[.int .u64 x] w fun e w'=>e= .returned (.int .i64 ((bH (fun j=>x.testBit j) 0 64:Nat):Int))∧w=w':=by
 by_cases c:x=0
 ·subst c;rw [je (fun j _ _=>Nat.zero_testBit j)];exact yf w
 ·obtain ⟨k,bt,hf,g,a,f,b⟩:=zR x h c;rw [hf];exact ye x k bt w (by rw [beq_eq_false_iff_ne];omega) g a (d bt k f) b
theorem vm (x:Nat) (h:x<18446744073709551616) (a:Int) (w:World) (c:bv w):
  Calls Tryz.prog 281 #[.int .u64 x,.int .i64 a] w fun e w'=>e= .returned (.int .i64 ((bH (gU x a) 0 64:Nat):Int))∧w=w':=by
 have g:=ij (dV a 64) (Nat.le_refl 64);have l:=u64_and_nat x (gF (dV a 64) 64) h g;have b:x&&&gF (dV a 64) 64<18446744073709551616:=Nat.lt_of_le_of_lt Nat.and_le_left h;have d:bH (gU x a) 0 64=bH (fun j=>(x&&&gF (dV a 64) 64).testBit j) 0 64:=gS 64 0 (fun j _ m=>by
  rw [Nat.testBit_and,cz];unfold gU dV;simp only [show j<64 by omega,show (j:Int)<64 by omega,decide_true,Bool.true_and,Bool.and_true]
  cases x.testBit j<;>simp)
 rw [d];have f:=ju a 64 w;generalize gF (dV a 64) 64=v at*;generalize x&&&v=y at*;clear d g;have k:=ae f;clear f;have i:=ae c;clear c
 go_enter Tryz.func281,Tryz.ntmps281
 go_wp2_with fail
 refine (k.out).mono ?_;rintro e w' ⟨rfl,rfl⟩;go_wp2_with fail
 refine (zf y b _ i.out).mono ?_;rintro e w' ⟨rfl,rfl⟩;go_wp2;go_ret;exact ⟨rfl,rfl⟩
theorem u9 (x:Nat) (h:x<18446744073709551616) (b:Int) (w:World):
  Calls Tryz.prog 288 #[.int .u64 x,.int .i64 b] w fun e w'=>e= .returned (.int .i64 (cF (fo x b) 64))∧w=w':=by
 have g:=ij (dV 0 b) (Nat.le_refl 64);have o:=u64_and_nat x (gF (dV 0 b) 64) h g;have c:x&&&gF (dV 0 b) 64<18446744073709551616:=Nat.lt_of_le_of_lt Nat.and_le_left h;have d:cF (fo x b) 64=cF (fun j=>(x&&&gF (dV 0 b) 64).testBit j) 64:=nZ (fun j l=>by
  rw [Nat.testBit_and,cz];unfold fo dV;simp only [l,show (0:Int)<=(j:Int) by omega,decide_true,Bool.true_and]
  cases x.testBit j<;>simp)
 rw [d];have f:=ju 0 b w;generalize gF (dV 0 b) 64=v at*;generalize x&&&v=y at*;rw [nl y 64 c];clear d g;have k:=ae f;clear f;have a:=Tryz.bits_Len64 (y:Int) w (by omega) (by omega);rw [Int.toNat_natCast] at a;change Calls Tryz.prog 269 #[.int .u64 y] w (fun e w'=>e= .returned (.int .i64 (Lib.bitLenAux 64 y:Nat))∧w'=w) at a;have p:Lib.bitLenAux 64 y<=64:=by
  have:∀n z,Lib.bitLenAux n z<=n:=by
   intro n
   induction n with
   |zero=>intro z;simp [Lib.bitLenAux]
   |succ n ih=>intro z;rw [Lib.bitLenAux];split;omega;have:=ih (z/2);omega
  exact this 64 y
 generalize Lib.bitLenAux 64 y=n at*;have i:=ae a;clear a
 go_enter Tryz.func288,Tryz.ntmps288
 go_wp2_with fail
 refine (k.out).mono ?_;rintro e w' ⟨rfl,rfl⟩;go_wp2_with fail
 refine (i.out).mono ?_;rintro e w' ⟨rfl,m⟩;subst m;go_wp2;go_ret;exact ⟨rfl,rfl⟩
theorem tl (n:Int) (g:n<=9223372036854775807) (w:World):
  Calls Tryz.prog 235 #[.int .i64 n] w fun e w'=>e= .returned (.bool (aL n))∧w=w':=by
 by_cases d:n<=0
 ·have hp:aL n=false:=by
   rw [Bool.eq_false_iff,ne_eq,dn];rintro ⟨i,_,h⟩;have:(0:Int)<2^i:=Int.pow_pos (by decide);omega
  rw [hp]
  go_enter Tryz.func235,Tryz.ntmps235
  go_wp2;go_ret;exact ⟨rfl,rfl⟩
 ·obtain ⟨m,rfl⟩:=Int.eq_ofNat_of_zero_le (show 0<=n by omega);have c:0<m:=by omega
  have a:m<9223372036854775808:=by omega
  have hp:aL (m:Int)=((((m&&&(m-1):Nat):Int))==0):=by
   rw [Bool.eq_iff_iff,dn,beq_iff_eq,Int.natCast_eq_zero,xU m c a];constructor
   ·rintro ⟨i,b,h⟩;exact ⟨i,b,by
     have:((2^i:Nat):Int)=2^i:=by simp
     omega⟩
   ·rintro ⟨i,b,h⟩;exact ⟨i,b,by subst h;simp⟩
  have f:bits .and .i64 (m:Int) ((m:Int)-1)=((m&&&(m-1):Nat):Int):=by
   rw [show (m:Int)-1=((m-1:Nat):Int) by omega];exact jg m (m-1) a (by omega)
  rw [hp];generalize m&&&(m-1)=q at*;clear hp d
  go_enter Tryz.func235,Tryz.ntmps235
  go_wp2;go_ret;exact ⟨rfl,rfl⟩
end Go.Proofs.YthahbijbpinneaaGreatDoor
